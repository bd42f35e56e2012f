/- Helpers of this claim: an evaluator over plain values and its laws. -/
import Derived.Test.YtcllchaboahlfaaHc
section
set_option linter.unusedVariables false
set_option linter.unusedSimpArgs false
namespace Go.Proofs.Ytcllchaboahlfaa
open Go Go.Proofs.Ytcllchaboahlfaa.Den
/-! ### numbers come back -/
def lowN (n : Int) : Nat := (n % 18446744073709551616).toNat
theorem u64_wrap (n : Int) : IntKind.u64.wrap n = (lowN n : Int) := by
  unfold lowN IntKind.wrap
  simp [IntKind.bits, IntKind.signed]
  omega
theorem lowN_lt (n : Int) : lowN n < 2 ^ 64 := by unfold lowN; omega
theorem byteI_low (n : Int) {i : Nat} (h : i < 8) : byteI n i = ((lowN n / 2 ^ (8 * i) % 256 : Nat) : Int) := by
  unfold byteI
  rw [u64_wrap, Nat.min_eq_left (by omega)]
  have : ((lowN n : Int)).fdiv (2 ^ (8 * i)) = ((lowN n / 2 ^ (8 * i) : Nat) : Int) := by
    have h2 : (0 : Int) ≤ 2 ^ (8 * i) := Int.le_of_lt (Int.pow_pos (by decide))
    rw [Int.fdiv_eq_ediv_of_nonneg _ h2]
    have h3 : ((2 : Int) ^ (8 * i)) = ((2 ^ (8 * i) : Nat) : Int) := by simp
    rw [h3]
    exact (Int.natCast_ediv _ _).symm
  rw [this, wrapU8]
  omega
theorem byteN_low (n : Int) {i : Nat} (h : i < 8) : (byteN n i).toNat = lowN n / 2 ^ (8 * i) % 256 := by
  unfold byteN
  rw [byteI_low n h, Int.toNat_natCast, UInt8.toNat_ofNat']
  omega
theorem leV_low (n : Int) : ∀ k : Nat, k ≤ 8 → leV ((List.range k).map (byteN n)) = lowN n % 2 ^ (8 * k)
  | 0, _ => by simp [leV]; omega
  | k + 1, h => by
    rw [List.range_succ, List.map_append, leV_append, leV_low n k (by omega)]
    simp only [List.length_map, List.length_range, List.map_cons, List.map_nil, leV, Nat.mul_zero, Nat.add_zero]
    rw [byteN_low n (by omega), Nat.mul_add, Nat.mul_one, Nat.pow_add, Nat.mod_mul]
theorem lowF_num (n : Int) (size : Nat) (big : Bool) : lowF big (numL n size big) = (List.range size).map (byteN n) := by
  unfold lowF numL
  cases big with
  | false => simp [turn]
  | true =>
    rw [if_pos rfl]
    apply List.ext_getElem?
    intro i
    by_cases h : i < size
    · rw [List.getElem?_reverse (by simpa using h)]
      simp [turn, h, show size - 1 - i < size by omega]
      congr 1
      omega
    · rw [List.getElem?_eq_none (by simp; omega), List.getElem?_eq_none (by simp; omega)]
theorem sgn_num (n : Int) {size : Nat} (hs : size = 2 ∨ size = 4 ∨ size = 8) (big : Bool) (hb : numBad n size = false) (h1 : -9223372036854775808 ≤ n) (h2 : n < 9223372036854775808) : sgnW big (numL n size big) = n := by
  unfold sgnW
  rw [lowF_num, leV_low n size (by omega), numL_len]
  have hw : ∀ m : Int, IntKind.u64.wrap m = m % 18446744073709551616 := fun m => by simp [IntKind.wrap, IntKind.bits, IntKind.signed]
  have hi : ∀ m : Int, IntKind.i64.wrap m = if m % 18446744073709551616 < 9223372036854775808 then m % 18446744073709551616 else m % 18446744073709551616 - 18446744073709551616 := fun m => by simp [IntKind.wrap, IntKind.bits, IntKind.signed]; omega
  rcases hs with rfl | rfl | rfl
  · have hb1 : ¬ n < -bound 2 ∧ ¬ bound 2 ≤ n := by
      simp only [numBad, Bool.and_eq_false_iff, Bool.or_eq_false_iff, decide_eq_false_iff_not] at hb
      omega
    have hbd : bound 2 = 32768 := by decide
    rw [hbd] at hb1
    rw [hw, hi, Int.fdiv_eq_ediv_of_nonneg _ (by decide)]
    simp [lowN]
    omega
  · have hb1 : ¬ n < -bound 4 ∧ ¬ bound 4 ≤ n := by
      simp only [numBad, Bool.and_eq_false_iff, Bool.or_eq_false_iff, decide_eq_false_iff_not] at hb
      omega
    have hbd : bound 4 = 2147483648 := by decide
    rw [hbd] at hb1
    rw [hw, hi, Int.fdiv_eq_ediv_of_nonneg _ (by decide)]
    simp [lowN]
    omega
  · rw [hw, hi, Int.fdiv_eq_ediv_of_nonneg _ (by decide)]
    simp [lowN]
    omega
end Go.Proofs.Ytcllchaboahlfaa
end
