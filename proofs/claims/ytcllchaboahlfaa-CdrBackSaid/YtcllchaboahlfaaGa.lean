/- Helpers of this claim: an evaluator over plain values and its laws. -/
import Derived.Test.YtcllchaboahlfaaFa
section
set_option linter.unusedVariables false
set_option linter.unusedSimpArgs false
namespace Go.Proofs.Ytcllchaboahlfaa
open Go Go.Proofs.Ytcllchaboahlfaa.Den
/-! ### the number that bytes tell -/
def leV : List UInt8 → Nat
  | [] => 0
  | b :: l => b.toNat + 256 * leV l
theorem leV_lt : ∀ l : List UInt8, leV l < 2 ^ (8 * l.length)
  | [] => by simp [leV]
  | b :: l => by
    have h1 := leV_lt l
    have h2 := b.toNat_lt
    unfold leV
    rw [List.length_cons, Nat.mul_add, Nat.pow_add, Nat.mul_comm (2 ^ (8 * l.length))]
    omega
theorem leV_append : ∀ (l m : List UInt8), leV (l ++ m) = leV l + 2 ^ (8 * l.length) * leV m
  | [], m => by simp [leV]
  | b :: l, m => by
    show b.toNat + 256 * leV (l ++ m) = b.toNat + 256 * leV l + 2 ^ (8 * (l.length + 1)) * leV m
    rw [leV_append l m, show 8 * (l.length + 1) = 8 * l.length + 8 by omega, Nat.pow_add]
    rw [Nat.mul_add, ← Nat.mul_assoc, Nat.mul_comm 256 (2 ^ _), show (2 : Nat) ^ 8 = 256 from rfl]
    omega
theorem or_add {x b i : Nat} (hx : x < 2 ^ i) : x ||| (b * 2 ^ i) = x + b * 2 ^ i := by
  have := Nat.shiftLeft_add_eq_or_of_lt hx b
  rw [Nat.shiftLeft_eq] at this
  rw [Nat.or_comm, ← this, Nat.add_comm]
theorem wrap_u64 {n : Nat} (h : n < 2 ^ 64) : IntKind.u64.wrap (n : Int) = (n : Int) := by
  simp [IntKind.wrap, IntKind.bits, IntKind.signed]
  omega
theorem or_u64 {a b : Nat} (ha : a < 2 ^ 64) (hb : b < 2 ^ 64) : IntKind.u64.wrap (BitVec.ofInt IntKind.u64.bits (a : Int) ||| BitVec.ofInt IntKind.u64.bits (b : Int)).toNat = ((a ||| b : Nat) : Int) := by
  have e : ∀ n : Nat, n < 2 ^ 64 → (BitVec.ofInt IntKind.u64.bits (n : Int)).toNat = n := fun n hn => by
    rw [BitVec.ofInt_natCast]
    exact Nat.mod_eq_of_lt hn
  rw [BitVec.toNat_or, e a ha, e b hb, wrap_u64 (Nat.or_lt_two_pow ha hb)]
/-- The bytes in the order of a reader, the low one first. -/
def lowF (big : Bool) (bs : List UInt8) : List UInt8 := if big = true then bs.reverse else bs
theorem lowF_len (big : Bool) (bs : List UInt8) : (lowF big bs).length = bs.length := by unfold lowF; split <;> simp
def sgnW (big : Bool) (bs : List UInt8) : Int := (IntKind.i64.wrap (IntKind.u64.wrap ((leV (lowF big bs) : Int) * 2 ^ (64 - 8 * bs.length)))).fdiv (2 ^ (64 - 8 * bs.length))
/-- What has been gathered from the first i bytes, in the order of the shifts. -/
def gatV (big : Bool) (bs : List UInt8) (i : Nat) : Nat := if big = true then leV (bs.take i).reverse * 2 ^ (8 * (bs.length - i)) else leV (bs.take i)
theorem gatV_zero (big : Bool) (bs : List UInt8) : gatV big bs 0 = 0 := by unfold gatV; split <;> simp [leV]
theorem gatV_all (big : Bool) (bs : List UInt8) : gatV big bs bs.length = leV (lowF big bs) := by
  unfold gatV lowF
  split <;> simp
theorem gatV_lt {big : Bool} {bs : List UInt8} {i : Nat} (hi : i ≤ bs.length) : gatV big bs i < 2 ^ (8 * bs.length) := by
  unfold gatV
  split
  · have := leV_lt (bs.take i).reverse
    rw [List.length_reverse, List.length_take, Nat.min_eq_left hi] at this
    have e : 2 ^ (8 * bs.length) = 2 ^ (8 * i) * 2 ^ (8 * (bs.length - i)) := by rw [← Nat.pow_add]; congr 1; omega
    rw [e]
    exact Nat.mul_lt_mul_of_pos_right this (Nat.two_pow_pos _)
  · have := leV_lt (bs.take i)
    rw [List.length_take, Nat.min_eq_left hi] at this
    exact Nat.lt_of_lt_of_le this (Nat.pow_le_pow_right (by decide) (by omega))
theorem gatV_step {big : Bool} {bs : List UInt8} {i : Nat} (hi : i < bs.length) : gatV big bs i ||| (bs[i].toNat * 2 ^ (8 * turn bs.length big i)) = gatV big bs (i + 1) := by
  have hb := bs[i].toNat_lt
  have ht : bs.take (i + 1) = bs.take i ++ [bs[i]] := List.take_succ_eq_append_getElem hi
  cases big with
  | false =>
    show leV (bs.take i) ||| (bs[i].toNat * 2 ^ (8 * i)) = leV (bs.take (i + 1))
    have h1 := leV_lt (bs.take i)
    rw [List.length_take, Nat.min_eq_left (by omega)] at h1
    rw [or_add h1, ht, leV_append, List.length_take, Nat.min_eq_left (by omega)]
    simp only [leV, Nat.mul_zero, Nat.add_zero]
    rw [Nat.mul_comm]
  | true =>
    show leV (bs.take i).reverse * 2 ^ (8 * (bs.length - i)) ||| (bs[i].toNat * 2 ^ (8 * (bs.length - 1 - i))) = leV (bs.take (i + 1)).reverse * 2 ^ (8 * (bs.length - (i + 1)))
    have e1 : 8 * (bs.length - i) = 8 * (bs.length - 1 - i) + 8 := by omega
    have e2 : bs.length - (i + 1) = bs.length - 1 - i := by omega
    have hlt : bs[i].toNat * 2 ^ (8 * (bs.length - 1 - i)) < 2 ^ (8 * (bs.length - i)) := by
      rw [e1, Nat.pow_add, Nat.mul_comm]
      exact Nat.mul_lt_mul_of_pos_left hb (Nat.two_pow_pos _)
    rw [Nat.or_comm, or_add hlt, ht, List.reverse_append, e2, e1, Nat.pow_add]
    show _ = (bs[i].toNat + 256 * leV (bs.take i).reverse) * _
    rw [Nat.add_mul, show (2 : Nat) ^ 8 = 256 from rfl, Nat.mul_comm (2 ^ _) 256, ← Nat.mul_assoc, Nat.mul_comm (leV _) 256]
/-- What the reference has gathered: from the top. -/
def topV (big : Bool) (bs : List UInt8) (i : Nat) : Nat := if big = true then leV (bs.take i).reverse else leV (bs.drop (bs.length - i))
theorem topV_zero (big : Bool) (bs : List UInt8) : topV big bs 0 = 0 := by unfold topV; split <;> simp [leV]
theorem topV_all (big : Bool) (bs : List UInt8) : topV big bs bs.length = leV (lowF big bs) := by
  unfold topV lowF
  split <;> simp
theorem topV_lt {big : Bool} {bs : List UInt8} {i : Nat} (hi : i ≤ bs.length) : topV big bs i < 2 ^ (8 * i) := by
  unfold topV
  split
  · have := leV_lt (bs.take i).reverse
    rwa [List.length_reverse, List.length_take, Nat.min_eq_left hi] at this
  · have := leV_lt (bs.drop (bs.length - i))
    rwa [List.length_drop, show bs.length - (bs.length - i) = i by omega] at this
theorem topV_step {big : Bool} {bs : List UInt8} {i : Nat} (hi : i < bs.length) (j : Nat) (hj : j = if big = true then i else bs.length - 1 - i) (hjl : j < bs.length) : (topV big bs i * 256) ||| bs[j].toNat = topV big bs (i + 1) := by
  have hb := bs[j].toNat_lt
  have ho : (topV big bs i * 256) ||| bs[j].toNat = bs[j].toNat + topV big bs i * 2 ^ 8 := by
    rw [Nat.or_comm]
    exact or_add (i := 8) hb
  rw [ho]
  cases big with
  | true =>
    simp only [if_true] at hj
    subst hj
    show _ + leV (bs.take j).reverse * 2 ^ 8 = leV (bs.take (j + 1)).reverse
    rw [List.take_succ_eq_append_getElem hjl, List.reverse_append]
    show _ = bs[j].toNat + 256 * leV (bs.take j).reverse
    omega
  | false =>
    simp only [Bool.false_eq_true, if_false] at hj
    show _ + leV (bs.drop (bs.length - i)) * 2 ^ 8 = leV (bs.drop (bs.length - (i + 1)))
    have e : bs.length - (i + 1) = j := by omega
    have e2 : bs.length - i = j + 1 := by omega
    rw [e, e2, List.drop_eq_getElem_cons hjl]
    show _ = bs[j].toNat + 256 * leV (bs.drop (j + 1))
    omega
end Go.Proofs.Ytcllchaboahlfaa
end
