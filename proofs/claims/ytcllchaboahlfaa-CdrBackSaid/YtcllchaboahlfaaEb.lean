/- Helpers of this claim: an evaluator over plain values and its laws. -/
import Derived.Test.YtcllchaboahlfaaEa
section
set_option linter.unusedVariables false
set_option linter.unusedSimpArgs false
namespace Go.Proofs.Ytcllchaboahlfaa
open Go Go.Proofs.Ytcllchaboahlfaa.Den
/-! ### the bytes of a number -/
def byteI (n : Int) (i : Nat) : Int := IntKind.u8.wrap ((IntKind.u64.wrap n).fdiv (2 ^ (min (8 * i) 64)))
def byteN (n : Int) (i : Nat) : UInt8 := UInt8.ofNat (byteI n i).toNat
theorem wrapU8 (n : Int) : IntKind.u8.wrap n = n % 256 := by simp [IntKind.wrap, IntKind.bits, IntKind.signed]
theorem u8V_of (n : Int) : u8V (UInt8.ofNat (IntKind.u8.wrap n).toNat) = .int .u8 (IntKind.u8.wrap n) := by
  have h1 : 0 ≤ IntKind.u8.wrap n := by rw [wrapU8]; omega
  have h2 : IntKind.u8.wrap n < 256 := by rw [wrapU8]; omega
  simp only [u8V, UInt8.toNat_ofNat']
  congr 1; omega
theorem byte_val (n : Int) (i : Nat) : Value.int .u8 (IntKind.u8.wrap ((IntKind.u64.wrap n).fdiv (2 ^ (min (8 * i) 64)))) = u8V (byteN n i) := (u8V_of _).symm
def turn (size : Nat) (big : Bool) (i : Nat) : Nat := if big = true then size - 1 - i else i
def numL (n : Int) (size : Nat) (big : Bool) : List UInt8 := (List.range size).map fun i => byteN n (turn size big i)
@[simp] theorem numL_len (n : Int) (size : Nat) (big : Bool) : (numL n size big).length = size := by simp [numL]
theorem shr_byte (n : Int) (k : Nat) (hk : k < 8) {t : TypeId} {x y : Operand} {H : World} : binX Try.prog .shr t x y (.int .u64 (IntKind.u64.wrap n)) (.int .i64 (8 * (k : Int))) H = some (.value (.int .u64 ((IntKind.u64.wrap n).fdiv (2 ^ (8 * k)))), H) := by
  have := bX_shr (P := Try.prog) (t := t) (x := x) (y := y) (k := .u64) (l := .i64) (n := IntKind.u64.wrap n) (m := 8 * (k : Int)) (H := H) (by omega)
  have e : min (8 * (k : Int)).toNat IntKind.u64.bits = 8 * k := by
    have : IntKind.u64.bits = 64 := rfl
    rw [this]; omega
  rw [e] at this
  exact this
theorem byte_val' (n : Int) {i : Nat} (hi : i < 8) : Value.int .u8 (IntKind.u8.wrap ((IntKind.u64.wrap n).fdiv (2 ^ (8 * i)))) = u8V (byteN n i) := by
  have := byte_val n i
  rw [show min (8 * i) 64 = 8 * i by omega] at this
  exact this
theorem numL_get {n : Int} {size : Nat} {big : Bool} {i : Nat} (h : i < size) : (numL n size big)[i]? = some (byteN n (turn size big i)) := by simp [numL, h]
/-- The first i bytes are written. -/
def numR (n : Int) (size : Nat) (big : Bool) (i : Nat) : List UInt8 := (List.range size).map fun j => if turn size big j < i then byteN n (turn size big j) else 0
theorem numR_zero (n : Int) (size : Nat) (big : Bool) : numR n size big 0 = List.replicate size 0 := by
  apply List.ext_getElem?
  intro j
  by_cases h : j < size <;> simp [numR, h]
theorem numR_all (n : Int) (size : Nat) (big : Bool) : numR n size big size = numL n size big := by
  unfold numR numL
  apply List.map_congr_left
  intro j hj
  rw [List.mem_range] at hj
  rw [if_pos (by unfold turn; split <;> omega)]
theorem numR_set {n : Int} {size : Nat} {big : Bool} {i : Nat} (hi : i < size) : (numR n size big i).set (turn size big i) (byteN n i) = numR n size big (i + 1) := by
  apply List.ext_getElem?
  intro j
  have ht : turn size big i < size := by unfold turn; split <;> omega
  have hl : (numR n size big i).length = size := by simp [numR]
  rw [List.getElem?_set]
  by_cases hj : j < size
  · have e1 : ∀ k, (numR n size big k)[j]? = some (if turn size big j < k then byteN n (turn size big j) else 0) := fun k => by simp [numR, hj]
    rw [e1, e1]
    by_cases h : turn size big i = j
    · have h2 : turn size big j = i := by rw [← h]; unfold turn; split <;> omega
      rw [if_pos h, if_pos (by omega), h2, if_pos (by omega)]
    · rw [if_neg h]
      have h2 : turn size big j ≠ i := fun e => h (by rw [← e]; unfold turn; split <;> omega)
      congr 1
      by_cases h3 : turn size big j < i
      · rw [if_pos h3, if_pos (by omega)]
      · rw [if_neg h3, if_neg (by omega)]
  · rw [if_neg (by omega)]
    rw [List.getElem?_eq_none (by omega), List.getElem?_eq_none (by simp [numR]; omega)]
set_option maxRecDepth 100000 in
theorem Number90 (n : Int) (size : Nat) (big : Bool) (hs : 1 ≤ size ∧ size ≤ 8) (H : World) (Q : Value → World → Prop) : FW X 90 #[.int .i64 n, .int .i64 size, .bool big] H Q = Q (.string (sB (numL n size big))) H := by
  refine FW.aloneEq ?_ Try.func90 Try.ntmps90 rfl (by simp) ?_ H Q
  · simp [X, plainDI, plainDB]
  have hLI : (size : Int) ≤ 4294967296 := by omega
  simp [makeSliceX, hLI, szO]
  refine CE.range (m := size) (fun k e H' => lk e 0 = .int .i64 n ∧ lk e 1 = .int .i64 size ∧ lk e 2 = .bool big ∧ lk e 7 = sliceA 0 0 size size ∧ getO H' 0 = some (rowB (numR n size big k) (0, 0))) ?_ (by omega) ?_ ?_ ?_
  · decide
  · simp [numR_zero, zerosX_one]
  · rintro k e H' hk h1 h2 ⟨h3, h4, h5, h6, h7⟩
    have w1 : IntKind.i64.wrap ((size : Int) - 1) = (size : Int) - 1 := wrap64' (by omega) (by omega)
    have w2 : IntKind.i64.wrap ((size : Int) - 1 - (k : Int)) = ((size - 1 - k : Nat) : Int) := by rw [wrap64' (by omega) (by omega)]; omega
    have w3 : IntKind.i64.wrap (8 * (k : Int)) = 8 * (k : Int) := wrap64' (by omega) (by omega)
    have l0 := getO_lt h7
    have hl : (numR n size big k).length = size := by simp [numR]
    have hset := numR_set (n := n) (big := big) hk
    have hbv := byte_val' n (i := k) (by omega)
    have hsh := fun {t x y H} => shr_byte n k (by omega) (t := t) (x := x) (y := y) (H := H)
    cases big with
    | false =>
      have hk1 : k + 1 ≤ size := hk
      simp [h1, h2, h3, h4, h5, h6, h7, w3, hsh, hbv, hk, l0, hl, hk1, overL]
      rw [← hset, List.map_set]; rfl
    | true =>
      obtain ⟨j, hj⟩ : ∃ j, j = size - 1 - k := ⟨_, rfl⟩
      rw [← hj] at w2
      have hj1 : j < size := by omega
      have hj2 : j + 1 ≤ size := hj1
      simp [h1, h2, h3, h4, h5, h6, h7, w1, w2, w3, hsh, hbv, hj1, l0, hl, hj2, overL]
      rw [← hset, List.map_set, hj]; rfl
  · rintro e H' h1 h2 ⟨h3, h4, h5, h6, h7⟩
    rw [numR_all] at h7
    have hcv : convX Try.prog 57 9 (sliceA 0 0 size size) H' = some (.value (.string (sB (numL n size big))), H') := by
      have := conv_row (P := Try.prog) (src := 57) (dst := 9) (r := 0) (c := size) (fr := (0, 0)) (bs := numL n size big) (H := H') Try.underlying57 Try.underlying5 Try.underlying9 h7
      rw [numL_len] at this
      exact this
    simp [h6, hcv]
/-! ### the shifts -/
set_option maxRecDepth 100000 in
theorem shifts57 (big : Bool) (at' size : Int) (H : World) (Q : Value → World → Prop) : FW X 57 #[.agg #[.bool big, .int .i64 at'], .int .i64 size] H Q = Q (.func (.func 91) #[] #[p0 (H.heap.size + 1), p0 H.heap.size]) (pushObj (pushObj H (.cells #[.bool big, .int .i64 at'] 61 (0, 0))) (.cells #[.int .i64 size] 3 (0, 0))) := by
  refine FW.eqE (by simp [X]) Try.func57 Try.ntmps57 rfl (by simp) ?_ Q
  simp [szO, allocX]
set_option maxRecDepth 100000 in
theorem shifts91 {r1 r2 l : Nat} {big : Bool} {at' : Int} {size : Nat} (hs : 1 ≤ size ∧ size ≤ 8) (S : Nat → World → Prop)
    (hb : ∀ i H, S i H → getO H r1 = some (.cells #[.int .i64 size] 3 (0, 0)) ∧ getO H r2 = some (.cells #[.bool big, .int .i64 at'] 61 (0, 0)))
    (hstep : ∀ i H, S i H → i < size → yieldW X l #[.int .i64 i, .int .i64 (8 * ((turn size big i : Nat) : Int))] H fun v H' => v = .bool true ∧ S (i + 1) H')
    (H : World) (h0 : S 0 H) : FW X 91 #[.func (.yield l) #[] #[], p0 r1, p0 r2] H fun v H' => S size H' := by
  refine FW.walk (by simp [X]) Try.func91 Try.ntmps91 rfl (by simp) ?_
  obtain ⟨g1, g2⟩ := hb 0 H h0
  simp [g1]
  refine CE.range (m := size) (fun k e H' => lk e 0 = .func (.yield l) #[] #[] ∧ lk e 1 = p0 r1 ∧ lk e 2 = p0 r2 ∧ S k H') ?_ (by omega) ?_ ?_ ?_
  · decide
  · simp [h0]
  · rintro k e H' hk h1 h2 ⟨h3, h4, h5, hS⟩
    obtain ⟨g1, g2⟩ := hb k H' hS
    have w1 : IntKind.i64.wrap ((size : Int) - 1) = (size : Int) - 1 := wrap64' (by omega) (by omega)
    obtain ⟨j, hj⟩ : ∃ j, j = size - 1 - k := ⟨_, rfl⟩
    have w2 : IntKind.i64.wrap ((size : Int) - 1 - (k : Int)) = (j : Int) := by rw [wrap64' (by omega) (by omega)]; omega
    have w3 : IntKind.i64.wrap (8 * (k : Int)) = 8 * (k : Int) := wrap64' (by omega) (by omega)
    have w4 : IntKind.i64.wrap (8 * (j : Int)) = 8 * (j : Int) := wrap64' (by omega) (by omega)
    have hst := hstep k H' hS hk
    cases big with
    | false =>
      have ht : turn size false k = k := rfl
      rw [ht] at hst
      simp [h1, h2, h3, h4, h5, g1, g2, w3]
      refine yieldW.imp hst fun v H2 ⟨hv, hS2⟩ => ?_
      subst hv
      simp [h1, h2, h3, h4, h5, hS2]
    | true =>
      have ht : turn size true k = j := by rw [hj]; rfl
      rw [ht] at hst
      simp [h1, h2, h3, h4, h5, g1, g2, w1, w2, w4]
      refine yieldW.imp hst fun v H2 ⟨hv, hS2⟩ => ?_
      subst hv
      simp [h1, h2, h3, h4, h5, hS2]
  · rintro e H' h1 h2 ⟨h3, h4, h5, hS⟩
    simp [hS]
end Go.Proofs.Ytcllchaboahlfaa
end
