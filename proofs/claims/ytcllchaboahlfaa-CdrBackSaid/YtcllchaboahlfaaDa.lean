/- Helpers of this claim: an evaluator over plain values and its laws. -/
import Derived.Test.YtcllchaboahlfaaS
import Derived.KernelRfl
section
set_option linter.unusedVariables false
set_option linter.unusedSimpArgs false
namespace Go.Proofs.Ytcllchaboahlfaa
open Go Go.Proofs.Ytcllchaboahlfaa.Den
noncomputable def X : Cx := ⟨Try.prog, fun f => [9, 10, 21, 22, 23, 24, 39, 40, 58, 59, 79, 88, 90, 98, 103].contains f⟩
@[simp] theorem XP : X.P = Try.prog := rfl
theorem awake_run : ((Go.Proofs.Ytcllchaboahlfaa.Den.run X.P X.al 60 10 #[] World0).map fun r => match r.1 with | .bool b => b | _ => false) = some true := by kernel_rfl
theorem awake_eq (H : World) (Q : Value → World → Prop) : FW X 10 #[] H Q = Q (.bool true) H := by
  have h := awake_run
  simp only [Option.map_eq_some_iff] at h
  obtain ⟨⟨v, H0⟩, h1, h2⟩ := h
  cases v <;> simp at h2
  subst h2
  exact fw_ofRunAlone (by simp [X]) h1 H Q
/-! ### padding -/
def sizeW (n : Int) : Bool := decide (n = 1) || decide (n = 2) || decide (n = 4) || decide (n = 8)
theorem sizeW_iff {n : Int} : sizeW n = true ↔ n = 1 ∨ n = 2 ∨ n = 4 ∨ n = 8 := by simp [sizeW]; omega
def padW (place size : Int) : Int := (size - place.tmod size).tmod size
abbrev p0 (b : Nat) : Value := .pointer (some ⟨b, 0, none⟩)
set_option maxRecDepth 100000 in
theorem call99 (n : Int) (H : World) (Q : Value → World → Prop) : FW X 99 #[.int .i64 n] H Q = Q (.func (.func 100) #[] #[p0 H.heap.size]) (pushObj H (.cells #[.int .i64 n] 3 (0, 0))) := by
  refine FW.eqE (by simp [X]) Try.func99 Try.ntmps99 rfl (by simp) ?_ Q
  simp [szO]
set_option maxRecDepth 100000 in
theorem Size59 (n : Int) (H : World) (Q : Value → World → Prop) : FW X 59 #[.int .i64 n] H Q = Q (.bool (sizeW n)) H := by
  refine FW.aloneEq ?_ Try.func59 Try.ntmps59 rfl (by simp) ?_ H Q
  · simp [X]
  simp
  repeat' (first | refine gIf_dec (fun h => ?_) (fun h => ?_) | refine gIf_ndec (fun h => ?_) (fun h => ?_) | refine gIf_nb (fun h => ?_) (fun h => ?_) | (exfalso; omega; done) | (simp [*]; done) | (simp [sizeW, *]; done) | simp [*])
set_option maxRecDepth 100000 in
theorem call100 (place s : Int) {b : Nat} {H : World} (h : getO H b = some (.cells #[.int .i64 s] 3 (0, 0))) (hs : 0 < s ∧ s ≤ 8) (hp : 0 ≤ place ∧ place < 2 ^ 63) (Q : Value → World → Prop) : FW X 100 #[.int .i64 place, p0 b] H Q = Q (.int .i64 (padW place s)) H := by
  refine FW.eqE (by simp [X]) Try.func100 Try.ntmps100 rfl (by simp) ?_ Q
  have h1 : 0 ≤ place.tmod s := Int.tmod_nonneg _ (by omega)
  have h2 : place.tmod s < s := Int.tmod_lt_of_pos _ (by omega)
  have hw : IntKind.i64.wrap (s - place.tmod s) = s - place.tmod s := wrap64 (by omega) (by omega)
  have hs0 : ¬ s = 0 := by omega
  simp
  refine WP.draw0 (by decide +kernel) (by decide +kernel) ?_
  simp [h, hw, hs0, padW]
set_option maxRecDepth 100000 in
theorem sizes92 (H : World) {Q : Value → World → Prop} (hq : ∀ H', (∀ i o, getO H i = some o → getO H' i = some o) → ∀ a b c d : Nat, getO H' a = some (.cells #[.int .i64 1] 3 (0, 0)) → getO H' b = some (.cells #[.int .i64 2] 3 (0, 0)) → getO H' c = some (.cells #[.int .i64 4] 3 (0, 0)) → getO H' d = some (.cells #[.int .i64 8] 3 (0, 0)) →
    Q (.agg #[.nilFunc, .func (.func 100) #[] #[p0 a], .func (.func 100) #[] #[p0 b], .nilFunc, .func (.func 100) #[] #[p0 c], .nilFunc, .nilFunc, .nilFunc, .func (.func 100) #[] #[p0 d]]) H') : FW X 92 #[] H Q := by
  refine FW.walk (by simp [X]) Try.func92 Try.ntmps92 rfl (by simp) ?_
  simp [call99, szO, allocX, buildQ, fillX, Nat.add_assoc, Value.oneCell', overL, Value.cells]
  refine hq _ (fun i o hi => ?_) _ _ _ _ ?_ ?_ ?_ ?_
  · have := getO_lt hi
    simp [Nat.add_assoc]
    rw [if_neg (by omega), if_neg (by omega), if_neg (by omega), if_neg (by omega), if_neg (by omega), if_neg (by omega)]
    exact hi
  · simp [Nat.add_assoc]
  · simp [Nat.add_assoc]
  · simp [Nat.add_assoc]
  · simp [Nat.add_assoc]
def padOk (place size : Int) : Bool := decide (0 ≤ place) && sizeW size
theorem func_nil (b : Nat) {x y : Operand} {H : World} : binX Try.prog .eql 65 x y (.func (.func 100) #[] #[p0 b]) .nilFunc H = some (.value (.bool false), H) := bX_func_nil Try.underlying65
theorem nil_nil {x y : Operand} {H : World} : binX Try.prog .eql 65 x y .nilFunc .nilFunc H = some (.value (.bool true), H) := bX_nil_nil Try.underlying65
set_option maxRecDepth 100000 in
theorem padding58 (place size : Int) (hp : place < 2 ^ 63) (H : World) (Q : Value → World → Prop) : FW X 58 #[.int .i64 place, .int .i64 size] H Q = Q (.tuple #[.int .i64 (if padOk place size = true then padW place size else 0), .bool (padOk place size)]) H := by
  refine FW.aloneEq ?_ Try.func58 Try.ntmps58 rfl (by simp) ?_ H Q
  · simp [X]
  by_cases hb : size < 0 ∨ 8 < size ∨ place < 0
  · have h1 : padOk place size = false := by
      simp [padOk, sizeW]; omega
    simp [h1]
    repeat' (first | refine gIf_dec (fun h => ?_) (fun h => ?_) | refine gIf_ndec (fun h => ?_) (fun h => ?_) | (exfalso; omega; done) | (simp [*]; done) | simp [*])
  · obtain ⟨b1, b2, b3⟩ : ¬ size < 0 ∧ ¬ 8 < size ∧ ¬ place < 0 := by omega
    simp [b1, b2, b3]
    refine sizes92 _ fun H' hk a b c d ha hb2 hc hd => ?_
    have hp0 : 0 ≤ place := by omega
    have hs : size = 0 ∨ size = 1 ∨ size = 2 ∨ size = 3 ∨ size = 4 ∨ size = 5 ∨ size = 6 ∨ size = 7 ∨ size = 8 := by omega
    have h100 := fun (s : Int) (e : Nat) (he : getO H' e = some (.cells #[.int .i64 s] 3 (0, 0))) (h : 0 < s ∧ s ≤ 8) Q => call100 place s he h ⟨hp0, hp⟩ Q
    rcases hs with rfl | rfl | rfl | rfl | rfl | rfl | rfl | rfl | rfl
    all_goals simp [partQ, func_nil, nil_nil, padOk, sizeW, hp0, h100 1 a ha, h100 2 b hb2, h100 4 c hc, h100 8 d hd]
set_option maxRecDepth 100000 in
theorem Pad21 (place size : Int) (hp : place < 2 ^ 63) (H : World) (Q : Value → World → Prop) : FW X 21 #[.int .i64 place, .int .i64 size] H Q = Q (.tuple #[.int .i64 (if padOk place size = true then padW place size else 0), .int .i64 (if padOk place size = true then 0 else 7)]) H := by
  refine FW.aloneEq ?_ Try.func21 Try.ntmps21 rfl (by simp) ?_ H Q
  · simp [X]
  simp [padding58 place size hp]
  cases h : padOk place size <;> simp
set_option maxRecDepth 100000 in
theorem Pad22 (place size : Int) (hp : place < 2 ^ 63) (H : World) (Q : Value → World → Prop) : FW X 22 #[.int .i64 place, .int .i64 size] H Q = Q (.tuple #[.int .i64 (if padOk place size = true then padW place size else 0), .int .i64 (if padOk place size = true then 0 else 7)]) H := by
  refine FW.aloneEq ?_ Try.func22 Try.ntmps22 rfl (by simp) ?_ H Q
  · simp [X]
  simp [Size59]
  by_cases h0 : place < 0
  · have : padOk place size = false := by simp [padOk]; omega
    simp [h0, this]
  · simp [h0]
    cases h : sizeW size with
    | false =>
      have : padOk place size = false := by simp [padOk, h]
      simp [this, Size59, h]
    | true =>
      have h2 : padOk place size = true := by simp [padOk, h]; omega
      have hs := sizeW_iff.1 h
      have t1 : 0 ≤ place.tmod size := Int.tmod_nonneg _ (by omega)
      have t2 : place.tmod size < size := Int.tmod_lt_of_pos _ (by omega)
      have hw : IntKind.i64.wrap (size - place.tmod size) = size - place.tmod size := wrap64 (by omega) (by omega)
      have hs0 : ¬ size = 0 := by omega
      simp [h2, hw, hs0, padW, Size59, h]
end Go.Proofs.Ytcllchaboahlfaa
end
