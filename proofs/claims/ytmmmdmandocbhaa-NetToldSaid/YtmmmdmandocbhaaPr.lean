/- Helpers of this claim: an evaluator over plain values and its laws. -/
import Derived.Test.YtmmmdmandocbhaaPq
section
set_option linter.unusedVariables false
set_option linter.unusedSimpArgs false
namespace Go.Proofs.Ytmmmdmandocbhaa
open Go Go.Proofs.Ytmmmdmandocbhaa.Den
/-- An act. -/
structure Ac where
  kind : Int
  frm : Int
  to : Int
  time : Int
  lk : Lk
  body : List UInt8
  sides : Option (List Int)
abbrev sidesV (o : Option (List Int)) : Value := slV 1 (o.map fun l => l.map (Value.int .i64))
abbrev cellsA (x : Ac) : Array Value := #[.int .i64 x.kind, .int .i64 x.frm, .int .i64 x.to, .int .i64 x.time, .int .i64 x.lk.delay, .int .i64 x.lk.jitter, .int .i64 x.lk.loss, .int .i64 x.lk.dbl, .string (sB x.body), sidesV x.sides]
abbrev encA (x : Ac) : Value := .agg (cellsA x)
abbrev acts (o : Option (List Ac)) : Value := slV 10 (o.map (List.map encA))
theorem getD_mapA (o : Option (List Ac)) : (o.map (List.map encA)).getD [] = (o.getD []).map encA := by cases o <;> rfl
theorem getD_mapI (o : Option (List Int)) : ((o.map fun l => l.map (Value.int .i64)).getD []).length = (o.getD []).length := by cases o <;> simp
def heavy (x : Ac) : Bool := decide (100 < x.body.length) || decide (40 < (x.sides.getD []).length)
def lightW (l : List Ac) : Bool := !(l.any heavy) && decide (l.length ≤ 150)
theorem plainSides (o : Option (List Int)) : plain 2 (sidesV o) = true := plain_slMap (fun n => by simp [plain, constOk1]) o
theorem plainA1 (x : Ac) : plain 3 (encA x) = true := by
  have h : plain 2 (sidesV x.sides) = true := plainSides x.sides
  simp [plain, constOk1]
  exact h
theorem plainA (o : Option (List Ac)) : plain deep (acts o) = true := plain_of (d := 4) (plain_slMap plainA1 o) (by decide)
set_option maxRecDepth 100000 in
theorem light6 (o : Option (List Ac)) (hl : (o.getD []).length < 2 ^ 62) (H : World) (Q : Value → World → Prop) : FW X 6 #[acts o] H Q = Q (.bool (lightW (o.getD []))) H := by
  refine FW.aloneEq ?_ Try.func6 Try.ntmps6 rfl (by simp) ?_ H Q
  · simp [X, plainA]
  simp
  refine CE.range (m := (o.getD []).length) (fun k e H' => lk e 0 = acts o ∧ lk e 5 = acts o ∧ ((o.getD []).take k).any heavy = false) ?_ (by omega) ?_ ?_ ?_
  · decide
  · simp
  · rintro k e H' hk q1 q2 ⟨h0, h5, hn⟩
    have hany : ((o.getD []).take (k + 1)).any heavy = heavy (o.getD [])[k] := by rw [List.take_succ_eq_append_getElem hk, List.any_append, hn]; simp
    rw [hany]
    have hbad : heavy (o.getD [])[k] = true → lightW (o.getD []) = false := by
      intro h
      unfold lightW
      have : (o.getD []).any heavy = true := List.any_eq_true.2 ⟨_, List.getElem_mem hk, h⟩
      simp [this]
    simp [q1, q2, h0, h5, getD_mapA, idxV, hk, allocX, szO, overL]
    generalize (o.getD [])[k] = x at *
    have c1 : (100 : Int) < x.body.length ↔ 100 < x.body.length := by omega
    have c2 : (40 : Int) < (x.sides.getD []).length ↔ 40 < (x.sides.getD []).length := by omega
    have c3 := getD_mapI x.sides
    unfold heavy at hbad ⊢
    by_cases b1 : 100 < x.body.length
    · simp [c1, b1]
      simp [b1] at hbad
      simp [hbad]
    · by_cases b2 : 40 < (x.sides.getD []).length
      · simp [c1, c2, c3, b1, b2]
        simp [b2] at hbad
        simp [hbad]
      · simp [c1, c2, c3, b1, b2, q1, q2, h0, h5]
  · rintro e H' q1 q2 ⟨h0, h5, hn⟩
    rw [List.take_length] at hn
    simp [h0, lightW, hn]
    omega
end Go.Proofs.Ytmmmdmandocbhaa
end
