/- Helpers of this claim: an evaluator over plain values and its laws. -/
import Derived.Test.YtjecafhbhcjoaaaRa
section
set_option linter.unusedVariables false
set_option linter.unusedSimpArgs false
namespace Go.Proofs.Ytjecafhbhcjoaaa
open Go Go.Proofs.Ytjecafhbhcjoaaa.Den
set_option maxRecDepth 100000 in
theorem eqL (y : Le) (a b : Operand) (H : World) : binX Try.prog .eql 38 a b (encL y) (encL y) H = some (.value (.bool true), H) := by
  unfold encL
  refine (binV_struct Try.underlying38 Try.stoodInHeld38 (by decide +kernel) (by simp [flat1]) (by simp [flat1]) ?_).1
  simp [eqFs, eqV, sB_beq]
set_option maxRecDepth 100000 in
theorem neqR (y : Rp) (a b : Operand) (H : World) : binX Try.prog .neq 50 a b (encR y) (encR y) H = some (.value (.bool false), H) := by
  refine (binV_struct (r := true) Try.underlying50 Try.stoodInHeld50 (by decide +kernel) (by simp [flat1]) (by simp [flat1]) ?_).2
  simp [eqFs, eqV, sB_beq]
set_option maxRecDepth 100000 in
theorem SameI (o : Option (List Int)) (hl : (o.getD []).length < 2 ^ 62) (H : World) (Q : Value → World → Prop) : FW X 24 #[ints o, ints o] H Q = Q (.bool true) H := by
  refine FW.aloneEq ?_ Try.func24 Try.ntmps24 rfl (by simp) ?_ H Q
  · simp [X, plainI]
  simp
  refine CE.range (m := (o.getD []).length) (fun k e H' => lk e 0 = ints o ∧ lk e 1 = ints o) ?_ (by omega) ?_ ?_ ?_
  · decide
  · simp
  · rintro k e H' hk q1 q2 ⟨h0, h1⟩
    simp [q1, q2, h0, h1]
    refine WP.draw0 (by decide +kernel) (by decide +kernel) ?_
    simp [q1, q2, h0, h1, getD_mapI, idxV, hk]
  · rintro e H' q1 q2 ⟨h0, h1⟩
    simp
abbrev reps (o : Option (List Rp)) : Value := slV 3 (o.map (List.map encR))
theorem plainR (o : Option (List Rp)) : plain deep (reps o) = true := plain_of (d := 2) (plain_slMap (fun n => by simp [plain, constOk1]) o) (by decide)
theorem getD_mapR (o : Option (List Rp)) : (o.map (List.map encR)).getD [] = (o.getD []).map encR := by cases o <;> rfl
set_option maxRecDepth 100000 in
theorem SameR (o : Option (List Rp)) (hl : (o.getD []).length < 2 ^ 62) (H : World) (Q : Value → World → Prop) : FW X 51 #[reps o, reps o] H Q = Q (.bool true) H := by
  refine FW.aloneEq ?_ Try.func51 Try.ntmps51 rfl (by simp) ?_ H Q
  · simp [X, plainR]
  simp
  refine CE.range (m := (o.getD []).length) (fun k e H' => lk e 0 = reps o ∧ lk e 1 = reps o) ?_ (by omega) ?_ ?_ ?_
  · decide
  · simp
  · rintro k e H' hk q1 q2 ⟨h0, h1⟩
    simp [q1, q2, h0, h1]
    refine WP.draw0 (by decide +kernel) (by decide +kernel) ?_
    simp [q1, q2, h0, h1, getD_mapR, idxV, hk, neqR]
  · rintro e H' q1 q2 ⟨h0, h1⟩
    simp
def optE {α : Type} (xs : List α) : Option (List α) := if xs = [] then none else some xs
theorem optE_get {α : Type} (xs : List α) : (optE xs).getD [] = xs := by unfold optE; split <;> simp_all
theorem flatI : ∀ xs : List Int, ((xs.map (Value.int .i64)).flatMap fun v => v.cells.toList) = xs.map (Value.int .i64)
  | [] => rfl
  | x :: xs => by rw [List.map_cons, List.flatMap_cons, flatI xs]; rfl
set_option maxRecDepth 100000 in
theorem stripI {H : World} {v : Value} {xs : List Int} (h : AccI H v xs) : strip 12 Try.prog H v = some (ints (optE xs)) := by
  have hc := flatI xs
  unfold AccI at h
  rw [hc] at h
  rw [Acc.strip_one (P := Try.prog) (d := 11) (xs := xs) (enc := Value.int .i64) h Try.underlying3 rfl Try.type3 (by simp) (fun x => ⟨by simp, rfl⟩)]
  unfold optE ints
  split <;> rfl
set_option maxRecDepth 100000 in
theorem stripR {H : World} {v : Value} {xs : List Rp} (h : AccR H v xs) : strip 12 Try.prog H v = some (reps (optE xs)) := by
  rw [Acc.strip_agg (P := Try.prog) (d := 11) (xs := xs) (enc := encR) h Try.underlying50 rfl Try.type50 (by simp) (by decide) (fun x => ⟨[.int .i64 x.num, .int .i64 x.st, .string (sB x.text)], rfl, rfl, by simp [plain, constOk1]⟩)]
  unfold optE reps
  split <;> rfl
theorem sameI_heap {H : World} {v w : Value} {xs : List Int} (h : AccI H v xs) (g : AccI H w xs) (hl : xs.length < 2 ^ 62) (Q : Value → World → Prop) : FW X 24 #[v, w] H Q = Q (.bool true) H := by
  have hA : FA X 24 [ints (optE xs), ints (optE xs)] (.bool true) := fa_ofFW (SameI (optE xs) (by rw [optE_get]; exact hl)) (by simp [X]) (by simp [plainI]) rfl
  refine fa_eq hA (by simp [X]) ?_ Q
  have e1 := stripI h
  have e2 := stripI g
  simp only [stripArgs, stripAll, XP, deep, e1, e2]
  rfl
theorem sameR_heap {H : World} {v w : Value} {xs : List Rp} (h : AccR H v xs) (g : AccR H w xs) (hl : xs.length < 2 ^ 62) (Q : Value → World → Prop) : FW X 51 #[v, w] H Q = Q (.bool true) H := by
  have hA : FA X 51 [reps (optE xs), reps (optE xs)] (.bool true) := fa_ofFW (SameR (optE xs) (by rw [optE_get]; exact hl)) (by simp [X]) (by simp [plainR]) rfl
  refine fa_eq hA (by simp [X]) ?_ Q
  have e1 := stripR h
  have e2 := stripR g
  simp only [stripArgs, stripAll, XP, deep, e1, e2]
  rfl
end Go.Proofs.Ytjecafhbhcjoaaa
end
