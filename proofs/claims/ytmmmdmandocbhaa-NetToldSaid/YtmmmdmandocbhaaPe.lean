/- Helpers of this claim: an evaluator over plain values and its laws. -/
import Derived.Test.YtmmmdmandocbhaaPd
section
set_option linter.unusedVariables false
set_option linter.unusedSimpArgs false
namespace Go.Proofs.Ytmmmdmandocbhaa
open Go Go.Proofs.Ytmmmdmandocbhaa.Den
theorem plainFl1 (x : Fl) : plain 1 (encF x) = true := by simp [plain, constOk1]
theorem plainFl (x : Fl) : plain deep (encF x) = true := plain_of (d := 1) (plainFl1 x) (by decide)
def tw (x : Fl) : Int := if x.twice = true then 1 else 0
set_option maxRecDepth 100000 in
theorem second64 (H : World) (x : Fl) (Q : Value → World → Prop) : FW X 64 #[encF x] H Q = Q (.int .i64 (tw x)) H := by
  refine FW.aloneEq ?_ Try.func64 Try.ntmps64 rfl (by simp) ?_ H Q
  · simp only [X, plainFl]; simp [plainFl]
  unfold tw
  cases h : x.twice
  · simp [h]
  · simp [h]
def orI : List Int → Int
  | [] => 0
  | x :: l => if x = 0 then orI l else x
set_option maxRecDepth 100000 in
theorem or66 {H : World} {r : Nat} {a b c : Int} (hr : getO H r = some (.cells #[.int .i64 a, .int .i64 b, .int .i64 c] 3 (0, 0))) (Q : Value → World → Prop) : FW X 66 #[.slice (some ⟨r, 0, none⟩) 3 3] H Q = Q (.int .i64 (orI [a, b, c])) H := by
  refine FW.eqE (by simp [X, sp17_no]) Try.func66 Try.ntmps66 rfl (by simp) ?_ Q
  have w1 : IntKind.i64.wrap 1 = 1 := by decide
  have w2 : IntKind.i64.wrap 2 = 2 := by decide
  have w3 : IntKind.i64.wrap 3 = 3 := by decide
  simp
  refine CE.round ?_
  by_cases h : a = 0
  · subst h
    simp [hr, w1, orI]
    refine CE.round ?_
    by_cases h2 : b = 0
    · subst h2
      simp [hr, w1, w2, orI]
      refine CE.round ?_
      by_cases h3 : c = 0
      · subst h3
        simp [hr, w3, orI]
        refine CE.round ?_
        simp [hr, orI]
      · simp [hr, h3, orI]
    · simp [hr, h2, orI]
  · simp [hr, h, orI]
set_option maxRecDepth 100000 in
theorem order61 {H : World} {Q : Value → World → Prop} (hq : Q (.func (.func 65) #[] #[p0 H.heap.size]) (pushObj H (.cells #[.func (.func 64) #[] #[]] 102 (0, 0)))) : FW X 61 #[] H Q := by
  refine FW.walk (by simp [X, sp17_no]) Try.func61 Try.ntmps61 rfl (by simp) ?_
  simp [szO, allocX, Value.nilFunc, Value.cells]
  exact hq
theorem q_f64 : veq (.func (.func 64) #[] #[]) (.func (.func 64) #[] #[]) = true := by simp [veq, veq2, veq1, q_nil]
/-- How two flights stand to one another. -/
def cmpF (x y : Fl) : Int := orI [IntKind.i64.wrap (x.time - y.time), IntKind.i64.wrap (x.id - y.id), IntKind.i64.wrap (tw x - tw y)]
set_option maxRecDepth 100000 in
theorem cmp65 {H : World} {c : Nat} (hc : getO H c = some (.cells #[.func (.func 64) #[] #[]] 102 (0, 0))) (x y : Fl) {Q : Value → World → Prop}
    (hq : ∀ H', Keep H H' → H.heap.size ≤ H'.heap.size → Q (.int .i64 (cmpF x y)) H') : FW X 65 #[encF x, encF y, p0 c] H Q := by
  refine FW.walk (by simp [X, sp17_no]) Try.func65 Try.ntmps65 rfl (by simp) ?_
  have hcl := getO_lt hc
  have g3 : getO (pushObj (pushObj H (.cells (cellsF x) 83 (0, 0))) (.cells (cellsF y) 83 (0, 0))) H.heap.size = some (.cells (cellsF x) 83 (0, 0)) := by
    rw [get_push, if_neg (by simp), get_push, if_pos rfl]
  have g4 : getO (pushObj (pushObj H (.cells (cellsF x) 83 (0, 0))) (.cells (cellsF y) 83 (0, 0))) (H.heap.size + 1) = some (.cells (cellsF y) 83 (0, 0)) := by
    rw [get_push, if_pos (by simp)]
  have k1 : Keep H (pushObj (pushObj H (.cells (cellsF x) 83 (0, 0))) (.cells (cellsF y) 83 (0, 0))) := fun j o hj => by
    have := getO_lt hj
    rw [get_push, if_neg (by simp; omega), get_push, if_neg (by omega)]; exact hj
  have z1 : (pushObj (pushObj H (.cells (cellsF x) 83 (0, 0))) (.cells (cellsF y) 83 (0, 0))).heap.size = H.heap.size + 2 := by simp
  have hc1 := k1 _ _ hc
  simp [szO]
  generalize hH1 : pushObj (pushObj H (.cells (cellsF x) 83 (0, 0))) (.cells (cellsF y) 83 (0, 0)) = H1 at *
  generalize hm : H.heap.size = m at *
  have hw : ∀ a b c d : Int, getO (pushObj H1 (.cells #[.int .i64 a, .int .i64 b, .int .i64 c] 3 (0, 0))) (m + 2) = some (.cells #[.int .i64 a, .int .i64 b, .int .i64 c] 3 (0, 0)) := fun a b c d => by
    rw [get_push, if_pos (by omega)]
  have hc1n : ¬ c = H1.heap.size := by omega
  have g3n : ¬ m = H1.heap.size := by omega
  have g4n : ¬ m + 1 = H1.heap.size := by omega
  have ho := fun a b c Q => or66 (H := pushObj H1 (.cells #[.int .i64 a, .int .i64 b, .int .i64 c] 3 (0, 0))) (hw a b c 0) Q
  refine WP.drawP [(0, 17), (0, 20), (1, 17), (1, 20), (2, 17), (2, 20), (3, 17), (3, 20), (4, 17), (4, 20), (5, 17), (5, 20), (6, 17), (6, 20), (7, 17), (7, 20), (8, 17), (8, 20), (9, 17), (9, 20), (10, 17), (10, 20), (11, 17), (11, 20), (12, 17), (12, 20), (13, 17), (13, 20), (17, 0), (18, 0)] (by decide +kernel) (by decide +kernel) ?_
  simp [hc1, g3, g4, second64, buildSliceX, inOrder, catCells, szO, z1, ho]
  refine ⟨(Checks.cons rfl rfl rfl ?_ (Checks.cons rfl rfl rfl ?_ (Checks.cons rfl rfl rfl ?_ (Checks.cons rfl rfl rfl ?_ (Checks.cons rfl rfl rfl ?_ (Checks.cons rfl rfl rfl ?_ (Checks.cons rfl rfl rfl ?_ (Checks.cons rfl rfl rfl ?_ (Checks.cons rfl rfl rfl ?_ (Checks.cons rfl rfl rfl ?_ (Checks.cons rfl rfl rfl ?_ (Checks.cons rfl rfl rfl ?_ (Checks.cons rfl rfl rfl ?_ (Checks.cons rfl rfl rfl ?_ (Checks.cons rfl rfl rfl ?_ (Checks.cons rfl rfl rfl ?_ (Checks.cons rfl rfl rfl ?_ (Checks.cons rfl rfl rfl ?_ (Checks.cons rfl rfl rfl ?_ (Checks.cons rfl rfl rfl ?_ (Checks.cons rfl rfl rfl ?_ (Checks.cons rfl rfl rfl ?_ (Checks.cons rfl rfl rfl ?_ (Checks.cons rfl rfl rfl ?_ (Checks.cons rfl rfl rfl ?_ (Checks.cons rfl rfl rfl ?_ (Checks.cons rfl rfl rfl ?_ (Checks.cons rfl rfl rfl ?_ (Checks.cons rfl rfl rfl ?_ (Checks.cons rfl rfl rfl ?_ .nil)))))))))))))))))))))))))))))), ?_⟩
  iterate 30
    · unfold reV
      simp [hc1, g3, g4, q_int, q_ptr, q_agg, q_cons, q_nil, q_bool, q_str, q1_int, q1_bool, q1_str, q_f64, second64, get_push, hc1n, g3n, g4n]
  refine hq _ (k1.trans fun j o hj => ?_) ?_
  · have := getO_lt hj
    rw [get_push, if_neg (by omega)]; exact hj
  · simp; omega
end Go.Proofs.Ytmmmdmandocbhaa
end
