/- Helpers of this claim: an evaluator over plain values and its laws. -/
import Derived.Test.YtmmmdmandocbhaaPr
section
set_option linter.unusedVariables false
set_option linter.unusedSimpArgs false
namespace Go.Proofs.Ytmmmdmandocbhaa
open Go Go.Proofs.Ytmmmdmandocbhaa.Den
theorem accp_len {H H0 : World} {v : Value} {l : List Fl} (h : AccP H v l) : builtinX Try.prog .len #[30] #[v] H0 = some (.value (.int .i64 l.length), H0) := by
  rcases h.2 with ⟨e, h0⟩ | ⟨r, e, _, _⟩
  · rw [e, h0]; simp
  · rw [e]; simp
theorem accp_get {H : World} {v : Value} {l : List Fl} (h : AccP H v l) {k : Nat} (hk : k < l.length) : ∃ r : Nat, indexAddrQ Try.prog 30 v (.int .i64 k) = some (.pointer (some ⟨r, k * 5, none⟩)) ∧ loadX Try.prog 41 (.pointer (some ⟨r, k * 5, none⟩)) H = some (.value (encP l[k]), H) ∧ loadX Try.prog 3 (.pointer (some ⟨r, k * 5 + 3, none⟩)) H = some (.value (.int .i64 l[k].time), H) := by
  obtain ⟨r, rfl, hr⟩ := h.row (by omega)
  have h1 := flatE_row encP_size l hk
  have h2 := flatE_le encP_size l hk
  have h3 := flatE_get encP_size l hk (j := 3) (by decide)
  refine ⟨r, by simp [idxS, hk], ?_, ?_⟩
  · have e : List.take 5 (List.drop (k * 5) (flatE encP l)) = (encP l[k]).cells.toList := by
      have := congrArg Array.toList h1
      simpa using this
    simp [hr, h2, e, qX]
  · have h3' : (flatE encP l)[k * 5 + 3]? = some (.int .i64 l[k].time) := by rw [h3]; rfl
    simp [hr, h3']
set_option maxRecDepth 100000 in
theorem same13 {H : World} {v w : Value} {xs ys : List Fl} (hv : AccP H v xs) (hw : AccP H w ys) (he : xs.map encP = ys.map encP) (hl : xs.length < 2 ^ 62) {Q : Value → World → Prop} (hq : Q (.bool true) H) : FW X 13 #[v, w] H Q := by
  refine FW.walk (by simp [X, sp17_no]) Try.func13 Try.ntmps13 rfl (by simp) ?_
  have l1 := fun H0 => accp_len (H0 := H0) hv
  have l2 := fun H0 => accp_len (H0 := H0) hw
  have hlen : xs.length = ys.length := by have := congrArg List.length he; simpa using this
  simp [l1, l2, hlen]
  refine CE.range (m := ys.length) (fun k e H' => H' = H ∧ lk e 0 = v ∧ lk e 1 = w) ?_ (by omega) ?_ ?_ ?_
  · decide
  · simp
  · rintro k e H' hk q1 q2 ⟨rfl, e0, e1⟩
    obtain ⟨a, a1, a2, _⟩ := accp_get hv (k := k) (by omega)
    obtain ⟨b, b1, b2, _⟩ := accp_get hw hk
    have hk2 : k < xs.length := by omega
    have hek : encP xs[k] = encP ys[k] := by
      have := congrArg (fun l : List Value => l[k]?) he
      simpa [hk, hk2] using this
    rw [hek] at a2
    simp [q1, q2]
    refine WP.draw0 (by decide +kernel) (by decide +kernel) ?_
    have hne := fun x y => (eqPk ys[k].id ys[k].frm ys[k].to ys[k].time ys[k].id ys[k].frm ys[k].to ys[k].time ys[k].body ys[k].body x y H').2
    simp [e0, e1, q1, q2, a1, a2, b1, b2, hne]
  · rintro e H' q1 q2 ⟨rfl, e0, e1⟩
    simp
    exact hq
end Go.Proofs.Ytmmmdmandocbhaa
end
