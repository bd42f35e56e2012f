/- Helpers of this claim: an evaluator over plain values and its laws. -/
import Derived.Test.YtlpoejkleopdoaaCf
section
set_option linter.unusedVariables false
set_option linter.unusedSimpArgs false
namespace Go.Proofs.Ytlpoejkleopdoaa
open Go Go.Proofs.Ytlpoejkleopdoaa.Den
theorem light_len {o : Option (List Pc)} (h : light o = true) : (o.getD []).length ≤ 200 := by
  simp only [light, Bool.and_eq_true, decide_eq_true_eq] at h
  exact h.1
theorem total_bound : ∀ (L : LL), (∀ x ∈ L, light x = true) → totalW (lists L) ≤ L.length * 200
  | [], _ => by simp [lists, totalW]
  | x :: L, h => by
    have h1 := light_len (h x List.mem_cons_self)
    have h2 := total_bound L fun y hy => h y (List.mem_cons_of_mem _ hy)
    simp only [lists, totalW, List.map_cons, List.flatten_cons, List.length_append, List.length_cons] at *
    omega
theorem resW_len (l : Option LL) (turns : Option (List Int)) : ((resW l turns).1.getD []).length ≤ totalW (lists (l.getD [])) := by
  unfold resW
  split
  · split
    · have := seqW_le (turns.getD []) (lists (l.getD [])) (totalW (lists (l.getD [])))
      unfold opt weaveW
      split <;> simp
      exact this
    · simp
  · simp
set_option maxRecDepth 100000 in
theorem Weaves3 (l : Option LL) (turns : Option (List Int)) (hl : (l.getD []).length < 2 ^ 63) (hx : ∀ x ∈ l.getD [], (x.getD []).length < 2 ^ 63) (ht : (turns.getD []).length < 2 ^ 63) (H : World) :
    FW X 3 #[lls l, ints turns] H fun v H' => v = .bool true ∧ H' = H := by
  refine FW.walk (by simp [X]) Try.func3 Try.ntmps3 rfl (by simp) ?_
  simp
  refine CE.range (m := (l.getD []).length) (fun k e H' => H' = H ∧ lk e 0 = lls l ∧ lk e 1 = ints turns ∧ lk e 11 = lls l ∧ ∀ j (hj : j < (l.getD []).length), j < k → light (l.getD [])[j] = true) ?_ hl ?_ ?_ ?_
  · decide
  · simp
  · rintro k e H' hk h1 h2 ⟨rfl, h3, h4, h5, h6⟩
    have hlk := light_eq (l.getD [])[k] (hx _ (List.getElem_mem hk))
    simp [h1, h2, h3, h4, h5, hk, hlk, awake_eq]
    refine gIf_nb (fun h => ?_) (fun h => ?_)
    · simp [h1, h2, h3, h4, h5]
      intro j hj hj2
      by_cases hjk : j = k
      · subst hjk; exact h
      · exact h6 j hj (by omega)
    · simp [awake_eq]
  · rintro e H' h1 h2 ⟨rfl, h3, h4, h5, h6⟩
    have hall : ∀ x ∈ l.getD [], light x = true := by
      intro x hx
      obtain ⟨j, hj, rfl⟩ := List.getElem_of_mem hx
      exact h6 j hj hj
    have htb := total_bound _ hall
    simp [h3, h4]
    have hw10 := Weave10 l turns hl hx ht
    by_cases hb : (l.getD []).length ≤ 110
    · have hw11 := Weave11 l turns hl (by omega) ht
      have hsame : ∀ H Q, FW X 12 #[sl (resW l turns).1, sl (resW l turns).1] H Q = Q (.bool true) H := fun H Q => by
        have := resW_len l turns
        rw [Same_eq _ _ (by omega)]
        simp [same]
      repeat' (first | refine gIf_dec (fun h => ?_) (fun h => ?_) | refine gIf_ndec (fun h => ?_) (fun h => ?_) | refine gIf_nb (fun h => ?_) (fun h => ?_) | refine gIf_split (fun h => ?_) (fun h => ?_) | (exfalso; omega; done) | (simp [*]; done) | (simp [awake_eq, hw10, hw11, hsame, *]; done) | simp [awake_eq, hw10, hw11, hsame, *])
    · repeat' (first | refine gIf_dec (fun h => ?_) (fun h => ?_) | refine gIf_ndec (fun h => ?_) (fun h => ?_) | refine gIf_nb (fun h => ?_) (fun h => ?_) | refine gIf_split (fun h => ?_) (fun h => ?_) | (exfalso; omega; done) | (simp [*]; done) | (simp [awake_eq, *]; done) | simp [awake_eq, *])
end Go.Proofs.Ytlpoejkleopdoaa
end
