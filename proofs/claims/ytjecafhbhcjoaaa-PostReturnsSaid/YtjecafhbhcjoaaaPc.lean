/- Helpers of this claim: an evaluator over plain values and its laws. -/
import Derived.Test.YtjecafhbhcjoaaaPb
section
set_option linter.unusedVariables false
set_option linter.unusedSimpArgs false
namespace Go.Proofs.Ytjecafhbhcjoaaa
open Go Go.Proofs.Ytjecafhbhcjoaaa.Den
def badV (l : List Int) (m : Int) : Bool := decide (m < 1) || decide (5 < m) || decide (m ∈ l) || (decide (m = 2) && !decide (1 ∈ l)) || (decide (m = 3) && !(decide (1 ∈ l) && decide (2 ∈ l))) || (decide (4 ∈ l) && !decide (m = 2) && !decide (m = 3))
def marksV : List Int → List Int → Bool
  | _, [] => true
  | pre, m :: l => !badV pre m && marksV (pre ++ [m]) l
theorem marksV_eq : ∀ (l pre : List Int), (2 ∈ pre → 1 ∈ pre) → marksV pre l = marksW pre l
  | [], pre, _ => rfl
  | m :: l, pre, h => by
    have e : badV pre m = badAt pre m := by
      unfold badV badAt
      by_cases c2 : m = 2
      · subst c2
        have e1 : (2 : Int) - 1 = 1 := rfl
        rw [e1]
        simp
      · by_cases c3 : m = 3
        · subst c3
          have e1 : (3 : Int) - 1 = 2 := rfl
          rw [e1]
          by_cases h2 : (2 : Int) ∈ pre
          · simp [h2, h h2]
          · simp [h2]
        · simp [c2, c3]
    show (!badV pre m && marksV (pre ++ [m]) l) = (!badAt pre m && marksW (pre ++ [m]) l)
    rw [e]
    cases hb : badAt pre m with
    | true => rfl
    | false =>
      rw [marksV_eq l (pre ++ [m]) fun h2 => ?_]
      rcases List.mem_append.1 h2 with h3 | h3
      · exact List.mem_append_left _ (h h3)
      · have : m = 2 := (List.mem_singleton.1 h3).symm
        subst this
        unfold badAt at hb
        have e1 : (2 : Int) - 1 = 1 := rfl
        rw [e1] at hb
        simp at hb
        exact List.mem_append_left _ (by simp_all)
theorem marksV_drop {l : List Int} {k : Nat} (hk : k < l.length) : marksV (l.take k) (l.drop k) = (!badV (l.take k) l[k] && marksV (l.take (k + 1)) (l.drop (k + 1))) := by
  rw [List.drop_eq_getElem_cons hk]
  show (!badV (l.take k) l[k] && marksV (l.take k ++ [l[k]]) (l.drop (k + 1))) = _
  rw [List.take_succ_eq_append_getElem hk]
theorem idxOf_take {l : List Int} {k : Nat} (hk : k ≤ l.length) (v : Int) : ((l.take k).idxOf v = k ↔ ¬ v ∈ l.take k) ∧ ((l.take k).idxOf v < k ↔ v ∈ l.take k) := by
  have hl : (l.take k).length = k := by rw [List.length_take]; omega
  by_cases h : v ∈ l.take k
  · have := List.idxOf_lt_length_of_mem h
    simp [h]; omega
  · rw [List.idxOf_eq_length h, hl]
    simp [h]
theorem idxOf_at {l : List Int} {k : Nat} (hk : k < l.length) : (l.idxOf l[k] = k ↔ ¬ l[k] ∈ l.take k) := by
  constructor
  · intro h hm
    obtain ⟨j, hj, he⟩ := List.getElem_of_mem hm
    rw [List.length_take] at hj
    have hjk : j < k := by omega
    rw [List.getElem_take] at he
    unfold List.idxOf at h
    rw [List.findIdx_eq hk] at h
    have := h.2 j hjk
    simp [he] at this
  · intro h
    unfold List.idxOf
    rw [List.findIdx_eq hk]
    refine ⟨by simp, fun j hj => ?_⟩
    have : l[j] ≠ l[k] := fun e => h (by rw [← e]; exact List.mem_take_iff_getElem.2 ⟨j, by omega, rfl⟩)
    simpa using this
set_option maxRecDepth 100000 in
theorem Marks32 (o : Option (List Int)) (hl : (o.getD []).length < 2 ^ 62) (H : World) (Q : Value → World → Prop) : FW X 32 #[ints o] H Q = Q (.bool (marksW [] (o.getD []))) H := by
  rw [← marksV_eq _ _ (fun h => absurd h (by simp))]
  refine FW.aloneEq ?_ Try.func32 Try.ntmps32 rfl (by simp) ?_ H Q
  · simp [X, plainI]
  simp
  refine CE.range (m := (o.getD []).length) (fun k e H' => lk e 0 = ints o ∧ lk e 7 = ints o ∧ marksV [] (o.getD []) = marksV ((o.getD []).take k) ((o.getD []).drop k)) ?_ (by omega) ?_ ?_ ?_
  · decide
  · simp
  · rintro k e H' hk h1 h2 ⟨h3, h4, h5⟩
    have htk := fun H => take_ints o (n := k) (by omega) H
    have hg : (o.map (List.take k)).getD [] = (o.getD []).take k := by cases o <;> simp
    have hc := fun v H Q => has33 (o.map (List.take k)) v (by rw [hg, List.length_take]; omega) H Q
    rw [hg] at hc
    have hw := fun v H Q => has33 o v (by omega) H Q
    rw [marksV_drop hk] at h5
    have hat := idxOf_at hk
    have hit := fun v => idxOf_take (l := o.getD []) (k := k) (by omega) v
    generalize hm : (o.getD [])[k] = m at *
    unfold badV at h5
    have i1 := hit 1
    have i2 := hit 2
    have i4 := hit 4
    clear hit
    have eI : ∀ {n : Nat} {p : Prop}, (n = k ↔ p) → (((n : Int) = (k : Int)) = p) := fun h => propext ⟨fun e => h.1 (by omega), fun e => by have := h.2 e; omega⟩
    have jm := eI hat
    have l1 := eI i1.1
    have l2 := eI i2.1
    have l4 := propext i4.2
    have w2 : IntKind.i64.wrap 2 = 2 := by decide
    have w3 : IntKind.i64.wrap 3 = 3 := by decide
    simp [h1, h2, h3, h4, hk, hm, htk]
    by_cases c1 : m < 1
    · simp [c1] at h5
      simp [h1, h2, h3, h4, hk, hm, htk, c1, h5]
    by_cases c2 : 5 < m
    · simp [c2] at h5
      simp [h1, h2, h3, h4, hk, hm, htk, c1, c2, h5]
    by_cases cm : m ∈ (o.getD []).take k
    · simp [cm] at h5
      simp [h1, h2, h3, h4, hk, hm, htk, c1, c2, hw, jm, cm, h5]
    simp only [cm, decide_false, Bool.or_false] at h5 jm
    simp [h1, h2, h3, h4, hk, hm, htk, c1, c2, hw, jm]
    refine CE.round ?_
    by_cases c4 : (4 : Int) ∈ (o.getD []).take k
    · simp only [c4, decide_true, Bool.true_and] at h5 l4
      by_cases e1 : m = 1
      · subst e1
        simp at h5
        simp [h1, h2, h3, h4, htk, hc, w2, w3, l4, h5]
      by_cases e2 : m = 2
      · subst e2
        by_cases d1 : (1 : Int) ∈ (o.getD []).take k
        · simp [d1] at h5
          simp only [d1, not_true_eq_false, not_false_eq_true] at l1
          simp [h1, h2, h3, h4, htk, hc, w2, w3, l1]
          refine CE.round ?_
          simp [h1, h2, h3, h4, htk, hc, w2, w3, l4, h5]
        · simp [d1] at h5
          simp only [d1, not_true_eq_false, not_false_eq_true] at l1
          simp [h1, h2, h3, h4, htk, hc, w2, w3, l1, h5]
      by_cases e3 : m = 3
      · subst e3
        by_cases d1 : (1 : Int) ∈ (o.getD []).take k
        · simp [d1] at h5
          simp only [d1, not_true_eq_false, not_false_eq_true] at l1
          simp [h1, h2, h3, h4, htk, hc, w2, w3, l1]
          refine CE.round ?_
          by_cases d2 : (2 : Int) ∈ (o.getD []).take k
          · simp [d2] at h5
            simp only [d2, not_true_eq_false, not_false_eq_true] at l2
            simp [h1, h2, h3, h4, htk, hc, w2, w3, l2]
            refine CE.round ?_
            simp [h1, h2, h3, h4, htk, hc, w2, w3, l4, h5]
          · simp [d2] at h5
            simp only [d2, not_true_eq_false, not_false_eq_true] at l2
            simp [h1, h2, h3, h4, htk, hc, w2, w3, l2, h5]
        · simp [d1] at h5
          simp only [d1, not_true_eq_false, not_false_eq_true] at l1
          simp [h1, h2, h3, h4, htk, hc, w2, w3, l1, h5]
      · have g3 : ¬ m ≤ 3 := by omega
        have g1 : 1 < m := by omega
        simp [e2, e3, c1, c2] at h5
        simp [h1, h2, h3, h4, htk, hc, w2, w3, l4, h5, e2, e3, g3, g1, Int.not_lt.1 c1, Int.not_lt.1 c2]
    · simp only [c4, decide_false, Bool.false_and, Bool.or_false] at h5 l4
      by_cases e1 : m = 1
      · subst e1
        simp at h5
        simp [h1, h2, h3, h4, htk, hc, w2, w3, l4, h5]
      by_cases e2 : m = 2
      · subst e2
        by_cases d1 : (1 : Int) ∈ (o.getD []).take k
        · simp [d1] at h5
          simp only [d1, not_true_eq_false, not_false_eq_true] at l1
          simp [h1, h2, h3, h4, htk, hc, w2, w3, l1]
          refine CE.round ?_
          simp [h1, h2, h3, h4, htk, hc, w2, w3, l4, h5]
        · simp [d1] at h5
          simp only [d1, not_true_eq_false, not_false_eq_true] at l1
          simp [h1, h2, h3, h4, htk, hc, w2, w3, l1, h5]
      by_cases e3 : m = 3
      · subst e3
        by_cases d1 : (1 : Int) ∈ (o.getD []).take k
        · simp [d1] at h5
          simp only [d1, not_true_eq_false, not_false_eq_true] at l1
          simp [h1, h2, h3, h4, htk, hc, w2, w3, l1]
          refine CE.round ?_
          by_cases d2 : (2 : Int) ∈ (o.getD []).take k
          · simp [d2] at h5
            simp only [d2, not_true_eq_false, not_false_eq_true] at l2
            simp [h1, h2, h3, h4, htk, hc, w2, w3, l2]
            refine CE.round ?_
            simp [h1, h2, h3, h4, htk, hc, w2, w3, l4, h5]
          · simp [d2] at h5
            simp only [d2, not_true_eq_false, not_false_eq_true] at l2
            simp [h1, h2, h3, h4, htk, hc, w2, w3, l2, h5]
        · simp [d1] at h5
          simp only [d1, not_true_eq_false, not_false_eq_true] at l1
          simp [h1, h2, h3, h4, htk, hc, w2, w3, l1, h5]
      · have g3 : ¬ m ≤ 3 := by omega
        have g1 : 1 < m := by omega
        simp [e2, e3, c1, c2] at h5
        simp [h1, h2, h3, h4, htk, hc, w2, w3, l4, h5, e2, e3, g3, g1, Int.not_lt.1 c1, Int.not_lt.1 c2]
  · rintro e H' h1 h2 ⟨h3, h4, h5⟩
    rw [List.drop_length, List.take_length] at h5
    simp
    rw [h5]; rfl
end Go.Proofs.Ytjecafhbhcjoaaa
end
