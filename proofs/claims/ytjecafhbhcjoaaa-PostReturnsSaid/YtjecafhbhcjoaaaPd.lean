/- Helpers of this claim: an evaluator over plain values and its laws. -/
import Derived.Test.YtjecafhbhcjoaaaPc
section
set_option linter.unusedVariables false
set_option linter.unusedSimpArgs false
namespace Go.Proofs.Ytjecafhbhcjoaaa
open Go Go.Proofs.Ytjecafhbhcjoaaa.Den
abbrev R4 := Int × Int × Int × Int
abbrev enc4 (r : R4) : Value := .tuple #[.int .i64 r.1, .int .i64 r.2.1, .int .i64 r.2.2.1, .int .i64 r.2.2.2]
def goW (w : Int) : List Int → List Int → R4
  | _, [] => (0, 0, 0, 8)
  | pre, m :: l => if m = w then ((pre.length : Int) + 1, 0, 0, 0) else if m = 4 ∨ m = 5 then ((pre.length : Int) + 1, 2, if 1 ∈ pre then 2 else 1, 0) else goW w (pre ++ [m]) l
def wantW (c : Int) : Int := if c = 1 then 1 else if c = 3 then 2 else 3
def retW (c : Int) (l : List Int) : R4 := if c < 1 ∨ 4 < c then (0, 0, 0, 7) else if marksW [] l = true then (if c = 2 then (0, 0, 0, 0) else goW (wantW c) [] l) else (0, 0, 0, 1)
def finW (c : Int) (l : List Int) : Int × Int := if marksW [] l = true then (if c < 1 ∨ 4 < c then (0, 7) else if 3 ∈ l then (0, 0) else if 2 ∈ l then (2, 0) else (1, 0)) else (0, 1)
theorem goW_drop {w : Int} {l : List Int} {k : Nat} (hk : k < l.length) : goW w (l.take k) (l.drop k) = if l[k] = w then ((k : Int) + 1, 0, 0, 0) else if l[k] = 4 ∨ l[k] = 5 then ((k : Int) + 1, 2, if 1 ∈ l.take k then 2 else 1, 0) else goW w (l.take (k + 1)) (l.drop (k + 1)) := by
  have hl : (l.take k).length = k := by rw [List.length_take]; omega
  have e : ∀ pre m t, goW w pre (m :: t) = if m = w then ((pre.length : Int) + 1, 0, 0, 0) else if m = 4 ∨ m = 5 then ((pre.length : Int) + 1, 2, if 1 ∈ pre then 2 else 1, 0) else goW w (pre ++ [m]) t := fun _ _ _ => rfl
  rw [List.drop_eq_getElem_cons hk, e, hl, List.take_succ_eq_append_getElem hk]
theorem marksW_rng : ∀ (l pre : List Int), marksW pre l = true → ∀ m ∈ l, 1 ≤ m ∧ m ≤ 5
  | [], _, _, m, hm => by cases hm
  | a :: l, pre, h, m, hm => by
    have h : (!badAt pre a && marksW (pre ++ [a]) l) = true := h
    simp only [Bool.and_eq_true, Bool.not_eq_true'] at h
    rcases List.mem_cons.1 hm with rfl | hm
    · have := h.1
      unfold badAt at this
      simp only [Bool.or_eq_false_iff, decide_eq_false_iff_not] at this
      omega
    · exact marksW_rng l _ h.2 m hm
set_option maxRecDepth 100000 in
theorem Returns8 (c : Int) (o : Option (List Int)) (hl : (o.getD []).length < 2 ^ 62) (H : World) (Q : Value → World → Prop) : FW X 8 #[.int .i64 c, ints o] H Q = Q (enc4 (retW c (o.getD []))) H := by
  refine FW.aloneEq ?_ Try.func8 Try.ntmps8 rfl (by simp) ?_ H Q
  · simp [X, plainI, plainDI]
  unfold retW
  by_cases c1 : c < 1
  · simp [c1]
  by_cases c2 : 4 < c
  · simp [c1, c2, wanted29]
  rw [if_neg (fun h => h.elim c1 c2)]
  cases hm : marksW [] (o.getD []) with
  | false => simp [c1, c2, wanted29, marks30 o hl, hm]
  | true =>
    have w0 : IntKind.i64.wrap 0 = 0 := by decide
    have w1 : IntKind.i64.wrap 1 = 1 := by decide
    have w2 : IntKind.i64.wrap 2 = 2 := by decide
    have w3 : IntKind.i64.wrap 3 = 3 := by decide
    have hw : c = 1 ∨ c = 2 ∨ c = 3 ∨ c = 4 := by omega
    by_cases c3 : c = 2
    · subst c3
      simp [wanted29, marks30 o hl, hm, w1]
    rw [if_pos rfl, if_neg c3]
    have hw : (c = 1 ∧ wantW c = 1) ∨ (c = 3 ∧ wantW c = 2) ∨ (c = 4 ∧ wantW c = 3) := by
      unfold wantW
      rcases hw with rfl | rfl | rfl | rfl <;> simp at c3 ⊢
    generalize wantW c = W at *
    rcases hw with ⟨rfl, hW⟩ | ⟨rfl, hW⟩ | ⟨rfl, hW⟩
    all_goals
      simp [wanted29, marks30 o hl, hm, w0, w2, w3]
      refine CE.range (m := (o.getD []).length) (fun k e H' => lk e 1 = ints o ∧ lk e 28 = ints o ∧ lk e 8 = .int .i64 W ∧ goW W [] (o.getD []) = goW W ((o.getD []).take k) ((o.getD []).drop k)) ?_ (by omega) ?_ ?_ ?_
      · decide
      · simp [hW]
      · rintro k e H' hk h1 h2 ⟨h3, h4, h8, h5⟩
        have htk := fun H => take_ints o (n := k) (by omega) H
        have hg : (o.map (List.take k)).getD [] = (o.getD []).take k := by cases o <;> simp
        have hc := fun v H Q => Contains31 (o.map (List.take k)) v (by rw [hg, List.length_take]; omega) H Q
        rw [hg] at hc
        rw [goW_drop hk] at h5
        have wk : IntKind.i64.wrap ((k : Int) + 1) = (k : Int) + 1 := wrap64' (by omega) (by omega)
        generalize hmk : (o.getD [])[k] = m at *
        by_cases e1 : m = W
        · rw [if_pos e1] at h5
          rw [h5]
          simp [h1, h2, h3, h4, h8, hk, hmk, e1, wk]
        rw [if_neg e1] at h5
        by_cases e4 : m = 4 ∨ m = 5
        · rw [if_pos e4] at h5
          rw [h5]
          by_cases c6 : (1 : Int) ∈ (o.getD []).take k
          · rcases e4 with rfl | rfl <;> simp [h1, h2, h3, h4, h8, hk, hmk, e1, wk, htk, hc, c6]
          · rcases e4 with rfl | rfl <;> simp [h1, h2, h3, h4, h8, hk, hmk, e1, wk, htk, hc, c6]
        · rw [if_neg e4] at h5
          have e5 : ¬ m = 4 := fun e => e4 (.inl e)
          have e6 : ¬ m = 5 := fun e => e4 (.inr e)
          simp [h1, h2, h3, h4, h8, hk, hmk, e1, e5, e6]
          exact h5
      · rintro e H' h1 h2 ⟨h3, h4, h8, h5⟩
        rw [List.drop_length] at h5
        rw [h5]
        simp [goW]
set_option maxRecDepth 100000 in
theorem Returns9 (c : Int) (o : Option (List Int)) (hl : (o.getD []).length < 2 ^ 62) (H : World) (Q : Value → World → Prop) : FW X 9 #[.int .i64 c, ints o] H Q = Q (enc4 (retW c (o.getD []))) H := by
  refine FW.aloneEq ?_ Try.func9 Try.ntmps9 rfl (by simp) ?_ H Q
  · simp [X, plainI, plainDI]
  unfold retW
  by_cases c1 : c < 1
  · simp [c1]
  by_cases c2 : 4 < c
  · simp [c1, c2]
  rw [if_neg (fun h => h.elim c1 c2)]
  cases hm : marksW [] (o.getD []) with
  | false => simp [c1, c2, Marks32 o hl, hm]
  | true =>
    have hrng := marksW_rng _ _ hm
    have hw : c = 1 ∨ c = 2 ∨ c = 3 ∨ c = 4 := by omega
    by_cases c3 : c = 2
    · subst c3
      simp [Marks32 o hl, hm]
    rw [if_pos rfl, if_neg c3]
    have hw : (c = 1 ∧ wantW c = 1) ∨ (c = 3 ∧ wantW c = 2) ∨ (c = 4 ∧ wantW c = 3) := by
      unfold wantW
      rcases hw with rfl | rfl | rfl | rfl <;> simp at c3 ⊢
    generalize wantW c = W at *
    rcases hw with ⟨rfl, hW⟩ | ⟨rfl, hW⟩ | ⟨rfl, hW⟩
    all_goals
      simp [Marks32 o hl, hm]
      refine CE.range (m := (o.getD []).length) (fun k e H' => lk e 30 = ints o ∧ lk e 8 = .int .i64 W ∧ lk e 9 = .bool (decide ((1 : Int) ∈ (o.getD []).take k)) ∧ goW W [] (o.getD []) = goW W ((o.getD []).take k) ((o.getD []).drop k)) ?_ (by omega) ?_ ?_ ?_
      · decide
      · simp [hW]
      · rintro k e H' hk h1 h2 ⟨h4, h8, h9, h5⟩
        rw [goW_drop hk] at h5
        have wk : IntKind.i64.wrap ((k : Int) + 1) = (k : Int) + 1 := wrap64' (by omega) (by omega)
        have hr := hrng _ (List.getElem_mem hk)
        have ht : decide ((1 : Int) ∈ (o.getD []).take (k + 1)) = (decide ((1 : Int) ∈ (o.getD []).take k) || decide ((o.getD [])[k] = 1)) := by
          rw [List.take_succ_eq_append_getElem hk, Bool.eq_iff_iff]
          simp only [decide_eq_true_eq, Bool.or_eq_true, List.mem_append, List.mem_singleton]
          exact ⟨fun h => h.imp id Eq.symm, fun h => h.imp id Eq.symm⟩
        generalize hmk : (o.getD [])[k] = m at *
        by_cases e1 : m = W
        · rw [if_pos e1] at h5
          rw [h5]
          by_cases c6 : (1 : Int) ∈ (o.getD []).take k
          · simp [h1, h2, h4, h8, h9, hk, hmk, e1, wk, c6]
          · simp [h1, h2, h4, h8, h9, hk, hmk, e1, wk, c6]
        rw [if_neg e1] at h5
        by_cases e4 : m = 4 ∨ m = 5
        · rw [if_pos e4] at h5
          rw [h5]
          by_cases c6 : (1 : Int) ∈ (o.getD []).take k
          · rcases e4 with rfl | rfl <;> simp [h1, h2, h4, h8, h9, hk, hmk, e1, wk, c6]
          · rcases e4 with rfl | rfl <;> simp [h1, h2, h4, h8, h9, hk, hmk, e1, wk, c6]
        · rw [if_neg e4] at h5
          have e5 : ¬ 4 ≤ m := by omega
          by_cases c6 : (1 : Int) ∈ (o.getD []).take k
          · simp [c6] at ht
            simp [h1, h2, h4, h8, h9, hk, hmk, e1, e5, c6, ht]
            exact h5
          · by_cases c7 : m = 1
            · subst c7
              simp [c6] at ht
              simp [h1, h2, h4, h8, h9, hk, hmk, e1, c6, ht]
              exact h5
            · simp [c6, c7] at ht
              simp [h1, h2, h4, h8, h9, hk, hmk, e1, e5, c6, c7, ht]
              exact h5
      · rintro e H' h1 h2 ⟨h4, h8, h9, h5⟩
        rw [List.drop_length] at h5
        rw [h5]
        simp [goW]
set_option maxRecDepth 100000 in
theorem Final10 (c : Int) (o : Option (List Int)) (hl : (o.getD []).length < 2 ^ 62) (H : World) (Q : Value → World → Prop) : FW X 10 #[.int .i64 c, ints o] H Q = Q (.tuple #[.int .i64 (finW c (o.getD [])).1, .int .i64 (finW c (o.getD [])).2]) H := by
  refine FW.aloneEq ?_ Try.func10 Try.ntmps10 rfl (by simp) ?_ H Q
  · simp [X, plainI, plainDI]
  unfold finW
  cases hm : marksW [] (o.getD []) with
  | false => simp [marks30 o hl, hm]
  | true =>
    by_cases c1 : c < 1
    · simp [marks30 o hl, hm, c1]
    by_cases c2 : 4 < c
    · simp [marks30 o hl, hm, c1, c2, wanted29]
    by_cases d3 : (3 : Int) ∈ o.getD []
    · simp [marks30 o hl, hm, c1, c2, wanted29, Contains31 o _ (by omega : (o.getD []).length < 2 ^ 63), d3]
    by_cases d2 : (2 : Int) ∈ o.getD []
    · simp [marks30 o hl, hm, c1, c2, wanted29, Contains31 o _ (by omega : (o.getD []).length < 2 ^ 63), d3, d2]
    · simp [marks30 o hl, hm, c1, c2, wanted29, Contains31 o _ (by omega : (o.getD []).length < 2 ^ 63), d3, d2]
theorem idxOf_in (l : List Int) (v : Int) : ((l.idxOf v : Int) < (l.length : Int)) = (v ∈ l) := by
  refine propext ⟨fun h => ?_, fun h => ?_⟩
  · refine Classical.byContradiction fun hn => ?_
    rw [List.idxOf_eq_length hn] at h
    omega
  · have := List.idxOf_lt_length_of_mem h
    omega
theorem idxOf_in' (l : List Int) (v : Int) : (l.idxOf v < l.length) = (v ∈ l) := by
  rw [← idxOf_in]; exact propext ⟨fun h => by omega, fun h => by omega⟩
set_option maxRecDepth 100000 in
theorem Final11 (c : Int) (o : Option (List Int)) (hl : (o.getD []).length < 2 ^ 62) (H : World) (Q : Value → World → Prop) : FW X 11 #[.int .i64 c, ints o] H Q = Q (.tuple #[.int .i64 (finW c (o.getD [])).1, .int .i64 (finW c (o.getD [])).2]) H := by
  refine FW.aloneEq ?_ Try.func11 Try.ntmps11 rfl (by simp) ?_ H Q
  · simp [X, plainI, plainDI]
  unfold finW
  cases hm : marksW [] (o.getD []) with
  | false => simp [Marks32 o hl, hm]
  | true =>
    by_cases c1 : c < 1
    · simp [Marks32 o hl, hm, c1]
    by_cases c2 : 4 < c
    · simp [Marks32 o hl, hm, c1, c2]
    by_cases d3 : (3 : Int) ∈ o.getD []
    · simp [Marks32 o hl, hm, c1, c2, has33 o _ (by omega : (o.getD []).length < 2 ^ 63), idxOf_in', d3]
    by_cases d2 : (2 : Int) ∈ o.getD []
    · simp [Marks32 o hl, hm, c1, c2, has33 o _ (by omega : (o.getD []).length < 2 ^ 63), idxOf_in', d3, d2]
    · simp [Marks32 o hl, hm, c1, c2, has33 o _ (by omega : (o.getD []).length < 2 ^ 63), idxOf_in', d3, d2]
end Go.Proofs.Ytjecafhbhcjoaaa
end
