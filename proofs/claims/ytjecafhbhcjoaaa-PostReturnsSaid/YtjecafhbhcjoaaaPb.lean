/- Helpers of this claim: an evaluator over plain values and its laws. -/
import Derived.Test.YtjecafhbhcjoaaaPa
section
set_option linter.unusedVariables false
set_option linter.unusedSimpArgs false
namespace Go.Proofs.Ytjecafhbhcjoaaa
open Go Go.Proofs.Ytjecafhbhcjoaaa.Den
theorem take_ints (o : Option (List Int)) {n : Nat} (h : n ≤ (o.getD []).length) (H : World) : sliceX Try.prog 22 (ints o) none (some (.int .i64 n)) none H = some (.value (ints (o.map (List.take n))), H) := by
  cases o with
  | none =>
    have h0 : n = 0 := by simpa using h
    subst h0
    have hb : (Instr.sliceBounds true 0 0 none (some (.int .i64 0)) none).run Try.prog H = .ok (0, 0, 0) H := by
      simp [Instr.sliceBounds, sliceBound_ok]
    have hv : vSliceOp Try.prog 22 (.slice none 0 0) none (some (.int .i64 0)) none = none := rfl
    show sliceX Try.prog 22 (.slice none 0 0) none (some (.int .i64 0)) none H = some (.value (.slice none 0 0), H)
    unfold sliceX
    rw [hv]
    simp [lslice, hb, okRun, baseOk]
  | some l =>
    have hl : n ≤ l.length := h
    have := slice_vs (P := Try.prog) (t := 22) (es := 1) (l := 0) (h := n) (lo := none) (hi := some (.int .i64 n)) (xs := l.map (Value.int .i64)) (H := H) Try.underlying22 info3 rfl (by simp [vBound]; omega) (by simp [vBound])
    show sliceX Try.prog 22 (slV 1 (some (l.map (Value.int .i64)))) none (some (.int .i64 n)) none H = some (.value (slV 1 (some ((l.take n).map (Value.int .i64)))), H)
    rw [this]
    simp [List.map_take]
set_option maxRecDepth 100000 in
theorem Index59 (o : Option (List Int)) (v : Int) (hl : (o.getD []).length < 2 ^ 63) (H : World) (Q : Value → World → Prop) : FW X 59 #[ints o, .int .i64 v] H Q = Q (.int .i64 (if v ∈ o.getD [] then ((o.getD []).idxOf v : Int) else -1)) H := by
  refine FW.aloneEq ?_ Try.func59 Try.ntmps59 rfl (by simp) ?_ H Q
  · simp [X, plainI, plainDI]
  simp
  refine CE.range (m := (o.getD []).length) (fun k e H' => lk e 0 = ints o ∧ lk e 1 = .int .i64 v ∧ ∀ j (hj : j < (o.getD []).length), j < k → ¬ (o.getD [])[j] = v) ?_ hl ?_ ?_ ?_
  · decide
  · simp
  · rintro k e H' hk h1 h2 ⟨h3, h4, h5⟩
    simp [h1, h2, h3, h4, hk]
    refine gIf_dec (fun h => ?_) (fun h => ?_)
    · simp
      have hmem : v ∈ o.getD [] := by rw [h]; exact List.getElem_mem hk
      rw [if_pos hmem]
      have : (o.getD []).idxOf v = k := by
        unfold List.idxOf
        rw [List.findIdx_eq hk]
        exact ⟨by simp [h], fun j hj => by simpa using h5 j (by omega) hj⟩
      rw [this]
    · simp [h1, h2, h3, h4]
      intro j hj hj2
      by_cases hjk : j = k
      · subst hjk; exact fun e => h e.symm
      · exact h5 j hj (by omega)
  · rintro e H' h1 h2 ⟨h3, h4, h5⟩
    have hno : ¬ v ∈ o.getD [] := fun hm => by
      obtain ⟨j, hj, he⟩ := List.getElem_of_mem hm
      exact h5 j hj hj he
    simp
    exact hno
set_option maxRecDepth 100000 in
theorem Contains31 (o : Option (List Int)) (v : Int) (hl : (o.getD []).length < 2 ^ 63) (H : World) (Q : Value → World → Prop) : FW X 31 #[ints o, .int .i64 v] H Q = Q (.bool (decide (v ∈ o.getD []))) H := by
  refine FW.aloneEq ?_ Try.func31 Try.ntmps31 rfl (by simp) ?_ H Q
  · simp [X, plainI, plainDI]
  by_cases h : v ∈ o.getD []
  · simp [Index59 o v hl, h]
  · simp [Index59 o v hl, h]
set_option maxRecDepth 100000 in
theorem has33 (o : Option (List Int)) (v : Int) (hl : (o.getD []).length < 2 ^ 63) (H : World) (Q : Value → World → Prop) : FW X 33 #[ints o, .int .i64 v] H Q = Q (.int .i64 ((o.getD []).idxOf v : Int)) H := by
  refine FW.aloneEq ?_ Try.func33 Try.ntmps33 rfl (by simp) ?_ H Q
  · simp [X, plainI, plainDI]
  simp
  refine CE.range (m := (o.getD []).length) (fun k e H' => lk e 0 = ints o ∧ lk e 1 = .int .i64 v ∧ lk e 7 = ints o ∧ ∀ j (hj : j < (o.getD []).length), j < k → ¬ (o.getD [])[j] = v) ?_ hl ?_ ?_ ?_
  · decide
  · simp
  · rintro k e H' hk h1 h2 ⟨h3, h4, h7, h5⟩
    simp [h1, h2, h3, h4, h7, hk]
    refine gIf_dec (fun h => ?_) (fun h => ?_)
    · simp
      have : (o.getD []).idxOf v = k := by
        unfold List.idxOf
        rw [List.findIdx_eq hk]
        exact ⟨by simp [h], fun j hj => by simpa using h5 j (by omega) hj⟩
      rw [this]
    · simp [h1, h2, h3, h4, h7]
      intro j hj hj2
      by_cases hjk : j = k
      · subst hjk; exact h
      · exact h5 j hj (by omega)
  · rintro e H' h1 h2 ⟨h3, h4, h7, h5⟩
    have hno : ¬ v ∈ o.getD [] := fun hm => by
      obtain ⟨j, hj, he⟩ := List.getElem_of_mem hm
      exact h5 j hj hj he
    simp [h3]
    rw [List.idxOf_eq_length hno]
set_option maxRecDepth 100000 in
theorem wanted29 (H : World) (Q : Value → World → Prop) : FW X 29 #[] H Q = Q (.agg #[.int .i64 1, .int .i64 0, .int .i64 2, .int .i64 3]) H := by
  refine FW.aloneEq ?_ Try.func29 Try.ntmps29 rfl (by simp) ?_ H Q
  · simp [X]
  simp [allocX, buildQ, fillX, szO, overL, Value.cells]
/-! ### marks -/
def badAt (l : List Int) (m : Int) : Bool := decide (m < 1) || decide (5 < m) || decide (m ∈ l) || ((decide (m = 2) || decide (m = 3)) && !decide (m - 1 ∈ l)) || (decide (4 ∈ l) && !decide (m = 2) && !decide (m = 3))
def marksW : List Int → List Int → Bool
  | _, [] => true
  | pre, m :: l => !badAt pre m && marksW (pre ++ [m]) l
theorem marksW_drop {l : List Int} {k : Nat} (hk : k < l.length) : marksW (l.take k) (l.drop k) = (!badAt (l.take k) l[k] && marksW (l.take (k + 1)) (l.drop (k + 1))) := by
  rw [List.drop_eq_getElem_cons hk]
  show (!badAt (l.take k) l[k] && marksW (l.take k ++ [l[k]]) (l.drop (k + 1))) = _
  rw [List.take_succ_eq_append_getElem hk]
set_option maxRecDepth 100000 in
theorem marks30 (o : Option (List Int)) (hl : (o.getD []).length < 2 ^ 62) (H : World) (Q : Value → World → Prop) : FW X 30 #[ints o] H Q = Q (.bool (marksW [] (o.getD []))) H := by
  refine FW.aloneEq ?_ Try.func30 Try.ntmps30 rfl (by simp) ?_ H Q
  · simp [X, plainI]
  simp
  refine CE.range (m := (o.getD []).length) (fun k e H' => lk e 0 = ints o ∧ lk e 6 = ints o ∧ marksW [] (o.getD []) = marksW ((o.getD []).take k) ((o.getD []).drop k)) ?_ (by omega) ?_ ?_ ?_
  · decide
  · simp
  · rintro k e H' hk h1 h2 ⟨h3, h4, h5⟩
    have htk := fun H => take_ints o (n := k) (by omega) H
    have hg : (o.map (List.take k)).getD [] = (o.getD []).take k := by cases o <;> simp
    have hc := fun v H Q => Contains31 (o.map (List.take k)) v (by rw [hg, List.length_take]; omega) H Q
    rw [hg] at hc
    rw [marksW_drop hk] at h5
    generalize hm : (o.getD [])[k] = m at *
    unfold badAt at h5
    have w2 : IntKind.i64.wrap 1 = 1 := by decide
    have w3 : IntKind.i64.wrap 2 = 2 := by decide
    have hc2 := hc 2
    have hc1 := hc 1
    have hc4 := hc 4
    have hcm := hc m
    clear hc
    by_cases c5 : m = 2
    · subst c5
      generalize decide ((2 : Int) ∈ (o.getD []).take k) = b2 at *
      have e1 : (2 : Int) - 1 = 1 := rfl
      rw [e1] at h5
      generalize decide ((1 : Int) ∈ (o.getD []).take k) = b1 at *
      generalize decide ((4 : Int) ∈ (o.getD []).take k) = b4 at *
      cases b2 <;> cases b1 <;> cases b4 <;> simp at h5 <;> simp [h1, h2, h3, h4, hk, hm, htk, hc1, hc2, hc4, w2, h5]
    by_cases c6 : m = 3
    · subst c6
      have hc3 := hcm
      generalize decide ((3 : Int) ∈ (o.getD []).take k) = b3 at *
      have e1 : (3 : Int) - 1 = 2 := rfl
      rw [e1] at h5
      generalize decide ((2 : Int) ∈ (o.getD []).take k) = b2 at *
      generalize decide ((4 : Int) ∈ (o.getD []).take k) = b4 at *
      cases b2 <;> cases b3 <;> cases b4 <;> simp at h5 <;> simp [h1, h2, h3, h4, hk, hm, htk, hc3, hc2, hc4, w3, h5]
    by_cases c1 : m < 1
    · simp [c1] at h5
      simp [h1, h2, h3, h4, hk, hm, htk, c1, h5]
    by_cases c2 : 5 < m
    · simp [c2] at h5
      simp [h1, h2, h3, h4, hk, hm, htk, c1, c2, h5]
    generalize decide (m ∈ (o.getD []).take k) = bm at *
    generalize decide ((4 : Int) ∈ (o.getD []).take k) = b4 at *
    cases bm <;> cases b4 <;> simp [c1, c2, c5, c6] at h5 <;> simp [h1, h2, h3, h4, hk, hm, htk, c1, c2, c5, c6, hcm, hc4, h5]
  · rintro e H' h1 h2 ⟨h3, h4, h5⟩
    rw [List.drop_length, List.take_length] at h5
    simp
    rw [h5]; rfl
end Go.Proofs.Ytjecafhbhcjoaaa
end
