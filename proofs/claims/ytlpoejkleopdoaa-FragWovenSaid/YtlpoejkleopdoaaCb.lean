/- Helpers of this claim: an evaluator over plain values and its laws. -/
import Derived.Test.YtlpoejkleopdoaaCw
section
set_option linter.unusedVariables false
set_option linter.unusedSimpArgs false
namespace Go.Proofs.Ytlpoejkleopdoaa
open Go Go.Proofs.Ytlpoejkleopdoaa.Den
abbrev nil0 : Value := .slice none 0 0
/-- A row of lists: those that are there, then zero values. -/
def rowL (ls : List (Option (List Pc))) (c : Nat) : Obj := .cells ((ls.map sl) ++ List.replicate (c - ls.length) nil0).toArray 24 (1, 0)
def neO (ls : List (Option (List Pc))) : List (Option (List Pc)) := ls.filter (fun o => !decide (o.getD [] = []))
abbrev keep : Value := .func (.func 30) #[] #[]
abbrev hp (r n c : Nat) : Value := .slice (some ⟨r, 0, none⟩) n c

/-- A row of the heap whose first cells are told. -/
def RowP (H : World) (r : Nat) (cs : List Value) : Prop := getO H r = some (.cells cs.toArray 24 (1, 0))
theorem one_sl (o : Option (List Pc)) : Value.oneCell' (sl o) = true := one_slV _ _

set_option maxRecDepth 100000 in
/-- IndexFunc over a row of lists. -/
theorem Index51 (ls : List (Option (List Pc))) (r c : Nat) (rest : List Value) (H : World) (hr : RowP H r (ls.map sl ++ rest)) (hl : ls.length < 2 ^ 63) (Q : Value → World → Prop) : FW X 51 #[hp r ls.length c, keep] H Q = Q (.int .i64 (idxI (fun o : Option (List Pc) => decide (o.getD [] = [])) ls)) H := by
  refine FW.eqE (by simp [X]) Try.func51 Try.ntmps51 rfl (by simp) ?_ Q
  simp
  refine CE.range (m := ls.length) (fun k e H' => H' = H ∧ lk e 0 = hp r ls.length c ∧ lk e 1 = keep ∧ ∀ j (hj : j < ls.length), j < k → ¬ (ls[j].getD [] = [])) ?_ hl ?_ ?_ ?_
  · decide
  · simp
  · rintro k e H' hk h1 h2 ⟨rfl, h3, h4, h5⟩
    have hc : (ls.map sl ++ rest)[k]? = some (sl ls[k]) := by
      rw [List.getElem?_append_left (by simpa using hk)]; simp [hk]
    unfold RowP at hr
    simp [h1, h2, h3, h4, hk, hr, hc, call30]
    refine gIf_dec (fun h => ?_) (fun h => ?_)
    · simp
      exact (idxI_at hk (fun j hj => by simpa using h5 j (by omega) hj) (by simp [h])).symm
    · simp [h1, h2, h3, h4]
      intro j hj hj2
      by_cases hjk : j = k
      · subst hjk; exact h
      · exact h5 j hj (by omega)
  · rintro e H' h1 h2 ⟨rfl, h3, h4, h5⟩
    simp
    exact (idxI_none fun j hj => by simpa using h5 j hj hj).symm
theorem neO_take {ls : List (Option (List Pc))} {k : Nat} (hk : k < ls.length) : neO (ls.take (k + 1)) = neO (ls.take k) ++ (if ls[k].getD [] = [] then [] else [ls[k]]) := by
  unfold neO
  rw [List.take_succ_eq_append_getElem hk, List.filter_append]
  congr 1
  by_cases h : ls[k].getD [] = [] <;> simp [h]
theorem neO_len_le (ls : List (Option (List Pc))) : (neO ls).length ≤ ls.length := List.length_filter_le _ _
theorem drop_step {α β : Type} {f : α → β} {w r : List β} {ls : List α} {j : Nat} (h : w.drop j = (ls.drop j).map f ++ r) (hj : j < ls.length) : w.drop (j + 1) = (ls.drop (j + 1)).map f ++ r := by
  have e : w.drop (j + 1) = (w.drop j).drop 1 := by rw [List.drop_drop]
  rw [e, h, List.drop_eq_getElem_cons hj]; rfl
structure DelI (ls : List (Option (List Pc))) (r c : Nat) (H : World) (d j : Nat) (w : List Value) (e : Env) (H' : World) : Prop where
  hd : d = ls.length - j
  hj : j ≤ ls.length
  len : w.length = c
  hi : (neO (ls.take j)).length ≤ j
  hH : H' = setO H r (.cells w.toArray 24 (1, 0))
  w1 : w.take (neO (ls.take j)).length = (neO (ls.take j)).map sl
  w2 : w.drop j = (ls.drop j).map sl ++ List.replicate (c - ls.length) nil0
  l0 : lk e 0 = hp r ls.length c
  l1 : lk e 1 = keep
  l5 : lk e 5 = .int .i64 (neO (ls.take j)).length
  l6 : lk e 6 = .int .i64 j
set_option maxRecDepth 100000 in
/-- DeleteFunc of the lists that are empty, in their row. -/
theorem Delete31 (ls : List (Option (List Pc))) (r c : Nat) (H : World) (hr : getO H r = some (rowL ls c)) (hn : ls.length ≤ c) (hc : c < 2 ^ 40) (Q : Value → World → Prop) :
    FW X 31 #[hp r ls.length c, keep] H Q = Q (hp r (neO ls).length c) (setO H r (rowL (neO ls) c)) := by
  have hlt := getO_lt hr
  have hi := Index51 ls r c _ H hr (by omega)
  refine FW.eqE (by simp [X]) Try.func31 Try.ntmps31 rfl (by simp) ?_ Q
  simp [hi]
  unfold idxI
  cases hf : ls.findIdx? (fun o : Option (List Pc) => decide (o.getD [] = [])) with
  | none =>
    rw [List.findIdx?_eq_none_iff] at hf
    have he : neO ls = ls := by
      unfold neO
      rw [List.filter_eq_self]
      intro o ho
      simpa using hf o ho
    simp [he, set_same hr]
  | some k0 =>
    rw [List.findIdx?_eq_some_iff_getElem] at hf
    obtain ⟨hk0, hk1, hk2⟩ := hf
    have h1 : ¬ ((k0 : Int) = -1) := by omega
    have hw : IntKind.i64.wrap ((k0 : Int) + 1) = ((k0 + 1 : Nat) : Int) := by rw [wrap64 (by omega) (by omega)]; omega
    have hstart : neO (ls.take k0) = ls.take k0 := by
      unfold neO
      rw [List.filter_eq_self]
      intro o ho
      obtain ⟨j, hj, rfl⟩ := List.getElem_of_mem ho
      rw [List.getElem_take]
      have := hk2 j (by simp at hj; omega)
      simpa using this
    simp [h1, hw]
    refine CE.inv (d := ls.length - (k0 + 1)) (fun d e H' => ∃ (j : Nat) (w : List Value), DelI ls r c H d j w e H') ?_ ?_
    · rintro d e H' ⟨j, w, ⟨rfl, hj, hwl, hij, rfl, hw1, hw2, l0, l1, l5, l6⟩⟩
      by_cases hjn : j < ls.length
      · have hjn' : (j : Int) < ls.length := by omega
        have hwj : w[j]? = some (sl ls[j]) := by
          have := congrArg (·[0]?) hw2
          simp only [List.getElem?_drop, Nat.add_zero] at this
          rw [this, List.drop_eq_getElem_cons hjn]; rfl
        have hjc : j < c := by omega
        have hwrap : IntKind.i64.wrap ((j : Int) + 1) = ((j + 1 : Nat) : Int) := by rw [wrap64 (by omega) (by omega)]; omega
        have hwrap2 : IntKind.i64.wrap (((neO (ls.take j)).length : Int) + 1) = (((neO (ls.take j)).length + 1 : Nat) : Int) := by rw [wrap64 (by omega) (by omega)]; omega
        have hi2 : (((neO (ls.take j)).length : Nat) : Int) < ls.length := by omega
        have hin : (neO (ls.take j)).length < ls.length := by omega
        have hic : (neO (ls.take j)).length + 1 ≤ c := by omega
        have hnt := neO_take hjn
        simp [l0, l1, l5, l6, hjn, hjn', hlt, hwl, hwj, call30]
        refine gIf_ndec (fun h => ?_) (fun h => ?_)
        · rw [if_pos h, List.append_nil] at hnt
          simp [l0, l1, l5, l6, hwrap]
          refine ⟨ls.length - (j + 1), ?_, j + 1, w, ⟨rfl, by omega, hwl, by rw [hnt]; omega, rfl, by rw [hnt]; exact hw1, ?_, by simp [l0], by simp [l1], by rw [hnt]; simp [l5], by simp⟩⟩
          · omega
          · exact drop_step hw2 hjn
        · rw [if_neg h] at hnt
          simp [l0, l1, l5, l6, hlt, hwl, hin, hic, hwrap, hwrap2]
          refine ⟨ls.length - (j + 1), ?_, j + 1, w.set (neO (ls.take j)).length (sl ls[j]), ⟨rfl, by omega, by simpa using hwl, by rw [hnt]; simp; omega, rfl, ?_, ?_, by simp [l0], by simp [l1], by rw [hnt]; simp, by simp⟩⟩
          · omega
          · rw [hnt]
            simp only [List.length_append, List.length_cons, List.length_nil, Nat.zero_add]
            rw [List.take_succ_eq_append_getElem (by simp; omega)]
            simp [List.take_set_of_le, hw1]
          · rw [List.drop_set_of_lt (by omega)]; exact drop_step hw2 hjn
      · have hjn' : ¬ ((j : Int) < ls.length) := by omega
        have hje : j = ls.length := by omega
        subst hje
        rw [List.take_length] at hij hw1 l5
        rw [List.drop_length, List.map_nil, List.nil_append] at hw2
        have hwe : w = w.take (neO ls).length ++ (w.drop (neO ls).length) := (List.take_append_drop _ _).symm
        have hrow : overL w.toArray (neO ls).length (List.replicate (ls.length - (neO ls).length) nil0) = ((neO ls).map sl ++ List.replicate (c - (neO ls).length) nil0).toArray := by
          apply Array.ext_getElem?
          intro m
          rw [overL_get]
          simp only [List.size_toArray, List.length_replicate, hwl, List.getElem?_toArray, List.getElem?_replicate]
          by_cases h1 : m < (neO ls).length
          · rw [if_neg (by omega), List.getElem?_append_left (by simpa using h1), ← hw1, List.getElem?_take, if_pos h1]
          · rw [List.getElem?_append_right (by simpa using Nat.le_of_not_lt h1)]
            simp only [List.length_map, List.getElem?_replicate]
            by_cases h2 : m < ls.length
            · rw [if_pos (by omega), if_pos (by omega), if_pos (by omega)]
            · rw [if_neg (by omega)]
              have h3 := congrArg (·[m - ls.length]?) hw2
              simp only [List.getElem?_drop, List.getElem?_replicate] at h3
              rw [show ls.length + (m - ls.length) = m by omega] at h3
              rw [h3]
              by_cases h4 : m < c
              · rw [if_pos (by omega), if_pos (by omega)]
              · rw [if_neg (by omega), if_neg (by omega)]
        have hcl := clear_one Try.prog (t := 22) (e := 24) (e' := 24) (r := r) (off := (neO ls).length) (n := ls.length - (neO ls).length) (c := c - (neO ls).length) (cs := w.toArray) (fr := (1, 0)) (inf := Try.t24) (z := nil0) (H := setO H r (.cells w.toArray 24 (1, 0))) Try.underlying22 info24 zero24 rfl rfl (by simp [hlt]) rfl (by simp [hwl]; omega)
        have hs1 : sliceX Try.prog 22 (hp r ls.length c) (some (.int .i64 (neO ls).length)) none none (setO H r (.cells w.toArray 24 (1, 0))) = some (.value (.slice (some ⟨r, (neO ls).length, none⟩) (ls.length - (neO ls).length) (c - (neO ls).length)), setO H r (.cells w.toArray 24 (1, 0))) := by
          have := slice_heap Try.prog (t := 22) (e := 24) (r := r) (o := 0) (n := ls.length) (c := c) (l := (neO ls).length) (h := ls.length) (lo := some (.int .i64 (neO ls).length)) (hi := none) (cs := w.toArray) (fr := (1, 0)) (inf := Try.t24) (H := setO H r (.cells w.toArray 24 (1, 0))) Try.underlying22 info24 (by simp [hlt]) rfl hn rfl (by simp [vBound]; omega)
          simpa using this
        have hs2 : ∀ o, sliceX Try.prog 22 (hp r ls.length c) none (some (.int .i64 (neO ls).length)) none (setO H r (.cells o 24 (1, 0))) = some (.value (hp r (neO ls).length c), setO H r (.cells o 24 (1, 0))) := by
          intro o
          have := slice_heap Try.prog (t := 22) (e := 24) (r := r) (o := 0) (n := ls.length) (c := c) (l := 0) (h := (neO ls).length) (lo := none) (hi := some (.int .i64 (neO ls).length)) (cs := o) (fr := (1, 0)) (inf := Try.t24) (H := setO H r (.cells o 24 (1, 0))) Try.underlying22 info24 (by simp [hlt]) rfl hn (by simp [vBound]; omega) rfl
          simpa using this
        simp [l0, l1, l5, l6, hjn', hs1, hcl, hs2, hrow]
        rfl
    · have hnt := neO_take hk0
      have h2 : ls[k0].getD [] = [] := by simpa using hk1
      rw [if_pos h2, List.append_nil, hstart] at hnt
      have hl0 : (ls.take k0).length = k0 := by simp; omega
      refine ⟨k0 + 1, ls.map sl ++ List.replicate (c - ls.length) nil0, ⟨rfl, by omega, by simp; omega, by rw [hnt]; omega, (set_same hr).symm, ?_, ?_, by simp, by simp, by rw [hnt, hl0]; simp, by simp⟩⟩
      · rw [hnt, hl0, List.take_append_of_le_length (by simp; omega), List.map_take]
      · rw [List.drop_append_of_le_length (by simp; omega), List.map_drop]
end Go.Proofs.Ytlpoejkleopdoaa
end
