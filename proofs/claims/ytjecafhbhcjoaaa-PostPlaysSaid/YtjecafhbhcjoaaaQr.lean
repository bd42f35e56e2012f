/- Helpers of this claim: an evaluator over plain values and its laws. -/
import Derived.Test.YtjecafhbhcjoaaaQq
section
set_option linter.unusedVariables false
set_option linter.unusedSimpArgs false
namespace Go.Proofs.Ytjecafhbhcjoaaa
open Go Go.Proofs.Ytjecafhbhcjoaaa.Den
section
variable {p : PP} {q : RP} {m : Nat}
theorem getR_fine {l : List Lt} (hf : ∀ x ∈ l, Fine x) {i : Nat} {x : Lt} (hi : i < l.length) (hx : l[i] = x) : Fine x := by rw [← hx]; exact hf _ (List.getElem_mem hi)
theorem sim_state (h : Sim p q m) (hm : m ≤ 1000) (n now : Int) : (pState p n now).2 = (rState q n now).2 ∧ Sim (pState p n now).1 (rState q n now).1 m := by
  unfold pState rState
  by_cases hb : badR q now
  · rw [if_pos hb, if_pos ((h.bad now).2 hb)]; exact ⟨rfl, h⟩
  rw [if_neg hb, if_neg (fun e => hb ((h.bad now).1 e))]
  have ha := h.at hm hb
  cases hf : findP n (atP p now).all with
  | none =>
    rw [ha.all] at hf
    rw [(find_none ha.num).1 hf]
    exact ⟨rfl, ha⟩
  | some jx =>
    obtain ⟨j, x⟩ := jx
    rw [ha.all] at hf
    obtain ⟨i, hg, hi, hj, h1, h2⟩ := find_some ha.num hf
    rw [hg]
    exact ⟨rfl, ha⟩
theorem sim_with (h : Sim p q m) (hm : m ≤ 1000) (n now : Int) : (pWith p n now).2 = (rWith q n now).2 ∧ Sim (pWith p n now).1 (rWith q n now).1 m := by
  unfold pWith rWith
  by_cases hb : badR q now
  · rw [if_pos hb, if_pos ((h.bad now).2 hb)]; exact ⟨rfl, h⟩
  rw [if_neg hb, if_neg (fun e => hb ((h.bad now).1 e))]
  have ha := h.at hm hb
  cases hf : findP n (atP p now).all with
  | none =>
    rw [ha.all] at hf
    rw [(find_none ha.num).1 hf]
    exact ⟨rfl, ha⟩
  | some jx =>
    obtain ⟨j, x⟩ := jx
    rw [ha.all] at hf
    obtain ⟨i, hg, hi, hj, h1, h2⟩ := find_some ha.num hf
    rw [hg]
    simp only
    by_cases hs : x.st = 1
    · have hsn : ¬ (x.st ≠ 1) := fun h => h hs
      rw [if_neg hsn, if_neg hsn]
      generalize atP p now = p' at *
      generalize atR q now = q' at *
      have hl := ha.len
      have hfx := getR_fine ha.fine hi h1
      have c3 := cntS_set (c := 3) hi { x with st := 6 }
      have c4 := cntS_set (c := 4) hi { x with st := 6 }
      have c5 := cntS_set (c := 5) hi { x with st := 6 }
      have c6 := cntS_set (c := 6) hi { x with st := 6 }
      rw [h1] at c3 c4 c5 c6
      simp [hs] at c3 c4 c5 c6
      have l6 := cntS_len 6 q'.l
      refine ⟨rfl, ha.order, ha.room, ha.pause, ha.now, ha.ord, ha.pos, ?_, ha.num.set hi (by rw [h1]), fun y hy => ?_, by simpa using ha.len, by simpa using ha.put, ?_, ?_, ?_, ?_⟩
      · show p'.all.eraseIdx j = (q'.l.set i { x with st := 6 }).filter liv
        rw [ha.all, both_erase ha.num hi hj h2 (x := { x with st := 6 }) (by simp [liv])]
      · rcases List.mem_or_eq_of_mem_set hy with hy | rfl
        · exact ha.fine y hy
        · exact ⟨by simp, by simp, hfx.2.2⟩
      · show p'.ans = (cntS 3 (q'.l.set i { x with st := 6 }) : Int); rw [ha.ans]; omega
      · show p'.giv = (cntS 4 (q'.l.set i { x with st := 6 }) : Int); rw [ha.giv]; omega
      · show p'.lat = (cntS 5 (q'.l.set i { x with st := 6 }) : Int); rw [ha.lat]; omega
      · show IntKind.i64.wrap (p'.wdr + 1) = (cntS 6 (q'.l.set i { x with st := 6 }) : Int)
        rw [ha.wdr, wrap64 (by omega) (by omega)]; omega
    · rw [if_pos hs, if_pos hs]
      exact ⟨rfl, ha⟩
theorem sim_poll (h : Sim p q m) (hm : m ≤ 1000) (n now : Int) : (pPoll p n now).2 = (rPoll q n now).2 ∧ Sim (pPoll p n now).1 (rPoll q n now).1 m := by
  unfold pPoll rPoll
  by_cases hb : badR q now
  · rw [if_pos hb, if_pos ((h.bad now).2 hb)]; exact ⟨rfl, h⟩
  rw [if_neg hb, if_neg (fun e => hb ((h.bad now).1 e))]
  have ha := h.at hm hb
  cases hf : findP n (atP p now).all with
  | none =>
    rw [ha.all] at hf
    rw [(find_none ha.num).1 hf]
    exact ⟨rfl, ha⟩
  | some jx =>
    obtain ⟨j, x⟩ := jx
    rw [ha.all] at hf
    obtain ⟨i, hg, hi, hj, h1, h2⟩ := find_some ha.num hf
    rw [hg]
    simp only
    have hfx := getR_fine ha.fine hi h1
    obtain ⟨_, h6, _⟩ := getR_at hg
    by_cases t1 : x.told = true
    · rw [if_pos t1, if_pos t1]; exact ⟨rfl, ha⟩
    rw [if_neg t1, if_neg t1]
    by_cases t2 : x.back = true
    · rw [if_pos t2, if_pos t2]; exact ⟨rfl, ha⟩
    rw [if_neg t2, if_neg t2]
    by_cases t3 : x.st ≤ 2
    · have t3' : x.st = 1 ∨ x.st = 2 := by have := hfx.1; omega
      rw [if_pos t3, if_pos t3']; exact ⟨rfl, ha⟩
    have t3' : ¬ (x.st = 1 ∨ x.st = 2) := by omega
    rw [if_neg t3, if_neg t3']
    by_cases t4 : x.st = 4
    · rw [if_pos t4, if_pos t4]; exact ⟨rfl, ha⟩
    rw [if_neg t4, if_neg t4]
    by_cases t5 : x.st = 5
    · rw [if_pos t5, if_pos t5]; exact ⟨rfl, ha⟩
    rw [if_neg t5, if_neg t5]
    refine ⟨rfl, ?_⟩
    have := ha.set hi hj h2 (x := { x with told := true }) h6 (by rw [h1]) hfx (a := (atP p now).ans) (g := (atP p now).giv) (l := (atP p now).lat) (by rw [h1, Int.sub_add_cancel]) (by rw [h1, Int.sub_add_cancel]) (by rw [h1, Int.sub_add_cancel]) (by rw [h1]; exact h6)
    exact this
theorem sim_done (h : Sim p q m) (hm : m ≤ 1000) (n now : Int) (ok : Bool) (r : List UInt8) : (pDone p n now ok r).2 = (rDone q n now ok r).2 ∧ Sim (pDone p n now ok r).1 (rDone q n now ok r).1 m := by
  unfold pDone rDone
  by_cases hr : 1000 < (r.length : Int)
  · rw [if_pos hr, if_pos hr]; exact ⟨rfl, h⟩
  rw [if_neg hr, if_neg hr]
  by_cases hb : badR q now
  · rw [if_pos hb, if_pos ((h.bad now).2 hb)]; exact ⟨rfl, h⟩
  rw [if_neg hb, if_neg (fun e => hb ((h.bad now).1 e))]
  have ha := h.at hm hb
  cases hf : findP n (atP p now).all with
  | none =>
    rw [ha.all] at hf
    rw [(find_none ha.num).1 hf]
    exact ⟨rfl, ha⟩
  | some jx =>
    obtain ⟨j, x⟩ := jx
    rw [ha.all] at hf
    obtain ⟨i, hg, hi, hj, h1, h2⟩ := find_some ha.num hf
    rw [hg]
    simp only
    have hfx := getR_fine ha.fine hi h1
    obtain ⟨_, h6, _⟩ := getR_at hg
    generalize atP p now = p' at *
    generalize atR q now = q' at *
    have hl := ha.len
    have l3 := cntS_len 3 q'.l
    have l4 := cntS_len 4 q'.l
    have l5 := cntS_len 5 q'.l
    have key : ∀ (y : Lt) (a g l : Int), y.st ≠ 6 → y.num = x.num → Fine y → a = p'.ans - (if x.st = 3 then 1 else 0) + (if y.st = 3 then 1 else 0) → g = p'.giv - (if x.st = 4 then 1 else 0) + (if y.st = 4 then 1 else 0) → l = p'.lat - (if x.st = 5 then 1 else 0) + (if y.st = 5 then 1 else 0) →
        Sim { p' with ans := a, giv := g, lat := l, all := p'.all.set j y } { q' with l := q'.l.set i y } m := fun y a g l e1 e2 e3 e4 e5 e6 =>
      ha.set hi hj h2 e1 (by rw [e2, h1]) e3 (by rw [h1]; exact e4) (by rw [h1]; exact e5) (by rw [h1]; exact e6) (by rw [h1]; exact h6)
    have w : ∀ c, c ≤ q'.l.length → IntKind.i64.wrap ((c : Int) + 1) = (c : Int) + 1 := fun c hc => wrap64 (by omega) (by omega)
    by_cases hs : x.st = 2
    · have hsn : ¬ (x.st ≠ 2) := fun h => h hs
      rw [if_neg hsn, if_neg hsn]
      by_cases hok : ok = true
      · rw [if_pos hok, if_pos hok]
        refine ⟨rfl, ?_⟩
        rw [ha.ans, w _ l3, ← ha.ans]
        exact key _ _ _ _ (by simp) rfl ⟨by simp, by simp, hfx.2.2⟩ (by simp [hs]) (by simp [hs]) (by simp [hs])
      · rw [if_neg hok, if_neg hok]
        by_cases ho : overL' x now = true
        · rw [if_pos ho, if_pos ho]
          refine ⟨rfl, ?_⟩
          rw [ha.lat, w _ l5, ← ha.lat]
          exact key _ _ _ _ (by simp) rfl ⟨by simp, by simp, hfx.2.2⟩ (by simp [hs]) (by simp [hs]) (by simp [hs])
        · rw [if_neg ho, if_neg ho]
          by_cases ht : x.tries ≤ x.tried
          · rw [if_pos ht, if_pos ht]
            refine ⟨rfl, ?_⟩
            rw [ha.giv, w _ l4, ← ha.giv]
            exact key _ _ _ _ (by simp) rfl ⟨by simp, by simp, hfx.2.2⟩ (by simp [hs]) (by simp [hs]) (by simp [hs])
          · rw [if_neg ht, if_neg ht, show IntKind.i64.wrap (now + p'.pause) = IntKind.i64.wrap (now + q'.pause) by rw [ha.pause]]
            refine ⟨rfl, ?_⟩
            exact key { x with st := 1, frm := IntKind.i64.wrap (now + q'.pause) } p'.ans p'.giv p'.lat (by simp) rfl ⟨by simp, by simp, hfx.2.2⟩ (by simp [hs]) (by simp [hs]) (by simp [hs])
    · rw [if_pos hs, if_pos hs]
      exact ⟨rfl, ha⟩
theorem sim_waiting (h : Sim p q m) : waitL p.all = waitL q.l := by
  unfold waitL
  rw [h.all, List.filter_filter]
  congr 1
  apply List.filter_congr
  intro x _
  by_cases e : x.st = 1 <;> simp [liv, e]
theorem sim_backs (h : Sim p q m) (hm : m ≤ 1000) (now : Int) : (pBacks p now).2 = (rBacks q now).2 ∧ Sim (pBacks p now).1 (rBacks q now).1 m := by
  unfold pBacks rBacks
  by_cases hb : badR q now
  · rw [if_pos hb, if_pos ((h.bad now).2 hb)]; exact ⟨rfl, h⟩
  rw [if_neg hb, if_neg (fun e => hb ((h.bad now).1 e))]
  have ha := h.at hm hb
  generalize atP p now = p' at *
  generalize atR q now = q' at *
  have e0 : ∀ x ∈ q'.l, (toTell x && liv x) = toTellR x := by
    intro x hx
    have := ha.fine x hx
    unfold Fine at this
    have e : (decide (2 < x.st) && liv x) = (decide (3 ≤ x.st) && decide (x.st ≤ 5)) := by
      unfold liv
      by_cases a : 2 < x.st <;> by_cases b : x.st = 6 <;> simp [a, b] <;> omega
    unfold toTell toTellR
    rw [Bool.and_assoc, e, Bool.and_assoc (x.back && !x.told)]
  have e1 : backsL p'.all = backsR q'.l := by
    unfold backsL backsR
    rw [ha.all, List.filter_filter]
    congr 1
    exact List.filter_congr e0
  refine ⟨by rw [e1], ?_⟩
  have hst : ∀ x, (tellFR x).st = x.st := fun x => by unfold tellFR; split <;> rfl
  have hcnt : ∀ c, cntS c (q'.l.map tellFR) = cntS c q'.l := fun c => by
    unfold cntS
    rw [List.countP_map]
    congr 1
    funext x
    simp [hst]
  refine ⟨ha.order, ha.room, ha.pause, ha.now, ha.ord, ha.pos, ?_, ha.num.map (fun x => by unfold tellFR; split <;> rfl), fun y hy => ?_, by simpa using ha.len, by simpa using ha.put, ?_, ?_, ?_, ?_⟩
  · show p'.all.map tellF = (q'.l.map tellFR).filter liv
    rw [filter_map_liv (fun x => by simp [liv, hst]), ha.all]
    apply List.map_congr_left
    intro x hx
    obtain ⟨hx, hl⟩ := List.mem_filter.1 hx
    have := e0 x hx
    rw [hl, Bool.and_true] at this
    unfold tellF tellFR
    rw [this]
  · obtain ⟨x, hx, rfl⟩ := List.mem_map.1 (show y ∈ q'.l.map tellFR from hy)
    have := ha.fine x hx
    unfold tellFR
    split <;> exact this
  · show p'.ans = (cntS 3 (q'.l.map tellFR) : Int); rw [hcnt]; exact ha.ans
  · show p'.giv = (cntS 4 (q'.l.map tellFR) : Int); rw [hcnt]; exact ha.giv
  · show p'.lat = (cntS 5 (q'.l.map tellFR) : Int); rw [hcnt]; exact ha.lat
  · show p'.wdr = (cntS 6 (q'.l.map tellFR) : Int); rw [hcnt]; exact ha.wdr
end
end Go.Proofs.Ytjecafhbhcjoaaa
end
