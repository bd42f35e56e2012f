/- Helpers of this claim: an evaluator over plain values and its laws. -/
import Derived.Test.YtjecafhbhcjoaaaQr
section
set_option linter.unusedVariables false
set_option linter.unusedSimpArgs false
namespace Go.Proofs.Ytjecafhbhcjoaaa
open Go Go.Proofs.Ytjecafhbhcjoaaa.Den
theorem busy_eq : ∀ {l : List Lt} (hf : ∀ x ∈ l, Fine x), busyN (l.filter liv) = busyR l := by
  intro l hf
  unfold busyN busyR
  rw [List.countP_filter]
  apply List.countP_congr
  intro x hx
  have := hf x hx
  unfold Fine at this
  unfold liv
  simp
  omega
theorem maxW_V (a b : Int) : maxW a b = maxV b a := by unfold maxW maxV; split <;> split <;> omega
/-- The chosen letter, whatever its place. -/
theorem best_eq {order now : Int} (ho : 1 ≤ order ∧ order ≤ 4) : ∀ (l : List Lt) (k k' : Nat) (b b' : Option (Nat × Lt)), (∀ x ∈ l, Fine x) → (∀ x ∈ l, lateS now x = x) → l.Pairwise (fun a c => a.num < c.num) → (∀ x ∈ l, 0 ≤ x.num ∧ x.num ≤ 1000000) →
    b.map Prod.snd = b'.map Prod.snd → (∀ i y, b = some (i, y) → Fine y ∧ (0 ≤ y.num ∧ y.num ≤ 1000000) ∧ ∀ x ∈ l, y.num < x.num) →
    (bestW order now k b (l.filter liv)).map Prod.snd = (firstW order now k' b' l).map Prod.snd
  | [], k, k', b, b', _, _, _, _, hb, _ => hb
  | x :: l, k, k', b, b', hf, hL, hp, hn, hb, hy => by
    have hfx := hf x (by simp)
    have hLx := hL x (by simp)
    have hnx := hn x (by simp)
    obtain ⟨hp1, hp2⟩ := List.pairwise_cons.1 hp
    have rec' := fun k k' b b' h1 h2 => best_eq (order := order) (now := now) ho l k k' b b' (fun y h => hf y (List.mem_cons_of_mem _ h)) (fun y h => hL y (List.mem_cons_of_mem _ h)) hp2 (fun y h => hn y (List.mem_cons_of_mem _ h)) h1 h2
    have hy' : ∀ i y, b = some (i, y) → Fine y ∧ (0 ≤ y.num ∧ y.num ≤ 1000000) ∧ ∀ x ∈ l, y.num < x.num := fun i y h => ⟨(hy i y h).1, (hy i y h).2.1, fun z hz => (hy i y h).2.2 z (List.mem_cons_of_mem _ hz)⟩
    rw [List.filter_cons]
    unfold firstW
    by_cases h6 : x.st = 6
    · rw [if_neg (by simp [liv, h6]), if_neg (by simp [candR, h6])]
      exact rec' _ _ _ _ hb hy'
    · rw [if_pos (by simp [liv, h6])]
      have e : bestW order now k b (x :: l.filter liv) = bestW order now (k + 1) (if x.st = 1 ∧ x.frm ≤ now ∧ (match (generalizing := false) b with | none => true | some (_, y) => decide (lessW order x y < 0)) = true then some (k, x) else b) (l.filter liv) := rfl
      rw [e]
      have hc : candR now x = decide (x.st = 1 ∧ x.frm ≤ now) := by
        unfold candR
        by_cases h1 : x.st = 1
        · have : overL' x now = false := by
            cases ho : overL' x now with
            | false => rfl
            | true =>
              unfold lateS at hLx
              rw [if_pos ⟨h1, ho⟩] at hLx
              have := congrArg Lt.st hLx
              simp [h1] at this
          simp [h1, this]
        · simp [h1]
      have hbt : (match (generalizing := false) b with | none => true | some (_, y) => decide (lessW order x y < 0)) = beats order x b' := by
        cases b with
        | none =>
          cases b' with
          | none => rfl
          | some iy => cases hb
        | some iy =>
          obtain ⟨i, y⟩ := iy
          cases b' with
          | none => cases hb
          | some iy' =>
            obtain ⟨i', y'⟩ := iy'
            simp at hb
            subst hb
            obtain ⟨hfy, hny, hlt⟩ := hy i y rfl
            have hlt := hlt x (by simp)
            unfold Fine at hfx hfy
            simp only [beats]
            have hd : numD x y = x.num - y.num := by unfold numD; rw [wrap64' (by omega) (by omega)]
            congr 1
            apply propext
            unfold lessW rankW
            by_cases h3 : order = 3
            · rw [if_pos h3, if_pos h3, if_pos h3, wrap64' (by omega) (by omega), wrap64' (by omega) (by omega), wrap64' (by omega) (by omega)]
              unfold orW
              split <;> omega
            rw [if_neg h3, if_neg h3, if_neg h3]
            by_cases h4 : order = 4
            · rw [if_pos h4, if_pos h4, if_pos h4]
              have ux : untW x = if x.unt = 0 then 1000000000001 else x.unt := rfl
              have uy : untW y = if y.unt = 0 then 1000000000001 else y.unt := rfl
              rw [← ux, ← uy]
              have bx : 0 ≤ untW x ∧ untW x ≤ 1000000000001 := by rw [ux]; split <;> omega
              have by' : 0 ≤ untW y ∧ untW y ≤ 1000000000001 := by rw [uy]; split <;> omega
              rw [wrap64' (by omega) (by omega)]
              unfold orW
              split <;> omega
            · rw [if_neg h4, if_neg h4, if_neg h4]
              omega
      have hcond : (x.st = 1 ∧ x.frm ≤ now ∧ (match (generalizing := false) b with | none => true | some (_, y) => decide (lessW order x y < 0)) = true) ↔ (candR now x && beats order x b') = true := by
        rw [hbt, hc]
        simp [and_assoc]
      by_cases hcc : (candR now x && beats order x b') = true
      · rw [if_pos (hcond.2 hcc), if_pos hcc]
        refine rec' _ _ _ _ rfl fun i y h => ?_
        injection h with h; injection h with h1 h2
        subst h2
        exact ⟨hfx, hnx, hp1⟩
      · rw [if_neg (fun h => hcc (hcond.1 h)), if_neg hcc]
        exact rec' _ _ _ _ hb hy'
theorem bestW_st {order now : Int} : ∀ (l : List Lt) (k : Nat) (b : Option (Nat × Lt)), (∀ i y, b = some (i, y) → y.st = 1) → ∀ i y, bestW order now k b l = some (i, y) → y.st = 1
  | [], k, b, hb, i, y, h => hb i y h
  | x :: l, k, b, hb, i, y, h => by
    have e : bestW order now k b (x :: l) = bestW order now (k + 1) (if x.st = 1 ∧ x.frm ≤ now ∧ (match (generalizing := false) b with | none => true | some (_, y) => decide (lessW order x y < 0)) = true then some (k, x) else b) l := rfl
    rw [e] at h
    refine bestW_st l (k + 1) _ (fun i y hi => ?_) i y h
    by_cases c : x.st = 1 ∧ x.frm ≤ now ∧ (match (generalizing := false) b with | none => true | some (_, y) => decide (lessW order x y < 0)) = true
    · rw [if_pos c] at hi
      injection hi with hi
      injection hi with h3 h4
      subst h4
      exact c.1
    · rw [if_neg c] at hi
      exact hb i y hi
section
variable {p : PP} {q : RP} {m : Nat}
theorem sim_next (h : Sim p q m) (hm : m ≤ 1000) (now : Int) : (pNext p now).2 = (rNext q now).2 ∧ Sim (pNext p now).1 (rNext q now).1 m := by
  unfold pNext rNext
  by_cases hb : badR q now
  · rw [if_pos hb, if_pos ((h.bad now).2 hb)]; exact ⟨rfl, h⟩
  rw [if_neg hb, if_neg (fun e => hb ((h.bad now).1 e))]
  have ha := h.at hm hb
  have hlate : ∀ x ∈ (atR q now).l, lateS now x = x := by
    intro x hx
    obtain ⟨y, hy, rfl⟩ := List.mem_map.1 (show x ∈ q.l.map (lateS now) from hx)
    unfold lateS
    by_cases c : y.st = 1 ∧ overL' y now = true
    · rw [if_pos c]; simp
    · rw [if_neg c, if_neg c]
  have hpw : (atR q now).l.Pairwise (fun a c => a.num < c.num) := by
    rw [List.pairwise_iff_getElem]
    intro i j hi hj hij
    rw [ha.num i hi, ha.num j hj]; omega
  have hnn : ∀ x ∈ (atR q now).l, 0 ≤ x.num ∧ x.num ≤ 1000000 := by
    intro x hx
    obtain ⟨i, hi, rfl⟩ := List.getElem_of_mem hx
    have := ha.len
    rw [ha.num i hi]; omega
  have he := best_eq (order := q.order) (now := now) h.ord (atR q now).l 0 0 none none ha.fine hlate hpw hnn rfl (fun i y h => by cases h)
  rw [← ha.all, show q.order = p.order from h.order.symm] at he
  rw [show q.order = p.order from h.order.symm]
  cases hbe : bestW p.order now 0 none (atP p now).all with
  | none =>
    rw [hbe] at he
    cases hfe : firstW p.order now 0 none (atR q now).l with
    | none => exact ⟨rfl, ha⟩
    | some ix => rw [hfe] at he; cases he
  | some jx =>
    obtain ⟨j, x⟩ := jx
    rw [hbe] at he
    cases hfe : firstW p.order now 0 none (atR q now).l with
    | none => rw [hfe] at he; cases he
    | some ix =>
      obtain ⟨i, y⟩ := ix
      rw [hfe] at he
      simp at he
      subst he
      refine ⟨rfl, ?_⟩
      obtain ⟨hj, hjx⟩ := best_at hbe
      obtain ⟨hi, hix⟩ := firstW_spec (atR q now).l (atR q now).l 0 none (by simp) (fun i y h => by cases h) i x hfe
      have hfx := getR_fine ha.fine hi hix
      have hj2 : j < ((atR q now).l.filter liv).length := by rw [← ha.all]; exact hj
      have hjx2 : ((atR q now).l.filter liv)[j] = x := by simp only [← ha.all]; exact hjx
      have hl6 : x.st ≠ 6 := by
        have : x ∈ (atR q now).l.filter liv := by rw [← hjx2]; exact List.getElem_mem hj2
        obtain ⟨_, hl⟩ := List.mem_filter.1 this
        simpa [liv] using hl
      have hst : x.st = 1 := by
        exact bestW_st (atP p now).all 0 none (fun i y h => by cases h) j x hbe
      have := ha.set hi hj2 (by rw [hjx2, hix]) (x := { x with st := 2, tried := IntKind.i64.wrap (x.tried + 1) }) (by simp) (by rw [hix]) ⟨by simp, by simp, hfx.2.2⟩ (a := (atP p now).ans) (g := (atP p now).giv) (l := (atP p now).lat) (by rw [hix]; simp [hst]) (by rw [hix]; simp [hst]) (by rw [hix]; simp [hst]) (by rw [hix]; exact hl6)
      exact this
theorem fineNew {x : Le} (hv : validW x = true) (n : Int) : Fine (newL x n) := by
  unfold validW at hv
  simp at hv
  unfold Fine newL
  simp
  omega
theorem sim_put (h : Sim p q m) (hm : m ≤ 1000) (x : Le) (now : Int) : (pPut p x now).2 = (rPut q x now).2 ∧ Sim (pPut p x now).1 (rPut q x now).1 (m + 1) := by
  unfold pPut rPut
  by_cases hv : validW x = false
  · rw [if_pos hv, if_pos hv]; exact ⟨rfl, h.mono (Nat.le_succ _)⟩
  rw [if_neg hv, if_neg hv]
  by_cases hb : badR q now
  · rw [if_pos hb, if_pos ((h.bad now).2 hb)]; exact ⟨rfl, h.mono (Nat.le_succ _)⟩
  rw [if_neg hb, if_neg (fun e => hb ((h.bad now).1 e))]
  have ha := h.at hm hb
  have hn : (atP p now).now = now := rfl
  unfold pAdd
  rw [hn]
  have hbusy : busyN (atP p now).all = busyR (atR q now).l := by rw [ha.all, busy_eq ha.fine]
  rw [hbusy, ha.room, ha.put]
  generalize hp' : atP p now = p' at *
  generalize hq' : atR q now = q' at *
  by_cases h1 : 0 < x.unt ∧ x.unt < now
  · rw [if_pos h1, if_pos h1]; exact ⟨rfl, ha.mono (Nat.le_succ _)⟩
  rw [if_neg h1, if_neg h1]
  by_cases h2 : q'.room ≤ (busyR q'.l : Int)
  · rw [if_pos h2, if_pos h2]; exact ⟨rfl, ha.mono (Nat.le_succ _)⟩
  rw [if_neg h2, if_neg h2]
  have hl := ha.len
  have hw : IntKind.i64.wrap ((q'.l.length : Int) + 1) = (q'.l.length : Int) + 1 := wrap64 (by omega) (by omega)
  rw [hw]
  have hvt : validW x = true := by cases e : validW x with | true => rfl | false => exact absurd e hv
  have hfn := fineNew hvt ((q'.l.length : Int) + 1)
  have c1 : ∀ c : Int, c ≠ 1 → cntS c (q'.l ++ [newL x ((q'.l.length : Int) + 1)]) = cntS c q'.l := fun c hc => by
    rw [cntS_app, cntS_cons]
    simp [newL, cntS, hc.symm]
  refine ⟨rfl, ha.order, rfl, ha.pause, by rw [← hq']; rfl, ha.ord, ha.pos, ?_, fun i hi => ?_, fun y hy => ?_, by simp; omega, ?_, ?_, ?_, ?_, ?_⟩
  · show p'.all ++ [newL x ((q'.l.length : Int) + 1)] = (q'.l ++ [newL x ((q'.l.length : Int) + 1)]).filter liv
    rw [List.filter_append, ha.all]
    congr 1
  · by_cases e : i < q'.l.length
    · rw [List.getElem_append_left e]; exact ha.num i e
    · have e2 : i = q'.l.length := by simp at hi; omega
      subst e2
      rw [List.getElem_append_right (Nat.le_refl _)]
      simp [newL]
  · rcases List.mem_append.1 (show y ∈ q'.l ++ [newL x ((q'.l.length : Int) + 1)] from hy) with hy | hy
    · exact ha.fine y hy
    · simp at hy; subst hy; exact hfn
  · show (q'.l.length : Int) + 1 = ((q'.l ++ [newL x ((q'.l.length : Int) + 1)]).length : Int)
    simp
  · show p'.ans = (cntS 3 (q'.l ++ [newL x ((q'.l.length : Int) + 1)]) : Int); rw [c1 3 (by decide)]; exact ha.ans
  · show p'.giv = (cntS 4 (q'.l ++ [newL x ((q'.l.length : Int) + 1)]) : Int); rw [c1 4 (by decide)]; exact ha.giv
  · show p'.lat = (cntS 5 (q'.l ++ [newL x ((q'.l.length : Int) + 1)]) : Int); rw [c1 5 (by decide)]; exact ha.lat
  · show p'.wdr = (cntS 6 (q'.l ++ [newL x ((q'.l.length : Int) + 1)]) : Int); rw [c1 6 (by decide)]; exact ha.wdr
theorem sim_when (h : Sim p q m) (hm : m ≤ 1000) (now : Int) : (pWhen p now).2 = (rWhen q now).2 ∧ Sim (pWhen p now).1 (rWhen q now).1 m := by
  unfold pWhen rWhen
  by_cases hb : badR q now
  · rw [if_pos hb, if_pos ((h.bad now).2 hb)]; exact ⟨rfl, h⟩
  rw [if_neg hb, if_neg (fun e => hb ((h.bad now).1 e))]
  have ha := h.at hm hb
  have hpos : 0 ≤ now := by unfold badR at hb; have := h.pos; omega
  have key : ∀ (l : List Lt) (a : Int) (b : Int × Bool), (a < 0 ↔ b.2 = false) → (b.2 = true → a = b.1) → ((l.filter liv).foldl (whenF now) a < 0 ↔ (l.foldl (whenG now) b).2 = false) ∧ ((l.foldl (whenG now) b).2 = true → (l.filter liv).foldl (whenF now) a = (l.foldl (whenG now) b).1) := by
    intro l
    induction l with
    | nil => intro a b h1 h2; exact ⟨h1, h2⟩
    | cons x l ih =>
      intro a b h1 h2
      rw [List.filter_cons, List.foldl_cons]
      have hge : 0 ≤ maxV now x.frm := by unfold maxV; split <;> omega
      by_cases h6 : x.st = 6
      · rw [if_neg (by simp [liv, h6])]
        have : whenG now b x = b := by unfold whenG; rw [if_neg (by simp [h6])]
        rw [this]; exact ih a b h1 h2
      · rw [if_pos (by simp [liv, h6]), List.foldl_cons]
        unfold whenF whenG
        rw [maxW_V]
        by_cases hc : x.st = 1 ∧ maxV now x.frm ≤ 1000000000000 ∧ overL' x (maxV now x.frm) = false ∧ (b.2 = false ∨ maxV now x.frm < b.1)
        · rw [if_pos hc, if_pos ⟨hc.1, hc.2.2.1, hc.2.1, by
            rcases hc.2.2.2 with h | h
            · exact .inl (h1.2 h)
            · by_cases hb2 : b.2 = true
              · exact .inr (by rw [h2 hb2]; exact h)
              · exact .inl (h1.2 (by simpa using hb2))⟩]
          exact ih _ _ (by simp; omega) (fun _ => rfl)
        · rw [if_neg hc, if_neg (fun h => hc ⟨h.1, h.2.2.1, h.2.1, by
            rcases h.2.2.2 with h | h
            · exact .inl (h1.1 h)
            · by_cases hb2 : b.2 = true
              · exact .inr (by rw [← h2 hb2]; exact h)
              · exact .inl (by simpa using hb2)⟩)]
          exact ih _ _ h1 h2
  have k := key (atR q now).l (-1) (0, false) (by simp) (by simp)
  have e1 : whenL now (atP p now).all = ((atR q now).l.filter liv).foldl (whenF now) (-1) := by unfold whenL; rw [ha.all]
  have e2 : whenGL now (atR q now).l = (atR q now).l.foldl (whenG now) (0, false) := rfl
  rw [← e1, ← e2] at k
  by_cases hw : (whenGL now (atR q now).l).2 = false
  · rw [if_pos (k.1.2 hw), if_pos hw]; exact ⟨rfl, ha⟩
  · rw [if_neg (fun e => hw (k.1.1 e)), if_neg hw, k.2 (by simpa using hw)]; exact ⟨rfl, ha⟩
end
end Go.Proofs.Ytjecafhbhcjoaaa
end
