/- Helpers of this claim: an evaluator over plain values and its laws. -/
import Derived.Test.YtmmmdmandocbhaaNa
section
set_option linter.unusedVariables false
set_option linter.unusedSimpArgs false
namespace Go.Proofs.Ytmmmdmandocbhaa
open Go Go.Proofs.Ytmmmdmandocbhaa.Den
/-- What an act makes of a network (but 11). -/
def pDo (n : NN) (x : Ac) : NN :=
  if x.kind = 1 then pSet n x.frm x.to x.lk else
  if x.kind = 12 then pPart n (x.sides.getD []) else
  if x.kind = 13 then pHeal n else
  if x.kind = 14 then pTurn n x.frm true else
  if x.kind = 15 then pTurn n x.frm false else
  if 3 ≤ x.kind ∧ x.kind ≤ 8 then pSend n x.frm x.to x.body else n
theorem inv_mono {n : NN} {T : Nat} (h : Inv n T) (hT : T < 100000) : Inv n (T + 1) :=
  { h with id1 := by have := h.id1; omega, T := by omega }
theorem inv_part {n : NN} {T : Nat} (h : Inv n T) (l : List Int) : Inv (pPart n l) T := by
  unfold pPart
  split
  · exact { h with us := ⟨h.us.lo, h.us.hi, h.us.len⟩, ok := ⟨h.ok.fb, h.ok.so, h.ok.len⟩ }
  · exact h
theorem inv_turn {n : NN} {T : Nat} (h : Inv n T) (x : Int) (d : Bool) : Inv (pTurn n x d) T := by
  unfold pTurn
  split
  · exact { h with us := ⟨h.us.lo, h.us.hi, h.us.len⟩, ok := ⟨h.ok.fb, h.ok.so, h.ok.len⟩ }
  · exact h
theorem inv_heal {n : NN} {T : Nat} (h : Inv n T) : Inv (pHeal n) T :=
  { h with us := ⟨h.us.lo, h.us.hi, h.us.len⟩, ok := ⟨h.ok.fb, h.ok.so, h.ok.len⟩ }
theorem inv_do {n : NN} {T : Nat} (h : Inv n T) (hT : T < 100000) (x : Ac) : Inv (pDo n x) (T + 1) := by
  unfold pDo
  split
  · exact inv_mono (inv_set h _ _ _) hT
  split
  · exact inv_mono (inv_part h _) hT
  split
  · exact inv_mono (inv_heal h) hT
  split
  · exact inv_mono (inv_turn h _ _) hT
  split
  · exact inv_mono (inv_turn h _ _) hT
  split
  · exact inv_send h hT _ _ _
  · exact inv_mono h hT
set_option maxRecDepth 100000 in
theorem do16 {H : World} {b : Nat} {n : NN} {vn vf : Value} (st : NSt H b n vn vf) {T : Nat} (iv : Inv n T) (x : Ac) (hl : (x.sides.getD []).length < 2 ^ 62) {Q : Value → World → Prop}
    (hq : ∀ H' vf', NSt H' b (pDo n x) vn vf' → FrN H H' b vf vf' → Q (.tuple #[]) H') : FW X 16 #[p0 b, encA x] H Q := by
  refine FW.walk (by simp [X, sp17_no]) Try.func16 Try.ntmps16 rfl (by simp) ?_
  have st1 := st.push (.cells (cellsA x) 34 (0, 0))
  have fr1 : FrN H (pushObj H (.cells (cellsA x) 34 (0, 0))) b vf vf := FrN.push _
  have ga : getO (pushObj H (.cells (cellsA x) 34 (0, 0))) H.heap.size = some (.cells (cellsA x) 34 (0, 0)) := by rw [get_push, if_pos rfl]
  have h1 := iv.h1
  have h2 := iv.h2
  simp [szO]
  change NSt (pushObj H (.cells #[.int .i64 x.kind, .int .i64 x.frm, .int .i64 x.to, .int .i64 x.time, .int .i64 x.lk.delay, .int .i64 x.lk.jitter, .int .i64 x.lk.loss, .int .i64 x.lk.dbl, .string (sB x.body), sidesV x.sides] 34 (0, 0))) b n vn vf at st1
  change FrN H (pushObj H (.cells #[.int .i64 x.kind, .int .i64 x.frm, .int .i64 x.to, .int .i64 x.time, .int .i64 x.lk.delay, .int .i64 x.lk.jitter, .int .i64 x.lk.loss, .int .i64 x.lk.dbl, .string (sB x.body), sidesV x.sides] 34 (0, 0))) b vf vf at fr1
  change getO (pushObj H (.cells #[.int .i64 x.kind, .int .i64 x.frm, .int .i64 x.to, .int .i64 x.time, .int .i64 x.lk.delay, .int .i64 x.lk.jitter, .int .i64 x.lk.loss, .int .i64 x.lk.dbl, .string (sB x.body), sidesV x.sides] 34 (0, 0))) H.heap.size = some (.cells #[.int .i64 x.kind, .int .i64 x.frm, .int .i64 x.to, .int .i64 x.time, .int .i64 x.lk.delay, .int .i64 x.lk.jitter, .int .i64 x.lk.loss, .int .i64 x.lk.dbl, .string (sB x.body), sidesV x.sides] 34 (0, 0)) at ga
  generalize hHa : pushObj H (.cells #[.int .i64 x.kind, .int .i64 x.frm, .int .i64 x.to, .int .i64 x.time, .int .i64 x.lk.delay, .int .i64 x.lk.jitter, .int .i64 x.lk.loss, .int .i64 x.lk.dbl, .string (sB x.body), sidesV x.sides] 34 (0, 0)) = Ha at *
  have dt : ∀ m : Int, x.kind = m → (decide (x.kind = m)) = true := fun m h => decide_eq_true h
  by_cases k1 : x.kind = 1
  · have e : pDo n x = pSet n x.frm x.to x.lk := by simp [pDo, k1]
    rw [e] at hq
    have d1 := decide_eq_true k1
    simp [ga, d1]
    refine set21 st1 h2 x.frm x.to x.lk fun H' st' fr' => ?_
    simp
    exact hq _ _ st' (fr1.trans fr')
  by_cases k12 : x.kind = 12
  · have e : pDo n x = pPart n (x.sides.getD []) := by simp [pDo, k12]
    rw [e] at hq
    have d1 := decide_eq_false k1
    have d12 := decide_eq_true k12
    simp [ga, d1, d12]
    refine part28 st1 h1 h2 x.sides hl fun H' st' fr' => ?_
    simp
    exact hq _ _ st' (fr1.trans fr')
  by_cases k13 : x.kind = 13
  · have e : pDo n x = pHeal n := by simp [pDo, k13]
    rw [e] at hq
    have d1 := decide_eq_false k1
    have d12 := decide_eq_false k12
    have d13 := decide_eq_true k13
    simp [ga, d1, d12, d13]
    refine heal30 st1 fun H' st' fr' => ?_
    simp
    exact hq _ _ st' (fr1.trans fr')
  by_cases k14 : x.kind = 14
  · have e : pDo n x = pTurn n x.frm true := by simp [pDo, k14]
    rw [e] at hq
    have d1 := decide_eq_false k1
    have d12 := decide_eq_false k12
    have d13 := decide_eq_false k13
    have d14 := decide_eq_true k14
    simp [ga, d1, d12, d13, d14]
    refine down32 st1 h2 x.frm fun H' st' fr' => ?_
    simp
    exact hq _ _ st' (fr1.trans fr')
  by_cases k15 : x.kind = 15
  · have e : pDo n x = pTurn n x.frm false := by simp [pDo, k15]
    rw [e] at hq
    have d1 := decide_eq_false k1
    have d12 := decide_eq_false k12
    have d13 := decide_eq_false k13
    have d14 := decide_eq_false k14
    have d15 := decide_eq_true k15
    simp [ga, d1, d12, d13, d14, d15]
    refine up34 st1 h2 x.frm fun H' st' fr' => ?_
    simp
    exact hq _ _ st' (fr1.trans fr')
  have d1 := decide_eq_false k1
  have d12 := decide_eq_false k12
  have d13 := decide_eq_false k13
  have d14 := decide_eq_false k14
  have d15 := decide_eq_false k15
  by_cases ks : 3 ≤ x.kind ∧ x.kind ≤ 8
  · have e : pDo n x = pSend n x.frm x.to x.body := by simp only [pDo, k1, k12, k13, k14, k15, if_false, if_pos ks]
    rw [e] at hq
    obtain ⟨ks1, ks2⟩ := ks
    by_cases k3 : x.kind = 3
    · have d3 := decide_eq_true k3
      simp [ga, d1, d12, d13, d14, d15, d3]
      refine send11 st1 iv x.frm x.to x.body fun H' vf' st' fr' => ?_
      simp
      exact hq _ _ st' (fr1.trans fr')
    have d3 := decide_eq_false k3
    by_cases k4 : x.kind = 4
    · have d4 := decide_eq_true k4
      simp [ga, d1, d12, d13, d14, d15, d3, d4]
      refine send11 st1 iv x.frm x.to x.body fun H' vf' st' fr' => ?_
      simp
      exact hq _ _ st' (fr1.trans fr')
    have d4 := decide_eq_false k4
    by_cases k5 : x.kind = 5
    · have d5 := decide_eq_true k5
      simp [ga, d1, d12, d13, d14, d15, d3, d4, d5]
      refine send11 st1 iv x.frm x.to x.body fun H' vf' st' fr' => ?_
      simp
      exact hq _ _ st' (fr1.trans fr')
    have d5 := decide_eq_false k5
    by_cases k6 : x.kind = 6
    · have d6 := decide_eq_true k6
      simp [ga, d1, d12, d13, d14, d15, d3, d4, d5, d6]
      refine send11 st1 iv x.frm x.to x.body fun H' vf' st' fr' => ?_
      simp
      exact hq _ _ st' (fr1.trans fr')
    have d6 := decide_eq_false k6
    by_cases k7 : x.kind = 7
    · have d7 := decide_eq_true k7
      simp [ga, d1, d12, d13, d14, d15, d3, d4, d5, d6, d7]
      refine send11 st1 iv x.frm x.to x.body fun H' vf' st' fr' => ?_
      simp
      exact hq _ _ st' (fr1.trans fr')
    have d7 := decide_eq_false k7
    have d8 : decide (x.kind = 8) = true := decide_eq_true (by omega)
    simp [ga, d1, d12, d13, d14, d15, d3, d4, d5, d6, d7, d8]
    refine send11 st1 iv x.frm x.to x.body fun H' vf' st' fr' => ?_
    simp
    exact hq _ _ st' (fr1.trans fr')
  · have e : pDo n x = n := by simp only [pDo, k1, k12, k13, k14, k15, if_false, if_neg ks]
    rw [e] at hq
    have d3 : decide (x.kind = 3) = false := decide_eq_false (by omega)
    have d4 : decide (x.kind = 4) = false := decide_eq_false (by omega)
    have d5 : decide (x.kind = 5) = false := decide_eq_false (by omega)
    have d6 : decide (x.kind = 6) = false := decide_eq_false (by omega)
    have d7 : decide (x.kind = 7) = false := decide_eq_false (by omega)
    have d8 : decide (x.kind = 8) = false := decide_eq_false (by omega)
    simp [ga, d1, d12, d13, d14, d15, d3, d4, d5, d6, d7, d8]
    exact hq _ _ st1 fr1
end Go.Proofs.Ytmmmdmandocbhaa
end

section
set_option linter.unusedVariables false
set_option linter.unusedSimpArgs false
namespace Go.Proofs.Ytmmmdmandocbhaa
open Go Go.Proofs.Ytmmmdmandocbhaa.Den
def delayOf (n : NN) (x y : Int) : Int := if eLink n x y = 0 then (rLink n x y).delay else 0
/-- What is written down of a send. -/
def notedP (n n' : NN) (x y : Int) (body : List UInt8) : Value := encP ⟨n.next, x, y, n.now + delayOf n' x y, body, false⟩
theorem told_send {n : NN} {T : Nat} (iv : Inv n T) {S : List (Int × Value)} {c : Int → Int} {tw : Int} (h : Told n.fl n.next n.dbl S c tw) {x y : Int} {body : List UInt8} (he : eSend n x y body = 0) :
    Told (pSend n x y body).fl (pSend n x y body).next (pSend n x y body).dbl (putM n.next (notedP n (pSend n x y body) x y body) S) c tw ∧ (pSend n x y body).now = n.now := by
  have hp : pSend n x y body = pTake n x y body := by simp [pSend, he]
  obtain ⟨hh, _, _, _⟩ := eSend_has he
  rw [hp]
  clear hp
  have key : ∀ n' : NN, n'.links = n.links → n'.hosts = n.hosts → delayOf n' x y = if x = y then 0 else (lnk n x y).delay := fun n' e1 e2 => by
    have hb : hasB n' x y := by unfold hasB; rw [e2]; exact hh
    have hnn : ¬ ¬ hasB n' x y := fun h => h hb
    have hl : lnk n' x y = lnk n x y := by unfold lnk; rw [e1]
    by_cases e : x = y
    · have h10 : eLink n' x y = 10 := by unfold eLink; rw [if_neg hnn, if_pos e]
      unfold delayOf
      rw [h10, if_neg (by decide), if_pos e]
    · have h0 : eLink n' x y = 0 := by unfold eLink; rw [if_neg hnn, if_neg e]
      unfold delayOf rLink
      rw [h0, if_pos rfl, if_pos rfl, if_neg e, hl]
  obtain ⟨u, hu⟩ := pNum_snd (pSent n)
  have hk := pNum_fst (n := pSent n) iv.nums
  have hlk := lnk_ok iv x y
  unfold vLink at hlk
  have hlk := of_decide_eq_true hlk
  unfold pTake
  by_cases hab : x = y
  · rw [if_pos hab]
    have hd := key (pPut (pSent n) (newF n x y body)) rfl rfl
    rw [if_pos hab] at hd
    refine ⟨?_, rfl⟩
    unfold notedP
    rw [hd]
    exact h.put1 (x := newF n x y body) (t := n.now + 0) rfl rfl (by show n.now + 0 ≤ n.now; omega)
  · rw [if_neg hab]
    by_cases hls : sid n x ≠ sid n y ∨ (pNum (pSent n)).1.tmod 100 < (lnk n x y).loss
    · rw [if_pos hls, hu]
      exact ⟨h.lost _, rfl⟩
    · rw [if_neg hls, hu]
      have hq : 0 ≤ ((pNum (pSent n)).1.tdiv 10000).tmod ((lnk n x y).jitter + 1) := Int.tmod_nonneg _ (Int.tdiv_nonneg hk.1 (by decide))
      generalize hL : lnk n x y = L at *
      generalize hK : (pNum (pSent n)).1 = k at *
      have hlt : n.now + L.delay ≤ (late (newF n x y body) L k).time := by show n.now + L.delay ≤ n.now + (L.delay + (k.tdiv 10000).tmod (L.jitter + 1)); omega
      by_cases hdb : (k.tdiv 100).tmod 100 < L.dbl
      · rw [if_pos hdb]
        have hd := key (pPut (pDbl (pPut { pSent n with used := u } (late (newF n x y body) L k))) (again (late (newF n x y body) L k) L)) rfl rfl
        rw [if_neg hab] at hd
        refine ⟨?_, rfl⟩
        unfold notedP
        rw [hd]
        exact h.put2 iv.ok.so (x := late (newF n x y body) L k) (y := again (late (newF n x y body) L k) L) (t := n.now + L.delay) rfl rfl hlt rfl rfl rfl rfl rfl (by show (late (newF n x y body) L k).time < (late (newF n x y body) L k).time + (L.delay + 1); omega)
      · rw [if_neg hdb]
        have hd := key (pPut { pSent n with used := u } (late (newF n x y body) L k)) rfl rfl
        rw [if_neg hab] at hd
        refine ⟨?_, rfl⟩
        unfold notedP
        rw [hd]
        exact h.put1 (x := late (newF n x y body) L k) (t := n.now + L.delay) rfl rfl hlt
theorem told_step {n : NN} {T : Nat} (iv : Inv n T) {S : List (Int × Value)} {c : Int → Int} {tw : Int} (h : Told n.fl n.next n.dbl S c tw) :
    Told (oStep n ++ (pStep n).fl) (pStep n).next (pStep n).dbl S c tw ∧ n.now ≤ (pStep n).now ∧ ∀ y ∈ oStep n, y.time = (pStep n).now := by
  have none_ : ∀ n' o, n' = n → o = [] → Told (o ++ n'.fl) n'.next n'.dbl S c tw ∧ n.now ≤ n'.now ∧ ∀ y ∈ o, y.time = n'.now := fun n' o e1 e2 => by
    subst e1 e2
    exact ⟨h, Int.le_refl _, fun y hy => (List.not_mem_nil hy).elim⟩
  unfold oStep pStep
  by_cases h0 : eNext n = 0
  rotate_left
  · rw [if_neg h0, if_neg h0]; exact none_ _ _ rfl rfl
  rw [if_pos h0, if_pos h0]
  unfold oPass pPass
  by_cases h1 : pPassOk n (tNext n)
  rotate_left
  · rw [if_neg h1, if_neg h1]; exact none_ _ _ rfl rfl
  rw [if_pos h1, if_pos h1]
  have hfl : (pK { n with now := tNext n } n.fl (cntT n.fl (tNext n))).fl = n.fl.drop (cntT n.fl (tNext n)) := rfl
  rw [hfl]
  refine ⟨h.sub ?_, h1.1, fun y hy => ?_⟩
  · have := (List.filter_sublist (l := n.fl.take (cntT n.fl (tNext n))) (p := arrv n)).append (List.Sublist.refl (n.fl.drop (cntT n.fl (tNext n))))
    rwa [List.take_append_drop] at this
  · show y.time = tNext n
    have hy := (List.mem_filter.1 hy).1
    have htw : n.fl.take (cntT n.fl (tNext n)) = n.fl.takeWhile fun f => decide (f.time ≤ tNext n) := (List.prefix_iff_eq_take.1 (List.takeWhile_prefix _)).symm
    rw [htw] at hy
    have hle := of_decide_eq_true (List.all_eq_true.1 List.all_takeWhile y hy)
    have hmem := (List.takeWhile_prefix _).subset hy
    have hso := iv.ok.so
    unfold eNext at h0
    unfold tNext at hle ⊢
    cases hf : n.fl with
    | nil => rw [hf] at hmem; exact (List.not_mem_nil hmem).elim
    | cons f l =>
      rw [hf] at hmem hso hle
      rcases List.mem_cons.1 hmem with rfl | hm
      · rfl
      · have := (List.pairwise_cons.1 hso).1 y hm
        simp only at hle ⊢
        unfold kLt at this
        omega
theorem told_do {n : NN} {x : Ac} (h3 : ¬ (3 ≤ x.kind ∧ x.kind ≤ 8)) : (pDo n x).fl = n.fl ∧ (pDo n x).next = n.next ∧ (pDo n x).dbl = n.dbl ∧ (pDo n x).now = n.now := by
  unfold pDo
  split
  · unfold pSet; split <;> exact ⟨rfl, rfl, rfl, rfl⟩
  split
  · unfold pPart; split <;> exact ⟨rfl, rfl, rfl, rfl⟩
  split
  · exact ⟨rfl, rfl, rfl, rfl⟩
  split
  · unfold pTurn; split <;> exact ⟨rfl, rfl, rfl, rfl⟩
  split
  · unfold pTurn; split <;> exact ⟨rfl, rfl, rfl, rfl⟩
  exact ⟨rfl, rfl, rfl, rfl⟩
theorem send_not {n : NN} {x y : Int} {body : List UInt8} (h : eSend n x y body ≠ 0) : pSend n x y body = n := by simp [pSend, h]
theorem told_new (h : Int) (l : List Int) : Told (netZ h l ⟨1, 0, 0, 0⟩).fl (netZ h l ⟨1, 0, 0, 0⟩).next (netZ h l ⟨1, 0, 0, 0⟩).dbl [] (fun _ => 0) 0 :=
  ⟨fun f hf => (List.not_mem_nil hf).elim, fun f hf => (List.not_mem_nil hf).elim, .nil, fun f hf => (List.not_mem_nil hf).elim, fun _ _ => rfl, fun _ => by decide, Int.le_refl _, Int.le_refl _⟩
end Go.Proofs.Ytmmmdmandocbhaa
end
