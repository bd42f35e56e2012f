/- Helpers of this claim: an evaluator over plain values and its laws. -/
import Derived.Test.YtmmmdmandocbhaaNp
section
set_option linter.unusedVariables false
set_option linter.unusedSimpArgs false
namespace Go.Proofs.Ytmmmdmandocbhaa
open Go Go.Proofs.Ytmmmdmandocbhaa.Den
def delayOf (n : NN) (x y : Int) : Int := if eLink n x y = 0 then (rLink n x y).delay else 0
/-- What is written down of a send. -/
def notedP (n n' : NN) (x y : Int) (body : List UInt8) : Value := encP ⟨n.next, x, y, n.now + delayOf n' x y, body, false⟩
theorem told_send {n : NN} {T : Nat} (iv : Inv n T) {S : List (Int × Value)} {c : Int → Int} {tw : Int} (h : Told n.fl n.next n.dbl S c tw) {x y : Int} {body : List UInt8} (he : eSend n x y body = 0) :
    Told (pSend n x y body).fl (pSend n x y body).next (pSend n x y body).dbl (putM n.next (notedP n (pSend n x y body) x y body) S) c tw ∧ (pSend n x y body).now = n.now := by
  have hp : pSend n x y body = pTake n x y body := by simp [pSend, he]
  obtain ⟨hh, _, _, _⟩ := eSend_has he
  rw [hp]
  clear hp
  have key : ∀ n' : NN, n'.links = n.links → n'.hosts = n.hosts → delayOf n' x y = if x = y then 0 else (lnk n x y).delay := fun n' e1 e2 => by
    have hb : hasB n' x y := by unfold hasB; rw [e2]; exact hh
    have hnn : ¬ ¬ hasB n' x y := fun h => h hb
    have hl : lnk n' x y = lnk n x y := by unfold lnk; rw [e1]
    by_cases e : x = y
    · have h10 : eLink n' x y = 10 := by unfold eLink; rw [if_neg hnn, if_pos e]
      unfold delayOf
      rw [h10, if_neg (by decide), if_pos e]
    · have h0 : eLink n' x y = 0 := by unfold eLink; rw [if_neg hnn, if_neg e]
      unfold delayOf rLink
      rw [h0, if_pos rfl, if_pos rfl, if_neg e, hl]
  obtain ⟨u, hu⟩ := pNum_snd (pSent n)
  have hk := pNum_fst (n := pSent n) iv.nums
  have hlk := lnk_ok iv x y
  unfold vLink at hlk
  have hlk := of_decide_eq_true hlk
  unfold pTake
  by_cases hab : x = y
  · rw [if_pos hab]
    have hd := key (pPut (pSent n) (newF n x y body)) rfl rfl
    rw [if_pos hab] at hd
    refine ⟨?_, rfl⟩
    unfold notedP
    rw [hd]
    exact h.put1 (x := newF n x y body) (t := n.now + 0) rfl rfl (by show n.now + 0 ≤ n.now; omega)
  · rw [if_neg hab]
    by_cases hls : sid n x ≠ sid n y ∨ (pNum (pSent n)).1.tmod 100 < (lnk n x y).loss
    · rw [if_pos hls, hu]
      exact ⟨h.lost _, rfl⟩
    · rw [if_neg hls, hu]
      have hq : 0 ≤ ((pNum (pSent n)).1.tdiv 10000).tmod ((lnk n x y).jitter + 1) := Int.tmod_nonneg _ (Int.tdiv_nonneg hk.1 (by decide))
      generalize hL : lnk n x y = L at *
      generalize hK : (pNum (pSent n)).1 = k at *
      have hlt : n.now + L.delay ≤ (late (newF n x y body) L k).time := by show n.now + L.delay ≤ n.now + (L.delay + (k.tdiv 10000).tmod (L.jitter + 1)); omega
      by_cases hdb : (k.tdiv 100).tmod 100 < L.dbl
      · rw [if_pos hdb]
        have hd := key (pPut (pDbl (pPut { pSent n with used := u } (late (newF n x y body) L k))) (again (late (newF n x y body) L k) L)) rfl rfl
        rw [if_neg hab] at hd
        refine ⟨?_, rfl⟩
        unfold notedP
        rw [hd]
        exact h.put2 iv.ok.so (x := late (newF n x y body) L k) (y := again (late (newF n x y body) L k) L) (t := n.now + L.delay) rfl rfl hlt rfl rfl rfl rfl rfl (by show (late (newF n x y body) L k).time < (late (newF n x y body) L k).time + (L.delay + 1); omega)
      · rw [if_neg hdb]
        have hd := key (pPut { pSent n with used := u } (late (newF n x y body) L k)) rfl rfl
        rw [if_neg hab] at hd
        refine ⟨?_, rfl⟩
        unfold notedP
        rw [hd]
        exact h.put1 (x := late (newF n x y body) L k) (t := n.now + L.delay) rfl rfl hlt
theorem told_step {n : NN} {T : Nat} (iv : Inv n T) {S : List (Int × Value)} {c : Int → Int} {tw : Int} (h : Told n.fl n.next n.dbl S c tw) :
    Told (oStep n ++ (pStep n).fl) (pStep n).next (pStep n).dbl S c tw ∧ n.now ≤ (pStep n).now ∧ ∀ y ∈ oStep n, y.time = (pStep n).now := by
  have none_ : ∀ n' o, n' = n → o = [] → Told (o ++ n'.fl) n'.next n'.dbl S c tw ∧ n.now ≤ n'.now ∧ ∀ y ∈ o, y.time = n'.now := fun n' o e1 e2 => by
    subst e1 e2
    exact ⟨h, Int.le_refl _, fun y hy => (List.not_mem_nil hy).elim⟩
  unfold oStep pStep
  by_cases h0 : eNext n = 0
  rotate_left
  · rw [if_neg h0, if_neg h0]; exact none_ _ _ rfl rfl
  rw [if_pos h0, if_pos h0]
  unfold oPass pPass
  by_cases h1 : pPassOk n (tNext n)
  rotate_left
  · rw [if_neg h1, if_neg h1]; exact none_ _ _ rfl rfl
  rw [if_pos h1, if_pos h1]
  have hfl : (pK { n with now := tNext n } n.fl (cntT n.fl (tNext n))).fl = n.fl.drop (cntT n.fl (tNext n)) := rfl
  rw [hfl]
  refine ⟨h.sub ?_, h1.1, fun y hy => ?_⟩
  · have := (List.filter_sublist (l := n.fl.take (cntT n.fl (tNext n))) (p := arrv n)).append (List.Sublist.refl (n.fl.drop (cntT n.fl (tNext n))))
    rwa [List.take_append_drop] at this
  · show y.time = tNext n
    have hy := (List.mem_filter.1 hy).1
    have htw : n.fl.take (cntT n.fl (tNext n)) = n.fl.takeWhile fun f => decide (f.time ≤ tNext n) := (List.prefix_iff_eq_take.1 (List.takeWhile_prefix _)).symm
    rw [htw] at hy
    have hle := of_decide_eq_true (List.all_eq_true.1 List.all_takeWhile y hy)
    have hmem := (List.takeWhile_prefix _).subset hy
    have hso := iv.ok.so
    unfold eNext at h0
    unfold tNext at hle ⊢
    cases hf : n.fl with
    | nil => rw [hf] at hmem; exact (List.not_mem_nil hmem).elim
    | cons f l =>
      rw [hf] at hmem hso hle
      rcases List.mem_cons.1 hmem with rfl | hm
      · rfl
      · have := (List.pairwise_cons.1 hso).1 y hm
        simp only at hle ⊢
        unfold kLt at this
        omega
theorem told_do {n : NN} {x : Ac} (h3 : ¬ (3 ≤ x.kind ∧ x.kind ≤ 8)) : (pDo n x).fl = n.fl ∧ (pDo n x).next = n.next ∧ (pDo n x).dbl = n.dbl ∧ (pDo n x).now = n.now := by
  unfold pDo
  split
  · unfold pSet; split <;> exact ⟨rfl, rfl, rfl, rfl⟩
  split
  · unfold pPart; split <;> exact ⟨rfl, rfl, rfl, rfl⟩
  split
  · exact ⟨rfl, rfl, rfl, rfl⟩
  split
  · unfold pTurn; split <;> exact ⟨rfl, rfl, rfl, rfl⟩
  split
  · unfold pTurn; split <;> exact ⟨rfl, rfl, rfl, rfl⟩
  exact ⟨rfl, rfl, rfl, rfl⟩
theorem send_not {n : NN} {x y : Int} {body : List UInt8} (h : eSend n x y body ≠ 0) : pSend n x y body = n := by simp [pSend, h]
theorem told_new (h : Int) (l : List Int) : Told (netZ h l ⟨1, 0, 0, 0⟩).fl (netZ h l ⟨1, 0, 0, 0⟩).next (netZ h l ⟨1, 0, 0, 0⟩).dbl [] (fun _ => 0) 0 :=
  ⟨fun f hf => (List.not_mem_nil hf).elim, fun f hf => (List.not_mem_nil hf).elim, .nil, fun f hf => (List.not_mem_nil hf).elim, fun _ _ => rfl, fun _ => by decide, Int.le_refl _, Int.le_refl _⟩
end Go.Proofs.Ytmmmdmandocbhaa
end
