/- Helpers of this claim: an evaluator over plain values and its laws. -/
import Derived.Test.YtmmmdmandocbhaaPo
section
set_option linter.unusedVariables false
set_option linter.unusedSimpArgs false
namespace Go.Proofs.Ytmmmdmandocbhaa
open Go Go.Proofs.Ytmmmdmandocbhaa.Den
theorem inv_new {h : Int} {l : List Int} (h1 : 1 ≤ h) (h2 : h ≤ 16) (hl : l.length ≤ 10010) (hk : ∀ k ∈ l, 0 ≤ k ∧ k < 2 ^ 63) : Inv (netZ h l ⟨1, 0, 0, 0⟩) 0 where
  h1 := h1
  h2 := h2
  us := ⟨Int.le_refl _, by show (0 : Int) ≤ _; exact Int.natCast_nonneg _, hl⟩
  ok := ⟨fun y hy => (List.not_mem_nil hy).elim, List.Pairwise.nil, Nat.zero_le _⟩
  now0 := Int.le_refl _
  now1 := by show (0 : Int) ≤ _; decide
  id0 := by show (1 : Int) ≤ 1; decide
  id1 := by show (1 : Int) ≤ _; decide
  sent := rfl
  dbl0 := Int.le_refl _
  dbl1 := Int.le_refl _
  arr := Int.le_refl _
  lost := Int.le_refl _
  sum := rfl
  nums := hk
  links := fun x hx => by
    have := List.eq_of_mem_replicate (show x ∈ List.replicate 256 (⟨1, 0, 0, 0⟩ : Lk) from hx)
    subst this; rfl
  at' := fun y hy => (List.not_mem_nil hy).elim
  T := by decide
theorem inv_set {n : NN} {T : Nat} (iv : Inv n T) (x y : Int) (l : Lk) : Inv (pSet n x y l) T := by
  unfold pSet
  split
  · rename_i h
    have hv : vLink l = true := by
      cases e : vLink l with
      | true => rfl
      | false => simp [eSet, e] at h
    exact { h1 := iv.h1, h2 := iv.h2, us := ⟨iv.us.lo, iv.us.hi, iv.us.len⟩, ok := ⟨iv.ok.fb, iv.ok.so, iv.ok.len⟩, now0 := iv.now0, now1 := iv.now1, id0 := iv.id0, id1 := iv.id1, sent := iv.sent, dbl0 := iv.dbl0, dbl1 := iv.dbl1, arr := iv.arr, lost := iv.lost, sum := iv.sum, nums := iv.nums, links := fun z hz => by rcases List.mem_or_eq_of_mem_set hz with h | rfl; exact iv.links z h; exact hv, at' := iv.at', T := iv.T }
  · exact iv
theorem countP_not {α : Type} (p : α → Bool) (l : List α) : l.countP p + l.countP (fun x => !p x) = l.length := by
  induction l with
  | nil => rfl
  | cons x l ih =>
    rw [List.countP_cons, List.countP_cons, List.length_cons]
    cases p x <;> simp <;> omega
theorem inv_pass {n : NN} {T : Nat} (iv : Inv n T) (t : Int) : Inv (pPass n t) T := by
  unfold pPass
  split
  · rename_i h
    obtain ⟨t0, t1⟩ := h
    have hc := countP_not (arrv { n with now := t }) (n.fl.take (cntT n.fl t))
    have hl : (n.fl.take (cntT n.fl t)).length + (n.fl.drop (cntT n.fl t)).length = n.fl.length := by rw [← List.length_append, List.take_append_drop]
    have n0 := iv.now0
    have a0 := iv.arr
    have l0 := iv.lost
    have s0 := iv.sum
    exact { h1 := iv.h1, h2 := iv.h2, us := ⟨iv.us.lo, iv.us.hi, iv.us.len⟩, ok := ⟨fun y hy => iv.ok.fb y (List.mem_of_mem_drop hy), iv.ok.so.sublist (List.drop_sublist _ _), by show (n.fl.drop _).length ≤ _; have := iv.ok.len; omega⟩, now0 := by show 0 ≤ t; omega, now1 := t1, id0 := iv.id0, id1 := iv.id1, sent := iv.sent, dbl0 := iv.dbl0, dbl1 := iv.dbl1, arr := by show 0 ≤ n.arr + _; omega, lost := by show 0 ≤ n.lost + _; omega, sum := by show n.arr + (((n.fl.take (cntT n.fl t)).countP (arrv { n with now := t }) : Nat) : Int) + (n.lost + (((n.fl.take (cntT n.fl t)).countP fun f => !arrv { n with now := t } f : Nat) : Int)) + ((n.fl.drop (cntT n.fl t)).length : Nat) = n.sent + n.dbl; omega, nums := iv.nums, links := iv.links, at' := fun y hy => iv.at' y (List.mem_of_mem_drop hy), T := iv.T }
  · exact iv
theorem inv_step {n : NN} {T : Nat} (iv : Inv n T) : Inv (pStep n) T := by
  unfold pStep
  split
  · exact inv_pass iv _
  · exact iv
theorem used_num {n : NN} (h : Used n) : Used (pNum n).2 := by
  obtain ⟨a, b, c⟩ := h
  unfold pNum
  split
  · rename_i k e
    have := (List.getElem?_eq_some_iff.1 e).1
    exact ⟨by show 0 ≤ n.used + 1; omega, by show n.used + 1 ≤ n.nums.length; omega, c⟩
  · exact ⟨a, b, c⟩
theorem eSend_has {n : NN} {x y : Int} {body : List UInt8} (h : eSend n x y body = 0) : hasB n x y ∧ body.length ≤ 65536 ∧ dwn n x = false ∧ n.fl.length < 10000 := by
  unfold eSend at h
  by_cases h1 : hasB n x y
  · by_cases h2 : 65536 < body.length
    · simp [h1, h2] at h
    · cases h3 : dwn n x with
      | true => simp [h1, h2, h3] at h
      | false =>
        by_cases h4 : 10000 ≤ n.fl.length
        · simp [h1, h2, h3, h4] at h
        · exact ⟨h1, by omega, rfl, by omega⟩
  · simp [h1] at h
theorem late_ok {n : NN} {T : Nat} (iv : Inv n T) {x y k : Int} (body : List UInt8) (hk : 0 ≤ k ∧ k < 2 ^ 63) : FB (late (newF n x y body) (lnk n x y) k) ∧ (late (newF n x y body) (lnk n x y) k).time ≤ 1000000000000 + 2000 := by
  have hvl := lnk_ok iv x y
  obtain ⟨v1, v2, v3, v4, v5, v6, v7, v8⟩ : 0 ≤ (lnk n x y).delay ∧ (lnk n x y).delay ≤ 1000 ∧ 0 ≤ (lnk n x y).jitter ∧ (lnk n x y).jitter ≤ 1000 ∧ 0 ≤ (lnk n x y).loss ∧ (lnk n x y).loss ≤ 100 ∧ 0 ≤ (lnk n x y).dbl ∧ (lnk n x y).dbl ≤ 100 := of_decide_eq_true hvl
  have q1 : 0 ≤ k.tdiv 10000 := Int.tdiv_nonneg hk.1 (by decide)
  have q3 : 0 ≤ (k.tdiv 10000).tmod ((lnk n x y).jitter + 1) := Int.tmod_nonneg _ q1
  have q4 : (k.tdiv 10000).tmod ((lnk n x y).jitter + 1) < (lnk n x y).jitter + 1 := Int.tmod_lt_of_pos _ (by omega)
  have n0 := iv.now0
  have n1 := iv.now1
  have i0 := iv.id0
  have i1 := iv.id1
  have hT := iv.T
  generalize hd : (k.tdiv 10000).tmod ((lnk n x y).jitter + 1) = d at *
  have e : (late (newF n x y body) (lnk n x y) k).time = n.now + ((lnk n x y).delay + d) := by simp [late, newF, hd]
  refine ⟨⟨by rw [e]; omega, by rw [e]; omega, by show 0 ≤ n.next; omega, by show n.next ≤ _; omega⟩, by rw [e]; omega⟩
/-- The invariant without the flights' sum. -/
theorem inv_put {n : NN} {T : Nat} {x : Fl} (hx : FB x) (h0 : 0 ≤ x.frm ∧ x.frm < n.hosts ∧ 0 ≤ x.to ∧ x.to < n.hosts ∧ x.id < n.next) (iv : Inv { n with sent := n.sent, lost := n.lost + 1 } T) (hl : 0 ≤ n.lost) : Inv (pPut n x) T := by
  have hs : n.arr + (n.lost + 1) + n.fl.length = n.sent + n.dbl := iv.sum
  have hT := iv.T
  have hid : n.next ≤ T + 1 := iv.id1
  have hse : n.sent = n.next - 1 := iv.sent
  have hdb : n.dbl ≤ n.sent := iv.dbl1
  have har : 0 ≤ n.arr := iv.arr
  have hok : FlOk n := ⟨iv.ok.fb, iv.ok.so, iv.ok.len⟩
  have ok2 := hok.put hx (by omega)
  have hlen : (pPut n x).fl.length = n.fl.length + 1 := putF_len _ _
  exact { h1 := iv.h1, h2 := iv.h2, us := ⟨iv.us.lo, iv.us.hi, iv.us.len⟩, ok := ok2, now0 := iv.now0, now1 := iv.now1, id0 := iv.id0, id1 := iv.id1, sent := iv.sent, dbl0 := iv.dbl0, dbl1 := iv.dbl1, arr := iv.arr, lost := hl, sum := by rw [hlen]; show n.arr + n.lost + ((n.fl.length + 1 : Nat) : Int) = n.sent + n.dbl; omega, nums := iv.nums, links := iv.links, at' := fun y hy => by rcases putF_mem.1 hy with rfl | hy; exact h0; exact iv.at' y hy, T := iv.T }
theorem inv_sent {n : NN} {T : Nat} (iv : Inv n T) (hT : T < 100000) {u : Int} (hu : Used { n with used := u }) : Inv { n with next := n.next + 1, sent := n.sent + 1, used := u, lost := n.lost + 1 } (T + 1) := by
  have i1 := iv.id1
  have s := iv.sent
  have sm := iv.sum
  have l0 := iv.lost
  have d1 := iv.dbl1
  have i0 := iv.id0
  exact { h1 := iv.h1, h2 := iv.h2, us := ⟨hu.lo, hu.hi, hu.len⟩, ok := ⟨iv.ok.fb, iv.ok.so, iv.ok.len⟩, now0 := iv.now0, now1 := iv.now1, id0 := by show 1 ≤ n.next + 1; omega, id1 := by show n.next + 1 ≤ ((T + 1 : Nat) : Int) + 1; omega, sent := by show n.sent + 1 = n.next + 1 - 1; omega, dbl0 := iv.dbl0, dbl1 := by show n.dbl ≤ n.sent + 1; omega, arr := iv.arr, lost := by show 0 ≤ n.lost + 1; omega, sum := by show n.arr + (n.lost + 1) + (n.fl.length : Int) = n.sent + 1 + n.dbl; omega, nums := iv.nums, links := iv.links, at' := fun y hy => by have := iv.at' y hy; exact ⟨this.1, this.2.1, this.2.2.1, this.2.2.2.1, by show y.id < n.next + 1; omega⟩, T := by omega }
theorem inv_send {n : NN} {T : Nat} (iv : Inv n T) (hT : T < 100000) (x y : Int) (body : List UInt8) : Inv (pSend n x y body) (T + 1) := by
  unfold pSend
  split
  rotate_left
  · have i1 := iv.id1
    exact { h1 := iv.h1, h2 := iv.h2, us := iv.us, ok := iv.ok, now0 := iv.now0, now1 := iv.now1, id0 := iv.id0, id1 := by omega, sent := iv.sent, dbl0 := iv.dbl0, dbl1 := iv.dbl1, arr := iv.arr, lost := iv.lost, sum := iv.sum, nums := iv.nums, links := iv.links, at' := iv.at', T := by omega }
  rename_i he
  obtain ⟨⟨x0, x1, y0, y1⟩, _, _, hfl⟩ := eSend_has he
  have i0 := iv.id0
  have i1 := iv.id1
  have n0 := iv.now0
  have n1 := iv.now1
  have l0 := iv.lost
  unfold pTake
  have us1 : Used (pSent n) := ⟨iv.us.lo, iv.us.hi, iv.us.len⟩
  have us2 := used_num us1
  obtain ⟨u, hu⟩ := pNum_snd (pSent n)
  have hk := pNum_fst (n := pSent n) iv.nums
  have us3 : Used { n with used := u } := by
    rw [hu] at us2
    exact ⟨us2.lo, us2.hi, us2.len⟩
  have ivL : Inv { n with next := n.next + 1, sent := n.sent + 1, used := u, lost := n.lost + 1 } (T + 1) := inv_sent iv hT us3
  split
  · refine inv_put (x := newF n x y body) ⟨n0, by show n.now ≤ _; omega, by show 0 ≤ n.next; omega, by show n.next ≤ _; omega⟩ ⟨x0, x1, y0, y1, by show n.next < n.next + 1; omega⟩ ?_ l0
    exact inv_sent iv hT ⟨iv.us.lo, iv.us.hi, iv.us.len⟩
  split
  · rw [hu]; exact ivL
  rw [hu]
  obtain ⟨lo, lt⟩ := late_ok iv (x := x) (y := y) body hk
  have ivP : Inv (pPut { pSent n with used := u } (late (newF n x y body) (lnk n x y) (pNum (pSent n)).1)) (T + 1) := inv_put lo ⟨x0, x1, y0, y1, by show n.next < n.next + 1; omega⟩ ivL l0
  split
  · have hvl := lnk_ok iv x y
    obtain ⟨v1, v2, _⟩ : 0 ≤ (lnk n x y).delay ∧ (lnk n x y).delay ≤ 1000 ∧ 0 ≤ (lnk n x y).jitter ∧ (lnk n x y).jitter ≤ 1000 ∧ 0 ≤ (lnk n x y).loss ∧ (lnk n x y).loss ≤ 100 ∧ 0 ≤ (lnk n x y).dbl ∧ (lnk n x y).dbl ≤ 100 := of_decide_eq_true hvl
    have d1 := iv.dbl1
    have d0 := iv.dbl0
    have sm := ivP.sum
    refine inv_put ⟨by show 0 ≤ (late (newF n x y body) (lnk n x y) (pNum (pSent n)).1).time + ((lnk n x y).delay + 1); have := lo.t0; omega, by show (late (newF n x y body) (lnk n x y) (pNum (pSent n)).1).time + ((lnk n x y).delay + 1) ≤ _; omega, lo.i0, lo.i1⟩ ⟨x0, x1, y0, y1, by show n.next < n.next + 1; omega⟩ ?_ l0
    have sm' : n.arr + n.lost + ((pPut { pSent n with used := u } (late (newF n x y body) (lnk n x y) (pNum (pSent n)).1)).fl.length : Int) = n.sent + 1 + n.dbl := sm
    have sm2 : n.arr + (n.lost + 1) + ((pPut { pSent n with used := u } (late (newF n x y body) (lnk n x y) (pNum (pSent n)).1)).fl.length : Int) = n.sent + 1 + (n.dbl + 1) := by omega
    exact { h1 := ivP.h1, h2 := ivP.h2, us := ⟨ivP.us.lo, ivP.us.hi, ivP.us.len⟩, ok := ⟨ivP.ok.fb, ivP.ok.so, ivP.ok.len⟩, now0 := ivP.now0, now1 := ivP.now1, id0 := ivP.id0, id1 := ivP.id1, sent := ivP.sent, dbl0 := (by show 0 ≤ n.dbl + 1; omega), dbl1 := (by show n.dbl + 1 ≤ n.sent + 1; omega), arr := ivP.arr, lost := (by show 0 ≤ n.lost + 1; omega), sum := sm2, nums := ivP.nums, links := ivP.links, at' := ivP.at', T := ivP.T }
  · exact ivP
end Go.Proofs.Ytmmmdmandocbhaa
end
