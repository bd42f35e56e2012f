/- Helpers of this claim: an evaluator over plain values and its laws. -/
import Derived.Test.YtmmmdmandocbhaaDoorPl
section
set_option linter.unusedVariables false
set_option linter.unusedSimpArgs false
namespace Go.Proofs.YtmmmdmandocbhaaDoor
open Go Go.Proofs.YtmmmdmandocbhaaDoor.Den
theorem inv_new {h : Int} {l : List Int} (h1 : 1 ≤ h) (h2 : h ≤ 16) (hl : l.length ≤ 10010) (hk : ∀ k ∈ l, 0 ≤ k ∧ k < 2 ^ 63) : Inv (netZ h l ⟨1, 0, 0, 0⟩) 0 where
  h1 := h1
  h2 := h2
  us := ⟨Int.le_refl _, by show (0 : Int) ≤ _; exact Int.natCast_nonneg _, hl⟩
  ok := ⟨fun y hy => (List.not_mem_nil hy).elim, List.Pairwise.nil, Nat.zero_le _⟩
  now0 := Int.le_refl _
  now1 := by show (0 : Int) ≤ _; decide
  id0 := by show (1 : Int) ≤ 1; decide
  id1 := by show (1 : Int) ≤ _; decide
  sent := rfl
  dbl0 := Int.le_refl _
  dbl1 := Int.le_refl _
  arr := Int.le_refl _
  lost := Int.le_refl _
  sum := rfl
  nums := hk
  links := fun x hx => by
    have := List.eq_of_mem_replicate (show x ∈ List.replicate 256 (⟨1, 0, 0, 0⟩ : Lk) from hx)
    subst this; rfl
  at' := fun y hy => (List.not_mem_nil hy).elim
  T := by decide
theorem inv_set {n : NN} {T : Nat} (iv : Inv n T) (x y : Int) (l : Lk) : Inv (pSet n x y l) T := by
  unfold pSet
  split
  · rename_i h
    have hv : vLink l = true := by
      cases e : vLink l with
      | true => rfl
      | false => simp [eSet, e] at h
    exact { h1 := iv.h1, h2 := iv.h2, us := ⟨iv.us.lo, iv.us.hi, iv.us.len⟩, ok := ⟨iv.ok.fb, iv.ok.so, iv.ok.len⟩, now0 := iv.now0, now1 := iv.now1, id0 := iv.id0, id1 := iv.id1, sent := iv.sent, dbl0 := iv.dbl0, dbl1 := iv.dbl1, arr := iv.arr, lost := iv.lost, sum := iv.sum, nums := iv.nums, links := fun z hz => by rcases List.mem_or_eq_of_mem_set hz with h | rfl; exact iv.links z h; exact hv, at' := iv.at', T := iv.T }
  · exact iv
theorem countP_not {α : Type} (p : α → Bool) (l : List α) : l.countP p + l.countP (fun x => !p x) = l.length := by
  induction l with
  | nil => rfl
  | cons x l ih =>
    rw [List.countP_cons, List.countP_cons, List.length_cons]
    cases p x <;> simp <;> omega
theorem inv_pass {n : NN} {T : Nat} (iv : Inv n T) (t : Int) : Inv (pPass n t) T := by
  unfold pPass
  split
  · rename_i h
    obtain ⟨t0, t1⟩ := h
    have hc := countP_not (arrv { n with now := t }) (n.fl.take (cntT n.fl t))
    have hl : (n.fl.take (cntT n.fl t)).length + (n.fl.drop (cntT n.fl t)).length = n.fl.length := by rw [← List.length_append, List.take_append_drop]
    have n0 := iv.now0
    have a0 := iv.arr
    have l0 := iv.lost
    have s0 := iv.sum
    exact { h1 := iv.h1, h2 := iv.h2, us := ⟨iv.us.lo, iv.us.hi, iv.us.len⟩, ok := ⟨fun y hy => iv.ok.fb y (List.mem_of_mem_drop hy), iv.ok.so.sublist (List.drop_sublist _ _), by show (n.fl.drop _).length ≤ _; have := iv.ok.len; omega⟩, now0 := by show 0 ≤ t; omega, now1 := t1, id0 := iv.id0, id1 := iv.id1, sent := iv.sent, dbl0 := iv.dbl0, dbl1 := iv.dbl1, arr := by show 0 ≤ n.arr + _; omega, lost := by show 0 ≤ n.lost + _; omega, sum := by show n.arr + (((n.fl.take (cntT n.fl t)).countP (arrv { n with now := t }) : Nat) : Int) + (n.lost + (((n.fl.take (cntT n.fl t)).countP fun f => !arrv { n with now := t } f : Nat) : Int)) + ((n.fl.drop (cntT n.fl t)).length : Nat) = n.sent + n.dbl; omega, nums := iv.nums, links := iv.links, at' := fun y hy => iv.at' y (List.mem_of_mem_drop hy), T := iv.T }
  · exact iv
theorem inv_step {n : NN} {T : Nat} (iv : Inv n T) : Inv (pStep n) T := by
  unfold pStep
  split
  · exact inv_pass iv _
  · exact iv
theorem used_num {n : NN} (h : Used n) : Used (pNum n).2 := by
  obtain ⟨a, b, c⟩ := h
  unfold pNum
  split
  · rename_i k e
    have := (List.getElem?_eq_some_iff.1 e).1
    exact ⟨by show 0 ≤ n.used + 1; omega, by show n.used + 1 ≤ n.nums.length; omega, c⟩
  · exact ⟨a, b, c⟩
theorem eSend_has {n : NN} {x y : Int} {body : List UInt8} (h : eSend n x y body = 0) : hasB n x y ∧ body.length ≤ 65536 ∧ dwn n x = false ∧ n.fl.length < 10000 := by
  unfold eSend at h
  by_cases h1 : hasB n x y
  · by_cases h2 : 65536 < body.length
    · simp [h1, h2] at h
    · cases h3 : dwn n x with
      | true => simp [h1, h2, h3] at h
      | false =>
        by_cases h4 : 10000 ≤ n.fl.length
        · simp [h1, h2, h3, h4] at h
        · exact ⟨h1, by omega, rfl, by omega⟩
  · simp [h1] at h
theorem late_ok {n : NN} {T : Nat} (iv : Inv n T) {x y k : Int} (body : List UInt8) (hk : 0 ≤ k ∧ k < 2 ^ 63) : FB (late (newF n x y body) (lnk n x y) k) ∧ (late (newF n x y body) (lnk n x y) k).time ≤ 1000000000000 + 2000 := by
  have hvl := lnk_ok iv x y
  obtain ⟨v1, v2, v3, v4, v5, v6, v7, v8⟩ : 0 ≤ (lnk n x y).delay ∧ (lnk n x y).delay ≤ 1000 ∧ 0 ≤ (lnk n x y).jitter ∧ (lnk n x y).jitter ≤ 1000 ∧ 0 ≤ (lnk n x y).loss ∧ (lnk n x y).loss ≤ 100 ∧ 0 ≤ (lnk n x y).dbl ∧ (lnk n x y).dbl ≤ 100 := of_decide_eq_true hvl
  have q1 : 0 ≤ k.tdiv 10000 := Int.tdiv_nonneg hk.1 (by decide)
  have q3 : 0 ≤ (k.tdiv 10000).tmod ((lnk n x y).jitter + 1) := Int.tmod_nonneg _ q1
  have q4 : (k.tdiv 10000).tmod ((lnk n x y).jitter + 1) < (lnk n x y).jitter + 1 := Int.tmod_lt_of_pos _ (by omega)
  have n0 := iv.now0
  have n1 := iv.now1
  have i0 := iv.id0
  have i1 := iv.id1
  have hT := iv.T
  generalize hd : (k.tdiv 10000).tmod ((lnk n x y).jitter + 1) = d at *
  have e : (late (newF n x y body) (lnk n x y) k).time = n.now + ((lnk n x y).delay + d) := by simp [late, newF, hd]
  refine ⟨⟨by rw [e]; omega, by rw [e]; omega, by show 0 ≤ n.next; omega, by show n.next ≤ _; omega⟩, by rw [e]; omega⟩
/-- The invariant without the flights' sum. -/
theorem inv_put {n : NN} {T : Nat} {x : Fl} (hx : FB x) (h0 : 0 ≤ x.frm ∧ x.frm < n.hosts ∧ 0 ≤ x.to ∧ x.to < n.hosts ∧ x.id < n.next) (iv : Inv { n with sent := n.sent, lost := n.lost + 1 } T) (hl : 0 ≤ n.lost) : Inv (pPut n x) T := by
  have hs : n.arr + (n.lost + 1) + n.fl.length = n.sent + n.dbl := iv.sum
  have hT := iv.T
  have hid : n.next ≤ T + 1 := iv.id1
  have hse : n.sent = n.next - 1 := iv.sent
  have hdb : n.dbl ≤ n.sent := iv.dbl1
  have har : 0 ≤ n.arr := iv.arr
  have hok : FlOk n := ⟨iv.ok.fb, iv.ok.so, iv.ok.len⟩
  have ok2 := hok.put hx (by omega)
  have hlen : (pPut n x).fl.length = n.fl.length + 1 := putF_len _ _
  exact { h1 := iv.h1, h2 := iv.h2, us := ⟨iv.us.lo, iv.us.hi, iv.us.len⟩, ok := ok2, now0 := iv.now0, now1 := iv.now1, id0 := iv.id0, id1 := iv.id1, sent := iv.sent, dbl0 := iv.dbl0, dbl1 := iv.dbl1, arr := iv.arr, lost := hl, sum := by rw [hlen]; show n.arr + n.lost + ((n.fl.length + 1 : Nat) : Int) = n.sent + n.dbl; omega, nums := iv.nums, links := iv.links, at' := fun y hy => by rcases putF_mem.1 hy with rfl | hy; exact h0; exact iv.at' y hy, T := iv.T }
theorem inv_sent {n : NN} {T : Nat} (iv : Inv n T) (hT : T < 100000) {u : Int} (hu : Used { n with used := u }) : Inv { n with next := n.next + 1, sent := n.sent + 1, used := u, lost := n.lost + 1 } (T + 1) := by
  have i1 := iv.id1
  have s := iv.sent
  have sm := iv.sum
  have l0 := iv.lost
  have d1 := iv.dbl1
  have i0 := iv.id0
  exact { h1 := iv.h1, h2 := iv.h2, us := ⟨hu.lo, hu.hi, hu.len⟩, ok := ⟨iv.ok.fb, iv.ok.so, iv.ok.len⟩, now0 := iv.now0, now1 := iv.now1, id0 := by show 1 ≤ n.next + 1; omega, id1 := by show n.next + 1 ≤ ((T + 1 : Nat) : Int) + 1; omega, sent := by show n.sent + 1 = n.next + 1 - 1; omega, dbl0 := iv.dbl0, dbl1 := by show n.dbl ≤ n.sent + 1; omega, arr := iv.arr, lost := by show 0 ≤ n.lost + 1; omega, sum := by show n.arr + (n.lost + 1) + (n.fl.length : Int) = n.sent + 1 + n.dbl; omega, nums := iv.nums, links := iv.links, at' := fun y hy => by have := iv.at' y hy; exact ⟨this.1, this.2.1, this.2.2.1, this.2.2.2.1, by show y.id < n.next + 1; omega⟩, T := by omega }
theorem inv_send {n : NN} {T : Nat} (iv : Inv n T) (hT : T < 100000) (x y : Int) (body : List UInt8) : Inv (pSend n x y body) (T + 1) := by
  unfold pSend
  split
  rotate_left
  · have i1 := iv.id1
    exact { h1 := iv.h1, h2 := iv.h2, us := iv.us, ok := iv.ok, now0 := iv.now0, now1 := iv.now1, id0 := iv.id0, id1 := by omega, sent := iv.sent, dbl0 := iv.dbl0, dbl1 := iv.dbl1, arr := iv.arr, lost := iv.lost, sum := iv.sum, nums := iv.nums, links := iv.links, at' := iv.at', T := by omega }
  rename_i he
  obtain ⟨⟨x0, x1, y0, y1⟩, _, _, hfl⟩ := eSend_has he
  have i0 := iv.id0
  have i1 := iv.id1
  have n0 := iv.now0
  have n1 := iv.now1
  have l0 := iv.lost
  unfold pTake
  have us1 : Used (pSent n) := ⟨iv.us.lo, iv.us.hi, iv.us.len⟩
  have us2 := used_num us1
  obtain ⟨u, hu⟩ := pNum_snd (pSent n)
  have hk := pNum_fst (n := pSent n) iv.nums
  have us3 : Used { n with used := u } := by
    rw [hu] at us2
    exact ⟨us2.lo, us2.hi, us2.len⟩
  have ivL : Inv { n with next := n.next + 1, sent := n.sent + 1, used := u, lost := n.lost + 1 } (T + 1) := inv_sent iv hT us3
  split
  · refine inv_put (x := newF n x y body) ⟨n0, by show n.now ≤ _; omega, by show 0 ≤ n.next; omega, by show n.next ≤ _; omega⟩ ⟨x0, x1, y0, y1, by show n.next < n.next + 1; omega⟩ ?_ l0
    exact inv_sent iv hT ⟨iv.us.lo, iv.us.hi, iv.us.len⟩
  split
  · rw [hu]; exact ivL
  rw [hu]
  obtain ⟨lo, lt⟩ := late_ok iv (x := x) (y := y) body hk
  have ivP : Inv (pPut { pSent n with used := u } (late (newF n x y body) (lnk n x y) (pNum (pSent n)).1)) (T + 1) := inv_put lo ⟨x0, x1, y0, y1, by show n.next < n.next + 1; omega⟩ ivL l0
  split
  · have hvl := lnk_ok iv x y
    obtain ⟨v1, v2, _⟩ : 0 ≤ (lnk n x y).delay ∧ (lnk n x y).delay ≤ 1000 ∧ 0 ≤ (lnk n x y).jitter ∧ (lnk n x y).jitter ≤ 1000 ∧ 0 ≤ (lnk n x y).loss ∧ (lnk n x y).loss ≤ 100 ∧ 0 ≤ (lnk n x y).dbl ∧ (lnk n x y).dbl ≤ 100 := of_decide_eq_true hvl
    have d1 := iv.dbl1
    have d0 := iv.dbl0
    have sm := ivP.sum
    refine inv_put ⟨by show 0 ≤ (late (newF n x y body) (lnk n x y) (pNum (pSent n)).1).time + ((lnk n x y).delay + 1); have := lo.t0; omega, by show (late (newF n x y body) (lnk n x y) (pNum (pSent n)).1).time + ((lnk n x y).delay + 1) ≤ _; omega, lo.i0, lo.i1⟩ ⟨x0, x1, y0, y1, by show n.next < n.next + 1; omega⟩ ?_ l0
    have sm' : n.arr + n.lost + ((pPut { pSent n with used := u } (late (newF n x y body) (lnk n x y) (pNum (pSent n)).1)).fl.length : Int) = n.sent + 1 + n.dbl := sm
    have sm2 : n.arr + (n.lost + 1) + ((pPut { pSent n with used := u } (late (newF n x y body) (lnk n x y) (pNum (pSent n)).1)).fl.length : Int) = n.sent + 1 + (n.dbl + 1) := by omega
    exact { h1 := ivP.h1, h2 := ivP.h2, us := ⟨ivP.us.lo, ivP.us.hi, ivP.us.len⟩, ok := ⟨ivP.ok.fb, ivP.ok.so, ivP.ok.len⟩, now0 := ivP.now0, now1 := ivP.now1, id0 := ivP.id0, id1 := ivP.id1, sent := ivP.sent, dbl0 := (by show 0 ≤ n.dbl + 1; omega), dbl1 := (by show n.dbl + 1 ≤ n.sent + 1; omega), arr := ivP.arr, lost := (by show 0 ≤ n.lost + 1; omega), sum := sm2, nums := ivP.nums, links := ivP.links, at' := ivP.at', T := ivP.T }
  · exact ivP
end Go.Proofs.YtmmmdmandocbhaaDoor
end

section
set_option linter.unusedVariables false
set_option linter.unusedSimpArgs false
namespace Go.Proofs.YtmmmdmandocbhaaDoor
open Go Go.Proofs.YtmmmdmandocbhaaDoor.Den
def w0 : NN := netZ 2 [10, 60] ⟨1, 0, 0, 0⟩
def w1 : NN := pSet w0 0 1 ⟨1, 0, 50, 0⟩
def w2 : NN := pSend w1 0 1 [97]
def w3 : NN := pSend w2 0 1 [98]
theorem w_set : eSet w0 0 1 ⟨1, 0, 50, 0⟩ = 0 := by kernel_rfl
theorem w_out : oStep w3 = [⟨2, 0, 1, 1, [98], false⟩] := by kernel_rfl
theorem w_e : eStep w3 = 0 := by kernel_rfl
theorem w_now : (pStep w3).now = 1 := by kernel_rfl
theorem eqFsPk (a b c d a' b' c' d' : Int) (e e' : List UInt8) : ∃ fs, Tryd.prog.underlying 46 = some (.struct fs) ∧ eqFs Tryd.prog fs.toList #[.int .i64 a, .int .i64 b, .int .i64 c, .int .i64 d, .string (sB e)] #[.int .i64 a', .int .i64 b', .int .i64 c', .int .i64 d', .string (sB e')] = some (decide (a = a' ∧ b = b' ∧ c = c' ∧ d = d' ∧ e = e')) := by
  refine ⟨_, Tryd.underlying46, ?_⟩
  simp [eqFs, eqV, sB_beq]
  by_cases h1 : a = a' <;> by_cases h2 : b = b' <;> by_cases h3 : c = c' <;> by_cases h4 : d = d' <;> by_cases h5 : e = e' <;> simp [h1, h2, h3, h4, h5]
theorem eqPk (a b c d a' b' c' d' : Int) (e e' : List UInt8) (x y : Operand) (H : World) : binX Tryd.prog .eql 46 x y (.agg #[.int .i64 a, .int .i64 b, .int .i64 c, .int .i64 d, .string (sB e)]) (.agg #[.int .i64 a', .int .i64 b', .int .i64 c', .int .i64 d', .string (sB e')]) H = some (.value (.bool (decide (a = a' ∧ b = b' ∧ c = c' ∧ d = d' ∧ e = e'))), H) ∧
    binX Tryd.prog .neq 46 x y (.agg #[.int .i64 a, .int .i64 b, .int .i64 c, .int .i64 d, .string (sB e)]) (.agg #[.int .i64 a', .int .i64 b', .int .i64 c', .int .i64 d', .string (sB e')]) H = some (.value (.bool !(decide (a = a' ∧ b = b' ∧ c = c' ∧ d = d' ∧ e = e'))), H) := by
  obtain ⟨fs, h1, h2⟩ := eqFsPk a b c d a' b' c' d' e e'
  exact binV_struct h1 Tryd.stoodInHeld46 (by decide +kernel) (by simp [flat1]) (by simp [flat1]) h2
set_option maxRecDepth 100000 in
theorem awake7 (H : World) (Q : Value → World → Prop) : FW X 5 #[] H Q = Q (.bool true) H := by
  refine FW.aloneEq ?_ Tryd.func5 Tryd.ntmps5 rfl (by simp) ?_ H Q
  · simp [X]
  have gr : getO (pushObj World0 (.cells #[.int .i64 10, .int .i64 60] 3 (0, 0))) World0.heap.size = some (.cells (([10, 60] : List Int).map (Value.int .i64)).toArray 3 (0, 0)) := by rw [get_push, if_pos rfl]; rfl
  simp [buildSliceX, inOrder, catCells, szO]
  generalize hH1 : pushObj World0 (.cells #[.int .i64 10, .int .i64 60] 3 (0, 0)) = H1 at *
  have hm : World0.heap.size = 0 := rfl
  rw [hm] at gr
  refine new8r (l := [10, 60]) (h := 2) gr (by decide) (by decide) (by decide) (by decide) (by decide) fun H2 b vn hb st k2 z2 => ?_
  change NSt H2 b w0 vn _ at st
  have iv0 : Inv w0 0 := inv_new (by decide) (by decide) (by decide) (by decide)
  simp [buildQ, fillX, Value.cells, overL]
  refine set21 st iv0.h2 0 1 ⟨1, 0, 50, 0⟩ fun H3 st3 fr3 => ?_
  have iv1 : Inv w1 0 := inv_set iv0 0 1 ⟨1, 0, 50, 0⟩
  rw [w_set]
  change NSt H3 b w1 vn _ at st3
  simp
  refine send11 st3 iv1 0 1 [97] fun H4 vf4 st4 fr4 => ?_
  have iv2 : Inv w2 1 := inv_send iv1 (by decide) 0 1 [97]
  change NSt H4 b w2 vn _ at st4
  simp
  refine send11 st4 iv2 0 1 [98] fun H5 vf5 st5 fr5 => ?_
  have iv3 : Inv w3 2 := inv_send iv2 (by decide) 0 1 [98]
  change NSt H5 b w3 vn _ at st5
  simp
  refine step17 st5 iv3 fun H6 vf6 vo st6 fr6 ac ap => ?_
  rw [w_out] at ac
  rw [w_e]
  obtain ⟨r, rfl, hr⟩ := ac.row (by decide)
  have hn := fun Q => now10 st6 (Q := Q)
  simp [flatE_cons, Value.cells] at hr
  have he := fun x y => (eqPk 2 0 1 1 2 0 1 1 [98] [98] x y H6).1
  simp [idxS, hr, buildQ, fillX, Value.cells, overL, he]
  refine now10 st6 ?_
  rw [w_now]
  simp
end Go.Proofs.YtmmmdmandocbhaaDoor
end

section
set_option linter.unusedVariables false
set_option linter.unusedSimpArgs false
namespace Go.Proofs.YtmmmdmandocbhaaDoor
open Go Go.Proofs.YtmmmdmandocbhaaDoor.Den
/-- An act. -/
structure Ac where
  kind : Int
  frm : Int
  to : Int
  time : Int
  lk : Lk
  body : List UInt8
  sides : Option (List Int)
abbrev sidesV (o : Option (List Int)) : Value := slV 1 (o.map fun l => l.map (Value.int .i64))
abbrev cellsA (x : Ac) : Array Value := #[.int .i64 x.kind, .int .i64 x.frm, .int .i64 x.to, .int .i64 x.time, .int .i64 x.lk.delay, .int .i64 x.lk.jitter, .int .i64 x.lk.loss, .int .i64 x.lk.dbl, .string (sB x.body), sidesV x.sides]
abbrev encA (x : Ac) : Value := .agg (cellsA x)
abbrev acts (o : Option (List Ac)) : Value := slV 10 (o.map (List.map encA))
theorem getD_mapA (o : Option (List Ac)) : (o.map (List.map encA)).getD [] = (o.getD []).map encA := by cases o <;> rfl
theorem getD_mapI (o : Option (List Int)) : ((o.map fun l => l.map (Value.int .i64)).getD []).length = (o.getD []).length := by cases o <;> simp
def heavy (x : Ac) : Bool := decide (100 < x.body.length) || decide (40 < (x.sides.getD []).length)
def lightW (l : List Ac) : Bool := !(l.any heavy) && decide (l.length ≤ 150)
theorem plainSides (o : Option (List Int)) : plain 2 (sidesV o) = true := plain_slMap (fun n => by simp [plain, constOk1]) o
theorem plainA1 (x : Ac) : plain 3 (encA x) = true := by
  have h : plain 2 (sidesV x.sides) = true := plainSides x.sides
  simp [plain, constOk1]
  exact h
theorem plainA (o : Option (List Ac)) : plain deep (acts o) = true := plain_of (d := 4) (plain_slMap plainA1 o) (by decide)
set_option maxRecDepth 100000 in
theorem light6 (o : Option (List Ac)) (hl : (o.getD []).length < 2 ^ 62) (H : World) (Q : Value → World → Prop) : FW X 4 #[acts o] H Q = Q (.bool (lightW (o.getD []))) H := by
  refine FW.aloneEq ?_ Tryd.func4 Tryd.ntmps4 rfl (by simp) ?_ H Q
  · simp [X, plainA]
  simp
  refine CE.range (m := (o.getD []).length) (fun k e H' => lk e 0 = acts o ∧ lk e 5 = acts o ∧ ((o.getD []).take k).any heavy = false) ?_ (by omega) ?_ ?_ ?_
  · decide
  · simp
  · rintro k e H' hk q1 q2 ⟨h0, h5, hn⟩
    have hany : ((o.getD []).take (k + 1)).any heavy = heavy (o.getD [])[k] := by rw [List.take_succ_eq_append_getElem hk, List.any_append, hn]; simp
    rw [hany]
    have hbad : heavy (o.getD [])[k] = true → lightW (o.getD []) = false := by
      intro h
      unfold lightW
      have : (o.getD []).any heavy = true := List.any_eq_true.2 ⟨_, List.getElem_mem hk, h⟩
      simp [this]
    simp [q1, q2, h0, h5, getD_mapA, idxV, hk, allocX, szO, overL]
    generalize (o.getD [])[k] = x at *
    have c1 : (100 : Int) < x.body.length ↔ 100 < x.body.length := by omega
    have c2 : (40 : Int) < (x.sides.getD []).length ↔ 40 < (x.sides.getD []).length := by omega
    have c3 := getD_mapI x.sides
    unfold heavy at hbad ⊢
    by_cases b1 : 100 < x.body.length
    · simp [c1, b1]
      simp [b1] at hbad
      simp [hbad]
    · by_cases b2 : 40 < (x.sides.getD []).length
      · simp [c1, c2, c3, b1, b2]
        simp [b2] at hbad
        simp [hbad]
      · simp [c1, c2, c3, b1, b2, q1, q2, h0, h5]
  · rintro e H' q1 q2 ⟨h0, h5, hn⟩
    rw [List.take_length] at hn
    simp [h0, lightW, hn]
    omega
end Go.Proofs.YtmmmdmandocbhaaDoor
end

section
set_option linter.unusedVariables false
set_option linter.unusedSimpArgs false
namespace Go.Proofs.YtmmmdmandocbhaaDoor
open Go Go.Proofs.YtmmmdmandocbhaaDoor.Den
theorem accp_len {H H0 : World} {v : Value} {l : List Fl} (h : AccP H v l) : builtinX Tryd.prog .len #[36] #[v] H0 = some (.value (.int .i64 l.length), H0) := by
  rcases h.2 with ⟨e, h0⟩ | ⟨r, e, _, _⟩
  · rw [e, h0]; simp
  · rw [e]; simp
theorem accp_get {H : World} {v : Value} {l : List Fl} (h : AccP H v l) {k : Nat} (hk : k < l.length) : ∃ r : Nat, indexAddrQ Tryd.prog 36 v (.int .i64 k) = some (.pointer (some ⟨r, k * 5, none⟩)) ∧ loadX Tryd.prog 46 (.pointer (some ⟨r, k * 5, none⟩)) H = some (.value (encP l[k]), H) ∧ loadX Tryd.prog 3 (.pointer (some ⟨r, k * 5 + 3, none⟩)) H = some (.value (.int .i64 l[k].time), H) := by
  obtain ⟨r, rfl, hr⟩ := h.row (by omega)
  have h1 := flatE_row encP_size l hk
  have h2 := flatE_le encP_size l hk
  have h3 := flatE_get encP_size l hk (j := 3) (by decide)
  refine ⟨r, by simp [idxS, hk], ?_, ?_⟩
  · have e : List.take 5 (List.drop (k * 5) (flatE encP l)) = (encP l[k]).cells.toList := by
      have := congrArg Array.toList h1
      simpa using this
    simp [hr, h2, e, qX]
  · have h3' : (flatE encP l)[k * 5 + 3]? = some (.int .i64 l[k].time) := by rw [h3]; rfl
    simp [hr, h3']
set_option maxRecDepth 100000 in
theorem same13 {H : World} {v w : Value} {xs ys : List Fl} (hv : AccP H v xs) (hw : AccP H w ys) (he : xs.map encP = ys.map encP) (hl : xs.length < 2 ^ 62) {Q : Value → World → Prop} (hq : Q (.bool true) H) : FW X 10 #[v, w] H Q := by
  refine FW.walk (by simp [X, sp17_no]) Tryd.func10 Tryd.ntmps10 rfl (by simp) ?_
  have l1 := fun H0 => accp_len (H0 := H0) hv
  have l2 := fun H0 => accp_len (H0 := H0) hw
  have hlen : xs.length = ys.length := by have := congrArg List.length he; simpa using this
  simp [l1, l2, hlen]
  refine CE.range (m := ys.length) (fun k e H' => H' = H ∧ lk e 0 = v ∧ lk e 1 = w) ?_ (by omega) ?_ ?_ ?_
  · decide
  · simp
  · rintro k e H' hk q1 q2 ⟨rfl, e0, e1⟩
    obtain ⟨a, a1, a2, _⟩ := accp_get hv (k := k) (by omega)
    obtain ⟨b, b1, b2, _⟩ := accp_get hw hk
    have hk2 : k < xs.length := by omega
    have hek : encP xs[k] = encP ys[k] := by
      have := congrArg (fun l : List Value => l[k]?) he
      simpa [hk, hk2] using this
    rw [hek] at a2
    simp [q1, q2]
    refine WP.draw0 (by decide +kernel) (by decide +kernel) ?_
    have hne := fun x y => (eqPk ys[k].id ys[k].frm ys[k].to ys[k].time ys[k].id ys[k].frm ys[k].to ys[k].time ys[k].body ys[k].body x y H').2
    simp [e0, e1, q1, q2, a1, a2, b1, b2, hne]
  · rintro e H' q1 q2 ⟨rfl, e0, e1⟩
    simp
    exact hq
end Go.Proofs.YtmmmdmandocbhaaDoor
end
