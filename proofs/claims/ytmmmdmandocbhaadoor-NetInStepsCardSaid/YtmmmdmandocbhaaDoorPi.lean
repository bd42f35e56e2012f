/- Helpers of this claim: an evaluator over plain values and its laws. -/
import Derived.Test.YtmmmdmandocbhaaDoorPh
section
set_option linter.unusedVariables false
set_option linter.unusedSimpArgs false
namespace Go.Proofs.YtmmmdmandocbhaaDoor
open Go Go.Proofs.YtmmmdmandocbhaaDoor.Den
/-- A network that stands well; so many sends were made. -/
structure Inv (n : NN) (T : Nat) : Prop where
  h1 : 1 ≤ n.hosts
  h2 : n.hosts ≤ 16
  us : Used n
  ok : FlOk n
  now0 : 0 ≤ n.now
  now1 : n.now ≤ 1000000000000
  id0 : 1 ≤ n.next
  id1 : n.next ≤ T + 1
  sent : n.sent = n.next - 1
  dbl0 : 0 ≤ n.dbl
  dbl1 : n.dbl ≤ n.sent
  arr : 0 ≤ n.arr
  lost : 0 ≤ n.lost
  sum : n.arr + n.lost + n.fl.length = n.sent + n.dbl
  nums : ∀ k ∈ n.nums, 0 ≤ k ∧ k < 2 ^ 63
  links : ∀ l ∈ n.links, vLink l = true
  at' : ∀ f ∈ n.fl, 0 ≤ f.frm ∧ f.frm < n.hosts ∧ 0 ≤ f.to ∧ f.to < n.hosts ∧ f.id < n.next
  T : T ≤ 100000
def lnk (n : NN) (a b : Int) : Lk := n.links.getD (a.toNat * 16 + b.toNat) ⟨1, 0, 0, 0⟩
def sid (n : NN) (a : Int) : Int := n.sides.getD a.toNat 0
def dwn (n : NN) (a : Int) : Bool := n.down.getD a.toNat false
def hasB (n : NN) (a b : Int) : Prop := 0 ≤ a ∧ a < n.hosts ∧ 0 ≤ b ∧ b < n.hosts
instance (n : NN) (a b : Int) : Decidable (hasB n a b) := by unfold hasB; infer_instance
def newF (n : NN) (a b : Int) (body : List UInt8) : Fl := ⟨n.next, a, b, n.now, body, false⟩
def pSent (n : NN) : NN := { n with next := n.next + 1, sent := n.sent + 1 }
def pLost (n : NN) : NN := { n with lost := n.lost + 1 }
def pDbl (n : NN) : NN := { n with dbl := n.dbl + 1 }
def late (x : Fl) (l : Lk) (k : Int) : Fl := { x with time := x.time + (l.delay + (k.tdiv 10000).tmod (l.jitter + 1)) }
def again (x : Fl) (l : Lk) : Fl := { x with time := x.time + (l.delay + 1), twice := true }
/-- A send that is taken. -/
def pTake (n : NN) (a b : Int) (body : List UInt8) : NN :=
  if a = b then pPut (pSent n) (newF n a b body) else
  if sid n a ≠ sid n b ∨ (pNum (pSent n)).1.tmod 100 < (lnk n a b).loss then pLost (pNum (pSent n)).2 else
  if ((pNum (pSent n)).1.tdiv 100).tmod 100 < (lnk n a b).dbl then pPut (pDbl (pPut (pNum (pSent n)).2 (late (newF n a b body) (lnk n a b) (pNum (pSent n)).1))) (again (late (newF n a b body) (lnk n a b) (pNum (pSent n)).1) (lnk n a b))
  else pPut (pNum (pSent n)).2 (late (newF n a b body) (lnk n a b) (pNum (pSent n)).1)
def eSend (n : NN) (a b : Int) (body : List UInt8) : Int :=
  if ¬ hasB n a b then 7 else if 65536 < body.length then 3 else if dwn n a = true then 9 else if 10000 ≤ n.fl.length then 4 else 0
def pSend (n : NN) (a b : Int) (body : List UInt8) : NN := if eSend n a b body = 0 then pTake n a b body else n
def iSend (n : NN) (a b : Int) (body : List UInt8) : Int := if eSend n a b body = 0 then n.next else 0
theorem cN_dwn {n : NN} {vn vf : Value} (h : WF n) {a : Int} (h0 : 0 ≤ a) (h1 : a < 16) {k : Nat} (hk : k = 1049 + a.toNat) : (cellsN n vn vf)[k]? = some (.bool (dwn n a)) := by
  subst hk
  have ha : a.toNat < 16 := by omega
  have hd : a.toNat < n.down.length := by rw [h.down]; exact ha
  rw [cN_down h ha]
  simp [dwn, List.getD_eq_getElem?_getD, List.getElem?_eq_getElem hd]
theorem cN_sid {n : NN} {vn vf : Value} (h : WF n) {a : Int} (h0 : 0 ≤ a) (h1 : a < 16) {k : Nat} (hk : k = 1033 + a.toNat) : (cellsN n vn vf)[k]? = some (.int .i64 (sid n a)) := by
  subst hk
  have ha : a.toNat < 16 := by omega
  have hd : a.toNat < n.sides.length := by rw [h.sides]; exact ha
  rw [cN_side h ha]
  simp [sid, List.getD_eq_getElem?_getD, List.getElem?_eq_getElem hd]
theorem cN_lnk {n : NN} {vn vf : Value} (h : WF n) {a c : Int} (a0 : 0 ≤ a) (a1 : a < 16) (c0 : 0 ≤ c) (c1 : c < 16) {k : Nat} (hk : k = 9 + a.toNat * 64 + c.toNat * 4) : List.take 4 (List.drop k (cellsN n vn vf)) = (encLk (lnk n a c)).cells.toList := by
  have hl : a.toNat * 16 + c.toNat < 256 := by omega
  have hl2 : a.toNat * 16 + c.toNat < n.links.length := by rw [h.links]; exact hl
  have e : lnk n a c = n.links[a.toNat * 16 + c.toNat] := by simp [lnk, List.getD_eq_getElem?_getD, List.getElem?_eq_getElem hl2]
  subst hk
  apply List.ext_getElem?
  intro j
  rw [List.getElem?_take, List.getElem?_drop]
  by_cases hj : j < 4
  · rw [if_pos hj, show 9 + a.toNat * 64 + c.toNat * 4 + j = 9 + (a.toNat * 16 + c.toNat) * 4 + j by omega, cN_link h hl hj, e, Array.getElem?_toList]
  · rw [if_neg hj, List.getElem?_eq_none]
    simp [Value.cells]; omega
theorem lnk_ok {n : NN} {T : Nat} (h : Inv n T) (a c : Int) : vLink (lnk n a c) = true := by
  unfold lnk
  rw [List.getD_eq_getElem?_getD]
  cases e : n.links[a.toNat * 16 + c.toNat]? with
  | none => rfl
  | some l => exact h.links l (List.mem_of_getElem? e)
theorem putF_cons_t {y x : Fl} (h : kLt y x) (l : List Fl) : putF (y :: l) x = y :: putF l x := by simp [putF, pos, insA, h]
theorem putF_cons_f {y x : Fl} (h : ¬ kLt y x) (l : List Fl) : putF (y :: l) x = x :: y :: l := by simp [putF, pos, insA, h]
theorem putF_nil (x : Fl) : putF [] x = [x] := rfl
theorem putF_len (l : List Fl) (x : Fl) : (putF l x).length = l.length + 1 := insA_len (pos_le l x) x
theorem putF_mem {l : List Fl} {x y : Fl} : y ∈ putF l x ↔ y = x ∨ y ∈ l := by
  unfold putF insA
  constructor
  · intro h
    rcases List.mem_append.1 h with h | h
    · exact .inr (List.mem_of_mem_take h)
    · rcases List.mem_cons.1 h with h | h
      · exact .inl h
      · exact .inr (List.mem_of_mem_drop h)
  · rintro (rfl | h)
    · simp
    · rw [← List.take_append_drop (pos l x) l] at h
      rcases List.mem_append.1 h with h | h
      · exact List.mem_append_left _ h
      · exact List.mem_append_right _ (List.mem_cons_of_mem _ h)
theorem putF_sorted {l : List Fl} (x : Fl) (h : Sorted l) : Sorted (putF l x) := by
  induction l with
  | nil => rw [putF_nil]; exact List.pairwise_singleton _ _
  | cons y l ih =>
    obtain ⟨h1, h2⟩ := List.pairwise_cons.1 h
    by_cases hk : kLt y x
    · rw [putF_cons_t hk]
      refine List.pairwise_cons.2 ⟨fun b hb => ?_, ih h2⟩
      rcases putF_mem.1 hb with rfl | hb
      · intro h3; unfold kLt at hk h3; omega
      · exact h1 b hb
    · rw [putF_cons_f hk]
      refine List.pairwise_cons.2 ⟨fun b hb => ?_, h⟩
      rcases List.mem_cons.1 hb with rfl | hb
      · exact hk
      · exact kLt_up (h1 b hb) hk
theorem FlOk.put {n : NN} (h : FlOk n) {x : Fl} (hx : FB x) (hl : n.fl.length < 2 ^ 20) : FlOk (pPut n x) :=
  ⟨fun y hy => by rcases putF_mem.1 hy with rfl | hy; exact hx; exact h.fb y hy, putF_sorted x h.so, by show (putF n.fl x).length ≤ _; rw [putF_len]; omega⟩
theorem pNum_snd (n : NN) : ∃ u, (pNum n).2 = { n with used := u } := by
  unfold pNum
  split
  · exact ⟨_, rfl⟩
  · exact ⟨n.used, rfl⟩
theorem pNum_fst {n : NN} (h : ∀ k ∈ n.nums, 0 ≤ k ∧ k < 2 ^ 63) : 0 ≤ (pNum n).1 ∧ (pNum n).1 < 2 ^ 63 := by
  unfold pNum
  split
  · rename_i k e
    exact h k (List.mem_of_getElem? e)
  · exact ⟨Int.le_refl _, by show (0 : Int) < _; decide⟩
set_option maxRecDepth 100000 in
theorem send11 {H : World} {b : Nat} {n : NN} {vn vf : Value} (st : NSt H b n vn vf) {T : Nat} (iv : Inv n T) (x y : Int) (body : List UInt8) {Q : Value → World → Prop}
    (hq : ∀ H' vf', NSt H' b (pSend n x y body) vn vf' → FrN H H' b vf vf' → Q (.tuple #[.int .i64 (iSend n x y body), .int .i64 (eSend n x y body)]) H') : FW X 12 #[p0 b, .int .i64 x, .int .i64 y, .string (sB body)] H Q := by
  refine FW.walk (by simp [X, sp17_no]) Tryd.func12 Tryd.ntmps12 rfl (by simp) ?_
  have st1 := st.push (.cells #[.int .i64 x, .int .i64 y] 3 (0, 0))
  have fr1 : FrN H (pushObj H (.cells #[.int .i64 x, .int .i64 y] 3 (0, 0))) b vf vf := FrN.push _
  have gr : getO (pushObj H (.cells #[.int .i64 x, .int .i64 y] 3 (0, 0))) H.heap.size = some (.cells #[.int .i64 x, .int .i64 y] 3 (0, 0)) := by rw [get_push, if_pos rfl]
  have nf := st.fresh (Nat.le_refl _)
  simp [szO, buildSliceX, inOrder, catCells]
  generalize hH1 : pushObj H (.cells #[.int .i64 x, .int .i64 y] 3 (0, 0)) = H1 at *
  generalize hm : H.heap.size = m at *
  refine has43 st1.net gr ?_
  have st2 := st1.push (.cells #[p0 b] 26 (0, 0))
  have fr2 : FrN H (pushObj H1 (.cells #[p0 b] 26 (0, 0))) b vf vf := fr1.trans (FrN.push _)
  have z12 : (pushObj H1 (.cells #[p0 b] 26 (0, 0))).heap.size = H1.heap.size + 1 := by simp
  have mlt := getO_lt gr
  generalize hH2 : pushObj H1 (.cells #[p0 b] 26 (0, 0)) = H2 at *
  have hn2 := st2.net
  by_cases hh : hasB n x y
  rotate_left
  · have e : eSend n x y body = 7 := by simp [eSend, hh]
    have e1 : pSend n x y body = n := by simp [pSend, e]
    have e2 : iSend n x y body = 0 := by simp [iSend, e]
    rw [e, e1, e2] at hq
    have hd : decide (0 ≤ x ∧ x < n.hosts ∧ 0 ≤ y ∧ y < n.hosts) = false := decide_eq_false hh
    rw [hd]
    simp
    exact hq _ _ st2 fr2
  have hd : decide (0 ≤ x ∧ x < n.hosts ∧ 0 ≤ y ∧ y < n.hosts) = true := decide_eq_true hh
  rw [hd]
  by_cases hlen : 65536 < body.length
  · have e : eSend n x y body = 3 := by simp [eSend, hh, hlen]
    have e1 : pSend n x y body = n := by simp [pSend, e]
    have e2 : iSend n x y body = 0 := by simp [iSend, e]
    rw [e, e1, e2] at hq
    have hl' : (65536 : Int) < body.length := by omega
    simp [hl', hlen]
    exact hq _ _ st2 fr2
  have hl' : ¬ (65536 : Int) < body.length := by omega
  obtain ⟨x0, x1, y0, y1⟩ := hh
  have hx16 : x < 16 := by have := iv.h2; omega
  have hy16 : y < 16 := by have := iv.h2; omega
  have hh : hasB n x y := ⟨x0, x1, y0, y1⟩
  have cd := cN_dwn (vn := vn) (vf := vf) st2.wf x0 hx16 (k := 1049 + x.toNat) rfl
  cases hdn : dwn n x with
  | true =>
    have e : eSend n x y body = 9 := by simp [eSend, hh, hlen, hdn]
    have e1 : pSend n x y body = n := by simp [pSend, e]
    have e2 : iSend n x y body = 0 := by simp [iSend, e]
    rw [e, e1, e2] at hq
    simp [hl', idxP, x0, hx16, hn2, cd, hdn]
    exact hq _ _ st2 fr2
  | false =>
  have c9 := cN_fl (vn := vn) (vf := vf) st2.wf
  have hfl := fun H0 => st2.fl.len (H0 := H0)
  by_cases hfu : 10000 ≤ n.fl.length
  · have e : eSend n x y body = 4 := by simp [eSend, hh, hlen, hdn, hfu]
    have e1 : pSend n x y body = n := by simp [pSend, e]
    have e2 : iSend n x y body = 0 := by simp [iSend, e]
    rw [e, e1, e2] at hq
    have hfu' : (10000 : Int) ≤ n.fl.length := by omega
    simp [hl', idxP, x0, hx16, hn2, cd, hdn, c9, hfl, hfu']
    exact hq _ _ st2 fr2
  have hfu' : ¬ (10000 : Int) ≤ n.fl.length := by omega
  have e : eSend n x y body = 0 := by simp [eSend, hh, hlen, hdn, hfu]
  have e1 : pSend n x y body = pTake n x y body := by simp [pSend, e]
  have e2 : iSend n x y body = n.next := by simp [iSend, e]
  rw [e, e1, e2] at hq
  simp [hl', idxP, x0, hx16, hn2, cd, hdn, c9, hfl, hfu']
  refine WP.drawP [(0, 14), (1, 14), (2, 14), (3, 14), (4, 14), (5, 14), (6, 14), (7, 14), (8, 14), (9, 14), (10, 14), (11, 14), (12, 14)] (by decide +kernel) (by decide +kernel) ?_
  have hsn : n.sent = n.next - 1 := iv.sent
  have hT := iv.T
  have hi1 := iv.id1
  have hi0 := iv.id0
  have w1 : IntKind.i64.wrap (n.next + 1) = n.next + 1 := wrap64 (by omega) (by omega)
  have w2 : IntKind.i64.wrap (n.sent + 1) = n.sent + 1 := wrap64 (by omega) (by omega)
  have st3 := st2.push (.cells (cellsF (newF n x y body)) 76 (0, 0))
  have fr3 : FrN H (pushObj H2 (.cells (cellsF (newF n x y body)) 76 (0, 0))) b vf vf := fr2.trans (FrN.push _)
  have gf : getO (pushObj H2 (.cells (cellsF (newF n x y body)) 76 (0, 0))) H2.heap.size = some (.cells (cellsF (newF n x y body)) 76 (0, 0)) := by rw [get_push, if_pos rfl]
  have nf2 := st2.fresh (Nat.le_refl _)
  have lb := getO_lt hn2
  have mlt2 : m < H2.heap.size := by omega
  have nlb : ¬ b = H2.heap.size := by omega
  have lb1 : b < H2.heap.size + 1 := by omega
  have hz6 : ∀ k, k ≤ 1066 → k ≤ (cellsN n vn vf).length := fun k hk => cN_le st.wf hk
  have z9 := hz6 9 (by decide)
  have st4 := st3.write { n with next := n.next + 1 } ⟨st.wf.links, st.wf.sides, st.wf.down⟩ rfl rfl
  have z1' : 1 ≤ (cellsN { n with next := n.next + 1 } vn vf).length := cN_le st4.wf (by decide)
  have st5 := st4.write (pSent n) ⟨st.wf.links, st.wf.sides, st.wf.down⟩ rfl rfl
  have fr5 := fr3.trans ((FrN.setB (b := b) (vf := vf) (netO { n with next := n.next + 1 } vn vf)).trans (FrN.setB (netO (pSent n) vn vf)))
  have nfb : ¬ H2.heap.size = b := fun e => nlb e.symm
  have gf5 : getO (setO (setO (pushObj H2 (.cells (cellsF (newF n x y body)) 76 (0, 0))) b (netO { n with next := n.next + 1 } vn vf)) b (netO (pSent n) vn vf)) H2.heap.size = some (.cells (cellsF (newF n x y body)) 76 (0, 0)) := by
    rw [get_set, if_neg nfb, get_set, if_neg nfb]; exact gf
  simp [hn2, buildQ, fillX, Value.cells, overL, allocX, szO, nlb, lb1, z9, z1', w1, w2]
  refine ⟨(Checks.cons rfl rfl rfl ?_ (Checks.cons rfl rfl rfl ?_ (Checks.cons rfl rfl rfl ?_ (Checks.cons rfl rfl rfl ?_ (Checks.cons rfl rfl rfl ?_ (Checks.cons rfl rfl rfl ?_ (Checks.cons rfl rfl rfl ?_ (Checks.cons rfl rfl rfl ?_ (Checks.cons rfl rfl rfl ?_ (Checks.cons rfl rfl rfl ?_ (Checks.cons rfl rfl rfl ?_ (Checks.cons rfl rfl rfl ?_ (Checks.cons rfl rfl rfl ?_ .nil))))))))))))), ?_⟩
  iterate 13
    · unfold reV
      simp [hn2, get_push, nlb, q_int, q_ptr, q_str, q_agg, q_cons, q_nil, q1_int, q1_bool, q1_str, buildQ, fillX, Value.cells, overL]
  change NSt (setO (setO (pushObj H2 (.cells #[.int .i64 n.next, .int .i64 x, .int .i64 y, .int .i64 n.now, .string (sB body), .bool false] 76 (0, 0))) b (netO { n with next := n.next + 1 } vn vf)) b (netO { n with next := n.next + 1, sent := n.sent + 1 } vn vf)) b { n with next := n.next + 1, sent := n.sent + 1 } vn vf at st5
  change FrN H (setO (setO (pushObj H2 (.cells #[.int .i64 n.next, .int .i64 x, .int .i64 y, .int .i64 n.now, .string (sB body), .bool false] 76 (0, 0))) b (netO { n with next := n.next + 1 } vn vf)) b (netO { n with next := n.next + 1, sent := n.sent + 1 } vn vf)) b vf vf at fr5
  change getO (setO (setO (pushObj H2 (.cells #[.int .i64 n.next, .int .i64 x, .int .i64 y, .int .i64 n.now, .string (sB body), .bool false] 76 (0, 0))) b (netO { n with next := n.next + 1 } vn vf)) b (netO { n with next := n.next + 1, sent := n.sent + 1 } vn vf)) H2.heap.size = some (.cells #[.int .i64 n.next, .int .i64 x, .int .i64 y, .int .i64 n.now, .string (sB body), .bool false] 76 (0, 0)) at gf5
  rw [set_set] at st5 fr5 gf5
  generalize hH5 : setO (pushObj H2 (.cells #[.int .i64 n.next, .int .i64 x, .int .i64 y, .int .i64 n.now, .string (sB body), .bool false] 76 (0, 0))) b (netO { n with next := n.next + 1, sent := n.sent + 1 } vn vf) = H5 at *
  generalize hf : H2.heap.size = f at *
  have ok5 : FlOk { n with next := n.next + 1, sent := n.sent + 1 } := ⟨iv.ok.fb, iv.ok.so, iv.ok.len⟩
  have fb5 : FB (newF n x y body) := ⟨iv.now0, by show n.now ≤ _; have := iv.now1; omega, by show 0 ≤ n.next; omega, by show n.next ≤ _; omega⟩
  by_cases hxy : x = y
  · have ep : pTake n x y body = pPut { n with next := n.next + 1, sent := n.sent + 1 } (newF n x y body) := by unfold pTake; rw [if_pos hxy]; rfl
    rw [ep] at hq
    have hxd : decide (x = y) = true := decide_eq_true hxy
    rw [hxd]
    simp [gf5]
    refine put44 st5 ok5 fb5 fun H6 vf6 st6 fr6 => ?_
    have gf6 := fr6.keep _ _ gf5 nfb nf2.2.2
    simp [gf6]
    exact hq _ _ st6 (fr5.trans fr6)
  have hxd : decide (x = y) = false := decide_eq_false hxy
  rw [hxd]
  have us5 : Used { n with next := n.next + 1, sent := n.sent + 1 } := ⟨iv.us.lo, iv.us.hi, iv.us.len⟩
  have hl5 := cN_lnk (vn := vn) (vf := vf) st5.wf x0 hx16 y0 hy16 rfl
  have el : lnk { n with next := n.next + 1, sent := n.sent + 1 } x y = lnk n x y := rfl
  rw [el] at hl5
  have hn5 := st5.net
  have hlo : 9 + x.toNat * 64 + y.toNat * 4 + 4 ≤ (cellsN { n with next := n.next + 1, sent := n.sent + 1 } vn vf).length := cN_le st5.wf (by omega)
  simp
  refine WP.drawP [(0, 10), (0, 11), (1, 10), (1, 11), (2, 10), (2, 11), (3, 10), (3, 11), (4, 10), (4, 11), (5, 10), (5, 11), (6, 10), (6, 11), (7, 10), (7, 11), (8, 10)] (by decide +kernel) (by decide +kernel) ?_
  simp [hn5, idxP, x0, hx16, y0, hy16, hlo, hl5]
  refine number45 st5 us5 fun H6 st6 fr6 => ?_
  obtain ⟨u, hu⟩ := pNum_snd { n with next := n.next + 1, sent := n.sent + 1 }
  have hk := pNum_fst (n := { n with next := n.next + 1, sent := n.sent + 1 }) iv.nums
  have hvl := lnk_ok iv x y
  have et : pTake n x y body = if sid n x ≠ sid n y ∨ (pNum { n with next := n.next + 1, sent := n.sent + 1 }).1.tmod 100 < (lnk n x y).loss then pLost (pNum { n with next := n.next + 1, sent := n.sent + 1 }).2 else
      if ((pNum { n with next := n.next + 1, sent := n.sent + 1 }).1.tdiv 100).tmod 100 < (lnk n x y).dbl then pPut (pDbl (pPut (pNum { n with next := n.next + 1, sent := n.sent + 1 }).2 (late (newF n x y body) (lnk n x y) (pNum { n with next := n.next + 1, sent := n.sent + 1 }).1))) (again (late (newF n x y body) (lnk n x y) (pNum { n with next := n.next + 1, sent := n.sent + 1 }).1) (lnk n x y))
      else pPut (pNum { n with next := n.next + 1, sent := n.sent + 1 }).2 (late (newF n x y body) (lnk n x y) (pNum { n with next := n.next + 1, sent := n.sent + 1 }).1) := by
    unfold pTake; rw [if_neg hxy]; rfl
  rw [et] at hq
  rw [hu] at st6 hq
  generalize hkk : (pNum { n with next := n.next + 1, sent := n.sent + 1 }).1 = k at *
  generalize hll : lnk n x y = l at *
  have hl6 := cN_lnk (vn := vn) (vf := vf) st6.wf x0 hx16 y0 hy16 rfl
  have el6 : lnk { n with next := n.next + 1, sent := n.sent + 1, used := u } x y = l := hll
  rw [el6] at hl6
  have hlo6 : 9 + x.toNat * 64 + y.toNat * 4 + 4 ≤ (cellsN { n with next := n.next + 1, sent := n.sent + 1, used := u } vn vf).length := cN_le st6.wf (by omega)
  have hn6 := st6.net
  have lb6 := getO_lt hn6
  have nlb6 : ¬ b = H6.heap.size := by omega
  simp [allocX, Value.cells, overL, szO]
  refine ⟨(Checks.cons rfl rfl rfl ?_ (Checks.cons rfl rfl rfl ?_ (Checks.cons rfl rfl rfl ?_ (Checks.cons rfl rfl rfl ?_ (Checks.cons rfl rfl rfl ?_ (Checks.cons rfl rfl rfl ?_ (Checks.cons rfl rfl rfl ?_ (Checks.cons rfl rfl rfl ?_ (Checks.cons rfl rfl rfl ?_ (Checks.cons rfl rfl rfl ?_ (Checks.cons rfl rfl rfl ?_ (Checks.cons rfl rfl rfl ?_ (Checks.cons rfl rfl rfl ?_ (Checks.cons rfl rfl rfl ?_ (Checks.cons rfl rfl rfl ?_ (Checks.cons rfl rfl rfl ?_ (Checks.cons rfl rfl rfl ?_ .nil))))))))))))))))), ?_⟩
  iterate 17
    · unfold reV
      simp [hn5, hn6, idxP, x0, hx16, y0, hy16, hlo, hl5, hlo6, hl6, get_push, nlb6, q_int, q_ptr, q_str, q_agg, q_cons, q_nil, q1_int, q1_bool, q1_str]
  have gf6 := fr6.keep _ _ gf5 nfb nf2.2.2
  have st7 := st6.push (.cells #[.int .i64 l.delay, .int .i64 l.jitter, .int .i64 l.loss, .int .i64 l.dbl] 31 (0, 0))
  have fr7 : FrN H (pushObj H6 (.cells #[.int .i64 l.delay, .int .i64 l.jitter, .int .i64 l.loss, .int .i64 l.dbl] 31 (0, 0))) b vf vf := (fr5.trans fr6).trans (FrN.push _)
  have gl7 : getO (pushObj H6 (.cells #[.int .i64 l.delay, .int .i64 l.jitter, .int .i64 l.loss, .int .i64 l.dbl] 31 (0, 0))) H6.heap.size = some (.cells #[.int .i64 l.delay, .int .i64 l.jitter, .int .i64 l.loss, .int .i64 l.dbl] 31 (0, 0)) := by rw [get_push, if_pos rfl]
  have gf7 : getO (pushObj H6 (.cells #[.int .i64 l.delay, .int .i64 l.jitter, .int .i64 l.loss, .int .i64 l.dbl] 31 (0, 0))) f = some (.cells #[.int .i64 n.next, .int .i64 x, .int .i64 y, .int .i64 n.now, .string (sB body), .bool false] 76 (0, 0)) := by
    have := getO_lt gf6
    rw [get_push, if_neg (by omega)]; exact gf6
  have nfl := st6.fresh (Nat.le_refl _)
  have lf6 := getO_lt gf6
  generalize hH7 : pushObj H6 (.cells #[.int .i64 l.delay, .int .i64 l.jitter, .int .i64 l.loss, .int .i64 l.dbl] 31 (0, 0)) = H7 at *
  generalize hg : H6.heap.size = g at *
  have hsx : (cellsN { n with next := n.next + 1, sent := n.sent + 1, used := u } vn vf)[1033 + x.toNat]? = some (.int .i64 (sid n x)) := cN_sid st6.wf x0 hx16 rfl
  have hsy : (cellsN { n with next := n.next + 1, sent := n.sent + 1, used := u } vn vf)[1033 + y.toNat]? = some (.int .i64 (sid n y)) := cN_sid st6.wf y0 hy16 rfl
  have hn7 := st7.net
  have lb7 := getO_lt hn7
  have lf7 := getO_lt gf7
  obtain ⟨v1, v2, v3, v4, v5, v6, v7, v8⟩ : 0 ≤ l.delay ∧ l.delay ≤ 1000 ∧ 0 ≤ l.jitter ∧ l.jitter ≤ 1000 ∧ 0 ≤ l.loss ∧ l.loss ≤ 100 ∧ 0 ≤ l.dbl ∧ l.dbl ≤ 100 := of_decide_eq_true hvl
  have now1 := iv.now1
  have now0 := iv.now0
  have q1 : 0 ≤ k.tdiv 10000 := Int.tdiv_nonneg hk.1 (by decide)
  have q2 : k.tdiv 10000 ≤ k := by rw [Int.tdiv_eq_ediv_of_nonneg hk.1]; omega
  have q3 : 0 ≤ (k.tdiv 10000).tmod (l.jitter + 1) := Int.tmod_nonneg _ q1
  have q4 : (k.tdiv 10000).tmod (l.jitter + 1) < l.jitter + 1 := Int.tmod_lt_of_pos _ (by omega)
  have q5 : 0 ≤ k.tdiv 100 := Int.tdiv_nonneg hk.1 (by decide)
  have q6 : k.tdiv 100 ≤ k := by rw [Int.tdiv_eq_ediv_of_nonneg hk.1]; omega
  have hk2 := hk.2
  have w3 : IntKind.i64.wrap (l.jitter + 1) = l.jitter + 1 := wrap64 (by omega) (by omega)
  have w4 : IntKind.i64.wrap (k.tdiv 10000) = k.tdiv 10000 := wrap64 q1 (by omega)
  have w5 : IntKind.i64.wrap (k.tdiv 100) = k.tdiv 100 := wrap64 q5 (by omega)
  have hj0 : ¬ l.jitter + 1 = 0 := by omega
  refine WP.draw0 (by decide +kernel) (by decide +kernel) ?_
  have hs7 := st7.write (pLost { n with next := n.next + 1, sent := n.sent + 1, used := u }) ⟨st6.wf.links, st6.wf.sides, st6.wf.down⟩ rfl rfl
  have z3 : 3 ≤ (cellsN { n with next := n.next + 1, sent := n.sent + 1, used := u } vn vf).length := cN_le st6.wf (by decide)
  have wl : IntKind.i64.wrap (n.lost + 1) = n.lost + 1 := wrap64 (by have := iv.lost; omega) (by have := iv.sum; have := iv.dbl1; have := iv.arr; omega)
  by_cases hlo1 : sid n x ≠ sid n y ∨ k.tmod 100 < l.loss
  · rw [if_pos hlo1] at hq
    have hcase : decide (sid n x ≠ sid n y) = true ∨ (decide (sid n x ≠ sid n y) = false ∧ decide (k.tmod 100 < l.loss) = true) := by
      by_cases h : sid n x = sid n y
      · exact .inr ⟨by simp [h], decide_eq_true (hlo1.resolve_left fun h' => h' h)⟩
      · exact .inl (by simp [h])
    have gf8 : getO (setO H7 b (netO (pLost { n with next := n.next + 1, sent := n.sent + 1, used := u }) vn vf)) f = some (.cells #[.int .i64 n.next, .int .i64 x, .int .i64 y, .int .i64 n.now, .string (sB body), .bool false] 76 (0, 0)) := by
      rw [get_set, if_neg nfb]; exact gf7
    change NSt (setO H7 b (netO { n with next := n.next + 1, sent := n.sent + 1, used := u, lost := n.lost + 1 } vn vf)) b _ vn vf at hs7
    change getO (setO H7 b (netO { n with next := n.next + 1, sent := n.sent + 1, used := u, lost := n.lost + 1 } vn vf)) f = _ at gf8
    have hfin : Q (.tuple #[.int .i64 n.next, .int .i64 0]) (setO H7 b (netO { n with next := n.next + 1, sent := n.sent + 1, used := u, lost := n.lost + 1 } vn vf)) := hq _ _ hs7 (fr7.trans (FrN.setB _))
    rw [get_set, if_neg nfb] at gf8
    rcases hcase with h | ⟨h, h2⟩
    · have h' : ¬ sid n x = sid n y := by simpa using h
      simp [hn7, idxP, x0, hx16, y0, hy16, hsx, hsy, h', z3, wl, lb7, gf7, nfb]
      exact hfin
    · have h' : sid n x = sid n y := by simpa using h
      simp [hn7, idxP, x0, hx16, y0, hy16, hsx, hsy, h', gl7, h2, z3, wl, lb7, gf7, nfb]
      exact hfin
  rw [if_neg hlo1] at hq
  have hse : sid n x = sid n y := Classical.byContradiction fun h => hlo1 (.inl h)
  have hkl : decide (k.tmod 100 < l.loss) = false := decide_eq_false fun h => hlo1 (.inr h)
  simp [hn7, idxP, x0, hx16, y0, hy16, hsx, hsy, hse, gl7, hkl]
  refine WP.draw0 (by decide +kernel) (by decide +kernel) ?_
  generalize hd5 : (k.tdiv 10000).tmod (l.jitter + 1) = d at *
  have w6 : IntKind.i64.wrap (l.delay + d) = l.delay + d := wrap64 (by omega) (by omega)
  have w7 : IntKind.i64.wrap (n.now + (l.delay + d)) = n.now + (l.delay + d) := wrap64 (by omega) (by omega)
  have st8 := st7.setO' (i := f) (.cells #[.int .i64 n.next, .int .i64 x, .int .i64 y, .int .i64 (n.now + (l.delay + d)), .string (sB body), .bool false] 76 (0, 0)) nf2.1 nf2.2.1 nf2.2.2
  have hHf : H.heap.size ≤ f := by omega
  have fr8 := fr7.setFresh (i := f) (.cells #[.int .i64 n.next, .int .i64 x, .int .i64 y, .int .i64 (n.now + (l.delay + d)), .string (sB body), .bool false] 76 (0, 0)) hHf
  have ngf : ¬ g = f := by omega
  have gf8 : getO (setO H7 f (.cells #[.int .i64 n.next, .int .i64 x, .int .i64 y, .int .i64 (n.now + (l.delay + d)), .string (sB body), .bool false] 76 (0, 0))) f = some (.cells #[.int .i64 n.next, .int .i64 x, .int .i64 y, .int .i64 (n.now + (l.delay + d)), .string (sB body), .bool false] 76 (0, 0)) := by
    rw [get_set, if_pos rfl, if_pos lf7]
  have gl8 : getO (setO H7 f (.cells #[.int .i64 n.next, .int .i64 x, .int .i64 y, .int .i64 (n.now + (l.delay + d)), .string (sB body), .bool false] 76 (0, 0))) g = some (.cells #[.int .i64 l.delay, .int .i64 l.jitter, .int .i64 l.loss, .int .i64 l.dbl] 31 (0, 0)) := by
    rw [get_set, if_neg ngf]; exact gl7
  simp [gf7, gl7, w3, w4, hj0, hd5, w6, w7, overL, Value.cells, lf7]
  generalize hH8 : setO H7 f (.cells #[.int .i64 n.next, .int .i64 x, .int .i64 y, .int .i64 (n.now + (l.delay + d)), .string (sB body), .bool false] 76 (0, 0)) = H8 at *
  have elate : late (newF n x y body) l k = ⟨n.next, x, y, n.now + (l.delay + d), body, false⟩ := by simp [late, newF, hd5]
  have eagain : again ⟨n.next, x, y, n.now + (l.delay + d), body, false⟩ l = ⟨n.next, x, y, n.now + (l.delay + d) + (l.delay + 1), body, true⟩ := rfl
  rw [elate, eagain] at hq
  have ok6 : FlOk { n with next := n.next + 1, sent := n.sent + 1, used := u } := ⟨iv.ok.fb, iv.ok.so, iv.ok.len⟩
  have fb6 : FB ⟨n.next, x, y, n.now + (l.delay + d), body, false⟩ := ⟨by show 0 ≤ n.now + (l.delay + d); omega, by show n.now + (l.delay + d) ≤ _; omega, by show 0 ≤ n.next; omega, by show n.next ≤ _; omega⟩
  have fb7 : FB ⟨n.next, x, y, n.now + (l.delay + d) + (l.delay + 1), body, true⟩ := ⟨by show 0 ≤ n.now + (l.delay + d) + (l.delay + 1); omega, by show n.now + (l.delay + d) + (l.delay + 1) ≤ _; omega, by show 0 ≤ n.next; omega, by show n.next ≤ _; omega⟩
  refine put44 st8 ok6 fb6 fun H9 vf9 st9 fr9 => ?_
  have apg : ApO vf g := nfl.2.2
  have gf9 := fr9.keep _ _ gf8 nfb nf2.2.2
  have gl9 := fr9.keep _ _ gl8 nfl.1 apg
  have lf9 := getO_lt gf9
  have apf9 := fr9.fresh _ (getO_lt gf8) nfb nf2.2.2
  have fr09 := fr8.trans fr9
  by_cases hdb : (k.tdiv 100).tmod 100 < l.dbl
  rotate_left
  · rw [if_neg hdb] at hq
    have hdd : decide ((k.tdiv 100).tmod 100 < l.dbl) = false := decide_eq_false hdb
    simp [gl9, gf9, w5, hdd]
    exact hq _ _ st9 fr09
  rw [if_pos hdb] at hq
  have hdd : decide ((k.tdiv 100).tmod 100 < l.dbl) = true := decide_eq_true hdb
  have w8 : IntKind.i64.wrap (l.delay + 1) = l.delay + 1 := wrap64 (by omega) (by omega)
  have w9 : IntKind.i64.wrap (n.now + (l.delay + d) + (l.delay + 1)) = n.now + (l.delay + d) + (l.delay + 1) := wrap64 (by omega) (by omega)
  have st10 := st9.setO' (i := f) (.cells #[.int .i64 n.next, .int .i64 x, .int .i64 y, .int .i64 (n.now + (l.delay + d) + (l.delay + 1)), .string (sB body), .bool true] 76 (0, 0)) nf2.1 nf2.2.1 apf9
  have fr10 := fr09.setFresh (i := f) (.cells #[.int .i64 n.next, .int .i64 x, .int .i64 y, .int .i64 (n.now + (l.delay + d) + (l.delay + 1)), .string (sB body), .bool true] 76 (0, 0)) hHf
  have gf10 : getO (setO H9 f (.cells #[.int .i64 n.next, .int .i64 x, .int .i64 y, .int .i64 (n.now + (l.delay + d) + (l.delay + 1)), .string (sB body), .bool true] 76 (0, 0))) f = some (.cells #[.int .i64 n.next, .int .i64 x, .int .i64 y, .int .i64 (n.now + (l.delay + d) + (l.delay + 1)), .string (sB body), .bool true] 76 (0, 0)) := by rw [get_set, if_pos rfl, if_pos lf9]
  have hn10 := st10.net
  have hn9 := st9.net
  have z4 : 4 ≤ (cellsN (pPut { n with next := n.next + 1, sent := n.sent + 1, used := u } ⟨n.next, x, y, n.now + (l.delay + d), body, false⟩) vn vf9).length := cN_le st9.wf (by decide)
  have wd : IntKind.i64.wrap (n.dbl + 1) = n.dbl + 1 := wrap64 (by have := iv.dbl0; omega) (by have := iv.dbl1; omega)
  have c3 : (pPut { n with next := n.next + 1, sent := n.sent + 1, used := u } ⟨n.next, x, y, n.now + (l.delay + d), body, false⟩).dbl = n.dbl := rfl
  have nbf : ¬ b = f := fun e => nfb e.symm
  have lb9 := getO_lt hn9
  have st11 := st10.write (pDbl (pPut { n with next := n.next + 1, sent := n.sent + 1, used := u } ⟨n.next, x, y, n.now + (l.delay + d), body, false⟩)) ⟨st9.wf.links, st9.wf.sides, st9.wf.down⟩ rfl rfl
  have fr11 := fr10.trans (FrN.setB (b := b) (netO (pDbl (pPut { n with next := n.next + 1, sent := n.sent + 1, used := u } ⟨n.next, x, y, n.now + (l.delay + d), body, false⟩)) vn vf9))
  have gf11 : getO (setO (setO H9 f (.cells #[.int .i64 n.next, .int .i64 x, .int .i64 y, .int .i64 (n.now + (l.delay + d) + (l.delay + 1)), .string (sB body), .bool true] 76 (0, 0))) b (netO (pDbl (pPut { n with next := n.next + 1, sent := n.sent + 1, used := u } ⟨n.next, x, y, n.now + (l.delay + d), body, false⟩)) vn vf9)) f = some (.cells #[.int .i64 n.next, .int .i64 x, .int .i64 y, .int .i64 (n.now + (l.delay + d) + (l.delay + 1)), .string (sB body), .bool true] 76 (0, 0)) := by rw [get_set, if_neg nfb]; exact gf10
  have e11 : { pPut { n with next := n.next + 1, sent := n.sent + 1, used := u } ⟨n.next, x, y, n.now + (l.delay + d), body, false⟩ with dbl := n.dbl + 1 } = pDbl (pPut { n with next := n.next + 1, sent := n.sent + 1, used := u } ⟨n.next, x, y, n.now + (l.delay + d), body, false⟩) := rfl
  simp [gl9, gf9, w5, hdd, w8, w9, lf9, overL, Value.cells, hn9, nbf, z4, c3, wd, lb9, e11, nfb]
  have ok9 := ok6.put fb6 (by show n.fl.length < _; omega)
  refine put44 st11 ⟨ok9.fb, ok9.so, ok9.len⟩ fb7 fun H12 vf12 st12 fr12 => ?_
  have gf12 := fr12.keep _ _ gf11 nfb apf9
  simp [gf12]
  exact hq _ _ st12 (fr11.trans fr12)
end Go.Proofs.YtmmmdmandocbhaaDoor
end
