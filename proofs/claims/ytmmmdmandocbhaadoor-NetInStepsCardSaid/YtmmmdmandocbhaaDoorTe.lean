/- Helpers of this claim: an evaluator over plain values and its laws. -/
import Derived.Test.YtmmmdmandocbhaaDoorTd
section
/- Letting the time go on in steps (plain). -/
set_option linter.unusedVariables false
set_option linter.unusedSimpArgs false
namespace Go.Proofs.YtmmmdmandocbhaaDoor
open Go Go.Proofs.YtmmmdmandocbhaaDoor.Den
theorem tw_split {α : Type} {p q : α → Bool} (h : ∀ x, p x = true → q x = true) : ∀ l : List α, (l.takeWhile q).length = (l.takeWhile p).length + ((l.drop (l.takeWhile p).length).takeWhile q).length
  | [] => rfl
  | x :: l => by
    have ih := tw_split h l
    cases hp : p x with
    | true =>
      rw [List.takeWhile_cons_of_pos hp, List.takeWhile_cons_of_pos (h x hp), List.length_cons, List.length_cons, List.drop_succ_cons, ih]
      omega
    | false =>
      have e : (x :: l).takeWhile p = [] := List.takeWhile_cons_of_neg (by simp [hp])
      rw [e]
      simp
theorem cnt_split (fl : List Fl) {s t : Int} (h : s ≤ t) : cntT fl t = cntT fl s + cntT (fl.drop (cntT fl s)) t :=
  tw_split (p := fun f : Fl => decide (f.time ≤ s)) (q := fun f : Fl => decide (f.time ≤ t)) (fun x hx => decide_eq_true (by have := of_decide_eq_true hx; omega)) fl
theorem pK_add (n : NN) (fl : List Fl) (s t : Int) (c d : Nat) : pK { pK { n with now := s } fl c with now := t } (fl.drop c) d = pK { n with now := t } fl (c + d) := by
  have e1 : fl.take (c + d) = fl.take c ++ (fl.drop c).take d := List.take_add
  have e2 : (fl.drop c).drop d = fl.drop (c + d) := List.drop_drop
  have e3 : arrv ({ n with now := t } : NN) = arrv n := rfl
  have e4 : arrv ({ n with now := s } : NN) = arrv n := rfl
  have e5 : arrv ({ pK { n with now := s } fl c with now := t } : NN) = arrv n := rfl
  have l1 : (pK ({ n with now := s } : NN) fl c).lost = n.lost + ((fl.take c).countP fun f => !arrv n f : Nat) := rfl
  have l2 : (pK ({ n with now := s } : NN) fl c).arr = n.arr + ((fl.take c).countP (arrv n) : Nat) := rfl
  unfold pK at *
  simp only [e1, e2, List.countP_append]
  have a1 : ∀ l : List Fl, (l.countP fun f => !arrv ({ n with now := t } : NN) f) = l.countP fun f => !arrv n f := fun l => rfl
  have a2 : ∀ l : List Fl, (l.countP (arrv ({ n with now := t } : NN))) = l.countP (arrv n) := fun l => rfl
  congr 1
  · show n.arr + ((fl.take c).countP (arrv n) : Nat) + (((fl.drop c).take d).countP (arrv n) : Nat) = n.arr + (((fl.take c).countP (arrv n) + ((fl.drop c).take d).countP (arrv n) : Nat) : Int)
    omega
  · show n.lost + ((fl.take c).countP (fun f => !arrv n f) : Nat) + (((fl.drop c).take d).countP (fun f => !arrv n f) : Nat) = n.lost + (((fl.take c).countP (fun f => !arrv n f) + ((fl.drop c).take d).countP (fun f => !arrv n f) : Nat) : Int)
    omega
theorem pass_two {n : NN} {s t : Int} (h : pPassOk n s) (hst : s ≤ t) (ht : t ≤ 1000000000000) : pPass (pPass n s) t = pPass n t ∧ oPass n t = oPass n s ++ oPass (pPass n s) t := by
  have hk : pPassOk n t := ⟨by have := h.1; omega, ht⟩
  have e1 : pPass n s = pK { n with now := s } n.fl (cntT n.fl s) := if_pos h
  have hk2 : pPassOk (pPass n s) t := by rw [e1]; exact ⟨hst, ht⟩
  have e2 : pPass n t = pK { n with now := t } n.fl (cntT n.fl t) := if_pos hk
  have e3 : pPass (pPass n s) t = pK { pPass n s with now := t } (pPass n s).fl (cntT (pPass n s).fl t) := if_pos hk2
  have e4 : oPass n t = (n.fl.take (cntT n.fl t)).filter (arrv n) := if_pos hk
  have e5 : oPass n s = (n.fl.take (cntT n.fl s)).filter (arrv n) := if_pos h
  have e6 : oPass (pPass n s) t = ((pPass n s).fl.take (cntT (pPass n s).fl t)).filter (arrv (pPass n s)) := if_pos hk2
  have ef : (pPass n s).fl = n.fl.drop (cntT n.fl s) := by rw [e1]; rfl
  have ea : arrv (pPass n s) = arrv n := by rw [e1]; rfl
  have hc := cnt_split n.fl hst
  refine ⟨?_, ?_⟩
  · rw [e3, ef, e2, hc, e1, pK_add]
  · rw [e4, e5, e6, ef, ea, hc, List.take_add, List.filter_append]
/-- A network after some steps, what came out. -/
def StepsI (n0 : NN) (k : Nat) (n : NN) (last : Int) (out : List Fl) : Prop :=
  0 ≤ last ∧ last ≤ 3000 ∧ ((k = 0 ∧ n = n0 ∧ last = 0 ∧ out = []) ∨ (0 < k ∧ n = pPass n0 last ∧ out = oPass n0 last))
theorem StepsI.start (n0 : NN) : StepsI n0 0 n0 0 [] := ⟨by omega, by omega, .inl ⟨rfl, rfl, rfl, rfl⟩⟩
theorem StepsI.skip {n0 n : NN} {k : Nat} {last t : Int} {out : List Fl} (h : StepsI n0 k n last out) (h0 : 0 ≤ t) (ht : t < last) : StepsI n0 (k + 1) n last out := by
  obtain ⟨a, b, c | c⟩ := h
  · obtain ⟨_, _, e, _⟩ := c; omega
  · exact ⟨a, b, .inr ⟨by omega, c.2.1, c.2.2⟩⟩
theorem StepsI.pass {n0 n : NN} {k : Nat} {last t : Int} {out : List Fl} (hn : n0.now = 0) (h : StepsI n0 k n last out) (h0 : last ≤ t) (ht : t ≤ 3000) : pPassOk n t ∧ StepsI n0 (k + 1) (pPass n t) t (out ++ oPass n t) := by
  obtain ⟨a, b, ⟨rfl, rfl, rfl, rfl⟩ | ⟨c1, c2, c3⟩⟩ := h
  · exact ⟨⟨by omega, by omega⟩, by omega, by omega, .inr ⟨by omega, rfl, rfl⟩⟩
  · have ok : pPassOk n0 last := ⟨by omega, by omega⟩
    have hnow : n.now = last := by rw [c2]; unfold pPass; rw [if_pos ok]; rfl
    obtain ⟨p1, p2⟩ := pass_two ok h0 (by omega)
    refine ⟨⟨by omega, by omega⟩, by omega, by omega, .inr ⟨by omega, ?_, ?_⟩⟩
    · rw [c2, p1]
    · rw [c3, c2, p2]
theorem StepsI.done {n0 n : NN} {k : Nat} {last : Int} {out : List Fl} (h : StepsI n0 k n last out) (hk : 0 < k) : n = pPass n0 last ∧ out = oPass n0 last ∧ 0 ≤ last ∧ last ≤ 3000 := by
  obtain ⟨a, b, c | c⟩ := h
  · omega
  · exact ⟨c.2.1, c.2.2, a, b⟩
end Go.Proofs.YtmmmdmandocbhaaDoor
end

section
/- What Text asks holds of every network that the acts make. -/
set_option linter.unusedVariables false
set_option linter.unusedSimpArgs false
namespace Go.Proofs.YtmmmdmandocbhaaDoor
open Go Go.Proofs.YtmmmdmandocbhaaDoor.Den
structure TX (n : NN) : Prop where
  sides : ∀ x ∈ n.sides, I64 x
  body : ∀ f ∈ n.fl, f.body.length ≤ 65536
theorem tx_new (h : Int) (l : List Int) (lk : Lk) : TX (netZ h l lk) := ⟨fun x hx => by
  have := (List.mem_replicate.1 hx).2
  subst this
  unfold I64; omega, fun f hf => by cases hf⟩
theorem mem_putF {l : List Fl} {x f : Fl} (h : f ∈ putF l x) : f = x ∨ f ∈ l := by
  unfold putF insA at h
  simp only [List.mem_append, List.mem_cons] at h
  rcases h with h | h | h
  · exact .inr (List.mem_of_mem_take h)
  · exact .inl h
  · exact .inr (List.mem_of_mem_drop h)
theorem tx_put {n : NN} (h : TX n) {x : Fl} (hx : x.body.length ≤ 65536) : TX (pPut n x) := ⟨h.sides, fun f hf => by
  rcases mem_putF hf with rfl | hf
  · exact hx
  · exact h.body f hf⟩
theorem tx_send {n : NN} (h : TX n) (x y : Int) (body : List UInt8) : TX (pSend n x y body) := by
  unfold pSend
  split
  rotate_left
  · exact h
  rename_i he
  have hb := (eSend_has he).2.1
  have h1 : TX (pSent n) := ⟨h.sides, h.body⟩
  obtain ⟨u, hu⟩ := pNum_snd (pSent n)
  have h2 : TX (pNum (pSent n)).2 := by rw [hu]; exact ⟨h.sides, h.body⟩
  unfold pTake
  split
  · exact tx_put (x := newF n x y body) h1 hb
  split
  · exact ⟨h2.sides, h2.body⟩
  have h3 := tx_put h2 (x := late (newF n x y body) (lnk n x y) (pNum (pSent n)).1) hb
  split
  · have h4 : TX (pDbl (pPut (pNum (pSent n)).2 (late (newF n x y body) (lnk n x y) (pNum (pSent n)).1))) := ⟨h3.sides, h3.body⟩
    exact tx_put (x := again (late (newF n x y body) (lnk n x y) (pNum (pSent n)).1) (lnk n x y)) h4 hb
  · exact h3
theorem tx_do {n : NN} (h : TX n) (x : Ac) (hx : ∀ a ∈ x.sides.getD [], I64 a) : TX (pDo n x) := by
  unfold pDo
  split
  · unfold pSet; split
    · exact ⟨h.sides, h.body⟩
    · exact h
  split
  · unfold pPart; split
    · refine ⟨fun a ha => ?_, h.body⟩
      rcases List.mem_append.1 ha with ha | ha
      · exact hx a ha
      · exact h.sides a (List.mem_of_mem_drop ha)
    · exact h
  split
  · refine ⟨fun a ha => ?_, h.body⟩
    have := (List.mem_replicate.1 ha).2
    subst this
    unfold I64; omega
  split
  · unfold pTurn; split
    · exact ⟨h.sides, h.body⟩
    · exact h
  split
  · unfold pTurn; split
    · exact ⟨h.sides, h.body⟩
    · exact h
  split
  · exact tx_send h _ _ _
  · exact h
theorem tx_pass {n : NN} (h : TX n) (t : Int) : TX (pPass n t) := by
  unfold pPass
  split
  · exact ⟨h.sides, fun f hf => h.body f (List.mem_of_mem_drop hf)⟩
  · exact h
theorem tb_of {n : NN} {T : Nat} (iv : Inv n T) (h : TX n) : TB n := by
  have a1 := iv.h1
  have a2 := iv.h2
  have a3 := iv.now0
  have a4 := iv.now1
  have a5 := iv.id0
  have a6 := iv.id1
  have a7 := iv.sent
  have a8 := iv.dbl0
  have a9 := iv.dbl1
  have b1 := iv.arr
  have b2 := iv.lost
  have b3 := iv.sum
  have b4 := iv.T
  have b5 := iv.us.lo
  have b6 := iv.us.hi
  have b7 := iv.us.len
  refine ⟨by omega, a2, fun x hx => ?_, fun x hx => ?_, b7, fun a => ?_, fun a c => ?_, fun f hf => ?_, iv.ok.len⟩
  · simp only [List.mem_cons, List.not_mem_nil, or_false] at hx
    rcases hx with rfl | rfl | rfl | rfl | rfl | rfl | rfl | rfl <;> (unfold I64; omega)
  · have := iv.nums x hx
    unfold I64; omega
  · unfold sid
    rw [List.getD_eq_getElem?_getD]
    cases e : n.sides[a.toNat]? with
    | none => simp [I64]
    | some x => exact h.sides x (List.mem_of_getElem? e)
  · have hv := lnk_ok iv a c
    unfold vLink at hv
    have hv := of_decide_eq_true hv
    unfold I64
    omega
  · have c1 := iv.at' f hf
    have c2 := iv.ok.fb f hf
    have c3 := c2.t0
    have c4 := c2.t1
    have c5 := c2.i0
    have c6 := c2.i1
    refine ⟨?_, ?_, ?_, ?_, h.body f hf⟩ <;> (unfold I64; omega)
/-- The blocks of a network. -/
def InN (b : Nat) (vn vf : Value) (j : Nat) : Prop := j = b ∨ ¬ ApO vn j ∨ ¬ ApO vf j
theorem not_inN {b : Nat} {vn vf : Value} {j : Nat} : ¬ InN b vn vf j ↔ j ≠ b ∧ ApO vn j ∧ ApO vf j := by
  unfold InN
  rw [not_or, not_or, Classical.not_not, Classical.not_not]
theorem NSt.inLt {H : World} {b : Nat} {n : NN} {vn vf : Value} (st : NSt H b n vn vf) {j : Nat} (h : InN b vn vf j) : j < H.heap.size := by
  refine Classical.byContradiction fun hc => ?_
  have hf := st.fresh (i := j) (by omega)
  exact (not_inN.2 hf) h
theorem NSt.keepN {H H' : World} {b : Nat} {n : NN} {vn vf : Value} (st : NSt H b n vn vf) (hk : ∀ j o, InN b vn vf j → getO H j = some o → getO H' j = some o) : NSt H' b n vn vf :=
  st.keepR (fun o h => hk b o (.inl rfl) h) (fun r o m c e x hx => hk r x (.inr (.inl fun h => h r o m c e rfl)) hx) (fun r o m c e x hx => hk r x (.inr (.inr fun h => h r o m c e rfl)) hx)
/-- Two networks alike, apart from each other. -/
structure Bo (H : World) (b1 : Nat) (n1 : NN) (vn1 vf1 : Value) (b2 : Nat) (n2 : NN) (vn2 vf2 : Value) : Prop where
  s1 : NSt H b1 n1 vn1 vf1
  s2 : NSt H b2 n2 vn2 vf2
  dis : ∀ j, InN b1 vn1 vf1 j → ¬ InN b2 vn2 vf2 j
section
variable {H H' : World} {b1 b2 : Nat} {n1 n2 n' : NN} {vn1 vf1 vn2 vf2 vf' v v' : Value}
theorem Bo.symm (h : Bo H b1 n1 vn1 vf1 b2 n2 vn2 vf2) : Bo H b2 n2 vn2 vf2 b1 n1 vn1 vf1 := ⟨h.s2, h.s1, fun j h1 h2 => h.dis j h2 h1⟩
theorem Bo.op1 (h : Bo H b1 n1 vn1 vf1 b2 n2 vn2 vf2) (st : NSt H' b1 n' vn1 vf') (fr : FrN H H' b1 vf1 vf') : Bo H' b1 n' vn1 vf' b2 n2 vn2 vf2 := by
  refine ⟨st, h.s2.keepN fun j o hj ho => ?_, fun j h1 h2 => ?_⟩
  · have := not_inN.1 fun hc => h.dis j hc hj
    exact fr.keep j o ho this.1 this.2.2
  · have h3 := not_inN.1 fun hc => h.dis j hc h2
    rcases h1 with h1 | h1 | h1
    · exact h3.1 h1
    · exact h1 h3.2.1
    · exact h1 (fr.fresh j (h.s2.inLt h2) h3.1 h3.2.2)
theorem Bo.op2 (h : Bo H b1 n1 vn1 vf1 b2 n2 vn2 vf2) (st : NSt H' b2 n' vn2 vf') (fr : FrN H H' b2 vf2 vf') : Bo H' b1 n1 vn1 vf1 b2 n' vn2 vf' := (h.symm.op1 st fr).symm
theorem Bo.keep (h : Bo H b1 n1 vn1 vf1 b2 n2 vn2 vf2) (hk : Keep H H') : Bo H' b1 n1 vn1 vf1 b2 n2 vn2 vf2 := ⟨h.s1.keep hk, h.s2.keep hk, h.dis⟩
theorem Bo.push (h : Bo H b1 n1 vn1 vf1 b2 n2 vn2 vf2) (o : Obj) : Bo (pushObj H o) b1 n1 vn1 vf1 b2 n2 vn2 vf2 := h.keep (Keep.refl.push o)
/-- What an append to a row that is apart leaves. -/
theorem Bo.app (h : Bo H b1 n1 vn1 vf1 b2 n2 vn2 vf2) (a : App H H' v v') (s1 : Sp3 v b1 vn1 vf1) (s2 : Sp3 v b2 vn2 vf2) : Bo H' b1 n1 vn1 vf1 b2 n2 vn2 vf2 ∧ Sp3 v' b1 vn1 vf1 ∧ Sp3 v' b2 vn2 vf2 :=
  ⟨⟨(a.nst h.s1 s1).1, (a.nst h.s2 s2).1, h.dis⟩, (a.nst h.s1 s1).2, (a.nst h.s2 s2).2⟩
end
end Go.Proofs.YtmmmdmandocbhaaDoor
end

section
/- The walk of NetInSteps. -/
set_option linter.unusedVariables false
set_option linter.unusedSimpArgs false
namespace Go.Proofs.YtmmmdmandocbhaaDoor
open Go Go.Proofs.YtmmmdmandocbhaaDoor.Den
/-- The first loop: both networks do the same. -/
structure SaI (o : Option (List Ac)) (ot : Option (List Int)) (k : Nat) (e : Env) (H : World) : Prop where
  e60 : lk e 60 = acts o
  e3 : lk e 3 = sidesV ot
  ex : ∃ b1 b2 n vn1 vf1 vn2 vf2, lk e 9 = p0 b1 ∧ lk e 11 = p0 b2 ∧ Bo H b1 n vn1 vf1 b2 n vn2 vf2 ∧ Inv n k ∧ TX n ∧ n.now = 0
/-- The second loop: one network goes on in steps. -/
structure SbI (ot : Option (List Int)) (n0 : NN) (T b1 b2 : Nat) (vn1 vn2 vf2 : Value) (k : Nat) (e : Env) (H : World) : Prop where
  e78 : lk e 78 = sidesV ot
  e9 : lk e 9 = p0 b1
  e11 : lk e 11 = p0 b2
  ex : ∃ n vf1 va last out, lk e 15 = va ∧ lk e 16 = .int .i64 last ∧ Bo H b1 n vn1 vf1 b2 n0 vn2 vf2 ∧ StepsI n0 k n last out ∧ AccP H va out ∧ Sp3 va b1 vn1 vf1 ∧ Sp3 va b2 vn2 vf2 ∧ out.length + n.fl.length ≤ n0.fl.length ∧ Inv n T
theorem oPass_len (n : NN) (t : Int) : (oPass n t).length ≤ n.fl.length := by
  unfold oPass
  split
  · exact Nat.le_trans (List.length_filter_le _ _) (by rw [List.length_take]; omega)
  · exact Nat.zero_le _
theorem pass_len (n : NN) (t : Int) : (oPass n t).length + (pPass n t).fl.length ≤ n.fl.length := by
  unfold oPass pPass
  by_cases h : pPassOk n t
  · rw [if_pos h, if_pos h]
    have h1 := List.length_filter_le (arrv n) (n.fl.take (cntT n.fl t))
    have h2 : (pK { n with now := t } n.fl (cntT n.fl t)).fl = n.fl.drop (cntT n.fl t) := rfl
    rw [h2, List.length_drop]
    rw [List.length_take] at h1
    omega
  · rw [if_neg h, if_neg h]; simp
theorem bmax (x y : Int) (H : World) : builtinX Tryd.prog .max #[3, 3] #[.int .i64 x, .int .i64 y] H = some (.value (.int .i64 (if x < y then y else x)), H) := rfl
theorem bmin (x y : Int) (H : World) : builtinX Tryd.prog .min #[3, 3] #[.int .i64 x, .int .i64 y] H = some (.value (.int .i64 (if y < x then y else x)), H) := rfl
def clampT (x : Int) : Int := if 3000 < (if x < 0 then 0 else x) then 3000 else (if x < 0 then 0 else x)
theorem clampT_ok (x : Int) : 0 ≤ clampT x ∧ clampT x ≤ 3000 := by unfold clampT; split <;> split <;> omega
theorem bclamp (x : Int) (H : World) : builtinX Tryd.prog .min #[3, 3] #[.int .i64 (if x < 0 then 0 else x), .int .i64 3000] H = some (.value (.int .i64 (clampT x)), H) := rfl
theorem pDo_now {n : NN} (x : Ac) : (pDo n x).now = n.now := by
  have hs : ∀ (m : NN) f, (pPut m f).now = m.now := fun _ _ => rfl
  unfold pDo
  split
  · unfold pSet; split <;> rfl
  split
  · unfold pPart; split <;> rfl
  split
  · rfl
  split
  · unfold pTurn; split <;> rfl
  split
  · unfold pTurn; split <;> rfl
  split
  · unfold pSend
    split
    rotate_left
    · rfl
    obtain ⟨u, hu⟩ := pNum_snd (pSent n)
    unfold pTake
    rw [hu]
    split
    · rfl
    split
    · rfl
    split <;> rfl
  · rfl
set_option maxRecDepth 100000 in
theorem steps3 {H : World} {hosts : Int} {o1 : Option (List Int)} {o : Option (List Ac)} {ot : Option (List Int)} (hl1 : (o1.getD []).length < 2 ^ 62) (hk1 : ∀ x ∈ o1.getD [], I64 x) (hl : (o.getD []).length < 2 ^ 62) (hao : ∀ a ∈ o.getD [], AcOk a) (hlt : (ot.getD []).length < 2 ^ 62)
    {Q : Value → World → Prop} (hq : ∀ H', Q (.bool true) H') : FW X 3 #[.int .i64 hosts, sidesV o1, acts o, sidesV ot] H Q := by
  have rd : Rd H (sidesV o1) (o1.getD []) := Rd.slV
  have hvlen := fun H0 => rd.len H0
  have rdt : Rd H (sidesV ot) (ot.getD []) := Rd.slV
  have htlen := fun H0 => rdt.len H0
  refine FW.walk (by simp [X, sp17_no]) Tryd.func3 Tryd.ntmps3 rfl (by simp) ?_
  cases hli : lightW (o.getD []) with
  | false =>
    simp [light6 o hl, hli, awake7]
    exact hq _
  | true =>
  by_cases h300 : (300 : Int) < (o1.getD []).length
  · simp [light6 o hl, hli, awake7, hvlen, h300]
    exact hq _
  by_cases h20 : (20 : Int) < (ot.getD []).length
  · simp [light6 o hl, hli, awake7, hvlen, htlen, h300, h20]
    exact hq _
  by_cases h0 : ot.getD [] = []
  · simp [light6 o hl, hli, awake7, hvlen, htlen, h300, h20, h0]
    exact hq _
  simp [light6 o hl, hli, hvlen, htlen, h300, h20, h0]
  refine new8v o1 hl1 hosts (fun H1 b1 vn1 hE hb1 st1 k1 z1 fs1 => ?_) (fun hE => ?_)
  rotate_left
  · have hd : decide (eNew hosts (o1.getD []) = 0) = false := decide_eq_false hE
    simp
    refine new8v o1 hl1 hosts (fun H2 b2 vn2 hE2 hb2 st2 k2 z2 fs2 => (hE hE2).elim) (fun hE2 => ?_)
    simp [hE, awake7]
    exact hq _
  simp
  refine new8v o1 hl1 hosts (fun H2 b2 vn2 hE2 hb2 st2 k2 z2 fs2 => ?_) (fun hE2 => (hE2 hE).elim)
  have hc : 1 ≤ hosts ∧ hosts ≤ 16 ∧ ∀ x ∈ o1.getD [], 0 ≤ x := by
    unfold eNew at hE
    split at hE
    · cases hE
    · rename_i h
      simp only [not_or, List.any_eq_true, not_exists, not_and, decide_eq_true_eq] at h
      exact ⟨by omega, by omega, fun x hx => by have := h.2.2 x hx; omega⟩
  have iv : Inv (netZ hosts (o1.getD []) ⟨1, 0, 0, 0⟩) 0 := inv_new hc.1 hc.2.1 (by omega) fun x hx => by
    have := hk1 x hx
    have := hc.2.2 x hx
    unfold I64 at *
    exact ⟨by omega, by omega⟩
  have tx : TX (netZ hosts (o1.getD []) ⟨1, 0, 0, 0⟩) := tx_new _ _ _
  have now0 : (netZ hosts (o1.getD []) ⟨1, 0, 0, 0⟩).now = 0 := rfl
  have bo : Bo H2 b1 (netZ hosts (o1.getD []) ⟨1, 0, 0, 0⟩) vn1 (.slice none 0 0) b2 (netZ hosts (o1.getD []) ⟨1, 0, 0, 0⟩) vn2 (.slice none 0 0) :=
    ⟨st1.keep k2, st2, fun j h1 h2 => by
      have hj := st1.inLt h1
      rcases h2 with h2 | h2 | h2
      · omega
      · exact h2 (fs2 j hj)
      · exact h2 (fun r o n c e => by cases e)⟩
  generalize netZ hosts (o1.getD []) ⟨1, 0, 0, 0⟩ = n0 at *
  simp [lightW] at hli
  obtain ⟨hheavy, h150⟩ := hli
  clear st1 st2 k1 k2 z1 z2 fs1 fs2 hb1 hb2
  simp
  refine CE.imp (Q := fun ex e ds H' => ex = .exit 0 ∧ ds = [] ∧ SaI o ot (o.getD []).length e H') ?_ ?_
  · refine CE.range (m := (o.getD []).length) (fun k e H' => SaI o ot k e H') ?_ (by omega) ?_ ?_ ?_
    · decide
    · exact ⟨by simp, by simp [getD_mapA], by simp, by simp, b1, b2, n0, vn1, _, vn2, _, by simp, by simp, bo, iv, tx, now0⟩
    · rintro k e H' hk q1 q2 ⟨e60, e3, b1, b2, n, vn1, vf1, vn2, vf2, e9, e11, bo, iv, tx, now0⟩
      have hao := hao _ (List.getElem_mem hk)
      generalize hx : (o.getD [])[k] = x at *
      have hheavyx := hheavy x (hx ▸ List.getElem_mem hk)
      have hsides : (x.sides.getD []).length < 2 ^ 62 := by
        simp [heavy] at hheavyx
        have := hheavyx.2
        omega
      have ga : getO (pushObj H' (.cells (cellsA x) 33 (0, 0))) H'.heap.size = some (.cells (cellsA x) 33 (0, 0)) := by rw [get_push, if_pos rfl]
      have nf1 := bo.s1.fresh (i := H'.heap.size) (Nat.le_refl _)
      simp [q1, q2, e60, e9, getD_mapA, idxV, hk, hx, allocX, szO, overL]
      have bo1 := bo.push (.cells (cellsA x) 33 (0, 0))
      refine do16 bo1.s1 iv x hsides fun H3 vf3 st3 fr3 => ?_
      have bo3 := bo1.op1 st3 fr3
      have g3 := fr3.keep _ _ ga nf1.1 nf1.2.2
      simp [e11, g3]
      refine do16 bo3.s2 iv x hsides fun H4 vf4 st4 fr4 => ?_
      have bo4 := bo3.op2 st4 fr4
      have iv4 := inv_do iv (by omega) x
      have tx4 := tx_do tx x hao.sides
      have now4 : (pDo n x).now = 0 := by rw [pDo_now]; exact now0
      simp [q1, q2]
      exact ⟨by simp [e60], by simp [e3], b1, b2, _, vn1, vf3, vn2, vf4, by simp [e9], by simp [e11], bo4, iv4, tx4, now4⟩
    · rintro e H' q1 q2 ⟨e60, e3, b1, b2, n, vn1, vf1, vn2, vf2, e9, e11, h⟩
      exact ⟨rfl, rfl, by simp [e60], by simp [e3], b1, b2, n, vn1, vf1, vn2, vf2, by simp [e9], by simp [e11], h⟩
  · rintro ex e ds H' ⟨rfl, rfl, e60, e3, b1, b2, n, vn1, vf1, vn2, vf2, e9, e11, bo, iv, tx, now0⟩
    have tb := tb_of iv tx
    simp [e9, e11]
    refine text8 bo.s1 tb fun H3 k3 z3 => ?_
    have bo3 := bo.keep k3
    simp [e9, e11]
    refine text8 bo3.s2 tb fun H4 k4 z4 => ?_
    have bo4 := bo3.keep k4
    simp [e3, htlen]
    refine CE.imp (Q := fun ex e ds H' => ex = .exit 2 ∧ ds = [] ∧ SbI ot n (o.getD []).length b1 b2 vn1 vn2 vf2 (ot.getD []).length e H') ?_ ?_
    · refine CE.range (m := (ot.getD []).length) (fun k e H' => SbI ot n (o.getD []).length b1 b2 vn1 vn2 vf2 k e H') ?_ (by omega) ?_ ?_ ?_
      · decide
      · exact ⟨by simp, by simp, by simp, by simp [e9], by simp [e11], n, vf1, .slice none 0 0, 0, [], by simp, by simp, bo4, StepsI.start n, .nil, .nil, .nil, by simp, iv⟩
      · rintro k e H' hk q1 q2 ⟨e78, e9, e11, nk, vfk, va, last, out, e15, e16, bo, stp, acc, sa1, sa2, hlen, ivk⟩
        simp [q1, q2, e78, getD_mapI, idxV, hk, bmax, bclamp]
        obtain ⟨c0, c1⟩ := clampT_ok (ot.getD [])[k]
        have hcl : clampT (ot.getD [])[k] = (if 3000 < (if (ot.getD [])[k] < 0 then 0 else (ot.getD [])[k]) then 3000 else (if (ot.getD [])[k] < 0 then 0 else (ot.getD [])[k])) := rfl
        rw [hcl] at c0 c1
        generalize (if 3000 < (if (ot.getD [])[k] < 0 then 0 else (ot.getD [])[k]) then (3000 : Int) else (if (ot.getD [])[k] < 0 then 0 else (ot.getD [])[k])) = t at *
        simp [e16]
        by_cases hlt2 : t < last
        · simp [hlt2, q1, q2]
          exact ⟨by simp [e78], by simp [e9], by simp [e11], nk, vfk, va, last, out, by simp [e15], by simp [e16], bo, stp.skip c0 hlt2, acc, sa1, sa2, hlen, ivk⟩
        obtain ⟨pok, stp2⟩ := stp.pass now0 (t := t) (by omega) c1
        simp [hlt2, e9]
        refine pass9 bo.s1 ivk t fun H5 vf5 vo st5 fr5 ac5 ap5 apx5 => ?_
        have hep : ePass nk t = 0 := if_pos pok
        have bo5 := bo.op1 st5 fr5
        obtain ⟨acc5, sa5⟩ := accp_fr acc fr5 sa1
        have hol := oPass_len nk t
        have hpl := pass_len nk t
        have hN := iv.ok.len
        obtain ⟨v6, H6, b6, acc6, k6, z6, f6⟩ := accp_app acc5 (srcx_all ac5) (by omega)
        have ap6 : App H5 H6 va v6 := ⟨k6, z6, f6⟩
        obtain ⟨bo6, s61, s62⟩ := bo5.app ap6 sa5 sa2
        have iv6 := inv_pass ivk t
        simp [hep, e15, b6, q1, q2]
        exact ⟨by simp [e78], by simp [e9], by simp [e11], _, vf5, v6, t, _, by simp, by simp, bo6, stp2, acc6, s61, s62, by simp; omega, iv6⟩
      · rintro e H' q1 q2 ⟨e78, e9, e11, nk, vfk, va, last, out, e15, e16, h⟩
        exact ⟨rfl, rfl, by simp [e78], by simp [e9], by simp [e11], nk, vfk, va, last, out, by simp [e15], by simp [e16], h⟩
    · rintro ex e ds H' ⟨rfl, rfl, e78, e9, e11, nk, vfk, va, last, out, e15, e16, bo, stp, acc, sa1, sa2, hlen, ivk⟩
      have hpos : 0 < (ot.getD []).length := List.length_pos_iff.2 h0
      obtain ⟨rfl, rfl, l0, l1⟩ := stp.done hpos
      have pok : pPassOk n last := ⟨by omega, by omega⟩
      have hep : ePass n last = 0 := if_pos pok
      simp [e11, e16]
      refine pass9 bo.s2 iv last fun H5 vf5 vo st5 fr5 ac5 ap5 apx5 => ?_
      have bo5 := bo.op2 st5 fr5
      obtain ⟨acc5, sa5⟩ := accp_fr acc fr5 sa2
      have hN := iv.ok.len
      have hol := oPass_len n last
      have tb5 := tb_of (inv_pass iv last) (tx_pass tx last)
      simp [hep, e15]
      refine same13 acc5 ac5 rfl (by omega) ?_
      simp [e9, e11]
      refine text8 bo5.s1 tb5 fun H6 k6 z6 => ?_
      have bo6 := bo5.keep k6
      simp [e9, e11]
      refine text8 bo6.s2 tb5 fun H7 k7 z7 => ?_
      simp [awake7]
      exact hq _
end Go.Proofs.YtmmmdmandocbhaaDoor
end
