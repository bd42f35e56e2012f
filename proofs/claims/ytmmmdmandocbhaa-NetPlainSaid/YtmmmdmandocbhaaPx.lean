/- Helpers of this claim: an evaluator over plain values and its laws. -/
import Derived.Test.YtmmmdmandocbhaaPw
section
set_option linter.unusedVariables false
set_option linter.unusedSimpArgs false
namespace Go.Proofs.Ytmmmdmandocbhaa
open Go Go.Proofs.Ytmmmdmandocbhaa.Den
theorem LI.push {hosts : Int} {k : Nat} {H : World} {b : Nat} {n : NN} {vn vf vw vg : Value} {got : List Fl} (h : LI hosts k H b n vn vf vw vg got) (o : Obj) : LI hosts k (pushObj H o) b n vn vf vw vg got :=
  ⟨h.st.push o, h.iv, h.pl, h.now, h.hosts, AccE.push h.w o, AccE.push h.g o, h.gt, h.arr, h.len, h.sw, h.sg, h.two⟩
structure PlI (hosts : Int) (o : Option (List Ac)) (k : Nat) (e : Env) (H : World) : Prop where
  e0 : lk e 0 = .int .i64 hosts
  e50 : lk e 50 = acts o
  ex : ∃ b n vn vf vw vg got, lk e 5 = p0 b ∧ lk e 7 = vw ∧ lk e 8 = vg ∧ LI hosts k H b n vn vf vw vg got
set_option maxRecDepth 100000 in
theorem plain3 {H : World} {hosts : Int} {o : Option (List Ac)} (hl : (o.getD []).length < 2 ^ 62) {Q : Value → World → Prop} (hq : ∀ H', Q (.bool true) H') : FW X 3 #[.int .i64 hosts, acts o] H Q := by
  refine FW.walk (by simp [X, sp17_no]) Try.func3 Try.ntmps3 rfl (by simp) ?_
  by_cases h1 : hosts < 1
  · simp [h1, awake7]
    exact hq _
  by_cases h2 : 16 < hosts
  · simp [h1, h2, awake7]
    exact hq _
  have hlt := fun H Q => light6 o hl H Q
  cases hli : lightW (o.getD []) with
  | false =>
    simp [h1, h2, light6 o hl, hli, awake7]
    exact hq _
  | true =>
  have gr : getO (pushObj H (.cells #[.int .i64 5, .int .i64 123456, .int .i64 99999] 3 (0, 0))) H.heap.size = some (.cells (([5, 123456, 99999] : List Int).map (Value.int .i64)).toArray 3 (0, 0)) := by rw [get_push, if_pos rfl]; rfl
  simp [h1, h2, light6 o hl, hli, buildSliceX, inOrder, catCells, szO]
  generalize hH1 : pushObj H (.cells #[.int .i64 5, .int .i64 123456, .int .i64 99999] 3 (0, 0)) = H1 at *
  refine new8r (l := [5, 123456, 99999]) (h := hosts) gr (by decide) (by decide) (by decide) (by omega) (by omega) fun H2 b vn hb st k2 z2 => ?_
  have iv : Inv (netZ hosts [5, 123456, 99999] ⟨1, 0, 0, 0⟩) 0 := inv_new (by omega) (by omega) (by decide) (by decide)
  simp [lightW] at hli
  obtain ⟨hheavy, h150⟩ := hli
  simp
  refine CE.range (m := (o.getD []).length) (fun k e H' => PlI hosts o k e H') ?_ (by omega) ?_ ?_ ?_
  · decide
  · refine ⟨by simp, by simp [getD_mapA], by simp, by simp, b, _, vn, _, .slice none 0 0, .slice none 0 0, [], by simp, by simp, by simp, st, iv, plain_new _ _, Int.le_refl _, rfl, .nil, .nil, fun f hf => (List.not_mem_nil hf).elim, rfl, Nat.le_refl _, .nil, .nil, .nil_l⟩
  · rintro k e H' hk q1 q2 ⟨e0, e50, b, n, vn, vf, vw, vg, got, e5, e7, e8, L⟩
    have hh1 := L.iv.h1
    have hh2 := L.iv.h2
    have hho := L.hosts
    generalize hx : (o.getD [])[k] = x at *
    have hbody : x.body.length ≤ 100 := by
      have := hheavy x (hx ▸ List.getElem_mem hk)
      simp [heavy] at this
      omega
    obtain ⟨u1, u2, u3⟩ := hst_ok (h := hosts) (x := x.frm) (by omega) (by omega)
    obtain ⟨v1, v2, v3⟩ := hst_ok (h := hosts) (x := x.to) (by omega) (by omega)
    have hz : ¬ hosts = 0 := by omega
    have k1 : Keep H' (pushObj H' (.cells (cellsA x) 34 (0, 0))) := fun j o hj => by
      have := getO_lt hj
      rw [get_push, if_neg (by omega)]; exact hj
    have ga : getO (pushObj H' (.cells (cellsA x) 34 (0, 0))) H'.heap.size = some (.cells (cellsA x) 34 (0, 0)) := by rw [get_push, if_pos rfl]
    simp [q1, q2, e50, getD_mapA, idxV, hk, hx, allocX, szO, overL]
    refine WP.draw0 (by decide +kernel) (by decide +kernel) ?_
    simp [e0, hz, u3, v3]
    have L1 := L.push (.cells (cellsA x) 34 (0, 0))
    change LI hosts k (pushObj H' (.cells #[.int .i64 x.kind, .int .i64 x.frm, .int .i64 x.to, .int .i64 x.time, .int .i64 x.lk.delay, .int .i64 x.lk.jitter, .int .i64 x.lk.loss, .int .i64 x.lk.dbl, .string (sB x.body), sidesV x.sides] 34 (0, 0))) b n vn vf vw vg got at L1
    change getO (pushObj H' (.cells #[.int .i64 x.kind, .int .i64 x.frm, .int .i64 x.to, .int .i64 x.time, .int .i64 x.lk.delay, .int .i64 x.lk.jitter, .int .i64 x.lk.loss, .int .i64 x.lk.dbl, .string (sB x.body), sidesV x.sides] 34 (0, 0))) H'.heap.size = some (.cells #[.int .i64 x.kind, .int .i64 x.frm, .int .i64 x.to, .int .i64 x.time, .int .i64 x.lk.delay, .int .i64 x.lk.jitter, .int .i64 x.lk.loss, .int .i64 x.lk.dbl, .string (sB x.body), sidesV x.sides] 34 (0, 0)) at ga
    generalize hHa : pushObj H' (.cells #[.int .i64 x.kind, .int .i64 x.frm, .int .i64 x.to, .int .i64 x.time, .int .i64 x.lk.delay, .int .i64 x.lk.jitter, .int .i64 x.lk.loss, .int .i64 x.lk.dbl, .string (sB x.body), sidesV x.sides] 34 (0, 0)) = Ha at *
    have hnow := L.now
    have hn0 := L.iv.now0
    have hlen := L.len
    have hw1 : IntKind.i64.wrap (n.now + 1) = n.now + 1 := wrap64 (by omega) (by omega)
    obtain ⟨p1, p2, p3, p4, p5, p6, p7⟩ := plain_pass L1.iv L1.pl (t := n.now + 1) (by omega) (by omega)
    have wk : IntKind.i64.wrap ((k : Int) + 1) = ((k + 1 : Nat) : Int) := by rw [wrap64 (by omega) (by omega)]; omega
    by_cases hs1 : x.kind < 3
    · simp [hs1, e5]
      refine now10 L1.st ?_
      simp [hw1]
      refine pass9 L1.st L1.iv _ fun H3 vf3 vp st3 fr3 ac3 ap3 apx3 => ?_
      rw [p1]
      rw [p2] at ac3
      obtain ⟨g1, sg1⟩ := accp_fr L1.g fr3 L1.sg
      obtain ⟨vq, H4, a1, a2, a3, a4, a5⟩ := accp_app g1 (srcx_all ac3) (by omega)
      have L2 := L1.passed (by omega) rfl st3 fr3 ⟨a3, a4, a5⟩ a2
      simp [e8, a1]
      exact ⟨q1, q2, by simp [e0], by simp [e50], b, _, vn, vf3, vw, vq, _, by simp [e5], by simp [e7], by simp, L2⟩
    by_cases hs2 : 8 < x.kind
    · simp [hs1, hs2, e5, ga]
      refine now10 L1.st ?_
      simp [hw1]
      refine pass9 L1.st L1.iv _ fun H3 vf3 vp st3 fr3 ac3 ap3 apx3 => ?_
      rw [p1]
      rw [p2] at ac3
      obtain ⟨g1, sg1⟩ := accp_fr L1.g fr3 L1.sg
      obtain ⟨vq, H4, a1, a2, a3, a4, a5⟩ := accp_app g1 (srcx_all ac3) (by omega)
      have L2 := L1.passed (by omega) rfl st3 fr3 ⟨a3, a4, a5⟩ a2
      simp [e8, a1]
      exact ⟨q1, q2, by simp [e0], by simp [e50], b, _, vn, vf3, vw, vq, _, by simp [e5], by simp [e7], by simp, L2⟩
    have hh : hasB n (hst hosts x.frm) (hst hosts x.to) := ⟨u1, by rw [hho]; exact u2, v1, by rw [hho]; exact v2⟩
    obtain ⟨s1, s2, s3, s4, s5, s6, s7, s8⟩ := plain_send L1.iv L1.pl hbody hh (by omega)
    have gaL := getO_lt ga
    have nfA := L.st.fresh (i := H'.heap.size) (Nat.le_refl _)
    simp [hs1, hs2, e5, ga]
    refine send11 L1.st L1.iv (hst hosts x.frm) (hst hosts x.to) x.body fun H3 vf3 st3 fr3 => ?_
    have ga3 := fr3.keep _ _ ga nfA.1 nfA.2.2
    rw [s1, s2]
    simp
    refine WP.drawP [(0, 5), (0, 9), (1, 5), (1, 9), (2, 5), (2, 9), (3, 5), (5, 0), (5, 9), (6, 0), (6, 9), (7, 9)] (by decide +kernel) (by decide +kernel) ?_
    simp [e5]
    refine now10 st3 ?_
    simp [ga3, buildQ, fillX, Value.cells, overL, allocX, szO, s5]
    have nga : ¬ H'.heap.size = H3.heap.size := by have := getO_lt ga3; omega
    refine ⟨(Checks.cons rfl rfl rfl ?_ (Checks.cons rfl rfl rfl ?_ (Checks.cons rfl rfl rfl ?_ (Checks.cons rfl rfl rfl ?_ (Checks.cons rfl rfl rfl ?_ (Checks.cons rfl rfl rfl ?_ (Checks.cons rfl rfl rfl ?_ (Checks.cons rfl rfl rfl ?_ (Checks.cons rfl rfl rfl ?_ (Checks.cons rfl rfl rfl ?_ (Checks.cons rfl rfl rfl ?_ (Checks.cons rfl rfl rfl ?_ .nil)))))))))))), ?_⟩
    iterate 12
      · unfold reV
        simp [e5, ga3, get_push, nga, q_int, q_ptr, q_str, q_agg, q_cons, q_nil, q1_int, q1_bool, q1_str, buildQ, fillX, overL, Value.cells]
    have eu : hst hosts x.frm = (x.frm.tmod hosts + hosts).tmod hosts := rfl
    have ev : hst hosts x.to = (x.to.tmod hosts + hosts).tmod hosts := rfl
    rw [eu, ev] at st3 s1 s2 s3 s4 s5 hh
    generalize (x.frm.tmod hosts + hosts).tmod hosts = uf at *
    generalize (x.to.tmod hosts + hosts).tmod hosts = vt at *
    have st4 := st3.push (.cells #[.int .i64 n.next, .int .i64 uf, .int .i64 vt, .int .i64 n.now, .string (sB x.body)] 41 (0, 0))
    have fr4 := fr3.trans (FrN.push (b := b) (vf := vf3) (.cells #[.int .i64 n.next, .int .i64 uf, .int .i64 vt, .int .i64 n.now, .string (sB x.body)] 41 (0, 0)))
    have gp4 : getO (pushObj H3 (.cells #[.int .i64 n.next, .int .i64 uf, .int .i64 vt, .int .i64 n.now, .string (sB x.body)] 41 (0, 0))) H3.heap.size = some (.cells #[.int .i64 n.next, .int .i64 uf, .int .i64 vt, .int .i64 n.now, .string (sB x.body)] 41 (0, 0)) := by rw [get_push, if_pos rfl]
    have hpb := getO_lt gp4
    have nfp := st3.fresh (Nat.le_refl _)
    generalize hH4 : pushObj H3 (.cells #[.int .i64 n.next, .int .i64 uf, .int .i64 vt, .int .i64 n.now, .string (sB x.body)] 41 (0, 0)) = H4 at *
    generalize hpz : H3.heap.size = pb at *
    obtain ⟨w4, sw4⟩ := accp_fr L1.w fr4 L1.sw
    obtain ⟨g4, sg4⟩ := accp_fr L1.g fr4 L1.sg
    have nfpH : Ha.heap.size ≤ pb := by have := fr3.size; omega
    have apw : Apart vw pb := fun r c1 c2 e he => by
      rcases L1.w.2 with ⟨e2, _⟩ | ⟨r2, e2, _, hr⟩
      · rw [e2] at e; cases e
      · rw [e2] at e; cases e; have := getO_lt hr; omega
    have apg : Apart vg pb := fun r c1 c2 e he => by
      rcases L1.g.2 with ⟨e2, _⟩ | ⟨r2, e2, _, hr⟩
      · rw [e2] at e; cases e
      · rw [e2] at e; cases e; have := getO_lt hr; omega
    have lw := fun H0 => accp_len (H0 := H0) L1.w
    by_cases hab : uf = vt
    have hd : decide (uf = vt) = true := decide_eq_true hab
    have hsf : sentF n uf vt x.body = ⟨n.next, uf, vt, n.now, x.body, false⟩ := by simp [sentF, hab]
    have st5 : NSt H4 b (pSend n uf vt x.body) vn vf3 := st4
    have w5 : AccP H4 vw (got ++ n.fl) := w4
    have g5 : AccP H4 vg got := g4
    have gp5 : getO H4 pb = some (.cells #[.int .i64 n.next, .int .i64 uf, .int .i64 vt, .int .i64 (sentF n uf vt x.body).time, .string (sB x.body)] 41 (0, 0)) := by rw [hsf]; exact gp4
    simp [hd, e7, lw]
    generalize hH5 : H4 = H5 at st5 w5 g5 gp5 ⊢
    rotate_left
    have hd : decide (uf = vt) = false := decide_eq_false hab
    have hsf : sentF n uf vt x.body = ⟨n.next, uf, vt, n.now + 1, x.body, false⟩ := by simp [sentF, hab]
    have st5 := st4.setO' (i := pb) (.cells #[.int .i64 n.next, .int .i64 uf, .int .i64 vt, .int .i64 (n.now + 1), .string (sB x.body)] 41 (0, 0)) nfp.1 nfp.2.1 nfp.2.2
    have w5 : AccP _ vw (got ++ n.fl) := AccE.set w4 (.cells #[.int .i64 n.next, .int .i64 uf, .int .i64 vt, .int .i64 (n.now + 1), .string (sB x.body)] 41 (0, 0)) apw
    have g5 : AccP _ vg got := AccE.set g4 (.cells #[.int .i64 n.next, .int .i64 uf, .int .i64 vt, .int .i64 (n.now + 1), .string (sB x.body)] 41 (0, 0)) apg
    have gp5 : getO (setO H4 pb (.cells #[.int .i64 n.next, .int .i64 uf, .int .i64 vt, .int .i64 (n.now + 1), .string (sB x.body)] 41 (0, 0))) pb = some (.cells #[.int .i64 n.next, .int .i64 uf, .int .i64 vt, .int .i64 (sentF n uf vt x.body).time, .string (sB x.body)] 41 (0, 0)) := by rw [hsf, get_set, if_pos rfl, if_pos hpb]
    simp [hd, e7, lw, gp4, hw1, hpb, overL, Value.cells]
    generalize hH5 : setO H4 pb (.cells #[.int .i64 n.next, .int .i64 uf, .int .i64 vt, .int .i64 (n.now + 1), .string (sB x.body)] 41 (0, 0)) = H5 at st5 w5 g5 gp5 ⊢
    rotate_left
    all_goals
      refine CE.inv (fun d e' H6 => H6 = H5 ∧ lk e' 7 = vw ∧ lk e' 17 = p0 pb ∧ lk e' 0 = .int .i64 hosts ∧ lk e' 50 = acts o ∧ lk e' 5 = p0 b ∧ lk e' 8 = vg ∧ lk e' 51 = .int .i64 (o.getD []).length ∧ lk e' 52 = .int .i64 k ∧ lk e' 18 = .int .i64 d ∧ d ≤ (got ++ n.fl).length ∧ ∀ j (hj : j < (got ++ n.fl).length), d ≤ j → (sentF n uf vt x.body).time < (got ++ n.fl)[j].time) ?_ (d := (got ++ n.fl).length) ⟨rfl, by simp [e7], by simp, by simp [e0], by simp [e50], by simp [e5], by simp [e8], by simp [q2], by simp [q1], by simp, Nat.le_refl _, fun j hj hd => absurd hd (by omega)⟩
      rintro d e' H6 ⟨rfl, f7, f17, f0, f50, f5, f8, f51, f52, f18, hdl, hdj⟩
      have hll : (got ++ n.fl).length = got.length + n.fl.length := List.length_append
      simp
      refine WP.draw0 (by decide +kernel) (by decide +kernel) ?_
      by_cases hgo : ∃ h : 0 < d, (sentF n uf vt x.body).time < ((got ++ n.fl)[d - 1]'(by omega)).time
      · obtain ⟨hd0, ht⟩ := hgo
        obtain ⟨a, a1, a2, a3⟩ := accp_get w5 (k := d - 1) (by omega)
        have wd : IntKind.i64.wrap ((d : Int) - 1) = ((d - 1 : Nat) : Int) := by rw [wrap64' (by omega) (by omega)]; omega
        have hd0' : (0 : Int) < d := by omega
        have htd := decide_eq_true ht
        simp [f7, f17, f18, hd0, wd, a1, a3, gp5, htd]
        refine ⟨d - 1, by omega, f0, f50, f5, f8, f51, f52, rfl, by omega, fun j hj hjd => ?_⟩
        by_cases ej : j = d - 1
        · subst ej; exact ht
        · exact hdj j (by rw [hll]; exact hj) (by omega)
      · have hst1 : ∀ j (hj : j < (got ++ n.fl).length), j + 1 = d → (got ++ n.fl)[j].time ≤ (sentF n uf vt x.body).time := fun j hj e => by
          subst e
          refine Classical.byContradiction fun hc => hgo ⟨by omega, ?_⟩
          simp only [Nat.add_sub_cancel]
          omega
        have wi := want_ins L1.iv L1.pl L1.gt hdl hst1 hdj
        obtain ⟨c1, c2, c3⟩ := cut_to w5 hdl
        obtain ⟨x1, H7, a1, a2, a3, a4, a5⟩ := accp_app (xs := []) AccE.nil c3 (by simp; omega)
        have ap1 : App H6 H7 (.slice none 0 0) x1 := ⟨a3, a4, a5⟩
        obtain ⟨st7, sp7⟩ := ap1.nst st5 .nil
        obtain ⟨w7, t7⟩ := ap1.acc w5 .nil_r
        obtain ⟨g7, u7⟩ := ap1.acc g5 .nil_r
        have gx8 : getO (pushObj H7 (.cells (cellsP (sentF n uf vt x.body)) 41 (0, 0))) H7.heap.size = some (.cells (flatE encP [sentF n uf vt x.body]).toArray 41 (0, 0)) := by rw [get_push, if_pos rfl]; rfl
        obtain ⟨x2, H9, b1, b2, b3, b4, b5⟩ := accp_app (AccE.push a2 (.cells (cellsP (sentF n uf vt x.body)) 41 (0, 0))) (ys := [sentF n uf vt x.body]) (SrcX.row (c := 1) gx8 (flatE_len encP_size _)) (by simp; omega)
        have ap2 : App (pushObj H7 (.cells (cellsP (sentF n uf vt x.body)) 41 (0, 0))) H9 x1 x2 := ⟨b3, b4, b5⟩
        obtain ⟨st9, sp9⟩ := ap2.nst (st7.push _) sp7
        obtain ⟨w9, t9⟩ := ap2.acc (AccE.push w7 _) t7
        obtain ⟨g9, u9⟩ := ap2.acc (AccE.push g7 _) u7
        obtain ⟨d1, d2, d3⟩ := cut_from w9 hdl
        obtain ⟨x3, H10, e1, e2, e3, e4, e5⟩ := accp_app b2 d3 (by simp; omega)
        have ap3 : App H9 H10 x2 x3 := ⟨e3, e4, e5⟩
        obtain ⟨st10, sp10⟩ := ap3.nst st9 sp9
        obtain ⟨g10, u10⟩ := ap3.acc g9 u9
        have hcat : [] ++ (got ++ n.fl).take d ++ [sentF n uf vt x.body] ++ (got ++ n.fl).drop d = got ++ putF n.fl (sentF n uf vt x.body) := by
          rw [← wi, List.nil_append, List.append_assoc]; rfl
        rw [hcat] at e2
        have L2 := L1.sent (by omega) hbody hh st10 sp10 sg4 g10 u10.symm e2
        clear hcat wi
        have hfin : ∀ e9 : Env, lk e9 0 = .int .i64 hosts → lk e9 50 = acts o → lk e9 5 = p0 b → lk e9 7 = x3 → lk e9 8 = vg → PlI hosts o (k + 1) e9 H10 := fun e9 q0 q50 q5 q7 q8 => ⟨q0, q50, b, _, vn, vf3, x3, vg, got, q5, q7, q8, L2⟩
        have gp7 := a3 pb _ gp5 (fun r c1 c2 e => by cases e)
        have b1' : builtinX Try.prog .append #[30, 30] #[x1, .slice (some { block := H7.heap.size, off := 0 }) 1 1] (pushObj H7 (.cells #[.int .i64 n.next, .int .i64 uf, .int .i64 vt, .int .i64 (sentF n uf vt x.body).time, .string (sB x.body)] 41 (0, 0))) = some (.value x2, H9) := b1
        by_cases hd0 : 0 < d
        · have ht : ¬ (sentF n uf vt x.body).time < ((got ++ n.fl)[d - 1]'(by omega)).time := fun h => hgo ⟨hd0, h⟩
          obtain ⟨a, r1, r2, r3⟩ := accp_get w5 (k := d - 1) (by omega)
          have wd : IntKind.i64.wrap ((d : Int) - 1) = ((d - 1 : Nat) : Int) := by rw [wrap64' (by omega) (by omega)]; omega
          have hd0' : (0 : Int) < d := by omega
          have htd := decide_eq_false ht
          simp [f7, f17, f18, hd0, wd, r1, r3, gp5, htd, c2, a1, gp7, buildSliceX, inOrder, catCells, szO, b1', d2, e1, wk, f51, f52]
          exact hfin _ (by simp [f0]) (by simp [f50]) (by simp [f5]) (by simp) (by simp [f8])
        · simp [f7, f17, f18, hd0, c2, a1, gp7, buildSliceX, inOrder, catCells, szO, b1', d2, e1, wk, f51, f52]
          exact hfin _ (by simp [f0]) (by simp [f50]) (by simp [f5]) (by simp) (by simp [f8])
  · rintro e H' q1 q2 ⟨e0, e50, b, n, vn, vf, vw, vg, got, e5, e7, e8, L⟩
    simp [e5]
    refine now10 L.st ?_
    have hn := L.now
    have hn0 := L.iv.now0
    have hw : IntKind.i64.wrap (n.now + 5) = n.now + 5 := wrap64 (by omega) (by omega)
    simp [hw, e5]
    refine pass9 L.st L.iv _ fun H3 vf3 vp st3 fr3 ac3 ap3 apx3 => ?_
    obtain ⟨p1, p2, p3, p4, p5, p6, p7⟩ := plain_pass L.iv L.pl (t := n.now + 5) (by omega) (by omega)
    rw [p1]
    rw [p2] at ac3
    simp [e5]
    refine counts12 st3 ?_
    obtain ⟨w1, sw1⟩ := accp_fr L.w fr3 L.sw
    obtain ⟨g1, sg1⟩ := accp_fr L.g fr3 L.sg
    have hlen := L.len
    obtain ⟨vq, H4, a1, a2, a3, a4, a5⟩ := accp_app g1 (srcx_all ac3) (by omega)
    have ap : App H3 H4 vg vq := ⟨a3, a4, a5⟩
    obtain ⟨st4, sg4⟩ := ap.nst st3 sg1
    obtain ⟨w4, t4⟩ := ap.acc w1 L.two
    have lw := fun H0 => accp_len (H0 := H0) w4
    simp [e7, e8, a1]
    refine same13 a2 w4 rfl (by simp; omega) ?_
    have harr : (pPass n (n.now + 5)).arr = ((got ++ n.fl).length : Int) := by rw [p6, L.arr, List.length_append]; omega
    have hlo : (pPass n (n.now + 5)).lost = 0 := p3.lost
    have hdb : (pPass n (n.now + 5)).dbl = 0 := p3.dbl
    simp [e7, e5, lw, harr, hlo, hdb]
    refine under14 st4 ?_
    rw [p4]
    simp [awake7]
    exact hq _
end Go.Proofs.Ytmmmdmandocbhaa
end
