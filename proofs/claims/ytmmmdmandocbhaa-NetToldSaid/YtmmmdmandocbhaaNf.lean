/- Helpers of this claim: an evaluator over plain values and its laws. -/
import Derived.Test.YtmmmdmandocbhaaNe
section
set_option linter.unusedVariables false
set_option linter.unusedSimpArgs false
namespace Go.Proofs.Ytmmmdmandocbhaa
open Go Go.Proofs.Ytmmmdmandocbhaa.Den
theorem oStep_len (n : NN) : (oStep n).length ≤ n.fl.length := by
  unfold oStep oPass
  split
  · split
    · exact Nat.le_trans (List.length_filter_le _ _) (by rw [List.length_take]; omega)
    · exact Nat.zero_le _
  · exact Nat.zero_le _
structure TlI (o : Option (List Ac)) (k : Nat) (e : Env) (H : World) : Prop where
  e50 : lk e 50 = acts o
  ex : ∃ b n vn vf ms mc S C c tw la, lk e 7 = p0 b ∧ lk e 9 = .map (some ms) ∧ lk e 10 = .map (some mc) ∧ lk e 11 = .int .i64 tw ∧ lk e 12 = .int .i64 la ∧ TD n.fl k H b n vn vf ms mc S C c tw la
set_option maxRecDepth 100000 in
theorem told4 {H : World} {hosts : Int} {o1 : Option (List Int)} {o : Option (List Ac)} (hl1 : (o1.getD []).length < 2 ^ 62) (hk1 : ∀ x ∈ o1.getD [], I64 x) (hl : (o.getD []).length < 2 ^ 62) {Q : Value → World → Prop} (hq : ∀ H', Q (.bool true) H') : FW X 4 #[.int .i64 hosts, sidesV o1, acts o] H Q := by
  have rd : Rd H (sidesV o1) (o1.getD []) := Rd.slV
  have hvlen := fun H0 => rd.len H0
  refine FW.walk (by simp [X, sp17_no]) Try.func4 Try.ntmps4 rfl (by simp) ?_
  cases hli : lightW (o.getD []) with
  | false =>
    simp [light6 o hl, hli, awake7]
    exact hq _
  | true =>
  by_cases h300 : (300 : Int) < (o1.getD []).length
  · simp [light6 o hl, hli, awake7, hvlen, h300]
    exact hq _
  simp [light6 o hl, hli, hvlen, h300]
  refine new8v o1 hl1 hosts (fun H1 b vn hE hb st k1 z1 => ?_) (fun hE => ?_)
  rotate_left
  · have hd : decide (eNew hosts (o1.getD []) = 0) = false := decide_eq_false hE
    simp [hE, awake7]
    exact hq _
  have hc : 1 ≤ hosts ∧ hosts ≤ 16 ∧ ∀ x ∈ o1.getD [], 0 ≤ x := by
    unfold eNew at hE
    split at hE
    · cases hE
    · rename_i h
      simp only [not_or, List.any_eq_true, not_exists, not_and, decide_eq_true_eq] at h
      exact ⟨by omega, by omega, fun x hx => by have := h.2.2 x hx; omega⟩
  have iv : Inv (netZ hosts (o1.getD []) ⟨1, 0, 0, 0⟩) 0 := inv_new hc.1 hc.2.1 (by omega) fun x hx => by
    have := hk1 x hx
    have := hc.2.2 x hx
    unfold I64 at *
    exact ⟨by omega, by omega⟩
  simp [lightW] at hli
  obtain ⟨hheavy, h150⟩ := hli
  have t0 := told_new hosts (o1.getD [])
  generalize netZ hosts (o1.getD []) ⟨1, 0, 0, 0⟩ = n0 at *
  have hn0 := iv.now0
  have nf1 := st.fresh (i := H1.heap.size) (Nat.le_refl _)
  have nf2 := st.fresh (i := H1.heap.size + 1) (by omega)
  simp [szO]
  refine CE.range (m := (o.getD []).length) (fun k e H' => TlI o k e H') ?_ (by omega) ?_ ?_ ?_
  · decide
  · have st2 := (st.push (.map #[] 0)).push (.map #[] 0)
    have e1 : (pushObj H1 (.map #[] 0)).heap.size = H1.heap.size + 1 := by simp
    have m1 : MapIs kI (pushObj (pushObj H1 (.map #[] 0)) (.map #[] 0)) H1.heap.size [] := MapIs.new.push _
    have m2 : MapIs kI (pushObj (pushObj H1 (.map #[] 0)) (.map #[] 0)) (H1.heap.size + 1) [] := by rw [← e1]; exact MapIs.new
    have L0 : TD n0.fl 0 (pushObj (pushObj H1 (.map #[] 0)) (.map #[] 0)) b n0 vn (.slice none 0 0) H1.heap.size (H1.heap.size + 1) [] [] (fun _ => 0) 0 0 :=
      ⟨st2, iv, m1, m2, fun _ => rfl, t0, hn0, by omega, nf1.1, nf2.1, nf1.2.1, nf2.2.1, nf1.2.2, nf2.2.2⟩
    exact ⟨by simp, by simp [getD_mapA], by simp, b, n0, vn, .slice none 0 0, H1.heap.size, H1.heap.size + 1, [], [], fun _ => 0, 0, 0, by simp, by simp, by simp, by simp, by simp, L0⟩
  · rintro k e H' hk q1 q2 ⟨e50, b, n, vn, vf, ms, mc, S, C, c, tw, la, e7, e9, e10, e11, e12, L⟩
    generalize hx : (o.getD [])[k] = x at *
    have hheavyx := hheavy x (hx ▸ List.getElem_mem hk)
    have hsides : (x.sides.getD []).length < 2 ^ 62 := by
      simp [heavy] at hheavyx
      have := hheavyx.2
      omega
    have wk : IntKind.i64.wrap ((k : Int) + 1) = ((k + 1 : Nat) : Int) := by rw [wrap64 (by omega) (by omega)]; omega
    have ga : getO (pushObj H' (.cells (cellsA x) 34 (0, 0))) H'.heap.size = some (.cells (cellsA x) 34 (0, 0)) := by rw [get_push, if_pos rfl]
    have hlb := getO_lt L.st.net
    have lS := L.hS.lt
    have lC := L.hC.lt
    simp [q1, q2, e50, getD_mapA, idxV, hk, hx, allocX, szO, overL]
    have L1 := L.push (.cells (cellsA x) 34 (0, 0))
    change TD n.fl k (pushObj H' (.cells #[.int .i64 x.kind, .int .i64 x.frm, .int .i64 x.to, .int .i64 x.time, .int .i64 x.lk.delay, .int .i64 x.lk.jitter, .int .i64 x.lk.loss, .int .i64 x.lk.dbl, .string (sB x.body), sidesV x.sides] 34 (0, 0))) b n vn vf ms mc S C c tw la at L1
    change getO (pushObj H' (.cells #[.int .i64 x.kind, .int .i64 x.frm, .int .i64 x.to, .int .i64 x.time, .int .i64 x.lk.delay, .int .i64 x.lk.jitter, .int .i64 x.lk.loss, .int .i64 x.lk.dbl, .string (sB x.body), sidesV x.sides] 34 (0, 0))) H'.heap.size = some (.cells #[.int .i64 x.kind, .int .i64 x.frm, .int .i64 x.to, .int .i64 x.time, .int .i64 x.lk.delay, .int .i64 x.lk.jitter, .int .i64 x.lk.loss, .int .i64 x.lk.dbl, .string (sB x.body), sidesV x.sides] 34 (0, 0)) at ga
    generalize hHa : pushObj H' (.cells #[.int .i64 x.kind, .int .i64 x.frm, .int .i64 x.to, .int .i64 x.time, .int .i64 x.lk.delay, .int .i64 x.lk.jitter, .int .i64 x.lk.loss, .int .i64 x.lk.dbl, .string (sB x.body), sidesV x.sides] 34 (0, 0)) = Ha at *
    have nfa := L.st.fresh (i := H'.heap.size) (Nat.le_refl _)
    generalize hax : H'.heap.size = ax at *
    have hax1 := getO_lt ga
    by_cases k11 : x.kind = 11
    · have d11 := decide_eq_true k11
      simp [ga, d11, e7]
      refine step17 L1.st L1.iv fun H3 vf3 vo st3 fr3 ac3 ap3 => ?_
      obtain ⟨td, hnow, htime⟩ := told_step L1.iv L1.told
      have iv3 := inv_mono (inv_step L1.iv) (by omega)
      have L3 := L1.net st3 fr3 iv3 td (by have := L1.la; omega)
      have hlo := fun H0 => accp_len (H0 := H0) ac3
      have aS := ap3 ms (by rw [← hHa]; simp; omega)
      have aC := ap3 mc (by rw [← hHa]; simp; omega)
      have hol : (oStep n).length < 2 ^ 62 := by
        have h1 := oStep_len n
        have := L1.iv.ok.len
        omega
      generalize oStep n = out at *
      generalize pStep n = nn at *
      simp [hlo]
      refine CE.range (m := out.length) (fun j e' H' => lk e' 50 = acts o ∧ lk e' 51 = .int .i64 (o.getD []).length ∧ lk e' 52 = .int .i64 k ∧ lk e' 7 = p0 b ∧ lk e' 9 = .map (some ms) ∧ lk e' 10 = .map (some mc) ∧ lk e' 115 = vo ∧ AccP H' vo out ∧ ∃ C c tw la, lk e' 11 = .int .i64 tw ∧ lk e' 12 = .int .i64 la ∧ TD (out.drop j ++ nn.fl) (k + 1) H' b nn vn vf3 ms mc S C c tw la) ?_ (by omega) ?_ ?_ ?_
      · decide
      · exact ⟨by simp, by simp, by simp [e50], by simp [q2], by simp [q1], by simp [e7], by simp [e9], by simp [e10], by simp, ac3, C, c, tw, la, by simp [e11], by simp [e12], by simpa using L3⟩
      · rintro j e' H4 hj r1 r2 ⟨f50, f51, f52, f7, f9, f10, f115, ac4, C4, c4, tw4, la4, f11, f12, L4⟩
        obtain ⟨a, i1, i2, i3⟩ := accp_get ac4 hj
        have hty := htime out[j] (List.getElem_mem hj)
        have hdrop : out.drop j = out[j] :: out.drop (j + 1) := List.drop_eq_getElem_cons hj
        have tl := L4.told
        rw [hdrop] at tl
        generalize out[j] = y at *
        obtain ⟨t, hs1, hs2⟩ := tl.sent y (List.mem_cons_self ..)
        obtain ⟨hc1, tl2⟩ := tl.take
        have hlo4 := tl.lo y.id
        have hy1 : ¬ y.time < t := by omega
        have hy2 : ¬ y.time < la4 := by have := L4.la; omega
        have g5 : getO (pushObj H4 (.cells (cellsP y) 41 (0, 0))) H4.heap.size = some (.cells (cellsP y) 41 (0, 0)) := by rw [get_push, if_pos rfl]
        have L5 := L4.push (.cells (cellsP y) 41 (0, 0))
        have ac5 : AccP _ vo out := AccE.push ac4 (.cells (cellsP y) 41 (0, 0))
        have z5 : (pushObj H4 (.cells (cellsP y) 41 (0, 0))).heap.size = H4.heap.size + 1 := by simp
        simp [f115, r1, i1, i2, allocX, szO, overL]
        change getO (pushObj H4 (.cells #[.int .i64 y.id, .int .i64 y.frm, .int .i64 y.to, .int .i64 y.time, .string (sB y.body)] 41 (0, 0))) _ = some (.cells #[.int .i64 y.id, .int .i64 y.frm, .int .i64 y.to, .int .i64 y.time, .string (sB y.body)] 41 (0, 0)) at g5
        change TD _ _ (pushObj H4 (.cells #[.int .i64 y.id, .int .i64 y.frm, .int .i64 y.to, .int .i64 y.time, .string (sB y.body)] 41 (0, 0))) _ _ _ _ _ _ _ _ _ _ _ at L5
        change AccP (pushObj H4 (.cells #[.int .i64 y.id, .int .i64 y.frm, .int .i64 y.to, .int .i64 y.time, .string (sB y.body)] 41 (0, 0))) _ _ at ac5
        change (pushObj H4 (.cells #[.int .i64 y.id, .int .i64 y.frm, .int .i64 y.to, .int .i64 y.time, .string (sB y.body)] 41 (0, 0))).heap.size = _ at z5
        generalize hH5 : pushObj H4 (.cells #[.int .i64 y.id, .int .i64 y.frm, .int .i64 y.to, .int .i64 y.time, .string (sB y.body)] 41 (0, 0)) = H5 at *
        generalize hyb : H4.heap.size = yb at *
        have lk1 := lookS L5.hS y.id true
        rw [hs1] at lk1
        have L6 := L5.push (.cells #[.int .i64 y.id, .int .i64 y.frm, .int .i64 y.to, .int .i64 t, .string (sB y.body)] 41 (0, 0))
        have ac6 : AccP _ vo out := AccE.push ac5 (.cells #[.int .i64 y.id, .int .i64 y.frm, .int .i64 y.to, .int .i64 t, .string (sB y.body)] 41 (0, 0))
        have hyb5 := getO_lt g5
        have g56 : getO (pushObj H5 (.cells #[.int .i64 y.id, .int .i64 y.frm, .int .i64 y.to, .int .i64 t, .string (sB y.body)] 41 (0, 0))) yb = some (.cells #[.int .i64 y.id, .int .i64 y.frm, .int .i64 y.to, .int .i64 y.time, .string (sB y.body)] 41 (0, 0)) := by rw [get_push, if_neg (by omega)]; exact g5
        have g6 : getO (pushObj H5 (.cells #[.int .i64 y.id, .int .i64 y.frm, .int .i64 y.to, .int .i64 t, .string (sB y.body)] 41 (0, 0))) H5.heap.size = some (.cells #[.int .i64 y.id, .int .i64 y.frm, .int .i64 y.to, .int .i64 t, .string (sB y.body)] 41 (0, 0)) := by rw [get_push, if_pos rfl]
        simp [f9, f10, g5, lk1, allocX, szO, overL]
        generalize hH6 : pushObj H5 (.cells #[.int .i64 y.id, .int .i64 y.frm, .int .i64 y.to, .int .i64 t, .string (sB y.body)] 41 (0, 0)) = H6 at *
        refine WP.drawP [(37, 41), (38, 41)] (by decide +kernel) (by decide +kernel) ?_
        have dt1 := decide_eq_false hy1
        have dt2 := decide_eq_false hy2
        simp [g56, g6, dt1, dt2, f12, f7]
        refine now10 L6.st ?_
        simp [hty]
        refine ⟨Checks.cons rfl rfl rfl ?_ (Checks.cons rfl rfl rfl ?_ .nil), ?_⟩
        iterate 2
          · unfold reV
            simp [g56, q_int, q_ptr]
        have lkc := lookC L6.hC L6.cc y.id
        have hw1 : IntKind.i64.wrap (c4 y.id + 1) = c4 y.id + 1 := wrap64 (by omega) (by omega)
        obtain ⟨om, hmu, hm7⟩ := putC L6.hC y.id (.int .i64 (c4 y.id + 1))
        have L7 := L6.putC (la' := nn.now) hm7 (cc_put L6.cc rfl) tl2 (Int.le_refl _)
        have ac7 : AccP _ vo out := AccE.set ac6 om (i := mc) (fun r c1 c2 e he => aC r 0 c1 c2 e he)
        have lmc := L6.hC.lt
        have nyc : ¬ yb = mc := by have := L4.hC.lt; omega
        have g7 : getO (setO H6 mc om) yb = some (.cells #[.int .i64 y.id, .int .i64 y.frm, .int .i64 y.to, .int .i64 y.time, .string (sB y.body)] 41 (0, 0)) := by rw [get_set, if_neg nyc]; exact g56
        have lkc7 := lookC L7.hC L7.cc y.id
        have hb7 : cBump c4 y.id y.id = c4 y.id + 1 := by unfold cBump; rw [if_pos rfl]
        rw [hb7] at lkc7
        rw [hty] at g56 g7
        have htw : IntKind.i64.wrap (tw4 + 1) = tw4 + 1 := by
          have h1 := tl.tw0
          have h2 := tl.tw1
          have h3 := L4.iv.dbl1
          have h4 := L4.iv.sent
          have h5 := L4.iv.id1
          exact wrap64 (by omega) (by omega)
        have hc3 : ¬ 2 < c4 y.id + 1 := by omega
        by_cases h2 : c4 y.id + 1 = 2
        · rw [if_pos h2] at L7
          rw [h2] at hmu lkc7
          have hw2 : IntKind.i64.wrap 2 = 2 := wrap64 (by decide) (by decide)
          simp [g56, f10, f11, lkc, hw2, hmu, g7, lkc7, htw, h2]
          exact ⟨r1, r2, f50, f51, f52, f7, f9, f115, ac7, _, _, L7⟩
        · rw [if_neg h2] at L7
          simp [g56, f10, f11, lkc, hw1, hmu, g7, lkc7, hc3, h2]
          exact ⟨r1, r2, f50, f51, f52, f7, f9, f115, ac7, _, _, L7⟩
      · rintro e' H4 r1 r2 ⟨f50, f51, f52, f7, f9, f10, f115, ac4, C4, c4, tw4, la4, f11, f12, L4⟩
        rw [List.drop_length, List.nil_append] at L4
        simp [f51, f52, wk]
        exact ⟨by simp [f50], b, nn, vn, vf3, ms, mc, S, C4, c4, tw4, la4, by simp [f7], by simp [f9], by simp [f10], by simp [f11], by simp [f12], L4⟩
    have d11 := decide_eq_false k11
    by_cases ks : 3 ≤ x.kind ∧ x.kind ≤ 8
    · obtain ⟨ks1, ks2⟩ := ks
      simp [ga, d11, ks1, ks2, e7]
      refine send11 L1.st L1.iv x.frm x.to x.body fun H3 vf3 st3 fr3 => ?_
      have ga3 := fr3.keep _ _ ga nfa.1 nfa.2.2
      have nfa3 := fr3.fresh _ hax1 nfa.1 nfa.2.2
      have iv3 := inv_send L1.iv (by omega) x.frm x.to x.body
      by_cases he : eSend n x.frm x.to x.body = 0
      rotate_left
      · have hd := decide_eq_false he
        have hs := send_not he
        rw [hs] at st3 iv3
        simp [hd, wk, q1, q2]
        exact ⟨by simp [e50], b, n, vn, vf3, ms, mc, S, C, c, tw, la, by simp [e7], by simp [e9], by simp [e10], by simp [e11], by simp [e12], L1.net st3 fr3 iv3 L1.told L1.la⟩
      have hi : iSend n x.frm x.to x.body = n.next := by simp [iSend, he]
      obtain ⟨td, hnow⟩ := told_send L1.iv L1.told he
      have L3 := L1.net st3 fr3 iv3 (R' := []) ⟨fun f hf => (List.not_mem_nil hf).elim, fun f hf => (List.not_mem_nil hf).elim, .nil, fun f hf => (List.not_mem_nil hf).elim, td.zero, td.lo, td.tw0, by have := td.tw1; show tw + 0 ≤ _; omega⟩ (by rw [hnow]; exact L1.la)
      rw [he, hi]
      simp [e7, ga3]
      refine link15 st3 (iv3.h2) x.frm x.to fun H4 st4 fr4 => ?_
      have L4 := L3.net st4 fr4 iv3 L3.told L3.la
      have ga4 := fr4.keep _ _ ga3 nfa.1 nfa3
      have nfa4 := fr4.fresh _ (getO_lt ga3) nfa.1 nfa3
      generalize hnn : pSend n x.frm x.to x.body = nn at *
      have L5 := L4.push (.cells (encLk (rLink nn x.frm x.to)).cells 32 (0, 0))
      have gk : getO (pushObj H4 (.cells (encLk (rLink nn x.frm x.to)).cells 32 (0, 0))) H4.heap.size = some (.cells (encLk (rLink nn x.frm x.to)).cells 32 (0, 0)) := by rw [get_push, if_pos rfl]
      have la4 := getO_lt ga4
      have ga5 := (show getO (pushObj H4 (.cells (encLk (rLink nn x.frm x.to)).cells 32 (0, 0))) ax = getO H4 ax by rw [get_push, if_neg (by omega)]).trans ga4
      simp [allocX, szO, overL]
      change TD [] (k + 1) (pushObj H4 (.cells #[.int .i64 (rLink nn x.frm x.to).delay, .int .i64 (rLink nn x.frm x.to).jitter, .int .i64 (rLink nn x.frm x.to).loss, .int .i64 (rLink nn x.frm x.to).dbl] 32 (0, 0))) b nn vn vf3 ms mc S C c tw la at L5
      change getO (pushObj H4 (.cells #[.int .i64 (rLink nn x.frm x.to).delay, .int .i64 (rLink nn x.frm x.to).jitter, .int .i64 (rLink nn x.frm x.to).loss, .int .i64 (rLink nn x.frm x.to).dbl] 32 (0, 0))) _ = some (.cells #[.int .i64 (rLink nn x.frm x.to).delay, .int .i64 (rLink nn x.frm x.to).jitter, .int .i64 (rLink nn x.frm x.to).loss, .int .i64 (rLink nn x.frm x.to).dbl] 32 (0, 0)) at gk
      change getO (pushObj H4 (.cells #[.int .i64 (rLink nn x.frm x.to).delay, .int .i64 (rLink nn x.frm x.to).jitter, .int .i64 (rLink nn x.frm x.to).loss, .int .i64 (rLink nn x.frm x.to).dbl] 32 (0, 0))) _ = _ at ga5
      generalize hH5 : pushObj H4 (.cells #[.int .i64 (rLink nn x.frm x.to).delay, .int .i64 (rLink nn x.frm x.to).jitter, .int .i64 (rLink nn x.frm x.to).loss, .int .i64 (rLink nn x.frm x.to).dbl] 32 (0, 0)) = H5 at *
      obtain ⟨om, hmu, hm6⟩ := putS L5.hS n.next (notedP n nn x.frm x.to x.body)
      have L6 := L5.putS hm6 td
      have hdl : 0 ≤ delayOf nn x.frm x.to ∧ delayOf nn x.frm x.to ≤ 1000 := by
        have hlk := lnk_ok iv3 x.frm x.to
        unfold vLink at hlk
        have hlk := of_decide_eq_true hlk
        unfold delayOf rLink
        split
        · first | omega | (split <;> omega)
        · omega
      have hw : IntKind.i64.wrap (n.now + delayOf nn x.frm x.to) = n.now + delayOf nn x.frm x.to := by
        have := L1.iv.now0
        have := L1.iv.now1
        exact wrap64 (by omega) (by omega)
      have hfin : ∀ e9 : Env, lk e9 50 = acts o → lk e9 7 = p0 b → lk e9 9 = .map (some ms) → lk e9 10 = .map (some mc) → lk e9 11 = .int .i64 tw → lk e9 12 = .int .i64 la → TlI o (k + 1) e9 (setO H5 ms om) := fun e9 g50 g7 g9 g10 g11 g12 =>
        ⟨g50, b, nn, vn, vf3, ms, mc, _, C, c, tw, la, g7, g9, g10, g11, g12, L6⟩
      by_cases hlz : eLink nn x.frm x.to = 0
      · have hD : delayOf nn x.frm x.to = (rLink nn x.frm x.to).delay := by unfold delayOf; rw [if_pos hlz]
        unfold notedP at hmu
        rw [hD] at hw hmu
        have d0 := decide_eq_true hlz
        simp [d0, gk]
        refine WP.drawP [(0, 9), (1, 9), (2, 9), (3, 9), (4, 9), (5, 9), (6, 9), (9, 0), (11, 0), (12, 0)] (by decide +kernel) (by decide +kernel) ?_
        simp [e9, e7, ga5]
        refine now10 L5.st ?_
        have lms : ms < H5.heap.size := L5.hS.lt
        have nam : ¬ ax = ms := by omega
        simp [ga5, buildQ, fillX, Value.cells, hnow, hw, hmu]
        refine ⟨(Checks.cons rfl rfl rfl ?_ (Checks.cons rfl rfl rfl ?_ (Checks.cons rfl rfl rfl ?_ (Checks.cons rfl rfl rfl ?_ (Checks.cons rfl rfl rfl ?_ (Checks.cons rfl rfl rfl ?_ (Checks.cons rfl rfl rfl ?_ (Checks.cons rfl rfl rfl ?_ (Checks.cons rfl rfl rfl ?_ (Checks.cons rfl rfl rfl ?_ .nil)))))))))), ?_⟩
        iterate 10
          · unfold reV
            simp [e9, e7, ga5, get_set, nam, q_int, q_ptr, q_str, q_map, q_agg, q_cons, q_nil, q1_int, q1_bool, q1_str]
        simp [wk, q1, q2]
        exact hfin _ (by simp [e50]) (by simp [e7]) (by simp [e9]) (by simp [e10]) (by simp [e11]) (by simp [e12])
      · have hD : delayOf nn x.frm x.to = 0 := by unfold delayOf; rw [if_neg hlz]
        unfold notedP at hmu
        rw [hD, Int.add_zero] at hw hmu
        have d0 := decide_eq_false hlz
        simp [d0]
        refine WP.drawP [(0, 9), (1, 9), (2, 9), (3, 9), (4, 9), (5, 9), (6, 9), (9, 0), (11, 0), (12, 0)] (by decide +kernel) (by decide +kernel) ?_
        simp [e9, e7, ga5]
        refine now10 L5.st ?_
        have lms : ms < H5.heap.size := L5.hS.lt
        have nam : ¬ ax = ms := by omega
        simp [ga5, buildQ, fillX, Value.cells, hnow, hw, hmu]
        refine ⟨(Checks.cons rfl rfl rfl ?_ (Checks.cons rfl rfl rfl ?_ (Checks.cons rfl rfl rfl ?_ (Checks.cons rfl rfl rfl ?_ (Checks.cons rfl rfl rfl ?_ (Checks.cons rfl rfl rfl ?_ (Checks.cons rfl rfl rfl ?_ (Checks.cons rfl rfl rfl ?_ (Checks.cons rfl rfl rfl ?_ (Checks.cons rfl rfl rfl ?_ .nil)))))))))), ?_⟩
        iterate 10
          · unfold reV
            simp [e9, e7, ga5, get_set, nam, q_int, q_ptr, q_str, q_map, q_agg, q_cons, q_nil, q1_int, q1_bool, q1_str]
        simp [wk, q1, q2]
        exact hfin _ (by simp [e50]) (by simp [e7]) (by simp [e9]) (by simp [e10]) (by simp [e11]) (by simp [e12])
    · have hfin : ∀ e9 : Env, lk e9 50 = acts o → lk e9 7 = p0 b → lk e9 9 = .map (some ms) → lk e9 10 = .map (some mc) → lk e9 11 = .int .i64 tw → lk e9 12 = .int .i64 la → ∀ H3 vf3, NSt H3 b (pDo n x) vn vf3 → FrN Ha H3 b vf vf3 → TlI o (k + 1) e9 H3 := fun e9 g50 g7 g9 g10 g11 g12 H3 vf3 st3 fr3 => by
        obtain ⟨u1, u2, u3, u4⟩ := told_do (n := n) (x := x) ks
        refine ⟨g50, b, _, vn, vf3, ms, mc, S, C, c, tw, la, g7, g9, g10, g11, g12, L1.net st3 fr3 (inv_do L1.iv (by omega) x) ?_ ?_⟩
        · rw [u1, u2, u3]; exact L1.told
        · rw [u4]; exact L1.la
      have hnk : ¬ (3 ≤ x.kind ∧ x.kind ≤ 8) := ks
      by_cases ks1 : 3 ≤ x.kind
      · have ks2 : ¬ x.kind ≤ 8 := fun h => ks ⟨ks1, h⟩
        simp [ga, d11, ks1, ks2, e7]
        refine do16 L1.st L1.iv x hsides fun H3 vf3 st3 fr3 => ?_
        simp [wk, q1, q2]
        exact hfin _ (by simp [e50]) (by simp [e7]) (by simp [e9]) (by simp [e10]) (by simp [e11]) (by simp [e12]) _ _ st3 fr3
      · simp [ga, d11, ks1, e7]
        refine do16 L1.st L1.iv x hsides fun H3 vf3 st3 fr3 => ?_
        simp [wk, q1, q2]
        exact hfin _ (by simp [e50]) (by simp [e7]) (by simp [e9]) (by simp [e10]) (by simp [e11]) (by simp [e12]) _ _ st3 fr3
  · rintro e H' q1 q2 ⟨e50, b, n, vn, vf, ms, mc, S, C, c, tw, la, e7, e9, e10, e11, e12, L⟩
    simp [e7]
    refine counts12 L.st ?_
    have htw : tw ≤ n.dbl := by have := L.told.tw1; omega
    simp [e11, htw, awake7]
    exact hq _
end Go.Proofs.Ytmmmdmandocbhaa
end
