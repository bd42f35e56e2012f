/- Helpers of this claim: an evaluator over plain values and its laws. -/
import Derived.Test.YtmmmdmandocbhaaMd
section
set_option linter.unusedVariables false
set_option linter.unusedSimpArgs false
namespace Go.Proofs.Ytmmmdmandocbhaa
open Go Go.Proofs.Ytmmmdmandocbhaa.Den
theorem acc_keep' {H H' : World} {v : Value} {es : Nat} {e : TypeId} {n : Nat} {cs : List Value} (h : Acc H v es e n cs) (hk : Keep H H') : Acc H' v es e n cs := by
  obtain ⟨h1, ⟨h2, h3⟩ | ⟨r, h2, h3, h4⟩⟩ := h
  · exact ⟨h1, .inl ⟨h2, h3⟩⟩
  · exact ⟨h1, .inr ⟨r, h2, h3, hk _ _ h4⟩⟩
theorem cntT_eq {fl : List Fl} {t : Int} {k : Nat} (hk : k ≤ fl.length) (h1 : ∀ j (hj : j < fl.length), j < k → fl[j].time ≤ t) (h2 : ∀ hk : k < fl.length, ¬ fl[k].time ≤ t) : cntT fl t = k := by
  unfold cntT
  exact (tw_len hk (fun j hj hjk => decide_eq_true (h1 j hj hjk)) (fun hk => decide_eq_false (h2 hk))).symm
structure LfI (H3 : World) (b : Nat) (time : Int) (vo : Value) (i wb : Nat) (vu1 : Value) (u : List Fl) (j : Nat) (e : Env) (H : World) : Prop where
  e0 : lk e 0 = p0 b
  e1 : lk e 1 = .int .i64 time
  e6 : lk e 6 = vo
  e7 : lk e 7 = .int .i64 i
  e8 : lk e 8 = p0 wb
  e53 : lk e 53 = vu1
  kp : Keep H3 H
  sz : H3.heap.size ≤ H.heap.size
  ex : ∃ vl', lk e 9 = vl' ∧ AccE encW 6 92 H vl' (lf u i j) ∧ ∀ x, x < H3.heap.size → ApO vl' x
set_option maxRecDepth 100000 in
theorem pass26 {H : World} {b : Nat} {n : NN} {m : RL} {vn vl vs vd vu : Value} (st : RSt H b n m vn vl vs vd vu) {T : Nat} (iv : Inv n T) (pw : n.fl.Pairwise before) (time : Int) {Q : Value → World → Prop}
    (hq : ∀ H' m' vu' vo, RSt H' b (pPass n time) m' vn vl vs vd vu' → FrR H H' b [vn, vl, vs, vd, vu] [vn, vl, vs, vd, vu'] → AccP H' vo (oPass n time) → (∀ j, j < H.heap.size → ApO vo j) → ApV vo vu' → Q (.tuple #[vo, .int .i64 (ePass n time)]) H') : FW X 26 #[p0 b, .int .i64 time] H Q := by
  refine FW.walk (by simp [X, sp17_no]) Try.func26 Try.ntmps26 rfl (by simp) ?_
  have hn := st.net
  by_cases h1 : time < n.now
  · have hno : ¬ pPassOk n time := fun h => by have := h.1; omega
    have e1 : pPass n time = n := by unfold pPass; rw [if_neg hno]
    have e2 : oPass n time = [] := by unfold oPass; rw [if_neg hno]
    have e3 : ePass n time = 7 := by unfold ePass; rw [if_neg hno]
    rw [e1, e2, e3] at hq
    simp [hn, h1]
    exact hq _ _ _ _ st FrR.refl .nil (fun _ _ => .nil) .nil_l
  by_cases h2 : 1000000000000 < time
  · have hno : ¬ pPassOk n time := fun h => by have := h.2; omega
    have e1 : pPass n time = n := by unfold pPass; rw [if_neg hno]
    have e2 : oPass n time = [] := by unfold oPass; rw [if_neg hno]
    have e3 : ePass n time = 7 := by unfold ePass; rw [if_neg hno]
    rw [e1, e2, e3] at hq
    simp [hn, h1, h2]
    exact hq _ _ _ _ st FrR.refl .nil (fun _ _ => .nil) .nil_l
  have hok : pPassOk n time := ⟨by omega, by omega⟩
  have hb := getO_lt hn
  have st0 := st.write { n with now := time } rfl rfl rfl rfl rfl rfl
  simp [hn, h1, h2, hb, overL]
  change RSt (setO H b (.cells #[.int .i64 n.hosts, .int .i64 time, vn, .int .i64 n.used, vl, vs, vd, vu, .int .i64 n.sent, .int .i64 n.arr, .int .i64 n.lost, .int .i64 n.dbl] 90 (0, 0))) b { n with now := time } m vn vl vs vd vu at st0
  have kp0 : ∀ j o, getO H j = some o → j ≠ b → getO (setO H b (.cells #[.int .i64 n.hosts, .int .i64 time, vn, .int .i64 n.used, vl, vs, vd, vu, .int .i64 n.sent, .int .i64 n.arr, .int .i64 n.lost, .int .i64 n.dbl] 90 (0, 0))) j = some o := fun j o hj hjb => by rw [get_set, if_neg hjb]; exact hj
  have z0 : (setO H b (.cells #[.int .i64 n.hosts, .int .i64 time, vn, .int .i64 n.used, vl, vs, vd, vu, .int .i64 n.sent, .int .i64 n.arr, .int .i64 n.lost, .int .i64 n.dbl] 90 (0, 0))).heap.size = H.heap.size := by simp
  generalize setO H b (.cells #[.int .i64 n.hosts, .int .i64 time, vn, .int .i64 n.used, vl, vs, vd, vu, .int .i64 n.sent, .int .i64 n.arr, .int .i64 n.lost, .int .i64 n.dbl] 90 (0, 0)) = H0 at *
  have hp0 : pR n time 0 = { n with now := time } := by unfold pR pK; simp
  obtain ⟨ml, ms, md, mu⟩ := m
  refine CE.inv (PsI H b n time ml ms md vn vl vs vd vu) ?_ (d := n.fl.length) ⟨by simp, by simp, 0, mu, vu, .slice none 0 0, rfl, Nat.zero_le _, by rw [hp0]; exact st0, by simp, .nil, fun _ _ => .nil, .nil_l, fun j hj h => by omega, kp0, by omega, .inl rfl⟩
  rintro d e H1 ⟨e0, e1, k, u, vu1, vo, rfl, hk, st1, e6, acc, apo, apu, htm, kp1, z1, hvu⟩
  have hfl1 : (pR n time k).fl = n.fl.drop k := rfl
  have hpm1 : u.Perm (n.fl.drop k) := st1.pm
  have hpw1 : (n.fl.drop k).Pairwise before := pw.sublist (List.drop_sublist _ _)
  have hso1 : Sorted (n.fl.drop k) := iv.ok.so.sublist (List.drop_sublist _ _)
  have hlu : u.length < 2 ^ 40 := by
    have := hpm1.length_eq
    rw [List.length_drop] at this
    have := iv.ok.len
    omega
  -- the way out
  have hout : (∀ hk : k < n.fl.length, ¬ n.fl[k].time ≤ time) → ∀ H2, Keep H1 H2 → H1.heap.size ≤ H2.heap.size → Q (.tuple #[vo, .int .i64 0]) H2 := fun hlast H2 k2 z2 => by
    have hc := cntT_eq hk htm hlast
    have p1 : pPass n time = pR n time k := by unfold pPass; rw [if_pos hok, hc]; rfl
    have p2 : oPass n time = (n.fl.take k).filter (arrv n) := by unfold oPass; rw [if_pos hok, hc]
    have p3 : ePass n time = 0 := by unfold ePass; rw [if_pos hok]
    rw [p1, p2, p3] at hq
    refine hq H2 _ _ _ (st1.keep k2) ⟨fun j o hj hjb _ => k2 _ _ (kp1 j o hj hjb), fun j hj hjb hv v hv' => ?_, by omega⟩ (acc_keep' acc k2) apo apu
    simp only [List.mem_cons, List.not_mem_nil, or_false] at hv'
    rcases hv' with rfl | rfl | rfl | rfl | rfl
    · exact hv _ (by simp)
    · exact hv _ (by simp)
    · exact hv _ (by simp)
    · exact hv _ (by simp)
    · rcases hvu with rfl | h
      · exact hv _ (by simp)
      · exact h j hj
  simp [e0]
  refine first47 st1 hlu (fun H2 hnil k2 z2 => ?_) (fun H2 i hi hmin k2 z2 => ?_)
  · have hu : u = [] := hnil
    simp [e6]
    refine hout (fun hk' => ?_) H2 k2 z2
    have := hpm1.length_eq
    rw [hu, List.length_drop] at this
    simp at this
    omega
  have hi : i < u.length := hi
  obtain ⟨rest, hrest⟩ := min_head hso1 hpw1 hpm1 hi hmin
  have hkl : k < n.fl.length := by
    refine Classical.byContradiction fun hc => ?_
    rw [List.drop_eq_nil_of_le (by omega)] at hrest
    cases hrest
  have hdk := List.drop_eq_getElem_cons hkl
  rw [hrest] at hdk
  injection hdk with hf hr
  have st2 := st1.keep k2
  have hn2 := st2.net
  obtain ⟨r, a1, a2, a3⟩ := accw_get st2.und hi
  have a1 : indexAddrQ Try.prog 88 vu1 (.int .i64 i) = some (.pointer (some ⟨r, i * 6, none⟩)) := a1
  have a2 : loadX Try.prog 92 (.pointer (some ⟨r, i * 6, none⟩)) H2 = some (.value (encW u[i]), H2) := a2
  have a3 : loadX Try.prog 3 (.pointer (some ⟨r, i * 6 + 4, none⟩)) H2 = some (.value (.int .i64 u[i].time), H2) := a3
  have hi0 : ¬ (i : Int) < 0 := by omega
  by_cases hgt : time < u[i].time
  · have hd := decide_eq_true hgt
    simp [hi0, e0, e1, e6, hn2, a1, a3, hd]
    exact hout (fun _ => by have := hgt; rw [hf] at this; omega) H2 k2 z2
  have hd := decide_eq_false hgt
  have hlen := fun H9 => accw_len (H0 := H9) st2.und
  have hlen : ∀ H9, builtinX Try.prog .len #[88] #[vu1] H9 = some (.value (.int .i64 u.length), H9) := hlen
  have hbne : ¬ b = H2.heap.size := by have := getO_lt hn2; omega
  simp [hi0, e0, e1, hn2, a1, a2, a3, hd, allocX, szO, overL, hlen, hbne]
  have st3 := st2.push (.cells (cellsW u[i]) 92 (0, 0))
  have gw : getO (pushObj H2 (.cells (cellsW u[i]) 92 (0, 0))) H2.heap.size = some (.cells (cellsW u[i]) 92 (0, 0)) := by rw [get_push, if_pos rfl]
  have k3 : Keep H2 (pushObj H2 (.cells (cellsW u[i]) 92 (0, 0))) := fun j o hj => by have := getO_lt hj; rw [get_push, if_neg (by omega)]; exact hj
  have z3 : (pushObj H2 (.cells (cellsW u[i]) 92 (0, 0))).heap.size = H2.heap.size + 1 := by simp
  generalize hH3 : pushObj H2 (.cells (cellsW u[i]) 92 (0, 0)) = H3 at *
  have hul : u.length ≤ 2 ^ 19 := by
    have := hpm1.length_eq
    rw [List.length_drop] at this
    have h1 := iv.sum
    have h2 := iv.dbl1
    have h3 := iv.sent
    have h4 := iv.id1
    have h5 := iv.T
    have h6 := iv.arr
    have h7 := iv.lost
    omega
  refine CE.range (m := u.length) (fun j e' H4 => LfI H3 b time vo i H2.heap.size vu1 u j e' H4) ?_ (by omega) ?_ ?_ ?_
  · decide
  · exact ⟨by simp, by simp, by simp [e0], by simp [e1], by simp [e6], by simp, by simp, by simp, fun _ _ h => h, Nat.le_refl _, .slice none 0 0, by simp, by rw [lf_0]; exact AccE.nil, fun x _ => .nil⟩
  · rintro j e' H4 hj q1 q2 ⟨f0, f1, f6, f7, f8, f53, k4, z4, vl', f9, accl, apl⟩
    have st4 := st3.keep k4
    obtain ⟨r4, b1, b2, b3⟩ := accw_get st4.und hj
    have b1 : indexAddrQ Try.prog 88 vu1 (.int .i64 j) = some (.pointer (some ⟨r4, j * 6, none⟩)) := b1
    have b2 : loadX Try.prog 92 (.pointer (some ⟨r4, j * 6, none⟩)) H4 = some (.value (encW u[j]), H4) := b2
    have g5 : getO (pushObj H4 (.cells (cellsW u[j]) 92 (0, 0))) H4.heap.size = some (.cells (cellsW u[j]) 92 (0, 0)) := by rw [get_push, if_pos rfl]
    have k5 : Keep H3 (pushObj H4 (.cells (cellsW u[j]) 92 (0, 0))) := fun x o hx => by have h := k4 _ _ hx; have := getO_lt h; rw [get_push, if_neg (by omega)]; exact h
    have z5 : (pushObj H4 (.cells (cellsW u[j]) 92 (0, 0))).heap.size = H4.heap.size + 1 := by simp
    have acc5 : AccE encW 6 92 (pushObj H4 (.cells (cellsW u[j]) 92 (0, 0))) vl' (lf u i j) := AccE.push accl _
    by_cases hji : j = i
    · subst hji
      simp [q1, q2, f53, b1, b2, f7, allocX, szO, overL]
      exact ⟨by simp [f0], by simp [f1], by simp [f6], by simp [f7], by simp [f8], by simp [f53], k5, by simp; omega, vl', by simp [f9], by rw [lf_eq]; exact acc5, apl⟩
    · have hjn : ¬ ((j : Int) = i) := by omega
      obtain ⟨v2, H6, c1, c2, c3, c4, c5⟩ := app_w acc5 (by have := lf_le u i j; omega) u[j]
      have hsz6 : (pushObj (pushObj H4 (.cells (cellsW u[j]) 92 (0, 0))) (.cells (cellsW u[j]) 92 (0, 0))).heap.size = H4.heap.size + 2 := by simp
      rw [z5] at c1
      simp [q1, q2, f53, b1, b2, f7, f9, allocX, szO, overL, hjn, buildSliceX, inOrder, catCells, c1]
      exact ⟨by simp [f0], by simp [f1], by simp [f6], by simp [f7], by simp [f8], by simp [f53], fun x o hx => c3 _ _ (k5 _ _ hx) (apl x (getO_lt hx)), by omega, v2, by simp, by rw [lf_ne hj hji]; exact c2, fun x hx => c5 x (apl x hx) (by omega)⟩
  · rintro e' H4 q1 q2 ⟨f0, f1, f6, f7, f8, f53, k4, z4, vl', f9, accl, apl⟩
    have hrest2 : n.fl.drop k = u[i] :: n.fl.drop (k + 1) := by rw [hrest, hr]
    have hperm := lf_perm hi (hrest2 ▸ hpm1)
    have st4 := st3.keep k4
    have hb3 := getO_lt st3.net
    have apvl : ∀ v ∈ [vn, vl, vs, vd], ApV v vl' := fun v hv r o k c e => apl r (st3.row_lt (v := v) (by simp at hv ⊢; rcases hv with h | h | h | h <;> simp [h]) e)
    have st5 : RSt (setO H4 b (netR { pR n time k with fl := n.fl.drop (k + 1) } vn vl vs vd vl')) b { pR n time k with fl := n.fl.drop (k + 1) } ⟨ml, ms, md, lf u i u.length⟩ vn vl vs vd vl' := st4.newUnd (fl' := n.fl.drop (k + 1)) accl (apl b hb3) apvl hperm
    obtain ⟨o1, o2⟩ : vl'.cells = #[vl'] ∧ vl'.oneCell' = true := by
      rcases accl.2 with ⟨rfl, _⟩ | ⟨r, rfl, _⟩ <;> exact ⟨rfl, rfl⟩
    have hn4 := st4.net
    have hb4 := getO_lt hn4
    have gw4 := k4 _ _ gw
    have hwb : ¬ H2.heap.size = b := fun e => hbne e.symm
    have hat := iv.at' n.fl[k] (List.getElem_mem hkl)
    rw [← hf] at hat
    obtain ⟨t0, t1, t2, t3, t4⟩ := hat
    have hpn : ∃ c1 c2 : Int, pR n time k = { n with now := time, fl := n.fl.drop k, lost := c1, arr := c2 } ∧ n.lost ≤ c1 ∧ c1 ≤ n.lost + n.fl.length ∧ n.arr ≤ c2 ∧ c2 ≤ n.arr + n.fl.length := by
      have hle := pK_le { n with now := time } n.fl k
      exact ⟨_, _, rfl, hle.1, hle.2.1, hle.2.2.1, hle.2.2.2⟩
    simp [f0, f9, hn4, hb4, o1, o2, overL]
    have gw5 : getO (setO H4 b (netR { pR n time k with fl := n.fl.drop (k + 1) } vn vl vs vd vl')) H2.heap.size = some (.cells (cellsW u[i]) 92 (0, 0)) := by rw [get_set, if_neg hwb]; exact gw4
    have kp5 : ∀ j o, getO H j = some o → j ≠ b → getO (setO H4 b (netR { pR n time k with fl := n.fl.drop (k + 1) } vn vl vs vd vl')) j = some o := fun j o hj hjb => by rw [get_set, if_neg hjb]; exact k4 _ _ (k3 _ _ (k2 _ _ (kp1 j o hj hjb)))
    have z5 : (setO H4 b (netR { pR n time k with fl := n.fl.drop (k + 1) } vn vl vs vd vl')).heap.size = H4.heap.size := by simp
    have apob := apo b hb
    have acc5 : AccP (setO H4 b (netR { pR n time k with fl := n.fl.drop (k + 1) } vn vl vs vd vl')) vo ((n.fl.take k).filter (arrv n)) := AccE.set (acc_keep' (acc_keep' (acc_keep' acc k2) k3) k4) _ (apo_apart apob)
    have apv5 : ApV vo vl' := fun r o c c' e => apl r (by
      rcases acc.2 with ⟨e2, _⟩ | ⟨r2, e2, _, hr2⟩
      · rw [e2] at e; cases e
      · rw [e2] at e; cases e; have := getO_lt hr2; omega)
    generalize hH5 : setO H4 b (netR { pR n time k with fl := n.fl.drop (k + 1) } vn vl vs vd vl') = H5 at *
    generalize hwbe : H2.heap.size = wb at *
    have hn5 := st5.net
    have hb5 := getO_lt hn5
    have hdl : (md.length : Int) = n.hosts := st5.dl
    have hsl : (ms.length : Int) = n.hosts := st5.sl
    have hdw : RowC 4 H5 vd md.length (md.map Value.bool) := st5.down
    have hsd : RowC 3 H5 vs ms.length (ms.map (Value.int .i64)) := st5.sides
    have hdn : md[u[i].to.toNat]? = some (dwn n u[i].to) := st5.dn _ t2 t3
    have hsf : ms[u[i].frm.toNat]? = some (sid n u[i].frm) := st5.sd _ t0 t1
    have hst : ms[u[i].to.toNat]? = some (sid n u[i].to) := st5.sd _ t2 t3
    obtain ⟨r, fr, c, hm, hi1, hr1, hv1⟩ := hdw.at86 t2 (by omega)
    obtain ⟨ra, fra, ca, hma, ia, hra, hva⟩ := hsd.at29 t0 (by omega)
    obtain ⟨rb, frb, cb, hmb, ib, hrb, hvb⟩ := hsd.at29 t2 (by omega)
    obtain ⟨c1, c2, hpe, l1, l2, l3, l4⟩ := hpn
    have hw1 : IntKind.i64.wrap ((pR n time k).lost + 1) = (pR n time k).lost + 1 := by
      have h3 := iv.sent
      have h4 := iv.id1
      have h5 := iv.T
      have h6 := iv.arr
      have h7 := iv.lost
      have h1 := iv.sum
      have h2 := iv.dbl1
      rw [hpe]
      exact wrap64 (by show 0 ≤ c1 + 1; omega) (by show c1 + 1 < _; omega)
    have hw2 : IntKind.i64.wrap ((pR n time k).arr + 1) = (pR n time k).arr + 1 := by
      have h3 := iv.sent
      have h4 := iv.id1
      have h5 := iv.T
      have h6 := iv.arr
      have h7 := iv.lost
      have h1 := iv.sum
      have h2 := iv.dbl1
      rw [hpe]
      exact wrap64 (by show 0 ≤ c2 + 1; omega) (by show c2 + 1 < _; omega)
    have htm' : ∀ j (hj : j < n.fl.length), j < k + 1 → n.fl[j].time ≤ time := fun j hj hjk => by
      by_cases e : j = k
      · subst e; have := hgt; rw [hf] at this; omega
      · exact htm j hj (by omega)
    have hlost : arrv n u[i] = false → ∀ e9 : Env, lk e9 0 = p0 b → lk e9 1 = .int .i64 time → lk e9 6 = vo → PsI H b n time ml ms md vn vl vs vd vu (n.fl.length - (k + 1)) e9 (setO H5 b (netR { { pR n time k with fl := n.fl.drop (k + 1) } with lost := (pR n time k).lost + 1 } vn vl vs vd vl')) := fun harr e9 g0 g1 g6 => by
      have st6 := st5.write { { pR n time k with fl := n.fl.drop (k + 1) } with lost := (pR n time k).lost + 1 } rfl rfl rfl rfl rfl rfl
      have e := pK_lost (n := { n with now := time }) hkl (by rw [← hf]; exact harr)
      have e : ({ { pR n time k with fl := n.fl.drop (k + 1) } with lost := (pR n time k).lost + 1 } : NN) = pR n time (k + 1) := e
      rw [e] at st6 ⊢
      refine ⟨g0, g1, k + 1, _, vl', vo, rfl, hkl, st6, g6, ?_, apo, apv5, htm', fun j o hj hjb => by rw [get_set, if_neg hjb]; exact kp5 j o hj hjb, by simp; omega, .inr fun j hj => apl j (by omega)⟩
      rw [List.take_succ_eq_append_getElem hkl, List.filter_append, ← hf]
      simp only [List.filter_cons, List.filter_nil, harr]
      simpa using AccE.set acc5 _ (apo_apart apob)
    simp
    refine WP.draw0 (by decide +kernel) (by decide +kernel) ?_
    cases hdd : dwn n u[i].to with
    | true =>
      have harr : arrv n u[i] = false := by unfold arrv; rw [hdd]; rfl
      rw [hdd] at hdn
      simp [f0, f8, hn5, gw5, hi1, hr1, hdn, hb5, hw1, overL]
      exact ⟨_, by omega, hlost harr _ (by simp [f0]) (by simp [f1]) (by simp [f6])⟩
    | false =>
      rw [hdd] at hdn
      by_cases hsid : sid n u[i].frm = sid n u[i].to
      rotate_left
      · have harr : arrv n u[i] = false := by unfold arrv; rw [hdd, decide_eq_false hsid]; rfl
        have hsdd := decide_eq_false hsid
        simp [f0, f8, hn5, gw5, hi1, hr1, hdn, ia, hra, hsf, ib, hrb, hst, hsdd, hb5, hw1, overL]
        exact ⟨_, by omega, hlost harr _ (by simp [f0]) (by simp [f1]) (by simp [f6])⟩
      · have harr : arrv n u[i] = true := by unfold arrv; rw [hdd, decide_eq_true hsid]; rfl
        have hsdd := decide_eq_true hsid
        have st6 := st5.write { { pR n time k with fl := n.fl.drop (k + 1) } with arr := (pR n time k).arr + 1 } rfl rfl rfl rfl rfl rfl
        have e := pK_arr (n := { n with now := time }) hkl (by rw [← hf]; exact harr)
        have e : ({ { pR n time k with fl := n.fl.drop (k + 1) } with arr := (pR n time k).arr + 1 } : NN) = pR n time (k + 1) := e
        have acc6 : AccP (setO H5 b (netR { { pR n time k with fl := n.fl.drop (k + 1) } with arr := (pR n time k).arr + 1 } vn vl vs vd vl')) vo ((n.fl.take k).filter (arrv n)) := AccE.set acc5 _ (apo_apart apob)
        have hlen6 : ((n.fl.take k).filter (arrv n)).length ≤ 2 ^ 20 := Nat.le_trans (List.length_filter_le _ _) (by rw [List.length_take]; have := iv.ok.len; omega)
        obtain ⟨v2, H7, c1', c2', c3', c4', c5'⟩ := app_pk acc6 hlen6 u[i]
        have hwbb : ¬ wb = b := hwb
        have z6 : (setO H5 b (netR { { pR n time k with fl := n.fl.drop (k + 1) } with arr := (pR n time k).arr + 1 } vn vl vs vd vl')).heap.size = H5.heap.size := by simp
        rw [z6] at c1' c4' c5'
        have st7 := st6.keepR (H' := H7) (fun o ho => c3' _ _ ho apob) fun v hv r o k' c' ev x hx => c3' _ _ hx (by
          simp only [List.mem_cons, List.not_mem_nil, or_false] at hv
          rcases hv with hv | hv | hv | hv | hv
          · exact apo r (st.row_lt (v := vn) (by simp) (hv ▸ ev))
          · exact apo r (st.row_lt (v := vl) (by simp) (hv ▸ ev))
          · exact apo r (st.row_lt (v := vs) (by simp) (hv ▸ ev))
          · exact apo r (st.row_lt (v := vd) (by simp) (hv ▸ ev))
          · exact apv5.symm _ _ _ _ (hv ▸ ev))
        rw [e] at st7
        simp [f0, f8, hn5, gw5, hi1, hr1, hdn, ia, hra, hsf, ib, hrb, hst, hsdd, hb5, hw2, overL, hwbb, f6, buildQ, fillX, buildSliceX, inOrder, catCells, szO, c1']
        refine ⟨n.fl.length - (k + 1), by omega, by simp [f0], by simp [f1], k + 1, _, vl', v2, rfl, hkl, st7, by simp, ?_, fun j hj => c5' j (apo j hj) (by omega), fun r o k' c' ev r' o' k2' c2'' ev' er => ?_, htm', fun j o hj hjb => ?_, by omega, .inr fun j hj => apl j (by omega)⟩
        · rw [List.take_succ_eq_append_getElem hkl, List.filter_append, ← hf]
          simp only [List.filter_cons, List.filter_nil, harr, if_true]
          exact c2'
        · have hr' : r' < H5.heap.size := st5.row_lt (v := vl') (by simp) ev'
          exact c5' r' (apv5.symm _ _ _ _ ev') hr' _ _ _ _ ev er.symm
        · exact c3' _ _ (by rw [get_set, if_neg hjb]; exact kp5 j o hj hjb) (apo j (getO_lt hj))
end Go.Proofs.Ytmmmdmandocbhaa
end

section
set_option linter.unusedVariables false
set_option linter.unusedSimpArgs false
namespace Go.Proofs.Ytmmmdmandocbhaa
open Go Go.Proofs.Ytmmmdmandocbhaa.Den
set_option maxRecDepth 100000 in
theorem step27 {H : World} {b : Nat} {n : NN} {m : RL} {vn vl vs vd vu : Value} (st : RSt H b n m vn vl vs vd vu) {T : Nat} (iv : Inv n T) (pw : n.fl.Pairwise before) {Q : Value → World → Prop}
    (hq : ∀ H' m' vu' vo, RSt H' b (pStep n) m' vn vl vs vd vu' → FrR H H' b [vn, vl, vs, vd, vu] [vn, vl, vs, vd, vu'] → AccP H' vo (oStep n) → (∀ j, j < H.heap.size → ApO vo j) → ApV vo vu' → Q (.tuple #[vo, .int .i64 (eStep n)]) H') : FW X 27 #[p0 b] H Q := by
  refine FW.walk (by simp [X, sp17_no]) Try.func27 Try.ntmps27 rfl (by simp) ?_
  simp
  refine next25 st iv pw fun H1 st1 k1 z1 => ?_
  by_cases h0 : eNext n = 0
  rotate_left
  · have e1 : pStep n = n := by unfold pStep; rw [if_neg h0]
    have e2 : oStep n = [] := by unfold oStep; rw [if_neg h0]
    have e3 : eStep n = eNext n := by unfold eStep; rw [if_neg h0]
    rw [e1, e2, e3] at hq
    have hd := decide_eq_false h0
    simp [hd]
    exact hq _ _ _ _ st1 (FrR.ofKeep k1 z1) .nil (fun _ _ => .nil) .nil_l
  · have e1 : pStep n = pPass n (tNext n) := by unfold pStep; rw [if_pos h0]
    have e2 : oStep n = oPass n (tNext n) := by unfold oStep; rw [if_pos h0]
    have e3 : eStep n = ePass n (tNext n) := by unfold eStep; rw [if_pos h0]
    rw [e1, e2, e3] at hq
    have hd := decide_eq_true h0
    simp [hd]
    refine pass26 st1 iv pw (tNext n) fun H2 m2 vu2 vo st2 fr2 ac2 ap2 av2 => ?_
    simp
    exact hq _ _ _ _ st2 ((FrR.ofKeep k1 z1).trans fr2) ac2 (fun j hj => ap2 j (by omega)) av2
theorem FrR.setFr {H H' : World} {b : Nat} {V V' : List Value} (h : FrR H H' b V V') {i : Nat} (o : Obj) (hi : H.heap.size ≤ i) : FrR H (setO H' i o) b V V' := h.setFresh o hi
/-- One more under way. -/
theorem RSt.addW {H : World} {b : Nat} {n : NN} {m : RL} {vn vl vs vd vu : Value} (st : RSt H b n m vn vl vs vd vu) (hl : m.und.length ≤ 2 ^ 20) (x : Fl) : ∃ v' H', builtinX Try.prog .append #[88, 88] #[vu, .slice (some ⟨H.heap.size, 0, none⟩) 1 1] (pushObj H (.cells (cellsW x) 92 (0, 0))) = some (.value v', H') ∧
    getO H' b = some (netR n vn vl vs vd vu) ∧ (∀ i o, getO H i = some o → ApO vu i → getO H' i = some o) ∧ RSt (setO H' b (netR (pPut n x) vn vl vs vd v')) b (pPut n x) { m with und := m.und ++ [x] } vn vl vs vd v' ∧
    FrR H (setO H' b (netR (pPut n x) vn vl vs vd v')) b [vn, vl, vs, vd, vu] [vn, vl, vs, vd, v'] ∧ v'.cells = #[v'] ∧ v'.oneCell' = true ∧ H.heap.size ≤ H'.heap.size := by
  obtain ⟨v', H', h1, h2, h3, h4, h5⟩ := app_w st.und hl x
  have hb := st.apb vu (by simp)
  have hn := h3 _ _ st.net hb
  obtain ⟨p1, p2, p3, p4, p5, p6, p7, p8, p9, p10⟩ := rst_pw st
  have kp : ∀ v ∈ [vn, vl, vs, vd], ∀ r o k c, v = .slice (some ⟨r, o, none⟩) k c → ∀ z, getO H r = some z → getO H' r = some z := fun v hv r o k c e z hz => by
    refine h3 _ _ hz ?_
    simp only [List.mem_cons, List.not_mem_nil, or_false] at hv
    rcases hv with rfl | rfl | rfl | rfl
    · exact p4 _ _ _ _ e
    · exact p7 _ _ _ _ e
    · exact p9 _ _ _ _ e
    · exact p10 _ _ _ _ e
  have hbl := getO_lt st.net
  have ap : ∀ v ∈ [vn, vl, vs, vd], ApV v v' := fun v hv r o k c e => by
    refine h5 r ?_ (st.row_lt (v := v) (by simp at hv ⊢; rcases hv with h | h | h | h <;> simp [h]) e)
    simp only [List.mem_cons, List.not_mem_nil, or_false] at hv
    rcases hv with rfl | rfl | rfl | rfl
    · exact p4 _ _ _ _ e
    · exact p7 _ _ _ _ e
    · exact p9 _ _ _ _ e
    · exact p10 _ _ _ _ e
  have hpm : (m.und ++ [x]).Perm (putF n.fl x) := by
    unfold putF insA
    refine (List.perm_append_comm (l₁ := m.und) (l₂ := [x])).trans ?_
    refine ((List.Perm.cons x st.pm).trans ?_)
    have : n.fl = n.fl.take (pos n.fl x) ++ n.fl.drop (pos n.fl x) := (List.take_append_drop _ _).symm
    conv => lhs; rw [this]
    exact List.perm_middle.symm
  have hb' := h5 b hb hbl
  -- the state with the old slice no longer stands; build it anew
  have st2 : RSt (setO H' b (netR (pPut n x) vn vl vs vd v')) b (pPut n x) { m with und := m.und ++ [x] } vn vl vs vd v' := by
    have hlb := getO_lt hn
    have kp2 : ∀ v, ApO v b → (∀ r o k c, v = .slice (some ⟨r, o, none⟩) k c → ∀ z, getO H r = some z → getO H' r = some z) → ∀ r' o' k c, v = .slice (some ⟨r', o', none⟩) k c → ∀ z, getO H r' = some z → getO (setO H' b (netR (pPut n x) vn vl vs vd v')) r' = some z := fun v hv hk r' o' k c e z hz => by
      rw [get_set, if_neg (fun e2 => hv _ _ _ _ e e2.symm)]; exact hk _ _ _ _ e _ hz
    have ap1 := st.apb
    simp only [List.mem_cons, List.not_mem_nil, or_false, forall_eq_or_imp, forall_eq] at ap1 ap
    obtain ⟨a1, a2, a3, a4, a5⟩ := ap1
    obtain ⟨q1, q2, q3, q4⟩ := ap
    refine ⟨by rw [get_set, if_pos rfl, if_pos hlb], st.nums.imp (kp2 _ a1 (kp _ (by simp))), st.links.imp (kp2 _ a2 (kp _ (by simp))), st.sides.imp (kp2 _ a3 (kp _ (by simp))), st.down.imp (kp2 _ a4 (kp _ (by simp))), AccE.set h2 _ (apo_apart hb'), st.ll, st.lk, st.sl, st.sd, st.dl, st.dn, hpm, ?_, ?_⟩
    · simp only [List.mem_cons, List.not_mem_nil, or_false, forall_eq_or_imp, forall_eq]
      exact ⟨a1, a2, a3, a4, hb'⟩
    · simp only [List.pairwise_cons, List.mem_cons, List.not_mem_nil, or_false, forall_eq_or_imp, forall_eq, false_implies, implies_true, and_true]
      exact ⟨⟨p1, p2, p3, q1⟩, ⟨p5, p6, q2⟩, ⟨p8, q3⟩, q4, trivial, .nil⟩
  obtain ⟨o1, o2⟩ : v'.cells = #[v'] ∧ v'.oneCell' = true := by
    rcases h2.2 with ⟨rfl, _⟩ | ⟨r, rfl, _⟩ <;> exact ⟨rfl, rfl⟩
  refine ⟨v', H', h1, hn, h3, st2, ⟨fun j o hj hjb hv => ?_, fun j hj hjb hv v hv' => ?_, by simp; omega⟩, o1, o2, h4⟩
  · rw [get_set, if_neg hjb]
    exact h3 _ _ hj (hv vu (by simp))
  · simp only [List.mem_cons, List.not_mem_nil, or_false] at hv'
    rcases hv' with rfl | rfl | rfl | rfl | rfl
    · exact hv _ (by simp)
    · exact hv _ (by simp)
    · exact hv _ (by simp)
    · exact hv _ (by simp)
    · exact h5 j (hv vu (by simp)) hj
end Go.Proofs.Ytmmmdmandocbhaa
end
