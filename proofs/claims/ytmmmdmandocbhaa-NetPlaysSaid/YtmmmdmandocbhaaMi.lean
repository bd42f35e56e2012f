/- Helpers of this claim: an evaluator over plain values and its laws. -/
import Derived.Test.YtmmmdmandocbhaaMg
section
set_option linter.unusedVariables false
set_option linter.unusedSimpArgs false
namespace Go.Proofs.Ytmmmdmandocbhaa
open Go Go.Proofs.Ytmmmdmandocbhaa.Den
theorem accw_q {H : World} {v : Value} {l : List Fl} (h : AccE encW 6 92 H v l) : veq v v = true ∧ veq1 v v = true := by
  rcases h.2 with ⟨rfl, _⟩ | ⟨r, rfl, _⟩
  · exact ⟨q_slice _ _ _, q1_slice _ _ _⟩
  · exact ⟨q_slice _ _ _, q1_slice _ _ _⟩
theorem RowC.q {e : TypeId} {H : World} {v : Value} {k : Nat} {cs : List Value} (h : RowC e H v k cs) : veq v v = true ∧ veq1 v v = true := by
  rcases h with ⟨rfl, _⟩ | ⟨r, c, fr, rfl, _⟩
  · exact ⟨q_slice _ _ _, q1_slice _ _ _⟩
  · exact ⟨q_slice _ _ _, q1_slice _ _ _⟩
set_option maxHeartbeats 2000000 in
set_option maxRecDepth 100000 in
theorem send37 {H : World} {b : Nat} {n : NN} {m : RL} {vn vl vs vd vu : Value} (st : RSt H b n m vn vl vs vd vu) {T : Nat} (iv : Inv n T) (x y : Int) (body : List UInt8) {Q : Value → World → Prop}
    (hq : ∀ H' m' vu', RSt H' b (pSend n x y body) m' vn vl vs vd vu' → FrR H H' b [vn, vl, vs, vd, vu] [vn, vl, vs, vd, vu'] → Q (.tuple #[.int .i64 (iSend n x y body), .int .i64 (eSend n x y body)]) H') : FW X 37 #[p0 b, .int .i64 x, .int .i64 y, .string (sB body)] H Q := by
  refine FW.walk (by simp [X, sp17_no]) Try.func37 Try.ntmps37 rfl (by simp) ?_
  have hh1 := fun Q => host46 st.net x Q
  have hh2 := fun Q => host46 st.net y Q
  have hn := st.net
  have h1 := iv.h1
  have h16 := iv.h2
  have hno : ∀ e, eSend n x y body = e → e ≠ 0 → pSend n x y body = n ∧ iSend n x y body = 0 := fun e he h0 => ⟨by unfold pSend; rw [if_neg (by omega)], by unfold iSend; rw [if_neg (by omega)]⟩
  by_cases hx : 0 ≤ x ∧ x < n.hosts
  rotate_left
  · have hhn : ¬ hasB n x y := fun h => hx ⟨h.1, h.2.1⟩
    have e : eSend n x y body = 7 := by unfold eSend; rw [if_pos hhn]
    obtain ⟨e1, e2⟩ := hno _ e (by decide)
    rw [e, e1, e2] at hq
    rw [decide_eq_false hx] at hh1
    simp [hh1]
    exact hq _ _ _ st FrR.refl
  rw [decide_eq_true hx] at hh1
  by_cases hy : 0 ≤ y ∧ y < n.hosts
  rotate_left
  · have hhn : ¬ hasB n x y := fun h => hy ⟨h.2.2.1, h.2.2.2⟩
    have e : eSend n x y body = 7 := by unfold eSend; rw [if_pos hhn]
    obtain ⟨e1, e2⟩ := hno _ e (by decide)
    rw [e, e1, e2] at hq
    rw [decide_eq_false hy] at hh2
    simp [hh1, hh2]
    exact hq _ _ _ st FrR.refl
  rw [decide_eq_true hy] at hh2
  have hh : hasB n x y := ⟨hx.1, hx.2, hy.1, hy.2⟩
  by_cases hlen : 65536 < body.length
  · have e : eSend n x y body = 3 := by simp [eSend, hh, hlen]
    obtain ⟨e1, e2⟩ := hno _ e (by decide)
    rw [e, e1, e2] at hq
    have hl' : (65536 : Int) < body.length := by omega
    simp [hh1, hh2, hl']
    exact hq _ _ _ st FrR.refl
  have hl' : ¬ (65536 : Int) < body.length := by omega
  obtain ⟨r, fr, c, hm, hi1, hr1, hv1⟩ := st.down.at86 hx.1 (by have := st.dl; omega)
  have hdn := st.dn _ hx.1 hx.2
  cases hdd : dwn n x with
  | true =>
    have e : eSend n x y body = 9 := by simp [eSend, hh, hlen, hdd]
    obtain ⟨e1, e2⟩ := hno _ e (by decide)
    rw [e, e1, e2] at hq
    rw [hdd] at hdn
    simp [hh1, hh2, hl', hn, hi1, hr1, hdn]
    exact hq _ _ _ st FrR.refl
  | false =>
  rw [hdd] at hdn
  have hul : ∀ H0, builtinX Try.prog .len #[88] #[vu] H0 = some (.value (.int .i64 n.fl.length), H0) := fun H0 => by rw [accw_len (H0 := H0) st.und, st.pm.length_eq]
  by_cases hfu : 10000 ≤ n.fl.length
  · have e : eSend n x y body = 4 := by simp [eSend, hh, hlen, hdd, hfu]
    obtain ⟨e1, e2⟩ := hno _ e (by decide)
    rw [e, e1, e2] at hq
    have hfu' : (10000 : Int) ≤ n.fl.length := by omega
    simp [hh1, hh2, hl', hn, hi1, hr1, hdn, hul, hfu']
    exact hq _ _ _ st FrR.refl
  have hfu' : ¬ (10000 : Int) ≤ n.fl.length := by omega
  have e : eSend n x y body = 0 := by simp [eSend, hh, hlen, hdd, hfu]
  have e1 : pSend n x y body = pTake n x y body := by simp [pSend, e]
  have e2 : iSend n x y body = n.next := by simp [iSend, e]
  rw [e, e1, e2] at hq
  have hsn : n.sent = n.next - 1 := iv.sent
  have hT := iv.T
  have hi2 := iv.id1
  have hi0 := iv.id0
  have ws : IntKind.i64.wrap (n.sent + 1) = n.sent + 1 := wrap64 (by omega) (by omega)
  have hsn1 : n.sent + 1 = n.next := by omega
  have hb := getO_lt hn
  have st1 := st.write (pSent n) rfl rfl rfl rfl rfl rfl
  simp [hh1, hh2, hl', hn, hi1, hr1, hdn, hul, hfu', ws, hb, overL]
  have fr1 : FrR H (setO H b (netR (pSent n) vn vl vs vd vu)) b [vn, vl, vs, vd, vu] [vn, vl, vs, vd, vu] := FrR.setB _
  change RSt (setO H b (.cells #[.int .i64 n.hosts, .int .i64 n.now, vn, .int .i64 n.used, vl, vs, vd, vu, .int .i64 (n.sent + 1), .int .i64 n.arr, .int .i64 n.lost, .int .i64 n.dbl] 90 (0, 0))) b _ m vn vl vs vd vu at st1
  change FrR H (setO H b (.cells #[.int .i64 n.hosts, .int .i64 n.now, vn, .int .i64 n.used, vl, vs, vd, vu, .int .i64 (n.sent + 1), .int .i64 n.arr, .int .i64 n.lost, .int .i64 n.dbl] 90 (0, 0))) b _ _ at fr1
  have z1 : (setO H b (.cells #[.int .i64 n.hosts, .int .i64 n.now, vn, .int .i64 n.used, vl, vs, vd, vu, .int .i64 (n.sent + 1), .int .i64 n.arr, .int .i64 n.lost, .int .i64 n.dbl] 90 (0, 0))).heap.size = H.heap.size := by simp
  generalize setO H b (.cells #[.int .i64 n.hosts, .int .i64 n.now, vn, .int .i64 n.used, vl, vs, vd, vu, .int .i64 (n.sent + 1), .int .i64 n.arr, .int .i64 n.lost, .int .i64 n.dbl] 90 (0, 0)) = H1 at *
  have hn1 : getO H1 b = some (.cells #[.int .i64 n.hosts, .int .i64 n.now, vn, .int .i64 n.used, vl, vs, vd, vu, .int .i64 (n.sent + 1), .int .i64 n.arr, .int .i64 n.lost, .int .i64 n.dbl] 90 (0, 0)) := st1.net
  have lb1 := getO_lt hn1
  have nlb : ¬ b = H1.heap.size := by omega
  refine WP.drawP [(0, 13), (1, 13), (2, 13), (3, 13), (4, 13), (5, 13), (6, 13), (7, 13), (8, 13), (9, 13), (10, 13), (11, 13)] (by decide +kernel) (by decide +kernel) ?_
  simp [hn1, buildQ, fillX, Value.cells, overL, allocX, szO, nlb]
  refine ⟨(Checks.cons rfl rfl rfl ?_ (Checks.cons rfl rfl rfl ?_ (Checks.cons rfl rfl rfl ?_ (Checks.cons rfl rfl rfl ?_ (Checks.cons rfl rfl rfl ?_ (Checks.cons rfl rfl rfl ?_ (Checks.cons rfl rfl rfl ?_ (Checks.cons rfl rfl rfl ?_ (Checks.cons rfl rfl rfl ?_ (Checks.cons rfl rfl rfl ?_ (Checks.cons rfl rfl rfl ?_ (Checks.cons rfl rfl rfl ?_ .nil)))))))))))), ?_⟩
  iterate 12
    · unfold reV
      simp [hn1, get_push, nlb, q_int, q_ptr, q_str, q_agg, q_cons, q_nil, q1_int, q1_bool, q1_str, buildQ, fillX, Value.cells, overL]
  rw [hsn1]
  have st2 := st1.push (.cells (cellsW (newF n x y body)) 92 (0, 0))
  have fr2 := fr1.trans (FrR.push (V := [vn, vl, vs, vd, vu]) (b := b) (.cells (cellsW (newF n x y body)) 92 (0, 0)))
  have gw : getO (pushObj H1 (.cells (cellsW (newF n x y body)) 92 (0, 0))) H1.heap.size = some (.cells (cellsW (newF n x y body)) 92 (0, 0)) := by rw [get_push, if_pos rfl]
  change RSt (pushObj H1 (.cells #[.int .i64 n.next, .int .i64 0, .int .i64 x, .int .i64 y, .int .i64 n.now, .string (sB body)] 92 (0, 0))) b _ m vn vl vs vd vu at st2
  change FrR H (pushObj H1 (.cells #[.int .i64 n.next, .int .i64 0, .int .i64 x, .int .i64 y, .int .i64 n.now, .string (sB body)] 92 (0, 0))) b _ _ at fr2
  change getO (pushObj H1 (.cells #[.int .i64 n.next, .int .i64 0, .int .i64 x, .int .i64 y, .int .i64 n.now, .string (sB body)] 92 (0, 0))) _ = some (.cells #[.int .i64 n.next, .int .i64 0, .int .i64 x, .int .i64 y, .int .i64 n.now, .string (sB body)] 92 (0, 0)) at gw
  generalize pushObj H1 (.cells #[.int .i64 n.next, .int .i64 0, .int .i64 x, .int .i64 y, .int .i64 n.now, .string (sB body)] 92 (0, 0)) = H2 at *
  have nf := st1.fresh (j := H1.heap.size) (Nat.le_refl _)
  have nfb : ¬ H1.heap.size = b := nf.1
  have nfu : ApO vu H1.heap.size := nf.2 vu (by simp)
  generalize hwb : H1.heap.size = wb at *
  have hn2 : getO H2 b = some (.cells #[.int .i64 n.hosts, .int .i64 n.now, vn, .int .i64 n.used, vl, vs, vd, vu, .int .i64 (n.sent + 1), .int .i64 n.arr, .int .i64 n.lost, .int .i64 n.dbl] 90 (0, 0)) := st2.net
  have lb2 := getO_lt hn2
  have nlb2 : ¬ b = H2.heap.size := by omega
  have hlu : m.und.length ≤ 2 ^ 20 := by rw [st.pm.length_eq]; exact iv.ok.len
  obtain ⟨qu, qu1⟩ := accw_q st.und
  by_cases hxy : x = y
  · have ep : pTake n x y body = pPut (pSent n) (newF n x y body) := by unfold pTake; rw [if_pos hxy]
    rw [ep] at hq
    have hxd : decide (x = y) = true := decide_eq_true hxy
    rw [hxd]
    obtain ⟨v', H3, a1, a2, a3, st3, fr3, o1, o2, z3⟩ := st2.addW hlu (newF n x y body)
    have lb3 := getO_lt a2
    have gw3 := a3 _ _ gw nfu
    have hwbl := getO_lt gw
    change builtinX Try.prog .append #[88, 88] #[vu, .slice (some ⟨H2.heap.size, 0, none⟩) 1 1] (pushObj H2 (.cells #[.int .i64 n.next, .int .i64 0, .int .i64 x, .int .i64 y, .int .i64 n.now, .string (sB body)] 92 (0, 0))) = _ at a1
    have a2 : getO H3 b = some (.cells #[.int .i64 n.hosts, .int .i64 n.now, vn, .int .i64 n.used, vl, vs, vd, vu, .int .i64 (n.sent + 1), .int .i64 n.arr, .int .i64 n.lost, .int .i64 n.dbl] 90 (0, 0)) := a2
    simp
    refine WP.drawP [(0, 7), (0, 8), (1, 7), (2, 7), (3, 7), (4, 7)] (by decide +kernel) (by decide +kernel) ?_
    simp [hn2, gw, buildSliceX, inOrder, catCells, szO, a1, a2, lb3, o1, o2, overL]
    refine ⟨(Checks.cons rfl rfl rfl ?_ (Checks.cons rfl rfl rfl ?_ (Checks.cons rfl rfl rfl ?_ (Checks.cons rfl rfl rfl ?_ (Checks.cons rfl rfl rfl ?_ (Checks.cons rfl rfl rfl ?_ .nil)))))), ?_⟩
    iterate 6
      · unfold reV
        simp [hn2, a2, get_push, nlb2, q_int, q_ptr, q_str, q_agg, q_cons, q_nil, q1_int, q1_bool, q1_str, qu]
    have hwbb : ¬ wb = b := nfb
    simp [gw3, hwbb]
    exact hq _ _ _ st3 (fr2.trans fr3)
  have hxd : decide (x = y) = false := decide_eq_false hxy
  rw [hxd]
  have hnl := fun H0 => st2.nums.len (H0 := H0) (t := 29) (.inl rfl)
  have hus := iv.us
  obtain ⟨us1, us2, us3⟩ := hus
  have et : pTake n x y body = if sid n x ≠ sid n y ∨ (pNum (pSent n)).1.tmod 100 < (lnk n x y).loss then pLost (pNum (pSent n)).2 else
      if ((pNum (pSent n)).1.tdiv 100).tmod 100 < (lnk n x y).dbl then pPut (pDbl (pPut (pNum (pSent n)).2 (late (newF n x y body) (lnk n x y) (pNum (pSent n)).1))) (again (late (newF n x y body) (lnk n x y) (pNum (pSent n)).1) (lnk n x y))
      else pPut (pNum (pSent n)).2 (late (newF n x y body) (lnk n x y) (pNum (pSent n)).1) := by
    unfold pTake; rw [if_neg hxy]
  rw [et] at hq
  have hk := pNum_fst (n := pSent n) iv.nums
  have hlb2 := lb2
  simp
  refine WP.draw0 (by decide +kernel) (by decide +kernel) ?_
  by_cases hu : n.used < n.nums.length
  have hnum : n.nums[n.used.toNat]? = some n.nums[n.used.toNat] := List.getElem?_eq_getElem (by omega)
  have hpn : pNum (pSent n) = (n.nums[n.used.toNat], { pSent n with used := n.used + 1 }) := by
    unfold pNum
    have : (pSent n).nums[(pSent n).used.toNat]? = some n.nums[n.used.toNat] := hnum
    rw [this]
    rfl
  rw [hpn] at hq hk
  obtain ⟨ra, fra, ca, hma, ia, hra, hva⟩ := st2.nums.at29 us1 hu
  have ia : indexAddrQ Try.prog 29 vn (.int .i64 n.used) = some (.pointer (some ⟨ra, n.used.toNat, none⟩)) := ia
  have hra : getO H2 ra = some (.cells (n.nums.map (Value.int .i64)).toArray 3 fra) := hra
  have hnl : ∀ H0, builtinX Try.prog .len #[29] #[vn] H0 = some (.value (.int .i64 n.nums.length), H0) := hnl
  have wu : IntKind.i64.wrap (n.used + 1) = n.used + 1 := wrap64 (by omega) (by omega)
  have st3 := st2.write { pSent n with used := n.used + 1 } rfl rfl rfl rfl rfl rfl
  have fr3 := fr2.trans (FrR.setB (V := [vn, vl, vs, vd, vu]) (b := b) (H := H2) (netR { pSent n with used := n.used + 1 } vn vl vs vd vu))
  have gw3 : getO (setO H2 b (netR { pSent n with used := n.used + 1 } vn vl vs vd vu)) wb = some (.cells #[.int .i64 n.next, .int .i64 0, .int .i64 x, .int .i64 y, .int .i64 n.now, .string (sB body)] 92 (0, 0)) := by rw [get_set, if_neg nfb]; exact gw
  simp [hn2, hnl, hu]
  refine WP.draw0 (by decide +kernel) (by decide +kernel) ?_
  simp [hn2, ia, hra, hnum, wu, hlb2, overL]
  change RSt (setO H2 b (.cells #[.int .i64 n.hosts, .int .i64 n.now, vn, .int .i64 (n.used + 1), vl, vs, vd, vu, .int .i64 (n.sent + 1), .int .i64 n.arr, .int .i64 n.lost, .int .i64 n.dbl] 90 (0, 0))) b _ m vn vl vs vd vu at st3
  change FrR H (setO H2 b (.cells #[.int .i64 n.hosts, .int .i64 n.now, vn, .int .i64 (n.used + 1), vl, vs, vd, vu, .int .i64 (n.sent + 1), .int .i64 n.arr, .int .i64 n.lost, .int .i64 n.dbl] 90 (0, 0))) b _ _ at fr3
  change getO (setO H2 b (.cells #[.int .i64 n.hosts, .int .i64 n.now, vn, .int .i64 (n.used + 1), vl, vs, vd, vu, .int .i64 (n.sent + 1), .int .i64 n.arr, .int .i64 n.lost, .int .i64 n.dbl] 90 (0, 0))) _ = _ at gw3
  generalize setO H2 b (.cells #[.int .i64 n.hosts, .int .i64 n.now, vn, .int .i64 (n.used + 1), vl, vs, vd, vu, .int .i64 (n.sent + 1), .int .i64 n.arr, .int .i64 n.lost, .int .i64 n.dbl] 90 (0, 0)) = H3 at *
  clear hnum hpn ia hra
  generalize n.nums[n.used.toNat] = k at *
  generalize n.used + 1 = u at *
  rotate_left
  have hnum : n.nums[n.used.toNat]? = none := by rw [List.getElem?_eq_none]; omega
  have hpn : pNum (pSent n) = (0, { pSent n with used := n.used }) := by
    unfold pNum
    have : (pSent n).nums[(pSent n).used.toNat]? = none := hnum
    rw [this]
    rfl
  rw [hpn] at hq hk
  have hnl : ∀ H0, builtinX Try.prog .len #[29] #[vn] H0 = some (.value (.int .i64 n.nums.length), H0) := hnl
  have st3 : RSt H2 b { pSent n with used := n.used } m vn vl vs vd vu := st2
  have fr3 := fr2
  have gw3 := gw
  simp [hn2, hnl, hu]
  generalize hH3 : H2 = H3 at st3 fr3 gw3 ⊢
  clear hnum hpn
  generalize hk0 : (0 : Int) = k at hq hk ⊢
  have hk : 0 ≤ k ∧ k < 2 ^ 63 := by omega
  generalize n.used = u at st3 hq ⊢
  rotate_left
  all_goals
    have hk : 0 ≤ k ∧ k < 2 ^ 63 := hk
    dsimp only at hq
    generalize hn2e : ({ pSent n with used := u } : NN) = n2 at st3 hq
    have eh : n2.hosts = n.hosts := by rw [← hn2e]; rfl
    have el : n2.lost = n.lost := by rw [← hn2e]; rfl
    have ed : n2.dbl = n.dbl := by rw [← hn2e]; rfl
    have ef : n2.fl = n.fl := by rw [← hn2e]; rfl
    have hh3 : hasB n2 x y := by unfold hasB; rw [eh]; exact hh
    have elk : lnk n2 x y = lnk n x y := by rw [← hn2e]; rfl
    have esx : sid n2 x = sid n x := by rw [← hn2e]; rfl
    have esy : sid n2 y = sid n y := by rw [← hn2e]; rfl
    obtain ⟨i0, i1, w1, w2⟩ := st3.hosts2 (by omega) (by omega) hh3
    obtain ⟨rl, frl, cl, hml, hil, hrl, hvl⟩ := st3.links.at87 i0 i1
    have hlt : (x * n2.hosts + y).toNat < m.links.length := by omega
    have hlk := st3.lk x y hh3
    rw [List.getElem?_eq_getElem hlt, elk] at hlk
    injection hlk with hlk
    have c1 := flatE_row encLk_size m.links hlt
    have c2 := flatE_le encLk_size m.links hlt
    rw [hlk] at c1
    have hvk := lnk_ok iv x y
    generalize lnk n x y = l at *
    have hn3 := st3.net
    have lb3 := getO_lt hn3
    have nlb3 : ¬ b = H3.heap.size := by omega
    have nrl : ¬ rl = H3.heap.size := by have := getO_lt hrl; omega
    refine WP.drawP [(0, 15), (1, 15), (2, 15), (3, 15), (4, 15), (5, 15), (6, 15), (7, 15), (8, 15), (9, 15), (10, 15), (11, 15), (12, 15), (13, 15)] (by decide +kernel) (by decide +kernel) ?_
    simp [hn3, w1, w2, hil, hrl, c1, c2, allocX, szO, overL, Value.cells]
    refine ⟨(Checks.cons rfl rfl rfl ?_ (Checks.cons rfl rfl rfl ?_ (Checks.cons rfl rfl rfl ?_ (Checks.cons rfl rfl rfl ?_ (Checks.cons rfl rfl rfl ?_ (Checks.cons rfl rfl rfl ?_ (Checks.cons rfl rfl rfl ?_ (Checks.cons rfl rfl rfl ?_ (Checks.cons rfl rfl rfl ?_ (Checks.cons rfl rfl rfl ?_ (Checks.cons rfl rfl rfl ?_ (Checks.cons rfl rfl rfl ?_ (Checks.cons rfl rfl rfl ?_ (Checks.cons rfl rfl rfl ?_ .nil)))))))))))))), ?_⟩
    iterate 14
      · unfold reV
        simp [hn3, w1, w2, hil, hrl, c1, c2, get_push, nlb3, nrl, q_int, q_ptr, q_str, q_agg, q_cons, q_nil, q1_int, q1_bool, q1_str, st3.links.q]
    have st4 := st3.push (.cells #[.int .i64 l.delay, .int .i64 l.jitter, .int .i64 l.loss, .int .i64 l.dbl] 32 (0, 0))
    have fr4 := fr3.trans (FrR.push (V := [vn, vl, vs, vd, vu]) (b := b) (H := H3) (.cells #[.int .i64 l.delay, .int .i64 l.jitter, .int .i64 l.loss, .int .i64 l.dbl] 32 (0, 0)))
    have gl4 : getO (pushObj H3 (.cells #[.int .i64 l.delay, .int .i64 l.jitter, .int .i64 l.loss, .int .i64 l.dbl] 32 (0, 0))) H3.heap.size = some (.cells #[.int .i64 l.delay, .int .i64 l.jitter, .int .i64 l.loss, .int .i64 l.dbl] 32 (0, 0)) := by rw [get_push, if_pos rfl]
    have lw3 := getO_lt gw3
    have gw4 : getO (pushObj H3 (.cells #[.int .i64 l.delay, .int .i64 l.jitter, .int .i64 l.loss, .int .i64 l.dbl] 32 (0, 0))) wb = some (.cells #[.int .i64 n.next, .int .i64 0, .int .i64 x, .int .i64 y, .int .i64 n.now, .string (sB body)] 92 (0, 0)) := by rw [get_push, if_neg (by omega)]; exact gw3
    have nwl : ¬ H3.heap.size = wb := by omega
    have nfl := st3.fresh (j := H3.heap.size) (Nat.le_refl _)
    have nfub : ApO vu H3.heap.size := nfl.2 vu (by simp)
    generalize pushObj H3 (.cells #[.int .i64 l.delay, .int .i64 l.jitter, .int .i64 l.loss, .int .i64 l.dbl] 32 (0, 0)) = H4 at *
    generalize hgb : H3.heap.size = gb at *
    have hn4 := st4.net
    have lb4 := getO_lt hn4
    have nwb : ¬ wb = b := nfb
    have ngb : ¬ gb = b := nfl.1
    obtain ⟨sa, fsa, csa, hmsa, isa, hrsa, hvsa⟩ := st4.sides.at29 hx.1 (by have := st4.sl; omega)
    obtain ⟨sb, fsb, csb, hmsb, isb, hrsb, hvsb⟩ := st4.sides.at29 hy.1 (by have := st4.sl; omega)
    have sdx := st4.sd x hx.1 (by omega)
    have sdy := st4.sd y hy.1 (by omega)
    rw [esx] at sdx
    rw [esy] at sdy
    obtain ⟨v1, v2, v3, v4, v5, v6, v7, v8⟩ : 0 ≤ l.delay ∧ l.delay ≤ 1000 ∧ 0 ≤ l.jitter ∧ l.jitter ≤ 1000 ∧ 0 ≤ l.loss ∧ l.loss ≤ 100 ∧ 0 ≤ l.dbl ∧ l.dbl ≤ 100 := of_decide_eq_true hvk
    have now1 := iv.now1
    have now0 := iv.now0
    have q1 : 0 ≤ k.tdiv 10000 := Int.tdiv_nonneg hk.1 (by decide)
    have q2 : k.tdiv 10000 ≤ k := by rw [Int.tdiv_eq_ediv_of_nonneg hk.1]; omega
    have q3 : 0 ≤ (k.tdiv 10000).tmod (l.jitter + 1) := Int.tmod_nonneg _ q1
    have q4 : (k.tdiv 10000).tmod (l.jitter + 1) < l.jitter + 1 := Int.tmod_lt_of_pos _ (by omega)
    have q5 : 0 ≤ k.tdiv 100 := Int.tdiv_nonneg hk.1 (by decide)
    have q6 : k.tdiv 100 ≤ k := by rw [Int.tdiv_eq_ediv_of_nonneg hk.1]; omega
    have hk2 := hk.2
    have w3 : IntKind.i64.wrap (l.jitter + 1) = l.jitter + 1 := wrap64 (by omega) (by omega)
    have w4 : IntKind.i64.wrap (k.tdiv 10000) = k.tdiv 10000 := wrap64 q1 (by omega)
    have w5 : IntKind.i64.wrap (k.tdiv 100) = k.tdiv 100 := wrap64 q5 (by omega)
    have hj0 : ¬ l.jitter + 1 = 0 := by omega
    have wl : IntKind.i64.wrap (n2.lost + 1) = n2.lost + 1 := wrap64 (by have := iv.lost; omega) (by have := iv.sum; have := iv.dbl1; have := iv.arr; omega)
    refine WP.draw0 (by decide +kernel) (by decide +kernel) ?_
    by_cases hlo1 : sid n x ≠ sid n y ∨ k.tmod 100 < l.loss
    · rw [if_pos hlo1] at hq
      have hcase : decide (sid n x ≠ sid n y) = true ∨ (decide (sid n x ≠ sid n y) = false ∧ decide (k.tmod 100 < l.loss) = true) := by
        by_cases h : sid n x = sid n y
        · exact .inr ⟨by simp [h], decide_eq_true (hlo1.resolve_left fun h' => h' h)⟩
        · exact .inl (by simp [h])
      have st5 := st4.write (pLost n2) rfl rfl rfl rfl rfl rfl
      have hfin := hq _ _ _ st5 (fr4.trans (FrR.setB (V := [vn, vl, vs, vd, vu]) _))
      rcases hcase with h | ⟨h, h2⟩
      · have h' : ¬ sid n x = sid n y := by simpa using h
        have hd' : decide (sid n x = sid n y) = false := decide_eq_false h'
        simp [hn4, isa, hrsa, sdx, isb, hrsb, sdy, hd', wl, lb4, overL, gw4, nwb]
        exact hfin
      · have h' : sid n x = sid n y := by simpa using h
        have hd' : decide (sid n x = sid n y) = true := decide_eq_true h'
        simp [hn4, isa, hrsa, sdx, isb, hrsb, sdy, hd', gl4, h2, wl, lb4, overL, gw4, nwb]
        exact hfin
    rw [if_neg hlo1] at hq
    have hse : sid n x = sid n y := Classical.byContradiction fun h => hlo1 (.inl h)
    have hnl2 : ¬ k.tmod 100 < l.loss := fun h => hlo1 (.inr h)
    have hd' : decide (sid n x = sid n y) = true := decide_eq_true hse
    have hdl := decide_eq_false hnl2
    have w6 : IntKind.i64.wrap (l.delay + (k.tdiv 10000).tmod (l.jitter + 1)) = l.delay + (k.tdiv 10000).tmod (l.jitter + 1) := wrap64 (by omega) (by omega)
    have w7 : IntKind.i64.wrap (n.now + (l.delay + (k.tdiv 10000).tmod (l.jitter + 1))) = n.now + (l.delay + (k.tdiv 10000).tmod (l.jitter + 1)) := wrap64 (by omega) (by omega)
    simp [hn4, isa, hrsa, sdx, isb, hrsb, sdy, hd', gl4, hdl]
    refine WP.draw0 (by decide +kernel) (by decide +kernel) ?_
    have lw4 := getO_lt gw4
    simp [gw4, gl4, w3, w4, hj0, w6, w7, lw4, overL]
    have napp : ∀ v ∈ [vn, vl, vs, vd, vu], ApO v wb := nf.2
    have hHw : H.heap.size ≤ wb := by omega
    have st5 := st4.setFresh (i := wb) (.cells (cellsW (late (newF n x y body) l k)) 92 (0, 0)) nwb napp
    have fr5 := fr4.setFresh (i := wb) (.cells (cellsW (late (newF n x y body) l k)) 92 (0, 0)) hHw
    have gw5 : getO (setO H4 wb (.cells (cellsW (late (newF n x y body) l k)) 92 (0, 0))) wb = some (.cells (cellsW (late (newF n x y body) l k)) 92 (0, 0)) := by rw [get_set, if_pos rfl, if_pos lw4]
    have gl5 : getO (setO H4 wb (.cells (cellsW (late (newF n x y body) l k)) 92 (0, 0))) gb = some (.cells #[.int .i64 l.delay, .int .i64 l.jitter, .int .i64 l.loss, .int .i64 l.dbl] 32 (0, 0)) := by rw [get_set, if_neg nwl]; exact gl4
    generalize hwf : late (newF n x y body) l k = wf at *
    have hwt : wf.time = n.now + (l.delay + (k.tdiv 10000).tmod (l.jitter + 1)) := by rw [← hwf]; rfl
    have hwi : wf.id = n.next ∧ wf.frm = x ∧ wf.to = y ∧ wf.body = body ∧ wf.twice = false := by rw [← hwf]; exact ⟨rfl, rfl, rfl, rfl, rfl⟩
    obtain ⟨wid, wfr, wto, wbd, wtw⟩ := hwi
    rw [← hwt]
    have ecell : (#[.int .i64 n.next, .int .i64 0, .int .i64 x, .int .i64 y, .int .i64 wf.time, .string (sB body)] : Array Value) = cellsW wf := by
      simp [cellsW, wid, wfr, wto, wbd, wtw]
    rw [← ecell] at st5 fr5 gw5 gl5
    generalize setO H4 wb (.cells #[.int .i64 n.next, .int .i64 0, .int .i64 x, .int .i64 y, .int .i64 wf.time, .string (sB body)] 92 (0, 0)) = H5 at *
    have hn5 := st5.net
    have lb5 := getO_lt hn5
    have nlb5 : ¬ b = H5.heap.size := by omega
    have lw5 := getO_lt gw5
    have lgl5 := getO_lt gl5
    obtain ⟨v', H6, a1, a2, a3, st6, fr6, o1, o2, z6⟩ := st5.addW hlu wf
    rw [← ecell] at a1
    have lb6 := getO_lt a2
    have gw6 := a3 _ _ gw5 nfu
    have gl6 := a3 _ _ gl5 nfub
    simp
    refine WP.drawP [(0, 7), (0, 8), (1, 7), (2, 7), (3, 7), (4, 7)] (by decide +kernel) (by decide +kernel) ?_
    simp [hn5, gw5, buildSliceX, inOrder, catCells, szO, a1, a2, lb6, o1, o2, overL]
    refine ⟨(Checks.cons rfl rfl rfl ?_ (Checks.cons rfl rfl rfl ?_ (Checks.cons rfl rfl rfl ?_ (Checks.cons rfl rfl rfl ?_ (Checks.cons rfl rfl rfl ?_ (Checks.cons rfl rfl rfl ?_ .nil)))))), ?_⟩
    iterate 6
      · unfold reV
        simp [hn5, a2, get_push, nlb5, q_int, q_ptr, q_str, q_agg, q_cons, q_nil, q1_int, q1_bool, q1_str, qu]
    have fr6' := fr5.trans fr6
    have gw7 : getO (setO H6 b (netR (pPut n2 wf) vn vl vs vd v')) wb = some (.cells #[.int .i64 n.next, .int .i64 0, .int .i64 x, .int .i64 y, .int .i64 wf.time, .string (sB body)] 92 (0, 0)) := by rw [get_set, if_neg nwb]; exact gw6
    have gl7 : getO (setO H6 b (netR (pPut n2 wf) vn vl vs vd v')) gb = some (.cells #[.int .i64 l.delay, .int .i64 l.jitter, .int .i64 l.loss, .int .i64 l.dbl] 32 (0, 0)) := by rw [get_set, if_neg ngb]; exact gl6
    have nap6 : ∀ v ∈ [vn, vl, vs, vd, v'], ApO v wb := fr6.fresh wb lw5 nwb napp
    have nap6l : ∀ v ∈ [vn, vl, vs, vd, v'], ApO v gb := fr6.fresh gb lgl5 ngb nfl.2
    change RSt (setO H6 b (.cells #[.int .i64 n2.hosts, .int .i64 n2.now, vn, .int .i64 n2.used, vl, vs, vd, v', .int .i64 n2.sent, .int .i64 n2.arr, .int .i64 n2.lost, .int .i64 n2.dbl] 90 (0, 0))) b _ _ vn vl vs vd v' at st6
    change FrR H (setO H6 b (.cells #[.int .i64 n2.hosts, .int .i64 n2.now, vn, .int .i64 n2.used, vl, vs, vd, v', .int .i64 n2.sent, .int .i64 n2.arr, .int .i64 n2.lost, .int .i64 n2.dbl] 90 (0, 0))) b _ _ at fr6'
    change getO (setO H6 b (.cells #[.int .i64 n2.hosts, .int .i64 n2.now, vn, .int .i64 n2.used, vl, vs, vd, v', .int .i64 n2.sent, .int .i64 n2.arr, .int .i64 n2.lost, .int .i64 n2.dbl] 90 (0, 0))) wb = _ at gw7
    change getO (setO H6 b (.cells #[.int .i64 n2.hosts, .int .i64 n2.now, vn, .int .i64 n2.used, vl, vs, vd, v', .int .i64 n2.sent, .int .i64 n2.arr, .int .i64 n2.lost, .int .i64 n2.dbl] 90 (0, 0))) gb = _ at gl7
    generalize setO H6 b (.cells #[.int .i64 n2.hosts, .int .i64 n2.now, vn, .int .i64 n2.used, vl, vs, vd, v', .int .i64 n2.sent, .int .i64 n2.arr, .int .i64 n2.lost, .int .i64 n2.dbl] 90 (0, 0)) = H7 at *
    by_cases hdb : (k.tdiv 100).tmod 100 < l.dbl
    rotate_left
    · rw [if_neg hdb] at hq
      have hdbd := decide_eq_false hdb
      simp [gl7, gl6, gw6, w5, hdbd, gw7, nwb, ngb, nwl]
      exact hq _ _ _ st6 fr6'
    rw [if_pos hdb] at hq
    have hdbd := decide_eq_true hdb
    have hn7 : getO H7 b = some (.cells #[.int .i64 n2.hosts, .int .i64 n2.now, vn, .int .i64 n2.used, vl, vs, vd, v', .int .i64 n2.sent, .int .i64 n2.arr, .int .i64 n2.lost, .int .i64 n2.dbl] 90 (0, 0)) := st6.net
    have lb7 := getO_lt hn7
    have lw7 := getO_lt gw7
    have wd : IntKind.i64.wrap (n2.dbl + 1) = n2.dbl + 1 := wrap64 (by have := iv.dbl0; omega) (by have := iv.dbl1; omega)
    have w8 : IntKind.i64.wrap (l.delay + 1) = l.delay + 1 := wrap64 (by omega) (by omega)
    have w9 : IntKind.i64.wrap (wf.time + (l.delay + 1)) = wf.time + (l.delay + 1) := wrap64 (by omega) (by omega)
    have st8 := st6.write (pDbl (pPut n2 wf)) rfl rfl rfl rfl rfl rfl
    have fr8 := fr6'.trans (FrR.setB (V := [vn, vl, vs, vd, v']) (b := b) (H := H7) (netR (pDbl (pPut n2 wf)) vn vl vs vd v'))
    have st9 := st8.setFresh (i := wb) (.cells #[.int .i64 n.next, .int .i64 1, .int .i64 x, .int .i64 y, .int .i64 (wf.time + (l.delay + 1)), .string (sB body)] 92 (0, 0)) nwb nap6
    have fr9 := fr8.setFresh (i := wb) (.cells #[.int .i64 n.next, .int .i64 1, .int .i64 x, .int .i64 y, .int .i64 (wf.time + (l.delay + 1)), .string (sB body)] 92 (0, 0)) hHw
    have gw9 : getO (setO (setO H7 b (netR (pDbl (pPut n2 wf)) vn vl vs vd v')) wb (.cells #[.int .i64 n.next, .int .i64 1, .int .i64 x, .int .i64 y, .int .i64 (wf.time + (l.delay + 1)), .string (sB body)] 92 (0, 0))) wb = some (.cells #[.int .i64 n.next, .int .i64 1, .int .i64 x, .int .i64 y, .int .i64 (wf.time + (l.delay + 1)), .string (sB body)] 92 (0, 0)) := by rw [get_set, if_pos rfl, if_pos (by simpa using lw7)]
    have eag : (#[.int .i64 n.next, .int .i64 1, .int .i64 x, .int .i64 y, .int .i64 (wf.time + (l.delay + 1)), .string (sB body)] : Array Value) = cellsW (again wf l) := by
      simp [cellsW, again, wid, wfr, wto, wbd]
    simp [gl7, gl6, gw6, w5, hdbd, hn7, lb7, wd, gw7, nwb, ngb, nwl, overL, lw7, w8, w9, set_set]
    change RSt (setO (setO H7 b (.cells #[.int .i64 n2.hosts, .int .i64 n2.now, vn, .int .i64 n2.used, vl, vs, vd, v', .int .i64 n2.sent, .int .i64 n2.arr, .int .i64 n2.lost, .int .i64 (n2.dbl + 1)] 90 (0, 0))) wb (.cells #[.int .i64 n.next, .int .i64 1, .int .i64 x, .int .i64 y, .int .i64 (wf.time + (l.delay + 1)), .string (sB body)] 92 (0, 0))) b _ _ vn vl vs vd v' at st9
    change FrR H (setO (setO H7 b (.cells #[.int .i64 n2.hosts, .int .i64 n2.now, vn, .int .i64 n2.used, vl, vs, vd, v', .int .i64 n2.sent, .int .i64 n2.arr, .int .i64 n2.lost, .int .i64 (n2.dbl + 1)] 90 (0, 0))) wb (.cells #[.int .i64 n.next, .int .i64 1, .int .i64 x, .int .i64 y, .int .i64 (wf.time + (l.delay + 1)), .string (sB body)] 92 (0, 0))) b _ _ at fr9
    change getO (setO (setO H7 b (.cells #[.int .i64 n2.hosts, .int .i64 n2.now, vn, .int .i64 n2.used, vl, vs, vd, v', .int .i64 n2.sent, .int .i64 n2.arr, .int .i64 n2.lost, .int .i64 (n2.dbl + 1)] 90 (0, 0))) wb (.cells #[.int .i64 n.next, .int .i64 1, .int .i64 x, .int .i64 y, .int .i64 (wf.time + (l.delay + 1)), .string (sB body)] 92 (0, 0))) wb = _ at gw9
    generalize setO (setO H7 b (.cells #[.int .i64 n2.hosts, .int .i64 n2.now, vn, .int .i64 n2.used, vl, vs, vd, v', .int .i64 n2.sent, .int .i64 n2.arr, .int .i64 n2.lost, .int .i64 (n2.dbl + 1)] 90 (0, 0))) wb (.cells #[.int .i64 n.next, .int .i64 1, .int .i64 x, .int .i64 y, .int .i64 (wf.time + (l.delay + 1)), .string (sB body)] 92 (0, 0)) = H9 at *
    have hn9 : getO H9 b = some (.cells #[.int .i64 n2.hosts, .int .i64 n2.now, vn, .int .i64 n2.used, vl, vs, vd, v', .int .i64 n2.sent, .int .i64 n2.arr, .int .i64 n2.lost, .int .i64 (n2.dbl + 1)] 90 (0, 0)) := st9.net
    have lb9 := getO_lt hn9
    have nlb9 : ¬ b = H9.heap.size := by omega
    have hml : (m.und ++ [wf]).length ≤ 2 ^ 20 := by rw [List.length_append, st.pm.length_eq]; simp; omega
    obtain ⟨qv, qv1⟩ := accw_q st9.und
    obtain ⟨v2, H10, b1, b2, b3, st10, fr10, p1, p2, z10⟩ := st9.addW hml (again wf l)
    rw [← eag] at b1
    have b2 : getO H10 b = some (.cells #[.int .i64 n2.hosts, .int .i64 n2.now, vn, .int .i64 n2.used, vl, vs, vd, v', .int .i64 n2.sent, .int .i64 n2.arr, .int .i64 n2.lost, .int .i64 (n2.dbl + 1)] 90 (0, 0)) := b2
    have lb10 := getO_lt b2
    have gw10 := b3 _ _ gw9 (nap6 v' (by simp))
    refine WP.drawP [(0, 7), (0, 8), (1, 7), (2, 7), (3, 7), (4, 7)] (by decide +kernel) (by decide +kernel) ?_
    simp [hn9, gw9, buildSliceX, inOrder, catCells, szO, b1, b2, lb10, p1, p2, overL]
    refine ⟨(Checks.cons rfl rfl rfl ?_ (Checks.cons rfl rfl rfl ?_ (Checks.cons rfl rfl rfl ?_ (Checks.cons rfl rfl rfl ?_ (Checks.cons rfl rfl rfl ?_ (Checks.cons rfl rfl rfl ?_ .nil)))))), ?_⟩
    iterate 6
      · unfold reV
        simp [hn9, b2, get_push, nlb9, q_int, q_ptr, q_str, q_agg, q_cons, q_nil, q1_int, q1_bool, q1_str, qv]
    simp [gw10, nwb]
    exact hq _ _ _ st10 (fr9.trans fr10)
end Go.Proofs.Ytmmmdmandocbhaa
end

section
set_option linter.unusedVariables false
set_option linter.unusedSimpArgs false
namespace Go.Proofs.Ytmmmdmandocbhaa
open Go Go.Proofs.Ytmmmdmandocbhaa.Den
/-- Both networks, apart. -/
structure BS (H : World) (b1 : Nat) (n : NN) (vn vf : Value) (b2 : Nat) (n' : NN) (m : RL) (rn rl rs rd ru : Value) : Prop where
  p : NSt H b1 n vn vf
  r : RSt H b2 n' m rn rl rs rd ru
  ne : b1 ≠ b2
  a1 : ∀ v ∈ [rn, rl, rs, rd, ru], ApO v b1
  an : ApO vn b2
  af : ApO vf b2
  a3 : ∀ v ∈ [rn, rl, rs, rd, ru], ApV vn v ∧ ApV vf v
section
variable {H H' : World} {b1 b2 : Nat} {n n' n1 : NN} {m m' : RL} {vn vf vf' rn rl rs rd ru rn' rl' rs' rd' ru' : Value}
theorem NSt.rows_lt (st : NSt H b1 n vn vf) : (∀ r o m c, vn = .slice (some ⟨r, o, none⟩) m c → r < H.heap.size) ∧ ∀ r o m c, vf = .slice (some ⟨r, o, none⟩) m c → r < H.heap.size := by
  constructor
  · intro r o m c e
    rcases st.nums with ⟨e2, _⟩ | ⟨r', c', fr, e2, hr⟩
    · rw [e2] at e; cases e
    · rw [e2] at e; cases e; exact getO_lt hr
  · intro r o m c e
    rcases st.fl with ⟨e2, _⟩ | ⟨r', pre, e2, hr⟩
    · rw [e2] at e; cases e
    · rw [e2] at e; cases e; exact getO_lt hr
theorem BS.afterP (h : BS H b1 n vn vf b2 n' m rn rl rs rd ru) (st : NSt H' b1 n1 vn vf') (fr : FrN H H' b1 vf vf') : BS H' b1 n1 vn vf' b2 n' m rn rl rs rd ru := by
  refine ⟨st, h.r.keepR (fun o ho => fr.keep _ _ ho h.ne.symm h.af) fun v hv r o k c e x hx => ?_, h.ne, h.a1, h.an, fr.fresh _ (getO_lt h.r.net) h.ne.symm h.af, fun v hv => ⟨(h.a3 v hv).1, ApV.symm fun r o k c e => ?_⟩⟩
  · exact fr.keep _ _ hx (fun e' => h.a1 v hv _ _ _ _ e e'.symm) ((h.a3 v hv).2.symm _ _ _ _ e)
  · exact fr.fresh r (h.r.row_lt hv e) (fun e' => h.a1 v hv _ _ _ _ e e'.symm) ((h.a3 v hv).2.symm _ _ _ _ e)
theorem BS.afterR (h : BS H b1 n vn vf b2 n' m rn rl rs rd ru) (st : RSt H' b2 n1 m' rn' rl' rs' rd' ru') (fr : FrR H H' b2 [rn, rl, rs, rd, ru] [rn', rl', rs', rd', ru']) : BS H' b1 n vn vf b2 n1 m' rn' rl' rs' rd' ru' := by
  obtain ⟨l1, l2⟩ := h.p.rows_lt
  refine ⟨h.p.keepR (fun o ho => fr.keep _ _ ho h.ne h.a1) (fun r o k c e x hx => fr.keep _ _ hx (fun e' => h.an _ _ _ _ e e'.symm) fun v hv => (h.a3 v hv).1 _ _ _ _ e) (fun r o k c e x hx => fr.keep _ _ hx (fun e' => h.af _ _ _ _ e e'.symm) fun v hv => (h.a3 v hv).2 _ _ _ _ e), st, h.ne, fr.fresh _ (getO_lt h.p.net) h.ne h.a1, h.an, h.af, fun v hv => ⟨fun r o k c e => ?_, fun r o k c e => ?_⟩⟩
  · exact fr.fresh r (l1 _ _ _ _ e) (fun e' => h.an _ _ _ _ e e'.symm) (fun v hv => (h.a3 v hv).1 _ _ _ _ e) v hv
  · exact fr.fresh r (l2 _ _ _ _ e) (fun e' => h.af _ _ _ _ e e'.symm) (fun v hv => (h.a3 v hv).2 _ _ _ _ e) v hv
theorem BS.keep (h : BS H b1 n vn vf b2 n' m rn rl rs rd ru) (hk : Keep H H') : BS H' b1 n vn vf b2 n' m rn rl rs rd ru :=
  { h with p := h.p.keep hk, r := h.r.keep hk }
theorem BS.push (h : BS H b1 n vn vf b2 n' m rn rl rs rd ru) (o : Obj) : BS (pushObj H o) b1 n vn vf b2 n' m rn rl rs rd ru :=
  { h with p := h.p.push o, r := h.r.push o }
end
/-- One round of the hosts' look. -/
structure SmI (b1 : Nat) (n : NN) (vn vf : Value) (b2 : Nat) (m : RL) (rn rl rs rd ru : Value) (d : Nat) (e : Env) (H : World) : Prop where
  e0 : lk e 0 = p0 b1
  e1 : lk e 1 = p0 b2
  e5 : lk e 5 = .int .i64 n.sent
  e6 : lk e 6 = .int .i64 n.arr
  e7 : lk e 7 = .int .i64 n.lost
  e8 : lk e 8 = .int .i64 n.dbl
  e9 : lk e 9 = .int .i64 n.sent
  e10 : lk e 10 = .int .i64 n.arr
  e11 : lk e 11 = .int .i64 n.lost
  e12 : lk e 12 = .int .i64 n.dbl
  ex : ∃ i : Int, -1 ≤ i ∧ i ≤ 17 ∧ (d : Int) = 17 - i ∧ lk e 13 = .int .i64 i
  bs : BS H b1 n vn vf b2 n m rn rl rs rd ru
set_option maxRecDepth 100000 in
theorem same38 {H : World} {b1 b2 : Nat} {n : NN} {m : RL} {vn vf rn rl rs rd ru : Value} (bs : BS H b1 n vn vf b2 n m rn rl rs rd ru) {T : Nat} (iv : Inv n T) {Q : Value → World → Prop}
    (hq : ∀ H', BS H' b1 n vn vf b2 n m rn rl rs rd ru → Q (.bool true) H') : FW X 38 #[p0 b1, p0 b2] H Q := by
  refine FW.walk (by simp [X, sp17_no]) Try.func38 Try.ntmps38 rfl (by simp) ?_
  simp
  refine counts12 bs.p ?_
  simp
  refine counts50 bs.r.net ?_
  simp
  refine CE.inv (SmI b1 n vn vf b2 m rn rl rs rd ru) ?_ (d := 18) ⟨by simp, by simp, by simp, by simp, by simp, by simp, by simp, by simp, by simp, by simp, ⟨-1, by omega, by omega, by omega, by simp⟩, bs⟩
  rintro d e H1 ⟨e0, e1, e5, e6, e7, e8, e9, e10, e11, e12, ⟨i, i0, i1, hd, e13⟩, bs1⟩
  by_cases hi : i < 17
  · have wi : IntKind.i64.wrap (i + 1) = i + 1 := wrap64' (by omega) (by omega)
    simp [e13, hi, e0]
    refine isup51 bs1.p iv.h2 i fun H2 st2 fr2 => ?_
    have bs2 := bs1.afterP st2 fr2
    have hr := fun Q => isup52 bs2.r i Q
    simp [e1, e13, hr, bX_bneq Try.underlying4, wi]
    exact ⟨d - 1, by omega, by simp [e0], by simp [e1], by simp [e5], by simp [e6], by simp [e7], by simp [e8], by simp [e9], by simp [e10], by simp [e11], by simp [e12], ⟨i + 1, by omega, by omega, by omega, by simp⟩, bs2⟩
  · have h1 := iv.sum
    have h2 := iv.dbl1
    have h3 := iv.sent
    have h4 := iv.id1
    have h5 := iv.T
    have h6 := iv.arr
    have h7 := iv.lost
    have h8 := iv.dbl0
    have w1 : IntKind.i64.wrap (n.sent + n.dbl) = n.sent + n.dbl := wrap64 (by omega) (by omega)
    have w2 : IntKind.i64.wrap (n.arr + n.lost) = n.arr + n.lost := wrap64 (by omega) (by omega)
    have w3 : IntKind.i64.wrap (n.arr + n.lost + n.fl.length) = n.sent + n.dbl := by rw [h1]; exact w1
    have hu := fun Q => under53 bs1.r Q
    have hus := fun Q => used55 bs1.r.net Q
    have hnw := fun Q => now56 bs1.r.net Q
    simp [e13, hi, e0, e1, e5, e6, e7, e8, e9, e10, e11, e12]
    refine under14 bs1.p ?_
    simp [e0, e1, hu]
    refine used54 bs1.p ?_
    simp [e0, e1, hus]
    refine now10 bs1.p ?_
    simp [e0, e1, e5, e6, e7, e8, hnw, w1, w2]
    refine under14 bs1.p ?_
    simp [e5, e6, e7, e8, w1, w2, w3]
    exact hq _ bs1
end Go.Proofs.Ytmmmdmandocbhaa
end
