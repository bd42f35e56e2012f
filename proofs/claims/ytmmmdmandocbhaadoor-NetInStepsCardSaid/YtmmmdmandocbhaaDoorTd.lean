/- Helpers of this claim: an evaluator over plain values and its laws. -/
import Derived.Test.YtmmmdmandocbhaaDoorTa
section
/- The walk of Text. -/
set_option linter.unusedVariables false
set_option linter.unusedSimpArgs false
namespace Go.Proofs.YtmmmdmandocbhaaDoor
open Go Go.Proofs.YtmmmdmandocbhaaDoor.Den
theorem eqFsLk (l : Lk) : ∃ fs, Tryd.prog.underlying 31 = some (.struct fs) ∧ eqFs Tryd.prog fs.toList #[.int .i64 l.delay, .int .i64 l.jitter, .int .i64 l.loss, .int .i64 l.dbl] #[.int .i64 1, .int .i64 0, .int .i64 0, .int .i64 0] = some (decide (l.delay = 1 ∧ l.jitter = 0 ∧ l.loss = 0 ∧ l.dbl = 0)) := by
  refine ⟨_, Tryd.underlying31, ?_⟩
  simp [eqFs, eqV]
  by_cases h1 : l.delay = 1 <;> by_cases h2 : l.jitter = 0 <;> by_cases h3 : l.loss = 0 <;> by_cases h4 : l.dbl = 0 <;> simp [h1, h2, h3, h4]
theorem neLk (l : Lk) (x y : Operand) (H : World) : binX Tryd.prog .neq 31 x y (.agg #[.int .i64 l.delay, .int .i64 l.jitter, .int .i64 l.loss, .int .i64 l.dbl]) (.agg #[.int .i64 1, .int .i64 0, .int .i64 0, .int .i64 0]) H = some (.value (.bool !(decide (l.delay = 1 ∧ l.jitter = 0 ∧ l.loss = 0 ∧ l.dbl = 0))), H) := by
  obtain ⟨fs, h1, h2⟩ := eqFsLk l
  exact (binV_struct h1 Tryd.stoodInHeld31 (by decide +kernel) (by simp [flat1]) (by simp [flat1]) h2).2
theorem fls_cells (pre l : List Fl) {i : Nat} (hi : i < l.length) : pre.length * 6 + i * 6 + 6 ≤ (flatE encF (pre ++ l)).length ∧ List.take 6 (List.drop (pre.length * 6 + i * 6) (flatE encF (pre ++ l))) = (encF l[i]).cells.toList := by
  have hlt : pre.length + i < (pre ++ l).length := by simp; omega
  have h1 := flatE_row encF_size (pre ++ l) hlt
  have h2 := flatE_le encF_size (pre ++ l) hlt
  rw [List.getElem_append_right (by omega)] at h1
  simp only [Nat.add_sub_cancel_left] at h1
  rw [show pre.length * 6 + i * 6 = (pre.length + i) * 6 by omega]
  refine ⟨h2, ?_⟩
  have := congrArg Array.toList h1
  simpa using this
theorem q_wr (c : Nat) : veq (.func (.func 22) #[] #[p0 c]) (.func (.func 22) #[] #[p0 c]) = true := by simp [veq, veq2, veqA, veq1]
set_option maxRecDepth 100000 in
theorem text8 {H : World} {b : Nat} {n : NN} {vn vf : Value} (st : NSt H b n vn vf) (tb : TB n) {Q : Value → World → Prop}
    (hq : ∀ H', Keep H H' → H.heap.size ≤ H'.heap.size → Q (.string (sB (tText n))) H') : FW X 8 #[p0 b] H Q := by
  refine FW.walk (by simp [X, sp17_no]) Tryd.func8 Tryd.ntmps8 rfl (by simp) ?_
  obtain ⟨h, hh⟩ : ∃ h : Nat, n.hosts = h := ⟨n.hosts.toNat, by have := tb.h0; omega⟩
  have h16 : h ≤ 16 := by have := tb.h16; omega
  have hht : n.hosts.toNat = h := by omega
  simp [szO, allocX]
  have tx1 : TxI H (pushObj H (.cells #[.pointer none, .slice none 0 0] 66 (0, 0))) H.heap.size (.slice none 0 0) [] := ⟨Keep.refl.push _, Bld.new (by rw [get_push, if_pos rfl]), fun j _ r n c e => by cases e⟩
  generalize hH1 : pushObj H (.cells #[.pointer none, .slice none 0 0] 66 (0, 0)) = H1 at *
  generalize hc : H.heap.size = c at *
  have hcl : H.heap.size ≤ c := by omega
  have hn1 := (st.keep tx1.keep).net
  refine WP.drawP [(0, 38)] (by decide +kernel) (by decide +kernel) ?_
  simp [hn1, buildSliceX, inOrder, catCells, szO]
  refine write22 (l := [n.hosts, n.now, n.next, n.sent, n.arr, n.lost, n.dbl, n.used]) (tx1.push _).bld (tx1.bld.rdNew [n.hosts, n.now, n.next, n.sent, n.arr, n.lost, n.dbl, n.used]) tb.head (by simp) (by simp) fun H2 v2 hb2 fr2 => ?_
  have tx2 := (tx1.push _).step hb2 fr2 hcl
  have hn2 := (st.keep tx2.keep).net
  simp
  refine ⟨Checks.cons rfl rfl rfl ?_ .nil, ?_⟩
  · unfold reV
    simp [q_wr]
  simp [hn2]
  have rdn : RdK H2 c v2 vn n.nums := by
    rcases st.nums with ⟨rfl, e⟩ | ⟨r, m, fr, rfl, hr⟩
    · rw [e]; exact RdK.nil
    · exact tx2.rdRow hcl hr
  have hnl := tb.numsLen
  refine write22 hb2 rdn tb.nums (by omega) (by have := wInts_len tb.head; simp at this ⊢; omega) fun H3 v3 hb3 fr3 => ?_
  have tx3 := tx2.step hb3 fr3 hcl
  simp
  refine writeByte25 hb3 10 (by have := wInts_len tb.head; have := wInts_len tb.nums; simp at *; omega) fun H4 v4 hb4 fr4 => ?_
  have tx4 := tx3.step hb4 fr4 hcl
  have hn4 := (st.keep tx4.keep).net
  have ehd : ([] ++ wInts [n.hosts, n.now, n.next, n.sent, n.arr, n.lost, n.dbl, n.used] ++ wInts n.nums ++ [10] : List UInt8) = headT n := by simp [headT]
  rw [ehd] at tx4
  clear hb2 fr2 hb3 fr3 hb4 fr4 tx1 tx2 tx3 hn1 hn2 rdn hH1
  simp [hn4, hh]
  have hhl := tb.headT_len
  refine CE.imp (Q := fun ex e ds H' => ex = .exit 0 ∧ ds = [] ∧ lk e 0 = p0 b ∧ lk e 3 = p0 c ∧ lk e 4 = .func (.func 22) #[] #[p0 c] ∧ ∃ v, TxI H H' c v (headT n ++ rowsT n h)) ?_ ?_
  · refine CE.range (m := h) (fun k e H' => lk e 0 = p0 b ∧ lk e 3 = p0 c ∧ lk e 4 = .func (.func 22) #[] #[p0 c] ∧ ∃ v, TxI H H' c v (headT n ++ rowsT n k)) ?_ (by omega) ?_ ?_ ?_
    · decide
    · simp [rowsT]
      exact ⟨_, tx4⟩
    · rintro k e H' hk q1 q2 ⟨e0, e3, e4, v5, tx5⟩
      have hn5 := (st.keep tx5.keep).net
      have wf := st.wf
      have k16 : (k : Int) < 16 := by omega
      have csd := cN_sid (vn := vn) (vf := vf) wf (a := (k : Int)) (by omega) k16 rfl
      have cdn := cN_dwn (vn := vn) (vf := vf) wf (a := (k : Int)) (by omega) k16 rfl
      simp at csd cdn
      have hsl := tb.sides (k : Nat)
      have hrl := tb.rowsT_len (m := k)
      have hfl := fB_len (dwn n (k : Nat))
      have hw1 := wInts_len (l := [sid n (k : Nat)]) (by intro x hx; simp at hx; subst hx; exact hsl)
      have hlt : (headT n ++ rowsT n k).length ≤ 300000 := by rw [List.length_append]; omega
      generalize hB : headT n ++ rowsT n k = B at *
      simp [q1, q2, e0, e3, e4, hn5, idxP, k16, csd, buildSliceX, inOrder, catCells, szO]
      refine write22 (l := [sid n (k : Nat)]) (tx5.push _).bld (tx5.bld.rdNew [sid n (k : Nat)]) (by intro x hx; simp at hx; subst hx; exact hsl) (by simp) (by simp; omega) fun H6 v6 hb6 fr6 => ?_
      have tx6 := (tx5.push _).step hb6 fr6 hcl
      have hn6 := (st.keep tx6.keep).net
      simp [q1, q2, e0, e3, e4, hn6, idxP, k16, cdn]
      refine fmt26 _ ?_
      simp [e3]
      refine writeString23 hb6 _ (by simp at *; omega) fun H7 v7 hb7 fr7 => ?_
      have tx7 := tx6.step hb7 fr7 hcl
      have hn7 := (st.keep tx7.keep).net
      simp [q1, q2, e0, e3, e4, hn7, hh]
      have hl7 : (B ++ wInts [sid n (k : Nat)] ++ fB (dwn n (k : Nat))).length ≤ 301000 := by simp at *; omega
      have eR : B ++ wInts [sid n (k : Nat)] ++ fB (dwn n (k : Nat)) ++ linksT n (k : Nat) h ++ [10] = headT n ++ rowsT n (k + 1) := by
        rw [← hB]
        simp [rowsT, rowT, List.range_succ, hht]
      generalize hB2 : B ++ wInts [sid n (k : Nat)] ++ fB (dwn n (k : Nat)) = B2 at *
      clear hb6 fr6 hb7 fr7 tx6 hn6 tx5 hn5 hB hB2
      refine CE.imp (Q := fun ex e ds H' => ex = .exit 2 ∧ ds = [] ∧ lk e 0 = p0 b ∧ lk e 3 = p0 c ∧ lk e 4 = .func (.func 22) #[] #[p0 c] ∧ lk e 62 = .int .i64 h ∧ lk e 63 = .int .i64 k ∧ ∃ v, TxI H H' c v (B2 ++ linksT n (k : Nat) h)) ?_ ?_
      · refine CE.range (m := h) (fun j e H' => lk e 0 = p0 b ∧ lk e 3 = p0 c ∧ lk e 4 = .func (.func 22) #[] #[p0 c] ∧ lk e 5 = .int .i64 k ∧ lk e 62 = .int .i64 h ∧ lk e 63 = .int .i64 k ∧ ∃ v, TxI H H' c v (B2 ++ linksT n (k : Nat) j)) ?_ (by omega) ?_ ?_ ?_
        · decide
        · simp [linksT, q1, q2, e0, e3, e4]
          exact ⟨_, tx7⟩
        · rintro j e H' hj r1 r2 ⟨e0, e3, e4, e5, e62, e63, v8, tx8⟩
          have hn8 := (st.keep tx8.keep).net
          have j16 : (j : Int) < 16 := by omega
          have cl := cN_lnk (vn := vn) (vf := vf) wf (a := (k : Int)) (c := (j : Int)) (by omega) k16 (by omega) j16 rfl
          simp at cl
          have hlo : 9 + k * 64 + j * 4 + 4 ≤ (cellsN n vn vf).length := cN_le wf (by omega)
          have hlk := tb.linksT_len (k : Nat) (m := j) (by omega)
          have hl8 : (B2 ++ linksT n (k : Nat) j).length ≤ 310000 := by rw [List.length_append]; omega
          have eL : B2 ++ linksT n (k : Nat) j ++ linkT n (k : Nat) (j : Nat) = B2 ++ linksT n (k : Nat) (j + 1) := by
            simp [linksT, List.range_succ]
          have hli := tb.link_i64 (k : Nat) (k := (j : Nat)) (by omega)
          have elt : linkT n (k : Nat) (j : Nat) = if (lnk n (k : Nat) (j : Nat)).delay = 1 ∧ (lnk n (k : Nat) (j : Nat)).jitter = 0 ∧ (lnk n (k : Nat) (j : Nat)).loss = 0 ∧ (lnk n (k : Nat) (j : Nat)).dbl = 0 then [] else wInts [-1, (j : Nat), (lnk n (k : Nat) (j : Nat)).delay, (lnk n (k : Nat) (j : Nat)).jitter, (lnk n (k : Nat) (j : Nat)).loss, (lnk n (k : Nat) (j : Nat)).dbl] := rfl
          simp [r1, r2, e0, e3, e4, e5, hn8, idxP, k16, j16, hlo, cl, Value.cells, allocX, szO, overL]
          have tx9 := tx8.push (.cells #[.int .i64 (lnk n (k : Nat) (j : Nat)).delay, .int .i64 (lnk n (k : Nat) (j : Nat)).jitter, .int .i64 (lnk n (k : Nat) (j : Nat)).loss, .int .i64 (lnk n (k : Nat) (j : Nat)).dbl] 31 (0, 0))
          have gl : getO (pushObj H' (.cells #[.int .i64 (lnk n (k : Nat) (j : Nat)).delay, .int .i64 (lnk n (k : Nat) (j : Nat)).jitter, .int .i64 (lnk n (k : Nat) (j : Nat)).loss, .int .i64 (lnk n (k : Nat) (j : Nat)).dbl] 31 (0, 0))) H'.heap.size = some (.cells #[.int .i64 (lnk n (k : Nat) (j : Nat)).delay, .int .i64 (lnk n (k : Nat) (j : Nat)).jitter, .int .i64 (lnk n (k : Nat) (j : Nat)).loss, .int .i64 (lnk n (k : Nat) (j : Nat)).dbl] 31 (0, 0)) := by rw [get_push, if_pos rfl]
          generalize lnk n (k : Nat) (j : Nat) = L at *
          obtain ⟨D, hD⟩ : ∃ D, D = decide (L.delay = 1 ∧ L.jitter = 0 ∧ L.loss = 0 ∧ L.dbl = 0) := ⟨_, rfl⟩
          have hne : ∀ x y H, binX Tryd.prog .neq 31 x y (.agg #[.int .i64 L.delay, .int .i64 L.jitter, .int .i64 L.loss, .int .i64 L.dbl]) (.agg #[.int .i64 1, .int .i64 0, .int .i64 0, .int .i64 0]) H = some (.value (.bool !D), H) := fun x y H => by rw [hD]; exact neLk L x y H
          generalize hHp : pushObj H' (.cells #[.int .i64 L.delay, .int .i64 L.jitter, .int .i64 L.loss, .int .i64 L.dbl] 31 (0, 0)) = Hp at *
          simp [buildQ, fillX, Value.cells, overL, hne]
          by_cases hd : L.delay = 1 ∧ L.jitter = 0 ∧ L.loss = 0 ∧ L.dbl = 0
          · rw [if_pos hd] at elt
            rw [elt, List.append_nil] at eL
            rw [eL] at tx9
            have hdt : D = true := by rw [hD]; exact decide_eq_true hd
            simp [hdt, r1, r2, e0, e3, e4, e5, e62, e63]
            exact ⟨_, tx9⟩
          · rw [if_neg hd] at elt
            have hdf : D = false := by rw [hD]; exact decide_eq_false hd
            simp [hdf, e4, gl, buildSliceX, inOrder, catCells, szO]
            refine write22 (l := [-1, (j : Nat), L.delay, L.jitter, L.loss, L.dbl]) (tx9.push _).bld (tx9.bld.rdNew [-1, (j : Nat), L.delay, L.jitter, L.loss, L.dbl]) hli (by simp) (by simp; omega) fun H10 v10 hb10 fr10 => ?_
            have tx10 := (tx9.push _).step hb10 fr10 hcl
            rw [← elt, eL] at tx10
            simp [r1, r2, e0, e3, e4, e5, e62, e63]
            exact ⟨_, tx10⟩
        · rintro e H' r1 r2 ⟨e0, e3, e4, e5, e62, e63, v8, tx8⟩
          exact ⟨rfl, rfl, e0, e3, e4, e62, e63, v8, tx8⟩
      · rintro ex e ds H' ⟨rfl, rfl, e0, e3, e4, e62, e63, v8, tx8⟩
        simp [e3]
        have hlk := tb.linksT_len (k : Nat) h16
        refine writeByte25 tx8.bld 10 (by simp at *; omega) fun H9 v9 hb9 fr9 => ?_
        have tx9 := tx8.step hb9 fr9 hcl
        rw [eR] at tx9
        simp [e0, e3, e4, e62, e63]
        exact ⟨_, tx9⟩
    · rintro e H' q1 q2 ⟨e0, e3, e4, v5, tx5⟩
      exact ⟨rfl, rfl, e0, e3, e4, v5, tx5⟩
  · rintro ex e ds H' ⟨rfl, rfl, e0, e3, e4, v5, tx5⟩
    have hn5 := (st.keep tx5.keep).net
    have hfl := st.fl
    have hcf := cN_fl (vn := vn) (vf := vf) st.wf
    have hlen := fun H0 => st.fl.len (H0 := H0)
    have hrl := tb.rowsT_len (m := h)
    have hlB : (headT n ++ rowsT n h).length ≤ 300000 := by rw [List.length_append]; omega
    have hN := tb.flLen
    have eT : headT n ++ rowsT n h ++ flsT n.fl = tText n := by simp [tText, hht]
    generalize hB : headT n ++ rowsT n h = B at *
    simp [e0, hn5, hcf, hlen]
    refine CE.imp (Q := fun ex e ds H' => ex = .exit 4 ∧ ds = [] ∧ lk e 3 = p0 c ∧ ∃ v, TxI H H' c v (B ++ flsT n.fl)) ?_ ?_
    · refine CE.range (m := n.fl.length) (fun k e H' => lk e 3 = p0 c ∧ lk e 4 = .func (.func 22) #[] #[p0 c] ∧ lk e 119 = vf ∧ ∃ v, TxI H H' c v (B ++ flsT (n.fl.take k))) ?_ (by omega) ?_ ?_ ?_
      · decide
      · simp [flsT, e3, e4]
        exact ⟨_, tx5⟩
      · rintro k e H' hk q1 q2 ⟨e3, e4, e119, v6, tx6⟩
        have hfk := List.getElem_mem hk
        have hi := tb.fl_i64 hfk
        have hb := (tb.fls _ hfk).2.2.2.2
        have hl6 := tb.flsT_len (l := n.fl.take k) fun f hf => List.mem_of_mem_take hf
        have hl7 : (B ++ flsT (n.fl.take k)).length ≤ 300000 + 65660 * 2 ^ 20 := by
          rw [List.length_append]; rw [List.length_take] at hl6; omega
        have eF : B ++ flsT (n.fl.take k) ++ flT n.fl[k] = B ++ flsT (n.fl.take (k + 1)) := by
          unfold flsT
          rw [List.take_succ_eq_append_getElem hk, List.flatMap_append, List.flatMap_cons, List.flatMap_nil, List.append_nil, List.append_assoc]
        rcases hfl with ⟨_, e⟩ | ⟨r, pre, hv, hr⟩
        · rw [e] at hk; simp at hk
        have hr6 := tx6.keep _ _ hr
        obtain ⟨hle, htd⟩ := fls_cells pre n.fl hk
        generalize n.fl[k] = f at *
        generalize hB2 : B ++ flsT (n.fl.take k) = B2 at *
        simp [q1, q2, e3, e4, e119, hv, idxS, hk, hr6, hle, htd, allocX, szO, overL, Value.cells]
        have tx7 := tx6.push (.cells (cellsF f) 76 (0, 0))
        have gf : getO (pushObj H' (.cells (cellsF f) 76 (0, 0))) H'.heap.size = some (.cells (cellsF f) 76 (0, 0)) := by rw [get_push, if_pos rfl]
        have nff := tx6.bld.fresh (i := H'.heap.size) (Nat.le_refl _)
        generalize hHp : pushObj H' (.cells (cellsF f) 76 (0, 0)) = Hp at *
        simp [gf, buildSliceX, inOrder, catCells, szO]
        have gfl := getO_lt gf
        have hlw := wInts_len hi
        simp at hlw
        refine write22 (l := [f.id, f.frm, f.to, f.time, (f.body.length : Int)]) (tx7.push _).bld (tx7.bld.rdNew [f.id, f.frm, f.to, f.time, (f.body.length : Int)]) hi (by simp) (by simp; omega) fun H8 v8 hb8 fr8 => ?_
        have tx8 := (tx7.push _).step hb8 fr8 hcl
        have gf8 : getO H8 H'.heap.size = some (.cells (cellsF f) 76 (0, 0)) := fr8.keep _ _ (by rw [get_push, if_neg (by omega)]; exact gf) nff.1 nff.2
        simp
        refine WP.drawP [(3, 0), (4, 0), (5, 0)] (by decide +kernel) (by decide +kernel) ?_
        simp [gf8, e3]
        refine fmt26 _ ?_
        have n10 : (ByteArray.mk #[10]) = sB [10] := rfl
        have hfb := fB_len f.twice
        have hs1 : (fB f.twice).length + f.body.length ≤ 9223372036854775807 := by omega
        have hs2 : (fB f.twice).length + f.body.length + 1 ≤ 9223372036854775807 := by omega
        simp [gf8, e3, n10, hs1, hs2]
        refine writeString23 tx8.bld (fB f.twice ++ (f.body ++ [10])) (by simp; omega) fun H9 v9 hb9 fr9 => ?_
        have gf9 : getO H9 H'.heap.size = some (.cells (cellsF f) 76 (0, 0)) := fr9.keep _ _ gf8 nff.1 (fr8.apart _ (by simp; omega) nff.2)
        have tx9 := tx8.step hb9 fr9 hcl
        have e9 : B2 ++ wInts [f.id, f.frm, f.to, f.time, (f.body.length : Int)] ++ (fB f.twice ++ (f.body ++ [10])) = B ++ flsT (n.fl.take (k + 1)) := by
          rw [← eF]; simp [flT]
        rw [e9] at tx9
        simp
        refine ⟨Checks.cons rfl rfl rfl ?_ (Checks.cons rfl rfl rfl ?_ (Checks.cons rfl rfl rfl ?_ .nil)), ?_⟩
        · unfold reV
          simp [gf8, q_ptr]
        · unfold reV
          simp [gf8, q_ptr]
        · unfold reV
          simp [gf8, q_str]
        simp [q1, q2, e3, e4, e119, hv]
        exact ⟨_, tx9⟩
      · rintro e H' q1 q2 ⟨e3, e4, e119, v5, tx5⟩
        rw [List.take_length] at tx5
        exact ⟨rfl, rfl, e3, v5, tx5⟩
    · rintro ex e ds H' ⟨rfl, rfl, e3, v5, tx5⟩
      rw [eT] at tx5
      have hlT : (tText n).length ≤ 2 ^ 40 := by
        rw [← eT, List.length_append]
        have := tb.flsT_len (l := n.fl) fun f hf => hf
        omega
      simp [e3]
      refine string27 tx5.bld (by omega) fun H9 hk9 hs9 => ?_
      simp
      have : H.heap.size < H'.heap.size := by have := tx5.bld.lt; omega
      exact hq _ (fun i o hi => hk9 _ _ (tx5.keep _ _ hi) (tx5.ap i (getO_lt hi))) (by omega)
end Go.Proofs.YtmmmdmandocbhaaDoor
end
