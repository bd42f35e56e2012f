/- Helpers of this claim: an evaluator over plain values and its laws. -/
import Derived.Test.YtmmmdmandocbhaaMi
section
set_option linter.unusedVariables false
set_option linter.unusedSimpArgs false
namespace Go.Proofs.Ytmmmdmandocbhaa
open Go Go.Proofs.Ytmmmdmandocbhaa.Den
theorem rptr_nil (b : Nat) {x y : Operand} {H : World} : binX Try.prog .eql 54 x y (p0 b) (.pointer none) H = some (.value (.bool false), H) := (bX_ptr_nil Try.underlying54).1
theorem rptr_nil2 {x y : Operand} {H : World} : binX Try.prog .eql 54 x y (.pointer none) (.pointer none) H = some (.value (.bool true), H) := bX_ptr_nil2 Try.underlying54
theorem q_sides (o : Option (List Int)) : veq (sidesV o) (sidesV o) = true := by
  cases o with
  | none => rfl
  | some l =>
    have h : ∀ l : List Int, veqA0 (l.map (Value.int .i64)) (l.map (Value.int .i64)) = true := fun l => by
      induction l with
      | nil => rfl
      | cons a l ih => simp [veqA0, veq0, ih]
    simp [sidesV, slV, vs, veq, veq2, veq1, h]
theorem oPass_len (n : NN) (t : Int) : (oPass n t).length ≤ n.fl.length := by
  unfold oPass
  split
  · exact Nat.le_trans (List.length_filter_le _ _) (by rw [List.length_take]; omega)
  · exact Nat.zero_le _
theorem oStep_len5 (n : NN) : (oStep n).length ≤ n.fl.length := by
  unfold oStep
  split
  · exact oPass_len n _
  · exact Nat.zero_le _
theorem eqLk (l : Lk) (x y : Operand) (H : World) : binX Try.prog .eql 32 x y (.agg #[.int .i64 l.delay, .int .i64 l.jitter, .int .i64 l.loss, .int .i64 l.dbl]) (.agg #[.int .i64 l.delay, .int .i64 l.jitter, .int .i64 l.loss, .int .i64 l.dbl]) H = some (.value (.bool true), H) := by
  have h : ∃ fs, Try.prog.underlying 32 = some (.struct fs) ∧ eqFs Try.prog fs.toList #[.int .i64 l.delay, .int .i64 l.jitter, .int .i64 l.loss, .int .i64 l.dbl] #[.int .i64 l.delay, .int .i64 l.jitter, .int .i64 l.loss, .int .i64 l.dbl] = some true := by
    refine ⟨_, Try.underlying32, ?_⟩
    simp [eqFs, eqV]
  obtain ⟨fs, h1, h2⟩ := h
  exact (binV_struct h1 Try.stoodInHeld32 (by decide +kernel) (by simp [flat1]) (by simp [flat1]) h2).1
structure PyI (o : Option (List Ac)) (k : Nat) (e : Env) (H : World) : Prop where
  e82 : lk e 82 = acts o
  ex : ∃ b1 n vn vf b2 m rn rl rs rd ru S, lk e 7 = p0 b1 ∧ lk e 9 = p0 b2 ∧ BS H b1 n vn vf b2 n m rn rl rs rd ru ∧ Inv n k ∧ Told n.fl n.next n.dbl S (fun _ => 0) 0
theorem told_pass {n : NN} {S : List (Int × Value)} {c : Int → Int} {tw : Int} (h : Told n.fl n.next n.dbl S c tw) (t : Int) : Told (pPass n t).fl (pPass n t).next (pPass n t).dbl S c tw := by
  unfold pPass
  split
  · exact h.sub (List.drop_sublist _ _)
  · exact h
theorem told_step' {n : NN} {S : List (Int × Value)} {c : Int → Int} {tw : Int} (h : Told n.fl n.next n.dbl S c tw) : Told (pStep n).fl (pStep n).next (pStep n).dbl S c tw := by
  unfold pStep
  split
  · exact told_pass h _
  · exact h
theorem accp_frR {H H' : World} {b : Nat} {V V' : List Value} {v : Value} {l : List Fl} (h : AccP H v l) (fr : FrR H H' b V V') (hb : ApO v b) (ha : ∀ w ∈ V, ApV v w) : AccP H' v l := by
  obtain ⟨h1, h2⟩ := h
  rcases h2 with ⟨rfl, h0⟩ | ⟨r, rfl, hp, hr⟩
  · exact ⟨h1, .inl ⟨rfl, h0⟩⟩
  · exact ⟨h1, .inr ⟨r, rfl, hp, fr.keep _ _ hr (fun e => hb _ _ _ _ rfl e.symm) fun w hw => ha w hw _ _ _ _ rfl⟩⟩
set_option maxHeartbeats 4000000 in
set_option maxRecDepth 100000 in
theorem plays5 {H : World} {hosts : Int} {o1 : Option (List Int)} {o : Option (List Ac)} (hl1 : (o1.getD []).length < 2 ^ 62) (hk1 : ∀ x ∈ o1.getD [], I64 x) (hl : (o.getD []).length < 2 ^ 62) {Q : Value → World → Prop} (hq : ∀ H', Q (.bool true) H') : FW X 5 #[.int .i64 hosts, sidesV o1, acts o] H Q := by
  have rd : Rd H (sidesV o1) (o1.getD []) := Rd.slV
  have hvlen := fun H0 => rd.len H0
  refine FW.walk (by simp [X, sp17_no]) Try.func5 Try.ntmps5 rfl (by simp) ?_
  cases hli : lightW (o.getD []) with
  | false =>
    simp [light6 o hl, hli, awake7]
    exact hq _
  | true =>
  by_cases h10010 : (10010 : Int) < (o1.getD []).length
  · have h300 : (300 : Int) < (o1.getD []).length := by omega
    have h10000 : ¬ ((o1.getD []).length : Int) ≤ 10000 := by omega
    simp [light6 o hl, hli, hvlen, h300, h10000, h10010, awake7]
    exact hq _
  by_cases h300 : (300 : Int) < (o1.getD []).length ∧ ((o1.getD []).length : Int) ≤ 10000
  · obtain ⟨h3, h4⟩ := h300
    simp [light6 o hl, hli, hvlen, h3, h4, awake7]
    exact hq _
  have hnums : (o1.getD []).length ≤ 10010 := by omega
  have hguard : ∀ K : Prop, K → K := fun _ h => h
  have hmid : (300 : Int) < (o1.getD []).length → ¬ ((o1.getD []).length : Int) ≤ 10000 := fun h1 h2 => h300 ⟨h1, h2⟩
  by_cases h3 : (300 : Int) < (o1.getD []).length
  have h4 := hmid h3
  simp [light6 o hl, hli, hvlen, h3, h4, h10010]
  rotate_left
  simp [light6 o hl, hli, hvlen, h3, h10010]
  rotate_left
  all_goals
    refine new8v o1 hl1 hosts (fun H1 b1 vn hE hb st k1 z1 => ?_) (fun hE => ?_)
    rotate_left
    · simp
      refine new18 o1 hl1 hosts (fun H2 b2 m rn rl rs rd' hE' _ _ _ _ _ => absurd hE' hE) (fun _ => ?_)
      simp [rptr_nil2, bX_bneq Try.underlying4, hE, awake7]
      exact hq _
    have hc : 1 ≤ hosts ∧ hosts ≤ 16 ∧ ∀ x ∈ o1.getD [], 0 ≤ x := by
      unfold eNew at hE
      split at hE
      · cases hE
      · rename_i h
        simp only [not_or, List.any_eq_true, not_exists, not_and, decide_eq_true_eq] at h
        exact ⟨by omega, by omega, fun x hx => by have := h.2.2 x hx; omega⟩
    have iv : Inv (netZ hosts (o1.getD []) ⟨1, 0, 0, 0⟩) 0 := inv_new hc.1 hc.2.1 hnums fun x hx => by
      have := hk1 x hx
      have := hc.2.2 x hx
      unfold I64 at *
      exact ⟨by omega, by omega⟩
    have t0 := told_new hosts (o1.getD [])
    simp
    refine new18 o1 hl1 hosts (fun H2 b2 m rn rl rs rd' _ hb2 st2 k2 z2 hf2 => ?_) (fun h => absurd hE h)
    have hb1 := getO_lt st.net
    have bs : BS H2 b1 (netZ hosts (o1.getD []) ⟨1, 0, 0, 0⟩) vn (.slice none 0 0) b2 (netZ hosts (o1.getD []) ⟨1, 0, 0, 0⟩) m rn rl rs rd' (.slice none 0 0) :=
      ⟨st.keep k2, st2, by omega, fun v hv => hf2 v hv _ hb1, (st.fresh hb2).2.1, .nil, fun v hv => ⟨fun r o k c e => hf2 v hv r (st.rows_lt.1 _ _ _ _ e), .nil_l⟩⟩
    generalize netZ hosts (o1.getD []) ⟨1, 0, 0, 0⟩ = n0 at *
    simp [rptr_nil, bX_bneq Try.underlying4]
    have hli' := hli
    simp [lightW] at hli'
    obtain ⟨hheavy, h150⟩ := hli'
    refine CE.range (m := (o.getD []).length) (fun k e H' => PyI o k e H') ?_ (by omega) ?_ ?_ ?_
    · decide
    · exact ⟨by simp, by simp [getD_mapA], by simp, b1, n0, vn, .slice none 0 0, b2, m, rn, rl, rs, rd', .slice none 0 0, [], by simp, by simp, bs, iv, t0⟩
    · intro k e H' hk q1 q2 hI
      obtain ⟨e82, b1, n, vn, vf, b2, m, rn, rl, rs, rd, ru, S, e7, e9, bs, iv, td⟩ := hI
      generalize hx : (o.getD [])[k] = x
      have hheavyx := hheavy x (hx ▸ List.getElem_mem hk)
      have hsides : (x.sides.getD []).length < 2 ^ 62 := by
        simp [heavy] at hheavyx
        have := hheavyx.2
        omega
      have hk15 : k < 100000 := by omega
      have wk : IntKind.i64.wrap ((k : Int) + 1) = ((k + 1 : Nat) : Int) := by rw [wrap64 (by omega) (by omega)]; omega
      have ga : getO (pushObj H' (.cells (cellsA x) 34 (0, 0))) H'.heap.size = some (.cells (cellsA x) 34 (0, 0)) := by rw [get_push, if_pos rfl]
      have nP := bs.p.fresh (i := H'.heap.size) (Nat.le_refl _)
      have nR := bs.r.fresh (j := H'.heap.size) (Nat.le_refl _)
      have bs1 := bs.push (.cells (cellsA x) 34 (0, 0))
      simp [q1, q2, e82, getD_mapA, idxV, hk, hx, allocX, szO, overL]
      change BS (pushObj H' (.cells #[.int .i64 x.kind, .int .i64 x.frm, .int .i64 x.to, .int .i64 x.time, .int .i64 x.lk.delay, .int .i64 x.lk.jitter, .int .i64 x.lk.loss, .int .i64 x.lk.dbl, .string (sB x.body), sidesV x.sides] 34 (0, 0))) b1 n vn vf b2 n m rn rl rs rd ru at bs1
      change getO (pushObj H' (.cells #[.int .i64 x.kind, .int .i64 x.frm, .int .i64 x.to, .int .i64 x.time, .int .i64 x.lk.delay, .int .i64 x.lk.jitter, .int .i64 x.lk.loss, .int .i64 x.lk.dbl, .string (sB x.body), sidesV x.sides] 34 (0, 0))) H'.heap.size = some (.cells #[.int .i64 x.kind, .int .i64 x.frm, .int .i64 x.to, .int .i64 x.time, .int .i64 x.lk.delay, .int .i64 x.lk.jitter, .int .i64 x.lk.loss, .int .i64 x.lk.dbl, .string (sB x.body), sidesV x.sides] 34 (0, 0)) at ga
      generalize hHa : pushObj H' (.cells #[.int .i64 x.kind, .int .i64 x.frm, .int .i64 x.to, .int .i64 x.time, .int .i64 x.lk.delay, .int .i64 x.lk.jitter, .int .i64 x.lk.loss, .int .i64 x.lk.dbl, .string (sB x.body), sidesV x.sides] 34 (0, 0)) = Ha at *
      generalize hax : H'.heap.size = ax at *
      have h1 := iv.h1
      have h2 := iv.h2
      have gaP : ∀ {H3 : World} {vf3 : Value}, FrN Ha H3 b1 vf vf3 → getO H3 ax = some (.cells #[.int .i64 x.kind, .int .i64 x.frm, .int .i64 x.to, .int .i64 x.time, .int .i64 x.lk.delay, .int .i64 x.lk.jitter, .int .i64 x.lk.loss, .int .i64 x.lk.dbl, .string (sB x.body), sidesV x.sides] 34 (0, 0)) := fun fr => fr.keep _ _ ga nP.1 nP.2.2
      have gaR : ∀ {H3 : World} {V' : List Value}, FrR Ha H3 b2 [rn, rl, rs, rd, ru] V' → getO H3 ax = some (.cells #[.int .i64 x.kind, .int .i64 x.frm, .int .i64 x.to, .int .i64 x.time, .int .i64 x.lk.delay, .int .i64 x.lk.jitter, .int .i64 x.lk.loss, .int .i64 x.lk.dbl, .string (sB x.body), sidesV x.sides] 34 (0, 0)) := fun fr => fr.keep _ _ ga nR.1 nR.2
      refine WP.drawP [(3, 0), (4, 0)] (by decide +kernel) (by decide +kernel) ?_
      simp [ga]
      try rw [valid19]
      simp [ga]
      try rw [valid20]
      simp [bX_bneq Try.underlying4]
      refine ⟨Checks.cons rfl rfl rfl ?_ (Checks.cons rfl rfl rfl ?_ .nil), ?_⟩
      iterate 2
        · unfold reV
          simp [ga, e7, e9, q_int, q_ptr, q_str, q_agg, q_cons, q_nil, q1_int, q1_bool, q1_str, q_sides]
      by_cases k1 : x.kind = 1
      · have d1 := decide_eq_true k1
        simp [e7, ga, d1]
        refine WP.drawP [(8, 0), (9, 0), (10, 0), (11, 0), (12, 0), (13, 0), (14, 0)] (by decide +kernel) (by decide +kernel) ?_
        simp [e7, ga]
        refine set21 bs1.p h2 x.frm x.to x.lk fun H3 st3 fr3 => ?_
        have bs2 := bs1.afterP st3 fr3
        have ga3 := gaP fr3
        simp [e9, ga3]
        refine set22 bs2.r bs1.p.wf.links h1 h2 x.frm x.to x.lk fun H4 m4 st4 fr4 => ?_
        have bs3 := bs2.afterR st4 fr4
        simp
        refine ⟨Checks.cons rfl rfl rfl ?_ (Checks.cons rfl rfl rfl ?_ (Checks.cons rfl rfl rfl ?_ (Checks.cons rfl rfl rfl ?_ (Checks.cons rfl rfl rfl ?_ (Checks.cons rfl rfl rfl ?_ (Checks.cons rfl rfl rfl ?_ .nil)))))), ?_⟩
        iterate 7
          · unfold reV
            simp [ga, ga3, e7, e9, q_int, q_ptr, q_str, q_agg, q_cons, q_nil, q1_int, q1_bool, q1_str, q_sides]
        have iv3 : Inv (pSet n x.frm x.to x.lk) (k + 1) := inv_mono (inv_set iv x.frm x.to x.lk) hk15
        try simp [e7, e9]
        refine same38 bs3 iv3 fun H5 bs5 => ?_
        simp [q1, q2, wk]
        exact ⟨by simp [e82], b1, pSet n x.frm x.to x.lk, vn, _, b2, _, _, _, _, _, _, S, by simp [e7], by simp [e9], bs5, iv3, (by unfold pSet; split <;> exact td)⟩
      have d1 := decide_eq_false k1
      by_cases k2 : x.kind = 2
      · have d2 := decide_eq_true k2
        simp [e7, ga, d1, d2]
        refine link15 bs1.p h2 x.frm x.to fun H3 st3 fr3 => ?_
        have bs2 := bs1.afterP st3 fr3
        have ga3 := gaP fr3
        have lax := getO_lt ga3
        have hne : ¬ ax = H3.heap.size := by omega
        have gl4 : getO (pushObj H3 (.cells (encLk (rLink n x.frm x.to)).cells 32 (0, 0))) H3.heap.size = some (.cells (encLk (rLink n x.frm x.to)).cells 32 (0, 0)) := by rw [get_push, if_pos rfl]
        have nR3 := bs2.r.fresh (j := H3.heap.size) (Nat.le_refl _)
        have bs4 := bs2.push (.cells (encLk (rLink n x.frm x.to)).cells 32 (0, 0))
        simp [allocX, szO, overL, e9, ga3, hne]
        change BS (pushObj H3 (.cells #[.int .i64 (rLink n x.frm x.to).delay, .int .i64 (rLink n x.frm x.to).jitter, .int .i64 (rLink n x.frm x.to).loss, .int .i64 (rLink n x.frm x.to).dbl] 32 (0, 0))) _ _ _ _ _ _ _ _ _ _ _ _ at bs4
        change getO (pushObj H3 (.cells #[.int .i64 (rLink n x.frm x.to).delay, .int .i64 (rLink n x.frm x.to).jitter, .int .i64 (rLink n x.frm x.to).loss, .int .i64 (rLink n x.frm x.to).dbl] 32 (0, 0))) _ = some (.cells #[.int .i64 (rLink n x.frm x.to).delay, .int .i64 (rLink n x.frm x.to).jitter, .int .i64 (rLink n x.frm x.to).loss, .int .i64 (rLink n x.frm x.to).dbl] 32 (0, 0)) at gl4
        generalize hH4 : pushObj H3 (.cells #[.int .i64 (rLink n x.frm x.to).delay, .int .i64 (rLink n x.frm x.to).jitter, .int .i64 (rLink n x.frm x.to).loss, .int .i64 (rLink n x.frm x.to).dbl] 32 (0, 0)) = H4 at *
        generalize hlx : H3.heap.size = lx at *
        refine link23 bs4.r h1 h2 x.frm x.to fun H5 st5 fr5 => ?_
        have bs5 := bs4.afterR st5 fr5
        have gl5 := fr5.keep _ _ gl4 nR3.1 nR3.2
        have llx := getO_lt gl5
        have hne2 : ¬ lx = H5.heap.size := by omega
        have bs3 := bs5.push (.cells (encLk (rLink n x.frm x.to)).cells 32 (0, 0))
        simp [allocX, szO, overL, gl5, hne2, eqLk, e7, e9]
        change BS (pushObj H5 (.cells #[.int .i64 (rLink n x.frm x.to).delay, .int .i64 (rLink n x.frm x.to).jitter, .int .i64 (rLink n x.frm x.to).loss, .int .i64 (rLink n x.frm x.to).dbl] 32 (0, 0))) _ _ _ _ _ _ _ _ _ _ _ _ at bs3
        generalize hH6 : pushObj H5 (.cells #[.int .i64 (rLink n x.frm x.to).delay, .int .i64 (rLink n x.frm x.to).jitter, .int .i64 (rLink n x.frm x.to).loss, .int .i64 (rLink n x.frm x.to).dbl] 32 (0, 0)) = H6 at *
        have iv3 : Inv (n) (k + 1) := inv_mono iv hk15
        try simp [e7, e9]
        refine same38 bs3 iv3 fun H5 bs5 => ?_
        simp [q1, q2, wk]
        exact ⟨by simp [e82], b1, n, vn, _, b2, _, _, _, _, _, _, S, by simp [e7], by simp [e9], bs5, iv3, td⟩
      have d2 := decide_eq_false k2
      by_cases k9 : x.kind = 9
      · have d9 := decide_eq_true k9
        simp [e7, ga, d1, d2, d9]
        refine next24 bs1.p ?_
        simp [e9]
        refine next25 bs1.r iv td.pw fun H4 st4 k4 z4 => ?_
        have bs3 := bs1.keep k4
        simp
        have iv3 : Inv (n) (k + 1) := inv_mono iv hk15
        try simp [e7, e9]
        refine same38 bs3 iv3 fun H5 bs5 => ?_
        simp [q1, q2, wk]
        exact ⟨by simp [e82], b1, n, vn, _, b2, _, _, _, _, _, _, S, by simp [e7], by simp [e9], bs5, iv3, td⟩
      have d9 := decide_eq_false k9
      by_cases k10 : x.kind = 10
      · have d10 := decide_eq_true k10
        simp [e7, ga, d1, d2, d9, d10]
        refine pass9 bs1.p iv x.time fun H3 vf3 vo st3 fr3 ac3 ap3 ap3f => ?_
        have bs2 := bs1.afterP st3 fr3
        have ga3 := gaP fr3
        have hol : (oPass n x.time).length < 2 ^ 62 := by
          have h1 := oPass_len n x.time
          have := iv.ok.len
          omega
        simp [e9, ga3]
        refine pass26 bs2.r iv td.pw x.time fun H4 m4 ru4 vo4 st4 fr4 ac4 ap4 ap4u => ?_
        have bs3 := bs2.afterR st4 fr4
        have hap : ∀ w ∈ [rn, rl, rs, rd, ru], ApV vo w := fun w hw => ApV.symm fun r off kk cc he => ap3 r (bs1.r.row_lt hw he)
        have ac5 := accp_frR ac3 fr4 (ap3 b2 (getO_lt bs1.r.net)) hap
        simp
        refine same13 ac5 ac4 rfl hol ?_
        simp
        have iv3 : Inv (pPass n x.time) (k + 1) := inv_mono (inv_pass iv x.time) hk15
        try simp [e7, e9]
        refine same38 bs3 iv3 fun H5 bs5 => ?_
        simp [q1, q2, wk]
        exact ⟨by simp [e82], b1, pPass n x.time, vn, _, b2, _, _, _, _, _, _, S, by simp [e7], by simp [e9], bs5, iv3, told_pass td x.time⟩
      have d10 := decide_eq_false k10
      by_cases k11 : x.kind = 11
      · have d11 := decide_eq_true k11
        simp [e7, ga, d1, d2, d9, d10, d11]
        refine step17 bs1.p iv fun H3 vf3 vo st3 fr3 ac3 ap3 => ?_
        have bs2 := bs1.afterP st3 fr3
        have ga3 := gaP fr3
        have hol : (oStep n).length < 2 ^ 62 := by
          have h1 := oStep_len5 n
          have := iv.ok.len
          omega
        simp [e9, ga3]
        refine step27 bs2.r iv td.pw fun H4 m4 ru4 vo4 st4 fr4 ac4 ap4 ap4u => ?_
        have bs3 := bs2.afterR st4 fr4
        have hap : ∀ w ∈ [rn, rl, rs, rd, ru], ApV vo w := fun w hw => ApV.symm fun r off kk cc he => ap3 r (bs1.r.row_lt hw he)
        have ac5 := accp_frR ac3 fr4 (ap3 b2 (getO_lt bs1.r.net)) hap
        simp
        refine same13 ac5 ac4 rfl hol ?_
        simp
        have iv3 : Inv (pStep n) (k + 1) := inv_mono (inv_step iv) hk15
        try simp [e7, e9]
        refine same38 bs3 iv3 fun H5 bs5 => ?_
        simp [q1, q2, wk]
        exact ⟨by simp [e82], b1, pStep n, vn, _, b2, _, _, _, _, _, _, S, by simp [e7], by simp [e9], bs5, iv3, told_step' td⟩
      have d11 := decide_eq_false k11
      by_cases k12 : x.kind = 12
      · have d12 := decide_eq_true k12
        simp [e7, ga, d1, d2, d9, d10, d11, d12]
        refine WP.drawP [(4, 0), (5, 0), (6, 0)] (by decide +kernel) (by decide +kernel) ?_
        simp [e7, ga]
        refine part28 bs1.p h1 h2 x.sides hsides fun H3 st3 fr3 => ?_
        have bs2 := bs1.afterP st3 fr3
        have ga3 := gaP fr3
        simp [e9, ga3]
        refine part29 bs2.r h1 h2 x.sides hsides fun H4 m4 rs4 st4 fr4 => ?_
        have bs3 := bs2.afterR st4 fr4
        simp
        refine ⟨Checks.cons rfl rfl rfl ?_ (Checks.cons rfl rfl rfl ?_ (Checks.cons rfl rfl rfl ?_ .nil)), ?_⟩
        iterate 3
          · unfold reV
            simp [ga, ga3, e7, e9, q_int, q_ptr, q_str, q_agg, q_cons, q_nil, q1_int, q1_bool, q1_str, q_sides]
        have iv3 : Inv (pPart n (x.sides.getD [])) (k + 1) := inv_mono (inv_part iv _) hk15
        try simp [e7, e9]
        refine same38 bs3 iv3 fun H5 bs5 => ?_
        simp [q1, q2, wk]
        exact ⟨by simp [e82], b1, pPart n (x.sides.getD []), vn, _, b2, _, _, _, _, _, _, S, by simp [e7], by simp [e9], bs5, iv3, (by unfold pPart; split <;> exact td)⟩
      have d12 := decide_eq_false k12
      by_cases k13 : x.kind = 13
      · have d13 := decide_eq_true k13
        simp [e7, ga, d1, d2, d9, d10, d11, d12, d13]
        refine heal30 bs1.p fun H3 st3 fr3 => ?_
        have bs2 := bs1.afterP st3 fr3
        have ga3 := gaP fr3
        simp [e9, ga3]
        refine heal31 bs2.r h1 h2 fun H4 m4 rs4 st4 fr4 => ?_
        have bs3 := bs2.afterR st4 fr4
        simp
        have iv3 : Inv (pHeal n) (k + 1) := inv_mono (inv_heal iv) hk15
        try simp [e7, e9]
        refine same38 bs3 iv3 fun H5 bs5 => ?_
        simp [q1, q2, wk]
        exact ⟨by simp [e82], b1, pHeal n, vn, _, b2, _, _, _, _, _, _, S, by simp [e7], by simp [e9], bs5, iv3, td⟩
      have d13 := decide_eq_false k13
      by_cases k14 : x.kind = 14
      · have d14 := decide_eq_true k14
        simp [e7, ga, d1, d2, d9, d10, d11, d12, d13, d14]
        refine WP.drawP [(4, 0), (5, 0), (6, 0)] (by decide +kernel) (by decide +kernel) ?_
        simp [e7, ga]
        refine down32 bs1.p h2 x.frm fun H3 st3 fr3 => ?_
        have bs2 := bs1.afterP st3 fr3
        have ga3 := gaP fr3
        simp [e9, ga3]
        refine turn33 bs2.r bs1.p.wf.down h2 x.frm true fun H4 m4 st4 fr4 => ?_
        have bs3 := bs2.afterR st4 fr4
        simp
        refine ⟨Checks.cons rfl rfl rfl ?_ (Checks.cons rfl rfl rfl ?_ (Checks.cons rfl rfl rfl ?_ .nil)), ?_⟩
        iterate 3
          · unfold reV
            simp [ga, ga3, e7, e9, q_int, q_ptr, q_str, q_agg, q_cons, q_nil, q1_int, q1_bool, q1_str, q_sides]
        have iv3 : Inv (pTurn n x.frm true) (k + 1) := inv_mono (inv_turn iv x.frm true) hk15
        try simp [e7, e9]
        refine same38 bs3 iv3 fun H5 bs5 => ?_
        simp [q1, q2, wk]
        exact ⟨by simp [e82], b1, pTurn n x.frm true, vn, _, b2, _, _, _, _, _, _, S, by simp [e7], by simp [e9], bs5, iv3, (by unfold pTurn; split <;> exact td)⟩
      have d14 := decide_eq_false k14
      by_cases k15 : x.kind = 15
      · have d15 := decide_eq_true k15
        simp [e7, ga, d1, d2, d9, d10, d11, d12, d13, d14, d15]
        refine WP.drawP [(4, 0), (5, 0), (6, 0)] (by decide +kernel) (by decide +kernel) ?_
        simp [e7, ga]
        refine up34 bs1.p h2 x.frm fun H3 st3 fr3 => ?_
        have bs2 := bs1.afterP st3 fr3
        have ga3 := gaP fr3
        simp [e9, ga3]
        refine turn33 bs2.r bs1.p.wf.down h2 x.frm false fun H4 m4 st4 fr4 => ?_
        have bs3 := bs2.afterR st4 fr4
        simp
        refine ⟨Checks.cons rfl rfl rfl ?_ (Checks.cons rfl rfl rfl ?_ (Checks.cons rfl rfl rfl ?_ .nil)), ?_⟩
        iterate 3
          · unfold reV
            simp [ga, ga3, e7, e9, q_int, q_ptr, q_str, q_agg, q_cons, q_nil, q1_int, q1_bool, q1_str, q_sides]
        have iv3 : Inv (pTurn n x.frm false) (k + 1) := inv_mono (inv_turn iv x.frm false) hk15
        try simp [e7, e9]
        refine same38 bs3 iv3 fun H5 bs5 => ?_
        simp [q1, q2, wk]
        exact ⟨by simp [e82], b1, pTurn n x.frm false, vn, _, b2, _, _, _, _, _, _, S, by simp [e7], by simp [e9], bs5, iv3, (by unfold pTurn; split <;> exact td)⟩
      have d15 := decide_eq_false k15
      by_cases k16 : x.kind = 16
      · have d16 := decide_eq_true k16
        simp [e7, ga, d1, d2, d9, d10, d11, d12, d13, d14, d15, d16]
        refine reach35 bs1.p h2 x.frm x.to fun H3 st3 fr3 => ?_
        have bs3 := bs1.afterP st3 fr3
        have ga3 := gaP fr3
        simp [e9, ga3]
        rw [reach36 bs3.r x.frm x.to]
        simp [bX_beql Try.underlying4]
        have iv3 : Inv (n) (k + 1) := inv_mono iv hk15
        try simp [e7, e9]
        refine same38 bs3 iv3 fun H5 bs5 => ?_
        simp [q1, q2, wk]
        exact ⟨by simp [e82], b1, n, vn, _, b2, _, _, _, _, _, _, S, by simp [e7], by simp [e9], bs5, iv3, td⟩
      have d16 := decide_eq_false k16
      simp [e7, ga, d1, d2, d9, d10, d11, d12, d13, d14, d15, d16]
      refine send11 bs1.p iv x.frm x.to x.body fun H3 vf3 st3 fr3 => ?_
      have bs2 := bs1.afterP st3 fr3
      have ga3 := gaP fr3
      simp [e9, ga3]
      refine send37 bs2.r iv x.frm x.to x.body fun H4 m4 ru4 st4 fr4 => ?_
      have bs3 := bs2.afterR st4 fr4
      simp
      have htd : ∃ S', Told (pSend n x.frm x.to x.body).fl (pSend n x.frm x.to x.body).next (pSend n x.frm x.to x.body).dbl S' (fun _ => 0) 0 := by
        by_cases he : eSend n x.frm x.to x.body = 0
        · exact ⟨_, (told_send iv td he).1⟩
        · rw [send_not he]
          exact ⟨_, td⟩
      obtain ⟨S', td'⟩ := htd
      have iv3 : Inv (pSend n x.frm x.to x.body) (k + 1) := inv_send iv hk15 x.frm x.to x.body
      try simp [e7, e9]
      refine same38 bs3 iv3 fun H5 bs5 => ?_
      simp [q1, q2, wk]
      exact ⟨by simp [e82], b1, pSend n x.frm x.to x.body, vn, _, b2, _, _, _, _, _, _, S', by simp [e7], by simp [e9], bs5, iv3, td'⟩
    · rintro e H' q1 q2 hI
      simp [awake7]
      exact hq _
end Go.Proofs.Ytmmmdmandocbhaa
end
