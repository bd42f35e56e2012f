/- Helpers of this claim: an evaluator over plain values and its laws. -/
import Derived.Test.YtcllchaboahlfaaIb
section
set_option linter.unusedVariables false
set_option linter.unusedSimpArgs false
namespace Go.Proofs.Ytcllchaboahlfaa
open Go Go.Proofs.Ytcllchaboahlfaa.Den
def AccA (H : World) (v : Value) (xs : List Ac) : Prop := Acc H v 4 30 xs.length ((xs.map encA).flatMap fun v => v.cells.toList)
theorem flatA_len (xs : List Ac) : ((xs.map encA).flatMap fun v => v.cells.toList).length = xs.length * 4 := by
  induction xs with
  | nil => rfl
  | cons x xs ih => rw [List.map_cons, List.flatMap_cons, List.length_append, ih]; simp [Nat.succ_mul, Nat.add_comm]
theorem AccA.add {H : World} {v : Value} {xs : List Ac} (h : AccA H v xs) (hl : xs.length ≤ 2 ^ 21) (p : Ac) : ∃ v' H', builtinX Try.prog .append #[22, 22] #[v, .slice (some ⟨H.heap.size, 0, none⟩) 1 1] (pushObj H (.cells #[.int .i64 p.kind, .int .i64 p.n, .int .i64 p.m, .string (sB p.s)] 30 (0, 0))) = some (.value v', H') ∧
    AccA H' v' (xs ++ [p]) ∧ FrV H H' v v' := by
  obtain ⟨v', H', e1, acc', keepO, hsz, hap⟩ := Acc.append Try.prog (t1 := 22) (t2 := 22) (Acc.push h (.cells #[.int .i64 p.kind, .int .i64 p.n, .int .i64 p.m, .string (sB p.s)] 30 (0, 0))) Try.underlying22 (by simp) info30 zero30 rfl rfl (by decide) (by decide) (by decide)
    (SrcX.row (r := H.heap.size) (n := 1) (c := 1) (cs := [.int .i64 p.kind, .int .i64 p.n, .int .i64 p.m, .string (sB p.s)]) (e := 30) (fr := (0, 0)) (by simp) rfl) rfl (by simp) (by simp [bytes30]; omega)
  refine ⟨v', H', e1, ?_, fun i o hi ha => keepO i o (by have := getO_lt hi; rw [get_push, if_neg (by omega)]; exact hi) ha, by rw [size_push] at hsz; omega, fun i ha hi => hap i ha (by rw [size_push]; omega)⟩
  unfold AccA
  rw [List.map_append, List.flatMap_append, List.length_append]
  exact acc'
section
variable {H H' : World} {t : TypeId} {wb rb : Nat} {big : Bool} {at' : Int} {out : List UInt8} {v v' dv dv' : Value} {done : List Ac}
structure WA (H : World) (wb : Nat) (big : Bool) (at' : Int) (out : List UInt8) (v dv : Value) (done : List Ac) : Prop where
  w : WSt H 64 wb big at' out v
  d : AccA H dv done
  a : Apart dv wb
  vd : ApV v dv
theorem WA.push (st : WA H wb big at' out v dv done) (o : Obj) : WA (pushObj H o) wb big at' out v dv done := ⟨st.w.push o, Acc.push st.d o, st.a, st.vd⟩
theorem WA.wrote {out' : List UInt8} (st : WA H wb big at' out v dv done) (w' : WSt H' 64 wb big at' out' v') (fr : FrW H H' wb v v') : WA H' wb big at' out' v' dv done := by
  refine ⟨w', ?_, st.a, fun r n c h => fr.apart r (Acc.row_lt st.d h) (st.vd r n c h)⟩
  obtain ⟨h1, ⟨h2, h3⟩ | ⟨r, h2, h3, h4⟩⟩ := st.d
  · exact ⟨h1, .inl ⟨h2, h3⟩⟩
  · exact ⟨h1, .inr ⟨r, h2, h3, fr.keep r _ h4 (fun e => st.a r _ _ h2 e.symm) (st.vd r _ _ h2)⟩⟩
theorem WA.more {done' : List Ac} (st : WA H wb big at' out v dv done) (d' : AccA H' dv' done') (fr : FrV H H' dv dv') : WA H' wb big at' out v dv' done' := by
  have dv := ApV.symm st.vd
  refine ⟨⟨fr.keep _ _ st.w.hw st.a, Acc.keep st.w.hv fr.keep dv, st.w.ap, st.w.at0, st.w.at7, st.w.len⟩, d', fr.apart _ st.a (getO_lt st.w.hw), ApV.symm fun r n c h => fr.apart r (dv r n c h) (Acc.row_lt st.w.hv h)⟩
theorem WSt.frB (st : WSt H 64 wb big at' out v) (fr : FrB H H' rb) (h1 : wb ≠ rb) (h2 : Apart v rb) : WSt H' 64 wb big at' out v := by
  refine ⟨fr.keep _ _ st.hw h1, ?_, st.ap, st.at0, st.at7, st.len⟩
  obtain ⟨h3, ⟨h4, h5⟩ | ⟨r, h4, h5, h6⟩⟩ := st.hv
  · exact ⟨h3, .inl ⟨h4, h5⟩⟩
  · exact ⟨h3, .inr ⟨r, h4, h5, fr.keep r _ h6 (fun e => h2 r _ _ h4 e.symm)⟩⟩
end
set_option maxRecDepth 100000 in
theorem CdrBack8 (big : Bool) (at' : Int) (o : Option (List Ac)) (hl : (o.getD []).length < 2 ^ 63) (hs : ∀ a ∈ o.getD [], a.s.length ≤ 140737488351232 ∧ -9223372036854775808 ≤ a.n ∧ a.n < 9223372036854775808) (H : World) :
    FW X 8 #[.bool big, .int .i64 at', acts o] H fun v _ => v = .bool true := by
  refine FW.walk (by simp [X]) Try.func8 Try.ntmps8 rfl (by simp) ?_
  simp [light9 o hl]
  cases hlt : lightW (o.getD []) with
  | false => simp [awake_eq]
  | true =>
    obtain ⟨h60, hs3⟩ := light_s hlt fun a ha => (hs a ha).1
    generalize hL : o.getD [] = L at *
    simp
    refine New11 big at' H fun H1 st1 k1 z1 => ?_
    have wa0 : WA H1 H.heap.size big (atW at') [] (.slice none 0 0) (.slice none 0 0) [] := ⟨st1, Acc.nil, fun r n c h => (by cases h), fun r n c h => (by cases h)⟩
    generalize H.heap.size = wb at *
    obtain ⟨a0, a7⟩ := atW_ok at'
    simp [hL]
    refine CE.range (m := L.length) (fun k e H' => lk e 7 = p0 wb ∧ lk e 26 = acts o ∧ lk e 0 = .bool big ∧ lk e 1 = .int .i64 at' ∧ ∃ out v dv done, lk e 8 = dv ∧ WA H' wb big (atW at') out v dv done ∧ Wrote (atW at') big out done ∧ done.length ≤ k) ?_ hl ?_ ?_ ?_
    · decide
    · simp
      exact ⟨_, ⟨_, wa0⟩, .nil⟩
    · rintro k e H' hk q1 q2 ⟨h7, h26, h0, h1, out, v, dv, done, h8, wa, wr, hdk⟩
      simp [q1, q2, h7, h8, h26, hL, hk, allocX, szO]
      have hsk := hs3 _ (List.getElem_mem hk)
      have hnk := (hs _ (List.getElem_mem hk)).2
      generalize ha : L[k] = a at *
      have waA := wa.push (.cells #[.int .i64 a.kind, .int .i64 a.n, .int .i64 a.m, .string (sB a.s)] 30 (0, 0))
      have gA : getO (pushObj H' (.cells #[.int .i64 a.kind, .int .i64 a.n, .int .i64 a.m, .string (sB a.s)] 30 (0, 0))) H'.heap.size = some (.cells #[.int .i64 a.kind, .int .i64 a.n, .int .i64 a.m, .string (sB a.s)] 30 (0, 0)) := by simp
      have nw := wa.w.fresh (i := H'.heap.size) (Nat.le_refl _)
      generalize hHA : pushObj H' (.cells #[.int .i64 a.kind, .int .i64 a.n, .int .i64 a.m, .string (sB a.s)] 30 (0, 0)) = HA at *
      generalize hq : H'.heap.size = q at *
      by_cases c0 : a.kind < 0
      · simp [q1, q2, h7, h8, h26, h0, h1, gA, c0]
        exact ⟨_, _, _, waA, wr, by omega⟩
      by_cases c8 : 8 < a.kind
      · simp [q1, q2, h7, h8, h26, h0, h1, gA, c0, c8]
        exact ⟨_, _, _, waA, wr, by omega⟩
      simp [h7, h8, gA, c0, c8]
      refine write13 waA.w a (by omega) fun v1 H5 w5 f5 => ?_
      have wa5 := waA.wrote w5 f5
      have g5 := f5.keep _ _ gA nw.2 nw.1
      rcases hact : actW (atW at') big out a with ⟨out', er⟩
      rw [hact] at wa5
      have hm := actW_more (by omega) (by omega) hact
      by_cases he : er = 0
      · subst he
        obtain ⟨dv', H6, e1, d6, f6⟩ := AccA.add wa5.d (by omega) a
        have wa6 := wa5.more d6 f6
        simp [q1, q2, h7, h8, h26, h0, h1, g5, buildSliceX, inOrder, catCells, szO, e1]
        exact ⟨_, _, _, wa6, .snoc wr (by omega) (by omega) hnk.1 hnk.2 hact, by simp; omega⟩
      · have ho := hm.2 he
        subst ho
        simp [q1, q2, h7, h8, h26, h0, h1, g5, he]
        exact ⟨_, _, _, wa5, wr, by omega⟩
    · rintro e H' q1 q2 ⟨h7, h26, h0, h1, out, v, dv, done, h8, wa, wr, hdk⟩
      obtain ⟨f, f0, f1, f2⟩ := wr.back
      have f2 := fun k hk => f2 k hk out [] (by simp)
      have hone : (∃ r, getO H' wb = some r) := ⟨_, wa.w.hw⟩
      have hr0 : getO (pushObj H' (rdP out big (atW at') ⟨0, -1⟩)) H'.heap.size = some (rdP out big (atW at') ⟨0, -1⟩) := by simp
      have wa2 := wa.push (rdP out big (atW at') ⟨0, -1⟩)
      have ne1 : wb ≠ H'.heap.size := by have := getO_lt wa.w.hw; omega
      have ne2 : Apart v H'.heap.size := Acc.fresh wa.w.hv (Nat.le_refl _)
      have ne3 : Apart dv H'.heap.size := Acc.fresh wa.d (Nat.le_refl _)
      have hcase : ((at' < 0) = True ∧ (7 < at') = False ∧ atW at' = 0) ∨ ((at' < 0) = False ∧ (7 < at') = True ∧ atW at' = 0) ∨ ((at' < 0) = False ∧ (7 < at') = False ∧ atW at' = at') := by
        unfold atW
        by_cases u1 : at' < 0
        · exact .inl ⟨eq_true u1, eq_false (by omega), if_pos (.inl u1)⟩
        · by_cases u2 : 7 < at'
          · exact .inr (.inl ⟨eq_false u1, eq_true u2, if_pos (.inr u2)⟩)
          · exact .inr (.inr ⟨eq_false u1, eq_false u2, if_neg (fun h => h.elim u1 u2)⟩)
      have hlen := fun H0 => Acc.len (P := Try.prog) (H0 := H0) (t := 22) wa.d (by simp)
      have a65 : out.length ≤ 2 ^ 40 := by have := wa.w.len; omega
      rcases hcase with ⟨c1, c2, c3⟩ | ⟨c1, c2, c3⟩ | ⟨c1, c2, c3⟩
      all_goals
        simp [h7, h8, h0, h1, All17 wa.w, c1, c2, New25, hlen]
        have hsz : H'.heap.size < (pushObj H' (rdP out big (atW at') ⟨0, -1⟩)).heap.size := by simp
        generalize pushObj H' (rdP out big (atW at') ⟨0, -1⟩) = H2 at *
        generalize H'.heap.size = rb at *
        refine CE.range (m := done.length) (fun k e Hk => lk e 7 = p0 wb ∧ lk e 13 = p0 rb ∧ lk e 62 = dv ∧ lk e 12 = .int .i64 (atW at') ∧ lk e 11 = .string (sB out) ∧ FrB H2 Hk rb ∧ f k ≤ out.length ∧ getO Hk rb = some (rdP out big (atW at') ⟨f k, -1⟩)) ?_ (by omega) ?_ ?_ ?_
        · decide
        · exact ⟨by simp, by simp, by simp [h7], by simp, by simp, by simp [c3], by simp, FrB.refl, by rw [f0]; exact Nat.zero_le _, by rw [f0]; exact hr0⟩
        · rintro k e Hk hk q1 q2 ⟨h7, h13, h62, h12, h11, fk, hfk, gk⟩
          obtain ⟨r, hdv, hr⟩ := Acc.pos wa2.d (by omega)
          obtain ⟨cs, hcs⟩ : ∃ cs, cs = (done.map encA).flatMap fun v => v.cells.toList := ⟨_, rfl⟩
          rw [← hcs] at hr
          rw [hdv] at h62
          have hclen : cs.length = done.length * 4 := by rw [hcs, flatA_len]
          have hr' := fk.keep _ _ hr (fun e => ne3 r _ _ hdv e.symm)
          have hg := enc_get' (es := 4) (enc := encA) (fun x => by simp) hcs k hk
          have hb : k * 4 + 4 ≤ done.length * 4 := by omega
          have hrd := f2 k hk
          generalize done[k] = a at *
          have kp : Hk.heap.size ≠ rb := by have := getO_lt gk; omega
          have kp1 : Hk.heap.size + 1 ≠ rb := by have := getO_lt gk; omega
          have ek : (fixA a).kind = a.kind := by unfold fixA; split <;> rfl
          simp [q1, q2, h7, h13, h62, h12, h11, hk, allocX, hr', hclen, hb, hg, szO]
          have b1 : getO (setO (pushObj (pushObj Hk (.cells #[.int .i64 a.kind, .int .i64 a.n, .int .i64 a.m, .string (sB a.s)] 30 (0, 0))) (.cells #[.int .i64 0, .int .i64 0, .int .i64 0, .string (sB [])] 30 (0, 0))) (Hk.heap.size + 1) (.cells #[.int .i64 a.kind, .int .i64 a.n, .int .i64 a.m, .string (sB a.s)] 30 (0, 0))) Hk.heap.size = some (.cells #[.int .i64 a.kind, .int .i64 a.n, .int .i64 a.m, .string (sB a.s)] 30 (0, 0)) := by simp
          have b2 : getO (setO (pushObj (pushObj Hk (.cells #[.int .i64 a.kind, .int .i64 a.n, .int .i64 a.m, .string (sB a.s)] 30 (0, 0))) (.cells #[.int .i64 0, .int .i64 0, .int .i64 0, .string (sB [])] 30 (0, 0))) (Hk.heap.size + 1) (.cells #[.int .i64 a.kind, .int .i64 a.n, .int .i64 a.m, .string (sB a.s)] 30 (0, 0))) (Hk.heap.size + 1) = some (.cells #[.int .i64 a.kind, .int .i64 a.n, .int .i64 a.m, .string (sB a.s)] 30 (0, 0)) := by simp
          have b3 : FrB Hk (setO (pushObj (pushObj Hk (.cells #[.int .i64 a.kind, .int .i64 a.n, .int .i64 a.m, .string (sB a.s)] 30 (0, 0))) (.cells #[.int .i64 0, .int .i64 0, .int .i64 0, .string (sB [])] 30 (0, 0))) (Hk.heap.size + 1) (.cells #[.int .i64 a.kind, .int .i64 a.n, .int .i64 a.m, .string (sB a.s)] 30 (0, 0))) rb := ((FrB.push _).trans (FrB.push _)).setFresh _ (by omega)
          have b4 : getO (setO (pushObj (pushObj Hk (.cells #[.int .i64 a.kind, .int .i64 a.n, .int .i64 a.m, .string (sB a.s)] 30 (0, 0))) (.cells #[.int .i64 0, .int .i64 0, .int .i64 0, .string (sB [])] 30 (0, 0))) (Hk.heap.size + 1) (.cells #[.int .i64 a.kind, .int .i64 a.n, .int .i64 a.m, .string (sB a.s)] 30 (0, 0))) rb = some (rdP out big (atW at') ⟨f k, -1⟩) := by
            have := getO_lt gk
            rw [get_set, if_neg kp1.symm]
            simp only [get_push, size_push]
            rw [if_neg (by omega), if_neg (by omega)]; exact gk
          generalize setO (pushObj (pushObj Hk (.cells #[.int .i64 a.kind, .int .i64 a.n, .int .i64 a.m, .string (sB a.s)] 30 (0, 0))) (.cells #[.int .i64 0, .int .i64 0, .int .i64 0, .string (sB [])] 30 (0, 0))) (Hk.heap.size + 1) (.cells #[.int .i64 a.kind, .int .i64 a.n, .int .i64 a.m, .string (sB a.s)] 30 (0, 0)) = H3 at *
          generalize hp : Hk.heap.size = p at *
          have main : ∃ H4 : World, FrB Hk H4 rb ∧ getO H4 rb = some (rdP out big (atW at') ⟨f k, -1⟩) ∧ getO H4 p = some (.cells #[.int .i64 a.kind, .int .i64 a.n, .int .i64 a.m, .string (sB a.s)] 30 (0, 0)) ∧ getO H4 (p + 1) = some (.cells #[.int .i64 (fixA a).kind, .int .i64 (fixA a).n, .int .i64 (fixA a).m, .string (sB (fixA a).s)] 30 (0, 0)) ∧
              H4 = if a.kind = 7 then setO H3 (p + 1) (.cells #[.int .i64 a.kind, .int .i64 a.s.length, .int .i64 a.m, .string (sB a.s)] 30 (0, 0)) else H3 := by
            have l2 := getO_lt b2
            by_cases k7 : a.kind = 7
            · refine ⟨setO H3 (p + 1) (.cells #[.int .i64 a.kind, .int .i64 a.s.length, .int .i64 a.m, .string (sB a.s)] 30 (0, 0)), b3.setFresh _ (by omega), ?_, ?_, ?_, by rw [if_pos k7]⟩
              · rw [get_set, if_neg kp1.symm]; exact b4
              · rw [get_set, if_neg (by omega)]; exact b1
              · rw [get_set, if_pos rfl, if_pos l2]; unfold fixA; rw [if_pos k7]
            · refine ⟨H3, b3, b4, b1, ?_, by rw [if_neg k7]⟩
              unfold fixA; rw [if_neg k7]; exact b2
          obtain ⟨H4, u3, u4, u1, u2, hH4⟩ := main
          have l2 := getO_lt b2
          obtain ⟨kind, n, m, z⟩ := a
          simp only at *
          have np : p ≠ rb := kp
          by_cases k7 : kind = 7
          · subst k7
            rw [if_pos rfl] at hH4
            simp [h13, b1, b2, l2, overL]
            rw [← hH4]
            have hle := readR_le (s := out) (at' := atW at') (big := big) (r := ⟨f k, -1⟩) hfk (fixA ⟨7, n, m, z⟩)
            refine read27 u4 a0 a7 a65 hfk (fixA ⟨7, n, m, z⟩) fun H5 g5 f5 => ?_
            rw [hrd] at g5 hle ⊢
            have c1 := f5.keep _ _ u1 np
            have ne5 : ¬ p = H5.heap.size := by have := getO_lt c1; omega
            have ne6 : ¬ p = H5.heap.size + 1 := by have := getO_lt c1; omega
            have nr5 : ¬ rb = H5.heap.size := by have := getO_lt g5; omega
            have nr6 : ¬ rb = H5.heap.size + 1 := by have := getO_lt g5; omega
            have fr5 : FrB H2 H5 rb := (fk.trans u3).trans f5
            have hw : wantA ⟨7, n, m, z⟩ = ⟨0, z, 0⟩ := rfl
            rw [hw]
            simp [q1, q2, h7, h13, h62, h12, h11, c1, ne5, ne6, nr5, nr6, g5, allocX, buildQ, fillX, szO, overL, neqT]
            exact ⟨hdv.symm, fr5.trans (FrB.setFresh ((FrB.push _).trans (FrB.push _)) _ (by omega)), hle⟩
          · rw [if_neg k7] at hH4
            have hfa : fixA ⟨kind, n, m, z⟩ = ⟨kind, n, m, z⟩ := by unfold fixA; rw [if_neg k7]
            simp [k7, h13, b1, b2, l2, overL]
            rw [← hH4]
            have r27 := @read27 H4 rb out big (atW at') ⟨f k, -1⟩ u4 a0 a7 a65 hfk (fixA ⟨kind, n, m, z⟩)
            have hle := readR_le (s := out) (at' := atW at') (big := big) (r := ⟨f k, -1⟩) hfk (fixA ⟨kind, n, m, z⟩)
            rw [hrd] at hle r27
            rw [hfa] at r27
            refine r27 fun H5 g5 f5 => ?_
            have c1 := f5.keep _ _ u1 np
            have ne5 : ¬ p = H5.heap.size := by have := getO_lt c1; omega
            have ne6 : ¬ p = H5.heap.size + 1 := by have := getO_lt c1; omega
            have nr5 : ¬ rb = H5.heap.size := by have := getO_lt g5; omega
            have nr6 : ¬ rb = H5.heap.size + 1 := by have := getO_lt g5; omega
            have fr5 : FrB H2 H5 rb := (fk.trans u3).trans f5
            by_cases k1 : kind = 1
            · by_cases n1 : n = 1
              · have hw : wantA ⟨kind, n, m, z⟩ = ⟨1, [], 0⟩ := by unfold wantA; rw [if_pos ⟨k1, n1⟩]
                rw [hw]
                simp [q1, q2, h7, h13, h62, h12, h11, c1, ne5, ne6, nr5, nr6, g5, allocX, buildQ, fillX, szO, overL, neqT, k1, n1]
                exact ⟨hdv.symm, fr5.trans (FrB.setFresh ((FrB.push _).trans (FrB.push _)) _ (by omega)), hle⟩
              · have hw : wantA ⟨kind, n, m, z⟩ = ⟨0, [], 0⟩ := by
                  subst k1
                  unfold wantA; rw [if_neg (fun h => n1 h.2), if_neg (fun h => h.1 rfl), if_neg (fun h => absurd h.1 (show ¬ (5 : Int) ≤ 1 by decide))]
                rw [hw]
                simp [q1, q2, h7, h13, h62, h12, h11, c1, ne5, ne6, nr5, nr6, g5, allocX, buildQ, fillX, szO, overL, neqT, k1, n1]
                exact ⟨hdv.symm, fr5.trans (FrB.setFresh ((FrB.push _).trans (FrB.push _)) _ (by omega)), hle⟩
            · by_cases l5 : kind < 5
              · have hw : wantA ⟨kind, n, m, z⟩ = ⟨n, [], 0⟩ := by unfold wantA; rw [if_neg (fun h => k1 h.1), if_pos ⟨k1, l5⟩]
                rw [hw]
                simp [q1, q2, h7, h13, h62, h12, h11, c1, ne5, ne6, nr5, nr6, g5, allocX, buildQ, fillX, szO, overL, neqT, k1, l5]
                exact ⟨hdv.symm, fr5.trans (FrB.setFresh ((FrB.push _).trans (FrB.push _)) _ (by omega)), hle⟩
              · by_cases l8 : kind < 8
                · have hw : wantA ⟨kind, n, m, z⟩ = ⟨0, z, 0⟩ := by unfold wantA; rw [if_neg (fun h => k1 h.1), if_neg (fun h => l5 h.2), if_pos ⟨Int.not_lt.1 l5, l8⟩]
                  rw [hw]
                  simp [q1, q2, h7, h13, h62, h12, h11, c1, ne5, ne6, nr5, nr6, g5, allocX, buildQ, fillX, szO, overL, neqT, k1, l5, Int.not_lt.1 l5, l8]
                  exact ⟨hdv.symm, fr5.trans (FrB.setFresh ((FrB.push _).trans (FrB.push _)) _ (by omega)), hle⟩
                · have hw : wantA ⟨kind, n, m, z⟩ = ⟨0, [], 0⟩ := by unfold wantA; rw [if_neg (fun h => k1 h.1), if_neg (fun h => l5 h.2), if_neg (fun h => l8 h.2)]
                  rw [hw]
                  simp [q1, q2, h7, h13, h62, h12, h11, c1, ne5, ne6, nr5, nr6, g5, allocX, buildQ, fillX, szO, overL, neqT, k1, l5, Int.not_lt.1 l5, l8]
                  exact ⟨hdv.symm, fr5.trans (FrB.setFresh ((FrB.push _).trans (FrB.push _)) _ (by omega)), hle⟩
        · rintro e Hk q1 q2 ⟨h7, h13, h62, h12, h11, fk, hfk, gk⟩
          rw [f1] at gk
          have wst := WSt.frB wa2.w fk ne1 ne2
          have w1 : IntKind.i64.wrap (atW at' + (out.length : Int)) = atW at' + (out.length : Int) := wrap64' (by omega) (by omega)
          simp [h7, h13, h12, h11, Place15 wst, w1, Place29 gk a0 a7 a65, Left31 gk a65 (Nat.le_refl _), Bad33 gk, awake_eq]
theorem in_A2 (c : List Value) (h : TyC reachBytes Try.prog 2 30 c) : ∃ a : Ac, Den.elemOf (aggU Try.prog 30) c = encA a ∧ (a.s.length ≤ 140737488351232 ∧ -9223372036854775808 ≤ a.n ∧ a.n < 9223372036854775808) := by
  have hag : aggU Try.prog 30 = true := by unfold aggU; simp
  unfold TyC at h
  simp only [Try.underlying30] at h
  rw [hag]
  obtain ⟨a, b, rfl, h1, c, d, rfl, h2, e, f, rfl, h3, g, i, rfl, h4, h5⟩ := h
  subst h5
  obtain ⟨n1, _, _, rfl⟩ := in_int (k := .i64) (by simp) h1
  obtain ⟨n2, _, g2, rfl⟩ := in_int (k := .i64) (by simp) h2
  obtain ⟨n3, _, _, rfl⟩ := in_int (k := .i64) (by simp) h3
  obtain ⟨l4, _, hl, rfl⟩ := in_string (by simp) h4
  have := wf_i64 g2
  exact ⟨⟨n1, n2, n3, l4⟩, rfl, hl, by show _ ≤ n2; omega, by show n2 < _; omega⟩
theorem in_Acts2 (c : List Value) (h : TyC reachBytes Try.prog 3 22 c) : ∃ o : Option (List Ac), Den.elemOf (aggU Try.prog 22) c = acts o ∧ (o.getD []).length < 2 ^ 63 ∧ ∀ a ∈ o.getD [], a.s.length ≤ 140737488351232 ∧ -9223372036854775808 ≤ a.n ∧ a.n < 9223372036854775808 :=
  have ⟨o, h1, h2, h3⟩ := in_slice (enc := encA) (Ok := fun a => a.s.length ≤ 140737488351232 ∧ -9223372036854775808 ≤ a.n ∧ a.n < 9223372036854775808) Try.underlying22 (by simp) in_A2 h
  ⟨o, h1, Nat.lt_of_le_of_lt h2 (by decide), h3⟩
end Go.Proofs.Ytcllchaboahlfaa
end
