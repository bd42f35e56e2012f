/- Helpers of this claim: an evaluator over plain values and its laws. -/
import Derived.Test.YtcllchaboahlfaaEb
section
set_option linter.unusedVariables false
set_option linter.unusedSimpArgs false
namespace Go.Proofs.Ytcllchaboahlfaa
open Go Go.Proofs.Ytcllchaboahlfaa.Den
/-! ### numbers -/
def putW (at' : Int) (out s : List UInt8) (size : Int) : List UInt8 × Int := if 65536 < (out.length : Int) + padN at' out size + s.length then (out, 4) else (out ++ List.replicate (padN at' out size) 0 ++ s, 0)
def bound (size : Nat) : Int := 2 ^ (8 * size - 1)
def numBad (n : Int) (size : Nat) : Bool := decide (size < 8) && (decide (n < -bound size) || decide (bound size ≤ n))
def numberW (at' : Int) (out : List UInt8) (n : Int) (size : Nat) (big : Bool) : List UInt8 × Int := if numBad n size = true then (out, 7) else putW at' out (numL n size big) size
theorem shl_neg {size : Nat} (h : size = 2 ∨ size = 4) {t : TypeId} {x y : Operand} {H : World} : binX Try.prog .shl t x y (.int .i64 (-1)) (.int .i64 (8 * (size : Int) - 1)) H = some (.value (.int .i64 (-bound size)), H) := by
  rw [bX_shl (by omega)]
  rcases h with rfl | rfl <;> rfl
theorem shl_one {size : Nat} (h : size = 2 ∨ size = 4) {t : TypeId} {x y : Operand} {H : World} : binX Try.prog .shl t x y (.int .i64 1) (.int .i64 (8 * (size : Int) - 1)) H = some (.value (.int .i64 (bound size)), H) := by
  rw [bX_shl (by omega)]
  rcases h with rfl | rfl <;> rfl
theorem neg_bound {size : Nat} (h : size = 2 ∨ size = 4) : IntKind.i64.wrap (-bound size) = -bound size := by
  rcases h with rfl | rfl <;> rfl
section
variable {H : World} {wb : Nat} {big : Bool} {at' : Int} {out : List UInt8} {v : Value}
set_option maxRecDepth 100000 in
theorem number83 (st : WSt H 64 wb big at' out v) (n : Int) (size : Nat) (hs : size = 2 ∨ size = 4 ∨ size = 8) {Q : Value → World → Prop}
    (hq : ∀ v' H', WSt H' 64 wb big at' (numberW at' out n size big).1 v' → FrW H H' wb v v' → Q (.int .i64 (numberW at' out n size big).2) H') : FW X 83 #[p0 wb, .int .i64 n, .int .i64 size] H Q := by
  refine FW.walk (by simp [X]) Try.func83 Try.ntmps83 rfl (by simp) ?_
  have lw := getO_lt st.hw
  have st1 := (st.push (.cells #[p0 wb] 25 (0, 0))).push (.cells #[.int .i64 n] 3 (0, 0))
  have fr1 : FrW H (pushObj (pushObj H (.cells #[p0 wb] 25 (0, 0))) (.cells #[.int .i64 n] 3 (0, 0))) wb v v := (FrW.push _).trans (FrW.push _)
  have b3 : getO (pushObj (pushObj H (.cells #[p0 wb] 25 (0, 0))) (.cells #[.int .i64 n] 3 (0, 0))) H.heap.size = some (.cells #[p0 wb] 25 (0, 0)) := by simp
  have b4 : getO (pushObj (pushObj H (.cells #[p0 wb] 25 (0, 0))) (.cells #[.int .i64 n] 3 (0, 0))) (H.heap.size + 1) = some (.cells #[.int .i64 n] 3 (0, 0)) := by simp
  have n3 := st.fresh (i := H.heap.size) (by omega)
  have n4 := st.fresh (i := H.heap.size + 1) (by omega)
  simp [szO, wptr_nil]
  generalize hH1 : pushObj (pushObj H (.cells #[p0 wb] 25 (0, 0))) (.cells #[.int .i64 n] 3 (0, 0)) = H1 at *
  have sz1 : H1.heap.size = H.heap.size + 2 := by rw [← hH1]; simp
  generalize hm : H.heap.size = m at *
  refine WP.draw0 (by decide +kernel) (by decide +kernel) ?_
  have w1 : IntKind.i64.wrap (8 * (size : Int)) = 8 * (size : Int) := wrap64' (by omega) (by omega)
  have w2 : IntKind.i64.wrap (8 * (size : Int) - 1) = 8 * (size : Int) - 1 := wrap64' (by omega) (by omega)
  cases hbad : numBad n size with
  | true =>
    have hq7 : numberW at' out n size big = (out, 7) := by unfold numberW; rw [if_pos hbad]
    rw [hq7] at hq
    simp only [numBad, Bool.and_eq_true, Bool.or_eq_true, decide_eq_true_eq] at hbad
    obtain ⟨h8, hb⟩ := hbad
    have hs2 : size = 2 ∨ size = 4 := by omega
    have h8' : (size : Int) < 8 := by omega
    by_cases c1 : n < -bound size
    · simp [b3, b4, h8', w1, w2, shl_neg hs2, shl_one hs2, c1]
      exact hq v H1 st1 fr1
    · have c2 : bound size ≤ n := by omega
      simp [b3, b4, h8', w1, w2, shl_neg hs2, shl_one hs2, c1, c2]
      exact hq v H1 st1 fr1
  | false =>
    have hq7 : numberW at' out n size big = putW at' out (numL n size big) size := by unfold numberW; rw [if_neg (by rw [hbad]; simp)]
    rw [hq7] at hq
    have hsW : sizeW (size : Int) = true := sizeW_iff.2 (by omega)
    have hgo : size = 8 ∨ (size = 2 ∨ size = 4) ∧ size < 8 ∧ ¬ n < -bound size ∧ ¬ bound size ≤ n := by
      rcases hs with h | h | h
      · right
        simp [numBad, h] at hbad ⊢
        omega
      · right
        simp [numBad, h] at hbad ⊢
        omega
      · exact .inl h
    rcases hgo with h8 | ⟨hs2, h8, c1, c2⟩
    have h8' : ¬ (size : Int) < 8 := by omega
    simp [b3, b4, h8', w1, w2]
    rotate_left
    have h8' : (size : Int) < 8 := by omega
    simp [b3, b4, h8', w1, w2, shl_neg hs2, shl_one hs2, c1, c2]
    all_goals
      refine room85 st1 size size hsW ⟨by omega, by omega⟩ fun v2 H2 st2 fr2 => ?_
      have fr12 := fr1.trans fr2
      by_cases hroom : 65536 < (out.length : Int) + padN at' out size + size
      · have e1 : roomW at' out size size = (out, 4) := if_pos hroom
        have e2 : putW at' out (numL n size big) size = (out, 4) := if_pos (by rw [numL_len]; exact hroom)
        rw [e1] at st2 ⊢
        rw [e2] at hq
        simp
        exact hq v2 H2 st2 fr12
      · have e1 : roomW at' out size size = (out ++ List.replicate (padN at' out size) 0, 0) := if_neg hroom
        have e2 : putW at' out (numL n size big) size = (out ++ List.replicate (padN at' out size) 0 ++ numL n size big, 0) := if_neg (by rw [numL_len]; exact hroom)
        rw [e1] at st2 ⊢
        rw [e2] at hq
        have hlen1 : (out ++ List.replicate (padN at' out size) (0 : UInt8)).length + size ≤ 65536 := by simp; omega
        generalize out ++ List.replicate (padN at' out size) 0 = out1 at *
        have b3' := fr2.keep _ _ b3 n3.2 n3.1
        have b4' := fr2.keep _ _ b4 n4.2 n4.1
        have hw2 := st2.hw
        simp [b3', hw2, shifts57]
        have st3 := (st2.push (.cells #[.bool big, .int .i64 at'] 61 (0, 0))).push (.cells #[.int .i64 size] 3 (0, 0))
        have fr3 : FrW H (pushObj (pushObj H2 (.cells #[.bool big, .int .i64 at'] 61 (0, 0))) (.cells #[.int .i64 size] 3 (0, 0))) wb v v2 := (fr12.trans (FrW.push _)).trans (FrW.push _)
        have fr3' : FrW H1 (pushObj (pushObj H2 (.cells #[.bool big, .int .i64 at'] 61 (0, 0))) (.cells #[.int .i64 size] 3 (0, 0))) wb v v2 := (fr2.trans (FrW.push _)).trans (FrW.push _)
        have g5 : getO (pushObj (pushObj H2 (.cells #[.bool big, .int .i64 at'] 61 (0, 0))) (.cells #[.int .i64 size] 3 (0, 0))) H2.heap.size = some (.cells #[.bool big, .int .i64 at'] 61 (0, 0)) := by simp
        have g6 : getO (pushObj (pushObj H2 (.cells #[.bool big, .int .i64 at'] 61 (0, 0))) (.cells #[.int .i64 size] 3 (0, 0))) (H2.heap.size + 1) = some (.cells #[.int .i64 size] 3 (0, 0)) := by simp
        have hmq : H1.heap.size ≤ H2.heap.size := fr2.size
        have n5 := st2.fresh (i := H2.heap.size) (by omega)
        have n6 := st2.fresh (i := H2.heap.size + 1) (by omega)
        have n7 := st2.fresh (i := H2.heap.size + 2) (by omega)
        have n8 := st2.fresh (i := H2.heap.size + 3) (by omega)
        have sz3 : (pushObj (pushObj H2 (.cells #[.bool big, .int .i64 at'] 61 (0, 0))) (.cells #[.int .i64 size] 3 (0, 0))).heap.size = H2.heap.size + 2 := by simp
        generalize pushObj (pushObj H2 (.cells #[.bool big, .int .i64 at'] 61 (0, 0))) (.cells #[.int .i64 size] 3 (0, 0)) = H3 at *
        generalize hq2 : H2.heap.size = q at *
        refine CE.rangeFunc (f := 91) (fs := #[]) (cs := #[p0 (q + 1), p0 q]) (by simp) (by simp) (by simp) ?_
        intro T hT
        rw [sz3]
        refine FW.inLoop fun r hr => ?_
        rw [sz3] at hr
        have b3'' := fr3'.keep _ _ b3 n3.2 n3.1
        have b4'' := fr3'.keep _ _ b4 n4.2 n4.1
        have st4 := (st3.push (.deferred (some []))).push (.loop r)
        have fr4 : FrW H3 (pushObj (pushObj H3 (.deferred (some []))) (.loop r)) wb v2 v2 := (FrW.push _).trans (FrW.push _)
        have c3 := fr4.keep _ _ b3'' n3.2 (fr3'.apart _ (by omega) n3.1)
        have c4 := fr4.keep _ _ b4'' n4.2 (fr3'.apart _ (by omega) n4.1)
        have c5 := fr4.keep _ _ g5 n5.2 n5.1
        have c6 := fr4.keep _ _ g6 n6.2 n6.1
        have c7 : getO (pushObj (pushObj H3 (.deferred (some []))) (.loop r)) (q + 2) = some (.deferred (some [])) := by simp [sz3]
        have c8 : getO (pushObj (pushObj H3 (.deferred (some []))) (.loop r)) (q + 3) = some (.loop r) := by simp [sz3]
        have sz4 : (pushObj (pushObj H3 (.deferred (some []))) (.loop r)).heap.size = q + 4 := by simp [sz3]
        have m3 := fr3'.apart _ (by omega) n3.1
        have m4 := fr3'.apart _ (by omega) n4.1
        generalize pushObj (pushObj H3 (.deferred (some []))) (.loop r) = H4 at *
        show FW X 91 _ _ _
        refine FW.imp (shifts91 (l := q + 3) (r1 := q + 1) (r2 := q) (big := big) (at' := at') (size := size) (by omega) (fun i H => ∃ v', WSt H 64 wb big at' (out1 ++ (numL n size big).take i) v' ∧ FrW H4 H wb v2 v') ?_ ?_ _ ⟨v2, by simpa using st4, FrW.refl⟩) ?_
        · rintro i H ⟨v', st', fr'⟩
          exact ⟨fr'.keep _ _ c6 n6.2 n6.1, fr'.keep _ _ c5 n5.2 n5.1⟩
        · rintro i H ⟨v', st', fr'⟩ hi
          have d8 := fr'.keep _ _ c8 n8.2 n8.1
          have d8' := d8
          rw [hr] at d8
          refine yieldW.two d8 hT (by decide) (by decide) ?_
          have hrs : r.state = .ready := by rw [hr]; rfl
          have l8 := getO_lt d8
          simp
          refine ⟨_, d8', hrs, ?_⟩
          generalize hbz : Obj.loop { state := LoopState.busy, pending := r.pending, fn := r.fn, tmps := r.tmps, params := r.params, assign := r.assign, body := r.body, defers := r.defers } = bz
          have a8 := fr'.apart _ (by omega) n8.1
          have a3 := fr'.apart _ (by omega) (fr4.apart _ (by omega) m3)
          have a4 := fr'.apart _ (by omega) (fr4.apart _ (by omega) m4)
          have e3 := fr'.keep _ _ c3 n3.2 m3
          have e4 := fr'.keep _ _ c4 n4.2 m4
          have stA := st'.setOther bz n8.2 a8
          have sA3 : getO (setO H (q + 3) bz) m = some (.cells #[p0 wb] 25 (0, 0)) := by rw [get_set, if_neg (by omega)]; exact e3
          have sA4 : getO (setO H (q + 3) bz) (m + 1) = some (.cells #[.int .i64 n] 3 (0, 0)) := by rw [get_set, if_neg (by omega)]; exact e4
          have sA8 : getO (setO H (q + 3) bz) (q + 3) = some bz := by rw [get_set, if_pos rfl, if_pos l8]
          have ht : turn size big i < 8 := by unfold turn; split <;> omega
          have hbv := byte_val' n (i := turn size big i) ht
          have hsh := fun {t x y H} => shr_byte n (turn size big i) ht (t := t) (x := x) (y := y) (H := H)
          have htake : (numL n size big).take (i + 1) = (numL n size big).take i ++ [byteN n (turn size big i)] := by
            rw [List.take_add_one, numL_get hi]; rfl
          generalize byteN n (turn size big i) = bt at *
          generalize hHA : setO H (q + 3) bz = HA at *
          have szA : HA.heap.size = H.heap.size := by rw [← hHA]; simp
          obtain ⟨v'', H5, e1, acc', fr5⟩ := addByte stA.hv bt (by simp; omega)
          obtain ⟨k1, k2, k3⟩ := stA.store acc' fr5 (by simp; omega)
          have s53 := fr5.keep _ _ sA3 a3
          have s54 := fr5.keep _ _ sA4 a4
          have hwA := stA.hw
          have lw5 := getO_lt k1
          obtain ⟨o1, o2⟩ := Acc.one acc'
          have hve := Acc.veq stA.hv
          have mA : ¬ m = HA.heap.size := by have := getO_lt sA3; omega
          have wA : ¬ wb = HA.heap.size := by have := getO_lt hwA; omega
          refine WP.drawP [(0, 11), (0, 12), (1, 11), (2, 11), (3, 11), (4, 11)] (by decide +kernel) (by decide +kernel) ?_
          simp [sA3, sA4, hwA, hsh, hbv, buildSliceX, inOrder, catCells, szO, e1, s53, s54, k1, lw5, o1, o2, overL]
          refine ⟨Checks.cons rfl rfl rfl ?_ (Checks.cons rfl rfl rfl ?_ (Checks.cons rfl rfl rfl ?_ (Checks.cons rfl rfl rfl ?_ (Checks.cons rfl rfl rfl ?_ (Checks.cons rfl rfl rfl ?_ .nil))))), ?_⟩
          iterate 6
            · unfold reV
              simp [sA3, s53, mA, wA, hwA, k1, q_ptr, hve]
          rw [← hHA] at k3 sA8
          subst hbz
          refine ⟨_, k3.keep _ _ sA8 n8.2 a8, rfl, v'', ?_, ?_⟩
          · have hrr : ({ state := LoopState.ready, pending := none, fn := r.fn, tmps := r.tmps, params := r.params, assign := r.assign, body := r.body, defers := r.defers } : Loop) = r := by rw [hr]; rfl
            simp only [hrr]
            rw [htake, ← List.append_assoc]
            exact k2.setOther _ n8.2 (k3.apart _ (by rw [size_set]; exact l8) a8)
          · have hrr : ({ state := LoopState.ready, pending := none, fn := r.fn, tmps := r.tmps, params := r.params, assign := r.assign, body := r.body, defers := r.defers } : Loop) = r := by rw [hr]; rfl
            simp only [hrr]
            exact fr'.trans (FrW.loop d8' n8.2 a8 k3)
        · rintro _ H' ⟨v', st', fr'⟩
          rw [List.take_of_length_le (by simp)] at st'
          have hj : r.pending = none := by rw [hr]; rfl
          have hb : (r.state == LoopState.busy) = false := by rw [hr]; rfl
          have d8 := fr'.keep _ _ c8 n8.2 n8.1
          have d7 := fr'.keep _ _ c7 n7.2 n7.1
          refine ⟨r, .normal, d8, hb, by rw [hj]; rfl, ?_⟩
          simp
          rw [endE_mark (by rw [get_set, if_neg (by omega)]; exact d7)]
          simp
          have e8 := fr'.apart _ (by omega) n8.1
          have e7 := fr'.apart _ (by omega) n7.1
          refine hq v' _ ((st'.setOther _ n8.2 e8).setOther _ n7.2 e7) ?_
          have frA : FrW H H' wb v v' := (fr3.trans fr4).trans fr'
          exact (frA.setFresh _ (by omega)).setFresh _ (by omega)
end
end Go.Proofs.Ytcllchaboahlfaa
end
