/- Helpers of this claim: an evaluator over plain values and its laws. -/
import Derived.Test.YtcllchaboahlfaaEg
section
set_option linter.unusedVariables false
set_option linter.unusedSimpArgs false
namespace Go.Proofs.Ytcllchaboahlfaa
open Go Go.Proofs.Ytcllchaboahlfaa.Den
theorem WSt.setByte {H : World} {t : TypeId} {wb : Nat} {big : Bool} {at' : Int} {out : List UInt8} {r L k : Nat} {b : UInt8} (st : WSt H t wb big at' out (sliceA r 0 L L)) (hL : out.length = L) (hr : getO H r = some (rowB out (1, 0))) :
    WSt (setO H r (rowB (out.set k b) (1, 0))) t wb big at' (out.set k b) (sliceA r 0 L L) ∧ FrW H (setO H r (rowB (out.set k b) (1, 0))) wb (sliceA r 0 L L) (sliceA r 0 L L) := by
  subst hL
  have rlt := getO_lt hr
  have rwb : wb ≠ r := st.ap r _ _ rfl
  have g : getO (setO H r (rowB (out.set k b) (1, 0))) r = some (rowB (out.set k b) (1, 0)) := by rw [get_set, if_pos rfl, if_pos rlt]
  refine ⟨⟨?_, ?_, st.ap, st.at0, st.at7, by simpa using st.len⟩, fun j o h1 h2 h3 => ?_, fun j _ h => h, by rw [size_set]; exact Nat.le_refl _⟩
  · rw [get_set, if_neg rwb]; exact st.hw
  · obtain ⟨h1, ⟨h2, _⟩ | ⟨r', h2, h3, h4⟩⟩ := st.hv
    · cases h2
    · refine ⟨by simp, .inr ⟨r, by simp, by simpa using h3, g⟩⟩
  · have : j ≠ r := h3 r _ _ rfl
    rw [get_set, if_neg this]; exact h1
theorem over_set {out l : List UInt8} {p i : Nat} (hl : p + l.length ≤ out.length) (hi : i < l.length) : (overW out p (l.take i)).set (p + i) l[i] = overW out p (l.take (i + 1)) := by
  apply List.ext_getElem?
  intro j
  have get : ∀ k, k ≤ l.length → (overW out p (l.take k))[j]? = if j < p then out[j]? else if j < p + k then l[j - p]? else out[j]? := fun k hk => by
    unfold overW
    have hlt : (l.take k).length = k := by simp; omega
    by_cases h1 : j < p
    · rw [if_pos h1, List.append_assoc, List.getElem?_append_left (by simp; omega), List.getElem?_take, if_pos h1]
    · rw [if_neg h1, List.append_assoc, List.getElem?_append_right (by simp; omega)]
      have hp : (out.take p).length = p := by simp; omega
      rw [hp]
      by_cases h2 : j < p + k
      · rw [if_pos h2, List.getElem?_append_left (by omega), List.getElem?_take, if_pos (by omega)]
      · rw [if_neg h2, List.getElem?_append_right (by omega), List.getElem?_drop, hlt]
        congr 1; omega
  rw [List.getElem?_set, get i (by omega), get (i + 1) (by omega), overW_len (by simp; omega)]
  by_cases h : p + i = j
  · subst h
    rw [if_pos rfl, if_pos (by omega), if_neg (by omega), if_pos (by omega), show p + i - p = i by omega, List.getElem?_eq_getElem hi]
  · rw [if_neg h]
    by_cases h1 : j < p
    · rw [if_pos h1, if_pos h1]
    · rw [if_neg h1, if_neg h1]
      by_cases h2 : j < p + i
      · rw [if_pos h2, if_pos (by omega)]
      · rw [if_neg h2, if_neg (by omega)]
section
variable {H : World} {wb : Nat} {big : Bool} {at' : Int} {out : List UInt8} {v : Value}
set_option maxRecDepth 100000 in
theorem Put20 (st : WSt H 64 wb big at' out v) (place n : Int) {Q : Value → World → Prop}
    (hq : ∀ v' H', WSt H' 64 wb big at' (putAtW at' out place n big).1 v' → FrW H H' wb v v' → Q (.int .i64 (putAtW at' out place n big).2) H') : FW X 20 #[p0 wb, .int .i64 place, .int .i64 n] H Q := by
  refine FW.walk (by simp [X]) Try.func20 Try.ntmps20 rfl (by simp) ?_
  have lw := getO_lt st.hw
  have st1 := ((st.push (.cells #[p0 wb] 25 (0, 0))).push (.cells #[.int .i64 place] 3 (0, 0))).push (.cells #[.int .i64 n] 3 (0, 0))
  have fr1 : FrW H (pushObj (pushObj (pushObj H (.cells #[p0 wb] 25 (0, 0))) (.cells #[.int .i64 place] 3 (0, 0))) (.cells #[.int .i64 n] 3 (0, 0))) wb v v := ((FrW.push _).trans (FrW.push _)).trans (FrW.push _)
  have b3 : getO (pushObj (pushObj (pushObj H (.cells #[p0 wb] 25 (0, 0))) (.cells #[.int .i64 place] 3 (0, 0))) (.cells #[.int .i64 n] 3 (0, 0))) H.heap.size = some (.cells #[p0 wb] 25 (0, 0)) := by simp [show ¬ H.heap.size = H.heap.size + 1 + 1 by omega]
  have b4 : getO (pushObj (pushObj (pushObj H (.cells #[p0 wb] 25 (0, 0))) (.cells #[.int .i64 place] 3 (0, 0))) (.cells #[.int .i64 n] 3 (0, 0))) (H.heap.size + 1) = some (.cells #[.int .i64 place] 3 (0, 0)) := by simp
  have b5 : getO (pushObj (pushObj (pushObj H (.cells #[p0 wb] 25 (0, 0))) (.cells #[.int .i64 place] 3 (0, 0))) (.cells #[.int .i64 n] 3 (0, 0))) (H.heap.size + 1 + 1) = some (.cells #[.int .i64 n] 3 (0, 0)) := by simp
  have n3 := st.fresh (i := H.heap.size) (by omega)
  have n4 := st.fresh (i := H.heap.size + 1) (by omega)
  have n5 := st.fresh (i := H.heap.size + 1 + 1) (by omega)
  simp [szO, b3, wptr_nil]
  generalize hH1 : pushObj (pushObj (pushObj H (.cells #[p0 wb] 25 (0, 0))) (.cells #[.int .i64 place] 3 (0, 0))) (.cells #[.int .i64 n] 3 (0, 0)) = H1 at *
  have sz1 : H1.heap.size = H.heap.size + 3 := by rw [← hH1]; simp
  generalize hm : H.heap.size = m at *
  have hw1 := st1.hw
  simp [b3, wptr_nil]
  refine WP.drawP [(8, 11)] (by decide +kernel) (by decide +kernel) ?_
  obtain ⟨hw, hv, ap, a0, a7, hl⟩ := id st
  have w1 : IntKind.i64.wrap (at' + (out.length : Int) - 4) = at' + (out.length : Int) - 4 := wrap64' (by omega) (by omega)
  by_cases hb : putBad at' out place n
  · have e : putAtW at' out place n big = (out, 7) := if_pos hb
    rw [e] at hq
    have hq := hq v H1 st1 fr1
    unfold putBad at hb
    by_cases c1 : place < at'
    · simp [b3, b4, b5, hw1, c1]
      refine ⟨Checks.cons rfl rfl rfl (by unfold reV; simp [b4, q_int]) .nil, ?_⟩
      exact hq
    · by_cases c2 : at' + out.length - 4 < place
      · simp [b3, b4, b5, hw1, c1, Place15 st1, w1, c2]
        refine ⟨Checks.cons rfl rfl rfl (by unfold reV; simp [b4, q_int]) .nil, ?_⟩
        exact hq
      · by_cases c3 : place.tmod 4 = 0
        · by_cases c4 : n < -2147483648
          · simp [b3, b4, b5, hw1, c1, Place15 st1, w1, c2, c3, c4]
            refine ⟨Checks.cons rfl rfl rfl (by unfold reV; simp [b4, q_int]) .nil, ?_⟩
            exact hq
          · have c5 : 2147483648 ≤ n := by omega
            simp [b3, b4, b5, hw1, c1, Place15 st1, w1, c2, c3, c4, c5]
            refine ⟨Checks.cons rfl rfl rfl (by unfold reV; simp [b4, q_int]) .nil, ?_⟩
            exact hq
        · simp [b3, b4, b5, hw1, c1, Place15 st1, w1, c2, c3]
          refine ⟨Checks.cons rfl rfl rfl (by unfold reV; simp [b4, q_int]) .nil, ?_⟩
          exact hq
  · have e : putAtW at' out place n big = (overW out (place - at').toNat (numL n 4 big), 0) := if_neg hb
    rw [e] at hq
    unfold putBad at hb
    obtain ⟨c1, c2, c3, c4, c5⟩ : ¬ place < at' ∧ ¬ at' + out.length - 4 < place ∧ place.tmod 4 = 0 ∧ ¬ n < -2147483648 ∧ ¬ 2147483648 ≤ n := by
      refine ⟨by omega, by omega, ?_, by omega, by omega⟩
      exact Classical.byContradiction fun h => hb (.inr (.inr (.inl h)))
    obtain ⟨p, hp⟩ : ∃ p : Nat, place - at' = (p : Int) := ⟨(place - at').toNat, by omega⟩
    have w2 : IntKind.i64.wrap (p : Int) = (p : Int) := wrap64' (by omega) (by omega)
    rw [hp, Int.toNat_natCast] at hq
    simp [b3, b4, b5, hw1, c1, Place15 st1, w1, c2, c3, c4, c5]
    refine ⟨Checks.cons rfl rfl rfl (by unfold reV; simp [b4, q_int]) .nil, ?_⟩
    simp [b3, hw1, shifts57]
    have hpo : 0 < out.length := by omega
    obtain ⟨r, rfl, hr0⟩ := Acc.pos hv hpo
    have st3 := (st1.push (.cells #[.bool big, .int .i64 at'] 61 (0, 0))).push (.cells #[.int .i64 4] 3 (0, 0))
    have fr3' : FrW H1 (pushObj (pushObj H1 (.cells #[.bool big, .int .i64 at'] 61 (0, 0))) (.cells #[.int .i64 4] 3 (0, 0))) wb (sliceA r 0 out.length out.length) (sliceA r 0 out.length out.length) := (FrW.push _).trans (FrW.push _)
    have fr3 := fr1.trans fr3'
    have g5 : getO (pushObj (pushObj H1 (.cells #[.bool big, .int .i64 at'] 61 (0, 0))) (.cells #[.int .i64 4] 3 (0, 0))) H1.heap.size = some (.cells #[.bool big, .int .i64 at'] 61 (0, 0)) := by simp
    have g6 : getO (pushObj (pushObj H1 (.cells #[.bool big, .int .i64 at'] 61 (0, 0))) (.cells #[.int .i64 4] 3 (0, 0))) (H1.heap.size + 1) = some (.cells #[.int .i64 4] 3 (0, 0)) := by simp
    have p5 := st1.fresh (i := H1.heap.size) (by omega)
    have p6 := st1.fresh (i := H1.heap.size + 1) (by omega)
    have n7 := st1.fresh (i := H1.heap.size + 2) (by omega)
    have n8 := st1.fresh (i := H1.heap.size + 3) (by omega)
    have sz3 : (pushObj (pushObj H1 (.cells #[.bool big, .int .i64 at'] 61 (0, 0))) (.cells #[.int .i64 4] 3 (0, 0))).heap.size = H1.heap.size + 2 := by simp
    generalize pushObj (pushObj H1 (.cells #[.bool big, .int .i64 at'] 61 (0, 0))) (.cells #[.int .i64 4] 3 (0, 0)) = H3 at *
    generalize hq2 : H1.heap.size = q at *
    refine CE.rangeFunc (f := 91) (fs := #[]) (cs := #[p0 (q + 1), p0 q]) (by simp) (by simp) (by simp) ?_
    intro T hT
    rw [sz3]
    refine FW.inLoop fun l hl2 => ?_
    rw [sz3] at hl2
    have st4 := (st3.push (.deferred (some []))).push (.loop l)
    have fr4 : FrW H3 (pushObj (pushObj H3 (.deferred (some []))) (.loop l)) wb (sliceA r 0 out.length out.length) (sliceA r 0 out.length out.length) := (FrW.push _).trans (FrW.push _)
    have fr14 := fr3'.trans fr4
    have c3' := fr14.keep _ _ b3 n3.2 n3.1
    have c4' := fr14.keep _ _ b4 n4.2 n4.1
    have c5' := fr14.keep _ _ b5 n5.2 n5.1
    have c5q := fr4.keep _ _ g5 p5.2 p5.1
    have c6q := fr4.keep _ _ g6 p6.2 p6.1
    have c7 : getO (pushObj (pushObj H3 (.deferred (some []))) (.loop l)) (q + 2) = some (.deferred (some [])) := by simp [sz3]
    have c8 : getO (pushObj (pushObj H3 (.deferred (some []))) (.loop l)) (q + 3) = some (.loop l) := by simp [sz3]
    have sz4 : (pushObj (pushObj H3 (.deferred (some []))) (.loop l)).heap.size = q + 4 := by simp [sz3]
    generalize pushObj (pushObj H3 (.deferred (some []))) (.loop l) = H4 at *
    have hnl : (numL n 4 big).length = 4 := numL_len _ _ _
    have hov0 : overW out p ((numL n 4 big).take 0) = out := by simp [overW]
    have hovl : ∀ i, i ≤ 4 → (overW out p ((numL n 4 big).take i)).length = out.length := fun i hi => overW_len (by simp; omega)
    show FW X 91 _ _ _
    refine FW.imp (shifts91 (l := q + 3) (r1 := q + 1) (r2 := q) (big := big) (at' := at') (size := 4) (by omega) (fun i H => WSt H 64 wb big at' (overW out p ((numL n 4 big).take i)) (sliceA r 0 out.length out.length) ∧ FrW H4 H wb (sliceA r 0 out.length out.length) (sliceA r 0 out.length out.length)) ?_ ?_ _ ⟨by rw [hov0]; exact st4, FrW.refl⟩) ?_
    · rintro i H ⟨st', fr'⟩
      exact ⟨fr'.keep _ _ c6q p6.2 p6.1, fr'.keep _ _ c5q p5.2 p5.1⟩
    · rintro i H ⟨st', fr'⟩ hi
      have d8 := fr'.keep _ _ c8 n8.2 n8.1
      have d8' := d8
      rw [hl2] at d8
      refine yieldW.two d8 hT (by decide) (by decide) ?_
      have hrs : l.state = .ready := by rw [hl2]; rfl
      have l8 := getO_lt d8
      simp
      refine ⟨_, d8', hrs, ?_⟩
      generalize hbz : Obj.loop { state := LoopState.busy, pending := l.pending, fn := l.fn, tmps := l.tmps, params := l.params, assign := l.assign, body := l.body, defers := l.defers } = bz
      have stA := st'.setOther bz n8.2 n8.1
      have e3 := fr'.keep _ _ c3' n3.2 n3.1
      have e4 := fr'.keep _ _ c4' n4.2 n4.1
      have e5 := fr'.keep _ _ c5' n5.2 n5.1
      have sA3 : getO (setO H (q + 3) bz) m = some (.cells #[p0 wb] 25 (0, 0)) := by rw [get_set, if_neg (by omega)]; exact e3
      have sA4 : getO (setO H (q + 3) bz) (m + 1) = some (.cells #[.int .i64 place] 3 (0, 0)) := by rw [get_set, if_neg (by omega)]; exact e4
      have sA5 : getO (setO H (q + 3) bz) (m + 1 + 1) = some (.cells #[.int .i64 n] 3 (0, 0)) := by rw [get_set, if_neg (by omega)]; exact e5
      have sA8 : getO (setO H (q + 3) bz) (q + 3) = some bz := by rw [get_set, if_pos rfl, if_pos l8]
      have ht : turn 4 big i < 8 := by unfold turn; split <;> omega
      have hbv := byte_val' n (i := turn 4 big i) ht
      have hsh := fun {t x y H} => shr_byte n (turn 4 big i) ht (t := t) (x := x) (y := y) (H := H)
      have hnx : (numL n 4 big)[i]'(by omega) = byteN n (turn 4 big i) := by
        have := numL_get (n := n) (size := 4) (big := big) hi
        rw [List.getElem?_eq_getElem (by omega)] at this
        injection this
      have hset := over_set (out := out) (l := numL n 4 big) (p := p) (i := i) (by omega) (by omega)
      rw [hnx] at hset
      generalize byteN n (turn 4 big i) = bt at *
      generalize hHA : setO H (q + 3) bz = HA at *
      have szA : HA.heap.size = H.heap.size := by rw [← hHA]; simp
      have hlo := hovl i (by omega)
      have hrA : getO HA r = some (rowB (overW out p ((numL n 4 big).take i)) (1, 0)) := by
        obtain ⟨_, ⟨h2, _⟩ | ⟨r', h2, h3, h4⟩⟩ := stA.hv
        · cases h2
        · injection h2 with h2; injection h2 with h2; injection h2 with h2; subst h2; exact h4
      obtain ⟨k2, k3⟩ := stA.setByte (k := p + i) (b := bt) hlo hrA
      rw [hset] at k2 k3
      have hwA := stA.hw
      have rlt := getO_lt hrA
      have pil : p + i < out.length := by omega
      have pil1 : p + i + 1 ≤ out.length := pil
      have wpi : IntKind.i64.wrap ((p : Int) + (i : Int)) = (p : Int) + (i : Int) := wrap64' (by omega) (by omega)
      refine WP.draw0 (by decide +kernel) (by decide +kernel) ?_
      have pi0 : 0 ≤ (p : Int) + (i : Int) := by omega
      have pi1 : (p : Int) + (i : Int) < (out.length : Int) := by omega
      have pin : ((p : Int) + (i : Int)).toNat = p + i := by omega
      simp [sA3, sA4, sA5, hwA, hp, w2, wpi, hsh, hbv, pi0, pi1, pin, hrA, rlt, hlo, pil1, overL]
      have hrow : (Obj.cells (((overW out p ((numL n 4 big).take i)).map u8V).set (p + i) (.int .u8 bt.toNat)).toArray 5 (1, 0)) = rowB (overW out p ((numL n 4 big).take (i + 1))) (1, 0) := by
        rw [← hset, rowB, List.map_set]
      rw [hrow]
      rw [← hHA] at k3 sA8
      rw [← hHA] at k2 ⊢
      subst hbz
      refine ⟨_, k3.keep _ _ sA8 n8.2 n8.1, rfl, ?_, ?_⟩
      · have hrr : ({ state := LoopState.ready, pending := none, fn := l.fn, tmps := l.tmps, params := l.params, assign := l.assign, body := l.body, defers := l.defers } : Loop) = l := by rw [hl2]; rfl
        simp only [hrr]
        exact k2.setOther _ n8.2 n8.1
      · have hrr : ({ state := LoopState.ready, pending := none, fn := l.fn, tmps := l.tmps, params := l.params, assign := l.assign, body := l.body, defers := l.defers } : Loop) = l := by rw [hl2]; rfl
        simp only [hrr]
        exact fr'.trans (FrW.loop d8' n8.2 n8.1 k3)
    · rintro _ H' ⟨st', fr'⟩
      rw [List.take_of_length_le (by simp)] at st'
      have hj : l.pending = none := by rw [hl2]; rfl
      have hb : (l.state == LoopState.busy) = false := by rw [hl2]; rfl
      have d8 := fr'.keep _ _ c8 n8.2 n8.1
      have d7 := fr'.keep _ _ c7 n7.2 n7.1
      refine ⟨l, .normal, d8, hb, by rw [hj]; rfl, ?_⟩
      simp
      rw [endE_mark (by rw [get_set, if_neg (by omega)]; exact d7)]
      simp
      refine hq _ _ ((st'.setOther _ n8.2 n8.1).setOther _ n7.2 n7.1) ?_
      exact (((fr3.trans fr4).trans fr').setFresh _ (by omega)).setFresh _ (by omega)
end
end Go.Proofs.Ytcllchaboahlfaa
end
