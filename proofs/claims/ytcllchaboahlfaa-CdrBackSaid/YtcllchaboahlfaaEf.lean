/- Helpers of this claim: an evaluator over plain values and its laws. -/
import Derived.Test.YtcllchaboahlfaaEe
section
set_option linter.unusedVariables false
set_option linter.unusedSimpArgs false
namespace Go.Proofs.Ytcllchaboahlfaa
open Go Go.Proofs.Ytcllchaboahlfaa.Den
section
variable {H : World} {wb : Nat} {big : Bool} {at' : Int} {out : List UInt8} {v : Value}
set_option maxRecDepth 100000 in
theorem counted84 (st : WSt H 64 wb big at' out v) (n : Nat) (s : List UInt8) (hn : n ≤ 2 ^ 20) (hs : s.length ≤ 2 ^ 20) {Q : Value → World → Prop}
    (hq : ∀ v' H', WSt H' 64 wb big at' (putW at' out (numL n 4 big ++ s) 4).1 v' → FrW H H' wb v v' → Q (.int .i64 (putW at' out (numL n 4 big ++ s) 4).2) H') : FW X 84 #[p0 wb, .int .i64 n, .string (sB s)] H Q := by
  refine FW.walk (by simp [X]) Try.func84 Try.ntmps84 rfl (by simp) ?_
  obtain ⟨hw, hv, ap, a0, a7, hl⟩ := id st
  have hlen := fun H0 => AccB.len57 hv H0
  have hsz : sizeW 4 = true := by simp [sizeW]
  obtain ⟨q1, q2, q3⟩ := padW_nat (place := at' + out.length) hsz (by omega)
  have hpo : padOk (at' + out.length) 4 = true := by simp [padOk, hsz]; omega
  have hpn : padW (at' + out.length) 4 = ((padN at' out 4 : Nat) : Int) := by unfold padN; omega
  have hp := padding58 (at' + out.length) 4 (by omega)
  rw [hpo, if_pos rfl, hpn] at hp
  have hpl : padN at' out 4 < 8 := by omega
  have w1 : IntKind.i64.wrap ((out.length : Int) + (padN at' out 4 : Int)) = (out.length : Int) + (padN at' out 4 : Int) := wrap64 (by omega) (by omega)
  have w2 : IntKind.i64.wrap ((out.length : Int) + (padN at' out 4 : Int) + 4) = (out.length : Int) + (padN at' out 4 : Int) + 4 := wrap64 (by omega) (by omega)
  have w3 : IntKind.i64.wrap ((out.length : Int) + (padN at' out 4 : Int) + 4 + (s.length : Int)) = (out.length : Int) + (padN at' out 4 : Int) + 4 + (s.length : Int) := wrap64 (by omega) (by omega)
  simp [Place15 st, hp, hw, hlen, w1, w2, w3]
  have hlb : (numL n 4 big ++ s).length = 4 + s.length := by simp
  refine gIf_dec (fun h => ?_) (fun h => ?_)
  · have e : putW at' out (numL n 4 big ++ s) 4 = (out, 4) := by unfold putW; rw [hlb, if_pos (by omega)]
    rw [e] at hq
    simp
    exact hq v H st FrW.refl
  · have e : putW at' out (numL n 4 big ++ s) 4 = (out ++ List.replicate (padN at' out 4) 0 ++ (numL n 4 big ++ s), 0) := by unfold putW; rw [hlb, if_neg (by omega)]
    have e2 : numberW at' out n 4 big = (out ++ List.replicate (padN at' out 4) 0 ++ numL n 4 big, 0) := by
      unfold numberW
      have hb4 : bound 4 = 2147483648 := rfl
      rw [if_neg (by simp only [numBad, hb4, Bool.and_eq_true, Bool.or_eq_true, decide_eq_true_eq]; omega)]
      have e4 : ((4 : Nat) : Int) = 4 := rfl
      unfold putW
      rw [numL_len, e4, if_neg (by omega)]
    rw [e] at hq
    simp
    refine number83 st n 4 (by simp) fun v2 H2 st2 fr2 => ?_
    rw [e2] at st2 ⊢
    obtain ⟨v', H', e1, acc', fr⟩ := addStr st2.hv s (by have := st2.len; omega)
    obtain ⟨k1, k2, k3⟩ := st2.store acc' fr (by simp; omega)
    have lw := getO_lt k1
    obtain ⟨c1, c2⟩ := Acc.one acc'
    have hw2 := st2.hw
    simp only [List.append_assoc] at *
    simp [hw2, e1, k1, lw, c1, c2, overL]
    exact hq v' _ k2 (fr2.trans k3)
set_option maxRecDepth 100000 in
theorem counted89 (st : WSt H 67 wb big at' out v) (n : Nat) (s : List UInt8) (hn : n ≤ 2 ^ 20) (hs : s.length ≤ 2 ^ 19) {Q : Value → World → Prop}
    (hq : ∀ v' H', WSt H' 67 wb big at' (putW at' out (numL n 4 big ++ s) 4).1 v' → FrW H H' wb v v' → Q (.int .i64 (putW at' out (numL n 4 big ++ s) 4).2) H') : FW X 89 #[p0 wb, .int .i64 n, .string (sB s)] H Q := by
  refine FW.walk (by simp [X]) Try.func89 Try.ntmps89 rfl (by simp) ?_
  have hw := st.hw
  have h4 := Number90 n 4 big (by omega)
  have hle : 4 + s.length ≤ 9223372036854775807 := by omega
  have e4 : ((4 : Nat) : Int) = 4 := rfl
  rw [e4] at h4
  simp [hw, h4, hle]
  refine put86 st _ 4 (by simp [sizeW]) (by simp; omega) fun v2 H2 st2 fr2 => ?_
  simp
  exact hq v2 H2 st2 fr2
theorem Bytes44 (st : WSt H 64 wb big at' out v) (s : List UInt8) (hs : s.length ≤ 2 ^ 19) {Q : Value → World → Prop}
    (hq : ∀ v' H', WSt H' 64 wb big at' (bytesW at' out s big).1 v' → FrW H H' wb v v' → Q (.int .i64 (bytesW at' out s big).2) H') : FW X 44 #[p0 wb, .string (sB s)] H Q := by
  refine FW.walk (by simp [X]) Try.func44 Try.ntmps44 rfl (by simp) ?_
  simp [wptr_nil]
  refine counted84 st s.length s (by omega) (by omega) fun v2 H2 st2 fr2 => ?_
  simp
  exact hq v2 H2 st2 fr2
theorem Bytes53 (st : WSt H 67 wb big at' out v) (s : List UInt8) (hs : s.length ≤ 2 ^ 19) {Q : Value → World → Prop}
    (hq : ∀ v' H', WSt H' 67 wb big at' (bytesW at' out s big).1 v' → FrW H H' wb v v' → Q (.int .i64 (bytesW at' out s big).2) H') : FW X 53 #[p0 wb, .string (sB s)] H Q := by
  refine FW.walk (by simp [X]) Try.func53 Try.ntmps53 rfl (by simp) ?_
  simp [vptr_nil]
  refine gIf_dec (fun h => ?_) (fun h => ?_)
  · have e : bytesW at' out s big = (out, 4) := by unfold bytesW putW; rw [if_pos (by simp; omega)]
    rw [e] at hq
    simp
    exact hq v H st FrW.refl
  · simp
    refine counted89 st s.length s (by omega) (by omega) fun v2 H2 st2 fr2 => ?_
    simp
    exact hq v2 H2 st2 fr2
set_option maxRecDepth 100000 in
theorem Text38 (st : WSt H 64 wb big at' out v) (s : List UInt8) (hs : s.length < 2 ^ 19) {Q : Value → World → Prop}
    (hq : ∀ v' H', WSt H' 64 wb big at' (textW at' out s big).1 v' → FrW H H' wb v v' → Q (.int .i64 (textW at' out s big).2) H') : FW X 38 #[p0 wb, .string (sB s)] H Q := by
  refine FW.walk (by simp [X]) Try.func38 Try.ntmps38 rfl (by simp) ?_
  have hi : Lib.indexByte s (0 : Int).toNat.toUInt8 = if zeroW s < s.length then (zeroW s : Int) else -1 := indexByte_find 0 s
  have h79 := index79 s 0
  rw [hi] at h79
  unfold textW at hq
  by_cases hz : zeroW s < s.length
  · rw [if_pos hz] at hq h79
    simp [wptr_nil, h79]
    exact hq v H st FrW.refl
  · rw [if_neg hz] at hq h79
    have w1 : IntKind.i64.wrap ((s.length : Int) + 1) = ((s.length + 1 : Nat) : Int) := by rw [wrap64 (by omega) (by omega)]; omega
    have hle : s.length + 1 ≤ 9223372036854775807 := by omega
    have hle2 : s.length ≤ 9223372036854775806 := by omega
    simp [wptr_nil, h79, w1, hle, hle2]
    refine counted84 st (s.length + 1) (s ++ [0]) (by omega) (by simp; omega) fun v2 H2 st2 fr2 => ?_
    simp
    exact hq v2 H2 st2 fr2
set_option maxRecDepth 100000 in
theorem Text52 (st : WSt H 67 wb big at' out v) (s : List UInt8) (hs : s.length < 2 ^ 19) {Q : Value → World → Prop}
    (hq : ∀ v' H', WSt H' 67 wb big at' (textW at' out s big).1 v' → FrW H H' wb v v' → Q (.int .i64 (textW at' out s big).2) H') : FW X 52 #[p0 wb, .string (sB s)] H Q := by
  refine FW.walk (by simp [X]) Try.func52 Try.ntmps52 rfl (by simp) ?_
  have h88 := Zero88 s (by omega)
  unfold textW at hq
  by_cases hz : zeroW s < s.length
  · rw [if_pos hz] at hq
    simp [vptr_nil, h88, hz]
    exact hq v H st FrW.refl
  · rw [if_neg hz] at hq
    have w1 : IntKind.i64.wrap ((s.length : Int) + 1) = ((s.length + 1 : Nat) : Int) := by rw [wrap64 (by omega) (by omega)]; omega
    have hle : s.length + 1 ≤ 9223372036854775807 := by omega
    have hle2 : s.length ≤ 9223372036854775806 := by omega
    simp [vptr_nil, h88, hz]
    refine gIf_dec (fun h => ?_) (fun h => ?_)
    · have e : putW at' out (numL (s.length + 1) 4 big ++ (s ++ [0])) 4 = (out, 4) := by unfold putW; rw [if_pos (by simp; omega)]
      rw [e] at hq
      simp
      exact hq v H st FrW.refl
    · simp [w1, hle, hle2]
      refine counted89 st (s.length + 1) (s ++ [0]) (by omega) (by simp; omega) fun v2 H2 st2 fr2 => ?_
      simp
      exact hq v2 H2 st2 fr2
set_option maxRecDepth 100000 in
theorem Align46 (st : WSt H 64 wb big at' out v) (size : Int) {Q : Value → World → Prop}
    (hq : ∀ v' H', WSt H' 64 wb big at' (alignW at' out size).1 v' → FrW H H' wb v v' → Q (.int .i64 (alignW at' out size).2) H') : FW X 46 #[p0 wb, .int .i64 size] H Q := by
  refine FW.walk (by simp [X]) Try.func46 Try.ntmps46 rfl (by simp) ?_
  unfold alignW at hq
  cases hs : sizeW size with
  | false =>
    rw [hs, if_neg (by simp)] at hq
    simp [wptr_nil, padding58, padOk, hs]
    exact hq v H st FrW.refl
  | true =>
    rw [hs, if_pos rfl] at hq
    simp [wptr_nil, padding58, padOk, hs]
    refine room85 st size 0 hs ⟨by omega, by omega⟩ fun v2 H2 st2 fr2 => ?_
    simp
    have e : roomW at' out size 0 = putW at' out [] size := by simp [roomW, putW]
    rw [e] at st2 ⊢
    exact hq v2 H2 st2 fr2
set_option maxRecDepth 100000 in
theorem Align55 (st : WSt H 67 wb big at' out v) (size : Int) {Q : Value → World → Prop}
    (hq : ∀ v' H', WSt H' 67 wb big at' (alignW at' out size).1 v' → FrW H H' wb v v' → Q (.int .i64 (alignW at' out size).2) H') : FW X 55 #[p0 wb, .int .i64 size] H Q := by
  refine FW.walk (by simp [X]) Try.func55 Try.ntmps55 rfl (by simp) ?_
  unfold alignW at hq
  cases hs : sizeW size with
  | false =>
    rw [hs, if_neg (by simp)] at hq
    simp [vptr_nil, Size59, hs]
    exact hq v H st FrW.refl
  | true =>
    rw [hs, if_pos rfl] at hq
    simp [vptr_nil, Size59, hs]
    refine put86 st [] size hs (by simp) fun v2 H2 st2 fr2 => ?_
    simp
    exact hq v2 H2 st2 fr2
set_option maxRecDepth 100000 in
theorem All17 (st : WSt H 64 wb big at' out v) (Q : Value → World → Prop) : FW X 17 #[p0 wb] H Q = Q (.string (sB out)) H := by
  refine FW.eqE (by simp [X]) Try.func17 Try.ntmps17 rfl (by simp) ?_ Q
  have hw := st.hw
  have hc := conv_bytes (P := Try.prog) (src := 57) (dst := 9) Try.underlying57 Try.underlying5 Try.underlying9 st.hv
  simp [wptr_nil, hw, hc]
set_option maxRecDepth 100000 in
theorem All18 (st : WSt H 67 wb big at' out v) (Q : Value → World → Prop) : FW X 18 #[p0 wb] H Q = Q (.string (sB out)) H := by
  refine FW.eqE (by simp [X]) Try.func18 Try.ntmps18 rfl (by simp) ?_ Q
  have hw := st.hw
  have hc := conv_bytes (P := Try.prog) (src := 57) (dst := 9) Try.underlying57 Try.underlying5 Try.underlying9 st.hv
  simp [vptr_nil, hw, hc]
end
end Go.Proofs.Ytcllchaboahlfaa
end
