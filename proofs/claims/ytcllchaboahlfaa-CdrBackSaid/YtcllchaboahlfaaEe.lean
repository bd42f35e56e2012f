/- Helpers of this claim: an evaluator over plain values and its laws. -/
import Derived.Test.YtcllchaboahlfaaEd
section
set_option linter.unusedVariables false
set_option linter.unusedSimpArgs false
namespace Go.Proofs.Ytcllchaboahlfaa
open Go Go.Proofs.Ytcllchaboahlfaa.Den
/-! ### the first zero -/
def zeroW (s : List UInt8) : Nat := s.findIdx (· == 0)
theorem indexByte_find (c : UInt8) : ∀ (l : List UInt8), Lib.indexByte l c = if l.findIdx (· == c) < l.length then ((l.findIdx (· == c) : Nat) : Int) else -1
  | [] => rfl
  | b :: l => by
    unfold Lib.indexByte
    rw [indexByte_find c l, List.findIdx_cons]
    cases hb : (b == c) with
    | true => simp
    | false =>
      simp only [Bool.false_eq_true, if_false, cond_false, List.length_cons]
      by_cases h : l.findIdx (· == c) < l.length
      · rw [if_pos h, if_pos (show l.findIdx (· == c) + 1 < l.length + 1 by omega), if_neg (by simp)]; omega
      · rw [if_neg h, if_neg (show ¬ l.findIdx (· == c) + 1 < l.length + 1 by omega)]; rfl
set_option maxRecDepth 100000 in
theorem index98 (s : List UInt8) (c : Int) (H : World) (Q : Value → World → Prop) : FW X 98 #[.string (sB s), .int .u8 c] H Q = Q (.int .i64 (Lib.indexByte s c.toNat.toUInt8)) H := by
  refine FW.aloneEq ?_ Try.func98 Try.ntmps98 rfl (by simp) ?_ H Q
  · simp [X, plainDI, plainDS]
  have hc : ∀ H, callJ Try.prog (.func (.func 104) #[] #[]) #[.string (sB s), .int .u8 c] H = _ := fun H => callJ_idx 104 (sB s) c isIdx104
  have hd : (sB s).data.toList = s := rfl
  simp [hc, hd]
set_option maxRecDepth 100000 in
theorem index79 (s : List UInt8) (c : Int) (H : World) (Q : Value → World → Prop) : FW X 79 #[.string (sB s), .int .u8 c] H Q = Q (.int .i64 (Lib.indexByte s c.toNat.toUInt8)) H := by
  refine FW.aloneEq ?_ Try.func79 Try.ntmps79 rfl (by simp) ?_ H Q
  · simp [X, plainDI, plainDS]
  simp [index98]
set_option maxRecDepth 100000 in
theorem Zero88 (s : List UInt8) (hl : s.length < 2 ^ 62) (H : World) (Q : Value → World → Prop) : FW X 88 #[.string (sB s)] H Q = Q (.int .i64 (zeroW s)) H := by
  refine FW.aloneEq ?_ Try.func88 Try.ntmps88 rfl (by simp) ?_ H Q
  · simp [X, plainDS]
  simp
  refine CE.range (m := s.length) (fun k e H' => lk e 0 = .string (sB s) ∧ ∀ j (hj : j < s.length), j < k → s[j] ≠ 0) ?_ (by omega) ?_ ?_ ?_
  · decide
  · simp
  · rintro k e H' hk h1 h2 ⟨h3, h4⟩
    simp [h1, h2, h3, hk]
    refine gIf_dec (fun h => ?_) (fun h => ?_)
    · have h0 : s[k] = 0 := by
        apply UInt8.toNat_inj.1
        have : (s[k].toNat : Int) = 0 := by simpa using h
        simpa using this
      have : zeroW s = k := by
        unfold zeroW
        rw [List.findIdx_eq hk]
        exact ⟨by simp [h0], fun j hj => by simpa using h4 j (by omega) hj⟩
      simp [this]
    · simp [h1, h2, h3]
      intro j hj hjk
      by_cases e : j = k
      · subst e
        intro h0
        apply h
        rw [h0]; rfl
      · exact h4 j hj (by omega)
  · rintro e H' h1 h2 ⟨h3, h4⟩
    have : zeroW s = s.length := by
      unfold zeroW
      apply List.findIdx_eq_length_of_false
      intro x hx
      obtain ⟨j, hj, rfl⟩ := List.getElem_of_mem hx
      simpa using h4 j hj hj
    simp [h3, this]
/-! ### the other acts of writers -/
def flagW (at' : Int) (out : List UInt8) (b : Bool) : List UInt8 × Int := octetW at' out (if b = true then 1 else 0)
def bytesW (at' : Int) (out s : List UInt8) (big : Bool) : List UInt8 × Int := putW at' out (numL s.length 4 big ++ s) 4
def textW (at' : Int) (out s : List UInt8) (big : Bool) : List UInt8 × Int := if zeroW s < s.length then (out, 12) else putW at' out (numL (s.length + 1) 4 big ++ (s ++ [0])) 4
def alignW (at' : Int) (out : List UInt8) (size : Int) : List UInt8 × Int := if sizeW size = true then putW at' out [] size else (out, 7)
section
variable {H : World} {wb : Nat} {big : Bool} {at' : Int} {out : List UInt8} {v : Value}
theorem Flag41 (st : WSt H 64 wb big at' out v) (b : Bool) {Q : Value → World → Prop}
    (hq : ∀ v' H', WSt H' 64 wb big at' (flagW at' out b).1 v' → FrW H H' wb v v' → Q (.int .i64 (flagW at' out b).2) H') : FW X 41 #[p0 wb, .bool b] H Q := by
  refine FW.walk (by simp [X]) Try.func41 Try.ntmps41 rfl (by simp) ?_
  unfold flagW at hq
  cases b
  all_goals
    simp
    refine Octet19 st _ fun v2 H2 st2 fr2 => ?_
    simp
    exact hq v2 H2 st2 fr2
theorem Flag48 (st : WSt H 67 wb big at' out v) (b : Bool) {Q : Value → World → Prop}
    (hq : ∀ v' H', WSt H' 67 wb big at' (flagW at' out b).1 v' → FrW H H' wb v v' → Q (.int .i64 (flagW at' out b).2) H') : FW X 48 #[p0 wb, .bool b] H Q := by
  refine FW.walk (by simp [X]) Try.func48 Try.ntmps48 rfl (by simp) ?_
  unfold flagW at hq
  cases b
  all_goals
    simp
    refine Octet47 st _ fun v2 H2 st2 fr2 => ?_
    simp
    exact hq v2 H2 st2 fr2
theorem Short42 (st : WSt H 64 wb big at' out v) (n : Int) {Q : Value → World → Prop}
    (hq : ∀ v' H', WSt H' 64 wb big at' (numberW at' out n 2 big).1 v' → FrW H H' wb v v' → Q (.int .i64 (numberW at' out n 2 big).2) H') : FW X 42 #[p0 wb, .int .i64 n] H Q := by
  refine FW.walk (by simp [X]) Try.func42 Try.ntmps42 rfl (by simp) ?_
  simp
  refine number83 st n 2 (by simp) fun v2 H2 st2 fr2 => ?_
  simp
  exact hq v2 H2 st2 fr2
theorem Long37 (st : WSt H 64 wb big at' out v) (n : Int) {Q : Value → World → Prop}
    (hq : ∀ v' H', WSt H' 64 wb big at' (numberW at' out n 4 big).1 v' → FrW H H' wb v v' → Q (.int .i64 (numberW at' out n 4 big).2) H') : FW X 37 #[p0 wb, .int .i64 n] H Q := by
  refine FW.walk (by simp [X]) Try.func37 Try.ntmps37 rfl (by simp) ?_
  simp
  refine number83 st n 4 (by simp) fun v2 H2 st2 fr2 => ?_
  simp
  exact hq v2 H2 st2 fr2
theorem Huge43 (st : WSt H 64 wb big at' out v) (n : Int) {Q : Value → World → Prop}
    (hq : ∀ v' H', WSt H' 64 wb big at' (numberW at' out n 8 big).1 v' → FrW H H' wb v v' → Q (.int .i64 (numberW at' out n 8 big).2) H') : FW X 43 #[p0 wb, .int .i64 n] H Q := by
  refine FW.walk (by simp [X]) Try.func43 Try.ntmps43 rfl (by simp) ?_
  simp
  refine number83 st n 8 (by simp) fun v2 H2 st2 fr2 => ?_
  simp
  exact hq v2 H2 st2 fr2
set_option maxRecDepth 100000 in
theorem number87 (st : WSt H 67 wb big at' out v) (n : Int) (size : Nat) (hs : size = 2 ∨ size = 4 ∨ size = 8) {Q : Value → World → Prop}
    (hq : ∀ v' H', WSt H' 67 wb big at' (numberW at' out n size big).1 v' → FrW H H' wb v v' → Q (.int .i64 (numberW at' out n size big).2) H') : FW X 87 #[p0 wb, .int .i64 n, .int .i64 size] H Q := by
  refine FW.walk (by simp [X]) Try.func87 Try.ntmps87 rfl (by simp) ?_
  have w1 : IntKind.i64.wrap (8 * (size : Int)) = 8 * (size : Int) := wrap64' (by omega) (by omega)
  have w2 : IntKind.i64.wrap (8 * (size : Int) - 1) = 8 * (size : Int) - 1 := wrap64' (by omega) (by omega)
  have hw := st.hw
  cases hbad : numBad n size with
  | true =>
    have hq7 : numberW at' out n size big = (out, 7) := by unfold numberW; rw [if_pos hbad]
    rw [hq7] at hq
    simp only [numBad, Bool.and_eq_true, Bool.or_eq_true, decide_eq_true_eq] at hbad
    obtain ⟨h8, hb⟩ := hbad
    have hs2 : size = 2 ∨ size = 4 := by omega
    have h8' : (size : Int) < 8 := by omega
    have nb := neg_bound hs2
    by_cases c1 : n < -bound size
    · simp [vptr_nil, h8', w1, w2, shl_one hs2, c1, nb]
      exact hq v H st FrW.refl
    · have c2 : bound size ≤ n := by omega
      simp [vptr_nil, h8', w1, w2, shl_one hs2, c1, c2, nb]
      exact hq v H st FrW.refl
  | false =>
    have hq7 : numberW at' out n size big = putW at' out (numL n size big) size := by unfold numberW; rw [if_neg (by rw [hbad]; simp)]
    rw [hq7] at hq
    have hsW : sizeW (size : Int) = true := sizeW_iff.2 (by omega)
    have hgo : size = 8 ∨ (size = 2 ∨ size = 4) ∧ size < 8 ∧ ¬ n < -bound size ∧ ¬ bound size ≤ n := by
      rcases hs with h | h | h
      · right
        simp [numBad, h] at hbad ⊢
        omega
      · right
        simp [numBad, h] at hbad ⊢
        omega
      · exact .inl h
    rcases hgo with h8 | ⟨hs2, h8, c1, c2⟩
    have h8' : ¬ (size : Int) < 8 := by omega
    simp [vptr_nil, h8', w1, w2, hw, Number90 n size big (by omega)]
    rotate_left
    have h8' : (size : Int) < 8 := by omega
    have nb := neg_bound hs2
    simp [vptr_nil, h8', w1, w2, shl_one hs2, c1, c2, nb, hw, Number90 n size big (by omega)]
    all_goals
      refine put86 st (numL n size big) size hsW (by simp; omega) fun v2 H2 st2 fr2 => ?_
      simp
      exact hq v2 H2 st2 fr2
theorem Short49 (st : WSt H 67 wb big at' out v) (n : Int) {Q : Value → World → Prop}
    (hq : ∀ v' H', WSt H' 67 wb big at' (numberW at' out n 2 big).1 v' → FrW H H' wb v v' → Q (.int .i64 (numberW at' out n 2 big).2) H') : FW X 49 #[p0 wb, .int .i64 n] H Q := by
  refine FW.walk (by simp [X]) Try.func49 Try.ntmps49 rfl (by simp) ?_
  simp
  refine number87 st n 2 (by simp) fun v2 H2 st2 fr2 => ?_
  simp
  exact hq v2 H2 st2 fr2
theorem Long50 (st : WSt H 67 wb big at' out v) (n : Int) {Q : Value → World → Prop}
    (hq : ∀ v' H', WSt H' 67 wb big at' (numberW at' out n 4 big).1 v' → FrW H H' wb v v' → Q (.int .i64 (numberW at' out n 4 big).2) H') : FW X 50 #[p0 wb, .int .i64 n] H Q := by
  refine FW.walk (by simp [X]) Try.func50 Try.ntmps50 rfl (by simp) ?_
  simp
  refine number87 st n 4 (by simp) fun v2 H2 st2 fr2 => ?_
  simp
  exact hq v2 H2 st2 fr2
theorem Huge51 (st : WSt H 67 wb big at' out v) (n : Int) {Q : Value → World → Prop}
    (hq : ∀ v' H', WSt H' 67 wb big at' (numberW at' out n 8 big).1 v' → FrW H H' wb v v' → Q (.int .i64 (numberW at' out n 8 big).2) H') : FW X 51 #[p0 wb, .int .i64 n] H Q := by
  refine FW.walk (by simp [X]) Try.func51 Try.ntmps51 rfl (by simp) ?_
  simp
  refine number87 st n 8 (by simp) fun v2 H2 st2 fr2 => ?_
  simp
  exact hq v2 H2 st2 fr2
end
end Go.Proofs.Ytcllchaboahlfaa
end
