/- Helpers of this claim: an evaluator over plain values and its laws. -/
import Derived.Test.YtcllchaboahlfaaEc
section
set_option linter.unusedVariables false
set_option linter.unusedSimpArgs false
namespace Go.Proofs.Ytcllchaboahlfaa
open Go Go.Proofs.Ytcllchaboahlfaa.Den
/-! ### raw bytes, counted bytes -/
theorem pad_one (at' : Int) (out : List UInt8) : padN at' out 1 = 0 := by simp [padN, padW]
theorem putW_len {at' : Int} {out s : List UInt8} {size : Int} (h : out.length ≤ 65536) : (putW at' out s size).1.length ≤ 65536 := by
  unfold putW
  split
  · exact h
  · simp; omega
section
variable {H : World} {wb : Nat} {big : Bool} {at' : Int} {out : List UInt8} {v : Value}
set_option maxRecDepth 100000 in
theorem Raw45 (st : WSt H 64 wb big at' out v) (s : List UInt8) (hs : s.length ≤ 2 ^ 20) {Q : Value → World → Prop}
    (hq : ∀ v' H', WSt H' 64 wb big at' (putW at' out s 1).1 v' → FrW H H' wb v v' → Q (.int .i64 (putW at' out s 1).2) H') : FW X 45 #[p0 wb, .string (sB s)] H Q := by
  refine FW.walk (by simp [X]) Try.func45 Try.ntmps45 rfl (by simp) ?_
  simp [wptr_nil]
  refine room85 st 1 s.length (by simp [sizeW]) ⟨by omega, by omega⟩ fun v2 H2 st2 fr2 => ?_
  unfold roomW at st2 ⊢
  unfold putW at hq
  rw [pad_one] at *
  by_cases h : 65536 < (out.length : Int) + (0 : Nat) + s.length
  · rw [if_pos h] at *
    simp
    exact hq v2 H2 st2 fr2
  · rw [if_neg h] at *
    simp only [List.replicate_zero, List.append_nil] at *
    obtain ⟨v', H', e1, acc', fr⟩ := addStr st2.hv s (by have := st.len; omega)
    obtain ⟨k1, k2, k3⟩ := st2.store acc' fr (by simp; omega)
    have lw := getO_lt k1
    obtain ⟨c1, c2⟩ := Acc.one acc'
    have hw := st2.hw
    simp [hw, e1, k1, lw, c1, c2, overL]
    exact hq v' _ k2 (fr2.trans k3)
set_option maxRecDepth 100000 in
theorem put86 (st : WSt H 67 wb big at' out v) (s : List UInt8) (size : Int) (hsz : sizeW size = true) (hs : s.length ≤ 2 ^ 20) {Q : Value → World → Prop}
    (hq : ∀ v' H', WSt H' 67 wb big at' (putW at' out s size).1 v' → FrW H H' wb v v' → Q (.int .i64 (putW at' out s size).2) H') : FW X 86 #[p0 wb, .string (sB s), .int .i64 size] H Q := by
  refine FW.walk (by simp [X]) Try.func86 Try.ntmps86 rfl (by simp) ?_
  obtain ⟨hw, hv, ap, a0, a7, hl⟩ := id st
  have hlen := fun H0 => AccB.len57 hv H0
  obtain ⟨q1, q2, q3⟩ := padW_nat (place := at' + out.length) hsz (by omega)
  have hpo : padOk (at' + out.length) size = true := by simp [padOk, hsz]; omega
  have hpn : padW (at' + out.length) size = ((padN at' out size : Nat) : Int) := by unfold padN; omega
  have hp := Pad22 (at' + out.length) size (by omega)
  rw [hpo, if_pos rfl, if_pos rfl, hpn] at hp
  have hpl : padN at' out size < 8 := by omega
  unfold putW at hq
  generalize hn : padN at' out size = n at *
  have w1 : IntKind.i64.wrap ((out.length : Int) + (n : Int)) = (out.length : Int) + (n : Int) := wrap64 (by omega) (by omega)
  have w2 : IntKind.i64.wrap ((out.length : Int) + (n : Int) + (s.length : Int)) = (out.length : Int) + (n : Int) + (s.length : Int) := wrap64 (by omega) (by omega)
  simp [Place16 st, hp, hw, hlen, w1, w2]
  refine gIf_dec (fun h => ?_) (fun h => ?_)
  · rw [if_pos h] at hq
    simp
    exact hq v H st FrW.refl
  · rw [if_neg h] at hq
    obtain ⟨v1, H1, e1, acc1, fr1⟩ := addZeros hv n (by omega)
    obtain ⟨k1, k2, k3⟩ := st.store acc1 fr1 (by simp; omega)
    have lw := getO_lt k1
    obtain ⟨c1, c2⟩ := Acc.one acc1
    simp [hw, e1, k1, lw, c1, c2, overL]
    generalize hH2 : setO H1 wb (Obj.cells #[.bool big, .int .i64 at', v1] 67 (0, 0)) = H2 at *
    obtain ⟨v', H', e2, acc2, fr2⟩ := addStr k2.hv s (by simp; omega)
    obtain ⟨m1, m2, m3⟩ := k2.store acc2 fr2 (by simp; omega)
    have lw2 := getO_lt m1
    obtain ⟨d1, d2⟩ := Acc.one acc2
    have hw2 := k2.hw
    simp [hw2, e2, m1, lw2, d1, d2, overL]
    exact hq v' _ m2 (k3.trans m3)
set_option maxRecDepth 100000 in
theorem Raw54 (st : WSt H 67 wb big at' out v) (s : List UInt8) (hs : s.length ≤ 2 ^ 20) {Q : Value → World → Prop}
    (hq : ∀ v' H', WSt H' 67 wb big at' (putW at' out s 1).1 v' → FrW H H' wb v v' → Q (.int .i64 (putW at' out s 1).2) H') : FW X 54 #[p0 wb, .string (sB s)] H Q := by
  refine FW.walk (by simp [X]) Try.func54 Try.ntmps54 rfl (by simp) ?_
  simp [vptr_nil]
  refine put86 st s 1 (by simp [sizeW]) hs fun v2 H2 st2 fr2 => ?_
  simp
  exact hq v2 H2 st2 fr2
def octetW (at' : Int) (out : List UInt8) (n : Int) : List UInt8 × Int := if n < 0 ∨ 255 < n then (out, 7) else putW at' out [UInt8.ofNat n.toNat] 1
theorem byte_of {n : Int} (h0 : 0 ≤ n) (h1 : n ≤ 255) : Value.int .u8 (IntKind.u8.wrap n) = u8V (UInt8.ofNat n.toNat) := by
  rw [wrapU8]
  simp only [u8V, UInt8.toNat_ofNat']
  congr 1; omega
theorem conv_one {H : World} {r : Nat} {b : UInt8} (h : getO H r = some (.cells #[u8V b] 5 (0, 0))) : convX Try.prog 57 9 (.slice (some ⟨r, 0, none⟩) 1 1) H = some (.value (.string (sB [b])), H) :=
  conv_row (P := Try.prog) (src := 57) (dst := 9) (r := r) (c := 1) (fr := (0, 0)) (bs := [b]) (H := H) Try.underlying57 Try.underlying5 Try.underlying9 h
set_option maxRecDepth 100000 in
theorem Octet19 (st : WSt H 64 wb big at' out v) (n : Int) {Q : Value → World → Prop}
    (hq : ∀ v' H', WSt H' 64 wb big at' (octetW at' out n).1 v' → FrW H H' wb v v' → Q (.int .i64 (octetW at' out n).2) H') : FW X 19 #[p0 wb, .int .i64 n] H Q := by
  refine FW.walk (by simp [X]) Try.func19 Try.ntmps19 rfl (by simp) ?_
  unfold octetW at hq
  by_cases h : n < 0 ∨ 255 < n
  · rw [if_pos h] at hq
    by_cases h0 : n < 0
    · simp [wptr_nil, h0]
      exact hq v H st FrW.refl
    · have h1 : 255 < n := by omega
      simp [wptr_nil, h0, h1]
      exact hq v H st FrW.refl
  · rw [if_neg h] at hq
    have h0 : ¬ n < 0 := by omega
    have h1 : ¬ 255 < n := by omega
    have hbt := byte_of (n := n) (by omega) (by omega)
    generalize UInt8.ofNat n.toNat = b at *
    have hc := conv_one (H := pushObj H (.cells #[u8V b] 5 (0, 0))) (r := H.heap.size) (b := b) (by simp)
    simp [wptr_nil, h0, h1, hbt, buildSliceX, inOrder, catCells, szO, hc]
    refine Raw45 (st.push _) [b] (by simp) fun v2 H2 st2 fr2 => ?_
    simp
    exact hq v2 H2 st2 ((FrW.push _).trans fr2)
set_option maxRecDepth 100000 in
theorem Octet47 (st : WSt H 67 wb big at' out v) (n : Int) {Q : Value → World → Prop}
    (hq : ∀ v' H', WSt H' 67 wb big at' (octetW at' out n).1 v' → FrW H H' wb v v' → Q (.int .i64 (octetW at' out n).2) H') : FW X 47 #[p0 wb, .int .i64 n] H Q := by
  refine FW.walk (by simp [X]) Try.func47 Try.ntmps47 rfl (by simp) ?_
  unfold octetW at hq
  by_cases h : n < 0 ∨ 255 < n
  · rw [if_pos h] at hq
    by_cases h0 : n < 0
    · simp [vptr_nil, h0]
      exact hq v H st FrW.refl
    · have h1 : 255 < n := by omega
      simp [vptr_nil, h0, h1]
      exact hq v H st FrW.refl
  · rw [if_neg h] at hq
    have h0 : ¬ n < 0 := by omega
    have h1 : ¬ 255 < n := by omega
    have hbt := byte_of (n := n) (by omega) (by omega)
    generalize UInt8.ofNat n.toNat = b at *
    have hc := conv_one (H := pushObj H (.cells #[u8V b] 5 (0, 0))) (r := H.heap.size) (b := b) (by simp)
    simp [vptr_nil, h0, h1, hbt, buildSliceX, inOrder, catCells, szO, hc]
    refine put86 (st.push _) [b] 1 (by simp [sizeW]) (by simp) fun v2 H2 st2 fr2 => ?_
    simp
    exact hq v2 H2 st2 ((FrW.push _).trans fr2)
end
end Go.Proofs.Ytcllchaboahlfaa
end
