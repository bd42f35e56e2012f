/- Helpers of this claim: an evaluator over plain values and its laws. -/
import Derived.Test.YtcllchaboahlfaaDe
section
set_option linter.unusedVariables false
set_option linter.unusedSimpArgs false
namespace Go.Proofs.Ytcllchaboahlfaa
open Go Go.Proofs.Ytcllchaboahlfaa.Den
/-! ### writers in memory -/
/-- What an append leaves alone. -/
structure FrV (H H' : World) (v v' : Value) : Prop where
  keep : ∀ i o, getO H i = some o → Apart v i → getO H' i = some o
  size : H.heap.size ≤ H'.heap.size
  apart : ∀ i, Apart v i → i < H.heap.size → Apart v' i
theorem addStr {H : World} {v : Value} {xs : List UInt8} (h : AccB 5 H v xs) (ys : List UInt8) (hl : xs.length + ys.length ≤ 2 ^ 40) : ∃ v' H', builtinX Try.prog .append #[57, 9] #[v, .string (sB ys)] H = some (.value v', H') ∧ AccB 5 H' v' (xs ++ ys) ∧ FrV H H' v v' := by
  obtain ⟨v', H', e1, acc', keepO, hsz, hap⟩ := Acc.append Try.prog (t1 := 57) (t2 := 9) h Try.underlying57 (by simp) info5 zero5 rfl rfl (by decide) (by decide) (by decide)
    (SrcX.string (P := Try.prog) (l := ys) (H := H)) (by simp) (by simp) (by simp [bytes5]; omega)
  refine ⟨v', H', e1, ?_, keepO, hsz, hap⟩
  unfold AccB
  rw [List.map_append, List.length_append]
  exact acc'
theorem addZeros {H : World} {v : Value} {xs : List UInt8} (h : AccB 5 H v xs) (n : Nat) (hl : xs.length + n ≤ 2 ^ 40) : ∃ v' H', builtinX Try.prog .append #[57, 3] #[v, .int .i64 n] H = some (.value v', H') ∧ AccB 5 H' v' (xs ++ List.replicate n 0) ∧ FrV H H' v v' := by
  have hz := appended_zeros (H := H) Try.prog (t2 := 3) (k := .i64) (k2 := .i64) (inf := Try.t5) (z := .int .u8 0) (n := n) Try.underlying3 zero5 rfl rfl (by omega) (by simp; omega)
  obtain ⟨v', H', e1, acc', keepO, hsz, hap⟩ := Acc.appendG Try.prog (t1 := 57) (t2 := 3) h Try.underlying57 hz info5 zero5 rfl rfl (by decide) (by decide) (by decide)
    (by simp) (by rw [List.all_eq_true]; intro x hx; rw [(List.mem_replicate.1 hx).2]; rfl) (by simp [bytes5]; omega)
  refine ⟨v', H', e1, ?_, keepO, hsz, hap⟩
  unfold AccB
  rw [List.map_append, List.length_append, List.length_replicate, List.map_replicate]
  exact acc'
theorem addByte {H : World} {v : Value} {xs : List UInt8} (h : AccB 5 H v xs) (b : UInt8) (hl : xs.length ≤ 2 ^ 39) : ∃ v' H', builtinX Try.prog .append #[57, 57] #[v, .slice (some ⟨H.heap.size, 0, none⟩) 1 1] (pushObj H (.cells #[u8V b] 5 (0, 0))) = some (.value v', H') ∧ AccB 5 H' v' (xs ++ [b]) ∧ FrV H H' v v' := by
  obtain ⟨v', H', e1, acc', keepO, hsz, hap⟩ := Acc.append Try.prog (t1 := 57) (t2 := 57) (Acc.push h (.cells #[u8V b] 5 (0, 0))) Try.underlying57 (by simp) info5 zero5 rfl rfl (by decide) (by decide) (by decide)
    (SrcX.row (r := H.heap.size) (n := 1) (c := 1) (cs := [u8V b]) (e := 5) (fr := (0, 0)) (by simp) rfl) rfl (by simp) (by simp [bytes5]; omega)
  refine ⟨v', H', e1, ?_, fun i o hi ha => keepO i o (by have := getO_lt hi; rw [get_push, if_neg (by omega)]; exact hi) ha, by rw [size_push] at hsz; omega, fun i ha hi => hap i ha (by rw [size_push]; omega)⟩
  unfold AccB
  rw [List.map_append, List.length_append]
  exact acc'
structure WSt (H : World) (t : TypeId) (wb : Nat) (big : Bool) (at' : Int) (out : List UInt8) (v : Value) : Prop where
  hw : getO H wb = some (.cells #[.bool big, .int .i64 at', v] t (0, 0))
  hv : AccB 5 H v out
  ap : Apart v wb
  at0 : 0 ≤ at'
  at7 : at' ≤ 7
  len : out.length ≤ 65536
structure FrW (H H' : World) (wb : Nat) (v v' : Value) : Prop where
  keep : ∀ j o, getO H j = some o → j ≠ wb → Apart v j → getO H' j = some o
  apart : ∀ j, j < H.heap.size → Apart v j → Apart v' j
  size : H.heap.size ≤ H'.heap.size
section
variable {H H' H2 : World} {t : TypeId} {wb : Nat} {big : Bool} {at' : Int} {out out' : List UInt8} {v v' v2 : Value}
theorem FrW.refl : FrW H H wb v v := ⟨fun _ _ h _ _ => h, fun _ _ h => h, Nat.le_refl _⟩
theorem FrW.trans (h : FrW H H' wb v v') (g : FrW H' H2 wb v' v2) : FrW H H2 wb v v2 :=
  ⟨fun j o h1 h2 h4 => g.keep j o (h.keep j o h1 h2 h4) h2 (h.apart j (getO_lt h1) h4), fun j h1 h2 => g.apart j (Nat.lt_of_lt_of_le h1 h.size) (h.apart j h1 h2), Nat.le_trans h.size g.size⟩
theorem FrW.push (o : Obj) : FrW H (pushObj H o) wb v v := ⟨fun j o' h1 _ _ => by have := getO_lt h1; rw [get_push, if_neg (by omega)]; exact h1, fun _ _ h => h, by simp⟩
theorem WSt.push (st : WSt H t wb big at' out v) (o : Obj) : WSt (pushObj H o) t wb big at' out v :=
  ⟨by have := getO_lt st.hw; rw [get_push, if_neg (by omega)]; exact st.hw, Acc.push st.hv o, st.ap, st.at0, st.at7, st.len⟩
theorem WSt.setOther (st : WSt H t wb big at' out v) {i : Nat} (o : Obj) (h1 : i ≠ wb) (h2 : Apart v i) : WSt (setO H i o) t wb big at' out v :=
  ⟨by rw [get_set, if_neg h1.symm]; exact st.hw, Acc.set st.hv o h2, st.ap, st.at0, st.at7, st.len⟩
theorem WSt.store (st : WSt H t wb big at' out v) (acc : AccB 5 H' v' out') (fr : FrV H H' v v') (hl : out'.length ≤ 65536) : getO H' wb = some (.cells #[.bool big, .int .i64 at', v] t (0, 0)) ∧
    WSt (setO H' wb (.cells #[.bool big, .int .i64 at', v'] t (0, 0))) t wb big at' out' v' ∧ FrW H (setO H' wb (.cells #[.bool big, .int .i64 at', v'] t (0, 0))) wb v v' := by
  have hlt := getO_lt st.hw
  have ha' : Apart v' wb := fr.apart wb st.ap hlt
  have hk := fr.keep _ _ st.hw st.ap
  have hlt' := getO_lt hk
  refine ⟨hk, ⟨by rw [get_set, if_pos rfl, if_pos hlt'], Acc.set acc _ ha', ha', st.at0, st.at7, hl⟩, fun j o h1 h2 h3 => ?_, fun j h1 h2 => fr.apart j h2 h1, by rw [size_set]; exact fr.size⟩
  rw [get_set, if_neg h2]; exact fr.keep j o h1 h3
/-- A loop's own cell is busy within a round, and as before behind it. -/
theorem FrW.loop {l : Nat} {b o : Obj} (hl : getO H l = some o) (hne : l ≠ wb) (ha : Apart v l) (fr : FrW (setO H l b) H' wb v v') : FrW H (setO H' l o) wb v v' := by
  have hlt := getO_lt hl
  have hb : getO (setO H l b) l = some b := by rw [get_set, if_pos rfl, if_pos hlt]
  have hb' := fr.keep l b hb hne ha
  have hlt' := getO_lt hb'
  refine ⟨fun j o' h1 h2 h3 => ?_, fun j h1 h2 => fr.apart j (by rw [size_set]; exact h1) h2, by rw [size_set]; have := fr.size; rw [size_set] at this; exact this⟩
  rw [get_set]
  by_cases hj : j = l
  · subst hj
    rw [if_pos rfl, if_pos hlt', ← h1, hl]
  · rw [if_neg hj]
    exact fr.keep j o' (by rw [get_set, if_neg hj]; exact h1) h2 h3
theorem FrW.setFresh (h : FrW H H' wb v v') {i : Nat} (o : Obj) (hi : H.heap.size ≤ i) : FrW H (setO H' i o) wb v v' :=
  ⟨fun j o' h1 h2 h3 => by have := getO_lt h1; rw [get_set, if_neg (by omega)]; exact h.keep j o' h1 h2 h3, h.apart, by rw [size_set]; exact h.size⟩
theorem WSt.fresh (st : WSt H t wb big at' out v) {i : Nat} (hi : H.heap.size ≤ i) : Apart v i ∧ i ≠ wb := ⟨Acc.fresh st.hv hi, fun e => by have := getO_lt st.hw; omega⟩
theorem AccB.len57 (h : AccB 5 H v out) (H0 : World) : builtinX Try.prog .len #[57] #[v] H0 = some (.value (.int .i64 out.length), H0) := Acc.len h (by simp)
end
theorem wptr_nil (b : Nat) {x y : Operand} {H : World} : binX Try.prog .eql 25 x y (p0 b) (.pointer none) H = some (.value (.bool false), H) := (bX_ptr_nil Try.underlying25).1
theorem vptr_nil (b : Nat) {x y : Operand} {H : World} : binX Try.prog .eql 27 x y (p0 b) (.pointer none) H = some (.value (.bool false), H) := (bX_ptr_nil Try.underlying27).1
theorem wnil_nil {x y : Operand} {H : World} : binX Try.prog .eql 25 x y (.pointer none) (.pointer none) H = some (.value (.bool true), H) := bX_ptr_nil2 Try.underlying25
theorem vnil_nil {x y : Operand} {H : World} : binX Try.prog .eql 27 x y (.pointer none) (.pointer none) H = some (.value (.bool true), H) := bX_ptr_nil2 Try.underlying27
/-! ### place and room -/
section
variable {H : World} {wb : Nat} {big : Bool} {at' : Int} {out : List UInt8} {v : Value}
set_option maxRecDepth 100000 in
theorem Place15 (st : WSt H 64 wb big at' out v) (Q : Value → World → Prop) : FW X 15 #[p0 wb] H Q = Q (.int .i64 (at' + out.length)) H := by
  refine FW.eqE (by simp [X]) Try.func15 Try.ntmps15 rfl (by simp) ?_ Q
  obtain ⟨hw, hv, ap, a0, a7, hl⟩ := st
  have hlen := fun H0 => AccB.len57 hv H0
  have w : IntKind.i64.wrap (at' + (out.length : Int)) = at' + (out.length : Int) := wrap64 (by omega) (by omega)
  simp [wptr_nil]
  refine WP.draw0 (by decide +kernel) (by decide +kernel) ?_
  simp [hw, hlen, w]
set_option maxRecDepth 100000 in
theorem Place16 (st : WSt H 67 wb big at' out v) (Q : Value → World → Prop) : FW X 16 #[p0 wb] H Q = Q (.int .i64 (at' + out.length)) H := by
  refine FW.eqE (by simp [X]) Try.func16 Try.ntmps16 rfl (by simp) ?_ Q
  obtain ⟨hw, hv, ap, a0, a7, hl⟩ := st
  have hlen := fun H0 => AccB.len57 hv H0
  have w : IntKind.i64.wrap (at' + (out.length : Int)) = at' + (out.length : Int) := wrap64 (by omega) (by omega)
  simp [vptr_nil]
  refine WP.draw0 (by decide +kernel) (by decide +kernel) ?_
  simp [hw, hlen, w]
/-- How many zeros stand ahead of a number. -/
def padN (at' : Int) (out : List UInt8) (size : Int) : Nat := (padW (at' + out.length) size).toNat
theorem padW_nat {place size : Int} (hs : sizeW size = true) (hp : 0 ≤ place) : 0 ≤ padW place size ∧ padW place size < size ∧ size ≤ 8 := by
  have := sizeW_iff.1 hs
  unfold padW
  have t1 : 0 ≤ place.tmod size := Int.tmod_nonneg _ (by omega)
  have t2 : place.tmod size < size := Int.tmod_lt_of_pos _ (by omega)
  exact ⟨Int.tmod_nonneg _ (by omega), Int.tmod_lt_of_pos _ (by omega), by omega⟩
def roomW (at' : Int) (out : List UInt8) (size bytes : Int) : List UInt8 × Int := if 65536 < (out.length : Int) + padN at' out size + bytes then (out, 4) else (out ++ List.replicate (padN at' out size) 0, 0)
set_option maxRecDepth 100000 in
theorem room85 (st : WSt H 64 wb big at' out v) (size bytes : Int) (hs : sizeW size = true) (hb : 0 ≤ bytes ∧ bytes ≤ 2 ^ 40) {Q : Value → World → Prop}
    (hq : ∀ v' H', WSt H' 64 wb big at' (roomW at' out size bytes).1 v' → FrW H H' wb v v' → Q (.int .i64 (roomW at' out size bytes).2) H') : FW X 85 #[p0 wb, .int .i64 size, .int .i64 bytes] H Q := by
  refine FW.walk (by simp [X]) Try.func85 Try.ntmps85 rfl (by simp) ?_
  obtain ⟨hw, hv, ap, a0, a7, hl⟩ := id st
  have hlen := fun H0 => AccB.len57 hv H0
  obtain ⟨q1, q2, q3⟩ := padW_nat (place := at' + out.length) hs (by omega)
  have hpo : padOk (at' + out.length) size = true := by simp [padOk, hs]; omega
  have hpn : padW (at' + out.length) size = ((padN at' out size : Nat) : Int) := by unfold padN; omega
  have hp := padding58 (at' + out.length) size (by omega)
  rw [hpo, if_pos rfl, hpn] at hp
  have hpl : padN at' out size < 8 := by omega
  generalize hn : padN at' out size = n at *
  have w1 : IntKind.i64.wrap ((out.length : Int) + (n : Int)) = (out.length : Int) + (n : Int) := wrap64 (by omega) (by omega)
  have w2 : IntKind.i64.wrap ((out.length : Int) + (n : Int) + bytes) = (out.length : Int) + (n : Int) + bytes := wrap64 (by omega) (by omega)
  simp [Place15 st, hp, hw, hlen, w1, w2]
  unfold roomW at hq
  rw [hn] at hq
  refine gIf_dec (fun h => ?_) (fun h => ?_)
  · rw [if_pos h] at hq
    simp
    exact hq v H st FrW.refl
  · rw [if_neg h] at hq
    obtain ⟨v', H', e1, acc', fr⟩ := addZeros hv n (by omega)
    obtain ⟨k1, k2, k3⟩ := st.store acc' fr (by simp; omega)
    have lw := getO_lt k1
    obtain ⟨c1, c2⟩ := Acc.one acc'
    simp [hw, e1, k1, lw, c1, c2, overL]
    exact hq v' _ k2 k3
end
end Go.Proofs.Ytcllchaboahlfaa
end
