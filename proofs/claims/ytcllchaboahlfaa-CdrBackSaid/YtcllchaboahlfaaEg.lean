/- Helpers of this claim: an evaluator over plain values and its laws. -/
import Derived.Test.YtcllchaboahlfaaEf
section
set_option linter.unusedVariables false
set_option linter.unusedSimpArgs false
namespace Go.Proofs.Ytcllchaboahlfaa
open Go Go.Proofs.Ytcllchaboahlfaa.Den
/-! ### new writers; put -/
def atW (at' : Int) : Int := if at' < 0 ∨ 7 < at' then 0 else at'
theorem atW_ok (at' : Int) : 0 ≤ atW at' ∧ atW at' ≤ 7 := by unfold atW; split <;> omega
set_option maxRecDepth 100000 in
theorem framed39 (big : Bool) (at' : Int) (H : World) (Q : Value → World → Prop) : FW X 39 #[.bool big, .int .i64 at'] H Q = Q (.agg #[.bool big, .int .i64 (atW at')]) H := by
  refine FW.aloneEq ?_ Try.func39 Try.ntmps39 rfl (by simp) ?_ H Q
  · simp [X, plainDI, plainDB]
  simp [allocX, szO]
  by_cases h0 : at' < 0
  · simp [h0, buildQ, fillX, atW, overL, Value.cells]
  · by_cases h1 : 7 < at'
    · simp [h0, h1, buildQ, fillX, atW, overL, Value.cells]
    · simp [h0, h1, buildQ, fillX, atW, overL, Value.cells]
set_option maxRecDepth 100000 in
theorem from40 (at' : Int) (H : World) (Q : Value → World → Prop) : FW X 40 #[.int .i64 at'] H Q = Q (.int .i64 (atW at')) H := by
  refine FW.aloneEq ?_ Try.func40 Try.ntmps40 rfl (by simp) ?_ H Q
  · simp [X, plainDI]
  by_cases h0 : at' < 0
  · simp [h0, atW]
  · by_cases h1 : 7 < at'
    · simp [h0, h1, atW]
    · simp [h0, h1, atW]
set_option maxRecDepth 100000 in
theorem New11 (big : Bool) (at' : Int) (H : World) {Q : Value → World → Prop} (hq : ∀ H', WSt H' 64 H.heap.size big (atW at') [] (.slice none 0 0) → (∀ i o, getO H i = some o → getO H' i = some o) → H'.heap.size = H.heap.size + 1 → Q (p0 H.heap.size) H') : FW X 11 #[.bool big, .int .i64 at'] H Q := by
  refine FW.walk (by simp [X]) Try.func11 Try.ntmps11 rfl (by simp) ?_
  have := atW_ok at'
  simp [framed39, buildQ, fillX, szO, Value.cells]
  refine hq _ ⟨by simp, Acc.nil, fun r n c h => (by cases h), this.1, this.2, by simp⟩ (fun i o hi => ?_) (by simp)
  have := getO_lt hi
  rw [get_push, if_neg (by omega)]; exact hi
set_option maxRecDepth 100000 in
theorem New12 (big : Bool) (at' : Int) (H : World) {Q : Value → World → Prop} (hq : ∀ H', WSt H' 67 H.heap.size big (atW at') [] (.slice none 0 0) → (∀ i o, getO H i = some o → getO H' i = some o) → H'.heap.size = H.heap.size + 1 → Q (p0 H.heap.size) H') : FW X 12 #[.bool big, .int .i64 at'] H Q := by
  refine FW.walk (by simp [X]) Try.func12 Try.ntmps12 rfl (by simp) ?_
  have := atW_ok at'
  simp [from40, buildQ, fillX, szO, Value.cells]
  refine hq _ ⟨by simp, Acc.nil, fun r n c h => (by cases h), this.1, this.2, by simp⟩ (fun i o hi => ?_) (by simp)
  have := getO_lt hi
  rw [get_push, if_neg (by omega)]; exact hi
def putBad (at' : Int) (out : List UInt8) (place n : Int) : Prop := place < at' ∨ at' + out.length - 4 < place ∨ ¬ place.tmod 4 = 0 ∨ n < -2147483648 ∨ 2147483648 ≤ n
instance (at' : Int) (out : List UInt8) (place n : Int) : Decidable (putBad at' out place n) := by unfold putBad; infer_instance
def overW (out : List UInt8) (p : Nat) (l : List UInt8) : List UInt8 := out.take p ++ l ++ out.drop (p + l.length)
theorem overW_len {out : List UInt8} {p : Nat} {l : List UInt8} (h : p + l.length ≤ out.length) : (overW out p l).length = out.length := by simp [overW]; omega
def putAtW (at' : Int) (out : List UInt8) (place n : Int) (big : Bool) : List UInt8 × Int := if putBad at' out place n then (out, 7) else (overW out (place - at').toNat (numL n 4 big), 0)
theorem WSt.over {H : World} {t : TypeId} {wb : Nat} {big : Bool} {at' : Int} {out : List UInt8} {r p : Nat} {l : List UInt8} (st : WSt H t wb big at' out (sliceA r 0 out.length out.length)) (hr : getO H r = some (.cells (out.map fun b => Value.int .u8 b.toNat).toArray 5 (1, 0))) (hl : p + l.length ≤ out.length) :
    let H' := setO H r (.cells ((overW out p l).map fun b => Value.int .u8 b.toNat).toArray 5 (1, 0))
    getO H' r = some (.cells ((overW out p l).map fun b => Value.int .u8 b.toNat).toArray 5 (1, 0)) ∧ WSt H' t wb big at' (overW out p l) (sliceA r 0 out.length out.length) ∧ FrW H H' wb (sliceA r 0 out.length out.length) (sliceA r 0 out.length out.length) := by
  intro H'
  have rlt := getO_lt hr
  have rwb : wb ≠ r := st.ap r _ _ rfl
  have g : getO H' r = some (.cells ((overW out p l).map fun b => Value.int .u8 b.toNat).toArray 5 (1, 0)) := by
    show getO (setO H r _) r = _
    rw [get_set, if_pos rfl, if_pos rlt]
  have hlen := overW_len (out := out) (p := p) (l := l) hl
  refine ⟨g, ⟨?_, ?_, st.ap, st.at0, st.at7, by rw [hlen]; exact st.len⟩, fun j o h1 h2 h3 => ?_, fun j _ h => h, by show H.heap.size ≤ (setO H r _).heap.size; rw [size_set]; exact Nat.le_refl _⟩
  · show getO (setO H r _) wb = _
    rw [get_set, if_neg rwb]; exact st.hw
  · obtain ⟨h1, ⟨h2, _⟩ | ⟨r', h2, h3, h4⟩⟩ := st.hv
    · cases h2
    · refine ⟨by simp, .inr ⟨r, by rw [hlen], by rw [hlen]; exact h3, g⟩⟩
  · have : j ≠ r := h3 r _ _ rfl
    show getO (setO H r _) j = _
    rw [get_set, if_neg this]; exact h1
section
variable {H : World} {wb : Nat} {big : Bool} {at' : Int} {out : List UInt8} {v : Value}
set_option maxRecDepth 100000 in
theorem Put56 (st : WSt H 67 wb big at' out v) (place n : Int) {Q : Value → World → Prop}
    (hq : ∀ v' H', WSt H' 67 wb big at' (putAtW at' out place n big).1 v' → FrW H H' wb v v' → Q (.int .i64 (putAtW at' out place n big).2) H') : FW X 56 #[p0 wb, .int .i64 place, .int .i64 n] H Q := by
  refine FW.walk (by simp [X]) Try.func56 Try.ntmps56 rfl (by simp) ?_
  obtain ⟨hw, hv, ap, a0, a7, hl⟩ := id st
  have w1 : IntKind.i64.wrap (at' + (out.length : Int) - 4) = at' + (out.length : Int) - 4 := wrap64' (by omega) (by omega)
  by_cases hb : putBad at' out place n
  · have e : putAtW at' out place n big = (out, 7) := if_pos hb
    rw [e] at hq
    have hq := hq v H st FrW.refl
    unfold putBad at hb
    by_cases c1 : place < at'
    · simp [vptr_nil, hw, c1]; exact hq
    · by_cases c2 : at' + out.length - 4 < place
      · simp [vptr_nil, hw, c1, Place16 st, w1, c2]; exact hq
      · by_cases c3 : place.tmod 4 = 0
        · by_cases c4 : n < -2147483648
          · simp [vptr_nil, hw, c1, Place16 st, w1, c2, c3, c4]; exact hq
          · have c5 : 2147483648 ≤ n := by omega
            simp [vptr_nil, hw, c1, Place16 st, w1, c2, c3, c4, c5]; exact hq
        · simp [vptr_nil, hw, c1, Place16 st, w1, c2, c3]; exact hq
  · have e : putAtW at' out place n big = (overW out (place - at').toNat (numL n 4 big), 0) := if_neg hb
    rw [e] at hq
    unfold putBad at hb
    obtain ⟨c1, c2, c3, c4, c5⟩ : ¬ place < at' ∧ ¬ at' + out.length - 4 < place ∧ place.tmod 4 = 0 ∧ ¬ n < -2147483648 ∧ ¬ 2147483648 ≤ n := by
      refine ⟨by omega, by omega, ?_, by omega, by omega⟩
      exact Classical.byContradiction fun h => hb (.inr (.inr (.inl h)))
    obtain ⟨p, hp⟩ : ∃ p : Nat, place - at' = (p : Int) := ⟨(place - at').toNat, by omega⟩
    have w2 : IntKind.i64.wrap (p : Int) = (p : Int) := wrap64' (by omega) (by omega)
    rw [hp, Int.toNat_natCast] at hq
    have hpo : 0 < out.length := by omega
    obtain ⟨r, rfl, hr⟩ := Acc.pos hv hpo
    have rlt := getO_lt hr
    have h4 := Number90 n 4 big (by omega)
    have e4 : ((4 : Nat) : Int) = 4 := rfl
    rw [e4] at h4
    have hsl : ∀ H' cs, getO H' r = some (.cells cs 5 (1, 0)) → sliceX Try.prog 57 (sliceA r 0 out.length out.length) (some (.int .i64 p)) none none H' = some (.value (sliceA r p (out.length - p) (out.length - p)), H') := fun H' cs hr => by
      have := slice_heap Try.prog (t := 57) (e := 5) (r := r) (o := 0) (n := out.length) (c := out.length) (l := p) (h := out.length) (lo := some (.int .i64 p)) (hi := none) (fr := (1, 0)) (inf := Try.t5) (H := H') Try.underlying57 info5 hr rfl (Nat.le_refl _) (by simp [vBound]) (by simp [vBound]; omega)
      simpa using this
    have hcp := copy_str Try.prog (t1 := 57) (t2 := 9) (n := out.length - p) (c := out.length - p) (o := p) (l := numL n 4 big) Try.underlying57 info5 rfl hr rfl (by simp; omega) (by simp; omega)
    rw [overL_list _ _ _ (by simp; omega)] at hcp
    have hov : (out.map fun b => Value.int .u8 b.toNat).take p ++ (numL n 4 big).map (fun b => Value.int .u8 b.toNat) ++ (out.map fun b => Value.int .u8 b.toNat).drop (p + ((numL n 4 big).map (fun b => Value.int .u8 b.toNat)).length) = (overW out p (numL n 4 big)).map fun b => Value.int .u8 b.toNat := by
      unfold overW
      simp only [List.map_append, List.map_take, List.map_drop, List.length_map]
    rw [hov] at hcp
    simp [vptr_nil, hw, c1, Place16 st, w1, c2, c3, c4, c5]
    have rwb : ¬ wb = r := ap r _ _ rfl
    have hr2 : getO (setO H r (.cells ((overW out p (numL n 4 big)).map fun b => Value.int .u8 b.toNat).toArray 5 (1, 0))) r = some (.cells ((overW out p (numL n 4 big)).map fun b => Value.int .u8 b.toNat).toArray 5 (1, 0)) := by simp [rlt]
    have s1 := hsl H _ hr
    have s2 := hsl _ _ hr2
    refine WP.drawP [(0, 17), (1, 17), (2, 17), (3, 17), (4, 17), (5, 17), (6, 17), (7, 17), (8, 17), (9, 17), (10, 17)] (by decide +kernel) (by decide +kernel) ?_
    simp [hw, hp, w2, s1, h4, hcp]
    refine ⟨Checks.cons rfl rfl rfl ?_ (Checks.cons rfl rfl rfl ?_ (Checks.cons rfl rfl rfl ?_ (Checks.cons rfl rfl rfl ?_ (Checks.cons rfl rfl rfl ?_ (Checks.cons rfl rfl rfl ?_ (Checks.cons rfl rfl rfl ?_ (Checks.cons rfl rfl rfl ?_ (Checks.cons rfl rfl rfl ?_ (Checks.cons rfl rfl rfl ?_ (Checks.cons rfl rfl rfl ?_ .nil)))))))))), ?_⟩
    iterate 11
      · unfold reV
        simp [hw, hp, w2, s1, s2, rwb, q_ptr, q_int, veq, veq2, Go.Proofs.Ytcllchaboahlfaa.Den.veq1]
    obtain ⟨hr3, st3, fr3⟩ := st.over (l := numL n 4 big) hr (p := p) (by simp; omega)
    exact hq _ _ st3 fr3
end
end Go.Proofs.Ytcllchaboahlfaa
end
