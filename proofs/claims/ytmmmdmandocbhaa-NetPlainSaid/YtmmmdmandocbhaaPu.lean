/- Helpers of this claim: an evaluator over plain values and its laws. -/
import Derived.Test.YtmmmdmandocbhaaPt
section
set_option linter.unusedVariables false
set_option linter.unusedSimpArgs false
namespace Go.Proofs.Ytmmmdmandocbhaa
open Go Go.Proofs.Ytmmmdmandocbhaa.Den
theorem srcx_part {P : Program} {H : World} {es r o n c : Nat} {cs : List Value} {e : TypeId} {fr : Nat × Nat} (h : getO H r = some (.cells cs.toArray e fr)) (hn : o + n * es ≤ cs.length) : SrcX P es (.slice (some ⟨r, o, none⟩) n c) H n ((cs.drop o).take (n * es)) := by
  unfold SrcX
  simp only [cellsOfD]
  have := run_loadCells_row (P := P) (off := o) (n := n * es) (show H.heap[r]? = _ from h) (by simpa using hn)
  rw [this]
  simp only [okRun, Option.map_some]
  congr 2
  apply Array.toList_inj.1
  simp
theorem flatP_take (l : List Fl) (i : Nat) : (flatE encP l).take (i * 5) = flatE encP (l.take i) := by
  rcases Nat.lt_or_ge i l.length with hi | hi
  · have h : flatE encP l = flatE encP (l.take i) ++ flatE encP (l.drop i) := by rw [← flatE_append, List.take_append_drop]
    have hl : (flatE encP (l.take i)).length = i * 5 := by rw [flatE_len encP_size, List.length_take]; congr 1; omega
    rw [h, List.take_append_of_le_length (by omega), List.take_of_length_le (by omega)]
  · rw [List.take_of_length_le hi, List.take_of_length_le (by rw [flatE_len encP_size]; exact Nat.mul_le_mul_right _ hi)]
theorem flatP_drop (l : List Fl) (i : Nat) : (flatE encP l).drop (i * 5) = flatE encP (l.drop i) := by
  rcases Nat.lt_or_ge i l.length with hi | hi
  · have h : flatE encP l = flatE encP (l.take i) ++ flatE encP (l.drop i) := by rw [← flatE_append, List.take_append_drop]
    have hl : (flatE encP (l.take i)).length = i * 5 := by rw [flatE_len encP_size, List.length_take]; congr 1; omega
    rw [h, List.drop_append_of_le_length (by omega), List.drop_eq_nil_of_le (by omega), List.nil_append]
  · rw [List.drop_eq_nil_of_le hi, List.drop_eq_nil_of_le (by rw [flatE_len encP_size]; exact Nat.mul_le_mul_right _ hi)]; rfl
theorem srcx_all {H : World} {w : Value} {ys : List Fl} (h : AccP H w ys) : SrcX Try.prog 5 w H ys.length (flatE encP ys) := by
  rcases h.2 with ⟨rfl, h0⟩ | ⟨r, rfl, _, hr⟩
  · have : ys = [] := List.length_eq_zero_iff.1 h0
    subst this
    rfl
  · exact SrcX.row hr (flatE_len encP_size ys)
theorem cut_to {H : World} {w : Value} {ys : List Fl} (h : AccP H w ys) {i : Nat} (hi : i ≤ ys.length) : ∃ w1, sliceX Try.prog 30 w none (some (.int .i64 i)) none H = some (.value w1, H) ∧ SrcX Try.prog 5 w1 H (ys.take i).length (flatE encP (ys.take i)) := by
  rcases h.2 with ⟨rfl, h0⟩ | ⟨r, rfl, _, hr⟩
  · have : ys = [] := List.length_eq_zero_iff.1 h0
    subst this
    have : i = 0 := by simpa using hi
    subst this
    refine ⟨.slice none 0 0, ?_, rfl⟩
    have hb : (Instr.sliceBounds true 0 0 none (some (.int .i64 0)) none).run Try.prog H = .ok (0, 0, 0) H := by simp [Instr.sliceBounds, sliceBound_ok (k := .i64) (v := 0) (y := 0) _ (Int.le_refl _) (Int.le_refl _)]
    simp [sliceX, vSliceOp, lslice, hb, baseOk, okRun]
  · have hl := flatE_len encP_size ys
    have e := slice_heap Try.prog (t := 30) (e := 41) (r := r) (o := 0) (n := ys.length) (c := ys.length) (l := 0) (h := i) (lo := none) (hi := some (.int .i64 i)) (fr := (1, 0)) (inf := Try.t41) (H := H) Try.underlying30 info41 hr rfl (by omega) (by simp [vBound]; omega) (by simp [vBound])
    refine ⟨_, e, ?_⟩
    have s := srcx_part (P := Try.prog) (es := 5) (o := 0 + 0 * Try.t41.size) (n := i - 0) (c := ys.length - 0) hr (by simp; rw [hl]; exact Nat.mul_le_mul_right _ hi)
    rw [show (ys.take i).length = i - 0 by rw [List.length_take]; omega, ← flatP_take]
    simpa using s
theorem cut_from {H : World} {w : Value} {ys : List Fl} (h : AccP H w ys) {i : Nat} (hi : i ≤ ys.length) : ∃ w1, sliceX Try.prog 30 w (some (.int .i64 i)) none none H = some (.value w1, H) ∧ SrcX Try.prog 5 w1 H (ys.drop i).length (flatE encP (ys.drop i)) := by
  rcases h.2 with ⟨rfl, h0⟩ | ⟨r, rfl, _, hr⟩
  · have : ys = [] := List.length_eq_zero_iff.1 h0
    subst this
    have : i = 0 := by simpa using hi
    subst this
    refine ⟨.slice none 0 0, ?_, rfl⟩
    have hb : (Instr.sliceBounds true 0 0 (some (.int .i64 0)) none none).run Try.prog H = .ok (0, 0, 0) H := by simp [Instr.sliceBounds, sliceBound_ok (k := .i64) (v := 0) (y := 0) _ (Int.le_refl _) (Int.le_refl _)]
    simp [sliceX, vSliceOp, lslice, hb, baseOk, okRun]
  · have hl := flatE_len encP_size ys
    have e := slice_heap Try.prog (t := 30) (e := 41) (r := r) (o := 0) (n := ys.length) (c := ys.length) (l := i) (h := ys.length) (lo := some (.int .i64 i)) (hi := none) (fr := (1, 0)) (inf := Try.t41) (H := H) Try.underlying30 info41 hr rfl (by omega) (by simp [vBound]) (by simp [vBound]; omega)
    refine ⟨_, e, ?_⟩
    have s := srcx_part (P := Try.prog) (es := 5) (o := 0 + i * 5) (n := ys.length - i) (c := ys.length - i) hr (by rw [hl, Nat.zero_add, ← Nat.add_mul]; exact Nat.mul_le_mul_right _ (by omega))
    rw [Nat.zero_add, flatP_drop, List.take_of_length_le (by rw [flatE_len encP_size, List.length_drop]; exact Nat.le_refl _)] at s
    rw [show (ys.drop i).length = ys.length - i from List.length_drop]
    simpa using s
/-- Packets are appended. -/
theorem accp_app {H : World} {v src : Value} {xs ys : List Fl} (h : AccP H v xs) (hs : SrcX Try.prog 5 src H ys.length (flatE encP ys)) (hl : xs.length + ys.length ≤ 2 ^ 20) :
    ∃ v' H', builtinX Try.prog .append #[30, 30] #[v, src] H = some (.value v', H') ∧ AccP H' v' (xs ++ ys) ∧ (∀ i o, getO H i = some o → Apart v i → getO H' i = some o) ∧ H.heap.size ≤ H'.heap.size ∧ (∀ i, Apart v i → i < H.heap.size → Apart v' i) := by
  have hone : (flatE encP ys).all Value.oneCell' = true := by
    rw [List.all_eq_true]
    intro v hv
    unfold flatE at hv
    rw [List.mem_flatMap] at hv
    obtain ⟨w, hw, hv⟩ := hv
    rw [List.mem_map] at hw
    obtain ⟨x, _, rfl⟩ := hw
    have h := encP_one x
    rw [Array.all_eq_true'] at h
    exact h v (Array.mem_toList_iff.1 hv)
  obtain ⟨v', H', h1, h2, h3, h4, h5⟩ := Acc.append Try.prog (t1 := 30) (t2 := 30) (inf := Try.t41) h Try.underlying30 (by simp) info41 zero41 (by simp) (by simp) (by decide) (by simp) (by simp) hs (flatE_len encP_size ys) hone (by rw [bytes41]; omega)
  refine ⟨v', H', h1, ?_, h3, h4, h5⟩
  unfold AccP AccE
  rw [flatE_append, List.length_append]
  exact h2
end Go.Proofs.Ytmmmdmandocbhaa
end
