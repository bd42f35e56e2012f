/- Helpers of this claim: an evaluator over plain values and its laws. -/
import Derived.Test.YtmmmdmandocbhaaPl
section
set_option linter.unusedVariables false
set_option linter.unusedSimpArgs false
namespace Go.Proofs.Ytmmmdmandocbhaa
open Go Go.Proofs.Ytmmmdmandocbhaa.Den
theorem clone_app {H : World} {b : Nat} {x : Value} {l : List Int} (hb : getO H b = some (.cells #[] 3 (0, 0))) (hx : SrcX Try.prog 1 x H l.length (l.map (Value.int .i64))) (hl : l ≠ []) (hn : l.length ≤ 2 ^ 20) :
    builtinX Try.prog .append #[29, 29] #[.slice (some ⟨b, 0, none⟩) 0 0, x] H = some (.value (.slice (some ⟨H.heap.size, 0, none⟩) l.length l.length), pushObj H (.cells (l.map (Value.int .i64)).toArray 3 (1, 0))) := by
  refine builtin_append (r := (_, _)) ?_
  have hap : appended Try.prog (some 29) Try.t3 x H = some (l.length, (l.map (Value.int .i64)).toArray) := appended_src Try.prog (es := 1) (by simp) (by simp) hx
  have hb' : H.heap[b]? = some (.cells #[] 3 (0, 0)) := hb
  have hpos : 0 < l.length := List.length_pos_iff.2 hl
  have h1 : ((#[29, 29] : Array TypeId)[0]?).bind Try.prog.underlying = some (.slice 3) := by simp
  have h2 : (#[29, 29] : Array TypeId)[1]? = some 29 := rfl
  have hne : ¬ 0 + l.length ≤ 0 := by omega
  have hload : okRun ((loadCells ⟨b, 0, none⟩ (0 * 1)).run Try.prog H) = some (#[], H) := by
    rw [run_loadCells_row hb' (by simp)]; rfl
  unfold lappend
  simp only [h1, h2, info3, hap, if_neg hne, size3, bytes3, zero3, cellsOfD, hload, Option.map_some, growsFrom, hb']
  rw [if_pos ⟨by decide, by decide, by decide, by omega⟩]
  simp
  rfl
theorem sl_nil {a : Addr} {n c : Nat} {x y : Operand} {H : World} : binX Try.prog .eql 29 x y (.slice (some a) n c) (.slice none 0 0) H = some (.value (.bool false), H) := by
  unfold binX
  simp only [vNilOp, vNil, Option.map_none]
  unfold binV
  rw [if_neg (by simp [flatFor, isEq, flat, flat1])]
  simp [eqD, Try.underlying29]
set_option maxRecDepth 100000 in
theorem clone41r {H : World} {r c : Nat} {l : List Int} {fr : Nat × Nat} (hr : getO H r = some (.cells (l.map (Value.int .i64)).toArray 3 fr)) (hl : l ≠ []) (hn : l.length ≤ 2 ^ 20) {Q : Value → World → Prop}
    (hq : Q (.slice (some ⟨H.heap.size + 1, 0, none⟩) l.length l.length) (pushObj (pushObj H (.cells #[] 3 (0, 0))) (.cells (l.map (Value.int .i64)).toArray 3 (1, 0)))) : FW X 41 #[.slice (some ⟨r, 0, none⟩) l.length c] H Q := by
  refine FW.walk (by simp [X, sp17_no]) Try.func41 Try.ntmps41 rfl (by simp) ?_
  have hb : getO (pushObj H (.cells #[] 3 (0, 0))) H.heap.size = some (.cells #[] 3 (0, 0)) := by rw [get_push, if_pos rfl]
  have hr2 : getO (pushObj H (.cells #[] 3 (0, 0))) r = some (.cells (l.map (Value.int .i64)).toArray 3 fr) := by
    have := getO_lt hr
    rw [get_push, if_neg (by omega)]; exact hr
  have hx := SrcX.row (P := Try.prog) (es := 1) (c := c) hr2 (n := l.length) (by simp)
  have ha := clone_app hb hx hl hn
  have hz : (pushObj H (.cells #[] 3 (0, 0))).heap.size = H.heap.size + 1 := by simp
  rw [hz] at ha
  simp [buildSliceX, inOrder, catCells, szO, ha, sl_nil]
  exact hq
end Go.Proofs.Ytmmmdmandocbhaa
end
