/- Helpers of this claim: an evaluator over plain values and its laws. -/
import Derived.Test.YtmmmdmandocbhaaPm
section
set_option linter.unusedVariables false
set_option linter.unusedSimpArgs false
namespace Go.Proofs.Ytmmmdmandocbhaa
open Go Go.Proofs.Ytmmmdmandocbhaa.Den
def netZ (h : Int) (l : List Int) (lk : Lk) : NN := ⟨0, 0, 0, 0, h, 0, 0, 1, l, List.replicate 256 lk, List.replicate 16 0, List.replicate 16 false, []⟩
def zCells : List Value := [.int .i64 0, .int .i64 0, .int .i64 0, .int .i64 0, .int .i64 0, .slice none 0 0, .int .i64 0, .int .i64 0, .int .i64 0] ++ (List.replicate 1040 (.int .i64 0) ++ (List.replicate 16 (.bool false) ++ [.slice none 0 0]))
theorem z78 : Try.t78.zero = some (.agg zCells.toArray) := by kernel_rfl
theorem zCells_len : zCells.length = 1066 := by kernel_rfl
theorem zFlat : flatE encLk (List.replicate 256 ⟨0, 0, 0, 0⟩) = List.replicate 1024 (.int .i64 0) := by kernel_rfl
theorem zCells_eq (h : Int) (l : List Int) (v : Value) : ((zCells.set 4 (.int .i64 h)).set 5 v).set 8 (.int .i64 1) = cellsN (netZ h l ⟨0, 0, 0, 0⟩) v (.slice none 0 0) := by
  unfold cellsN netZ zCells
  dsimp only
  rw [zFlat]
  simp only [List.map_replicate]
  rw [← List.append_assoc, ← List.append_assoc (List.replicate 1024 _), List.replicate_append_replicate]
  rfl
theorem build78 (h : Int) (l : List Int) (a : Option Addr) (m c : Nat) : buildQ Try.prog 78 [(1, .int .i64 h), (2, .slice a m c), (5, .int .i64 1)] = some (.agg (cellsN (netZ h l ⟨0, 0, 0, 0⟩) (.slice a m c) (.slice none 0 0)).toArray) := by
  have hl := zCells_len
  unfold buildQ
  simp only [info78, z78, Try.underlying78]
  rw [if_pos (by simp)]
  rw [← zCells_eq h l (.slice a m c)]
  simp [fillX, overL, Value.cells, hl]
end Go.Proofs.Ytmmmdmandocbhaa
end
