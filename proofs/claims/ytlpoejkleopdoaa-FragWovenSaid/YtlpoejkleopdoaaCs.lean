/- Helpers of this claim: an evaluator over plain values and its laws. -/
import Derived.Test.YtlpoejkleopdoaaCr
section
set_option linter.unusedVariables false
set_option linter.unusedSimpArgs false
namespace Go.Proofs.Ytlpoejkleopdoaa
open Go Go.Proofs.Ytlpoejkleopdoaa.Den
theorem strip_sl (o : Option (List Pc)) (H : World) : strip 11 Try.prog H (sl o) = some (sl o) := strip_plain _ _ _ _ (plain_of (d := 2) (plain_slMap plainP o) (by decide))
def againW (l : List Pc) (n : Int) : Option (List Pc) × Int :=
  if okPieces (some l) = false then (none, 1) else if sizedW n = false then (none, 7) else if (joinW l).2.2 = 0 then cutW (joinW l).1 (joinW l).2.1 n else (none, (joinW l).2.2)
set_option maxRecDepth 100000 in
theorem Again17 (o : Option (List Pc)) (n : Int) (hl : (o.getD []).length < 2 ^ 63) (H : World) (Q : Value → World → Prop) : FW X 17 #[sl o, .int .i64 n] H Q = Q (.tuple #[sl (againW (o.getD []) n).1, .int .i64 (againW (o.getD []) n).2]) H := by
  refine FW.aloneEq ?_ Try.func17 Try.ntmps17 rfl (by simp) ?_ H Q
  · simp [X, plainS, plainDI]
  have hok0 : okPieces (some (o.getD [])) = okPieces o := rfl
  simp [pieces_eq o hl]
  cases hok : okPieces o with
  | false => simp [againW, hok0.trans hok]
  | true =>
  simp [sized37]
  cases hs : sizedW n with
  | false => simp [againW, hok0.trans hok, hs]
  | true =>
  simp [Join15 o hl, joinV]
  refine gIf_ndec (fun h0 => ?_) (fun h0 => ?_)
  · simp [Cut19, strip_sl, againW, hok0.trans hok, hs, h0]
  · simp [againW, hok0.trans hok, hs, h0]
set_option maxRecDepth 100000 in
theorem Again18 (o : Option (List Pc)) (n : Int) (hl : (o.getD []).length < 2 ^ 63) (H : World) (Q : Value → World → Prop) : FW X 18 #[sl o, .int .i64 n] H Q = Q (.tuple #[sl (againW (o.getD []) n).1, .int .i64 (againW (o.getD []) n).2]) H := by
  refine FW.aloneEq ?_ Try.func18 Try.ntmps18 rfl (by simp) ?_ H Q
  · simp [X, plainS, plainDI]
  have hok0 : okPieces (some (o.getD [])) = okPieces o := rfl
  simp [piecesR_eq o hl]
  cases hok : okPieces o with
  | false => simp [againW, hok0.trans hok]
  | true =>
  simp [sized38]
  cases hs : sizedW n with
  | false => simp [againW, hok0.trans hok, hs]
  | true =>
  simp [Join16 o hl, joinV]
  refine gIf_ndec (fun h0 => ?_) (fun h0 => ?_)
  · simp [Cut20, strip_sl, againW, hok0.trans hok, hs, h0]
  · simp [againW, hok0.trans hok, hs, h0]
end Go.Proofs.Ytlpoejkleopdoaa
end
