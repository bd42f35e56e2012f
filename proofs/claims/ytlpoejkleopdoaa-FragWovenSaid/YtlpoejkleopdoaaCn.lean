/- Helpers of this claim: an evaluator over plain values and its laws. -/
import Derived.Test.YtlpoejkleopdoaaCm
section
set_option linter.unusedVariables false
set_option linter.unusedSimpArgs false
namespace Go.Proofs.Ytlpoejkleopdoaa
open Go Go.Proofs.Ytlpoejkleopdoaa.Den
def sizedW (n : Int) : Bool := decide (1 ≤ n) && decide (n ≤ 65536)
def msgW (id : Int) (bd : List UInt8) : Bool := decide (0 ≤ id) && decide (id ≤ 1000000) && decide ((bd.length : Int) ≤ 65536)
def cutW (id : Int) (bd : List UInt8) (n : Int) : Option (List Pc) × Int := if msgW id bd = true then if sizedW n = true then (some (madeW id (fun _ => n) 0 bd), 0) else (none, 7) else (none, 1)
def sizesW (id : Int) (bd : List UInt8) (ns : List Int) : Option (List Pc) × Int := if msgW id bd = true then if ns.all sizedW = true then (some (madeW id (fun i => ns[i]?.getD 0) 0 bd), 0) else (none, 7) else (none, 1)
set_option maxRecDepth 100000 in
theorem sized37 (n : Int) (H : World) (Q : Value → World → Prop) : FW X 37 #[.int .i64 n] H Q = Q (.bool (sizedW n)) H := by
  refine FW.aloneEq ?_ Try.func37 Try.ntmps37 rfl (by simp) ?_ H Q
  · simp [X, plain, deep, constOk1]
  simp
  repeat' (first | refine gIf_dec (fun h => ?_) (fun h => ?_) | refine gIf_ndec (fun h => ?_) (fun h => ?_) | refine gIf_nb (fun h => ?_) (fun h => ?_) | refine gIf_split (fun h => ?_) (fun h => ?_) | (exfalso; omega; done) | (simp [*]; done) | (simp [sizedW, *]; done) | (simp [sizedW, *]; omega; done) | simp [*])
set_option maxRecDepth 100000 in
theorem sized38 (n : Int) (H : World) (Q : Value → World → Prop) : FW X 38 #[.int .i64 n] H Q = Q (.bool (sizedW n)) H := by
  refine FW.aloneEq ?_ Try.func38 Try.ntmps38 rfl (by simp) ?_ H Q
  · simp [X, plain, deep, constOk1]
  simp
  repeat' (first | refine gIf_dec (fun h => ?_) (fun h => ?_) | refine gIf_ndec (fun h => ?_) (fun h => ?_) | refine gIf_nb (fun h => ?_) (fun h => ?_) | refine gIf_split (fun h => ?_) (fun h => ?_) | (exfalso; omega; done) | (simp [*]; done) | (simp [sizedW, *]; done) | (simp [sizedW, *]; omega; done) | simp [*])
set_option maxRecDepth 100000 in
theorem message39 (id : Int) (bd : List UInt8) (H : World) (Q : Value → World → Prop) : FW X 39 #[.int .i64 id, .string (sB bd)] H Q = Q (.int .i64 (if msgW id bd = true then 0 else 1)) H := by
  refine FW.aloneEq ?_ Try.func39 Try.ntmps39 rfl (by simp) ?_ H Q
  · simp [X, plain, deep, constOk1]
  simp
  repeat' (first | refine gIf_dec (fun h => ?_) (fun h => ?_) | refine gIf_ndec (fun h => ?_) (fun h => ?_) | refine gIf_nb (fun h => ?_) (fun h => ?_) | refine gIf_split (fun h => ?_) (fun h => ?_) | (exfalso; omega; done) | (simp [*]; done) | (simp [msgW, *]; done) | (simp [msgW, *]; omega; done) | simp [*])
set_option maxRecDepth 100000 in
theorem message42 (id : Int) (bd : List UInt8) (H : World) (Q : Value → World → Prop) : FW X 42 #[.int .i64 id, .string (sB bd)] H Q = Q (.bool (msgW id bd)) H := by
  refine FW.aloneEq ?_ Try.func42 Try.ntmps42 rfl (by simp) ?_ H Q
  · simp [X, plain, deep, constOk1]
  simp
  repeat' (first | refine gIf_dec (fun h => ?_) (fun h => ?_) | refine gIf_ndec (fun h => ?_) (fun h => ?_) | refine gIf_nb (fun h => ?_) (fun h => ?_) | refine gIf_split (fun h => ?_) (fun h => ?_) | (exfalso; omega; done) | (simp [*]; done) | (simp [msgW, *]; done) | (simp [msgW, *]; omega; done) | simp [*])
end Go.Proofs.Ytlpoejkleopdoaa
end
