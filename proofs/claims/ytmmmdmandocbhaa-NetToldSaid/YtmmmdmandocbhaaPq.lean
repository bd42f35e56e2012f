/- Helpers of this claim: an evaluator over plain values and its laws. -/
import Derived.Test.YtmmmdmandocbhaaPp
section
set_option linter.unusedVariables false
set_option linter.unusedSimpArgs false
namespace Go.Proofs.Ytmmmdmandocbhaa
open Go Go.Proofs.Ytmmmdmandocbhaa.Den
def w0 : NN := netZ 2 [10, 60] ⟨1, 0, 0, 0⟩
def w1 : NN := pSet w0 0 1 ⟨1, 0, 50, 0⟩
def w2 : NN := pSend w1 0 1 [97]
def w3 : NN := pSend w2 0 1 [98]
theorem w_set : eSet w0 0 1 ⟨1, 0, 50, 0⟩ = 0 := by kernel_rfl
theorem w_out : oStep w3 = [⟨2, 0, 1, 1, [98], false⟩] := by kernel_rfl
theorem w_e : eStep w3 = 0 := by kernel_rfl
theorem w_now : (pStep w3).now = 1 := by kernel_rfl
theorem eqFsPk (a b c d a' b' c' d' : Int) (e e' : List UInt8) : ∃ fs, Try.prog.underlying 41 = some (.struct fs) ∧ eqFs Try.prog fs.toList #[.int .i64 a, .int .i64 b, .int .i64 c, .int .i64 d, .string (sB e)] #[.int .i64 a', .int .i64 b', .int .i64 c', .int .i64 d', .string (sB e')] = some (decide (a = a' ∧ b = b' ∧ c = c' ∧ d = d' ∧ e = e')) := by
  refine ⟨_, Try.underlying41, ?_⟩
  simp [eqFs, eqV, sB_beq]
  by_cases h1 : a = a' <;> by_cases h2 : b = b' <;> by_cases h3 : c = c' <;> by_cases h4 : d = d' <;> by_cases h5 : e = e' <;> simp [h1, h2, h3, h4, h5]
theorem eqPk (a b c d a' b' c' d' : Int) (e e' : List UInt8) (x y : Operand) (H : World) : binX Try.prog .eql 41 x y (.agg #[.int .i64 a, .int .i64 b, .int .i64 c, .int .i64 d, .string (sB e)]) (.agg #[.int .i64 a', .int .i64 b', .int .i64 c', .int .i64 d', .string (sB e')]) H = some (.value (.bool (decide (a = a' ∧ b = b' ∧ c = c' ∧ d = d' ∧ e = e'))), H) ∧
    binX Try.prog .neq 41 x y (.agg #[.int .i64 a, .int .i64 b, .int .i64 c, .int .i64 d, .string (sB e)]) (.agg #[.int .i64 a', .int .i64 b', .int .i64 c', .int .i64 d', .string (sB e')]) H = some (.value (.bool !(decide (a = a' ∧ b = b' ∧ c = c' ∧ d = d' ∧ e = e'))), H) := by
  obtain ⟨fs, h1, h2⟩ := eqFsPk a b c d a' b' c' d' e e'
  exact binV_struct h1 Try.stoodInHeld41 (by decide +kernel) (by simp [flat1]) (by simp [flat1]) h2
set_option maxRecDepth 100000 in
theorem awake7 (H : World) (Q : Value → World → Prop) : FW X 7 #[] H Q = Q (.bool true) H := by
  refine FW.aloneEq ?_ Try.func7 Try.ntmps7 rfl (by simp) ?_ H Q
  · simp [X]
  have gr : getO (pushObj World0 (.cells #[.int .i64 10, .int .i64 60] 3 (0, 0))) World0.heap.size = some (.cells (([10, 60] : List Int).map (Value.int .i64)).toArray 3 (0, 0)) := by rw [get_push, if_pos rfl]; rfl
  simp [buildSliceX, inOrder, catCells, szO]
  generalize hH1 : pushObj World0 (.cells #[.int .i64 10, .int .i64 60] 3 (0, 0)) = H1 at *
  have hm : World0.heap.size = 0 := rfl
  rw [hm] at gr
  refine new8r (l := [10, 60]) (h := 2) gr (by decide) (by decide) (by decide) (by decide) (by decide) fun H2 b vn hb st k2 z2 => ?_
  change NSt H2 b w0 vn _ at st
  have iv0 : Inv w0 0 := inv_new (by decide) (by decide) (by decide) (by decide)
  simp [buildQ, fillX, Value.cells, overL]
  refine set21 st iv0.h2 0 1 ⟨1, 0, 50, 0⟩ fun H3 st3 fr3 => ?_
  have iv1 : Inv w1 0 := inv_set iv0 0 1 ⟨1, 0, 50, 0⟩
  rw [w_set]
  change NSt H3 b w1 vn _ at st3
  simp
  refine send11 st3 iv1 0 1 [97] fun H4 vf4 st4 fr4 => ?_
  have iv2 : Inv w2 1 := inv_send iv1 (by decide) 0 1 [97]
  change NSt H4 b w2 vn _ at st4
  simp
  refine send11 st4 iv2 0 1 [98] fun H5 vf5 st5 fr5 => ?_
  have iv3 : Inv w3 2 := inv_send iv2 (by decide) 0 1 [98]
  change NSt H5 b w3 vn _ at st5
  simp
  refine step17 st5 iv3 fun H6 vf6 vo st6 fr6 ac ap => ?_
  rw [w_out] at ac
  rw [w_e]
  obtain ⟨r, rfl, hr⟩ := ac.row (by decide)
  have hn := fun Q => now10 st6 (Q := Q)
  simp [flatE_cons, Value.cells] at hr
  have he := fun x y => (eqPk 2 0 1 1 2 0 1 1 [98] [98] x y H6).1
  simp [idxS, hr, buildQ, fillX, Value.cells, overL, he]
  refine now10 st6 ?_
  rw [w_now]
  simp
end Go.Proofs.Ytmmmdmandocbhaa
end
