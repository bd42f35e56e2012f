/- Helpers of this claim: an evaluator over plain values and its laws. -/
import Derived.Test.YtlpoejkleopdoaaCs
section
set_option linter.unusedVariables false
set_option linter.unusedSimpArgs false
namespace Go.Proofs.Ytlpoejkleopdoaa
open Go Go.Proofs.Ytlpoejkleopdoaa.Den
theorem veq_encP (p : Pc) : veq (encP p) (encP p) = true := by
  have e : (sB p.body == sB p.body) = true := by rw [sB_beq]; simp
  unfold encP veq veq2
  simp only [veqA, veq1, beq_self_eq_true, Bool.and_self, e]
theorem cutW_len (id : Int) (bd : List UInt8) (n : Int) : ∀ i, (madeW id (fun _ => n) i bd).length ≤ bd.length + 1 := by
  induction h : bd.length using Nat.strongRecOn generalizing bd with
  | _ m ih =>
    intro i
    rw [madeW]
    split
    · simp
    · rename_i hc
      subst h
      have := ih (bd.drop n.toNat).length (by simp; omega) (bd.drop n.toNat) rfl (i + 1)
      simp at this ⊢
      omega
theorem joinW_body (l : List Pc) : (joinW l).2.1.length ≤ 65536 := by
  unfold joinW
  repeat' split
  all_goals simp
  omega
theorem againW_len (l : List Pc) (n : Int) : ((againW l n).1.getD []).length ≤ 65537 := by
  unfold againW
  have hb := joinW_body l
  repeat' split
  all_goals simp
  unfold cutW
  repeat' split
  all_goals simp
  have := cutW_len (joinW l).1 (joinW l).2.1 n 0
  omega
set_option maxRecDepth 100000 in
theorem Joins4 (o : Option (List Pc)) (n : Int) (hl : (o.getD []).length < 2 ^ 63) (H : World) :
    FW X 4 #[sl o, .int .i64 n] H fun v H' => v = .bool true := by
  refine FW.walk (by simp [X]) Try.func4 Try.ntmps4 rfl (by simp) ?_
  simp [light_eq o hl, awake_eq]
  refine gIf_nb (fun h => ?_) (fun h => ?_)
  · simp
    refine CE.range (m := (o.getD []).length) (fun k e H' => lk e 0 = sl o ∧ lk e 1 = .int .i64 n ∧ lk e 21 = sl o) ?_ hl ?_ ?_ ?_
    · decide
    · simp
    · rintro k e H' hk g1 g2 ⟨g3, g4, g5⟩
      simp [g1, g2, g3, g4, g5, hk, allocX, szO]
      refine WP.drawP [(2, 0)] (by decide +kernel) (by decide +kernel) ?_
      simp [g1, g2, g3, g4, g5, Valid_eq, ValidR_eq]
      refine Checks.cons rfl rfl rfl ?_ .nil
      unfold reV
      simp [veq_encP]
    · rintro e H' g1 g2 ⟨g3, g4, g5⟩
      have hsame : ∀ H Q, FW X 12 #[sl (againW (o.getD []) n).1, sl (againW (o.getD []) n).1] H Q = Q (.bool true) H := fun H Q => by
        have := againW_len (o.getD []) n
        rw [Same_eq _ _ (by omega)]
        simp [same]
      simp [g3, g4, Join15 o hl, Join16 o hl, Again17 o n hl, Again18 o n hl, hsame, awake_eq]
  · simp [awake_eq]
end Go.Proofs.Ytlpoejkleopdoaa
end
