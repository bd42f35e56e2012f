/- Helpers of this claim: an evaluator over plain values and its laws. -/
import Derived.Test.YtlpoejkleopdoaaJm
section
set_option linter.unusedVariables false
set_option linter.unusedSimpArgs false
namespace Go.Proofs.Ytlpoejkleopdoaa
open Go Go.Proofs.Ytlpoejkleopdoaa.Den
theorem plainT (o : Option (List (List UInt8))) : plain deep (txts o) = true := plain_of (d := 1) (plain_slMap (fun l => rfl) o) (by decide)
set_option maxRecDepth 100000 in
theorem SameI25 (a : Option (List Int)) (hl : (a.getD []).length < 2 ^ 63) (H : World) (Q : Value → World → Prop) : FW X 25 #[ints a, ints a] H Q = Q (.bool true) H := by
  refine FW.aloneEq ?_ Try.func25 Try.ntmps25 rfl (by simp) ?_ H Q
  · simp [X, plainI]
  simp
  refine CE.range (m := (a.getD []).length) (fun k e H' => lk e 0 = ints a ∧ lk e 1 = ints a) ?_ hl ?_ ?_ ?_
  · decide
  · simp
  · rintro k e H' hk h1 h2 ⟨h3, h4⟩
    simp [h1, h2, h3, h4, hk]
    refine WP.draw0 (by decide +kernel) (by decide +kernel) ?_
    simp [h1, h2, h3, h4, hk]
  · rintro e H' h1 h2 ⟨h3, h4⟩
    simp
set_option maxRecDepth 100000 in
theorem SameT26 (a : Option (List (List UInt8))) (hl : (a.getD []).length < 2 ^ 63) (H : World) (Q : Value → World → Prop) : FW X 26 #[txts a, txts a] H Q = Q (.bool true) H := by
  refine FW.aloneEq ?_ Try.func26 Try.ntmps26 rfl (by simp) ?_ H Q
  · simp [X, plainT]
  simp
  refine CE.range (m := (a.getD []).length) (fun k e H' => lk e 0 = txts a ∧ lk e 1 = txts a) ?_ hl ?_ ?_ ?_
  · decide
  · simp
  · rintro k e H' hk h1 h2 ⟨h3, h4⟩
    simp [h1, h2, h3, h4, hk]
    refine WP.draw0 (by decide +kernel) (by decide +kernel) ?_
    simp [h1, h2, h3, h4, hk]
  · rintro e H' h1 h2 ⟨h3, h4⟩
    simp
theorem runW_len (most room : Int) : ∀ (l : List Pc) (i : Nat) (L : List Op) (ids : List Int) (bs : List (List UInt8)), (runW most room i L ids bs l).1.length ≤ ids.length + l.length ∧ (runW most room i L ids bs l).2.1.length ≤ bs.length + l.length
  | [], i, L, ids, bs => by simp [runW]
  | p :: l, i, L, ids, bs => by
    rw [runW]
    split
    · simp
    · split
      · have := runW_len most room l (i + 1) (takeW most room L p).1 (ids ++ [p.id]) (bs ++ [(takeW most room L p).2.1])
        simp at this ⊢
        omega
      · have := runW_len most room l (i + 1) (takeW most room L p).1 ids bs
        simp at this ⊢
        omega
theorem allW_len (l : List Pc) (most room : Int) : (allW l most room).1.length ≤ l.length ∧ (allW l most room).2.1.length ≤ l.length := by
  unfold allW
  split
  · simp
  · split
    · simp
    · have := runW_len most room l 0 [] [] []
      simpa using this
set_option maxRecDepth 100000 in
theorem All6 (o : Option (List Pc)) (most room : Int) (hl : (o.getD []).length < 2 ^ 63) (H : World) :
    FW X 6 #[sl o, .int .i64 most, .int .i64 room] H fun v H' => v = .bool true := by
  refine FW.walk (by simp [X]) Try.func6 Try.ntmps6 rfl (by simp) ?_
  have hal := allW_len (o.getD []) most room
  have hs1 : ∀ H Q, FW X 25 #[ints (if (allW (o.getD []) most room).1 = [] then none else some (allW (o.getD []) most room).1), ints (if (allW (o.getD []) most room).1 = [] then none else some (allW (o.getD []) most room).1)] H Q = Q (.bool true) H := fun H Q => SameI25 _ (by split <;> simp; omega) H Q
  have hs2 : ∀ H Q, FW X 26 #[txts (if (allW (o.getD []) most room).2.1 = [] then none else some (allW (o.getD []) most room).2.1), txts (if (allW (o.getD []) most room).2.1 = [] then none else some (allW (o.getD []) most room).2.1)] H Q = Q (.bool true) H := fun H Q => SameT26 _ (by split <;> simp; omega) H Q
  simp [light_eq o hl, awake_eq]
  refine gIf_nb (fun h => ?_) (fun h => ?_)
  · simp [All23 o most room hl, All24 o most room hl, allV, hs1, hs2, awake_eq]
  · simp [awake_eq]
end Go.Proofs.Ytlpoejkleopdoaa
end
