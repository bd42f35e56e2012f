/- Helpers of this claim: an evaluator over plain values and its laws. -/
import Derived.Test.YtlpoejkleopdoaaCo
section
set_option linter.unusedVariables false
set_option linter.unusedSimpArgs false
namespace Go.Proofs.Ytlpoejkleopdoaa.Den
def AccB (e : TypeId) (H : World) (v : Value) (bs : List UInt8) : Prop := Acc H v 1 e bs.length (bs.map fun b => Value.int .u8 b.toNat)
theorem byteV_of (b : UInt8) : byteV (.int .u8 (b.toNat : Int)) = b := by
  simp [byteV]
theorem conv_bytes {P : Program} {src dst e : TypeId} {v : Value} {H : World} {bs : List UInt8} (hs : P.underlying src = some (.slice e)) (he : P.underlying e = some (.int .u8)) (hd : P.underlying dst = some .string) (h : AccB e H v bs) : convX P src dst v H = some (.value (.string (sB bs)), H) := by
  obtain ⟨_, ⟨rfl, hn⟩ | ⟨r, rfl, hn, hr⟩⟩ := h
  · have : bs = [] := List.length_eq_zero_iff.1 hn
    subst this
    have hv : vConv P src dst (.slice none 0 0) = none := rfl
    unfold convX
    rw [hv]
    simp only [hs, he, hd]
    rfl
  · have hv : vConv P src dst (.slice (some ⟨r, 0, none⟩) bs.length bs.length) = none := rfl
    unfold convX
    rw [hv]
    have hrow : rowAt H ⟨r, 0, none⟩ bs.length = some (bs.map fun b => Value.int .u8 b.toNat).toArray := by
      simp [hr]
      exact List.take_of_length_le (by simp)
    have hu : ((bs.map fun b => Value.int .u8 b.toNat).toArray.all isU8) = true := by
      simp [isU8]
    have hst : strOf ((bs.map fun b => Value.int .u8 b.toNat).toArray.toList) = sB bs := by
      simp only [strOf, List.map_map, sB]
      congr 2
      conv => rhs; rw [← List.map_id bs]
      apply List.map_congr_left
      intro b _
      exact byteV_of b
    simp only [hs, he, hd, hrow, hu, hst, if_true]
end Go.Proofs.Ytlpoejkleopdoaa.Den
namespace Go.Proofs.Ytlpoejkleopdoaa
open Go Go.Proofs.Ytlpoejkleopdoaa.Den
set_option maxRecDepth 100000 in
theorem Index52G {g : Nat} {caps : Array Value} (hf : isFn Try.prog g = true) (p : Pc → Bool) (o : Option (List Pc)) (hl : (o.getD []).length < 2 ^ 63) (H : World)
    (hg : ∀ x H1, Keep H H1 → ∀ Q : Value → World → Prop, (∀ H2, Keep H1 H2 → Q (.bool (p x)) H2) → FW X g (#[encP x] ++ caps) H1 Q) {Q : Value → World → Prop} (hq : ∀ H', Keep H H' → Q (.int .i64 (idxI p (o.getD []))) H') : FW X 52 #[sl o, .func (.func g) #[] caps] H Q := by
  refine FW.walk (by simp [X]) Try.func52 Try.ntmps52 rfl (by simp) ?_
  simp
  refine CE.range (m := (o.getD []).length) (fun k e H' => Keep H H' ∧ lk e 0 = sl o ∧ lk e 1 = .func (.func g) #[] caps ∧ ∀ j (hj : j < (o.getD []).length), j < k → p (o.getD [])[j] = false) ?_ hl ?_ ?_ ?_
  · decide
  · simp
    exact Keep.refl
  · rintro k e H' hk h1 h2 ⟨hK, h3, h4, h5⟩
    simp [h1, h2, h3, h4, hk, hf]
    refine hg _ H' hK _ fun H2 hK2 => ?_
    simp
    refine gIf_split (fun h => ?_) (fun h => ?_)
    · simp [h1]
      rw [← idxI_at hk (fun j hj => h5 j (by omega) hj) h]
      exact hq _ (hK.trans hK2)
    · simp [h1, h2, h3, h4]
      refine ⟨hK.trans hK2, fun j hj hj2 => ?_⟩
      by_cases hjk : j = k
      · subst hjk; exact h
      · exact h5 j hj (by omega)
  · rintro e H' h1 h2 ⟨hK, h3, h4, h5⟩
    simp
    rw [← idxI_none fun j hj => h5 j hj hj]
    exact hq _ hK
set_option maxRecDepth 100000 in
theorem Contains35G {g : Nat} {caps : Array Value} (hf : isFn Try.prog g = true) (p : Pc → Bool) (o : Option (List Pc)) (hl : (o.getD []).length < 2 ^ 63) (H : World)
    (hg : ∀ x H1, Keep H H1 → ∀ Q : Value → World → Prop, (∀ H2, Keep H1 H2 → Q (.bool (p x)) H2) → FW X g (#[encP x] ++ caps) H1 Q) {Q : Value → World → Prop} (hq : ∀ H', Keep H H' → Q (.bool ((o.getD []).any p)) H') : FW X 35 #[sl o, .func (.func g) #[] caps] H Q := by
  refine FW.walk (by simp [X]) Try.func35 Try.ntmps35 rfl (by simp) ?_
  simp
  refine Index52G hf p o hl H hg fun H' hK => ?_
  simp [idxI_any]
  exact hq _ hK
end Go.Proofs.Ytlpoejkleopdoaa
end
