/- Helpers of this claim: an evaluator over plain values and its laws. -/
import Derived.Test.YtcllchaboahlfaaEk
section
set_option linter.unusedVariables false
set_option linter.unusedSimpArgs false
namespace Go.Proofs.Ytcllchaboahlfaa
open Go Go.Proofs.Ytcllchaboahlfaa.Den
theorem in_A (c : List Value) (h : TyC reachBytes Try.prog 2 30 c) : ∃ a : Ac, Den.elemOf (aggU Try.prog 30) c = encA a ∧ a.s.length ≤ reachBytes := by
  have hag : aggU Try.prog 30 = true := by unfold aggU; simp
  unfold TyC at h
  simp only [Try.underlying30] at h
  rw [hag]
  obtain ⟨a, b, rfl, h1, c, d, rfl, h2, e, f, rfl, h3, g, i, rfl, h4, h5⟩ := h
  subst h5
  obtain ⟨n1, _, _, rfl⟩ := in_int (k := .i64) (by simp) h1
  obtain ⟨n2, _, _, rfl⟩ := in_int (k := .i64) (by simp) h2
  obtain ⟨n3, _, _, rfl⟩ := in_int (k := .i64) (by simp) h3
  obtain ⟨l4, _, hl, rfl⟩ := in_string (by simp) h4
  exact ⟨⟨n1, n2, n3, l4⟩, rfl, hl⟩
theorem in_Acts (c : List Value) (h : TyC reachBytes Try.prog 3 22 c) : ∃ o : Option (List Ac), Den.elemOf (aggU Try.prog 22) c = acts o ∧ (o.getD []).length < 2 ^ 63 ∧ ∀ a ∈ o.getD [], a.s.length ≤ 140737488351232 :=
  have ⟨o, h1, h2, h3⟩ := in_slice (enc := encA) (Ok := fun a => a.s.length ≤ reachBytes) Try.underlying22 (by simp) in_A h
  ⟨o, h1, Nat.lt_of_le_of_lt h2 (by decide), h3⟩
end Go.Proofs.Ytcllchaboahlfaa
end
