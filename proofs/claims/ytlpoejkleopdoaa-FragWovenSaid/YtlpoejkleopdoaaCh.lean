/- Helpers of this claim: an evaluator over plain values and its laws. -/
import Derived.Test.YtlpoejkleopdoaaKc
section
set_option linter.unusedVariables false
set_option linter.unusedSimpArgs false
namespace Go.Proofs.Ytlpoejkleopdoaa
open Go Go.Proofs.Ytlpoejkleopdoaa.Den
theorem in_P (c : List Value) (h : TyC Try.prog 2 33 c) : ∃ p : Pc, Den.elemOf (aggU Try.prog 33) c = encP p ∧ p.body.length ≤ maxLen := by
  have hag : aggU Try.prog 33 = true := by unfold aggU; simp
  unfold TyC at h
  simp only [Try.underlying33] at h
  rw [hag]
  obtain ⟨a, b, rfl, h1, c, d, rfl, h2, e, f, rfl, h3, g, i, rfl, h4, h5⟩ := h
  subst h5
  obtain ⟨n1, _, _, rfl⟩ := in_int (k := .i64) (by simp) h1
  obtain ⟨n2, _, _, rfl⟩ := in_int (k := .i64) (by simp) h2
  obtain ⟨b3, _, rfl⟩ := in_bool (by simp) h3
  obtain ⟨l4, _, hl, rfl⟩ := in_string (by simp) h4
  exact ⟨⟨n1, n2, b3, l4⟩, rfl, hl⟩
theorem in_S (c : List Value) (h : TyC Try.prog 3 24 c) : ∃ o : Option (List Pc), Den.elemOf (aggU Try.prog 24) c = sl o ∧ (o.getD []).length ≤ maxLen :=
  have ⟨o, h1, h2, _⟩ := in_slice (enc := encP) (Ok := fun p => p.body.length ≤ maxLen) Try.underlying24 (by simp) in_P h
  ⟨o, h1, h2⟩
theorem in_I (c : List Value) (h : TyC Try.prog 2 23 c) : ∃ o : Option (List Int), Den.elemOf (aggU Try.prog 23) c = ints o ∧ (o.getD []).length ≤ maxLen :=
  have ⟨o, h1, h2, _⟩ := in_slice (enc := Value.int .i64) (Ok := fun _ => True) Try.underlying23 (by simp) (fun c hc => have ⟨n, h1, _, _⟩ := in_int (k := .i64) (by simp) hc; ⟨n, h1, trivial⟩) h
  ⟨o, h1, h2⟩
theorem in_T (c : List Value) (h : TyC Try.prog 2 42 c) : ∃ o : Option (List (List UInt8)), Den.elemOf (aggU Try.prog 42) c = txts o ∧ (o.getD []).length ≤ maxLen :=
  have ⟨o, h1, h2, _⟩ := in_slice (enc := fun l => Value.string (sB l)) (Ok := fun _ => True) Try.underlying42 (by simp) (fun c hc => have ⟨n, h1, _, _⟩ := in_string (by simp) hc; ⟨n, h1, trivial⟩) h
  ⟨o, h1, h2⟩
theorem in_L (c : List Value) (h : TyC Try.prog 4 22 c) : ∃ o : Option LL, Den.elemOf (aggU Try.prog 22) c = lls o ∧ (o.getD []).length ≤ maxLen ∧ ∀ x ∈ o.getD [], (x.getD []).length ≤ maxLen :=
  in_slice (enc := sl) (Ok := fun o => (o.getD []).length ≤ maxLen) Try.underlying22 (by simp) in_S h
end Go.Proofs.Ytlpoejkleopdoaa
end
