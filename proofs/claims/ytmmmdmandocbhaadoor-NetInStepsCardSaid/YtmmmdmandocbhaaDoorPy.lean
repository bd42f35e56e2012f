/- Helpers of this claim: an evaluator over plain values and its laws. -/
import Derived.Test.YtmmmdmandocbhaaDoorPp
section
set_option linter.unusedVariables false
set_option linter.unusedSimpArgs false
namespace Go.Proofs.YtmmmdmandocbhaaDoor
open Go Go.Proofs.YtmmmdmandocbhaaDoor.Den
def I64 (n : Int) : Prop := -9223372036854775808 ≤ n ∧ n ≤ 9223372036854775807
set_option maxRecDepth 100000 in
theorem wf_i64 {n : Int} (h : (Lit.int .i64 n).wf = true) : I64 n := by
  simp [Lit.wf, IntKind.min, IntKind.max, IntKind.bits, IntKind.signed] at h
  unfold I64
  omega
set_option maxRecDepth 100000 in
/-- Numbers that came in. -/
theorem in_ints {d : Nat} (c : List Value) (h : TyC reachBytes Tryd.prog (d + 2) 22 c) : ∃ o : Option (List Int), Den.elemOf (aggU Tryd.prog 22) c = sidesV o ∧ (o.getD []).length < 2 ^ 62 ∧ ∀ a ∈ o.getD [], I64 a :=
  have ⟨o, h1, h2, h3⟩ := in_slice (enc := Value.int .i64) (Ok := I64) Tryd.underlying22 (by simp) (fun c hc => have ⟨n, h1, h2, _⟩ := in_int (k := .i64) (by simp) hc; ⟨n, h1, wf_i64 h2⟩) h
  ⟨o, h1, Nat.lt_of_le_of_lt h2 (by decide), h3⟩
set_option maxRecDepth 100000 in
theorem one_slice {d : Nat} {c : List Value} {v : Value} (h : TyC reachBytes Tryd.prog (d + 1) 22 c) (hv : Den.elemOf (aggU Tryd.prog 22) c = v) : c = [v] := by
  have hag : aggU Tryd.prog 22 = false := by unfold aggU; simp
  rw [hag] at hv
  unfold TyC at h
  simp only [Tryd.underlying22] at h
  rcases h with rfl | ⟨l, rfl, _, _⟩
  · rw [← hv]; rfl
  · rw [← hv]; rfl
/-- An act whose numbers are numbers of the machine. -/
structure AcOk (a : Ac) : Prop where
  frm : I64 a.frm
  to : I64 a.to
  time : I64 a.time
  delay : I64 a.lk.delay
  jitter : I64 a.lk.jitter
  loss : I64 a.lk.loss
  dbl : I64 a.lk.dbl
  sides : ∀ x ∈ a.sides.getD [], I64 x
set_option maxRecDepth 100000 in
theorem in_L (c : List Value) (h : TyC reachBytes Tryd.prog 2 31 c) : ∃ a : Lk, c = [.int .i64 a.delay, .int .i64 a.jitter, .int .i64 a.loss, .int .i64 a.dbl] ∧ I64 a.delay ∧ I64 a.jitter ∧ I64 a.loss ∧ I64 a.dbl := by
  unfold TyC at h
  simp only [Tryd.underlying31] at h
  obtain ⟨a1, b1, rfl, h1, a2, b2, rfl, h2, a3, b3, rfl, h3, a4, b4, rfl, h4, h7⟩ := h
  subst h7
  obtain ⟨n1, _, g1, rfl⟩ := in_int (k := .i64) (by simp) h1
  obtain ⟨n2, _, g2, rfl⟩ := in_int (k := .i64) (by simp) h2
  obtain ⟨n3, _, g3, rfl⟩ := in_int (k := .i64) (by simp) h3
  obtain ⟨n4, _, g4, rfl⟩ := in_int (k := .i64) (by simp) h4
  exact ⟨⟨n1, n2, n3, n4⟩, rfl, wf_i64 g1, wf_i64 g2, wf_i64 g3, wf_i64 g4⟩
set_option maxRecDepth 100000 in
theorem in_A (c : List Value) (h : TyC reachBytes Tryd.prog 3 33 c) : ∃ a : Ac, Den.elemOf (aggU Tryd.prog 33) c = encA a ∧ AcOk a := by
  have hag : aggU Tryd.prog 33 = true := by unfold aggU; simp
  unfold TyC at h
  simp only [Tryd.underlying33] at h
  rw [hag]
  obtain ⟨a1, b1, rfl, h1, a2, b2, rfl, h2, a3, b3, rfl, h3, a4, b4, rfl, h4, a5, b5, rfl, h5, a6, b6, rfl, h6, a7, b7, rfl, h7, h8⟩ := h
  subst h8
  obtain ⟨n1, _, _, rfl⟩ := in_int (k := .i64) (by simp) h1
  obtain ⟨n2, _, g2, rfl⟩ := in_int (k := .i64) (by simp) h2
  obtain ⟨n3, _, g3, rfl⟩ := in_int (k := .i64) (by simp) h3
  obtain ⟨n4, _, g4, rfl⟩ := in_int (k := .i64) (by simp) h4
  obtain ⟨lk, rfl, k1, k2, k3, k4⟩ := in_L _ h5
  obtain ⟨n6, _, _, rfl⟩ := in_string (by simp) h6
  obtain ⟨o, e7, _, k7⟩ := in_ints _ h7
  rw [one_slice h7 e7]
  exact ⟨⟨n1, n2, n3, n4, lk, n6, o⟩, rfl, wf_i64 g2, wf_i64 g3, wf_i64 g4, k1, k2, k3, k4, k7⟩
set_option maxRecDepth 100000 in
theorem in_Acts (c : List Value) (h : TyC reachBytes Tryd.prog 4 23 c) : ∃ o : Option (List Ac), Den.elemOf (aggU Tryd.prog 23) c = acts o ∧ (o.getD []).length < 2 ^ 62 ∧ ∀ a ∈ o.getD [], AcOk a :=
  have ⟨o, h1, h2, h3⟩ := in_slice (enc := encA) (Ok := AcOk) Tryd.underlying23 (by simp) in_A h
  ⟨o, h1, Nat.lt_of_le_of_lt h2 (by decide), h3⟩
end Go.Proofs.YtmmmdmandocbhaaDoor
end
