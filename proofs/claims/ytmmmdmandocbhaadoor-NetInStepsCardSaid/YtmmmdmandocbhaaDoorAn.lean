/- Helpers of this claim: an evaluator over plain values and its laws. -/
import Derived.Test.YtmmmdmandocbhaaDoorAm
section
/- What came in, as data. -/
set_option linter.unusedVariables false
set_option linter.unusedSimpArgs false
namespace Go.Proofs.YtmmmdmandocbhaaDoor.Den
variable {P : Program}
theorem in_list {α : Type} {enc : α → Value} {f : List Value → Value} {T : List Value → Prop} {Ok : α → Prop} (h : ∀ c, T c → ∃ x, f c = enc x ∧ Ok x) : ∀ l : List (List Value), (∀ c ∈ l, T c) → ∃ xs : List α, l.map f = xs.map enc ∧ xs.length = l.length ∧ ∀ x ∈ xs, Ok x
  | [], _ => ⟨[], rfl, rfl, fun x hx => by cases hx⟩
  | c :: l, hl => by
    obtain ⟨x, hx, ok⟩ := h c (hl c List.mem_cons_self)
    obtain ⟨xs, h1, h2, h3⟩ := in_list h l fun c hc => hl c (List.mem_cons_of_mem _ hc)
    refine ⟨x :: xs, by simp [hx, h1], by simp [h2], fun y hy => ?_⟩
    rcases List.mem_cons.1 hy with rfl | hy
    · exact ok
    · exact h3 y hy
theorem in_slice {B : Nat} {α : Type} {enc : α → Value} {Ok : α → Prop} {d es : Nat} {t e : TypeId} {cs : List Value} (hu : P.underlying t = some (.slice e)) (hs : P.cellsOf e = es) (h : ∀ c, TyC B P d e c → ∃ x, elemOf (aggU P e) c = enc x ∧ Ok x)
    (hc : TyC B P (d + 1) t cs) : ∃ o : Option (List α), elemOf (aggU P t) cs = slV es (o.map (List.map enc)) ∧ (o.getD []).length ≤ B ∧ ∀ x ∈ o.getD [], Ok x := by
  have hag : aggU P t = false := by unfold aggU; rw [hu]; rfl
  unfold TyC at hc
  rw [hu] at hc
  rw [hag]
  rcases hc with rfl | ⟨l, rfl, hl, hall⟩
  · exact ⟨none, rfl, Nat.zero_le _, fun x hx => by cases hx⟩
  · obtain ⟨xs, h1, h2, h3⟩ := in_list (f := elemOf (aggU P e)) h l hall
    refine ⟨some xs, ?_, by simpa [h2] using hl, h3⟩
    rw [h1, hs]; rfl
theorem in_int {B : Nat} {d : Nat} {t : TypeId} {k : IntKind} {cs : List Value} (hu : P.underlying t = some (.int k)) (hc : TyC B P (d + 1) t cs) : ∃ n : Int, elemOf (aggU P t) cs = .int k n ∧ (Lit.int k n).wf = true ∧ cs = [.int k n] := by
  have hag : aggU P t = false := by unfold aggU; rw [hu]; rfl
  unfold TyC at hc
  rw [hu] at hc
  obtain ⟨n, rfl, h⟩ := hc
  rw [hag]
  exact ⟨n, rfl, h, rfl⟩
theorem in_bool {B : Nat} {d : Nat} {t : TypeId} {cs : List Value} (hu : P.underlying t = some .bool) (hc : TyC B P (d + 1) t cs) : ∃ b : Bool, elemOf (aggU P t) cs = .bool b ∧ cs = [.bool b] := by
  have hag : aggU P t = false := by unfold aggU; rw [hu]; rfl
  unfold TyC at hc
  rw [hu] at hc
  obtain ⟨n, rfl⟩ := hc
  rw [hag]
  exact ⟨n, rfl, rfl⟩
theorem in_string {B : Nat} {d : Nat} {t : TypeId} {cs : List Value} (hu : P.underlying t = some .string) (hc : TyC B P (d + 1) t cs) : ∃ l : List UInt8, elemOf (aggU P t) cs = .string (sB l) ∧ l.length ≤ B ∧ cs = [.string (sB l)] := by
  have hag : aggU P t = false := by unfold aggU; rw [hu]; rfl
  unfold TyC at hc
  rw [hu] at hc
  obtain ⟨s, rfl, hs⟩ := hc
  rw [hag]
  have e : sB s.data.toList = s := by
    unfold sB; cases s; simp
  refine ⟨s.data.toList, by rw [e]; rfl, ?_, by rw [e]⟩
  rw [Array.length_toList]
  exact hs
end Go.Proofs.YtmmmdmandocbhaaDoor.Den
end
