/- Helpers of this claim: an evaluator over plain values and its laws. -/
import Derived.Test.YtlpoejkleopdoaaCv
section
set_option linter.unusedVariables false
set_option linter.unusedSimpArgs false
namespace Go.Proofs.Ytlpoejkleopdoaa
open Go Go.Proofs.Ytlpoejkleopdoaa.Den
/-! ### what a joiner does -/
structure Op where
  id : Int
  count : Int
  body : List UInt8
def findO (id : Int) : List Op → Option Op
  | [] => none
  | x :: L => if x.id = id then some x else findO id L
def delO (id : Int) : List Op → List Op
  | [] => []
  | x :: L => if x.id = id then L else x :: delO id L
def putO (o : Op) : List Op → List Op
  | [] => [o]
  | x :: L => if x.id = o.id then o :: L else x :: putO o L
def bytesO (L : List Op) : Nat := (L.map (·.body.length)).sum
abbrev TakeR := List Op × List UInt8 × Bool × Int
def takeW (most room : Int) (L : List Op) (p : Pc) : TakeR :=
  if valid p = false then (L, [], false, 1) else
  match findO p.id L with
  | none =>
    if ¬ p.place = 0 then (L, [], false, 9)
    else if p.more = false then (if room < (p.body.length : Int) then (L, [], false, 11) else (L, p.body, true, 0))
    else if room < (bytesO L : Int) + p.body.length then (L, [], false, 11)
    else if most ≤ (L.length : Int) then (L, [], false, 4)
    else (L ++ [⟨p.id, 1, p.body⟩], [], false, 0)
  | some x =>
    if ¬ p.place = x.count then (delO p.id L, [], false, 9)
    else if 65536 < x.body.length + p.body.length ∨ room < (bytesO L : Int) + p.body.length then (delO p.id L, [], false, 11)
    else if p.more = false then (delO p.id L, x.body ++ p.body, true, 0)
    else (putO ⟨p.id, x.count + 1, x.body ++ p.body⟩ L, [], false, 0)
/-- What holds of the open messages. -/
structure OInv (most room : Int) (L : List Op) : Prop where
  room0 : 1 ≤ room ∧ room ≤ 1000000
  most0 : 1 ≤ most ∧ most ≤ 100
  bytes : (bytesO L : Int) ≤ room
  len : (L.length : Int) ≤ most
  body : ∀ x ∈ L, x.body.length ≤ 65536
theorem findO_mem {id : Int} {x : Op} : ∀ {L : List Op}, findO id L = some x → x ∈ L ∧ x.id = id
  | [], h => by cases h
  | y :: L, h => by
    unfold findO at h
    split at h
    · injection h with h; subst h; exact ⟨List.mem_cons_self, by assumption⟩
    · obtain ⟨h1, h2⟩ := findO_mem h
      exact ⟨List.mem_cons_of_mem _ h1, h2⟩
theorem delO_none {id : Int} : ∀ {L : List Op}, findO id L = none → delO id L = L
  | [], h => rfl
  | y :: L, h => by
    unfold findO at h
    split at h
    · cases h
    · unfold delO; rw [if_neg (by assumption), delO_none h]
theorem putO_none {o : Op} : ∀ {L : List Op}, findO o.id L = none → putO o L = L ++ [o]
  | [], h => rfl
  | y :: L, h => by
    unfold findO at h
    split at h
    · cases h
    · unfold putO; rw [if_neg (by assumption), putO_none h]; rfl
theorem delO_some {id : Int} {x : Op} : ∀ {L : List Op}, findO id L = some x → bytesO (delO id L) + x.body.length = bytesO L ∧ (delO id L).length + 1 = L.length
  | [], h => by cases h
  | y :: L, h => by
    unfold findO at h
    unfold delO
    split at h
    · injection h with h; subst h
      rw [if_pos (by assumption)]
      simp [bytesO]; omega
    · obtain ⟨h1, h2⟩ := delO_some h
      rw [if_neg (by assumption)]
      simp only [bytesO, List.map_cons, List.sum_cons, List.length_cons] at *
      omega
theorem delO_mem {id : Int} {x : Op} : ∀ {L : List Op}, x ∈ delO id L → x ∈ L
  | [], h => by cases h
  | y :: L, h => by
    unfold delO at h
    split at h
    · exact List.mem_cons_of_mem _ h
    · rcases List.mem_cons.1 h with rfl | h
      · exact List.mem_cons_self
      · exact List.mem_cons_of_mem _ (delO_mem h)
theorem putO_some {o x : Op} : ∀ {L : List Op}, findO o.id L = some x → bytesO (putO o L) + x.body.length = bytesO L + o.body.length ∧ (putO o L).length = L.length
  | [], h => by cases h
  | y :: L, h => by
    unfold findO at h
    unfold putO
    split at h
    · injection h with h; subst h
      rw [if_pos (by assumption)]
      simp [bytesO]; omega
    · obtain ⟨h1, h2⟩ := putO_some h
      rw [if_neg (by assumption)]
      simp only [bytesO, List.map_cons, List.sum_cons, List.length_cons] at *
      omega
theorem putO_mem {o x : Op} : ∀ {L : List Op}, x ∈ putO o L → x = o ∨ x ∈ L
  | [], h => by simpa [putO] using h
  | y :: L, h => by
    unfold putO at h
    split at h
    · rcases List.mem_cons.1 h with rfl | h
      · exact .inl rfl
      · exact .inr (List.mem_cons_of_mem _ h)
    · rcases List.mem_cons.1 h with rfl | h
      · exact .inr List.mem_cons_self
      · rcases putO_mem h with h | h
        · exact .inl h
        · exact .inr (List.mem_cons_of_mem _ h)
theorem OInv.del {most room : Int} {L : List Op} (h : OInv most room L) (id : Int) : OInv most room (delO id L) := by
  obtain ⟨h1, h2, h3, h4, h5⟩ := h
  cases hf : findO id L with
  | none => rw [delO_none hf]; exact ⟨h1, h2, h3, h4, h5⟩
  | some x =>
    obtain ⟨d1, d2⟩ := delO_some hf
    exact ⟨h1, h2, by omega, by omega, fun y hy => h5 y (delO_mem hy)⟩
theorem takeW_inv {most room : Int} {L : List Op} (h : OInv most room L) (p : Pc) : OInv most room (takeW most room L p).1 := by
  have h0 := h
  obtain ⟨h1, h2, h3, h4, h5⟩ := h
  unfold takeW
  split
  · exact h0
  · rename_i hv
    have hvl := valid_len (p := p) (by simpa using hv)
    split
    · repeat' split
      all_goals first | exact h0 | skip
      refine ⟨h1, h2, ?_, ?_, fun x hx => ?_⟩
      · simp [bytesO] at *; omega
      · simp; omega
      · rcases List.mem_append.1 hx with hx | hx
        · exact h5 x hx
        · simp at hx; subst hx; exact hvl
    · rename_i x hf
      repeat' split
      all_goals first | exact h0.del _ | skip
      rename_i hb _
      have hx := (findO_mem hf).2
      obtain ⟨p1, p2⟩ := putO_some (o := ⟨p.id, x.count + 1, x.body ++ p.body⟩) hf
      simp only [List.length_append] at p1
      show OInv most room (putO ⟨p.id, x.count + 1, x.body ++ p.body⟩ L)
      refine ⟨h1, h2, by omega, by omega, fun y hy => ?_⟩
      rcases putO_mem hy with rfl | hy
      · simp; omega
      · exact h5 y hy
end Go.Proofs.Ytlpoejkleopdoaa
end
