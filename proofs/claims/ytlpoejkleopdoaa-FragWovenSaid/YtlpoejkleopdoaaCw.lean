/- Helpers of this claim: an evaluator over plain values and its laws. -/
import Derived.Test.YtlpoejkleopdoaaCa
section
set_option linter.unusedVariables false
set_option linter.unusedSimpArgs false
namespace Go.Proofs.Ytlpoejkleopdoaa
open Go Go.Proofs.Ytlpoejkleopdoaa.Den
/-! ### what Weave tells: plain lists alone -/
abbrev WS := List (List Pc) × List Pc
def neL (l : List (List Pc)) : List (List Pc) := l.filter (fun x => !x.isEmpty)
def nextW (i : Nat) (s : WS) : WS := match s.1[i]? with | some (p :: t) => (neL (s.1.set i t), s.2 ++ [p]) | _ => s
def idxW (turns : List Int) (k len : Nat) : Nat := match turns[k]? with | some n => n.toNat % len | none => 0
def seqW (turns : List Int) (L : List (List Pc)) : Nat → WS
  | 0 => (neL L, [])
  | k + 1 => if (seqW turns L k).1 = [] then seqW turns L k else nextW (idxW turns k (seqW turns L k).1.length) (seqW turns L k)
def totalW (L : List (List Pc)) : Nat := L.flatten.length
def weaveW (turns : List Int) (L : List (List Pc)) : List Pc := (seqW turns L (totalW L)).2

theorem neL_flat : ∀ (L : List (List Pc)), (neL L).flatten = L.flatten
  | [] => rfl
  | x :: L => by
    unfold neL
    rw [List.filter_cons]
    cases x with
    | nil => simpa [neL] using neL_flat L
    | cons a x => simpa [neL] using neL_flat L
theorem set_flat : ∀ (l : List (List Pc)) (i : Nat) (x t : List Pc), l[i]? = some x → (l.set i t).flatten.length + x.length = l.flatten.length + t.length
  | [], i, x, t, h => by simp at h
  | y :: l, 0, x, t, h => by simp at h; subst h; simp; omega
  | y :: l, i + 1, x, t, h => by
    have := set_flat l i x t (by simpa using h)
    simp only [List.set_cons_succ, List.flatten_cons, List.length_append]
    omega
theorem neL_ne {L : List (List Pc)} {x : List Pc} (h : x ∈ neL L) : x ≠ [] := by
  unfold neL at h
  rw [List.mem_filter] at h
  intro e; subst e; simp at h
theorem nextW_ne {i : Nat} {s : WS} (h : ∀ x ∈ s.1, x ≠ []) : ∀ x ∈ (nextW i s).1, x ≠ [] := by
  unfold nextW
  split
  · intro x hx; exact neL_ne hx
  · exact h
theorem nextW_at {i : Nat} {s : WS} (h : ∀ x ∈ s.1, x ≠ []) (hi : i < s.1.length) : ∃ p t, s.1[i]? = some (p :: t) ∧ nextW i s = (neL (s.1.set i t), s.2 ++ [p]) := by
  have hx := List.getElem?_eq_getElem hi
  cases hc : s.1[i] with
  | nil => exact absurd hc (h _ (List.getElem_mem hi))
  | cons p t =>
    rw [hc] at hx
    exact ⟨p, t, hx, by unfold nextW; rw [hx]⟩
theorem idxW_lt {turns : List Int} {k len : Nat} (h : 0 < len) : idxW turns k len < len := by
  unfold idxW
  split
  · exact Nat.mod_lt _ h
  · exact h
section
variable (turns : List Int) (L : List (List Pc))
theorem seqW_ne : ∀ k, ∀ x ∈ (seqW turns L k).1, x ≠ []
  | 0 => fun x hx => neL_ne hx
  | k + 1 => by
    unfold seqW
    split
    · exact seqW_ne k
    · exact nextW_ne (seqW_ne k)
theorem seqW_len : ∀ k, (seqW turns L k).2.length + (seqW turns L k).1.flatten.length = totalW L
  | 0 => by simp [seqW, neL_flat, totalW]
  | k + 1 => by
    unfold seqW
    split
    · exact seqW_len k
    · rename_i hne
      have hlt := idxW_lt (turns := turns) (k := k) (List.length_pos_iff.2 hne)
      obtain ⟨p, t, h1, h2⟩ := nextW_at (seqW_ne turns L k) hlt
      have h3 := set_flat _ _ _ t h1
      have h4 := seqW_len k
      rw [h2]
      simp only [neL_flat, List.length_append, List.length_cons, List.length_nil] at h3 ⊢
      omega
theorem seqW_count : ∀ k, (seqW turns L k).1 ≠ [] → (seqW turns L k).2.length = k
  | 0, _ => rfl
  | k + 1, h => by
    unfold seqW at h ⊢
    split at h
    · rename_i he; exact absurd he h
    · rename_i hne
      rw [if_neg hne]
      have hlt := idxW_lt (turns := turns) (k := k) (List.length_pos_iff.2 hne)
      obtain ⟨p, t, h1, h2⟩ := nextW_at (seqW_ne turns L k) hlt
      rw [h2]
      simp [seqW_count k hne]
theorem seqW_done {k : Nat} (h : (seqW turns L k).1 = []) : ∀ d, seqW turns L (k + d) = seqW turns L k
  | 0 => rfl
  | d + 1 => by
    have ih := seqW_done h d
    show (if (seqW turns L (k + d)).1 = [] then seqW turns L (k + d) else _) = _
    rw [ih, if_pos h]
theorem seqW_total : (seqW turns L (totalW L)).1 = [] := by
  apply Classical.byContradiction
  intro h
  have h1 := seqW_count turns L _ h
  have h2 := seqW_len turns L (totalW L)
  have h3 : (seqW turns L (totalW L)).1.flatten.length = 0 := by omega
  cases hc : (seqW turns L (totalW L)).1 with
  | nil => exact h hc
  | cons x l =>
    rw [hc] at h3
    have := seqW_ne turns L (totalW L) x (by rw [hc]; exact List.mem_cons_self)
    simp only [List.flatten_cons, List.length_append] at h3
    have : x = [] := List.length_eq_zero_iff.1 (by omega)
    contradiction
theorem weaveW_eq {k : Nat} (h : (seqW turns L k).1 = []) : weaveW turns L = (seqW turns L k).2 := by
  unfold weaveW
  rcases Nat.le_total k (totalW L) with hk | hk
  · obtain ⟨d, hd⟩ := Nat.le.dest hk
    rw [← hd, seqW_done turns L h]
  · obtain ⟨d, hd⟩ := Nat.le.dest hk
    rw [← hd, seqW_done turns L (seqW_total turns L)]
end
/-! ### the places of those that are not empty -/
def nzW : Nat → List (List Pc) → List Nat
  | _, [] => []
  | j, x :: l => if x.isEmpty then nzW (j + 1) l else j :: nzW (j + 1) l
theorem nzW_append : ∀ (a b : List (List Pc)) (j : Nat), nzW j (a ++ b) = nzW j a ++ nzW (j + a.length) b
  | [], b, j => by simp [nzW]
  | x :: a, b, j => by
    simp only [List.cons_append, nzW, List.length_cons]
    rw [nzW_append a b, show j + 1 + a.length = j + (a.length + 1) by omega]
    split <;> rfl
theorem nzW_length : ∀ (l : List (List Pc)) (j : Nat), (nzW j l).length = (neL l).length
  | [], j => rfl
  | x :: l, j => by
    unfold nzW neL
    rw [List.filter_cons]
    have := nzW_length l (j + 1)
    unfold neL at this
    cases x <;> simp [this]
theorem nzW_get : ∀ (l : List (List Pc)) (j i m : Nat), (nzW j l)[i]? = some m → ∃ d x, m = j + d ∧ l[d]? = some x ∧ (neL l)[i]? = some x ∧ ∀ t, neL (l.set d t) = neL ((neL l).set i t)
  | [], j, i, m, h => by simp [nzW] at h
  | x :: l, j, i, m, h => by
    cases x with
    | nil =>
      have h : (nzW (j + 1) l)[i]? = some m := h
      obtain ⟨d, y, h1, h2, h3, h4⟩ := nzW_get l (j + 1) i m h
      refine ⟨d + 1, y, by omega, by simpa using h2, h3, fun t => ?_⟩
      rw [List.set_cons_succ]
      exact h4 t
    | cons a x =>
      have h : (j :: nzW (j + 1) l)[i]? = some m := h
      cases i with
      | zero =>
        simp at h
        refine ⟨0, a :: x, by omega, rfl, rfl, fun t => ?_⟩
        show neL (t :: l) = neL (t :: neL l)
        have : neL (neL l) = neL l := by simp [neL]
        unfold neL at this ⊢
        rw [List.filter_cons, List.filter_cons, this]
      | succ i =>
        obtain ⟨d, y, h1, h2, h3, h4⟩ := nzW_get l (j + 1) i m (by simpa using h)
        refine ⟨d + 1, y, by omega, by simpa using h2, h3, fun t => ?_⟩
        have := h4 t
        show neL ((a :: x) :: l.set d t) = neL ((a :: x) :: (neL l).set i t)
        unfold neL at this ⊢
        rw [List.filter_cons, List.filter_cons, this]
end Go.Proofs.Ytlpoejkleopdoaa
end
