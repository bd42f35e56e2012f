/- Helpers of this claim: an evaluator over plain values and its laws. -/
import Derived.Test.YtmmmdmandocbhaaDoorAs
section
/- Rows of structs: reading an element, writing a field of one. -/
set_option linter.unusedVariables false
set_option linter.unusedSimpArgs false
namespace Go.Proofs.YtmmmdmandocbhaaDoor.Den
/-- The cells of a row of elements. -/
def flatE {α : Type} (enc : α → Value) (xs : List α) : List Value := (xs.map enc).flatMap fun v => v.cells.toList
section
variable {α : Type} {enc : α → Value} {es : Nat}
@[simp] theorem flatE_nil : flatE enc [] = [] := _root_.id rfl
theorem flatE_cons (x : α) (xs : List α) : flatE enc (x :: xs) = (enc x).cells.toList ++ flatE enc xs := rfl
theorem flatE_append (xs ys : List α) : flatE enc (xs ++ ys) = flatE enc xs ++ flatE enc ys := by simp [flatE]
theorem flatE_len (hs : ∀ x, (enc x).cells.size = es) (xs : List α) : (flatE enc xs).length = xs.length * es := by
  induction xs with
  | nil => simp
  | cons x xs ih => rw [flatE_cons, List.length_append, ih, List.length_cons, Nat.succ_mul]; simp [hs]; omega
theorem flatE_row (hs : ∀ x, (enc x).cells.size = es) (xs : List α) {k : Nat} (hk : k < xs.length) : (flatE enc xs).toArray.extract (k * es) (k * es + es) = (enc xs[k]).cells := by
  have h := enc_get hs xs k hk
  apply Array.toList_inj.1
  rw [← h]
  simp [flatE, List.drop_take]
theorem flatE_get (hs : ∀ x, (enc x).cells.size = es) (xs : List α) {k j : Nat} (hk : k < xs.length) (hj : j < es) : (flatE enc xs)[k * es + j]? = (enc xs[k]).cells[j]? := by
  have h := enc_get hs xs k hk
  have : ((enc xs[k]).cells.toList)[j]? = (enc xs[k]).cells[j]? := by simp
  rw [← this, ← h, List.getElem?_drop, List.getElem?_take, if_pos (by omega)]; rfl
theorem flatE_set (hs : ∀ x, (enc x).cells.size = es) : ∀ (xs : List α) {k j : Nat} {c : Value} {x' : α} (hk : k < xs.length) (hj : j < es) (hx : (enc x').cells = (enc xs[k]).cells.setIfInBounds j c), (flatE enc xs).set (k * es + j) c = flatE enc (xs.set k x')
  | [], k, j, c, x', hk, hj, hx => by simp at hk
  | x :: xs, 0, j, c, x', hk, hj, hx => by
    rw [List.set_cons_zero, flatE_cons, flatE_cons, Nat.zero_mul, Nat.zero_add, List.set_append_left _ _ (by simp [hs, hj])]
    simp at hx
    rw [hx]
    simp
  | x :: xs, k + 1, j, c, x', hk, hj, hx => by
    have hl : (enc x).cells.toList.length = es := by simp [hs]
    rw [List.set_cons_succ, flatE_cons, flatE_cons, List.set_append_right _ _ (by rw [hl, Nat.succ_mul]; omega)]
    rw [show (k + 1) * es + j - (enc x).cells.toList.length = k * es + j by rw [hl, Nat.succ_mul]; omega, flatE_set hs xs (by simpa using hk) hj (by simpa using hx)]
theorem flatE_le (hs : ∀ x, (enc x).cells.size = es) (xs : List α) {k : Nat} (hk : k < xs.length) : k * es + es ≤ (flatE enc xs).length := by
  rw [flatE_len hs, ← Nat.succ_mul]
  exact Nat.mul_le_mul_right _ hk
end
/-- A row of elements that grows. -/
def AccE {α : Type} (enc : α → Value) (es : Nat) (e : TypeId) (H : World) (v : Value) (xs : List α) : Prop := Acc H v es e xs.length (flatE enc xs)
section
variable {α : Type} {enc : α → Value} {es : Nat} {e : TypeId} {H : World} {v : Value} {xs : List α}
theorem AccE.nil : AccE enc es e H (.slice none 0 0) [] := Acc.nil
theorem AccE.row (h : AccE enc es e H v xs) (hn : 0 < xs.length) : ∃ r, v = .slice (some ⟨r, 0, none⟩) xs.length xs.length ∧ getO H r = some (.cells (flatE enc xs).toArray e (1, 0)) := Acc.pos h hn
theorem AccE.push (h : AccE enc es e H v xs) (o : Obj) : AccE enc es e (pushObj H o) v xs := Acc.push h o
theorem AccE.set (h : AccE enc es e H v xs) {i : Nat} (o : Obj) (ha : Apart v i) : AccE enc es e (setO H i o) v xs := Acc.set h o ha
theorem AccE.setRow (hs : ∀ x, (enc x).cells.size = es) (h : AccE enc es e H v xs) {r n c : Nat} (hv : v = .slice (some ⟨r, 0, none⟩) n c) {ys : List α} (hl : ys.length = xs.length) : AccE enc es e (setO H r (.cells (flatE enc ys).toArray e (1, 0))) v ys := by
  obtain ⟨h1, ⟨h2, _⟩ | ⟨r', h2, hn, hr⟩⟩ := h
  · rw [h2] at hv; cases hv
  · rw [h2] at hv
    injection hv with h3 h4 h5
    injection h3 with h3
    injection h3 with h3
    subst h3
    refine ⟨by rw [flatE_len hs], .inr ⟨r', by rw [hl]; exact h2, by omega, ?_⟩⟩
    rw [get_set, if_pos rfl, if_pos (getO_lt hr)]
theorem AccE.add (P : Program) (hs : ∀ x, (enc x).cells.size = es) (ho : ∀ x, (enc x).cells.all Value.oneCell' = true) {t1 t2 : TypeId} {inf : TypeInfo} {z : Value} (h : AccE enc es e H v xs) (ht : P.underlying t1 = some (.slice e)) (ht2 : (match P.underlying t2 with | some (.int _) => false | some _ => true | none => false) = true)
    (hi : P.info? e = some inf) (hz : inf.zero = some z) (hzs : z.cells.size = inf.size) (hes : inf.size = es) (hpos : 0 < es) (hb0 : 0 < inf.bytes) (hb1 : inf.bytes ≤ 2 ^ 20) (hroom : (xs.length + 1) * inf.bytes ≤ 2 ^ 40) (x : α) {fr : Nat × Nat} :
    ∃ v' H', builtinX P .append #[t1, t2] #[v, .slice (some ⟨H.heap.size, 0, none⟩) 1 1] (pushObj H (.cells (enc x).cells e fr)) = some (.value v', H') ∧
    AccE enc es e H' v' (xs ++ [x]) ∧ (∀ i o, getO H i = some o → Apart v i → getO H' i = some o) ∧ H.heap.size ≤ H'.heap.size ∧ (∀ i, Apart v i → i < H.heap.size → Apart v' i) := by
  have hx : SrcX P es (.slice (some ⟨H.heap.size, 0, none⟩) 1 1) (pushObj H (.cells (enc x).cells e fr)) 1 (enc x).cells.toList := SrcX.row (e := e) (fr := fr) (by simp) (by simp [hs])
  obtain ⟨v', H', h1, h2, h3, h4, h5⟩ := Acc.append P (t1 := t1) (t2 := t2) (inf := inf) (Acc.push h (.cells (enc x).cells e fr)) ht ht2 hi hz hzs hes hpos hb0 hb1 hx (by simp [hs]) (by have := ho x; simpa using this) hroom
  refine ⟨v', H', h1, ?_, fun i o h ha => h3 i o (by have := getO_lt h; rw [get_push, if_neg (by omega)]; exact h) ha, by simp at h4; omega, fun i ha hi => h5 i ha (by simp; omega)⟩
  unfold AccE
  rw [flatE_append, flatE_cons, flatE_nil, List.append_nil, List.length_append]
  exact h2
end
end Go.Proofs.YtmmmdmandocbhaaDoor.Den
end
