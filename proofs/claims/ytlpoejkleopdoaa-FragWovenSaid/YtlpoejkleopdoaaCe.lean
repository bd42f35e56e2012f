/- Helpers of this claim: an evaluator over plain values and its laws. -/
import Derived.Test.YtlpoejkleopdoaaCd
section
set_option linter.unusedVariables false
set_option linter.unusedSimpArgs false
namespace Go.Proofs.Ytlpoejkleopdoaa.Den
theorem Acc.len {P : Program} {H H0 : World} {v : Value} {es : Nat} {e t : TypeId} {n : Nat} {cs : List Value} (h : Acc H v es e n cs) (ht : isSliceT P t = true) : builtinX P .len #[t] #[v] H0 = some (.value (.int .i64 n), H0) := by
  obtain ⟨_, ⟨rfl, rfl⟩ | ⟨r, rfl, _, _⟩⟩ := h
  · rw [len_slice, if_pos ht]
  · rw [len_slice, if_pos ht]
theorem Acc.pos {H : World} {v : Value} {es : Nat} {e : TypeId} {n : Nat} {cs : List Value} (h : Acc H v es e n cs) (hn : 0 < n) : ∃ r, v = .slice (some ⟨r, 0, none⟩) n n ∧ getO H r = some (.cells cs.toArray e (1, 0)) := by
  obtain ⟨_, ⟨rfl, rfl⟩ | ⟨r, rfl, _, hr⟩⟩ := h
  · cases hn
  · exact ⟨r, rfl, hr⟩
/-- What a heap held it holds still. -/
def Keep (H H' : World) : Prop := ∀ i o, getO H i = some o → getO H' i = some o
theorem Keep.refl {H : World} : Keep H H := fun _ _ h => h
theorem Keep.push {H H' : World} (h : Keep H H') (o : Obj) : Keep H (pushObj H' o) := fun i x hx => by
  have := h i x hx
  have := getO_lt this
  rw [get_push, if_neg (by omega)]; assumption
theorem Keep.trans {H H' H2 : World} (h : Keep H H') (g : Keep H' H2) : Keep H H2 := fun i x hx => g i x (h i x hx)
theorem enc_get {α : Type} {enc : α → Value} {es : Nat} (hs : ∀ x, (enc x).cells.size = es) (xs : List α) (k : Nat) (hk : k < xs.length) : (((xs.map enc).flatMap fun v => v.cells.toList).take (k * es + es)).drop (k * es) = (enc xs[k]).cells.toList := by
  induction xs generalizing k with
  | nil => simp at hk
  | cons x xs ih =>
    have h0 := hs x
    have hl : (enc x).cells.toList.length = es := by simp [h0]
    rw [List.map_cons, List.flatMap_cons]
    cases k with
    | zero =>
      simp only [Nat.zero_mul, Nat.zero_add, List.drop_zero, List.getElem_cons_zero]
      rw [List.take_append_of_le_length (by omega), List.take_of_length_le (by omega)]
    | succ k =>
      have := ih k (by simpa using hk)
      rw [List.getElem_cons_succ, ← this]
      rw [show (k + 1) * es + es = (enc x).cells.toList.length + (k * es + es) by rw [hl, Nat.succ_mul]; omega, List.take_length_add_append,
        show (k + 1) * es = (enc x).cells.toList.length + k * es by rw [hl, Nat.succ_mul]; omega, List.drop_length_add_append]
theorem enc_get' {α : Type} {enc : α → Value} {es : Nat} {cs : List Value} {xs : List α} (hs : ∀ x, (enc x).cells.size = es) (e : cs = (xs.map enc).flatMap fun v => v.cells.toList) (k : Nat) (hk : k < xs.length) : (cs.drop (k * es)).take es = (enc xs[k]).cells.toList := by
  rw [← enc_get hs xs k hk, e, List.drop_take]
  congr 1; omega
end Go.Proofs.Ytlpoejkleopdoaa.Den
namespace Go.Proofs.Ytlpoejkleopdoaa
open Go Go.Proofs.Ytlpoejkleopdoaa.Den
set_option maxRecDepth 100000 in
theorem piecesH (xs : List Pc) {H : World} {v : Value} (acc : Acc H v 4 33 xs.length ((xs.map encP).flatMap fun v => v.cells.toList)) (hl : xs.length < 2 ^ 63) {Q : Value → World → Prop} (hq : ∀ H', Keep H H' → Q (.bool (okPieces (some xs))) H') : FW X 34 #[v] H Q := by
  have ho : (opt xs).getD [] = xs := by unfold opt; split <;> simp [*]
  have e1 : okPieces (some xs) = okPieces (opt xs) := by unfold okPieces; rw [ho]; rfl
  rw [e1] at hq
  refine fa_any (fa_ofFW (l := [sl (opt xs)]) (fun H Q => piecesR_eq (opt xs) (by rw [ho]; exact hl) H Q) (by simp [X]) (by simp [plainS]) rfl) (by simp [X]) ?_ (hq H Keep.refl)
  have hst := Acc.strip_agg (P := Try.prog) (d := 11) (xs := xs) (enc := encP) acc Try.underlying33 (by simp) info33 rfl (by decide) (fun x => ⟨_, rfl, rfl, by simp [plain, constOk1]⟩)
  show stripAll (strip deep Try.prog H) [v] = _
  rw [stripAll_cons, show deep = 11 + 1 from rfl, hst]
  unfold opt
  by_cases hz : xs = []
  · simp [hz]
  · simp only [if_neg hz]; rfl
/-! ### the twin of Weave -/
def remW (L : List (List Pc)) (nx : List Nat) : List (List Pc) := L.zipWith (fun l n => l.drop n) nx
theorem remW_length {L : List (List Pc)} {nx : List Nat} (h : nx.length = L.length) : (remW L nx).length = L.length := by simp [remW, h]
theorem remW_get {L : List (List Pc)} {nx : List Nat} (h : nx.length = L.length) {k : Nat} (hk : k < L.length) : (remW L nx)[k]? = some (L[k].drop (nx[k]'(by omega))) := by
  simp [remW, List.getElem?_zipWith, hk, h]
theorem remW_zero (L : List (List Pc)) : remW L (List.replicate L.length 0) = L := by
  induction L with
  | nil => rfl
  | cons x L ih => unfold remW at *; simp [List.replicate_succ, ih]
theorem remW_set {L : List (List Pc)} {nx : List Nat} (h : nx.length = L.length) {k : Nat} (hk : k < L.length) (m : Nat) : remW L (nx.set k m) = (remW L nx).set k (L[k].drop m) := by
  apply List.ext_getElem?
  intro j
  unfold remW
  rw [List.getElem?_set]
  simp only [List.getElem?_zipWith, List.getElem?_set, List.length_zipWith, h]
  by_cases hjk : k = j
  · subst hjk
    simp [hk]
  · simp [hjk]
theorem le_total {L : LL} {x : Option (List Pc)} (hx : x ∈ L) : (x.getD []).length ≤ totalW (lists L) := by
  obtain ⟨k, hk, rfl⟩ := List.getElem_of_mem hx
  have h1 := total_take hk
  have h2 := total_le (L := L) (k + 1)
  omega
theorem all_okAll (L : LL) : okPieces (some (lists L).flatten) = okAll L := by
  rw [Bool.eq_iff_iff]
  simp only [okPieces, okAll, allValid, Option.getD_some, Bool.and_eq_true, decide_eq_true_eq, List.all_eq_true]
  constructor
  · rintro ⟨h1, h2⟩
    refine ⟨fun x hx => ⟨Nat.le_trans (le_total hx) h1, fun p hp => h2 p ?_⟩, h1⟩
    rw [List.mem_flatten]
    exact ⟨_, List.mem_map_of_mem hx, hp⟩
  · rintro ⟨h1, h2⟩
    refine ⟨h2, fun p hp => ?_⟩
    obtain ⟨l, hl, hpl⟩ := List.mem_flatten.1 hp
    obtain ⟨x, hx, rfl⟩ := List.mem_map.1 hl
    exact (h1 x hx).2 p hpl
end Go.Proofs.Ytlpoejkleopdoaa
end
