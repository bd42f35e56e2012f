/- Helpers of this claim: an evaluator over plain values and its laws. -/
import Derived.Test.YtlpoejkleopdoaaCd
section
set_option linter.unusedVariables false
set_option linter.unusedSimpArgs false
namespace Go.Proofs.Ytlpoejkleopdoaa.Den
theorem Acc.len {P : Program} {H H0 : World} {v : Value} {es : Nat} {e t : TypeId} {n : Nat} {cs : List Value} (h : Acc H v es e n cs) (ht : isSliceT P t = true) : builtinX P .len #[t] #[v] H0 = some (.value (.int .i64 n), H0) := by
  obtain ⟨_, ⟨rfl, rfl⟩ | ⟨r, rfl, _, _⟩⟩ := h
  · rw [len_slice, if_pos ht]
  · rw [len_slice, if_pos ht]
theorem Acc.pos {H : World} {v : Value} {es : Nat} {e : TypeId} {n : Nat} {cs : List Value} (h : Acc H v es e n cs) (hn : 0 < n) : ∃ r, v = .slice (some ⟨r, 0, none⟩) n n ∧ getO H r = some (.cells cs.toArray e (1, 0)) := by
  obtain ⟨_, ⟨rfl, rfl⟩ | ⟨r, rfl, _, hr⟩⟩ := h
  · cases hn
  · exact ⟨r, rfl, hr⟩
/-- What a heap held it holds still. -/
def Keep (H H' : World) : Prop := ∀ i o, getO H i = some o → getO H' i = some o
theorem Keep.refl {H : World} : Keep H H := fun _ _ h => h
theorem Keep.push {H H' : World} (h : Keep H H') (o : Obj) : Keep H (pushObj H' o) := fun i x hx => by
  have := h i x hx
  have := getO_lt this
  rw [get_push, if_neg (by omega)]; assumption
theorem Keep.trans {H H' H2 : World} (h : Keep H H') (g : Keep H' H2) : Keep H H2 := fun i x hx => g i x (h i x hx)
theorem enc_get {α : Type} {enc : α → Value} {es : Nat} (hs : ∀ x, (enc x).cells.size = es) (xs : List α) (k : Nat) (hk : k < xs.length) : (((xs.map enc).flatMap fun v => v.cells.toList).take (k * es + es)).drop (k * es) = (enc xs[k]).cells.toList := by
  induction xs generalizing k with
  | nil => simp at hk
  | cons x xs ih =>
    have h0 := hs x
    have hl : (enc x).cells.toList.length = es := by simp [h0]
    rw [List.map_cons, List.flatMap_cons]
    cases k with
    | zero =>
      simp only [Nat.zero_mul, Nat.zero_add, List.drop_zero, List.getElem_cons_zero]
      rw [List.take_append_of_le_length (by omega), List.take_of_length_le (by omega)]
    | succ k =>
      have := ih k (by simpa using hk)
      rw [List.getElem_cons_succ, ← this]
      rw [show (k + 1) * es + es = (enc x).cells.toList.length + (k * es + es) by rw [hl, Nat.succ_mul]; omega, List.take_length_add_append,
        show (k + 1) * es = (enc x).cells.toList.length + k * es by rw [hl, Nat.succ_mul]; omega, List.drop_length_add_append]
theorem enc_get' {α : Type} {enc : α → Value} {es : Nat} {cs : List Value} {xs : List α} (hs : ∀ x, (enc x).cells.size = es) (e : cs = (xs.map enc).flatMap fun v => v.cells.toList) (k : Nat) (hk : k < xs.length) : (cs.drop (k * es)).take es = (enc xs[k]).cells.toList := by
  rw [← enc_get hs xs k hk, e, List.drop_take]
  congr 1; omega
end Go.Proofs.Ytlpoejkleopdoaa.Den
namespace Go.Proofs.Ytlpoejkleopdoaa
open Go Go.Proofs.Ytlpoejkleopdoaa.Den
set_option maxRecDepth 100000 in
theorem piecesH (xs : List Pc) {H : World} {v : Value} (acc : Acc H v 4 33 xs.length ((xs.map encP).flatMap fun v => v.cells.toList)) (hl : xs.length < 2 ^ 63) {Q : Value → World → Prop} (hq : ∀ H', Keep H H' → Q (.bool (okPieces (some xs))) H') : FW X 34 #[v] H Q := by
  rcases Nat.eq_zero_or_pos xs.length with h0 | h0
  · have h0 : xs = [] := List.length_eq_zero_iff.1 h0
    subst h0
    obtain ⟨_, ⟨rfl, _⟩ | ⟨r, rfl, h, _⟩⟩ := acc
    · have := piecesR_eq none (by simp) H Q
      rw [sl_none] at this
      rw [this]
      exact hq H Keep.refl
    · simp at h
  obtain ⟨r, rfl, hr⟩ := acc.pos h0
  obtain ⟨cs, hcs⟩ : ∃ cs, cs = (xs.map encP).flatMap fun v => v.cells.toList := ⟨_, rfl⟩
  rw [← hcs] at hr acc
  have hclen := acc.1
  refine FW.ofE (by have : plain deep (hp r xs.length xs.length) = false := rfl
                    simp [this]) Try.func34 Try.ntmps34 rfl (by simp) (WP.sound _ _ _ _ _ ?_)
  simp
  refine CE.range (m := xs.length) (fun k e H' => lk e 0 = hp r xs.length xs.length ∧ lk e 5 = hp r xs.length xs.length ∧ Keep H H' ∧ ∀ j (hj : j < xs.length), j < k → valid xs[j] = true) ?_ hl ?_ ?_ ?_
  · decide
  · simp
    exact Keep.refl
  · rintro k e H' hk h1 h2 ⟨h3, h4, hK, h5⟩
    have hr' := hK _ _ hr
    have hg := enc_get' (es := 4) (enc := encP) (fun x => by simp) hcs k hk
    have hb : k * 4 + 4 ≤ xs.length * 4 := by omega
    simp [h1, h2, h3, h4, hk, allocX, ValidR_eq, hr', hclen, hb, hg, szO]
    refine gIf_nb (fun h => ?_) (fun h => ?_)
    · simp [h1, h2, h3, h4]
      refine ⟨?_, fun j hj hj2 => ?_⟩
      · exact hK.push _
      · by_cases hjk : j = k
        · subst hjk; exact h
        · exact h5 j hj (by omega)
    · simp [h]
      have : allValid xs = false := by
        rw [Bool.eq_false_iff]
        intro ha
        rw [allValid, List.all_eq_true] at ha
        rw [ha _ (List.getElem_mem hk)] at h; cases h
      have hno : okPieces (some xs) = false := by simp [okPieces, this]
      rw [hno] at hq
      refine hq _ ?_
      exact hK.push _
  · rintro e H' h1 h2 ⟨h3, h4, hK, h5⟩
    have : allValid xs = true := by
      rw [allValid, List.all_eq_true]
      intro x hx
      obtain ⟨j, hj, rfl⟩ := List.getElem_of_mem hx
      exact h5 j hj hj
    have hyes : okPieces (some xs) = decide (xs.length ≤ 2000) := by simp [okPieces, this]
    simp [h1, h2, h3, h4]
    rw [hyes] at hq
    have e1 : decide ((xs.length : Int) ≤ 2000) = decide (xs.length ≤ 2000) := by rw [decide_eq_decide]; omega
    rw [e1]
    exact hq _ hK
/-! ### the twin of Weave -/
def remW (L : List (List Pc)) (nx : List Nat) : List (List Pc) := L.zipWith (fun l n => l.drop n) nx
theorem remW_length {L : List (List Pc)} {nx : List Nat} (h : nx.length = L.length) : (remW L nx).length = L.length := by simp [remW, h]
theorem remW_get {L : List (List Pc)} {nx : List Nat} (h : nx.length = L.length) {k : Nat} (hk : k < L.length) : (remW L nx)[k]? = some (L[k].drop (nx[k]'(by omega))) := by
  simp [remW, List.getElem?_zipWith, hk, h]
theorem remW_zero (L : List (List Pc)) : remW L (List.replicate L.length 0) = L := by
  induction L with
  | nil => rfl
  | cons x L ih => unfold remW at *; simp [List.replicate_succ, ih]
theorem remW_set {L : List (List Pc)} {nx : List Nat} (h : nx.length = L.length) {k : Nat} (hk : k < L.length) (m : Nat) : remW L (nx.set k m) = (remW L nx).set k (L[k].drop m) := by
  apply List.ext_getElem?
  intro j
  unfold remW
  rw [List.getElem?_set]
  simp only [List.getElem?_zipWith, List.getElem?_set, List.length_zipWith, h]
  by_cases hjk : k = j
  · subst hjk
    simp [hk]
  · simp [hjk]
theorem le_total {L : LL} {x : Option (List Pc)} (hx : x ∈ L) : (x.getD []).length ≤ totalW (lists L) := by
  obtain ⟨k, hk, rfl⟩ := List.getElem_of_mem hx
  have h1 := total_take hk
  have h2 := total_le (L := L) (k + 1)
  omega
theorem all_okAll (L : LL) : okPieces (some (lists L).flatten) = okAll L := by
  rw [Bool.eq_iff_iff]
  simp only [okPieces, okAll, allValid, Option.getD_some, Bool.and_eq_true, decide_eq_true_eq, List.all_eq_true]
  constructor
  · rintro ⟨h1, h2⟩
    refine ⟨fun x hx => ⟨Nat.le_trans (le_total hx) h1, fun p hp => h2 p ?_⟩, h1⟩
    rw [List.mem_flatten]
    exact ⟨_, List.mem_map_of_mem hx, hp⟩
  · rintro ⟨h1, h2⟩
    refine ⟨h2, fun p hp => ?_⟩
    obtain ⟨l, hl, hpl⟩ := List.mem_flatten.1 hp
    obtain ⟨x, hx, rfl⟩ := List.mem_map.1 hl
    exact (h1 x hx).2 p hpl
end Go.Proofs.Ytlpoejkleopdoaa
end
