/- Helpers of this claim: an evaluator over plain values and its laws. -/
import Derived.Test.YtlpoejkleopdoaaKa
section
set_option linter.unusedVariables false
set_option linter.unusedSimpArgs false
namespace Go.Proofs.Ytlpoejkleopdoaa
open Go Go.Proofs.Ytlpoejkleopdoaa.Den
def sizeAt (S : List Int) (k : Nat) : Int := S.getD (k % S.length) 0
def pcsW (B : List (List UInt8)) (S : List Int) (k : Nat) : List Pc := madeW ((k : Int) + 1) (fun _ => sizeAt S k) 0 (B.getD k [])
def cutL (B : List (List UInt8)) (S : List Int) (k : Nat) : LL := (List.range k).map fun j => some (pcsW B S j)
def sumB (B : List (List UInt8)) (k : Nat) : Nat := ((B.take k).map List.length).sum
def okB (B : List (List UInt8)) (S : List Int) (j : Nat) : Prop := (B.getD j []).length ≤ 100 ∧ 1 ≤ sizeAt S j ∧ sizeAt S j ≤ 100
def bodyOf (B : List (List UInt8)) (id : Int) : List UInt8 := B.getD (id - 1).toNat []
theorem cutL_succ (B : List (List UInt8)) (S : List Int) (k : Nat) : cutL B S (k + 1) = cutL B S k ++ [some (pcsW B S k)] := by simp [cutL, List.range_succ]
theorem cutL_len (B : List (List UInt8)) (S : List Int) (k : Nat) : (cutL B S k).length = k := by simp [cutL]
theorem sumB_succ {B : List (List UInt8)} {k : Nat} (hk : k < B.length) : sumB B (k + 1) = sumB B k + B[k].length := by
  unfold sumB
  rw [List.take_succ_eq_append_getElem hk, List.map_append, List.sum_append]
  simp
theorem bodyS_made (id : Int) (size : Nat → Int) (i : Nat) (bd : List UInt8) : bodyS (madeW id size i bd) = bd.length := by
  have := (madeW_ok id size i bd).bod
  rw [← congrArg List.length this]
  unfold bodies bodyS
  rw [List.length_flatten, List.map_map]
  rfl
theorem sumB_bodyS (B : List (List UInt8)) (S : List Int) : ∀ k, k ≤ B.length → (((cutL B S k).map (·.getD [])).map bodyS).sum = sumB B k
  | 0, _ => rfl
  | k + 1, h => by
    rw [cutL_succ, sumB_succ (by omega), ← sumB_bodyS B S k (by omega)]
    simp only [List.map_append, List.sum_append, List.map_cons, List.map_nil, List.sum_cons, List.sum_nil, Option.getD_some, Nat.add_zero, pcsW, bodyS_made]
    rw [List.getD_eq_getElem?_getD, List.getElem?_eq_getElem (by omega)]
    rfl
theorem sumB_le {B : List (List UInt8)} (h : ∀ j, j < B.length → (B.getD j []).length ≤ 100) : ∀ k, k ≤ B.length → sumB B k ≤ k * 100
  | 0, _ => by simp [sumB]
  | k + 1, hk => by
    have h1 := sumB_le h k (by omega)
    have h2 := h k (by omega)
    rw [List.getD_eq_getElem?_getD, List.getElem?_eq_getElem (by omega)] at h2
    simp only [Option.getD_some] at h2
    rw [sumB_succ (by omega)]; omega
theorem total_cutL {B : List (List UInt8)} {S : List Int} (h : ∀ j, j < B.length → okB B S j) : ∀ k, k ≤ B.length → totalW (lists (cutL B S k)) ≤ k * 101
  | 0, _ => by simp [totalW, lists, cutL]
  | k + 1, hk => by
    have h1 := total_cutL h k (by omega)
    have h2 := h k (by omega)
    have h3 := (madeW_ok ((k : Int) + 1) (fun _ => sizeAt S k) 0 (B.getD k [])).len
    rw [cutL_succ, lists_append]
    have : totalW (lists [some (pcsW B S k)]) = (pcsW B S k).length := by simp [totalW, lists]
    rw [this]
    unfold pcsW
    have := h2.1
    omega
theorem restP_valid {id : Int} : ∀ {i : Nat} {bd : List UInt8} {x : List Pc}, RestP id i bd x → ∀ p ∈ x, valid p = true
  | i, bd, [], h, _, _ => h.elim
  | i, bd, p :: t, h, q, hq => by
    rcases List.mem_cons.1 hq with rfl | hq
    · exact h.2.2.1
    · rcases h.2.2.2 with ⟨rfl, _⟩ | ⟨_, _, bd2, _, h4⟩
      · cases hq
      · exact restP_valid h4 q hq
theorem restP_pcs {B : List (List UInt8)} {S : List Int} (hn : B.length ≤ 10) {j : Nat} (hj : j < B.length) (h : okB B S j) : RestP ((j : Int) + 1) 0 (B.getD j []) (pcsW B S j) :=
  restP_made (by omega) (fun _ => h.2.1) 0 _ (by have := h.1; omega)
theorem ok_cutL {B : List (List UInt8)} {S : List Int} (hn : B.length ≤ 10) (h : ∀ j, j < B.length → okB B S j) : okAll (cutL B S B.length) = true := by
  have ht := total_cutL h B.length (Nat.le_refl _)
  simp only [okAll, Bool.and_eq_true, List.all_eq_true, decide_eq_true_eq]
  refine ⟨fun x hx => ?_, by omega⟩
  simp only [cutL, List.mem_map, List.mem_range] at hx
  obtain ⟨j, hj, rfl⟩ := hx
  have h3 := (madeW_ok ((j : Int) + 1) (fun _ => sizeAt S j) 0 (B.getD j [])).len
  have h4 := (h j hj).1
  simp only [okPieces, allValid, Option.getD_some, Bool.and_eq_true, List.all_eq_true, decide_eq_true_eq]
  exact ⟨by unfold pcsW; omega, restP_valid (restP_pcs hn hj (h j hj))⟩
theorem winv_cut {B : List (List UInt8)} {S : List Int} (hn : B.length ≤ 10) (h : ∀ j, j < B.length → okB B S j) : WInv B.length (sumB B B.length) (bodyOf B) (neL (lists (cutL B S B.length))) [] [] := by
  have hl : lists (cutL B S B.length) = (List.range B.length).map (pcsW B S) := by simp [lists, cutL, Function.comp_def]
  have hne : ∀ x ∈ lists (cutL B S B.length), x ≠ [] := by
    rw [hl]
    intro x hx
    obtain ⟨j, hj, rfl⟩ := List.mem_map.1 hx
    exact madeW_ne _ _ _ _
  have hb := sumB_bodyS B S B.length (Nat.le_refl _)
  rw [neL_of_ne hne]
  refine ⟨fun x hx => ?_, ?_, List.nodup_nil, (fun id h => absurd h (by simp)), by simp [hl], ?_, ?_⟩
  · rw [hl] at hx
    obtain ⟨j, hj, rfl⟩ := List.mem_map.1 hx
    rw [List.mem_range] at hj
    refine ⟨(j : Int) + 1, 0, B.getD j [], by omega, by omega, restP_pcs hn hj (h j hj), by simp, fun _ => ⟨rfl, ?_⟩, fun h => absurd h (by omega)⟩
    unfold bodyOf
    rw [show ((j : Int) + 1 - 1).toNat = j by omega]
  · rw [hl, List.pairwise_map]
    refine List.Pairwise.imp_of_mem (R := fun a b => a < b) ?_ List.pairwise_lt_range
    intro a b ha hb hab
    rw [List.mem_range] at ha hb
    rw [restP_hid (restP_pcs hn ha (h a ha)), restP_hid (restP_pcs hn hb (h b hb))]
    omega
  · rw [hl]
    have : ((List.range B.length).map (pcsW B S)).filter startedW = [] := by
      rw [List.filter_eq_nil_iff]
      intro x hx
      obtain ⟨j, hj, rfl⟩ := List.mem_map.1 hx
      rw [List.mem_range] at hj
      rw [restP_started (restP_pcs hn hj (h j hj))]; simp
    rw [this]; rfl
  · show 0 + _ ≤ _
    unfold lists
    omega
theorem all_woven {B : List (List UInt8)} {S : List Int} (T : List Int) (h0 : 1 ≤ B.length) (hn : B.length ≤ 10) (h : ∀ j, j < B.length → okB B S j) :
    ∃ ids, allW (weaveW T (lists (cutL B S B.length))) B.length ((sumB B B.length : Nat) + 1) = (ids, ids.map (bodyOf B), -1, 0) ∧ ids.length = B.length ∧ ids.Nodup ∧ ∀ id ∈ ids, 1 ≤ id ∧ id ≤ (B.length : Int) := by
  have hs := sumB_le (fun j hj => (h j hj).1) B.length (Nat.le_refl _)
  have ht := total_cutL h B.length (Nat.le_refl _)
  have hw : (weaveW T (lists (cutL B S B.length))).length ≤ totalW (lists (cutL B S B.length)) := seqW_le _ _ _
  unfold allW
  rw [if_neg (by omega), if_neg (fun h => h ⟨by omega, by omega, by omega, by omega⟩)]
  obtain ⟨ids, h1, h2⟩ := run_wov (B := bodyOf B) (n := B.length) (total := sumB B B.length) (by omega) (by omega) (wov_weave T (lists (cutL B S B.length))) 0 [] [] (winv_cut hn h)
  exact ⟨ids, h1, h2⟩
end Go.Proofs.Ytlpoejkleopdoaa
end
