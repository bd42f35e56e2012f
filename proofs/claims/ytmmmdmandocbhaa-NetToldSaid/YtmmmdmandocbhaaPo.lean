/- Helpers of this claim: an evaluator over plain values and its laws. -/
import Derived.Test.YtmmmdmandocbhaaPn
section
set_option linter.unusedVariables false
set_option linter.unusedSimpArgs false
namespace Go.Proofs.Ytmmmdmandocbhaa
open Go Go.Proofs.Ytmmmdmandocbhaa.Den
def netL (h : Int) (l : List Int) (t : Nat) : NN := { netZ h l ⟨0, 0, 0, 0⟩ with links := List.replicate t ⟨1, 0, 0, 0⟩ ++ List.replicate (256 - t) ⟨0, 0, 0, 0⟩ }
theorem netL_wf (h : Int) (l : List Int) {t : Nat} (ht : t ≤ 256) : WF (netL h l t) :=
  ⟨by show (List.replicate t (⟨1, 0, 0, 0⟩ : Lk) ++ List.replicate (256 - t) (⟨0, 0, 0, 0⟩ : Lk)).length = 256; rw [List.length_append, List.length_replicate, List.length_replicate]; omega, List.length_replicate, List.length_replicate⟩
theorem netL_set (h : Int) (l : List Int) {t : Nat} (ht : t < 256) : { netL h l t with links := (netL h l t).links.set t ⟨1, 0, 0, 0⟩ } = netL h l (t + 1) := by
  unfold netL
  congr 1
  dsimp only
  rw [List.set_append_right _ _ (by simp), show 256 - t = (255 - t) + 1 by omega, List.replicate_succ]
  simp only [List.length_replicate, Nat.sub_self, List.set_cons_zero]
  rw [List.replicate_succ', List.append_assoc, show 256 - (t + 1) = 255 - t by omega]
  rfl
theorem netL_0 (h : Int) (l : List Int) : netL h l 0 = netZ h l ⟨0, 0, 0, 0⟩ := rfl
theorem netL_256 (h : Int) (l : List Int) : netL h l 256 = netZ h l ⟨1, 0, 0, 0⟩ := congrArg (fun ls => ({ netZ h l ⟨0, 0, 0, 0⟩ with links := ls } : NN)) (List.append_nil (List.replicate 256 (⟨1, 0, 0, 0⟩ : Lk)))
theorem netL_get (h : Int) (l : List Int) {t : Nat} (ht : t < 256) (ht' : t < (netL h l t).links.length) : (netL h l t).links[t] = ⟨0, 0, 0, 0⟩ := by
  apply Option.some.inj
  rw [← List.getElem?_eq_getElem ht']
  show (List.replicate t (⟨1, 0, 0, 0⟩ : Lk) ++ List.replicate (256 - t) (⟨0, 0, 0, 0⟩ : Lk))[t]? = _
  rw [List.getElem?_append_right (by rw [List.length_replicate]; exact Nat.le_refl _), List.length_replicate, Nat.sub_self, List.getElem?_replicate, if_pos (by omega)]
structure NwO (nb : Nat) (H0 : World) (h : Int) (l : List Int) (vn : Value) (d : Nat) (e : Env) (H : World) : Prop where
  e6 : lk e 6 = p0 nb
  i : ∃ i : Nat, d = 16 - i ∧ i ≤ 16 ∧ lk e 27 = .int .i64 i ∧ H = setO H0 nb (netO (netL h l (i * 16)) vn (.slice none 0 0))
structure NwI (nb : Nat) (H0 : World) (h : Int) (l : List Int) (vn : Value) (i : Nat) (d : Nat) (e : Env) (H : World) : Prop where
  e6 : lk e 6 = p0 nb
  e7 : lk e 7 = .int .i64 i
  e27 : lk e 27 = .int .i64 i
  k : ∃ k : Nat, d = 16 - k ∧ k ≤ 16 ∧ lk e 30 = .int .i64 k ∧ H = setO H0 nb (netO (netL h l (i * 16 + k)) vn (.slice none 0 0))
set_option maxRecDepth 100000 in
theorem new8r {H : World} {r c : Nat} {l : List Int} {fr : Nat × Nat} (hr : getO H r = some (.cells (l.map (Value.int .i64)).toArray 3 fr)) (hl : l ≠ []) (hn : l.length ≤ 10000) (h0 : ∀ k ∈ l, 0 ≤ k) {h : Int} (h1 : 1 ≤ h) (h2 : h ≤ 16) {Q : Value → World → Prop}
    (hq : ∀ H' b vn, H.heap.size ≤ b → NSt H' b (netZ h l ⟨1, 0, 0, 0⟩) vn (.slice none 0 0) → Keep H H' → H.heap.size ≤ H'.heap.size → Q (.tuple #[p0 b, .int .i64 0]) H') : FW X 8 #[.int .i64 h, .slice (some ⟨r, 0, none⟩) l.length c] H Q := by
  refine FW.walk (by simp [X, sp17_no]) Try.func8 Try.ntmps8 rfl (by simp) ?_
  have a1 : ¬ h < 1 := by omega
  have a2 : ¬ 16 < h := by omega
  simp [a1, a2]
  refine contains39 (l := l) (cs := []) (p := fun x => decide (x < 0)) (Rd.row (e := 3) (fr := fr) hr) (by omega) (by simp) (fun x Q => by simpa using new40 H x Q) ?_
  have hany : (l.any fun x => decide (x < 0)) = false := by
    rw [List.any_eq_false]
    intro x hx
    have := h0 x hx
    simp; omega
  rw [hany]
  have hlen : ¬ (10000 : Int) < l.length := by omega
  have hlen2 : ¬ 10000 < l.length := by omega
  simp [hlen]
  refine clone41r hr hl (by omega) ?_
  have b78 := build78 h l (some ⟨H.heap.size + 1, 0, none⟩) l.length l.length
  have k1 : Keep H (pushObj (pushObj H (.cells #[] 3 (0, 0))) (.cells (l.map (Value.int .i64)).toArray 3 (1, 0))) := fun j o hj => by
    have := getO_lt hj
    rw [get_push, if_neg (by simp; omega), get_push, if_neg (by omega)]; exact hj
  have gn : getO (pushObj (pushObj H (.cells #[] 3 (0, 0))) (.cells (l.map (Value.int .i64)).toArray 3 (1, 0))) (H.heap.size + 1) = some (.cells (l.map (Value.int .i64)).toArray 3 (1, 0)) := by rw [get_push, if_pos (by simp)]
  have z1 : (pushObj (pushObj H (.cells #[] 3 (0, 0))) (.cells (l.map (Value.int .i64)).toArray 3 (1, 0))).heap.size = H.heap.size + 2 := by simp
  generalize hH1 : pushObj (pushObj H (.cells #[] 3 (0, 0))) (.cells (l.map (Value.int .i64)).toArray 3 (1, 0)) = H1 at *
  generalize hm : H.heap.size = m at *
  simp [b78, szO, z1]
  have gnb : getO (pushObj H1 (netO (netZ h l ⟨0, 0, 0, 0⟩) (.slice (some ⟨m + 1, 0, none⟩) l.length l.length) (.slice none 0 0))) (m + 2) = some (netO (netZ h l ⟨0, 0, 0, 0⟩) (.slice (some ⟨m + 1, 0, none⟩) l.length l.length) (.slice none 0 0)) := by rw [get_push, if_pos z1.symm]
  have gn2 : getO (pushObj H1 (netO (netZ h l ⟨0, 0, 0, 0⟩) (.slice (some ⟨m + 1, 0, none⟩) l.length l.length) (.slice none 0 0))) (m + 1) = some (.cells (l.map (Value.int .i64)).toArray 3 (1, 0)) := by rw [get_push, if_neg (by omega)]; exact gn
  have k2 : Keep H (pushObj H1 (netO (netZ h l ⟨0, 0, 0, 0⟩) (.slice (some ⟨m + 1, 0, none⟩) l.length l.length) (.slice none 0 0))) := fun j o hj => by
    have h1 := k1 _ _ hj
    have := getO_lt h1
    rw [get_push, if_neg (by omega)]; exact h1
  have z2 : (pushObj H1 (netO (netZ h l ⟨0, 0, 0, 0⟩) (.slice (some ⟨m + 1, 0, none⟩) l.length l.length) (.slice none 0 0))).heap.size = m + 3 := by simp [z1]
  generalize hH2 : pushObj H1 (netO (netZ h l ⟨0, 0, 0, 0⟩) (.slice (some ⟨m + 1, 0, none⟩) l.length l.length) (.slice none 0 0)) = H2 at *
  generalize hvn : (Value.slice (some ⟨m + 1, 0, none⟩) l.length l.length) = vn at *
  have hset0 : H2 = setO H2 (m + 2) (netO (netL h l (0 * 16)) vn (.slice none 0 0)) := by
    rw [Nat.zero_mul, netL_0]
    exact (set_same gnb).symm
  refine CE.inv (NwO (m + 2) H2 h l vn) ?_ (d := 16) ⟨by simp, 0, rfl, by omega, by simp, hset0⟩
  rintro d e H' ⟨e6, i, rfl, hi, e27, hH'⟩
  by_cases hlt : i < 16
  rotate_left
  · have hi16 : i = 16 := by omega
    subst hi16
    simp [e27, e6]
    rw [show 16 * 16 = 256 from rfl, netL_256] at hH'
    have lnb : m + 2 < H2.heap.size := by omega
    rw [hH']
    refine hq _ (m + 2) vn (by omega) ⟨by rw [get_set, if_pos rfl, if_pos lnb], ⟨List.length_replicate, List.length_replicate, List.length_replicate⟩, ?_, .inl ⟨rfl, rfl⟩, ?_, ?_, ?_⟩ ?_ ?_
    · rw [← hvn]
      exact .inr ⟨m + 1, l.length, (1, 0), rfl, by rw [get_set, if_neg (by omega)]; exact gn2⟩
    · rw [← hvn]; intro r o n c e; cases e; omega
    · intro r o n c e; cases e
    · intro r o n c e r' o' n' c' e'; cases e'
    · intro j o hj
      have := getO_lt hj
      rw [get_set, if_neg (by omega)]; exact k2 _ _ hj
    · simp; omega
  have hlt' : (i : Int) < 16 := by omega
  simp [e27, e6, hlt']
  refine CE.inv (NwI (m + 2) H2 h l vn i) ?_ (d := 16) ⟨by simp [e6], by simp, by simp [e27], 0, rfl, by omega, by simp, by simpa using hH'⟩
  rintro d e H' ⟨e6, e7, e27, k, rfl, hk, e30, hH'⟩
  by_cases hkt : k < 16
  rotate_left
  · have hk16 : k = 16 := by omega
    subst hk16
    have wi : IntKind.i64.wrap ((i : Int) + 1) = ((i + 1 : Nat) : Int) := by rw [wrap64 (by omega) (by omega)]; omega
    simp [e30, e27, wi]
    refine ⟨16 - (i + 1), by omega, by simp [e6], i + 1, rfl, by omega, by simp, ?_⟩
    rw [hH', show (i + 1) * 16 = i * 16 + 16 by omega]
  have hkt' : (k : Int) < 16 := by omega
  have lnb : m + 2 < H2.heap.size := by omega
  have gN : getO H' (m + 2) = some (netO (netL h l (i * 16 + k)) vn (.slice none 0 0)) := by rw [hH', get_set, if_pos rfl, if_pos lnb]
  have lN := getO_lt gN
  have wf := netL_wf h l (t := i * 16 + k) (by omega)
  have sl := sN_link (n := netL h l (i * 16 + k)) (vn := vn) (vf := .slice none 0 0) wf (k := i * 16 + k) (j := 0) (by omega) (by decide) (c := .int .i64 1) (x := ⟨1, 0, 0, 0⟩) (by rw [netL_get h l (by omega)]; rfl)
  rw [netL_set h l (by omega), show 9 + (i * 16 + k) * 4 + 0 = 9 + i * 64 + k * 4 by omega] at sl
  have hlo : 9 + i * 64 + k * 4 + 1 ≤ (cellsN (netL h l (i * 16 + k)) vn (.slice none 0 0)).length := cN_le wf (by omega)
  have wk : IntKind.i64.wrap ((k : Int) + 1) = ((k + 1 : Nat) : Int) := by rw [wrap64 (by omega) (by omega)]; omega
  simp [e30, e7, e6, hkt', hlt', idxP, gN, lN, overL, sl, hlo, wk]
  refine ⟨16 - (k + 1), by omega, by simp [e6], by simp [e7], by simp [e27], k + 1, rfl, by omega, by simp, ?_⟩
  rw [hH', set_set, Nat.add_assoc]
end Go.Proofs.Ytmmmdmandocbhaa
end
