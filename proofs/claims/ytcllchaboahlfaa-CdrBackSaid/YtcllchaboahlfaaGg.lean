/- Helpers of this claim: an evaluator over plain values and its laws. -/
import Derived.Test.YtcllchaboahlfaaGf
section
set_option linter.unusedVariables false
set_option linter.unusedSimpArgs false
namespace Go.Proofs.Ytcllchaboahlfaa
open Go Go.Proofs.Ytcllchaboahlfaa.Den
section
variable {H : World} {rb : Nat} {s : List UInt8} {big : Bool} {at' : Int} {r : RS}
theorem slice_mid (s : List UInt8) {a b : Nat} (hab : a ≤ b) (hb : b ≤ s.length) (H : World) : sliceX Try.prog 9 (.string (sB s)) (some (.int .i64 a)) (some (.int .i64 b)) none H = some (.value (.string (sB (sliceW s a (b - a)))), H) := by
  have := slice_str (P := Try.prog) (t := 9) (l := s) (lo := some (.int .i64 a)) (hi := some (.int .i64 b)) (h := b) (b := a) (H := H) Try.underlying9 (by simp [vBound]; omega) (by simp [vBound]; omega)
  rw [this]
  unfold sliceW
  rw [List.drop_take]
theorem slice_beg (s : List UInt8) {b : Nat} (hb : b ≤ s.length) (H : World) : sliceX Try.prog 9 (.string (sB s)) none (some (.int .i64 b)) none H = some (.value (.string (sB (s.take b))), H) := by
  rw [slice_str_to (l := s) Try.underlying9 (by omega) (by omega)]
  simp
theorem zeroW_le (l : List UInt8) : zeroW l ≤ l.length := List.findIdx_le_length
theorem sliceW_take (s : List UInt8) (a n : Nat) {m : Nat} (h : m ≤ n) : (sliceW s a n).take m = sliceW s a m := by
  unfold sliceW
  rw [List.take_take, Nat.min_eq_left h]
theorem sliceW_get (s : List UInt8) (a n i : Nat) (h : i < n) : (sliceW s a n)[i]? = s[a + i]? := by
  unfold sliceW
  rw [List.getElem?_take, if_pos h, List.getElem?_drop]
set_option maxRecDepth 100000 in
theorem Text35 (h : getO H rb = some (rdP s big at' r)) (a0 : 0 ≤ at') (a7 : at' ≤ 7) (hl : s.length ≤ 2 ^ 40) (hn : r.nx ≤ s.length) {Q : Value → World → Prop}
    (hq : ∀ H', getO H' rb = some (rdP s big at' (textR s at' big r).2) → FrB H H' rb → Q (.tuple #[.string (sB (textR s at' big r).1.1), .int .i64 (textR s at' big r).1.2]) H') : FW X 35 #[p0 rb] H Q := by
  refine FW.walk (by simp [X]) Try.func35 Try.ntmps35 rfl (by simp) ?_
  simp
  refine counted78 h a0 a7 hl hn 1 fun H' h' fr => ?_
  have hle := countR_le (at' := at') (big := big) (least := 1) hn
  have he := countR_ok (s := s) (at' := at') (big := big) (r := r) (least := 1)
  unfold textR at hq
  rcases hte : countR s at' big r 1 with ⟨⟨n, e⟩, r2⟩
  rw [hte] at hq hle he h'
  simp only at hq hle he h' ⊢
  rcases he with ⟨rfl, rfl⟩ | ⟨rfl, g1, g2⟩
  · simp at hq
    simp
    exact hq _ h' fr
  · rw [if_pos rfl] at hq
    obtain ⟨m, rfl⟩ : ∃ m : Nat, n = ((m + 1 : Nat) : Int) := ⟨n.toNat - 1, by omega⟩
    simp only [Int.toNat_natCast] at hq
    unfold tailR at hq
    rw [show m + 1 - 1 = m by omega] at hq
    have w1 : IntKind.i64.wrap ((r2.nx : Int) + ((m + 1 : Nat) : Int)) = ((r2.nx + (m + 1) : Nat) : Int) := by rw [wrap64' (by omega) (by omega)]; omega
    have w2 : IntKind.i64.wrap (((m + 1 : Nat) : Int) - 1) = (m : Int) := by rw [wrap64' (by omega) (by omega)]; omega
    have w3 : IntKind.i64.wrap (((r2.nx + (m + 1) : Nat) : Int) - 1) = ((r2.nx + m : Nat) : Int) := by rw [wrap64' (by omega) (by omega)]; omega
    have hs1 := slice_mid s (a := r2.nx) (b := r2.nx + (m + 1)) (by omega) (by omega)
    rw [show r2.nx + (m + 1) - r2.nx = m + 1 by omega] at hs1
    have hsl : (sliceW s r2.nx (m + 1)).length = m + 1 := sliceW_len (by omega)
    have hs2 := slice_beg (sliceW s r2.nx (m + 1)) (b := m) (by omega)
    rw [sliceW_take _ _ _ (by omega)] at hs2
    have htl : (sliceW s r2.nx m).length = m := sliceW_len (by omega)
    have hi : Lib.indexByte (sliceW s r2.nx m) (0 : Int).toNat.toUInt8 = if zeroW (sliceW s r2.nx m) < (sliceW s r2.nx m).length then (zeroW (sliceW s r2.nx m) : Int) else -1 := indexByte_find 0 _
    have h79 := index79 (sliceW s r2.nx m) 0
    rw [hi, htl] at h79
    have hin : r2.nx + m < s.length := by omega
    have hget : (sliceW s r2.nx (m + 1))[m]? = some (s[r2.nx + m]'hin) := by rw [sliceW_get _ _ _ _ (by omega), List.getElem?_eq_getElem hin]
    rw [List.getElem?_eq_getElem hin] at hq
    generalize hX : ((m + 1 : Nat) : Int) = X1 at *
    generalize hN : r2.nx + (m + 1) = N at *
    generalize sliceW s r2.nx (m + 1) = S1 at *
    generalize sliceW s r2.nx m = S2 at *
    simp
    refine WP.draw0 (by decide +kernel) (by decide +kernel) ?_
    by_cases hz : zeroW S2 < m
    · rw [if_pos hz] at hq h79
      have w4 : IntKind.i64.wrap ((r2.nx : Int) + (zeroW S2 : Int)) = ((r2.nx + zeroW S2 : Nat) : Int) := by rw [wrap64' (by omega) (by omega)]; omega
      have hwr := fun Q => wrong80 h' a0 a7 (r2.nx + zeroW S2) (by omega) Q
      generalize zeroW S2 = z at *
      generalize r2.nx + z = y at *
      simp [h', w1, w2, hs1, hs2, h79, w4, hwr]
      exact hq _ (by rw [get_set, if_pos rfl, if_pos (getO_lt h')]) (fr.trans (FrB.set _))
    · rw [if_neg hz] at hq h79
      by_cases hc : s[r2.nx + m] = 0
      · rw [hc] at hq hget
        rw [if_pos rfl] at hq
        have lt' := getO_lt h'
        simp [h', w1, w2, hs1, hs2, h79, hget, overL, lt']
        exact hq _ (by rw [get_set, if_pos rfl, if_pos lt']) (fr.trans (FrB.set _))
      · rw [if_neg (by simpa using hc)] at hq
        have hc' : ¬ (s[r2.nx + m]).toNat = 0 := fun e => hc (UInt8.toNat_inj.1 (by simpa using e))
        rw [← hN, show r2.nx + (m + 1) - 1 = r2.nx + m by omega] at hq
        have hwr := fun Q => wrong80 h' a0 a7 (r2.nx + m) (by omega) Q
        generalize s[r2.nx + m] = c at *
        generalize hy : r2.nx + m = y at *
        simp [h', w1, w2, hs1, hs2, h79, hget, hc', w3, hwr]
        exact hq _ (by rw [get_set, if_pos rfl, if_pos (getO_lt h')]) (fr.trans (FrB.set _))
end
end Go.Proofs.Ytcllchaboahlfaa
end
