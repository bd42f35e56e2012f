/- Helpers of this claim: an evaluator over plain values and its laws. -/
import Derived.Test.YtcllchaboahlfaaDc
section
set_option linter.unusedVariables false
set_option linter.unusedSimpArgs false
namespace Go.Proofs.Ytcllchaboahlfaa
open Go Go.Proofs.Ytcllchaboahlfaa.Den
theorem swap_swap {s : List UInt8} {m : Nat} (hm : 1 ≤ m) (hd : s.length % m = 0) : swapL (swapL s m) m = s := by
  apply List.ext_getElem?
  intro k
  by_cases hk : k < s.length
  · rw [swapL_get (by simpa using hk), List.getElem?_eq_getElem hk]
    have hk2 : k % m < m := Nat.mod_lt _ hm
    have hk3 : k % m ≤ k := Nat.mod_le _ _
    obtain ⟨q, hq⟩ : ∃ q, q = k % m := ⟨_, rfl⟩
    rw [← hq] at hk2 hk3 ⊢
    have him : k - q + m ≤ s.length := mod_step hm (by rw [hq]; exact Nat.sub_mod_eq_zero_of_mod_eq (by simp)) hd (by omega)
    have hz : (k - q) % m = 0 := by rw [hq]; exact Nat.sub_mod_eq_zero_of_mod_eq (by simp)
    have hmod : (k - q + (m - 1 - q)) % m = m - 1 - q := by rw [Nat.add_mod, hz, Nat.zero_add, Nat.mod_mod, Nat.mod_eq_of_lt (by omega)]
    rw [List.getD_eq_getElem?_getD, swapL_get (by omega), hmod]
    simp only [Option.getD_some]
    rw [show k - q + (m - 1 - q) - (m - 1 - q) + (m - 1 - (m - 1 - q)) = k by omega, List.getD_eq_getElem?_getD, List.getElem?_eq_getElem hk]
    rfl
  · rw [List.getElem?_eq_none (by simpa using hk), List.getElem?_eq_none (by simpa using hk)]
set_option maxRecDepth 100000 in
theorem CdrPads4 (place size : Int) (s : List UInt8) (hp : place < 2 ^ 63) (H : World) : FW X 4 #[.int .i64 place, .int .i64 size, .string (sB s)] H fun v _ => v = .bool true := by
  refine FW.walk (by simp [X]) Try.func4 Try.ntmps4 rfl (by simp) ?_
  simp
  refine gIf_dec (fun h => ?_) (fun h => ?_)
  · simp [awake_eq]
  · have hl : s.length ≤ 2 ^ 20 := by omega
    simp [Pad21 place size hp, Pad22 place size hp, Swap23 s size hl, Swap24 s size hl]
    refine gIf_ndec (fun h2 => ?_) (fun h2 => ?_)
    · have hs : sizeW size = true ∧ s.length % size.toNat = 0 := by
        unfold swapOk at h2
        split at h2
        · split at h2
          · exact ⟨by assumption, by assumption⟩
          · cases h2
        · cases h2
      have hsz := sizeW_iff.1 hs.1
      have hr : swapR s size = swapL s size.toNat := by simp [swapR, h2]
      have h3 : swapOk (swapR s size) size = 0 := by simp [swapOk, hr, hs]
      have h4 : swapR (swapR s size) size = s := by
        rw [swapR, if_pos h3, hr, swap_swap (by omega) hs.2]
      simp [Swap23 (swapR s size) size (by rw [hr]; simpa using hl), h3, h4, awake_eq]
    · simp [awake_eq]
end Go.Proofs.Ytcllchaboahlfaa
end
