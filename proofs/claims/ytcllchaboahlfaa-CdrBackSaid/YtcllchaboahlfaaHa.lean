/- Helpers of this claim: an evaluator over plain values and its laws. -/
import Derived.Test.YtcllchaboahlfaaGj
section
set_option linter.unusedVariables false
set_option linter.unusedSimpArgs false
namespace Go.Proofs.Ytcllchaboahlfaa
open Go Go.Proofs.Ytcllchaboahlfaa.Den
/-! ### what bytes a reader looks at -/
structure Agree (s b : List UInt8) (K : Nat) : Prop where
  len : b.length = s.length
  at_ : ∀ i, i < K → b[i]? = s[i]?
/-- The state tells that only bytes below K were looked at. -/
def Seen (s : List UInt8) (r : RS) (K : Nat) : Prop := (r.bad < 0 → r.nx ≤ K) ∧ (0 ≤ r.bad → r.bad < s.length ∧ ∀ i : Nat, (i : Int) < r.bad + 4 → i < s.length → i < K)
theorem skipW_local {s b : List UInt8} {K : Nat} (h : Agree s b K) : ∀ (k nx : Nat), ((skipW s k nx).2 = false → (skipW s k nx).1 ≤ K) → ((skipW s k nx).2 = true → (skipW s k nx).1 < K) → skipW b k nx = skipW s k nx
  | 0, nx, _, _ => rfl
  | k + 1, nx, h1, h2 => by
    unfold skipW at h1 h2 ⊢
    by_cases h0 : s[nx]? = some 0
    · rw [if_pos h0] at h1 h2 ⊢
      have hlt := (List.getElem?_eq_some_iff.1 h0).1
      have hge := (skipW_le s k (nx + 1) hlt).2
      have hK : nx < K := by
        cases hb : (skipW s k (nx + 1)).2 with
        | false => have := h1 hb; omega
        | true => have := h2 hb; omega
      rw [h.at_ nx hK, if_pos h0]
      exact skipW_local h k (nx + 1) h1 h2
    · rw [if_neg h0] at h1 h2 ⊢
      have hK : nx < K := h2 rfl
      rw [h.at_ nx hK, if_neg h0]
theorem sliceW_local {s b : List UInt8} {K i n : Nat} (h : Agree s b K) (hK : i + n ≤ K) : sliceW b i n = sliceW s i n := by
  unfold sliceW
  apply List.ext_getElem?
  intro j
  rw [List.getElem?_take, List.getElem?_take]
  split
  · rw [List.getElem?_drop, List.getElem?_drop, h.at_ (i + j) (by omega)]
  · rfl
section
variable {s b : List UInt8} {K : Nat} {r : RS} {big : Bool}
theorem pad_local (h : Agree s b K) (hn : r.nx ≤ s.length) (size : Int) (hs : Seen s (padS s 0 r size) K ∨ (padE s 0 r size = 0 ∧ (padS s 0 r size).nx ≤ K)) (hb : r.bad < 0) : padS b 0 r size = padS s 0 r size ∧ padE b 0 r size = padE s 0 r size := by
  have key : skipW b (padR 0 r.nx size) r.nx = skipW s (padR 0 r.nx size) r.nx := by
    apply skipW_local h
    · intro h2
      rcases hs with hs | hs
      · have := hs.1
        unfold padS at this
        rw [if_neg (by rw [h2]; decide)] at this
        exact this hb
      · have := hs.2
        unfold padS at this
        rwa [if_neg (by rw [h2]; decide)] at this
    · intro h2
      rcases hs with hs | hs
      · have := hs.2
        unfold padS at this
        rw [if_pos h2] at this
        simp only [failR, Int.zero_add] at this
        have := this (by omega)
        exact this.2 _ (by omega) (by omega)
      · have := hs.1
        unfold padE at this
        rw [if_pos h2] at this
        cases this
  unfold padS padE
  rw [key]
  exact ⟨rfl, rfl⟩
theorem takeR_local (h : Agree s b K) (hn : r.nx ≤ s.length) (hb : r.bad < 0) (n : Nat) (size : Int) (hs : Seen s (takeR s 0 r n size).2 K) : takeR b 0 r n size = takeR s 0 r n size := by
  have hb' : ¬ 0 ≤ r.bad := by omega
  unfold takeR at hs ⊢
  rw [if_neg hb'] at hs ⊢
  rw [if_neg hb']
  rcases padE_or s 0 r size with e0 | ⟨e0, e1⟩
  · rw [if_pos e0] at hs ⊢
    obtain ⟨k1, k2⟩ := pad_local h hn size (.inl hs) hb
    rw [k1, k2, if_pos e0]
  · have ne : ¬ padE s 0 r size = 12 := by rw [e0]; decide
    rw [if_neg ne] at hs ⊢
    by_cases hl : s.length < (padS s 0 r size).nx + n
    · rw [if_pos hl] at hs
      have := hs.2 (by simp only [failR]; omega)
      simp only [failR] at this
      omega
    · rw [if_neg hl] at hs ⊢
      have hK := hs.1 (by simp only; exact hb)
      simp only at hK
      obtain ⟨k1, k2⟩ := pad_local h hn size (.inr ⟨e0, by omega⟩) hb
      rw [k1, k2, if_neg ne, h.len, if_neg hl, sliceW_local h hK]
theorem octR_local (h : Agree s b K) (hn : r.nx ≤ s.length) (hb : r.bad < 0) (hs : Seen s (octR s 0 r).2 K) : octR b 0 r = octR s 0 r := by
  have := takeR_local h hn hb 1 1 hs
  unfold octR
  rw [this]
theorem rnum_local (h : Agree s b K) (hn : r.nx ≤ s.length) (hb : r.bad < 0) (n : Nat) (hs : Seen s (rnum s 0 big r n).2 K) : rnum b 0 big r n = rnum s 0 big r n := by
  have := takeR_local h hn hb n n hs
  unfold rnum
  rw [this]
theorem octR_state (hb : r.bad < 0) (h : (octR s 0 r).1.2 = 0) : (octR s 0 r).2.bad < 0 := by
  rcases takeR_err (s := s) (at' := 0) (r := r) (n := 1) (size := 1) with h1 | ⟨_, _, _, h4, _⟩
  · unfold octR at h; simp only at h; omega
  · unfold octR; simp only; rw [h4]; exact hb
theorem rnum_state (hb : r.bad < 0) {n : Nat} (h : (rnum s 0 big r n).1.2 = 0) : (rnum s 0 big r n).2.bad < 0 := by
  rcases takeR_err (s := s) (at' := 0) (r := r) (n := n) (size := n) with h1 | ⟨_, _, _, h4, _⟩
  · unfold rnum at h; simp only at h; omega
  · unfold rnum; simp only; rw [h4]; exact hb
theorem flagR_local (h : Agree s b K) (hn : r.nx ≤ s.length) (hb : r.bad < 0) (hs : Seen s (flagR s 0 r).2 K) : flagR b 0 r = flagR s 0 r := by
  have ho : Seen s (octR s 0 r).2 K := by
    unfold flagR at hs
    by_cases hc : (octR s 0 r).1.2 = 0 ∧ 1 < (octR s 0 r).1.1
    · rw [if_pos hc] at hs
      have h1 := octR_one hc.1
      have h2 := octR_state hb hc.1
      obtain ⟨h3, h4⟩ := hs.2 (by simp only [failR]; omega)
      simp only [failR] at h3 h4
      have := h4 ((octR s 0 r).2.nx - 1) (by omega) (by omega)
      exact ⟨fun _ => by omega, fun _ => by omega⟩
    · rwa [if_neg hc] at hs
  unfold flagR
  rw [octR_local h hn hb ho]
theorem countR_local (h : Agree s b K) (hn : r.nx ≤ s.length) (hb : r.bad < 0) (least : Int) (hs : Seen s (countR s 0 big r least).2 K) : countR b 0 big r least = countR s 0 big r least := by
  have hle := rnum_le (at' := 0) (big := big) (n := 4) hn
  have ho : Seen s (rnum s 0 big r 4).2 K := by
    unfold countR at hs
    split at hs
    · rename_i hc
      have h1 := rnum_n hc.1
      have h2 := rnum_state hb hc.1
      obtain ⟨h3, h4⟩ := hs.2 (by simp only [failR]; omega)
      simp only [failR] at h3 h4
      have := h4 ((rnum s 0 big r 4).2.nx - 1) (by omega) (by omega)
      exact ⟨fun _ => by omega, fun _ => by omega⟩
    · exact hs
  unfold countR
  rw [rnum_local h hn hb 4 ho, h.len]
theorem countR_state (hb : r.bad < 0) {least : Int} (h : (countR s 0 big r least).1.2 = 0) : (countR s 0 big r least).2.bad < 0 := by
  unfold countR at h ⊢
  split
  · rename_i hc
    rw [if_pos hc] at h
    cases h
  · rename_i hc
    rw [if_neg hc] at h
    exact rnum_state hb h
theorem rawR_local (h : Agree s b K) (hb : r.bad < 0) (n : Int) (hs : Seen s (rawR s 0 r n).2 K) : rawR b 0 r n = rawR s 0 r n := by
  have hb' : ¬ 0 ≤ r.bad := by omega
  unfold rawR at hs ⊢
  rw [if_neg hb'] at hs ⊢
  rw [if_neg hb']
  by_cases h0 : n < 0
  · rw [if_pos h0, if_pos h0]
  · rw [if_neg h0] at hs ⊢
    rw [if_neg h0, h.len]
    by_cases h1 : (s.length : Int) - r.nx < n
    · rw [if_pos h1, if_pos h1]
    · rw [if_neg h1] at hs ⊢
      rw [if_neg h1, sliceW_local h (hs.1 hb)]
theorem rawR_seen (hb : r.bad < 0) (n : Int) (hs : Seen s (rawR s 0 r n).2 K) : Seen s r K := by
  have hb' : ¬ 0 ≤ r.bad := by omega
  unfold rawR at hs
  rw [if_neg hb'] at hs
  by_cases h0 : n < 0
  · rwa [if_pos h0] at hs
  · rw [if_neg h0] at hs
    by_cases h1 : (s.length : Int) - r.nx < n
    · rw [if_pos h1] at hs
      have := hs.2 (by simp only [failR]; omega)
      simp only [failR] at this
      omega
    · rw [if_neg h1] at hs
      have := hs.1 hb
      simp only at this
      exact ⟨fun _ => by omega, fun h => absurd h hb'⟩
theorem bytesR_local (h : Agree s b K) (hn : r.nx ≤ s.length) (hb : r.bad < 0) (hs : Seen s (bytesR s 0 big r).2 K) : bytesR b 0 big r = bytesR s 0 big r := by
  unfold bytesR at hs ⊢
  by_cases hc : (countR s 0 big r 0).1.2 = 0
  · rw [if_pos hc] at hs ⊢
    have hb2 := countR_state hb hc
    rw [countR_local h hn hb 0 (rawR_seen hb2 _ hs), if_pos hc]
    exact rawR_local h hb2 _ hs
  · rw [if_neg hc] at hs ⊢
    rw [countR_local h hn hb 0 hs, if_neg hc]
theorem zeroW_take_lt {l m : List UInt8} {z : Nat} (hz : zeroW l = z) (hlt : z < l.length) (hag : ∀ i, i ≤ z → m[i]? = l[i]?) : zeroW m = z := by
  unfold zeroW at hz ⊢
  rw [List.findIdx_eq hlt] at hz
  have hml : z < m.length := by
    have := hag z (Nat.le_refl _)
    rw [List.getElem?_eq_getElem hlt] at this
    exact (List.getElem?_eq_some_iff.1 this).1
  rw [List.findIdx_eq hml]
  have he : ∀ i (h1 : i < l.length) (h2 : i < m.length), i ≤ z → m[i] = l[i] := fun i h1 h2 h3 => by
    have := hag i h3
    rw [List.getElem?_eq_getElem h1, List.getElem?_eq_getElem h2] at this
    exact Option.some.inj this
  refine ⟨by rw [he z hlt hml (Nat.le_refl _)]; exact hz.1, fun j hj => ?_⟩
  rw [he j (by omega) (by omega) (by omega)]
  exact hz.2 j hj
theorem tailR_local (h : Agree s b K) (hb : r.bad < 0) {n : Nat} (h1 : 1 ≤ n) (hnl : r.nx + n ≤ s.length) (hs : Seen s (tailR s 0 r n).2 K) : Seen s r K ∧ tailR b 0 r n = tailR s 0 r n := by
  have hsl : (sliceW s r.nx (n - 1)).length = n - 1 := sliceW_len (by omega)
  have hbl : (sliceW b r.nx (n - 1)).length = n - 1 := sliceW_len (by rw [h.len]; omega)
  have hg : ∀ i, r.nx + i < K → i < n - 1 → (sliceW b r.nx (n - 1))[i]? = (sliceW s r.nx (n - 1))[i]? := fun i h2 h3 => by rw [sliceW_get _ _ _ _ h3, sliceW_get _ _ _ _ h3, h.at_ _ h2]
  unfold tailR at hs ⊢
  by_cases hz : zeroW (sliceW s r.nx (n - 1)) < n - 1
  · rw [if_pos hz] at hs ⊢
    obtain ⟨h3, h4⟩ := hs.2 (by simp only [failR]; omega)
    simp only [failR] at h3 h4
    have hk := h4 (r.nx + zeroW (sliceW s r.nx (n - 1))) (by omega) (by omega)
    have he : zeroW (sliceW b r.nx (n - 1)) = zeroW (sliceW s r.nx (n - 1)) := zeroW_take_lt rfl (by omega) fun i hi => hg i (by omega) (by omega)
    rw [he, if_pos hz]
    exact ⟨⟨fun _ => by omega, fun h => by omega⟩, rfl⟩
  · rw [if_neg hz] at hs ⊢
    have key : r.nx + (n - 1) < K → (sliceW b r.nx (n - 1) = sliceW s r.nx (n - 1)) ∧ b[r.nx + (n - 1)]? = s[r.nx + (n - 1)]? := fun hk => ⟨sliceW_local h (by omega), h.at_ _ hk⟩
    by_cases hc : s[r.nx + (n - 1)]? = some 0
    · rw [if_pos hc] at hs ⊢
      have := hs.1 hb
      simp only at this
      obtain ⟨k1, k2⟩ := key (by omega)
      rw [k1, k2, if_neg hz, if_pos hc]
      exact ⟨⟨fun _ => by omega, fun h => by omega⟩, rfl⟩
    · rw [if_neg hc] at hs ⊢
      obtain ⟨h3, h4⟩ := hs.2 (by simp only [failR]; omega)
      simp only [failR] at h3 h4
      have hk := h4 (r.nx + (n - 1)) (by omega) (by omega)
      obtain ⟨k1, k2⟩ := key hk
      rw [k1, k2, if_neg hz, if_neg hc]
      exact ⟨⟨fun _ => by omega, fun h => by omega⟩, rfl⟩
theorem textR_local (h : Agree s b K) (hn : r.nx ≤ s.length) (hb : r.bad < 0) (hs : Seen s (textR s 0 big r).2 K) : textR b 0 big r = textR s 0 big r := by
  have hok := countR_ok (s := s) (at' := 0) (big := big) (r := r) (least := 1)
  unfold textR at hs ⊢
  by_cases hc : (countR s 0 big r 1).1.2 = 0
  · rw [if_pos hc] at hs ⊢
    have hb2 := countR_state hb hc
    have hle := countR_le (at' := 0) (big := big) (least := 1) hn
    rcases hok with ⟨h3, _⟩ | ⟨_, h4, h5⟩
    · rw [hc] at h3; cases h3
    · obtain ⟨k1, k2⟩ := tailR_local h hb2 (n := (countR s 0 big r 1).1.1.toNat) (by omega) (by omega) hs
      rw [countR_local h hn hb 1 k1, if_pos hc]
      exact k2
  · rw [if_neg hc] at hs ⊢
    rw [countR_local h hn hb 1 hs, if_neg hc]
theorem alignR_local (h : Agree s b K) (hn : r.nx ≤ s.length) (hb : r.bad < 0) (size : Int) (hs : Seen s (alignR s 0 r size).2 K) : alignR b 0 r size = alignR s 0 r size := by
  have hb' : ¬ 0 ≤ r.bad := by omega
  unfold alignR at hs ⊢
  rw [if_neg hb'] at hs ⊢
  rw [if_neg hb']
  by_cases hz : sizeW size = true
  · rw [if_pos hz] at hs ⊢
    rw [if_pos hz]
    obtain ⟨k1, k2⟩ := pad_local h hn size (.inl hs) hb
    rw [k1, k2]
  · rw [if_neg hz, if_neg hz]
theorem readR_local (h : Agree s b K) (hn : r.nx ≤ s.length) (hb : r.bad < 0) (a : Ac) (hs : Seen s (readR s 0 big r a).2 K) : readR b 0 big r a = readR s 0 big r a := by
  unfold readR at hs ⊢
  split
  · rename_i k; rw [if_pos k] at hs; unfold ofN at hs ⊢; rw [octR_local h hn hb hs]
  rename_i k; rw [if_neg k] at hs
  split
  · rename_i k; rw [if_pos k] at hs; unfold ofF at hs ⊢; rw [flagR_local h hn hb hs]
  rename_i k; rw [if_neg k] at hs
  split
  · rename_i k; rw [if_pos k] at hs; unfold ofN at hs ⊢; rw [rnum_local h hn hb 2 hs]
  rename_i k; rw [if_neg k] at hs
  split
  · rename_i k; rw [if_pos k] at hs; unfold ofN at hs ⊢; rw [rnum_local h hn hb 4 hs]
  rename_i k; rw [if_neg k] at hs
  split
  · rename_i k; rw [if_pos k] at hs; unfold ofN at hs ⊢; rw [rnum_local h hn hb 8 hs]
  rename_i k; rw [if_neg k] at hs
  split
  · rename_i k; rw [if_pos k] at hs; unfold ofT at hs ⊢; rw [textR_local h hn hb hs]
  rename_i k; rw [if_neg k] at hs
  split
  · rename_i k; rw [if_pos k] at hs; unfold ofT at hs ⊢; rw [bytesR_local h hn hb hs]
  rename_i k; rw [if_neg k] at hs
  split
  · rename_i k; rw [if_pos k] at hs; unfold ofT at hs ⊢; rw [rawR_local h hb _ hs]
  rename_i k; rw [if_neg k] at hs
  simp only at hs ⊢
  rw [alignR_local h hn hb _ hs]
end
end Go.Proofs.Ytcllchaboahlfaa
end
