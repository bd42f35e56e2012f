/- Helpers of this claim: an evaluator over plain values and its laws. -/
import Derived.Test.YtcllchaboahlfaaHa
section
set_option linter.unusedVariables false
set_option linter.unusedSimpArgs false
namespace Go.Proofs.Ytcllchaboahlfaa
open Go Go.Proofs.Ytcllchaboahlfaa.Den
def Up (n : Nat) (r' : RS) : Prop := (r'.bad < 0 → n ≤ r'.nx) ∧ (0 ≤ r'.bad → (n : Int) ≤ r'.bad)
section
variable {s b : List UInt8} {K : Nat} {r : RS} {big : Bool}
theorem padS_up (hn : r.nx ≤ s.length) (hb : r.bad < 0) (size : Int) : Up r.nx (padS s 0 r size) := by
  have := skipW_le s (padR 0 r.nx size) r.nx hn
  unfold padS
  split
  · exact ⟨fun h => by simp only [failR] at h; omega, fun _ => by simp only [failR]; omega⟩
  · exact ⟨fun _ => this.2, fun h => by simp only at h; omega⟩
theorem takeR_up (hn : r.nx ≤ s.length) (hb : r.bad < 0) (n : Nat) (size : Int) : Up r.nx (takeR s 0 r n size).2 := by
  have h1 := padS_up hn hb size
  have h2 := padS_le (s := s) (at' := 0) (size := size) hn
  unfold takeR
  rw [if_neg (by omega)]
  split
  · exact h1
  · split
    · exact ⟨fun h => by simp only [failR] at h; omega, fun _ => by simp only [failR]; omega⟩
    · exact ⟨fun _ => by simp only; omega, fun h => by simp only at h; omega⟩
theorem flagR_up (hn : r.nx ≤ s.length) (hb : r.bad < 0) : Up r.nx (flagR s 0 r).2 := by
  have ho : Up r.nx (octR s 0 r).2 := takeR_up hn hb 1 1
  unfold flagR
  split
  · rename_i hc
    rcases takeR_err (s := s) (at' := 0) (r := r) (n := 1) (size := 1) with h1 | ⟨_, _, _, h4, _⟩
    · have := hc.1; unfold octR at this; simp only at this; omega
    · have h2 := padS_le (s := s) (at' := 0) (size := 1) hn
      have e : (octR s 0 r).2 = ⟨(padS s 0 r 1).nx + 1, r.bad⟩ := h4
      rw [e]
      exact ⟨fun h => by simp only [failR] at h; omega, fun _ => by simp only [failR]; omega⟩
  · exact ho
theorem countR_up (hn : r.nx ≤ s.length) (hb : r.bad < 0) (least : Int) : Up r.nx (countR s 0 big r least).2 := by
  have ho : Up r.nx (rnum s 0 big r 4).2 := takeR_up hn hb 4 4
  unfold countR
  split
  · rename_i hc
    rcases takeR_err (s := s) (at' := 0) (r := r) (n := 4) (size := ((4 : Nat) : Int)) with h1 | ⟨_, _, _, h4, _⟩
    · have := hc.1; unfold rnum at this; simp only at this; omega
    · have h2 := padS_le (s := s) (at' := 0) (size := 4) hn
      have e : (rnum s 0 big r 4).2 = ⟨(padS s 0 r 4).nx + 4, r.bad⟩ := h4
      show Up r.nx (failR 0 ((rnum s 0 big r 4).2.nx - 4))
      rw [e]
      exact ⟨fun h => by simp only [failR] at h; omega, fun _ => by simp only [failR]; omega⟩
  · exact ho
theorem Up.trans {n : Nat} {r1 r2 : RS} (h : Up n r1) (hb : r1.bad < 0) (g : Up r1.nx r2) : Up n r2 := by
  have := h.1 hb
  exact ⟨fun h2 => by have := g.1 h2; omega, fun h2 => by have := g.2 h2; omega⟩
theorem rawR_up (hn : r.nx ≤ s.length) (hb : r.bad < 0) (n : Int) : Up r.nx (rawR s 0 r n).2 := by
  unfold rawR
  rw [if_neg (by omega)]
  split
  · exact ⟨fun _ => Nat.le_refl _, fun h => by simp only at h; omega⟩
  · split
    · exact ⟨fun h => by simp only [failR] at h; omega, fun _ => by simp only [failR]; omega⟩
    · exact ⟨fun _ => by simp only; omega, fun h => by simp only at h; omega⟩
theorem tailR_up (hb : r.bad < 0) {n : Nat} (h1 : 1 ≤ n) : Up r.nx (tailR s 0 r n).2 := by
  unfold tailR
  split
  · exact ⟨fun h => by simp only [failR] at h; omega, fun _ => by simp only [failR]; omega⟩
  · split
    · exact ⟨fun _ => by simp only; omega, fun h => by simp only at h; omega⟩
    · exact ⟨fun h => by simp only [failR] at h; omega, fun _ => by simp only [failR]; omega⟩
theorem bytesR_up (hn : r.nx ≤ s.length) (hb : r.bad < 0) : Up r.nx (bytesR s 0 big r).2 := by
  unfold bytesR
  split
  · rename_i hc
    exact (countR_up hn hb 0).trans (countR_state hb hc) (rawR_up (countR_le hn) (countR_state hb hc) _)
  · exact countR_up hn hb 0
theorem textR_up (hn : r.nx ≤ s.length) (hb : r.bad < 0) : Up r.nx (textR s 0 big r).2 := by
  unfold textR
  split
  · rename_i hc
    exact (countR_up hn hb 1).trans (countR_state hb hc) (tailR_up (countR_state hb hc) (by rcases countR_ok (s := s) (at' := 0) (big := big) (r := r) (least := 1) with ⟨h3, _⟩ | ⟨_, h4, _⟩ <;> omega))
  · exact countR_up hn hb 1
theorem alignR_up (hn : r.nx ≤ s.length) (hb : r.bad < 0) (size : Int) : Up r.nx (alignR s 0 r size).2 := by
  unfold alignR
  rw [if_neg (by omega)]
  split
  · exact padS_up hn hb size
  · exact ⟨fun _ => Nat.le_refl _, fun h => by simp only at h; omega⟩
theorem readR_up (hn : r.nx ≤ s.length) (hb : r.bad < 0) (a : Ac) : Up r.nx (readR s 0 big r a).2 := by
  unfold readR
  split
  · exact takeR_up hn hb 1 1
  split
  · exact flagR_up hn hb
  split
  · exact takeR_up hn hb 2 2
  split
  · exact takeR_up hn hb 4 4
  split
  · exact takeR_up hn hb 8 8
  split
  · exact textR_up hn hb
  split
  · exact bytesR_up hn hb
  split
  · exact rawR_up hn hb _
  · exact alignR_up hn hb _
theorem readR_kept (hb : 0 ≤ r.bad) (a : Ac) : (readR s 0 big r a).2 = r := by
  have ht : ∀ n size, takeR s 0 r n size = (([], 12), r) := fun n size => by unfold takeR; rw [if_pos hb]
  have ho : octR s 0 r = ((0, 12), r) := by unfold octR; rw [ht]; rfl
  have hnn : ∀ n, rnum s 0 big r n = ((0, 12), r) := fun n => by unfold rnum; rw [ht]; rfl
  have hc : ∀ l, countR s 0 big r l = ((0, 12), r) := fun l => by unfold countR; rw [hnn, if_neg (by simp)]
  unfold readR
  split
  · unfold ofN; rw [ho]
  split
  · unfold ofF flagR; rw [ho]; rfl
  split
  · unfold ofN; rw [hnn]
  split
  · unfold ofN; rw [hnn]
  split
  · unfold ofN; rw [hnn]
  split
  · unfold ofT textR; rw [hc]; rfl
  split
  · unfold ofT bytesR; rw [hc]; rfl
  split
  · unfold ofT rawR; rw [if_pos hb]
  · unfold alignR; simp only; rw [if_pos hb]
end
def runR (s : List UInt8) (big : Bool) (r : RS) (l : List Ac) : RS := l.foldl (fun r a => (readR s 0 big r a).2) r
theorem runR_kept {s : List UInt8} {big : Bool} {r : RS} (hb : 0 ≤ r.bad) : ∀ l : List Ac, runR s big r l = r
  | [] => rfl
  | a :: l => by
    show runR s big (readR s 0 big r a).2 l = r
    rw [readR_kept hb]
    exact runR_kept hb l
theorem runR_up {s : List UInt8} {big : Bool} : ∀ (l : List Ac) (r : RS), r.nx ≤ s.length → r.bad < 0 → 0 ≤ (runR s big r l).bad → (r.nx : Int) ≤ (runR s big r l).bad
  | [], r, _, hb, h => absurd h (by show ¬ 0 ≤ r.bad; omega)
  | a :: l, r, hn, hb, h => by
    have e : runR s big r (a :: l) = runR s big (readR s 0 big r a).2 l := rfl
    rw [e] at h ⊢
    have hu := readR_up (big := big) hn hb a
    have hle := readR_le (at' := 0) (big := big) hn a
    generalize (readR s 0 big r a).2 = r2 at *
    by_cases h2 : 0 ≤ r2.bad
    · rw [runR_kept h2]
      exact hu.2 h2
    · have := runR_up l r2 hle (by omega) h
      have := hu.1 (by omega)
      omega
/-- P1.5. -/
theorem runR_first {s b : List UInt8} {big : Bool} {K : Nat} (ha : Agree s b K) {B : Int} (h0 : 0 ≤ B) (hB : B < s.length) (hK : ∀ i : Nat, (i : Int) < B + 4 → i < s.length → i < K) :
    ∀ (l : List Ac) (r : RS), r.nx ≤ s.length → r.bad < 0 → (runR s big r l).bad = B → (runR b big r l).bad = B
  | [], r, _, hb, h => absurd h (by show ¬ r.bad = B; omega)
  | a :: l, r, hn, hb, h => by
    have e : ∀ t, runR t big r (a :: l) = runR t big (readR t 0 big r a).2 l := fun _ => rfl
    rw [e] at h ⊢
    have hle := readR_le (at' := 0) (big := big) hn a
    have hloc := readR_local (big := big) ha hn hb a
    by_cases h2 : 0 ≤ (readR s 0 big r a).2.bad
    · rw [runR_kept h2] at h
      have hs : Seen s (readR s 0 big r a).2 K := ⟨fun h => by omega, fun _ => by rw [h]; exact ⟨hB, hK⟩⟩
      rw [hloc hs, runR_kept h2]
      exact h
    · have hup := runR_up (s := s) (big := big) l _ hle (by omega) (by omega)
      rw [h] at hup
      have hs : Seen s (readR s 0 big r a).2 K := ⟨fun _ => by
        by_cases hz : (readR s 0 big r a).2.nx = 0
        · omega
        · have := hK ((readR s 0 big r a).2.nx - 1) (by omega) (by omega)
          omega, fun h => absurd h h2⟩
      rw [hloc hs]
      exact runR_first ha h0 hB hK l _ hle (by omega) h
end Go.Proofs.Ytcllchaboahlfaa
end
