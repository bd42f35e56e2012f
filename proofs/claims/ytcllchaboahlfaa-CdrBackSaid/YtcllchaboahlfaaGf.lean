/- Helpers of this claim: an evaluator over plain values and its laws. -/
import Derived.Test.YtcllchaboahlfaaGe
section
set_option linter.unusedVariables false
set_option linter.unusedSimpArgs false
namespace Go.Proofs.Ytcllchaboahlfaa
open Go Go.Proofs.Ytcllchaboahlfaa.Den
section
variable {H : World} {rb : Nat} {s : List UInt8} {big : Bool} {at' : Int} {r : RS}
theorem octR_one {s : List UInt8} {at' : Int} {r : RS} (h : (octR s at' r).1.2 = 0) : 1 ≤ (octR s at' r).2.nx := by
  rcases takeR_err (s := s) (at' := at') (r := r) (n := 1) (size := 1) with h1 | ⟨_, _, _, h4, _⟩
  · unfold octR at h; simp only at h; omega
  · unfold octR; simp only; rw [h4]; simp
theorem rnum_n {s : List UInt8} {at' : Int} {big : Bool} {r : RS} {n : Nat} (h : (rnum s at' big r n).1.2 = 0) : n ≤ (rnum s at' big r n).2.nx := by
  rcases takeR_err (s := s) (at' := at') (r := r) (n := n) (size := n) with h1 | ⟨_, _, _, h4, _⟩
  · unfold rnum at h; simp only at h; omega
  · unfold rnum; simp only; rw [h4]; simp
theorem octR_e {s : List UInt8} {at' : Int} {r : RS} : (octR s at' r).1.2 = 12 ∧ (octR s at' r).1.1 = 0 ∨ (octR s at' r).1.2 = 0 := by
  unfold octR
  rcases takeR_err (s := s) (at' := at') (r := r) (n := 1) (size := 1) with h1 | h1
  · left; simp [h1]
  · right; exact h1.1
theorem rnum_e {s : List UInt8} {at' : Int} {big : Bool} {r : RS} {n : Nat} : (rnum s at' big r n).1.2 = 12 ∧ (rnum s at' big r n).1.1 = 0 ∨ (rnum s at' big r n).1.2 = 0 := by
  unfold rnum
  rcases takeR_err (s := s) (at' := at') (r := r) (n := n) (size := n) with h1 | h1
  · left; simp [h1]
  · right; exact h1.1
set_option maxRecDepth 100000 in
theorem Flag63 (h : getO H rb = some (rdP s big at' r)) (a0 : 0 ≤ at') (a7 : at' ≤ 7) (hl : s.length ≤ 2 ^ 40) (hn : r.nx ≤ s.length) {Q : Value → World → Prop}
    (hq : ∀ H', getO H' rb = some (rdP s big at' (flagR s at' r).2) → FrB H H' rb → Q (.tuple #[.bool (flagR s at' r).1.1, .int .i64 (flagR s at' r).1.2]) H') : FW X 63 #[p0 rb] H Q := by
  refine FW.walk (by simp [X]) Try.func63 Try.ntmps63 rfl (by simp) ?_
  simp
  refine Octet62 h a0 a7 hl hn fun H' h' fr => ?_
  have hle := octR_le (at' := at') hn
  have hone := octR_one (s := s) (at' := at') (r := r)
  have he := octR_e (s := s) (at' := at') (r := r)
  unfold flagR at hq
  rcases hte : octR s at' r with ⟨⟨n, e⟩, r2⟩
  rw [hte] at hq hle hone he h'
  simp only at hq hle hone he h' ⊢
  rcases he with ⟨rfl, rfl⟩ | rfl
  · simp at hq
    simp
    exact hq _ h' fr
  · have h1 := hone rfl
    by_cases hgt : 1 < n
    · rw [if_pos ⟨rfl, hgt⟩] at hq
      have w1 : IntKind.i64.wrap ((r2.nx : Int) - 1) = ((r2.nx - 1 : Nat) : Int) := by rw [wrap64' (by omega) (by omega)]; omega
      have hwr := fun Q => wrong80 h' a0 a7 (r2.nx - 1) (by omega) Q
      simp [hgt, h', w1, hwr]
      exact hq _ (by rw [get_set, if_pos rfl, if_pos (getO_lt h')]) (fr.trans (FrB.set _))
    · rw [if_neg (fun h => hgt h.2)] at hq
      simp [hgt]
      exact hq _ h' fr
set_option maxRecDepth 100000 in
theorem Short64 (h : getO H rb = some (rdP s big at' r)) (a0 : 0 ≤ at') (a7 : at' ≤ 7) (hl : s.length ≤ 2 ^ 40) (hn : r.nx ≤ s.length) {Q : Value → World → Prop}
    (hq : ∀ H', getO H' rb = some (rdP s big at' (rnum s at' big r 2).2) → FrB H H' rb → Q (.tuple #[.int .i64 (rnum s at' big r 2).1.1, .int .i64 (rnum s at' big r 2).1.2]) H') : FW X 64 #[p0 rb] H Q := by
  refine FW.walk (by simp [X]) Try.func64 Try.ntmps64 rfl (by simp) ?_
  simp
  refine number94 (size := 2) h a0 a7 hl hn (by omega) fun H' h' fr => ?_
  simp
  exact hq _ h' fr
set_option maxRecDepth 100000 in
theorem Long65 (h : getO H rb = some (rdP s big at' r)) (a0 : 0 ≤ at') (a7 : at' ≤ 7) (hl : s.length ≤ 2 ^ 40) (hn : r.nx ≤ s.length) {Q : Value → World → Prop}
    (hq : ∀ H', getO H' rb = some (rdP s big at' (rnum s at' big r 4).2) → FrB H H' rb → Q (.tuple #[.int .i64 (rnum s at' big r 4).1.1, .int .i64 (rnum s at' big r 4).1.2]) H') : FW X 65 #[p0 rb] H Q := by
  refine FW.walk (by simp [X]) Try.func65 Try.ntmps65 rfl (by simp) ?_
  simp
  refine number94 (size := 4) h a0 a7 hl hn (by omega) fun H' h' fr => ?_
  simp
  exact hq _ h' fr
set_option maxRecDepth 100000 in
theorem Huge66 (h : getO H rb = some (rdP s big at' r)) (a0 : 0 ≤ at') (a7 : at' ≤ 7) (hl : s.length ≤ 2 ^ 40) (hn : r.nx ≤ s.length) {Q : Value → World → Prop}
    (hq : ∀ H', getO H' rb = some (rdP s big at' (rnum s at' big r 8).2) → FrB H H' rb → Q (.tuple #[.int .i64 (rnum s at' big r 8).1.1, .int .i64 (rnum s at' big r 8).1.2]) H') : FW X 66 #[p0 rb] H Q := by
  refine FW.walk (by simp [X]) Try.func66 Try.ntmps66 rfl (by simp) ?_
  simp
  refine number94 (size := 8) h a0 a7 hl hn (by omega) fun H' h' fr => ?_
  simp
  exact hq _ h' fr
set_option maxRecDepth 100000 in
theorem counted78 (h : getO H rb = some (rdP s big at' r)) (a0 : 0 ≤ at') (a7 : at' ≤ 7) (hl : s.length ≤ 2 ^ 40) (hn : r.nx ≤ s.length) (least : Int) {Q : Value → World → Prop}
    (hq : ∀ H', getO H' rb = some (rdP s big at' (countR s at' big r least).2) → FrB H H' rb → Q (.tuple #[.int .i64 (countR s at' big r least).1.1, .int .i64 (countR s at' big r least).1.2]) H') : FW X 78 #[p0 rb, .int .i64 least] H Q := by
  refine FW.walk (by simp [X]) Try.func78 Try.ntmps78 rfl (by simp) ?_
  simp
  refine number94 (size := 4) h a0 a7 hl hn (by omega) fun H' h' fr => ?_
  have hle := rnum_le (at' := at') (big := big) (n := 4) hn
  have hfour := rnum_n (s := s) (at' := at') (big := big) (r := r) (n := 4)
  have he := rnum_e (s := s) (at' := at') (big := big) (r := r) (n := 4)
  unfold countR at hq
  rcases hte : rnum s at' big r 4 with ⟨⟨n, e⟩, r2⟩
  rw [hte] at hq hle hfour he h'
  simp only at hq hle hfour he h' ⊢
  rcases he with ⟨rfl, rfl⟩ | rfl
  · simp at hq
    simp
    exact hq _ h' fr
  · have h4 := hfour rfl
    have w1 : IntKind.i64.wrap ((r2.nx : Int) - 4) = ((r2.nx - 4 : Nat) : Int) := by rw [wrap64' (by omega) (by omega)]; omega
    have hwr := fun Q => wrong80 h' a0 a7 (r2.nx - 4) (by omega) Q
    have hlf := fun Q => Left31 h' hl hle Q
    by_cases h1 : n < least
    · rw [if_pos ⟨rfl, .inl h1⟩] at hq
      simp [h1, h', w1, hwr]
      exact hq _ (by rw [get_set, if_pos rfl, if_pos (getO_lt h')]) (fr.trans (FrB.set _))
    · by_cases h2 : (s.length : Int) - r2.nx < n
      · rw [if_pos ⟨rfl, .inr h2⟩] at hq
        simp [h1, h2, h', w1, hwr, hlf]
        exact hq _ (by rw [get_set, if_pos rfl, if_pos (getO_lt h')]) (fr.trans (FrB.set _))
      · rw [if_neg (fun h => h.2.elim h1 h2)] at hq
        simp [h1, h2, h', hlf]
        exact hq _ h' fr
theorem countR_ok {s : List UInt8} {at' : Int} {big : Bool} {r : RS} {least : Int} : (countR s at' big r least).1.2 = 12 ∧ (countR s at' big r least).1.1 = 0 ∨ ((countR s at' big r least).1.2 = 0 ∧ least ≤ (countR s at' big r least).1.1 ∧ (countR s at' big r least).1.1 ≤ (s.length : Int) - (countR s at' big r least).2.nx) := by
  have he := rnum_e (s := s) (at' := at') (big := big) (r := r) (n := 4)
  unfold countR
  rcases he with ⟨h1, h2⟩ | h1
  · rw [if_neg (by rw [h1]; simp)]; exact .inl ⟨h1, h2⟩
  · split
    · exact .inl ⟨rfl, rfl⟩
    · rename_i h2
      exact .inr ⟨h1, by by_cases g : (rnum s at' big r 4).1.1 < least; exact absurd ⟨h1, .inl g⟩ h2; omega, by by_cases g : (s.length : Int) - (rnum s at' big r 4).2.nx < (rnum s at' big r 4).1.1; exact absurd ⟨h1, .inr g⟩ h2; omega⟩
set_option maxRecDepth 100000 in
theorem Raw68 (h : getO H rb = some (rdP s big at' r)) (a0 : 0 ≤ at') (a7 : at' ≤ 7) (hl : s.length ≤ 2 ^ 40) (hn : r.nx ≤ s.length) (n : Int) {Q : Value → World → Prop}
    (hq : ∀ H', getO H' rb = some (rdP s big at' (rawR s at' r n).2) → FrB H H' rb → Q (.tuple #[.string (sB (rawR s at' r n).1.1), .int .i64 (rawR s at' r n).1.2]) H') : FW X 68 #[p0 rb, .int .i64 n] H Q := by
  refine FW.walk (by simp [X]) Try.func68 Try.ntmps68 rfl (by simp) ?_
  unfold rawR at hq
  have lt := getO_lt h
  by_cases hb : 0 ≤ r.bad
  · rw [if_pos hb] at hq
    simp [ready81 h, hb]
    exact hq _ h FrB.refl
  · rw [if_neg hb] at hq
    by_cases h0 : n < 0
    · rw [if_pos h0] at hq
      simp [ready81 h, hb, h0]
      exact hq _ h FrB.refl
    · rw [if_neg h0] at hq
      by_cases h1 : (s.length : Int) - r.nx < n
      · rw [if_pos h1] at hq
        have hwr := fun Q => wrong80 h a0 a7 s.length hl Q
        simp [ready81 h, hb, h0, Left31 h hl hn, h1, h, hwr]
        exact hq _ (by rw [get_set, if_pos rfl, if_pos lt]) (FrB.set _)
      · rw [if_neg h1] at hq
        obtain ⟨m, rfl⟩ := Int.eq_ofNat_of_zero_le (Int.not_lt.1 h0)
        have w2 : IntKind.i64.wrap ((r.nx : Int) + (m : Int)) = ((r.nx + m : Nat) : Int) := by rw [wrap64' (by omega) (by omega)]; omega
        have w3 : IntKind.i64.wrap (((r.nx + m : Nat) : Int) - (m : Int)) = (r.nx : Int) := by rw [wrap64' (by omega) (by omega)]; omega
        have hsl : ∀ H, sliceX Try.prog 9 (.string (sB s)) (some (.int .i64 r.nx)) (some (.int .i64 ((r.nx + m : Nat) : Int))) none H = some (.value (.string (sB (sliceW s r.nx m))), H) := fun H => by
          have := slice_str (P := Try.prog) (t := 9) (l := s) (lo := some (.int .i64 r.nx)) (hi := some (.int .i64 ((r.nx + m : Nat) : Int))) (h := r.nx + m) (b := r.nx) (H := H) Try.underlying9 (by simp [vBound]; omega) (by simp [vBound]; omega)
          rw [this]
          unfold sliceW
          rw [List.drop_take, show r.nx + m - r.nx = m by omega]
        simp only [Int.toNat_natCast] at hq
        generalize r.nx + m = y at *
        have hg : getO (setO H rb (rdP s big at' ⟨y, r.bad⟩)) rb = some (rdP s big at' ⟨y, r.bad⟩) := by rw [get_set, if_pos rfl, if_pos lt]
        have hq := hq _ hg (FrB.set _)
        simp [ready81 h, hb, h0, Left31 h hl hn, h1, h, w2, lt, overL]
        generalize setO H rb (rdP s big at' ⟨y, r.bad⟩) = H2 at *
        refine WP.draw0 (by decide +kernel) (by decide +kernel) ?_
        simp [hg, w3, hsl]
        exact hq
set_option maxRecDepth 100000 in
theorem Bytes67 (h : getO H rb = some (rdP s big at' r)) (a0 : 0 ≤ at') (a7 : at' ≤ 7) (hl : s.length ≤ 2 ^ 40) (hn : r.nx ≤ s.length) {Q : Value → World → Prop}
    (hq : ∀ H', getO H' rb = some (rdP s big at' (bytesR s at' big r).2) → FrB H H' rb → Q (.tuple #[.string (sB (bytesR s at' big r).1.1), .int .i64 (bytesR s at' big r).1.2]) H') : FW X 67 #[p0 rb] H Q := by
  refine FW.walk (by simp [X]) Try.func67 Try.ntmps67 rfl (by simp) ?_
  simp
  refine counted78 h a0 a7 hl hn 0 fun H' h' fr => ?_
  have hle := countR_le (at' := at') (big := big) (least := 0) hn
  have he := countR_ok (s := s) (at' := at') (big := big) (r := r) (least := 0)
  unfold bytesR at hq
  rcases hte : countR s at' big r 0 with ⟨⟨n, e⟩, r2⟩
  rw [hte] at hq hle he h'
  simp only at hq hle he h' ⊢
  rcases he with ⟨rfl, rfl⟩ | ⟨rfl, g1, g2⟩
  · simp at hq
    simp
    exact hq _ h' fr
  · rw [if_pos rfl] at hq
    simp
    refine Raw68 h' a0 a7 hl hle n fun H2 h2 fr2 => ?_
    simp
    exact hq _ h2 (fr.trans fr2)
set_option maxRecDepth 100000 in
theorem Align36 (h : getO H rb = some (rdP s big at' r)) (a0 : 0 ≤ at') (a7 : at' ≤ 7) (hl : s.length ≤ 2 ^ 40) (hn : r.nx ≤ s.length) (size : Int) {Q : Value → World → Prop}
    (hq : ∀ H', getO H' rb = some (rdP s big at' (alignR s at' r size).2) → FrB H H' rb → Q (.int .i64 (alignR s at' r size).1) H') : FW X 36 #[p0 rb, .int .i64 size] H Q := by
  refine FW.walk (by simp [X]) Try.func36 Try.ntmps36 rfl (by simp) ?_
  unfold alignR at hq
  have lt := getO_lt h
  by_cases hb : 0 ≤ r.bad
  · rw [if_pos hb] at hq
    simp [ready81 h, hb]
    exact hq _ h FrB.refl
  · rw [if_neg hb] at hq
    have hp := padding58 0 size (by omega)
    have pk : padOk 0 size = sizeW size := by simp [padOk]
    rw [pk] at hp
    cases hs : sizeW size with
    | false =>
      rw [hs] at hq hp
      simp at hq
      simp [ready81 h, hb, hp]
      exact hq _ h FrB.refl
    | true =>
      rw [hs] at hq hp
      simp at hq
      simp [ready81 h, hb, hp, pad82 h a0 a7 hl hn size hs]
      exact hq _ (by rw [get_set, if_pos rfl, if_pos lt]) (FrB.set _)
end
end Go.Proofs.Ytcllchaboahlfaa
end
