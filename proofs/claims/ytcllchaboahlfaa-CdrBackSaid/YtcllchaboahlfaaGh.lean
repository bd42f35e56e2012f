/- Helpers of this claim: an evaluator over plain values and its laws. -/
import Derived.Test.YtcllchaboahlfaaGg
section
set_option linter.unusedVariables false
set_option linter.unusedSimpArgs false
namespace Go.Proofs.Ytcllchaboahlfaa
open Go Go.Proofs.Ytcllchaboahlfaa.Den
theorem padR_one (at' : Int) (nx : Nat) : padR at' nx 1 = 0 := by
  unfold padR padW
  simp
theorem takeR_one (s : List UInt8) (at' : Int) (r : RS) (n : Nat) : takeR s at' r n 1 = rawR s at' r n := by
  have e1 : padE s at' r 1 = 0 := by unfold padE; rw [padR_one]; simp [skipW]
  have e2 : padS s at' r 1 = r := by unfold padS; rw [padR_one]; simp [skipW]
  unfold takeR rawR
  rw [e1, e2]
  by_cases hb : 0 ≤ r.bad
  · rw [if_pos hb, if_pos hb]
  · have hn0 : ¬ (n : Int) < 0 := by omega
    rw [if_neg hb, if_neg hb, if_neg (by decide), if_neg hn0]
    by_cases h : s.length < r.nx + n
    · rw [if_pos h, if_pos (by omega)]
    · rw [if_neg h, if_neg (by omega)]; rfl
section
variable {H : World} {rb : Nat} {s : List UInt8} {big : Bool} {at' : Int} {r : RS}
theorem set_two {H : World} {rb : Nat} {o o2 o3 : Obj} (h : getO H rb = some o) : getO (setO H rb o2) rb = some o2 ∧ setO (setO H rb o2) rb o3 = setO H rb o3 := ⟨by rw [get_set, if_pos rfl, if_pos (getO_lt h)], set_set _ _ _⟩
set_option maxRecDepth 100000 in
theorem Octet69 (h : getO H rb = some (rdR s big at' r)) (a0 : 0 ≤ at') (a7 : at' ≤ 7) (hl : s.length ≤ 2 ^ 40) (hn : r.nx ≤ s.length) (Q : Value → World → Prop) :
    FW X 69 #[p0 rb] H Q = Q (.tuple #[.int .i64 (octR s at' r).1.1, .int .i64 (octR s at' r).1.2]) (setO H rb (rdR s big at' (octR s at' r).2)) := by
  refine FW.eqE (by simp [X]) Try.func69 Try.ntmps69 rfl (by simp) ?_ Q
  have ht := fun Q => take95 h a0 a7 hl hn 1 1 (by decide) Q
  have herr := takeR_err (s := s) (at' := at') (r := r) (n := 1) (size := 1)
  unfold octR
  rcases hte : takeR s at' r 1 1 with ⟨⟨b, e⟩, r2⟩
  rw [hte] at herr ht
  simp only at herr ht ⊢
  rcases herr with h1 | ⟨h1, h2, h3, h4, _⟩
  · subst h1
    simp at ht
    simp [ht]
  · subst h1
    have hbl : b.length = 1 := by rw [h2, sliceW_len h3]
    obtain ⟨x, rfl⟩ : ∃ x, b = [x] := by
      match b, hbl with
      | [x], _ => exact ⟨x, rfl⟩
    simp at ht
    have w : IntKind.i64.wrap (x.toNat : Int) = (x.toNat : Int) := by have := x.toNat_lt; exact wrap64' (by omega) (by omega)
    simp [ht, w]
set_option maxRecDepth 100000 in
theorem Flag70 (h : getO H rb = some (rdR s big at' r)) (a0 : 0 ≤ at') (a7 : at' ≤ 7) (hl : s.length ≤ 2 ^ 40) (hn : r.nx ≤ s.length) (Q : Value → World → Prop) :
    FW X 70 #[p0 rb] H Q = Q (.tuple #[.bool (flagR s at' r).1.1, .int .i64 (flagR s at' r).1.2]) (setO H rb (rdR s big at' (flagR s at' r).2)) := by
  refine FW.eqE (by simp [X]) Try.func70 Try.ntmps70 rfl (by simp) ?_ Q
  have ho := fun Q => Octet69 h a0 a7 hl hn Q
  have hle := octR_le (at' := at') hn
  have hone := octR_one (s := s) (at' := at') (r := r)
  have he := octR_e (s := s) (at' := at') (r := r)
  unfold flagR
  rcases hte : octR s at' r with ⟨⟨n, e⟩, r2⟩
  rw [hte] at hle hone he ho
  simp only at hle hone he ho ⊢
  obtain ⟨g1, _⟩ := set_two (o2 := rdR s big at' r2) (o3 := rdR s big at' r2) h
  have g2 := fun o3 => (set_two (o2 := rdR s big at' r2) (o3 := o3) h).2
  generalize hH2 : setO H rb (rdR s big at' r2) = H2 at *
  rcases he with ⟨rfl, rfl⟩ | rfl
  · simp [ho, hH2]
  · have h1 := hone rfl
    by_cases hgt : 1 < n
    · have w1 : IntKind.i64.wrap ((at' + (r2.nx : Int)) - 1) = at' + ((r2.nx - 1 : Nat) : Int) := by rw [wrap64' (by omega) (by omega)]; omega
      have hwr := fun Q => Fail96 g1 a0 a7 (r2.nx - 1) (by omega) Q
      have hpl := fun Q => Place30 g1 a0 a7 (by omega) Q
      simp [hgt, ho, hpl, w1, hwr, g2]
    · simp [hgt, ho, hH2]
set_option maxRecDepth 100000 in
theorem Short71 (h : getO H rb = some (rdR s big at' r)) (a0 : 0 ≤ at') (a7 : at' ≤ 7) (hl : s.length ≤ 2 ^ 40) (hn : r.nx ≤ s.length) (Q : Value → World → Prop) :
    FW X 71 #[p0 rb] H Q = Q (.tuple #[.int .i64 (rnum s at' big r 2).1.1, .int .i64 (rnum s at' big r 2).1.2]) (setO H rb (rdR s big at' (rnum s at' big r 2).2)) := by
  refine FW.eqE (by simp [X]) Try.func71 Try.ntmps71 rfl (by simp) ?_ Q
  have := fun Q => number97 h a0 a7 hl hn 2 (by omega) Q
  simp at this
  simp [this]
set_option maxRecDepth 100000 in
theorem Long72 (h : getO H rb = some (rdR s big at' r)) (a0 : 0 ≤ at') (a7 : at' ≤ 7) (hl : s.length ≤ 2 ^ 40) (hn : r.nx ≤ s.length) (Q : Value → World → Prop) :
    FW X 72 #[p0 rb] H Q = Q (.tuple #[.int .i64 (rnum s at' big r 4).1.1, .int .i64 (rnum s at' big r 4).1.2]) (setO H rb (rdR s big at' (rnum s at' big r 4).2)) := by
  refine FW.eqE (by simp [X]) Try.func72 Try.ntmps72 rfl (by simp) ?_ Q
  have := fun Q => number97 h a0 a7 hl hn 4 (by omega) Q
  simp at this
  simp [this]
set_option maxRecDepth 100000 in
theorem Huge73 (h : getO H rb = some (rdR s big at' r)) (a0 : 0 ≤ at') (a7 : at' ≤ 7) (hl : s.length ≤ 2 ^ 40) (hn : r.nx ≤ s.length) (Q : Value → World → Prop) :
    FW X 73 #[p0 rb] H Q = Q (.tuple #[.int .i64 (rnum s at' big r 8).1.1, .int .i64 (rnum s at' big r 8).1.2]) (setO H rb (rdR s big at' (rnum s at' big r 8).2)) := by
  refine FW.eqE (by simp [X]) Try.func73 Try.ntmps73 rfl (by simp) ?_ Q
  have := fun Q => number97 h a0 a7 hl hn 8 (by omega) Q
  simp at this
  simp [this]
set_option maxRecDepth 100000 in
theorem Raw76 (h : getO H rb = some (rdR s big at' r)) (a0 : 0 ≤ at') (a7 : at' ≤ 7) (hl : s.length ≤ 2 ^ 40) (hn : r.nx ≤ s.length) (n : Int) (Q : Value → World → Prop) :
    FW X 76 #[p0 rb, .int .i64 n] H Q = Q (.tuple #[.string (sB (rawR s at' r n).1.1), .int .i64 (rawR s at' r n).1.2]) (setO H rb (rdR s big at' (rawR s at' r n).2)) := by
  refine FW.eqE (by simp [X]) Try.func76 Try.ntmps76 rfl (by simp) ?_ Q
  by_cases hb : 0 ≤ r.bad
  · unfold rawR
    rw [if_pos hb]
    simp [xptr_nil, h, hb]
    exact (set_same h).symm
  · by_cases h0 : n < 0
    · unfold rawR
      rw [if_neg hb, if_pos h0]
      simp [xptr_nil, h, hb, h0]
      exact (set_same h).symm
    · obtain ⟨m, rfl⟩ := Int.eq_ofNat_of_zero_le (Int.not_lt.1 h0)
      have ht := fun Q => take95 h a0 a7 hl hn m 1 (by decide) Q
      simp only [takeR_one] at ht
      simp [xptr_nil, h, hb, h0, ht]
set_option maxRecDepth 100000 in
theorem Bytes75 (h : getO H rb = some (rdR s big at' r)) (a0 : 0 ≤ at') (a7 : at' ≤ 7) (hl : s.length ≤ 2 ^ 40) (hn : r.nx ≤ s.length) (Q : Value → World → Prop) :
    FW X 75 #[p0 rb] H Q = Q (.tuple #[.string (sB (bytesR s at' big r).1.1), .int .i64 (bytesR s at' big r).1.2]) (setO H rb (rdR s big at' (bytesR s at' big r).2)) := by
  refine FW.eqE (by simp [X]) Try.func75 Try.ntmps75 rfl (by simp) ?_ Q
  have ho := fun Q => Long72 h a0 a7 hl hn Q
  have hle := rnum_le (at' := at') (big := big) (n := 4) hn
  have hfour := rnum_n (s := s) (at' := at') (big := big) (r := r) (n := 4)
  have he := rnum_e (s := s) (at' := at') (big := big) (r := r) (n := 4)
  unfold bytesR countR
  rcases hte : rnum s at' big r 4 with ⟨⟨n, e⟩, r2⟩
  rw [hte] at ho hle hfour he
  simp only at ho hle hfour he ⊢
  obtain ⟨g1, _⟩ := set_two (o2 := rdR s big at' r2) (o3 := rdR s big at' r2) h
  have g2 := fun o3 => (set_two (o2 := rdR s big at' r2) (o3 := o3) h).2
  generalize hH2 : setO H rb (rdR s big at' r2) = H2 at *
  rcases he with ⟨rfl, rfl⟩ | rfl
  · simp [ho, hH2]
  · have h4 := hfour rfl
    have w1 : IntKind.i64.wrap (at' + (r2.nx : Int) - 4) = at' + ((r2.nx - 4 : Nat) : Int) := by rw [wrap64' (by omega) (by omega)]; omega
    have hwr := fun Q => Fail96 g1 a0 a7 (r2.nx - 4) (by omega) Q
    have hpl := fun Q => Place30 g1 a0 a7 (by omega) Q
    have hlf := fun Q => Left32 g1 hl hle Q
    by_cases h1 : n < 0
    · simp [h1, ho, hpl, w1, hwr, g2]
    · by_cases h2 : (s.length : Int) - r2.nx < n
      · simp [h1, h2, ho, hpl, w1, hwr, g2, hlf]
      · obtain ⟨m, rfl⟩ := Int.eq_ofNat_of_zero_le (Int.not_lt.1 h1)
        have ht := fun Q => take95 g1 a0 a7 hl hle m 1 (by decide) Q
        simp only [takeR_one] at ht
        simp [h1, h2, ho, hlf, ht, g2]
set_option maxRecDepth 100000 in
theorem Align77 (h : getO H rb = some (rdR s big at' r)) (a0 : 0 ≤ at') (a7 : at' ≤ 7) (hl : s.length ≤ 2 ^ 40) (hn : r.nx ≤ s.length) (size : Int) (Q : Value → World → Prop) :
    FW X 77 #[p0 rb, .int .i64 size] H Q = Q (.int .i64 (alignR s at' r size).1) (setO H rb (rdR s big at' (alignR s at' r size).2)) := by
  refine FW.eqE (by simp [X]) Try.func77 Try.ntmps77 rfl (by simp) ?_ Q
  unfold alignR
  by_cases hb : 0 ≤ r.bad
  · rw [if_pos hb]
    simp [xptr_nil, h, hb]
    exact (set_same h).symm
  · cases hs : sizeW size with
    | false =>
      simp [xptr_nil, h, hb, Size59, hs]
      exact (set_same h).symm
    | true =>
      have ht := fun Q => take95 h a0 a7 hl hn 0 size hs Q
      have e : takeR s at' r 0 size = (([], padE s at' r size), padS s at' r size) := by
        unfold takeR
        rw [if_neg hb]
        rcases padE_or s at' r size with h1 | ⟨h1, h2⟩
        · rw [if_pos h1, h1]
        · have := (padS_le (at' := at') (size := size) hn).1
          rw [if_neg (by rw [h1]; decide), if_neg (by omega), h1]
          simp only [Nat.add_zero, ← h2]
          simp [sliceW]
      simp only [e] at ht
      simp at ht
      simp [xptr_nil, h, hb, Size59, hs, ht]
set_option maxRecDepth 100000 in
theorem Text74 (h : getO H rb = some (rdR s big at' r)) (a0 : 0 ≤ at') (a7 : at' ≤ 7) (hl : s.length ≤ 2 ^ 40) (hn : r.nx ≤ s.length) (Q : Value → World → Prop) :
    FW X 74 #[p0 rb] H Q = Q (.tuple #[.string (sB (textR s at' big r).1.1), .int .i64 (textR s at' big r).1.2]) (setO H rb (rdR s big at' (textR s at' big r).2)) := by
  refine FW.eqE (by simp [X]) Try.func74 Try.ntmps74 rfl (by simp) ?_ Q
  have ho := fun Q => Long72 h a0 a7 hl hn Q
  have hle := rnum_le (at' := at') (big := big) (n := 4) hn
  have hfour := rnum_n (s := s) (at' := at') (big := big) (r := r) (n := 4)
  have he := rnum_e (s := s) (at' := at') (big := big) (r := r) (n := 4)
  unfold textR countR
  rcases hte : rnum s at' big r 4 with ⟨⟨n, e⟩, r2⟩
  rw [hte] at ho hle hfour he
  simp only at ho hle hfour he ⊢
  obtain ⟨g1, _⟩ := set_two (o2 := rdR s big at' r2) (o3 := rdR s big at' r2) h
  have g2 := fun o3 => (set_two (o2 := rdR s big at' r2) (o3 := o3) h).2
  generalize hH2 : setO H rb (rdR s big at' r2) = H2 at *
  rcases he with ⟨rfl, rfl⟩ | rfl
  · simp [ho, hH2]
  · have h4 := hfour rfl
    have w1 : IntKind.i64.wrap (at' + (r2.nx : Int) - 4) = at' + ((r2.nx - 4 : Nat) : Int) := by rw [wrap64' (by omega) (by omega)]; omega
    have hwr := fun Q => Fail96 g1 a0 a7 (r2.nx - 4) (by omega) Q
    have hpl := fun Q => Place30 g1 a0 a7 (by omega) Q
    have hlf := fun Q => Left32 g1 hl hle Q
    by_cases h1 : n < 1
    · simp [h1, ho, hpl, w1, hwr, g2]
    · by_cases h2 : (s.length : Int) - r2.nx < n
      · simp [h1, h2, ho, hpl, w1, hwr, g2, hlf]
      · obtain ⟨m, rfl⟩ : ∃ m : Nat, n = ((m + 1 : Nat) : Int) := ⟨n.toNat - 1, by omega⟩
        have e0 : ¬ ((0 : Int) = 0 ∧ (((m + 1 : Nat) : Int) < 1 ∨ (s.length : Int) - r2.nx < ((m + 1 : Nat) : Int))) := by omega
        rw [if_neg e0]
        simp only [if_true, Int.toNat_natCast]
        unfold tailR
        try rw [show m + 1 - 1 = m by omega]
        have w1 : IntKind.i64.wrap ((r2.nx : Int) + ((m + 1 : Nat) : Int)) = ((r2.nx + (m + 1) : Nat) : Int) := by rw [wrap64' (by omega) (by omega)]; omega
        have w2 : IntKind.i64.wrap (((m + 1 : Nat) : Int) - 1) = (m : Int) := by rw [wrap64' (by omega) (by omega)]; omega
        have w3 : IntKind.i64.wrap (at' + (r2.nx : Int) + ((m + 1 : Nat) : Int)) = at' + (r2.nx : Int) + ((m + 1 : Nat) : Int) := wrap64' (by omega) (by omega)
        have w4 : IntKind.i64.wrap (at' + (r2.nx : Int) + ((m + 1 : Nat) : Int) - 1) = at' + ((r2.nx + m : Nat) : Int) := by rw [wrap64' (by omega) (by omega)]; omega
        have hs1 := slice_mid s (a := r2.nx) (b := r2.nx + (m + 1)) (by omega) (by omega)
        rw [show r2.nx + (m + 1) - r2.nx = m + 1 by omega] at hs1
        have hsl : (sliceW s r2.nx (m + 1)).length = m + 1 := sliceW_len (by omega)
        have hs2 := slice_beg (sliceW s r2.nx (m + 1)) (b := m) (by omega)
        rw [sliceW_take _ _ _ (by omega)] at hs2
        have htl : (sliceW s r2.nx m).length = m := sliceW_len (by omega)
        have h88 := Zero88 (sliceW s r2.nx (m + 1)) (by omega)
        have hzz : zeroW (sliceW s r2.nx m) = min m (zeroW (sliceW s r2.nx (m + 1))) := by
          rw [← sliceW_take s r2.nx (m + 1) (m := m) (by omega)]
          unfold zeroW
          rw [List.findIdx_take]
        have hin : r2.nx + m < s.length := by omega
        have hget : (sliceW s r2.nx (m + 1))[m]? = some (s[r2.nx + m]'hin) := by rw [sliceW_get _ _ _ _ (by omega), List.getElem?_eq_getElem hin]
        rw [List.getElem?_eq_getElem hin]
        have hnx : ((m + 1 : Nat) : Int) ≥ 1 := by omega
        generalize hX : ((m + 1 : Nat) : Int) = X1 at *
        generalize hN : r2.nx + (m + 1) = N at *
        have hpl' := fun Q => Place30 g1 a0 a7 (by omega) Q
        by_cases hz : zeroW (sliceW s r2.nx m) < m
        · have hz2 : zeroW (sliceW s r2.nx (m + 1)) < m := by omega
          have hz3 : zeroW (sliceW s r2.nx m) = zeroW (sliceW s r2.nx (m + 1)) := by omega
          rw [hz3]
          generalize sliceW s r2.nx (m + 1) = S1 at *
          generalize sliceW s r2.nx m = S2 at *
          have w5 : IntKind.i64.wrap (at' + (r2.nx : Int) + (zeroW S1 : Int)) = at' + ((r2.nx + zeroW S1 : Nat) : Int) := by rw [wrap64' (by omega) (by omega)]; omega
          have hwr := fun Q => Fail96 g1 a0 a7 (r2.nx + zeroW S1) (by omega) Q
          rw [if_pos hz2]
          generalize zeroW S1 = z at *
          generalize r2.nx + z = y at *
          simp [h1, h2, ho, hlf]
          refine WP.draw0 (by decide +kernel) (by decide +kernel) ?_
          simp [g1, w1, w2, hs1, hs2, h88, w5, hz2, hpl', hwr, g2]
        · have hz2 : ¬ zeroW (sliceW s r2.nx (m + 1)) < m := by omega
          rw [if_neg hz]
          generalize sliceW s r2.nx (m + 1) = S1 at *
          generalize sliceW s r2.nx m = S2 at *
          simp [h1, h2, ho, hlf]
          refine WP.draw0 (by decide +kernel) (by decide +kernel) ?_
          by_cases hc : s[r2.nx + m] = 0
          · rw [hc] at hget
            have lt' := getO_lt g1
            simp [hc, g1, w1, w2, hs1, hs2, h88, hz2, hget, overL, lt', g2]
          · have hc' : ¬ (s[r2.nx + m]).toNat = 0 := fun e => hc (UInt8.toNat_inj.1 (by simpa using e))
            have hwr := fun Q => Fail96 g1 a0 a7 (r2.nx + m) (by omega) Q
            have hN2 : N - 1 = r2.nx + m := by omega
            rw [if_neg (by simpa using hc)]
            generalize s[r2.nx + m] = c at *
            generalize hy : r2.nx + m = y at *
            simp [g1, w1, w2, hs1, hs2, h88, hz2, hget, hc', w3, w4, hpl', hwr, g2, hN2]
end
end Go.Proofs.Ytcllchaboahlfaa
end
