/- Helpers of this claim: an evaluator over plain values and its laws. -/
import Derived.Test.YtcllchaboahlfaaGb
section
set_option linter.unusedVariables false
set_option linter.unusedSimpArgs false
namespace Go.Proofs.Ytcllchaboahlfaa
open Go Go.Proofs.Ytcllchaboahlfaa.Den
/-! ### readers -/
structure RS where
  nx : Nat
  bad : Int
def failR (at' : Int) (i : Nat) : RS := ⟨i, at' + i⟩
def skipW (s : List UInt8) : Nat → Nat → Nat × Bool
  | 0, nx => (nx, false)
  | k + 1, nx => if s[nx]? = some 0 then skipW s k (nx + 1) else (nx, true)
def padR (at' : Int) (nx : Nat) (size : Int) : Nat := (padW (at' + nx) size).toNat
abbrev rdP (s : List UInt8) (big : Bool) (at' : Int) (r : RS) : Obj := .cells #[.bool big, .int .i64 at', .string (sB s), .int .i64 r.nx, .int .i64 r.bad] 81 (0, 0)
abbrev rdR (s : List UInt8) (big : Bool) (at' : Int) (r : RS) : Obj := .cells #[.string (sB s), .bool big, .int .i64 at', .int .i64 r.nx, .int .i64 r.bad] 83 (0, 0)
theorem skipW_le (s : List UInt8) : ∀ (k nx : Nat), nx ≤ s.length → (skipW s k nx).1 ≤ s.length ∧ nx ≤ (skipW s k nx).1
  | 0, nx, h => ⟨h, Nat.le_refl _⟩
  | k + 1, nx, h => by
    unfold skipW
    split
    · rename_i h0
      have hlt := (List.getElem?_eq_some_iff.1 h0).1
      have := skipW_le s k (nx + 1) hlt
      exact ⟨this.1, by omega⟩
    · exact ⟨h, Nat.le_refl _⟩
theorem rptr_nil (b : Nat) {x y : Operand} {H : World} : binX Try.prog .eql 47 x y (p0 b) (.pointer none) H = some (.value (.bool false), H) := (bX_ptr_nil Try.underlying47).1
theorem xptr_nil (b : Nat) {x y : Operand} {H : World} : binX Try.prog .eql 49 x y (p0 b) (.pointer none) H = some (.value (.bool false), H) := (bX_ptr_nil Try.underlying49).1
theorem rnil_nil {x y : Operand} {H : World} : binX Try.prog .eql 47 x y (.pointer none) (.pointer none) H = some (.value (.bool true), H) := bX_ptr_nil2 Try.underlying47
section
variable {H : World} {rb : Nat} {s : List UInt8} {big : Bool} {at' : Int} {r : RS}
set_option maxRecDepth 100000 in
theorem wrong80 (h : getO H rb = some (rdP s big at' r)) (a0 : 0 ≤ at') (a7 : at' ≤ 7) (i : Nat) (hi : i ≤ 2 ^ 40) (Q : Value → World → Prop) : FW X 80 #[p0 rb, .int .i64 i] H Q = Q (.int .i64 12) (setO H rb (rdP s big at' (failR at' i))) := by
  refine FW.eqE (by simp [X]) Try.func80 Try.ntmps80 rfl (by simp) ?_ Q
  have lt := getO_lt h
  have w : IntKind.i64.wrap (at' + (i : Int)) = at' + (i : Int) := wrap64' (by omega) (by omega)
  simp [h, lt, overL, w, failR]
set_option maxRecDepth 100000 in
theorem Fail96 (h : getO H rb = some (rdR s big at' r)) (a0 : 0 ≤ at') (a7 : at' ≤ 7) (i : Nat) (hi : i ≤ 2 ^ 40) (Q : Value → World → Prop) : FW X 96 #[p0 rb, .int .i64 (at' + i)] H Q = Q (.int .i64 12) (setO H rb (rdR s big at' (failR at' i))) := by
  refine FW.eqE (by simp [X]) Try.func96 Try.ntmps96 rfl (by simp) ?_ Q
  have lt := getO_lt h
  have w : IntKind.i64.wrap (at' + (i : Int) - at') = (i : Int) := by rw [wrap64' (by omega) (by omega)]; omega
  simp [h, lt, overL, w, failR]
set_option maxRecDepth 100000 in
theorem ready81 (h : getO H rb = some (rdP s big at' r)) (Q : Value → World → Prop) : FW X 81 #[p0 rb] H Q = Q (.int .i64 (if 0 ≤ r.bad then 12 else 0)) H := by
  refine FW.eqE (by simp [X]) Try.func81 Try.ntmps81 rfl (by simp) ?_ Q
  by_cases hb : 0 ≤ r.bad <;> simp [rptr_nil, h, hb]
set_option maxRecDepth 100000 in
theorem Place29 (h : getO H rb = some (rdP s big at' r)) (a0 : 0 ≤ at') (a7 : at' ≤ 7) (hn : r.nx ≤ 2 ^ 40) (Q : Value → World → Prop) : FW X 29 #[p0 rb] H Q = Q (.int .i64 (at' + r.nx)) H := by
  refine FW.eqE (by simp [X]) Try.func29 Try.ntmps29 rfl (by simp) ?_ Q
  have w : IntKind.i64.wrap (at' + (r.nx : Int)) = at' + (r.nx : Int) := wrap64' (by omega) (by omega)
  simp [rptr_nil]
  refine WP.draw0 (by decide +kernel) (by decide +kernel) ?_
  simp [h, w]
set_option maxRecDepth 100000 in
theorem Place30 (h : getO H rb = some (rdR s big at' r)) (a0 : 0 ≤ at') (a7 : at' ≤ 7) (hn : r.nx ≤ 2 ^ 40) (Q : Value → World → Prop) : FW X 30 #[p0 rb] H Q = Q (.int .i64 (at' + r.nx)) H := by
  refine FW.eqE (by simp [X]) Try.func30 Try.ntmps30 rfl (by simp) ?_ Q
  have w : IntKind.i64.wrap (at' + (r.nx : Int)) = at' + (r.nx : Int) := wrap64' (by omega) (by omega)
  simp [xptr_nil]
  refine WP.draw0 (by decide +kernel) (by decide +kernel) ?_
  simp [h, w]
set_option maxRecDepth 100000 in
theorem Left31 (h : getO H rb = some (rdP s big at' r)) (hl : s.length ≤ 2 ^ 40) (hn : r.nx ≤ s.length) (Q : Value → World → Prop) : FW X 31 #[p0 rb] H Q = Q (.int .i64 ((s.length : Int) - r.nx)) H := by
  refine FW.eqE (by simp [X]) Try.func31 Try.ntmps31 rfl (by simp) ?_ Q
  have w : IntKind.i64.wrap ((s.length : Int) - (r.nx : Int)) = (s.length : Int) - (r.nx : Int) := wrap64' (by omega) (by omega)
  simp [rptr_nil]
  refine WP.draw0 (by decide +kernel) (by decide +kernel) ?_
  simp [h, w]
set_option maxRecDepth 100000 in
theorem Left32 (h : getO H rb = some (rdR s big at' r)) (hl : s.length ≤ 2 ^ 40) (hn : r.nx ≤ s.length) (Q : Value → World → Prop) : FW X 32 #[p0 rb] H Q = Q (.int .i64 ((s.length : Int) - r.nx)) H := by
  refine FW.eqE (by simp [X]) Try.func32 Try.ntmps32 rfl (by simp) ?_ Q
  have w : IntKind.i64.wrap ((s.length : Int) - (r.nx : Int)) = (s.length : Int) - (r.nx : Int) := wrap64' (by omega) (by omega)
  simp [xptr_nil]
  refine WP.draw0 (by decide +kernel) (by decide +kernel) ?_
  simp [h, w]
set_option maxRecDepth 100000 in
theorem Bad33 (h : getO H rb = some (rdP s big at' r)) (Q : Value → World → Prop) : FW X 33 #[p0 rb] H Q = Q (.int .i64 r.bad) H := by
  refine FW.eqE (by simp [X]) Try.func33 Try.ntmps33 rfl (by simp) ?_ Q
  simp [rptr_nil, h]
set_option maxRecDepth 100000 in
theorem Bad34 (h : getO H rb = some (rdR s big at' r)) (Q : Value → World → Prop) : FW X 34 #[p0 rb] H Q = Q (.int .i64 r.bad) H := by
  refine FW.eqE (by simp [X]) Try.func34 Try.ntmps34 rfl (by simp) ?_ Q
  simp [xptr_nil, h]
set_option maxRecDepth 100000 in
theorem End102 (h : getO H rb = some (rdR s big at' r)) (a0 : 0 ≤ at') (a7 : at' ≤ 7) (hl : s.length ≤ 2 ^ 40) (Q : Value → World → Prop) : FW X 102 #[p0 rb] H Q = Q (.int .i64 (at' + s.length)) H := by
  refine FW.eqE (by simp [X]) Try.func102 Try.ntmps102 rfl (by simp) ?_ Q
  have w : IntKind.i64.wrap (at' + (s.length : Int)) = at' + (s.length : Int) := wrap64' (by omega) (by omega)
  simp
  refine WP.draw0 (by decide +kernel) (by decide +kernel) ?_
  simp [h, w]
theorem pad_of {at' : Int} (a0 : 0 ≤ at') {nx : Nat} {size : Int} (hs : sizeW size = true) : padOk (at' + nx) size = true ∧ padW (at' + nx) size = ((padR at' nx size : Nat) : Int) ∧ padR at' nx size < 8 := by
  obtain ⟨q1, q2, q3⟩ := padW_nat (place := at' + nx) hs (by omega)
  refine ⟨by simp [padOk, hs]; omega, by unfold padR; omega, by unfold padR; omega⟩
def padS (s : List UInt8) (at' : Int) (r : RS) (size : Int) : RS := if (skipW s (padR at' r.nx size) r.nx).2 = true then failR at' (skipW s (padR at' r.nx size) r.nx).1 else ⟨(skipW s (padR at' r.nx size) r.nx).1, r.bad⟩
def padE (s : List UInt8) (at' : Int) (r : RS) (size : Int) : Int := if (skipW s (padR at' r.nx size) r.nx).2 = true then 12 else 0
set_option maxRecDepth 100000 in
theorem pad82 (h : getO H rb = some (rdP s big at' r)) (a0 : 0 ≤ at') (a7 : at' ≤ 7) (hl : s.length ≤ 2 ^ 40) (hn : r.nx ≤ s.length) (size : Int) (hs : sizeW size = true) (Q : Value → World → Prop) :
    FW X 82 #[p0 rb, .int .i64 size] H Q = Q (.int .i64 (padE s at' r size)) (setO H rb (rdP s big at' (padS s at' r size))) := by
  refine FW.eqE (by simp [X]) Try.func82 Try.ntmps82 rfl (by simp) ?_ Q
  obtain ⟨p1, p2, p3⟩ := pad_of a0 (nx := r.nx) hs
  have hp := padding58 (at' + r.nx) size (by omega)
  rw [p1, if_pos rfl, p2] at hp
  have lt := getO_lt h
  unfold padE padS
  generalize padR at' r.nx size = n at *
  simp [Place29 h a0 a7 (by omega), hp]
  refine CE.range (m := n) (fun k e H' => lk e 0 = p0 rb ∧ lk e 5 = .func (.func 80) #[p0 rb] #[] ∧ H' = setO H rb (rdP s big at' ⟨r.nx + k, r.bad⟩) ∧ r.nx + k ≤ s.length ∧ skipW s n r.nx = skipW s (n - k) (r.nx + k)) ?_ (by omega) ?_ ?_ ?_
  · decide
  · simp
    exact ⟨(set_same h).symm, hn⟩
  · rintro k e H' hk h1 h2 ⟨h3, h4, rfl, h5, h6⟩
    have hg : getO (setO H rb (rdP s big at' ⟨r.nx + k, r.bad⟩)) rb = some (rdP s big at' ⟨r.nx + k, r.bad⟩) := by rw [get_set, if_pos rfl, if_pos lt]
    have hnk : n - k = (n - (k + 1)) + 1 := by omega
    rw [hnk] at h6
    have hsk : skipW s (n - (k + 1) + 1) (r.nx + k) = if s[r.nx + k]? = some 0 then skipW s (n - (k + 1)) (r.nx + k + 1) else (r.nx + k, true) := rfl
    rw [hsk] at h6
    generalize hy : r.nx + k = y at *
    generalize hHy : setO H rb (rdP s big at' ⟨y, r.bad⟩) = Hy at *
    have hset : ∀ r2, setO Hy rb (rdP s big at' r2) = setO H rb (rdP s big at' r2) := fun r2 => by rw [← hHy, set_set]
    have lty := getO_lt hg
    have hwr := fun Q => wrong80 hg a0 a7 y (by omega) Q
    rw [hset] at hwr
    simp [h1, h2, h3, h4]
    refine WP.draw0 (by decide +kernel) (by decide +kernel) ?_
    by_cases hyl : y = s.length
    · have hn0 : s[y]? = none := List.getElem?_eq_none (by omega)
      rw [hn0, if_neg (by simp)] at h6
      rw [h6]
      have hyl' : (y : Int) = (s.length : Int) := by omega
      have hwr' := fun Q => hwr Q
      rw [hyl] at hwr'
      simp [h3, h4, hg, hyl', hwr']
      rw [hyl]
    · have hylt : y < s.length := by omega
      have hyl' : ¬ (y : Int) = (s.length : Int) := by omega
      rw [List.getElem?_eq_getElem hylt] at h6
      simp [h3, h4, hg, hyl']
      refine WP.draw0 (by decide +kernel) (by decide +kernel) ?_
      by_cases h0 : s[y] = 0
      · rw [h0, if_pos rfl] at h6
        have hw : IntKind.i64.wrap ((y : Int) + 1) = ((y + 1 : Nat) : Int) := by rw [wrap64' (by omega) (by omega)]; omega
        simp [h1, h2, h3, h4, hg, hylt, h0, hw, lty, overL]
        have e1 : r.nx + (k + 1) = y + 1 := by omega
        rw [e1]
        exact ⟨by rw [← hset]; rfl, by omega, h6⟩
      · rw [if_neg (by simpa using h0)] at h6
        have h0' : ¬ s[y].toNat = 0 := fun e => h0 (UInt8.toNat_inj.1 (by simpa using e))
        rw [h6]
        simp [h3, h4, hg, hylt, h0', hwr]
  · rintro e H' h1 h2 ⟨h3, h4, rfl, h5, h6⟩
    rw [Nat.sub_self] at h6
    have : skipW s 0 (r.nx + n) = (r.nx + n, false) := rfl
    rw [this] at h6
    rw [h6]
    simp
set_option maxRecDepth 100000 in
theorem skip101 (h : getO H rb = some (rdR s big at' r)) (a0 : 0 ≤ at') (a7 : at' ≤ 7) (hl : s.length ≤ 2 ^ 40) (hn : r.nx ≤ s.length) (size : Int) (hs : sizeW size = true) (Q : Value → World → Prop) :
    FW X 101 #[p0 rb, .int .i64 size] H Q = Q (.int .i64 (padE s at' r size)) (setO H rb (rdR s big at' (padS s at' r size))) := by
  refine FW.eqE (by simp [X]) Try.func101 Try.ntmps101 rfl (by simp) ?_ Q
  obtain ⟨p1, p2, p3⟩ := pad_of a0 (nx := r.nx) hs
  have hp := Pad22 (at' + r.nx) size (by omega)
  rw [p1, if_pos rfl, if_pos rfl, p2] at hp
  have lt := getO_lt h
  unfold padE padS
  generalize padR at' r.nx size = n at *
  simp [Place30 h a0 a7 (by omega), hp]
  refine CE.range (m := n) (fun k e H' => lk e 0 = p0 rb ∧ H' = setO H rb (rdR s big at' ⟨r.nx + k, r.bad⟩) ∧ r.nx + k ≤ s.length ∧ skipW s n r.nx = skipW s (n - k) (r.nx + k)) ?_ (by omega) ?_ ?_ ?_
  · decide
  · simp
    exact ⟨(set_same h).symm, hn⟩
  · rintro k e H' hk h1 h2 ⟨h3, rfl, h5, h6⟩
    have hg : getO (setO H rb (rdR s big at' ⟨r.nx + k, r.bad⟩)) rb = some (rdR s big at' ⟨r.nx + k, r.bad⟩) := by rw [get_set, if_pos rfl, if_pos lt]
    have hnk : n - k = (n - (k + 1)) + 1 := by omega
    rw [hnk] at h6
    have hsk : skipW s (n - (k + 1) + 1) (r.nx + k) = if s[r.nx + k]? = some 0 then skipW s (n - (k + 1)) (r.nx + k + 1) else (r.nx + k, true) := rfl
    rw [hsk] at h6
    generalize hy : r.nx + k = y at *
    generalize hHy : setO H rb (rdR s big at' ⟨y, r.bad⟩) = Hy at *
    have hset : ∀ r2, setO Hy rb (rdR s big at' r2) = setO H rb (rdR s big at' r2) := fun r2 => by rw [← hHy, set_set]
    have lty := getO_lt hg
    have hwr := fun Q => Fail96 hg a0 a7 y (by omega) Q
    rw [hset] at hwr
    have hpl := fun Q => Place30 hg a0 a7 (by show y ≤ _; omega) Q
    simp [h1, h2, h3]
    refine WP.draw0 (by decide +kernel) (by decide +kernel) ?_
    by_cases hyl : y = s.length
    · have hn0 : s[y]? = none := List.getElem?_eq_none (by omega)
      rw [hn0, if_neg (by simp)] at h6
      rw [h6]
      have hyl' : (s.length : Int) ≤ (y : Int) := by omega
      have hwr' := fun Q => hwr Q
      rw [hyl] at hwr'
      have hend := fun Q => End102 hg a0 a7 hl Q
      simp [h3, hg, hyl', hend, hwr']
      rw [hyl]
    · have hylt : y < s.length := by omega
      have hyl' : ¬ (s.length : Int) ≤ (y : Int) := by omega
      rw [List.getElem?_eq_getElem hylt] at h6
      simp [h3, hg, hyl']
      refine WP.draw0 (by decide +kernel) (by decide +kernel) ?_
      by_cases h0 : s[y] = 0
      · rw [h0, if_pos rfl] at h6
        have hw : IntKind.i64.wrap ((y : Int) + 1) = ((y + 1 : Nat) : Int) := by rw [wrap64' (by omega) (by omega)]; omega
        simp [h1, h2, h3, hg, hylt, h0, hw, lty, overL]
        have e1 : r.nx + (k + 1) = y + 1 := by omega
        rw [e1]
        exact ⟨by rw [← hset]; rfl, by omega, h6⟩
      · rw [if_neg (by simpa using h0)] at h6
        have h0' : ¬ s[y].toNat = 0 := fun e => h0 (UInt8.toNat_inj.1 (by simpa using e))
        rw [h6]
        simp [h3, hg, hylt, h0', hpl, hwr]
  · rintro e H' h1 h2 ⟨h3, rfl, h5, h6⟩
    rw [Nat.sub_self] at h6
    have : skipW s 0 (r.nx + n) = (r.nx + n, false) := rfl
    rw [this] at h6
    rw [h6]
    simp
def sliceW (s : List UInt8) (i n : Nat) : List UInt8 := (s.drop i).take n
/-- take, from where nothing is wrong yet. -/
def takeR (s : List UInt8) (at' : Int) (r : RS) (n : Nat) (size : Int) : (List UInt8 × Int) × RS :=
  if 0 ≤ r.bad then (([], 12), r) else if padE s at' r size = 12 then (([], 12), padS s at' r size)
  else if s.length < (padS s at' r size).nx + n then (([], 12), failR at' s.length) else ((sliceW s (padS s at' r size).nx n, 0), ⟨(padS s at' r size).nx + n, r.bad⟩)
theorem padE_or (s : List UInt8) (at' : Int) (r : RS) (size : Int) : (padE s at' r size = 12) ∨ (padE s at' r size = 0 ∧ (padS s at' r size).bad = r.bad) := by
  unfold padE padS
  split
  · exact .inl rfl
  · exact .inr ⟨rfl, rfl⟩
theorem padS_le {s : List UInt8} {at' : Int} {r : RS} {size : Int} (hn : r.nx ≤ s.length) : (padS s at' r size).nx ≤ s.length ∧ r.nx ≤ (padS s at' r size).nx := by
  have := skipW_le s (padR at' r.nx size) r.nx hn
  unfold padS
  split
  · exact this
  · exact this
set_option maxRecDepth 100000 in
theorem take95 (h : getO H rb = some (rdR s big at' r)) (a0 : 0 ≤ at') (a7 : at' ≤ 7) (hl : s.length ≤ 2 ^ 40) (hn : r.nx ≤ s.length) (n : Nat) (size : Int) (hs : sizeW size = true) (Q : Value → World → Prop) :
    FW X 95 #[p0 rb, .int .i64 n, .int .i64 size] H Q = Q (.tuple #[.string (sB (takeR s at' r n size).1.1), .int .i64 (takeR s at' r n size).1.2]) (setO H rb (rdR s big at' (takeR s at' r n size).2)) := by
  refine FW.eqE (by simp [X]) Try.func95 Try.ntmps95 rfl (by simp) ?_ Q
  have lt := getO_lt h
  by_cases hb : 0 ≤ r.bad
  · have e1 : takeR s at' r n size = (([], 12), r) := if_pos hb
    rw [e1]
    simp [xptr_nil, h, hb]
    exact (set_same h).symm
  · have hsk := fun Q => skip101 h a0 a7 hl hn size hs Q
    obtain ⟨l1, l2⟩ := padS_le (at' := at') (size := size) hn
    have hg : getO (setO H rb (rdR s big at' (padS s at' r size))) rb = some (rdR s big at' (padS s at' r size)) := by rw [get_set, if_pos rfl, if_pos lt]
    have hset : ∀ r2, setO (setO H rb (rdR s big at' (padS s at' r size))) rb (rdR s big at' r2) = setO H rb (rdR s big at' r2) := fun r2 => set_set _ _ _
    rcases padE_or s at' r size with e0 | ⟨e0, e3⟩
    · have e1 : takeR s at' r n size = (([], 12), padS s at' r size) := by unfold takeR; rw [if_neg hb, if_pos e0]
      rw [e1]
      rw [e0] at hsk
      simp [xptr_nil, h, hb, hsk]
    · rw [e0] at hsk
      have e2 : takeR s at' r n size = if s.length < (padS s at' r size).nx + n then (([], 12), failR at' s.length) else ((sliceW s (padS s at' r size).nx n, 0), ⟨(padS s at' r size).nx + n, r.bad⟩) := by
        unfold takeR; rw [if_neg hb, if_neg (by rw [e0]; simp)]
      rw [e2]
      generalize padS s at' r size = r2 at *
      generalize hH2 : setO H rb (rdR s big at' r2) = H2 at *
      simp [xptr_nil, h, hb, hsk]
      refine WP.draw0 (by decide +kernel) (by decide +kernel) ?_
      have w1 : IntKind.i64.wrap ((s.length : Int) - (r2.nx : Int)) = (s.length : Int) - (r2.nx : Int) := wrap64' (by omega) (by omega)
      by_cases hlt : s.length < r2.nx + n
      · have hlt' : (s.length : Int) - (r2.nx : Int) < (n : Int) := by omega
        have hend := fun Q => End102 hg a0 a7 hl Q
        have hf := fun Q => Fail96 hg a0 a7 s.length hl Q
        rw [hset] at hf
        rw [if_pos hlt]
        simp [hg, w1, hlt', hend, hf]
      · have hlt' : ¬ (s.length : Int) - (r2.nx : Int) < (n : Int) := by omega
        rw [if_neg hlt]
        have w2 : IntKind.i64.wrap ((r2.nx : Int) + (n : Int)) = ((r2.nx + n : Nat) : Int) := by rw [wrap64' (by omega) (by omega)]; omega
        have lt2 := getO_lt hg
        have hsl : sliceX Try.prog 9 (.string (sB s)) (some (.int .i64 r2.nx)) (some (.int .i64 ((r2.nx : Int) + (n : Int)))) none H2 = some (.value (.string (sB (sliceW s r2.nx n))), H2) := by
          have := slice_str (P := Try.prog) (t := 9) (l := s) (lo := some (.int .i64 r2.nx)) (hi := some (.int .i64 ((r2.nx : Int) + (n : Int)))) (h := r2.nx + n) (b := r2.nx) (H := H2) Try.underlying9 (by simp [vBound]; omega) (by simp [vBound]; omega)
          rw [this]
          unfold sliceW
          rw [List.drop_take, show r2.nx + n - r2.nx = n by omega]
        simp [hg, w1, hlt']
        refine WP.draw0 (by decide +kernel) (by decide +kernel) ?_
        simp [hg, w2, hsl, lt2, overL]
        rw [← hset, ← e3]; rfl
end
end Go.Proofs.Ytcllchaboahlfaa
end
