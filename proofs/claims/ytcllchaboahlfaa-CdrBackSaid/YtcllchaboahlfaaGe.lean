/- Helpers of this claim: an evaluator over plain values and its laws. -/
import Derived.Test.YtcllchaboahlfaaGd
section
set_option linter.unusedVariables false
set_option linter.unusedSimpArgs false
namespace Go.Proofs.Ytcllchaboahlfaa
open Go Go.Proofs.Ytcllchaboahlfaa.Den
/-! ### what reading acts tell -/
abbrev RN := (Int × Int) × RS
abbrev RT := (List UInt8 × Int) × RS
def octR (s : List UInt8) (at' : Int) (r : RS) : RN := ((if (takeR s at' r 1 1).1.2 = 0 then (((takeR s at' r 1 1).1.1.headD 0).toNat : Int) else 0, (takeR s at' r 1 1).1.2), (takeR s at' r 1 1).2)
def flagR (s : List UInt8) (at' : Int) (r : RS) : (Bool × Int) × RS := if (octR s at' r).1.2 = 0 ∧ 1 < (octR s at' r).1.1 then ((false, 12), failR at' ((octR s at' r).2.nx - 1)) else ((decide ((octR s at' r).1.1 = 1), (octR s at' r).1.2), (octR s at' r).2)
def countR (s : List UInt8) (at' : Int) (big : Bool) (r : RS) (least : Int) : RN := if (rnum s at' big r 4).1.2 = 0 ∧ ((rnum s at' big r 4).1.1 < least ∨ (s.length : Int) - (rnum s at' big r 4).2.nx < (rnum s at' big r 4).1.1) then ((0, 12), failR at' ((rnum s at' big r 4).2.nx - 4)) else rnum s at' big r 4
def rawR (s : List UInt8) (at' : Int) (r : RS) (n : Int) : RT := if 0 ≤ r.bad then (([], 12), r) else if n < 0 then (([], 7), r) else if (s.length : Int) - r.nx < n then (([], 12), failR at' s.length) else ((sliceW s r.nx n.toNat, 0), ⟨r.nx + n.toNat, r.bad⟩)
def bytesR (s : List UInt8) (at' : Int) (big : Bool) (r : RS) : RT := if (countR s at' big r 0).1.2 = 0 then rawR s at' (countR s at' big r 0).2 (countR s at' big r 0).1.1 else (([], (countR s at' big r 0).1.2), (countR s at' big r 0).2)
/-- A text of n bytes with its zero. -/
def tailR (s : List UInt8) (at' : Int) (r : RS) (n : Nat) : RT :=
  if zeroW (sliceW s r.nx (n - 1)) < n - 1 then (([], 12), failR at' (r.nx + zeroW (sliceW s r.nx (n - 1))))
  else if s[r.nx + (n - 1)]? = some 0 then ((sliceW s r.nx (n - 1), 0), ⟨r.nx + n, r.bad⟩) else (([], 12), failR at' (r.nx + n - 1))
def textR (s : List UInt8) (at' : Int) (big : Bool) (r : RS) : RT := if (countR s at' big r 1).1.2 = 0 then tailR s at' (countR s at' big r 1).2 (countR s at' big r 1).1.1.toNat else (([], (countR s at' big r 1).1.2), (countR s at' big r 1).2)
def alignR (s : List UInt8) (at' : Int) (r : RS) (size : Int) : Int × RS := if 0 ≤ r.bad then (12, r) else if sizeW size = true then (padE s at' r size, padS s at' r size) else (7, r)
theorem and255 (big : Bool) (b : UInt8) : IntKind.i64.wrap (BitVec.ofInt IntKind.i64.bits (sgnW big [b]) &&& BitVec.ofInt IntKind.i64.bits 255).toNat = (b.toNat : Int) := by
  have key : ∀ n : Nat, n < 256 → IntKind.i64.wrap (BitVec.ofInt 64 ((IntKind.i64.wrap (IntKind.u64.wrap ((n : Int) * 2 ^ 56))).fdiv (2 ^ 56)) &&& BitVec.ofInt 64 255).toNat = (n : Int) := by decide +kernel
  have h := key b.toNat b.toNat_lt
  have e : sgnW big [b] = (IntKind.i64.wrap (IntKind.u64.wrap ((b.toNat : Int) * 2 ^ 56))).fdiv (2 ^ 56) := by
    unfold sgnW lowF
    cases big <;> simp [leV]
  rw [e]
  exact h
theorem and_bin {t : TypeId} {x y : Operand} {n m : Int} {H : World} (h : IntKind.i64.wrap (BitVec.ofInt IntKind.i64.bits n &&& BitVec.ofInt IntKind.i64.bits 255).toNat = m) : binX Try.prog .and t x y (.int .i64 n) (.int .i64 255) H = some (.value (.int .i64 m), H) := by rw [bX_and, h]
/-- Where a reader stands: nothing is wrong, or its place is the wrong one. -/
theorem takeR_le {s : List UInt8} {at' : Int} {r : RS} {n : Nat} {size : Int} (hn : r.nx ≤ s.length) : (takeR s at' r n size).2.nx ≤ s.length := by
  unfold takeR
  split
  · exact hn
  · split
    · exact (padS_le hn).1
    · split
      · exact Nat.le_refl _
      · simp only; omega
theorem rnum_le {s : List UInt8} {at' : Int} {big : Bool} {r : RS} {n : Nat} (hn : r.nx ≤ s.length) : (rnum s at' big r n).2.nx ≤ s.length := takeR_le hn
theorem octR_le {s : List UInt8} {at' : Int} {r : RS} (hn : r.nx ≤ s.length) : (octR s at' r).2.nx ≤ s.length := takeR_le hn
theorem countR_le {s : List UInt8} {at' : Int} {big : Bool} {r : RS} {least : Int} (hn : r.nx ≤ s.length) : (countR s at' big r least).2.nx ≤ s.length := by
  have := rnum_le (at' := at') (big := big) (n := 4) hn
  unfold countR
  split
  · show (rnum s at' big r 4).2.nx - 4 ≤ _; omega
  · exact this
section
variable {H : World} {rb : Nat} {s : List UInt8} {big : Bool} {at' : Int} {r : RS}
set_option maxRecDepth 100000 in
theorem Octet62 (h : getO H rb = some (rdP s big at' r)) (a0 : 0 ≤ at') (a7 : at' ≤ 7) (hl : s.length ≤ 2 ^ 40) (hn : r.nx ≤ s.length) {Q : Value → World → Prop}
    (hq : ∀ H', getO H' rb = some (rdP s big at' (octR s at' r).2) → FrB H H' rb → Q (.tuple #[.int .i64 (octR s at' r).1.1, .int .i64 (octR s at' r).1.2]) H') : FW X 62 #[p0 rb] H Q := by
  refine FW.walk (by simp [X]) Try.func62 Try.ntmps62 rfl (by simp) ?_
  simp
  refine number94 (size := 1) h a0 a7 hl hn (.inl rfl) fun H' h' fr => ?_
  have herr := takeR_err (s := s) (at' := at') (r := r) (n := 1) (size := 1)
  have hr1 : rnum s at' big r 1 = ((if (takeR s at' r 1 1).1.2 = 0 then sgnW big (takeR s at' r 1 1).1.1 else 0, (takeR s at' r 1 1).1.2), (takeR s at' r 1 1).2) := rfl
  unfold octR at hq
  rw [hr1] at h' ⊢
  rcases hte : takeR s at' r 1 1 with ⟨⟨b, e⟩, r2⟩
  rw [hte] at hq herr h'
  simp only at hq herr h' ⊢
  rcases herr with h1 | ⟨h1, h2, h3, h4, _⟩
  · subst h1
    have hand := fun {t x y H} => and_bin (t := t) (x := x) (y := y) (n := 0) (m := 0) (H := H) (by decide)
    simp at hq
    simp [-bX_and, hand]
    exact hq _ h' fr
  · subst h1
    have hbl : b.length = 1 := by rw [h2, sliceW_len h3]
    obtain ⟨x, rfl⟩ : ∃ x, b = [x] := by
      match b, hbl with
      | [x], _ => exact ⟨x, rfl⟩
    have hand := fun {t x' y' H} => and_bin (t := t) (x := x') (y := y') (H := H) (and255 big x)
    simp at hq
    simp [-bX_and, hand]
    exact hq _ h' fr
end
end Go.Proofs.Ytcllchaboahlfaa
end
