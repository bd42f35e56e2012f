/- Helpers of this claim: an evaluator over plain values and its laws. -/
import Derived.Test.YtcllchaboahlfaaGa
section
set_option linter.unusedVariables false
set_option linter.unusedSimpArgs false
namespace Go.Proofs.Ytcllchaboahlfaa
open Go Go.Proofs.Ytcllchaboahlfaa.Den
theorem shl8 {a : Nat} (h : a < 2 ^ 56) {t : TypeId} {x y : Operand} {k : IntKind} {H : World} : binX Try.prog .shl t x y (.int .u64 (a : Int)) (.int k 8) H = some (.value (.int .u64 ((a * 256 : Nat) : Int)), H) := by
  rw [bX_shl (by omega)]
  have e : (a : Int) * 2 ^ (min (Int.toNat 8) IntKind.u64.bits) = ((a * 256 : Nat) : Int) := by
    have : min (Int.toNat 8) IntKind.u64.bits = 8 := rfl
    rw [this]; omega
  rw [e, wrap_u64 (by omega)]
theorem or_bin {a b : Nat} (ha : a < 2 ^ 64) (hb : b < 2 ^ 64) {t : TypeId} {x y : Operand} {H : World} : binX Try.prog .or t x y (.int .u64 (a : Int)) (.int .u64 (b : Int)) H = some (.value (.int .u64 ((a ||| b : Nat) : Int)), H) := by
  rw [bX_or, or_u64 ha hb]
theorem sgn_shift {sh : Nat} (h : sh ≤ 64) (u : Nat) {t1 t2 : TypeId} {x y x' y' : Operand} {H : World} :
    binX Try.prog .shl t1 x y (.int .u64 (u : Int)) (.int .i64 (sh : Int)) H = some (.value (.int .u64 (IntKind.u64.wrap ((u : Int) * 2 ^ sh))), H) ∧
    ∀ n : Int, binX Try.prog .shr t2 x' y' (.int .i64 n) (.int .i64 (sh : Int)) H = some (.value (.int .i64 (n.fdiv (2 ^ sh))), H) := by
  have e : min (Int.toNat (sh : Int)) 64 = sh := by omega
  constructor
  · rw [bX_shl (by omega)]
    have : IntKind.u64.bits = 64 := rfl
    rw [this, e]
  · intro n
    rw [bX_shr (by omega)]
    have : IntKind.i64.bits = 64 := rfl
    rw [this, e]
set_option maxRecDepth 100000 in
theorem Signed103 (bs : List UInt8) (big : Bool) (hl : bs.length ≤ 8) (H : World) (Q : Value → World → Prop) : FW X 103 #[.string (sB bs), .bool big] H Q = Q (.int .i64 (sgnW big bs)) H := by
  refine FW.aloneEq ?_ Try.func103 Try.ntmps103 rfl (by simp) ?_ H Q
  · simp [X, plainDS, plainDB]
  simp
  refine CE.range (m := bs.length) (fun k e H' => lk e 0 = .string (sB bs) ∧ lk e 1 = .bool big ∧ lk e 5 = .int .u64 (topV big bs k)) ?_ (by omega) ?_ ?_ ?_
  · decide
  · simp [topV_zero]
  · rintro k e H' hk h1 h2 ⟨h3, h4, h5⟩
    have w1 : IntKind.i64.wrap ((bs.length : Int) - 1) = (bs.length : Int) - 1 := wrap64' (by omega) (by omega)
    obtain ⟨j, hj⟩ : ∃ j, j = bs.length - 1 - k := ⟨_, rfl⟩
    have hjl : j < bs.length := by omega
    have w2 : IntKind.i64.wrap ((bs.length : Int) - 1 - (k : Int)) = (j : Int) := by rw [wrap64' (by omega) (by omega)]; omega
    have hlt := topV_lt (big := big) (bs := bs) (i := k) (by omega)
    have hlt56 : topV big bs k < 2 ^ 56 := Nat.lt_of_lt_of_le hlt (Nat.pow_le_pow_right (by decide) (by omega))
    have hs8 := fun {t x y k' H} => shl8 hlt56 (t := t) (x := x) (y := y) (k := k') (H := H)
    have hor : ∀ i (hi : i < bs.length), IntKind.u64.wrap (bs[i].toNat : Int) = (bs[i].toNat : Int) := fun i hi => wrap_u64 (by have := bs[i].toNat_lt; omega)
    have hor2 := fun i (hi : i < bs.length) {t x y H} => or_bin (a := topV big bs k * 256) (b := bs[i].toNat) (by omega) (by have := bs[i].toNat_lt; omega) (t := t) (x := x) (y := y) (H := H)
    cases big with
    | true =>
      have hst := topV_step (big := true) hk k rfl hk
      have hor3 := fun {t x y H} => hor2 k hk (t := t) (x := x) (y := y) (H := H)
      rw [hst] at hor3
      generalize topV true bs k * 256 = y at *
      simp [-bX_or, h1, h2, h3, h4, h5, w1, w2, hs8, hk, hor k hk, hor3]
    | false =>
      have hst := topV_step (big := false) hk j (by rw [hj]; rfl) hjl
      have hor3 := fun {t x y H} => hor2 j hjl (t := t) (x := x) (y := y) (H := H)
      rw [hst] at hor3
      generalize topV false bs k * 256 = y at *
      simp [-bX_or, h1, h2, h3, h4, h5, w1, w2, hs8, hjl, hor j hjl, hor3]
  · rintro e H' h1 h2 ⟨h3, h4, h5⟩
    rw [topV_all] at h5
    have w1 : IntKind.i64.wrap (8 * (bs.length : Int)) = 8 * (bs.length : Int) := wrap64' (by omega) (by omega)
    obtain ⟨sh, hsh⟩ : ∃ sh : Nat, sh = 64 - 8 * bs.length := ⟨_, rfl⟩
    have w2 : IntKind.i64.wrap (64 - 8 * (bs.length : Int)) = (sh : Int) := by rw [wrap64' (by omega) (by omega)]; omega
    have s1 := fun {t1 x y H} => (sgn_shift (sh := sh) (by omega) (leV (lowF big bs)) (t1 := t1) (t2 := 0) (x := x) (y := y) (x' := x) (y' := y) (H := H)).1
    have s2 := fun {t2 x y H} n => (sgn_shift (sh := sh) (by omega) 0 (t1 := 0) (t2 := t2) (x := x) (y := y) (x' := x) (y' := y) (H := H)).2 n
    have hsg : sgnW big bs = (IntKind.i64.wrap (IntKind.u64.wrap ((leV (lowF big bs) : Int) * 2 ^ sh))).fdiv (2 ^ sh) := by unfold sgnW; rw [← hsh]
    rw [hsg]
    simp [h3, h5, w1, w2, s1, s2]
end Go.Proofs.Ytcllchaboahlfaa
end
