/- Helpers of this claim: an evaluator over plain values and its laws. -/
import Derived.Test.YtcllchaboahlfaaGc
section
set_option linter.unusedVariables false
set_option linter.unusedSimpArgs false
namespace Go.Proofs.Ytcllchaboahlfaa
open Go Go.Proofs.Ytcllchaboahlfaa.Den
structure FrB (H H' : World) (rb : Nat) : Prop where
  keep : ∀ j o, getO H j = some o → j ≠ rb → getO H' j = some o
  size : H.heap.size ≤ H'.heap.size
theorem FrB.refl {H : World} {rb : Nat} : FrB H H rb := ⟨fun _ _ h _ => h, Nat.le_refl _⟩
theorem FrB.trans {H H' H2 : World} {rb : Nat} (h : FrB H H' rb) (g : FrB H' H2 rb) : FrB H H2 rb := ⟨fun j o h1 h2 => g.keep j o (h.keep j o h1 h2) h2, Nat.le_trans h.size g.size⟩
theorem FrB.push {H : World} {rb : Nat} (o : Obj) : FrB H (pushObj H o) rb := ⟨fun j o' h1 _ => by have := getO_lt h1; rw [get_push, if_neg (by omega)]; exact h1, by simp⟩
theorem FrB.set {H : World} {rb : Nat} (o : Obj) : FrB H (setO H rb o) rb := ⟨fun j o' h1 h2 => by rw [get_set, if_neg h2]; exact h1, by simp⟩
theorem FrB.setFresh {H H' : World} {rb : Nat} (h : FrB H H' rb) {i : Nat} (o : Obj) (hi : H.heap.size ≤ i) : FrB H (setO H' i o) rb := ⟨fun j o' h1 h2 => by have := getO_lt h1; rw [get_set, if_neg (by omega)]; exact h.keep j o' h1 h2, by rw [size_set]; exact h.size⟩
/-- A number. -/
def rnum (s : List UInt8) (at' : Int) (big : Bool) (r : RS) (size : Nat) : (Int × Int) × RS := ((if (takeR s at' r size size).1.2 = 0 then sgnW big (takeR s at' r size size).1.1 else 0, (takeR s at' r size size).1.2), (takeR s at' r size size).2)
theorem takeR_err {s : List UInt8} {at' : Int} {r : RS} {n : Nat} {size : Int} : (takeR s at' r n size).1.2 = 12 ∨ ((takeR s at' r n size).1.2 = 0 ∧ (takeR s at' r n size).1.1 = sliceW s (padS s at' r size).nx n ∧ (padS s at' r size).nx + n ≤ s.length ∧ (takeR s at' r n size).2 = ⟨(padS s at' r size).nx + n, r.bad⟩ ∧ ¬ 0 ≤ r.bad) := by
  unfold takeR
  split
  · exact .inl rfl
  · split
    · exact .inl rfl
    · split
      · exact .inl rfl
      · exact .inr ⟨rfl, rfl, by omega, rfl, by assumption⟩
theorem sliceW_len {s : List UInt8} {i n : Nat} (h : i + n ≤ s.length) : (sliceW s i n).length = n := by simp [sliceW]; omega
section
variable {H : World} {rb : Nat} {s : List UInt8} {big : Bool} {at' : Int} {r : RS}
set_option maxRecDepth 100000 in
theorem number97 (h : getO H rb = some (rdR s big at' r)) (a0 : 0 ≤ at') (a7 : at' ≤ 7) (hl : s.length ≤ 2 ^ 40) (hn : r.nx ≤ s.length) (size : Nat) (hs : size = 1 ∨ size = 2 ∨ size = 4 ∨ size = 8) (Q : Value → World → Prop) :
    FW X 97 #[p0 rb, .int .i64 size] H Q = Q (.tuple #[.int .i64 (rnum s at' big r size).1.1, .int .i64 (rnum s at' big r size).1.2]) (setO H rb (rdR s big at' (rnum s at' big r size).2)) := by
  refine FW.eqE (by simp [X]) Try.func97 Try.ntmps97 rfl (by simp) ?_ Q
  have lt := getO_lt h
  have ht := fun Q => take95 h a0 a7 hl hn size size (sizeW_iff.2 (by omega)) Q
  unfold rnum
  have herr := takeR_err (s := s) (at' := at') (r := r) (n := size) (size := (size : Int))
  rcases hte : takeR s at' r size size with ⟨⟨b, e⟩, r2⟩
  rw [hte] at ht herr
  simp only at ht herr ⊢
  rcases herr with h1 | ⟨h1, h2, h3, h4, _⟩
  · subst h1
    simp [ht]
  · subst h1
    have hbl : b.length ≤ 8 := by rw [h2, sliceW_len h3]; omega
    simp [ht, lt, Signed103 b big hbl]
theorem gatV_step' {big : Bool} {bs : List UInt8} {size i : Nat} (hs : bs.length = size) (hi : i < bs.length) : gatV big bs i ||| (bs[i].toNat * 2 ^ (8 * turn size big i)) = gatV big bs (i + 1) := by
  subst hs; exact gatV_step hi
theorem shl_byte {b : Nat} (hb : b < 256) {t : Nat} (ht : t < 8) {ty : TypeId} {x y : Operand} {H : World} : binX Try.prog .shl ty x y (.int .u64 (b : Int)) (.int .i64 (8 * (t : Int))) H = some (.value (.int .u64 ((b * 2 ^ (8 * t) : Nat) : Int)), H) := by
  rw [bX_shl (by omega)]
  have e : min (8 * (t : Int)).toNat IntKind.u64.bits = 8 * t := by
    have : IntKind.u64.bits = 64 := rfl
    rw [this]; omega
  have e2 : (b : Int) * 2 ^ (8 * t) = ((b * 2 ^ (8 * t) : Nat) : Int) := by simp
  have e3 : b * 2 ^ (8 * t) < 2 ^ 64 := by
    have h1 : 2 ^ (8 * t) ≤ 2 ^ 56 := Nat.pow_le_pow_right (by decide) (by omega)
    have h2 : b * 2 ^ (8 * t) ≤ 255 * 2 ^ 56 := Nat.mul_le_mul (by omega) h1
    omega
  rw [e, e2, wrap_u64 e3]
set_option maxRecDepth 100000 in
theorem number94 {H0 : World} (h : getO H0 rb = some (rdP s big at' r)) (a0 : 0 ≤ at') (a7 : at' ≤ 7) (hl : s.length ≤ 2 ^ 40) (hn : r.nx ≤ s.length) (size : Nat) (hs : size = 1 ∨ size = 2 ∨ size = 4 ∨ size = 8) {Q : Value → World → Prop}
    (hq : ∀ H', getO H' rb = some (rdP s big at' (rnum s at' big r size).2) → FrB H0 H' rb → Q (.tuple #[.int .i64 (rnum s at' big r size).1.1, .int .i64 (rnum s at' big r size).1.2]) H') : FW X 94 #[p0 rb, .int .i64 size] H0 Q := by
  refine FW.walk (by simp [X]) Try.func94 Try.ntmps94 rfl (by simp) ?_
  have lt := getO_lt h
  have hsW : sizeW (size : Int) = true := sizeW_iff.2 (by omega)
  have fr1 : FrB H0 (pushObj H0 (.cells #[p0 rb] 47 (0, 0))) rb := FrB.push _
  have h1 : getO (pushObj H0 (.cells #[p0 rb] 47 (0, 0))) rb = some (rdP s big at' r) := by rw [get_push, if_neg (by omega)]; exact h
  have b2 : getO (pushObj H0 (.cells #[p0 rb] 47 (0, 0))) H0.heap.size = some (.cells #[p0 rb] 47 (0, 0)) := by simp
  have sz1 : (pushObj H0 (.cells #[p0 rb] 47 (0, 0))).heap.size = H0.heap.size + 1 := by simp
  simp [szO]
  generalize hH1 : pushObj H0 (.cells #[p0 rb] 47 (0, 0)) = H1 at *
  generalize hm : H0.heap.size = m at *
  have hmr : m ≠ rb := by omega
  unfold rnum at hq
  by_cases hb : 0 ≤ r.bad
  · have e1 : takeR s at' r size size = (([], 12), r) := if_pos hb
    rw [e1] at hq
    simp [b2, ready81 h1, hb]
    exact hq H1 h1 fr1
  · have hpd := fun Q => pad82 h1 a0 a7 hl hn size hsW Q
    obtain ⟨l1, l2⟩ := padS_le (at' := at') (size := (size : Int)) hn
    have lt1 := getO_lt h1
    have fr2 : FrB H1 (setO H1 rb (rdP s big at' (padS s at' r size))) rb := FrB.set _
    have h2 : getO (setO H1 rb (rdP s big at' (padS s at' r size))) rb = some (rdP s big at' (padS s at' r size)) := by rw [get_set, if_pos rfl, if_pos lt1]
    rcases padE_or s at' r size with e0 | ⟨e0, e3⟩
    · have e1 : takeR s at' r size size = (([], 12), padS s at' r size) := by unfold takeR; rw [if_neg hb, if_pos e0]
      rw [e1] at hq
      rw [e0] at hpd
      simp [b2, ready81 h1, hb, hpd]
      exact hq _ h2 (fr1.trans fr2)
    · rw [e0] at hpd
      have e2 : takeR s at' r size size = if s.length < (padS s at' r size).nx + size then (([], 12), failR at' s.length) else ((sliceW s (padS s at' r size).nx size, 0), ⟨(padS s at' r size).nx + size, r.bad⟩) := by
        unfold takeR; rw [if_neg hb, if_neg (by rw [e0]; simp)]
      rw [e2] at hq
      generalize padS s at' r size = r2 at *
      have c2 := fr2.keep _ _ b2 hmr
      have sz2 : (setO H1 rb (rdP s big at' r2)).heap.size = H1.heap.size := by simp
      have fr12 := fr1.trans fr2
      generalize hH2 : setO H1 rb (rdP s big at' r2) = H2 at *
      have w1 : IntKind.i64.wrap ((s.length : Int) - (r2.nx : Int)) = (s.length : Int) - (r2.nx : Int) := wrap64' (by omega) (by omega)
      have hlf := fun Q => Left31 h2 hl l1 Q
      by_cases hlt : s.length < r2.nx + size
      · have hlt' : (s.length : Int) - (r2.nx : Int) < (size : Int) := by omega
        rw [if_pos hlt] at hq
        have hwr := fun Q => wrong80 h2 a0 a7 s.length hl Q
        simp [b2, ready81 h1, hb, hpd, c2, hlf, hlt']
        refine WP.draw0 (by decide +kernel) (by decide +kernel) ?_
        simp [c2, h2, hwr]
        exact hq _ (by rw [get_set, if_pos rfl, if_pos (getO_lt h2)]) (fr12.trans (FrB.set _))
      · have hlt' : ¬ (s.length : Int) - (r2.nx : Int) < (size : Int) := by omega
        rw [if_neg hlt] at hq
        have fr3 : FrB H2 (pushObj (pushObj (pushObj H2 (.cells #[.int .u64 0] 72 (0, 0))) (.cells #[.bool big, .int .i64 at'] 61 (0, 0))) (.cells #[.int .i64 size] 3 (0, 0))) rb := ((FrB.push _).trans (FrB.push _)).trans (FrB.push _)
        have ne1 : ¬ m = H2.heap.size := by have := getO_lt c2; omega
        have ne2 : ¬ rb = H2.heap.size := by have := getO_lt h2; omega
        simp [b2, ready81 h1, hb, hpd, c2, hlf, hlt', allocX, szO, ne1, ne2, h2, shifts57]
        have g8 : getO (pushObj (pushObj (pushObj H2 (.cells #[.int .u64 0] 72 (0, 0))) (.cells #[.bool big, .int .i64 at'] 61 (0, 0))) (.cells #[.int .i64 size] 3 (0, 0))) H2.heap.size = some (.cells #[.int .u64 0] 72 (0, 0)) := by simp [show ¬ H2.heap.size = H2.heap.size + 1 + 1 by omega]
        have g9 : getO (pushObj (pushObj (pushObj H2 (.cells #[.int .u64 0] 72 (0, 0))) (.cells #[.bool big, .int .i64 at'] 61 (0, 0))) (.cells #[.int .i64 size] 3 (0, 0))) (H2.heap.size + 1) = some (.cells #[.bool big, .int .i64 at'] 61 (0, 0)) := by simp
        have g10 : getO (pushObj (pushObj (pushObj H2 (.cells #[.int .u64 0] 72 (0, 0))) (.cells #[.bool big, .int .i64 at'] 61 (0, 0))) (.cells #[.int .i64 size] 3 (0, 0))) (H2.heap.size + 1 + 1) = some (.cells #[.int .i64 size] 3 (0, 0)) := by simp
        have sz3 : (pushObj (pushObj (pushObj H2 (.cells #[.int .u64 0] 72 (0, 0))) (.cells #[.bool big, .int .i64 at'] 61 (0, 0))) (.cells #[.int .i64 size] 3 (0, 0))).heap.size = H2.heap.size + 3 := by simp
        have c3 := fr3.keep _ _ c2 hmr
        have h3 : getO (pushObj (pushObj (pushObj H2 (.cells #[.int .u64 0] 72 (0, 0))) (.cells #[.bool big, .int .i64 at'] 61 (0, 0))) (.cells #[.int .i64 size] 3 (0, 0))) rb = some (rdP s big at' r2) := by
          have := getO_lt h2
          simp only [get_push, size_push]
          rw [if_neg (by omega), if_neg (by omega), if_neg (by omega)]; exact h2
        have ltq := getO_lt h2
        have ltm := getO_lt c2
        generalize hH3 : pushObj (pushObj (pushObj H2 (.cells #[.int .u64 0] 72 (0, 0))) (.cells #[.bool big, .int .i64 at'] 61 (0, 0))) (.cells #[.int .i64 size] 3 (0, 0)) = H3 at *
        generalize hq8 : H2.heap.size = q at *
        refine CE.rangeFunc (f := 91) (fs := #[]) (cs := #[p0 (q + 1 + 1), p0 (q + 1)]) (by simp) (by simp) (by simp) ?_
        intro T hT
        rw [sz3]
        refine FW.inLoop fun l hl2 => ?_
        rw [sz3] at hl2
        have fr4 : FrB H3 (pushObj (pushObj H3 (.deferred (some []))) (.loop l)) rb := (FrB.push _).trans (FrB.push _)
        have d2 := fr4.keep _ _ c3 hmr
        have d8 := fr4.keep _ _ g8 (by omega)
        have d9 := fr4.keep _ _ g9 (by omega)
        have d10 := fr4.keep _ _ g10 (by omega)
        have d11 : getO (pushObj (pushObj H3 (.deferred (some []))) (.loop l)) (q + 3) = some (.deferred (some [])) := by simp [sz3]
        have d12 : getO (pushObj (pushObj H3 (.deferred (some []))) (.loop l)) (q + 4) = some (.loop l) := by simp [sz3]
        have h4 : getO (pushObj (pushObj H3 (.deferred (some []))) (.loop l)) rb = some (rdP s big at' r2) := by
          simp only [get_push, size_push]
          rw [if_neg (by omega), if_neg (by omega)]; exact h3
        have sz4 : (pushObj (pushObj H3 (.deferred (some []))) (.loop l)).heap.size = q + 5 := by simp [sz3]
        generalize pushObj (pushObj H3 (.deferred (some []))) (.loop l) = H4 at *
        obtain ⟨bs, hbs⟩ : ∃ bs, bs = sliceW s r2.nx size := ⟨_, rfl⟩
        rw [← hbs] at hq
        simp only [if_true] at hq
        have hbl : bs.length = size := by rw [hbs]; exact sliceW_len (by omega)
        have hbx : ∀ i (h1 : r2.nx + i < s.length) (h2 : i < bs.length), s[r2.nx + i] = bs[i] := fun i h1 h2 => by subst hbs; simp [sliceW]
        show FW X 91 _ _ _
        refine FW.imp (shifts91 (l := q + 4) (r1 := q + 1 + 1) (r2 := q + 1) (big := big) (at' := at') (size := size) (by omega) (fun i H0 => (∀ j o, getO H4 j = some o → j ≠ q → getO H0 j = some o) ∧ getO H0 q = some (.cells #[.int .u64 (gatV big bs i)] 72 (0, 0)) ∧ H4.heap.size ≤ H0.heap.size) ?_ ?_ _ ⟨fun j o h _ => h, by rw [gatV_zero]; exact d8, Nat.le_refl _⟩) ?_
        · rintro i H ⟨k1, k2, k3⟩
          exact ⟨k1 _ _ d10 (by omega), k1 _ _ d9 (by omega)⟩
        · rintro i H ⟨k1, k2, k3⟩ hi
          have e12 := k1 _ _ d12 (by omega)
          have e12' := e12
          rw [hl2] at e12
          refine yieldW.two e12 hT (by decide) (by decide) ?_
          have hrs : l.state = .ready := by rw [hl2]; rfl
          have l12 := getO_lt e12
          have lq := getO_lt k2
          simp
          refine ⟨_, e12', hrs, ?_⟩
          generalize hbz : Obj.loop { state := LoopState.busy, pending := l.pending, fn := l.fn, tmps := l.tmps, params := l.params, assign := l.assign, body := l.body, defers := l.defers } = bz
          have kA : ∀ j o, getO H j = some o → j ≠ q + 4 → getO (setO H (q + 4) bz) j = some o := fun j o h hj => by rw [get_set, if_neg hj]; exact h
          have sA2 := kA _ _ (k1 _ _ d2 (by omega)) (by omega)
          have sAr := kA _ _ (k1 _ _ h4 (by omega)) (by omega)
          have sA8 := kA _ _ k2 (by omega)
          have sA12 : getO (setO H (q + 4) bz) (q + 4) = some bz := by rw [get_set, if_pos rfl, if_pos l12]
          have ht : turn size big i < 8 := by unfold turn; split <;> omega
          have hb8 := bs[i].toNat_lt
          have hsh := fun {ty x y H} => shl_byte (b := bs[i].toNat) hb8 ht (ty := ty) (x := x) (y := y) (H := H)
          have hglt : gatV big bs i < 2 ^ 64 := Nat.lt_of_lt_of_le (gatV_lt (by omega)) (Nat.pow_le_pow_right (by decide) (by omega))
          have hst := gatV_step' (big := big) hbl (i := i) (by omega)
          have hslt : bs[i].toNat * 2 ^ (8 * turn size big i) < 2 ^ 64 := by
            have h1 : 2 ^ (8 * turn size big i) ≤ 2 ^ 56 := Nat.pow_le_pow_right (by decide) (by omega)
            have h2 : bs[i].toNat * 2 ^ (8 * turn size big i) ≤ 255 * 2 ^ 56 := Nat.mul_le_mul (by omega) h1
            omega
          have hor := fun {t x y H} => or_bin hglt hslt (t := t) (x := x) (y := y) (H := H)
          rw [hst] at hor
          have hcv : IntKind.u64.wrap (bs[i].toNat : Int) = (bs[i].toNat : Int) := wrap_u64 (by omega)
          have hni : r2.nx + i < s.length := by omega
          have hidx := hbx i hni (by omega)
          have wni : IntKind.i64.wrap ((r2.nx : Int) + (i : Int)) = (r2.nx : Int) + (i : Int) := wrap64' (by omega) (by omega)
          generalize bs[i].toNat * 2 ^ (8 * turn size big i) = y at *
          generalize hHA : setO H (q + 4) bz = HA at *
          refine WP.draw0 (by decide +kernel) (by decide +kernel) ?_
          have pi0 : 0 ≤ (r2.nx : Int) + (i : Int) := by omega
          have pin : ((r2.nx : Int) + (i : Int)).toNat = r2.nx + i := by omega
          have lA8 := getO_lt sA8
          have hget : s[r2.nx + i]? = some bs[i] := by rw [List.getElem?_eq_getElem hni, hidx]
          simp [-bX_or, sA2, sAr, sA8, wni, pi0, pin, hget, hcv, hsh, hor, lA8, overL]
          rw [← hHA]
          subst hbz
          refine ⟨_, by rw [get_set, if_neg (by omega), get_set, if_pos rfl, if_pos l12], rfl, ?_, ?_, ?_⟩
          · have hrr : ({ state := LoopState.ready, pending := none, fn := l.fn, tmps := l.tmps, params := l.params, assign := l.assign, body := l.body, defers := l.defers } : Loop) = l := by rw [hl2]; rfl
            simp only [hrr]
            intro j o hj hjq
            rw [get_set]
            by_cases hj4 : j = q + 4
            · subst hj4
              rw [if_pos rfl, if_pos (by simpa using l12), ← hj, d12]
            · rw [if_neg hj4, get_set, if_neg hjq, get_set, if_neg hj4]
              exact k1 j o hj hjq
          · rw [get_set, if_neg (by omega), get_set, if_pos rfl, if_pos (by simpa using lq)]
          · simpa using k3
        · rintro _ H ⟨k1, k2, k3⟩
          rw [hbl.symm, gatV_all] at k2
          have hj : l.pending = none := by rw [hl2]; rfl
          have hb' : (l.state == LoopState.busy) = false := by rw [hl2]; rfl
          have e12 := k1 _ _ d12 (by omega)
          have e11 := k1 _ _ d11 (by omega)
          have e2 := k1 _ _ d2 (by omega)
          have er := k1 _ _ h4 (by omega)
          have l12 := getO_lt e12
          have lr := getO_lt er
          refine ⟨l, .normal, e12, hb', by rw [hj]; rfl, ?_⟩
          have wn : IntKind.i64.wrap ((r2.nx : Int) + (size : Int)) = (r2.nx : Int) + (size : Int) := wrap64' (by omega) (by omega)
          have w8 : IntKind.i64.wrap (8 * (size : Int)) = 8 * (size : Int) := wrap64' (by omega) (by omega)
          obtain ⟨sh, hsh⟩ : ∃ sh : Nat, sh = 64 - 8 * size := ⟨_, rfl⟩
          have w9 : IntKind.i64.wrap (64 - 8 * (size : Int)) = (sh : Int) := by rw [wrap64' (by omega) (by omega)]; omega
          have s1 := fun {t1 x y H} => (sgn_shift (sh := sh) (by omega) (leV (lowF big bs)) (t1 := t1) (t2 := 0) (x := x) (y := y) (x' := x) (y' := y) (H := H)).1
          have s2 := fun {t2 x y H} n => (sgn_shift (sh := sh) (by omega) 0 (t1 := 0) (t2 := t2) (x := x) (y := y) (x' := x) (y' := y) (H := H)).2 n
          have hsg : sgnW big bs = (IntKind.i64.wrap (IntKind.u64.wrap ((leV (lowF big bs) : Int) * 2 ^ sh))).fdiv (2 ^ sh) := by unfold sgnW; rw [hbl, ← hsh]
          rw [hsg] at hq
          have n1 : ¬ m = q + 4 := by omega
          have n2 : ¬ rb = q + 4 := by omega
          have n3 : ¬ q = q + 4 := by omega
          have n4 : ¬ q = rb := by omega
          simp [e2, er, k2, n1, n2, n3, n4, wn, w8, w9, s1, s2, lr, overL]
          rw [endE_mark (by rw [get_set, if_neg (by omega), get_set, if_neg (by omega)]; exact e11)]
          simp
          refine hq _ ?_ ?_
          · rw [get_set, if_neg (by omega), get_set, if_pos rfl, if_pos (by simpa using lr), ← e3]
            rfl
          · have frA : FrB H0 H rb := ⟨fun j o h5 h6 => k1 _ _ (fr4.keep _ _ (fr3.keep _ _ (fr12.keep _ _ h5 h6) h6) h6) (by have := getO_lt h5; omega), by have := fr12.size; omega⟩
            refine FrB.setFresh (?_ : FrB H0 _ rb) _ (by omega)
            exact (frA.setFresh _ (by omega)).trans (FrB.set _)
end
end Go.Proofs.Ytcllchaboahlfaa
end
