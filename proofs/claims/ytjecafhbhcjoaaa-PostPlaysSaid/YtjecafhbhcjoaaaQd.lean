/- Helpers of this claim: an evaluator over plain values and its laws. -/
import Derived.Test.YtjecafhbhcjoaaaQc
section
set_option linter.unusedVariables false
set_option linter.unusedSimpArgs false
namespace Go.Proofs.Ytjecafhbhcjoaaa
open Go Go.Proofs.Ytjecafhbhcjoaaa.Den
theorem bestW_spec {order now : Int} (L : List Lt) : ∀ (l : List Lt) (k : Nat) (b : Option (Nat × Lt)), l = L.drop k → (∀ i y, b = some (i, y) → ∃ h : i < L.length, L[i] = y) → ∀ i y, bestW order now k b l = some (i, y) → ∃ h : i < L.length, L[i] = y
  | [], k, b, _, hb, i, y, h => hb i y h
  | x :: l, k, b, hl, hb, i, y, h => by
    have hk : k < L.length := by
      refine Classical.byContradiction fun hn => ?_
      rw [List.drop_eq_nil_of_le (by omega)] at hl
      cases hl
    rw [List.drop_eq_getElem_cons hk] at hl
    injection hl with h1 h2
    have e : bestW order now k b (x :: l) = bestW order now (k + 1) (if x.st = 1 ∧ x.frm ≤ now ∧ (match (generalizing := false) b with | none => true | some (_, y) => decide (lessW order x y < 0)) = true then some (k, x) else b) l := rfl
    rw [e] at h
    refine bestW_spec L l (k + 1) _ h2 (fun i y hi => ?_) i y h
    by_cases c : x.st = 1 ∧ x.frm ≤ now ∧ (match (generalizing := false) b with | none => true | some (_, y) => decide (lessW order x y < 0)) = true
    · rw [if_pos c] at hi
      injection hi with hi
      injection hi with h3 h4
      subst h3 h4
      exact ⟨hk, h1.symm⟩
    · rw [if_neg c] at hi
      exact hb i y hi
theorem best_at {order now : Int} {l : List Lt} {i : Nat} {y : Lt} (h : bestW order now 0 none l = some (i, y)) : ∃ h : i < l.length, l[i] = y := bestW_spec l l 0 none (by simp) (fun i y h => by cases h) i y h
def leOf (x : Lt) : Le := ⟨x.pri, x.unt, x.tries, x.back, x.target, x.body⟩
def zeroLe : Le := ⟨0, 0, 0, false, [], []⟩
def pNext (p : PP) (now : Int) : PP × (Int × Le × Int) :=
  if atBad p now then (p, (0, zeroLe, 7)) else match bestW p.order now 0 none (atP p now).all with
    | none => (atP p now, (0, zeroLe, 8))
    | some (i, x) => ({ atP p now with all := (atP p now).all.set i { x with st := 2, tried := IntKind.i64.wrap (x.tried + 1) } }, (x.num, leOf x, 0))
set_option maxRecDepth 100000 in
theorem Next14 {H : World} {pb : Nat} {p : PP} {v : Value} {bs : List Nat} (st : PSt H pb p v bs) (hl : bs.length < 2 ^ 62) (ho : 1 ≤ p.order ∧ p.order ≤ 4) (now : Int) {Q : Value → World → Prop}
    (hq : ∀ H', PSt H' pb (pNext p now).1 v bs → FrP H H' pb v bs v bs → Q (.tuple #[.int .i64 (pNext p now).2.1, encL (pNext p now).2.2.1, .int .i64 (pNext p now).2.2.2]) H') : FW X 14 #[p0 pb, .int .i64 now] H Q := by
  refine FW.walk (by simp [X]) Try.func14 Try.ntmps14 rfl (by simp) ?_
  have st1 := st.push (.cells #[.int .i64 0, .int .i64 0, .int .i64 0, .bool false, .string (sB []), .string (sB [])] 38 (0, 0))
  have fr1 : FrP H (pushObj H (.cells #[.int .i64 0, .int .i64 0, .int .i64 0, .bool false, .string (sB []), .string (sB [])] 38 (0, 0))) pb v bs v bs := FrP.push _
  have g5 : getO (pushObj H (.cells #[.int .i64 0, .int .i64 0, .int .i64 0, .bool false, .string (sB []), .string (sB [])] 38 (0, 0))) H.heap.size = some (.cells #[.int .i64 0, .int .i64 0, .int .i64 0, .bool false, .string (sB []), .string (sB [])] 38 (0, 0)) := by simp
  have nf := st.fresh (i := H.heap.size) (Nat.le_refl _)
  simp [allocX, szO]
  generalize hH1 : pushObj H (.cells #[.int .i64 0, .int .i64 0, .int .i64 0, .bool false, .string (sB []), .string (sB [])] 38 (0, 0)) = H1 at *
  unfold pNext at hq
  refine at35 st1 hl now (fun hb => ?_) fun hb H2 st2 fr2 => ?_
  · rw [if_pos hb] at hq
    have l5 := getO_lt g5
    simp [buildQ, fillX, g5, l5, overL]
    refine hq _ (st1.setOther _ nf.1 nf.2.1 nf.2.2) (fr1.setFresh _ (Nat.le_refl _))
  · rw [if_neg hb] at hq
    have g5' := fr2.keep _ _ g5 nf.1 nf.2.1 nf.2.2
    have l5 := getO_lt g5'
    simp
    refine next36 st2 hl ho fun H3 st3 k3 z3 => ?_
    have g5'' := k3 _ _ g5'
    have l5' := getO_lt g5''
    have fr3 : FrP H H3 pb v bs v bs := (fr1.trans fr2).trans (FrP.keep' k3 z3)
    have ebest : bestW (atP p now).order (atP p now).now 0 none (atP p now).all = bestW p.order now 0 none (atP p now).all := rfl
    rw [ebest]
    cases hbe : bestW p.order now 0 none (atP p now).all with
    | none =>
      rw [hbe] at hq
      simp [bestP, lnil_nil, buildQ, fillX, g5'', l5', overL]
      exact hq _ (st3.setOther _ nf.1 nf.2.1 nf.2.2) (fr3.setFresh _ (Nat.le_refl _))
    | some iy =>
      obtain ⟨i, x⟩ := iy
      rw [hbe] at hq
      simp only at hq
      obtain ⟨hi, hix⟩ := best_at hbe
      have hi' : i < bs.length := by rw [st3.len]; exact hi
      have hlk := st3.look hi'
      rw [hix] at hlk
      have lb := getO_lt hlk
      have hm := List.getElem_mem hi'
      have nb : ¬ H.heap.size = bs[i] := fun e => nf.2.2 (by rw [e]; exact hm)
      have nb2 : ¬ bs[i] = H.heap.size := fun e => nb e.symm
      have st4 := st3.setL hi' { x with st := 2, tried := IntKind.i64.wrap (x.tried + 1) }
      simp [bestP, hi', lptr_nil, hlk, lb, overL]
      refine WP.draw0 (by decide +kernel) (by decide +kernel) ?_
      simp [lb, nb, nb2, g5'', l5', overL]
      exact hq _ (st4.setOther _ nf.1 nf.2.1 nf.2.2) ((fr3.trans (FrP.setL hm _)).setFresh _ (Nat.le_refl _))
/-! ### a letter by its number -/
set_option maxRecDepth 100000 in
theorem find62 {H : World} {b : Nat} {x : Lt} (h : getO H b = some (letO x)) (n : Int) (Q : Value → World → Prop) : FW X 62 #[p0 b, .int .i64 n] H Q = Q (.int .i64 (IntKind.i64.wrap (x.num - n))) H := by
  refine FW.eqE (by simp [X]) Try.func62 Try.ntmps62 rfl (by simp) ?_ Q
  simp [h]
/-- Numbers ascend, and none is out of reach. -/
def Asc (l : List Lt) : Prop := (∀ i j (hi : i < l.length) (hj : j < l.length), i < j → l[i].num < l[j].num) ∧ ∀ x ∈ l, 1 ≤ x.num ∧ x.num ≤ 1000000
def posW (n : Int) (l : List Lt) : Nat := l.findIdx fun x => decide (n ≤ x.num)
def findP (n : Int) (l : List Lt) : Option (Nat × Lt) := match l[l.findIdx fun x => decide (x.num = n)]? with
  | some x => some (l.findIdx fun x => decide (x.num = n), x)
  | none => none
theorem findP_at {n : Int} {l : List Lt} {i : Nat} {x : Lt} (h : findP n l = some (i, x)) : ∃ h : i < l.length, l[i] = x ∧ x.num = n := by
  unfold findP at h
  split at h
  · rename_i y hy
    injection h with h
    injection h with h1 h2
    subst h1 h2
    obtain ⟨hi, he⟩ := List.getElem?_eq_some_iff.1 hy
    refine ⟨hi, he, ?_⟩
    have := List.findIdx_getElem (w := hi)
    rw [he] at this
    simpa using this
  · cases h
theorem findP_no {n : Int} {l : List Lt} (h : findP n l = none) : ∀ i (hi : i < l.length), l[i].num ≠ n := by
  unfold findP at h
  split at h
  · cases h
  · rename_i hy
    intro i hi e
    have hm : l.findIdx (fun x => decide (x.num = n)) < l.length := List.findIdx_lt_length_of_exists ⟨l[i], List.getElem_mem hi, by simpa using e⟩
    rw [List.getElem?_eq_getElem hm] at hy
    cases hy
theorem findP_in {n : Int} {l : List Lt} (ha : Asc l) {i : Nat} (hi : i < l.length) (h : l[i].num = n) : findP n l = some (i, l[i]) := by
  cases hf : findP n l with
  | none => exact absurd h (findP_no hf i hi)
  | some jy =>
    obtain ⟨j, y⟩ := jy
    obtain ⟨hj, h1, h2⟩ := findP_at hf
    have : i = j := by
      rcases Nat.lt_trichotomy i j with hl | hl | hl
      · have := ha.1 i j hi hj hl; rw [h1] at this; omega
      · exact hl
      · have := ha.1 j i hj hi hl; rw [h1] at this; omega
    subst this
    rw [h1]
end Go.Proofs.Ytjecafhbhcjoaaa
end

section
set_option linter.unusedVariables false
set_option linter.unusedSimpArgs false
namespace Go.Proofs.Ytjecafhbhcjoaaa
open Go Go.Proofs.Ytjecafhbhcjoaaa.Den
structure BsI (v : Value) (n : Int) (l : List Lt) (H0 : World) (d : Nat) (e : Env) (H : World) : Prop where
  w : H = H0
  e0 : lk e 0 = v
  e1 : lk e 1 = .int .i64 n
  e2 : lk e 2 = .func (.func 62) #[] #[]
  e8 : lk e 8 = .int .i64 l.length
  ij : ∃ i j : Nat, d = j - i ∧ i ≤ j ∧ j ≤ l.length ∧ lk e 9 = .int .i64 i ∧ lk e 10 = .int .i64 j ∧ ∀ k (hk : k < l.length), l[k].num = n → i ≤ k ∧ k ≤ j
set_option maxRecDepth 100000 in
theorem bsf61 {H : World} {pb : Nat} {p : PP} {v : Value} {bs : List Nat} (st : PSt H pb p v bs) (ha : Asc p.all) (hl : bs.length < 2 ^ 62) {n : Int} (hn : -9223372036854775808 ≤ n ∧ n ≤ 9223372036854775807) {Q : Value → World → Prop}
    (hq : ∀ i : Nat, i ≤ p.all.length → (∀ k (hk : k < p.all.length), p.all[k].num = n → i = k) → Q (.tuple #[.int .i64 i, .bool (match p.all[i]? with | some x => decide (x.num = n) | none => false)]) H) : FW X 61 #[v, .int .i64 n, .func (.func 62) #[] #[]] H Q := by
  refine FW.walk (by simp [X]) Try.func61 Try.ntmps61 rfl (by simp) ?_
  have hlen := fun H0 => st.hv.len (H0 := H0)
  have hbl := st.len
  rw [hbl] at hlen hl
  simp [hlen]
  refine CE.inv (BsI v n p.all H) ?_ (d := p.all.length) ⟨rfl, by simp, by simp, by simp, by simp, 0, p.all.length, rfl, Nat.zero_le _, Nat.le_refl _, by simp, by simp, fun k hk _ => ⟨Nat.zero_le _, Nat.le_of_lt hk⟩⟩
  rintro d e H' ⟨rfl, e0, e1, e2, e8, i, j, rfl, hij, hj, e9, e10, hk⟩
  by_cases h : i < j
  · obtain ⟨r, c, cs, rfl, hnc, hr, hcs⟩ := st.row (by omega)
    have hh : (i + j) / 2 < bs.length := by omega
    have hbs := hcs _ hh
    have hlk := st.look hh
    have hf := fun Q => find62 hlk n Q
    have hw : IntKind.i64.wrap ((i : Int) + j) = (i : Int) + j := wrap64 (by omega) (by omega)
    have hw2 : IntKind.u64.wrap ((i : Int) + j) = (i : Int) + j := by simp [IntKind.wrap, IntKind.bits, IntKind.signed]; omega
    have hfd : ((i : Int) + j).fdiv (2 ^ min 1 IntKind.u64.bits) = (((i + j) / 2 : Nat) : Int) := by
      rw [show (2 : Int) ^ min 1 IntKind.u64.bits = 2 from rfl, Int.fdiv_eq_ediv_of_nonneg _ (by decide)]; omega
    have hw3 : IntKind.i64.wrap (((i + j) / 2 : Nat) : Int) = (((i + j) / 2 : Nat) : Int) := wrap64 (by omega) (by omega)
    have h' : (i : Int) < j := by omega
    generalize hm : (i + j) / 2 = m at *
    simp [e0, e1, e2, e8, e9, e10, h', hw, bX_shr, hw2, hfd, hw3, hh, hr, hbs, hf]
    have hi64 : IntKind.i64.wrap ((m : Int) + 1) = ((m + 1 : Nat) : Int) := by rw [wrap64 (by omega) (by omega)]; omega
    have hmp : m < p.all.length := by omega
    have hrg := ha.2 _ (List.getElem_mem hmp)
    by_cases hc : IntKind.i64.wrap (p.all[m].num - n) < 0
    · simp [hc, hi64]
      refine ⟨j - (m + 1), by omega, rfl, by simp [e0], by simp [e1], by simp [e2], by simp [e8], m + 1, j, rfl, by omega, hj, by simp, by simp [e10], fun k hkl hkn => ?_⟩
      obtain ⟨h1, h2⟩ := hk k hkl hkn
      have hrk := ha.2 _ (List.getElem_mem hkl)
      rw [wrap64' (by omega) (by omega)] at hc
      refine ⟨?_, h2⟩
      refine Classical.byContradiction fun hlt => ?_
      rcases Nat.lt_or_eq_of_le (show k ≤ m by omega) with hl | rfl
      · have := ha.1 k m hkl hmp hl; omega
      · omega
    · simp [hc]
      refine ⟨m - i, by omega, rfl, by simp [e0], by simp [e1], by simp [e2], by simp [e8], i, m, rfl, by omega, by omega, by simp [e9], by simp, fun k hkl hkn => ?_⟩
      obtain ⟨h1, h2⟩ := hk k hkl hkn
      have hrk := ha.2 _ (List.getElem_mem hkl)
      rw [wrap64' (by omega) (by omega)] at hc
      refine ⟨h1, ?_⟩
      refine Classical.byContradiction fun hlt => ?_
      have := ha.1 m k hmp hkl (by omega); omega
  · have h' : ¬ (i : Int) < j := by omega
    have : i = j := by omega
    subst this
    have hq := hq i hj fun k hkl hkn => by have := hk k hkl hkn; omega
    by_cases hil : i < p.all.length
    · obtain ⟨r, c, cs, rfl, hnc, hr, hcs⟩ := st.row (by omega)
      have hib : i < bs.length := by omega
      have hbs := hcs _ hib
      have hlk := st.look hib
      have hf := fun Q => find62 hlk n Q
      have hrg := ha.2 _ (List.getElem_mem hil)
      have hd : (IntKind.i64.wrap (p.all[i].num - n) = 0) = (p.all[i].num = n) := by
        apply propext
        simp only [IntKind.wrap, IntKind.bits, IntKind.signed]
        constructor
        · intro h; simp at h; omega
        · intro h; simp [h]
      rw [List.getElem?_eq_getElem hil] at hq
      simp [e0, e1, e2, e8, e9, e10, hil, hib, hr, hbs, hf, hd]
      exact hq
    · rw [List.getElem?_eq_none (by omega)] at hq
      simp [e0, e1, e2, e8, e9, e10, hil]
      exact hq
end Go.Proofs.Ytjecafhbhcjoaaa
end
