/- Helpers of this claim: an evaluator over plain values and its laws. -/
import Derived.Test.YtmmmdmandocbhaaPe
section
set_option linter.unusedVariables false
set_option linter.unusedSimpArgs false
namespace Go.Proofs.Ytmmmdmandocbhaa
open Go Go.Proofs.Ytmmmdmandocbhaa.Den
theorem fls_load {H : World} {r : Nat} {pre l : List Fl} (hr : getO H r = some (.cells (flatE encF (pre ++ l)).toArray 83 (1, 0))) {i : Nat} (hi : i < l.length) :
    loadX Try.prog 83 (.pointer (some ⟨r, pre.length * 6 + i * 6, none⟩)) H = some (.value (encF l[i]), H) := by
  have hlt : pre.length + i < (pre ++ l).length := by simp; omega
  have h1 := flatE_row encF_size (pre ++ l) hlt
  have h2 := flatE_le encF_size (pre ++ l) hlt
  rw [List.getElem_append_right (by omega)] at h1
  simp only [Nat.add_sub_cancel_left] at h1
  rw [show pre.length * 6 + i * 6 = (pre.length + i) * 6 by omega]
  simp [hr]
  rw [if_pos h2]
  have e : List.take 6 (List.drop ((pre.length + i) * 6) (flatE encF (pre ++ l))) = (encF l[i]).cells.toList := by
    have := congrArg Array.toList h1
    simpa using this
  rw [e]
  rfl
/-- Earlier than. -/
def kLt (x y : Fl) : Prop := x.time < y.time ∨ x.time = y.time ∧ (x.id < y.id ∨ x.id = y.id ∧ tw x < tw y)
instance (x y : Fl) : Decidable (kLt x y) := by unfold kLt; infer_instance
structure FB (x : Fl) : Prop where
  t0 : 0 ≤ x.time
  t1 : x.time ≤ 2 ^ 60
  i0 : 0 ≤ x.id
  i1 : x.id ≤ 2 ^ 60
theorem tw_le (x : Fl) : 0 ≤ tw x ∧ tw x ≤ 1 := by unfold tw; split <;> omega
theorem cmpF_lt {x y : Fl} (hx : FB x) (hy : FB y) : cmpF x y < 0 ↔ kLt x y := by
  obtain ⟨a1, a2, a3, a4⟩ := hx
  obtain ⟨b1, b2, b3, b4⟩ := hy
  have ⟨c1, c2⟩ := tw_le x
  have ⟨d1, d2⟩ := tw_le y
  unfold cmpF kLt
  rw [show IntKind.i64.wrap (x.time - y.time) = x.time - y.time from wrap64' (by omega) (by omega), show IntKind.i64.wrap (x.id - y.id) = x.id - y.id from wrap64' (by omega) (by omega), show IntKind.i64.wrap (tw x - tw y) = tw x - tw y from wrap64' (by omega) (by omega)]
  simp only [orI]
  split
  · split
    · split <;> omega
    · omega
  · omega
theorem kLt_up {a b x : Fl} (h : ¬ kLt b a) (g : ¬ kLt a x) : ¬ kLt b x := by
  unfold kLt at *; omega
theorem kLt_down {a b x : Fl} (h : ¬ kLt b a) (g : kLt b x) : kLt a x := by
  unfold kLt at *; omega
abbrev Sorted (l : List Fl) : Prop := l.Pairwise fun a b => ¬ kLt b a
structure BI (v : Value) (c tb : Nat) (l : List Fl) (x : Fl) (H1 : World) (d : Nat) (e : Env) (H : World) : Prop where
  k : Keep H1 H
  z : H1.heap.size ≤ H.heap.size
  e0 : lk e 0 = v
  e2 : lk e 2 = .func (.func 65) #[] #[p0 c]
  e4 : lk e 4 = p0 tb
  e8 : lk e 8 = .int .i64 l.length
  ij : ∃ i j : Nat, d = j - i ∧ i ≤ j ∧ j ≤ l.length ∧ lk e 9 = .int .i64 i ∧ lk e 10 = .int .i64 j ∧ (∀ k (hk : k < l.length), k < i → kLt l[k] x) ∧ ∀ k (hk : k < l.length), j ≤ k → ¬ kLt l[k] x
set_option maxRecDepth 100000 in
theorem bs60 {H : World} {v : Value} {c : Nat} {l : List Fl} (hv : Fls H v l) (hc : getO H c = some (.cells #[.func (.func 64) #[] #[]] 102 (0, 0))) {x : Fl} (hx : FB x) (hb : ∀ y ∈ l, FB y) (hs : Sorted l) (hl : l.length ≤ 2 ^ 40) {Q : Value → World → Prop}
    (hq : ∀ (i : Nat) (b : Bool) H', i ≤ l.length → (∀ k (hk : k < l.length), k < i → kLt l[k] x) → (∀ k (hk : k < l.length), i ≤ k → ¬ kLt l[k] x) → Keep H H' → H.heap.size ≤ H'.heap.size → Q (.tuple #[.int .i64 i, .bool b]) H') : FW X 60 #[v, encF x, .func (.func 65) #[] #[p0 c]] H Q := by
  refine FW.walk (by simp [X, sp17_no]) Try.func60 Try.ntmps60 rfl (by simp) ?_
  have hlen := fun H0 => hv.len (H0 := H0)
  have k1 : Keep H (pushObj H (.cells (cellsF x) 83 (0, 0))) := fun j o hj => by
    have := getO_lt hj
    rw [get_push, if_neg (by omega)]; exact hj
  have g4 : getO (pushObj H (.cells (cellsF x) 83 (0, 0))) H.heap.size = some (.cells (cellsF x) 83 (0, 0)) := by rw [get_push, if_pos rfl]
  have z1 : H.heap.size ≤ (pushObj H (.cells (cellsF x) 83 (0, 0))).heap.size := by simp
  have hc1 := k1 _ _ hc
  have hv1 : Fls (pushObj H (.cells (cellsF x) 83 (0, 0))) v l := hv.imp fun _ _ _ _ _ o ho => k1 _ _ ho
  simp [hlen, szO]
  generalize hH1 : pushObj H (.cells (cellsF x) 83 (0, 0)) = H1 at *
  generalize hm : H.heap.size = m at *
  refine CE.inv (BI v c m l x H1) ?_ (d := l.length) ⟨fun _ _ h => h, Nat.le_refl _, by simp, by simp, by simp, by simp, 0, l.length, rfl, Nat.zero_le _, Nat.le_refl _, by simp, by simp, fun k _ h => absurd h (by omega), fun k hk h => absurd h (by omega)⟩
  rintro d e H' ⟨kk, zz, e0, e2, e4, e8, i, j, rfl, hij, hj, e9, e10, lo, hi⟩
  by_cases h : i < j
  · rcases hv1 with ⟨_, rfl⟩ | ⟨r, pre, rfl, hr⟩
    · simp at hj; omega
    have hh : (i + j) / 2 < l.length := by omega
    have hld := fls_load (kk _ _ hr) hh
    have hld4 : loadX Try.prog 83 (p0 m) H' = some (.value (encF x), H') := by simp [kk _ _ g4]
    have hw : IntKind.i64.wrap ((i : Int) + j) = (i : Int) + j := wrap64 (by omega) (by omega)
    have hw2 : IntKind.u64.wrap ((i : Int) + j) = (i : Int) + j := by simp [IntKind.wrap, IntKind.bits, IntKind.signed]; omega
    have hfd : ((i : Int) + j).fdiv (2 ^ min 1 IntKind.u64.bits) = (((i + j) / 2 : Nat) : Int) := by
      rw [show (2 : Int) ^ min 1 IntKind.u64.bits = 2 from rfl, Int.fdiv_eq_ediv_of_nonneg _ (by decide)]; omega
    have hw3 : IntKind.i64.wrap (((i + j) / 2 : Nat) : Int) = (((i + j) / 2 : Nat) : Int) := wrap64 (by omega) (by omega)
    have h' : (i : Int) < j := by omega
    generalize hp : (i + j) / 2 = p at *
    simp [e9, e10, h', hw, bX_shr, hw2, hfd, hw3]
    refine WP.draw0 (by decide +kernel) (by decide +kernel) ?_
    have hpi : (p : Int) < l.length := by omega
    have hg := kk _ _ g4
    simp [e0, e2, e4, idxS, hpi, hld, hg]
    refine cmp65 (kk _ _ hc1) l[p] x fun H2 k2 z2 => ?_
    have hi64 : IntKind.i64.wrap ((p : Int) + 1) = ((p + 1 : Nat) : Int) := by rw [wrap64 (by omega) (by omega)]; omega
    have hkl := cmpF_lt (hb _ (List.getElem_mem hh)) hx
    have hs' := List.pairwise_iff_getElem.1 hs
    by_cases hlt : cmpF l[p] x < 0
    · have hk := hkl.1 hlt
      simp [hlt, hi64]
      refine ⟨j - (p + 1), by omega, kk.trans k2, by omega, by simp [e0], by simp [e2], by simp [e4], by simp [e8], p + 1, j, rfl, by omega, hj, by simp, by simp [e10], fun k hk1 hk2 => ?_, hi⟩
      rcases Nat.lt_or_ge k p with h3 | h3
      · exact kLt_down (hs' k p hk1 hh h3) hk
      · have : k = p := by omega
        subst this; exact hk
    · have hk : ¬ kLt l[p] x := fun h => hlt (hkl.2 h)
      simp [hlt]
      refine ⟨p - i, by omega, kk.trans k2, by omega, by simp [e0], by simp [e2], by simp [e4], by simp [e8], i, p, rfl, by omega, by omega, by simp [e9], by simp, lo, fun k hk1 hk2 => ?_⟩
      rcases Nat.lt_or_ge p k with h3 | h3
      · exact kLt_up (hs' p k hh hk1 h3) hk
      · have : k = p := by omega
        subst this; exact hk
  · have hij' : i = j := by omega
    subst hij'
    have hn : ¬ (i : Int) < i := by omega
    simp [e9, e10]
    refine WP.drawP [(0, 12)] (by decide +kernel) (by decide +kernel) ?_
    by_cases hil : i < l.length
    · have hil' : (i : Int) < l.length := by omega
      rcases hv1 with ⟨_, rfl⟩ | ⟨r, pre, rfl, hr⟩
      · simp at hil
      have hld := fls_load (kk _ _ hr) hil
      have hg := kk _ _ g4
      simp [e9, e0, e2, e4, e8, hil, idxS, hld, hg]
      refine cmp65 (kk _ _ hc1) l[i] x fun H2 k2 z2 => ?_
      simp
      refine ⟨Checks.cons rfl rfl rfl ?_ .nil, ?_⟩
      · unfold reV
        simp [e9, q_int]
      exact hq i _ H2 hj lo hi (k1.trans (kk.trans k2)) (by omega)
    · simp [e9, e8, hil]
      refine ⟨Checks.cons rfl rfl rfl ?_ .nil, ?_⟩
      · unfold reV
        simp [e9, q_int]
      exact hq i _ H' hj lo hi (k1.trans kk) (by omega)
end Go.Proofs.Ytmmmdmandocbhaa
end
