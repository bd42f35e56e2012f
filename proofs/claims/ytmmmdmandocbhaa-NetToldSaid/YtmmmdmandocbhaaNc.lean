/- Helpers of this claim: an evaluator over plain values and its laws. -/
import Derived.Test.YtmmmdmandocbhaaNb
section
set_option linter.unusedVariables false
set_option linter.unusedSimpArgs false
namespace Go.Proofs.Ytmmmdmandocbhaa
open Go Go.Proofs.Ytmmmdmandocbhaa.Den
/-- What an act makes of a network (but 11). -/
def pDo (n : NN) (x : Ac) : NN :=
  if x.kind = 1 then pSet n x.frm x.to x.lk else
  if x.kind = 12 then pPart n (x.sides.getD []) else
  if x.kind = 13 then pHeal n else
  if x.kind = 14 then pTurn n x.frm true else
  if x.kind = 15 then pTurn n x.frm false else
  if 3 ≤ x.kind ∧ x.kind ≤ 8 then pSend n x.frm x.to x.body else n
theorem inv_mono {n : NN} {T : Nat} (h : Inv n T) (hT : T < 100000) : Inv n (T + 1) :=
  { h with id1 := by have := h.id1; omega, T := by omega }
theorem inv_part {n : NN} {T : Nat} (h : Inv n T) (l : List Int) : Inv (pPart n l) T := by
  unfold pPart
  split
  · exact { h with us := ⟨h.us.lo, h.us.hi, h.us.len⟩, ok := ⟨h.ok.fb, h.ok.so, h.ok.len⟩ }
  · exact h
theorem inv_turn {n : NN} {T : Nat} (h : Inv n T) (x : Int) (d : Bool) : Inv (pTurn n x d) T := by
  unfold pTurn
  split
  · exact { h with us := ⟨h.us.lo, h.us.hi, h.us.len⟩, ok := ⟨h.ok.fb, h.ok.so, h.ok.len⟩ }
  · exact h
theorem inv_heal {n : NN} {T : Nat} (h : Inv n T) : Inv (pHeal n) T :=
  { h with us := ⟨h.us.lo, h.us.hi, h.us.len⟩, ok := ⟨h.ok.fb, h.ok.so, h.ok.len⟩ }
theorem inv_do {n : NN} {T : Nat} (h : Inv n T) (hT : T < 100000) (x : Ac) : Inv (pDo n x) (T + 1) := by
  unfold pDo
  split
  · exact inv_mono (inv_set h _ _ _) hT
  split
  · exact inv_mono (inv_part h _) hT
  split
  · exact inv_mono (inv_heal h) hT
  split
  · exact inv_mono (inv_turn h _ _) hT
  split
  · exact inv_mono (inv_turn h _ _) hT
  split
  · exact inv_send h hT _ _ _
  · exact inv_mono h hT
set_option maxRecDepth 100000 in
theorem do16 {H : World} {b : Nat} {n : NN} {vn vf : Value} (st : NSt H b n vn vf) {T : Nat} (iv : Inv n T) (x : Ac) (hl : (x.sides.getD []).length < 2 ^ 62) {Q : Value → World → Prop}
    (hq : ∀ H' vf', NSt H' b (pDo n x) vn vf' → FrN H H' b vf vf' → Q (.tuple #[]) H') : FW X 16 #[p0 b, encA x] H Q := by
  refine FW.walk (by simp [X, sp17_no]) Try.func16 Try.ntmps16 rfl (by simp) ?_
  have st1 := st.push (.cells (cellsA x) 34 (0, 0))
  have fr1 : FrN H (pushObj H (.cells (cellsA x) 34 (0, 0))) b vf vf := FrN.push _
  have ga : getO (pushObj H (.cells (cellsA x) 34 (0, 0))) H.heap.size = some (.cells (cellsA x) 34 (0, 0)) := by rw [get_push, if_pos rfl]
  have h1 := iv.h1
  have h2 := iv.h2
  simp [szO]
  change NSt (pushObj H (.cells #[.int .i64 x.kind, .int .i64 x.frm, .int .i64 x.to, .int .i64 x.time, .int .i64 x.lk.delay, .int .i64 x.lk.jitter, .int .i64 x.lk.loss, .int .i64 x.lk.dbl, .string (sB x.body), sidesV x.sides] 34 (0, 0))) b n vn vf at st1
  change FrN H (pushObj H (.cells #[.int .i64 x.kind, .int .i64 x.frm, .int .i64 x.to, .int .i64 x.time, .int .i64 x.lk.delay, .int .i64 x.lk.jitter, .int .i64 x.lk.loss, .int .i64 x.lk.dbl, .string (sB x.body), sidesV x.sides] 34 (0, 0))) b vf vf at fr1
  change getO (pushObj H (.cells #[.int .i64 x.kind, .int .i64 x.frm, .int .i64 x.to, .int .i64 x.time, .int .i64 x.lk.delay, .int .i64 x.lk.jitter, .int .i64 x.lk.loss, .int .i64 x.lk.dbl, .string (sB x.body), sidesV x.sides] 34 (0, 0))) H.heap.size = some (.cells #[.int .i64 x.kind, .int .i64 x.frm, .int .i64 x.to, .int .i64 x.time, .int .i64 x.lk.delay, .int .i64 x.lk.jitter, .int .i64 x.lk.loss, .int .i64 x.lk.dbl, .string (sB x.body), sidesV x.sides] 34 (0, 0)) at ga
  generalize hHa : pushObj H (.cells #[.int .i64 x.kind, .int .i64 x.frm, .int .i64 x.to, .int .i64 x.time, .int .i64 x.lk.delay, .int .i64 x.lk.jitter, .int .i64 x.lk.loss, .int .i64 x.lk.dbl, .string (sB x.body), sidesV x.sides] 34 (0, 0)) = Ha at *
  have dt : ∀ m : Int, x.kind = m → (decide (x.kind = m)) = true := fun m h => decide_eq_true h
  by_cases k1 : x.kind = 1
  · have e : pDo n x = pSet n x.frm x.to x.lk := by simp [pDo, k1]
    rw [e] at hq
    have d1 := decide_eq_true k1
    simp [ga, d1]
    refine set21 st1 h2 x.frm x.to x.lk fun H' st' fr' => ?_
    simp
    exact hq _ _ st' (fr1.trans fr')
  by_cases k12 : x.kind = 12
  · have e : pDo n x = pPart n (x.sides.getD []) := by simp [pDo, k12]
    rw [e] at hq
    have d1 := decide_eq_false k1
    have d12 := decide_eq_true k12
    simp [ga, d1, d12]
    refine part28 st1 h1 h2 x.sides hl fun H' st' fr' => ?_
    simp
    exact hq _ _ st' (fr1.trans fr')
  by_cases k13 : x.kind = 13
  · have e : pDo n x = pHeal n := by simp [pDo, k13]
    rw [e] at hq
    have d1 := decide_eq_false k1
    have d12 := decide_eq_false k12
    have d13 := decide_eq_true k13
    simp [ga, d1, d12, d13]
    refine heal30 st1 fun H' st' fr' => ?_
    simp
    exact hq _ _ st' (fr1.trans fr')
  by_cases k14 : x.kind = 14
  · have e : pDo n x = pTurn n x.frm true := by simp [pDo, k14]
    rw [e] at hq
    have d1 := decide_eq_false k1
    have d12 := decide_eq_false k12
    have d13 := decide_eq_false k13
    have d14 := decide_eq_true k14
    simp [ga, d1, d12, d13, d14]
    refine down32 st1 h2 x.frm fun H' st' fr' => ?_
    simp
    exact hq _ _ st' (fr1.trans fr')
  by_cases k15 : x.kind = 15
  · have e : pDo n x = pTurn n x.frm false := by simp [pDo, k15]
    rw [e] at hq
    have d1 := decide_eq_false k1
    have d12 := decide_eq_false k12
    have d13 := decide_eq_false k13
    have d14 := decide_eq_false k14
    have d15 := decide_eq_true k15
    simp [ga, d1, d12, d13, d14, d15]
    refine up34 st1 h2 x.frm fun H' st' fr' => ?_
    simp
    exact hq _ _ st' (fr1.trans fr')
  have d1 := decide_eq_false k1
  have d12 := decide_eq_false k12
  have d13 := decide_eq_false k13
  have d14 := decide_eq_false k14
  have d15 := decide_eq_false k15
  by_cases ks : 3 ≤ x.kind ∧ x.kind ≤ 8
  · have e : pDo n x = pSend n x.frm x.to x.body := by simp only [pDo, k1, k12, k13, k14, k15, if_false, if_pos ks]
    rw [e] at hq
    obtain ⟨ks1, ks2⟩ := ks
    by_cases k3 : x.kind = 3
    · have d3 := decide_eq_true k3
      simp [ga, d1, d12, d13, d14, d15, d3]
      refine send11 st1 iv x.frm x.to x.body fun H' vf' st' fr' => ?_
      simp
      exact hq _ _ st' (fr1.trans fr')
    have d3 := decide_eq_false k3
    by_cases k4 : x.kind = 4
    · have d4 := decide_eq_true k4
      simp [ga, d1, d12, d13, d14, d15, d3, d4]
      refine send11 st1 iv x.frm x.to x.body fun H' vf' st' fr' => ?_
      simp
      exact hq _ _ st' (fr1.trans fr')
    have d4 := decide_eq_false k4
    by_cases k5 : x.kind = 5
    · have d5 := decide_eq_true k5
      simp [ga, d1, d12, d13, d14, d15, d3, d4, d5]
      refine send11 st1 iv x.frm x.to x.body fun H' vf' st' fr' => ?_
      simp
      exact hq _ _ st' (fr1.trans fr')
    have d5 := decide_eq_false k5
    by_cases k6 : x.kind = 6
    · have d6 := decide_eq_true k6
      simp [ga, d1, d12, d13, d14, d15, d3, d4, d5, d6]
      refine send11 st1 iv x.frm x.to x.body fun H' vf' st' fr' => ?_
      simp
      exact hq _ _ st' (fr1.trans fr')
    have d6 := decide_eq_false k6
    by_cases k7 : x.kind = 7
    · have d7 := decide_eq_true k7
      simp [ga, d1, d12, d13, d14, d15, d3, d4, d5, d6, d7]
      refine send11 st1 iv x.frm x.to x.body fun H' vf' st' fr' => ?_
      simp
      exact hq _ _ st' (fr1.trans fr')
    have d7 := decide_eq_false k7
    have d8 : decide (x.kind = 8) = true := decide_eq_true (by omega)
    simp [ga, d1, d12, d13, d14, d15, d3, d4, d5, d6, d7, d8]
    refine send11 st1 iv x.frm x.to x.body fun H' vf' st' fr' => ?_
    simp
    exact hq _ _ st' (fr1.trans fr')
  · have e : pDo n x = n := by simp only [pDo, k1, k12, k13, k14, k15, if_false, if_neg ks]
    rw [e] at hq
    have d3 : decide (x.kind = 3) = false := decide_eq_false (by omega)
    have d4 : decide (x.kind = 4) = false := decide_eq_false (by omega)
    have d5 : decide (x.kind = 5) = false := decide_eq_false (by omega)
    have d6 : decide (x.kind = 6) = false := decide_eq_false (by omega)
    have d7 : decide (x.kind = 7) = false := decide_eq_false (by omega)
    have d8 : decide (x.kind = 8) = false := decide_eq_false (by omega)
    simp [ga, d1, d12, d13, d14, d15, d3, d4, d5, d6, d7, d8]
    exact hq _ _ st1 fr1
end Go.Proofs.Ytmmmdmandocbhaa
end
