/- Helpers of this claim: an evaluator over plain values and its laws. -/
import Derived.Test.YtjecafhbhcjoaaaQm
section
set_option linter.unusedVariables false
set_option linter.unusedSimpArgs false
namespace Go.Proofs.Ytjecafhbhcjoaaa
open Go Go.Proofs.Ytjecafhbhcjoaaa.Den
section
variable {H0 H H' : World} {rb : Nat} {q : RP} {v v' vo vo' : Value}
def toTellR (x : Lt) : Bool := x.back && !x.told && decide (3 ≤ x.st) && decide (x.st ≤ 5)
def tellFR (x : Lt) : Lt := if toTellR x = true then { x with told := true } else x
def backsR (l : List Lt) : List Rp := (l.filter toTellR).map fun x => ⟨x.num, x.st, x.reply⟩
theorem backsR_take {l : List Lt} {k : Nat} (hk : k < l.length) : backsR (l.take (k + 1)) = backsR (l.take k) ++ if toTellR l[k] = true then [⟨l[k].num, l[k].st, l[k].reply⟩] else [] := by
  unfold backsR
  rw [List.take_succ_eq_append_getElem hk, List.filter_append]
  by_cases h : toTellR l[k] = true
  · simp [List.filter_cons, h]
  · simp [List.filter_cons, h]
theorem backsR_len (l : List Lt) : (backsR l).length ≤ l.length := by
  unfold backsR
  rw [List.length_map]
  exact List.length_filter_le _ _
def rBacks (q : RP) (now : Int) : RP × (List Rp × Int) := if badR q now then (q, ([], 7)) else ({ atR q now with l := (atR q now).l.map tellFR }, (backsR (atR q now).l, 0))
set_option maxRecDepth 100000 in
theorem Backs50 (st : RSt H rb q v) (hl : q.l.length < 2 ^ 30) (now : Int) {Q : Value → World → Prop}
    (hq : ∀ H' vo, RSt H' rb (rBacks q now).1 v → FrR H H' rb v v → AccR H' vo (rBacks q now).2.1 → SepR rb v vo → (∀ j, j < H.heap.size → Apart vo j) → Q (.tuple #[vo, .int .i64 (rBacks q now).2.2]) H') : FW X 50 #[p0 rb, .int .i64 now] H Q := by
  refine FW.walk (by simp [X]) Try.func50 Try.ntmps50 rfl (by simp) ?_
  unfold rBacks at hq
  simp
  refine look58 st (by omega) now (fun hb => ?_) fun hb H2 st2 fr2 => ?_
  · rw [if_pos hb] at hq
    simp
    exact hq _ _ st FrR.refl .nil (sepR_nil _ _) (fun j _ => apart_nil j)
  rw [if_neg hb] at hq
  have hl2 : (atR q now).l.length < 2 ^ 30 := by simpa [atR] using hl
  generalize atR q now = q' at *
  have hp := st2.hp
  have hlen := fun H0 => st2.len (H0 := H0)
  simp [hp, hlen]
  refine CE.range (m := q'.l.length) (fun k e H' => lk e 19 = v ∧ lk e 0 = p0 rb ∧ RSt H' rb { q' with l := mix tellFR q'.l k } v ∧ FrR H H' rb v v ∧ ∃ vo, lk e 7 = vo ∧ AccR H' vo (backsR (q'.l.take k)) ∧ SepR rb v vo ∧ ∀ j, j < H.heap.size → Apart vo j) ?_ (by omega) ?_ ?_ ?_
  · decide
  · refine ⟨by simp, by simp, by simp, by simp, ?_, fr2, _, by simp, .nil, sepR_nil _ _, fun j _ => apart_nil j⟩
    rw [mix_zero]; exact st2
  · rintro k e H' hk q1 q2 ⟨h19, h0, stk, frk, vo, h7, acc, sep, old⟩
    have hml := mix_len tellFR q'.l k
    obtain ⟨r, hv, hr, hle, hrow, nr1, nr2, hlt⟩ := stk.at (k := k) (by simpa [hml] using hk)
    simp only [mix_get hk] at hrow
    simp only [hml] at hv
    rw [hv] at h19
    have hle2 : k * 12 + 11 + 1 ≤ (flatX (mix tellFR q'.l k)).length := Nat.le_trans (by omega) hle
    have hset := set_told (l := mix tellFR q'.l k) (k := k) (by simpa [hml] using hk) (mix_get hk) true
    have hms := mix_succ (f := tellFR) hk
    have hmsame := fun h => mix_same (f := tellFR) hk h
    have hpk := stk.hp
    have lpk := getO_lt hpk
    have nh : ¬ H'.heap.size = rb := by omega
    have nh2 : ¬ rb = H'.heap.size := by omega
    have nh3 : ¬ r = H'.heap.size := by omega
    have nh4 : ¬ H'.heap.size = r := by omega
    have ht := backsR_take hk
    generalize hx : q'.l[k] = x at *
    have stp := stk.push (.cells (cellsL x) 100 (0, 0))
    have frp : FrR H (pushObj H' (.cells (cellsL x) 100 (0, 0))) rb v v := frk.trans (FrR.push _)
    have accp := Acc.push acc (.cells (cellsL x) 100 (0, 0))
    rw [ht]
    have no : toTellR x = false → mix tellFR q'.l (k + 1) = mix tellFR q'.l k := fun h => hmsame (by unfold tellFR; rw [if_neg (by simp [h])])
    cases a1 : x.back with
    | false =>
      have hf : toTellR x = false := by simp [toTellR, a1]
      rw [if_neg (by simp [hf]), List.append_nil, no hf]
      simp [q1, q2, h19, h0, hr, hk, hle, hrow, allocX, szO, overL, a1]
      rw [← hv, ← a1]
      exact ⟨rfl, stp, frp, h7 ▸ accp, h7 ▸ sep, h7 ▸ old⟩
    | true =>
    cases a2 : x.told with
    | true =>
      have hf : toTellR x = false := by simp [toTellR, a2]
      rw [if_neg (by simp [hf]), List.append_nil, no hf]
      simp [q1, q2, h19, h0, hr, hk, hle, hrow, allocX, szO, overL, a1, a2]
      rw [← hv]
      simp only [cellsL, a1, a2] at stp frp accp
      exact ⟨rfl, stp, frp, h7 ▸ accp, h7 ▸ sep, h7 ▸ old⟩
    | false =>
    by_cases a3 : 3 ≤ x.st
    · by_cases a4 : x.st ≤ 5
      · have hf : toTellR x = true := by simp [toTellR, a1, a2, a3, a4]
        rw [if_pos hf]
        have e1 : tellFR x = { x with told := true } := by unfold tellFR; rw [if_pos hf]
        rw [e1] at hms
        rw [hms] at hset
        have fin := stp.setL hv k { x with told := true }
        simp only [hms] at fin
        have apr : Apart vo r := sep.2 _ _ _ hv
        have acc2 := Acc.set accp (i := r) (.cells (flatX (mix tellFR q'.l (k + 1))).toArray 100 (1, 0)) apr
        obtain ⟨v', H4, b1, b2, b3, b4, b5⟩ := AccR.add (xs := backsR (q'.l.take k)) acc2 (by have := backsR_len (q'.l.take k); rw [List.length_take] at this; omega) ⟨x.num, x.st, x.reply⟩
        have hsz : (setO (pushObj H' (.cells (cellsL x) 100 (0, 0))) r (.cells (flatX (mix tellFR q'.l (k + 1))).toArray 100 (1, 0))).heap.size = H'.heap.size + 1 := by simp
        rw [hsz] at b1 b5 b4
        have fr3 := frp.trans (FrR.setRow (.cells (flatX (mix tellFR q'.l (k + 1))).toArray 100 (1, 0)) hv)
        simp only [cellsL, a1, a2] at b1 fin fr3 b3 hsz
        simp [q1, q2, h19, h0, h7, hr, hk, hle, hrow, allocX, szO, overL, a1, a2, a3, a4, nr1, nr2, nh, nh2, nh3, nh4, hpk, lpk, hset, hml, hlt, hv, hle2, buildQ, fillX, buildSliceX, inOrder, catCells, b1]
        rw [← hv]
        exact ⟨fin.keepS sep b3, fr3.keepS old b3 (by rw [hsz]; exact b4), b2, sep.next fin (fun i g1 g2 => b5 i g1 (by rw [hsz] at g2; exact g2)), fun j hj => b5 j (old j hj) (by have := frk.size; omega)⟩
      · have hf : toTellR x = false := by simp [toTellR, a4]
        rw [if_neg (by simp [hf]), List.append_nil, no hf]
        simp [q1, q2, h19, h0, hr, hk, hle, hrow, allocX, szO, overL, a1, a2, a3, a4]
        rw [← hv]
        simp only [cellsL, a1, a2] at stp frp accp
        exact ⟨rfl, stp, frp, h7 ▸ accp, h7 ▸ sep, h7 ▸ old⟩
    · have hf : toTellR x = false := by simp [toTellR, a3]
      rw [if_neg (by simp [hf]), List.append_nil, no hf]
      simp [q1, q2, h19, h0, hr, hk, hle, hrow, allocX, szO, overL, a1, a2, a3]
      rw [← hv]
      simp only [cellsL, a1, a2] at stp frp accp
      exact ⟨rfl, stp, frp, h7 ▸ accp, h7 ▸ sep, h7 ▸ old⟩
  · rintro e H' q1 q2 ⟨h19, h0, stk, frk, vo, h7, acc, sep, old⟩
    rw [List.take_length] at acc
    rw [mix_all] at stk
    simp [h7]
    exact hq _ _ stk frk acc sep old
end
end Go.Proofs.Ytjecafhbhcjoaaa
end
