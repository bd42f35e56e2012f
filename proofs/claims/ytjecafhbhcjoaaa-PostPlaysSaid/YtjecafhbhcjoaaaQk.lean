/- Helpers of this claim: an evaluator over plain values and its laws. -/
import Derived.Test.YtjecafhbhcjoaaaQj
section
set_option linter.unusedVariables false
set_option linter.unusedSimpArgs false
namespace Go.Proofs.Ytjecafhbhcjoaaa
open Go Go.Proofs.Ytjecafhbhcjoaaa.Den
def badR (q : RP) (now : Int) : Prop := now < q.now ∨ 1000000000000 < now
instance (q : RP) (now : Int) : Decidable (badR q now) := by unfold badR; infer_instance
def atR (q : RP) (now : Int) : RP := { q with now := now, l := q.l.map (lateS now) }
section
variable {H : World} {rb : Nat} {q : RP} {v : Value}
set_option maxRecDepth 100000 in
theorem look58 (st : RSt H rb q v) (hl : q.l.length < 2 ^ 40) (now : Int) {Q : Value → World → Prop}
    (hb : badR q now → Q (.int .i64 7) H) (hq : ¬ badR q now → ∀ H', RSt H' rb (atR q now) v → FrR H H' rb v v → Q (.int .i64 0) H') : FW X 58 #[p0 rb, .int .i64 now] H Q := by
  refine FW.walk (by simp [X]) Try.func58 Try.ntmps58 rfl (by simp) ?_
  have hp := st.hp
  have lp := getO_lt hp
  by_cases h1 : now < q.now
  · simp [hp, h1]
    exact hb (.inl h1)
  by_cases h2 : 1000000000000 < now
  · simp [hp, h1, h2]
    exact hb (.inr h2)
  have hq := hq (fun h => h.elim h1 h2)
  have hlen := fun H0 => st.len (H0 := H0)
  have st1 := st.setP (q' := { q with now := now }) rfl
  have fr1 : FrR H (setO H rb (refO { q with now := now } v)) rb v v := FrR.setP _
  simp [hp, h1, h2, lp, overL, hlen]
  show CE _ _ _ _ _ _ (setO H rb (refO { q with now := now } v)) _
  generalize setO H rb (refO { q with now := now } v) = H1 at *
  refine CE.range (m := q.l.length) (fun k e H' => lk e 24 = v ∧ lk e 0 = p0 rb ∧ lk e 1 = .int .i64 now ∧ RSt H' rb { q with now := now, l := mix (lateS now) q.l k } v ∧ FrR H1 H' rb v v) ?_ (by omega) ?_ ?_ ?_
  · decide
  · refine ⟨by simp, by simp, by simp, by simp, by simp, ?_, FrR.refl⟩
    rw [mix_zero]; exact st1
  · rintro k e H' hk q1 q2 ⟨h24, h0, hn, stk, frk⟩
    have hml := mix_len (lateS now) q.l k
    obtain ⟨r, hv, hr, hle, hrow, nr1, nr2, hlt⟩ := stk.at (k := k) (by simpa [hml] using hk)
    simp only [mix_get hk] at hrow
    simp only [hml] at hv
    have hle2 : k * 12 + 7 + 1 ≤ (flatX (mix (lateS now) q.l k)).length := Nat.le_trans (by omega) hle
    rw [hv] at h24
    have hov := fun H Q => over68 q.l[k] now H Q
    have hset := set_st (l := mix (lateS now) q.l k) (k := k) (by simpa [hml] using hk) (mix_get hk) 5
    have hms := mix_succ (f := lateS now) hk
    have hmsame := fun h => mix_same (f := lateS now) hk h
    have hpk := stk.hp
    have lpk := getO_lt hpk
    have nh : ¬ H'.heap.size = rb := by omega
    have nh2 : ¬ rb = H'.heap.size := by omega
    have nh3 : ¬ r = H'.heap.size := by omega
    have nf := stk.fresh (i := H'.heap.size) (Nat.le_refl _)
    generalize hx : q.l[k] = x at *
    have stp := stk.push (.cells (cellsL x) 100 (0, 0))
    have frp : FrR H1 (pushObj H' (.cells (cellsL x) 100 (0, 0))) rb _ _ := frk.trans (FrR.push _)
    by_cases h1 : x.st = 1
    · have hd : decide (x.st = 1) = true := by simp [h1]
      cases ho : overL' x now with
      | true =>
        have e1 : lateS now x = { x with st := 5 } := by unfold lateS; rw [if_pos ⟨h1, ho⟩]
        rw [e1] at hms
        rw [hms] at hset
        have fin := stp.setL hv k { x with st := 5 }
        simp only [hms] at fin
        simp [q1, q2, h24, h0, hn, hr, hk, hle, hrow, allocX, szO, overL, hd, hov, ho, nr1, nr2, nh, nh2, nh3, hpk, lpk, hset, hml, hlt, hv, hle2]
        rw [← hv]
        exact ⟨fin, frp.trans (FrR.setRow _ hv)⟩
      | false =>
        have e1 := hmsame (by unfold lateS; rw [if_neg (by simp [ho])])
        simp [q1, q2, h24, h0, hn, hr, hk, hle, hrow, allocX, szO, overL, hd, hov, ho]
        rw [e1]
        exact ⟨hv.symm, stp, frp⟩
    · have e1 := hmsame (by unfold lateS; rw [if_neg (fun h => h1 h.1)])
      simp [q1, q2, h24, h0, hn, hr, hk, hle, hrow, allocX, szO, overL, h1]
      rw [e1]
      exact ⟨hv.symm, stp, frp⟩
  · rintro e H' q1 q2 ⟨h24, h0, hn, stk, frk⟩
    simp
    refine hq _ ?_ (fr1.trans frk)
    rw [mix_all] at stk
    exact stk
def busyR (l : List Lt) : Nat := l.countP fun x => decide (x.st = 1) || decide (x.st = 2)
theorem busyR_take {l : List Lt} {k : Nat} (hk : k < l.length) : busyR (l.take (k + 1)) = busyR (l.take k) + if l[k].st = 1 ∨ l[k].st = 2 then 1 else 0 := by
  unfold busyR
  rw [List.take_succ_eq_append_getElem hk, List.countP_append, List.countP_singleton]
  simp
theorem busyR_le (l : List Lt) : busyR l ≤ l.length := List.countP_le_length
theorem dec_t {p : Prop} [Decidable p] (h : p) : decide p = true := by simp [h]
theorem dec_f {p : Prop} [Decidable p] (h : ¬ p) : decide p = false := by simp [h]
set_option maxRecDepth 100000 in
theorem busy69 (st : RSt H rb q v) (hl : q.l.length < 2 ^ 40) {Q : Value → World → Prop} (hq : ∀ H', RSt H' rb q v → FrR H H' rb v v → Keep H H' → Q (.int .i64 (busyR q.l)) H') : FW X 69 #[p0 rb] H Q := by
  refine FW.walk (by simp [X]) Try.func69 Try.ntmps69 rfl (by simp) ?_
  have hp := st.hp
  have hlen := fun H0 => st.len (H0 := H0)
  simp [hp, hlen]
  refine CE.range (m := q.l.length) (fun k e H' => lk e 9 = v ∧ lk e 3 = .int .i64 (busyR (q.l.take k)) ∧ RSt H' rb q v ∧ FrR H H' rb v v ∧ Keep H H') ?_ (by omega) ?_ ?_ ?_
  · decide
  · refine ⟨by simp, by simp, by simp, by simp [busyR], st, FrR.refl, Keep.refl⟩
  · rintro k e H' hk q1 q2 ⟨h9, h3, stk, frk, kk⟩
    obtain ⟨r, hv, hr, hle, hrow, nr1, nr2, hlt⟩ := stk.at hk
    rw [hv] at h9
    have hw : IntKind.i64.wrap ((busyR (q.l.take k) : Int) + 1) = (busyR (q.l.take k) : Int) + 1 := by have := busyR_le (q.l.take k); rw [List.length_take] at this; exact wrap64 (by omega) (by omega)
    have ht := busyR_take hk
    generalize hx : q.l[k] = x at *
    have stp := stk.push (.cells (cellsL x) 100 (0, 0))
    have frp : FrR H (pushObj H' (.cells (cellsL x) 100 (0, 0))) rb v v := frk.trans (FrR.push _)
    have kp : Keep H (pushObj H' (.cells (cellsL x) 100 (0, 0))) := kk.push _
    rw [ht]
    by_cases h1 : x.st = 1
    · simp [q1, q2, h9, h3, hr, hk, hle, hrow, allocX, szO, overL, dec_t h1, hw, h1]
      exact ⟨hv.symm, by rw [← h1]; exact stp, by rw [← h1]; exact frp, by rw [← h1]; exact kp⟩
    · by_cases h2 : x.st = 2
      · simp [q1, q2, h9, h3, hr, hk, hle, hrow, allocX, szO, overL, dec_f h1, dec_t h2, hw, h1, h2]
        exact ⟨hv.symm, by rw [← h2]; exact stp, by rw [← h2]; exact frp, by rw [← h2]; exact kp⟩
      · simp [q1, q2, h9, h3, hr, hk, hle, hrow, allocX, szO, overL, dec_f h1, dec_f h2, h1, h2]
        exact ⟨hv.symm, stp, frp, kp⟩
  · rintro e H' q1 q2 ⟨h9, h3, stk, frk, kk⟩
    rw [List.take_length] at h3
    simp [h3]
    exact hq _ stk frk kk
end
end Go.Proofs.Ytjecafhbhcjoaaa
end

section
set_option linter.unusedVariables false
set_option linter.unusedSimpArgs false
namespace Go.Proofs.Ytjecafhbhcjoaaa
open Go Go.Proofs.Ytjecafhbhcjoaaa.Den
def getR (n : Int) (l : List Lt) : Option (Nat × Lt) := if 1 ≤ n ∧ n ≤ (l.length : Int) then (match l[(n - 1).toNat]? with | some x => if x.st = 6 then none else some ((n - 1).toNat, x) | none => none) else none
theorem getR_at {n : Int} {l : List Lt} {i : Nat} {x : Lt} (h : getR n l = some (i, x)) : n = (i : Int) + 1 ∧ x.st ≠ 6 ∧ ∃ h : i < l.length, l[i] = x := by
  unfold getR at h
  split at h
  case isFalse => cases h
  rename_i h1
  split at h
  · rename_i y hy
    split at h
    · cases h
    · rename_i h6
      injection h with h; injection h with h2 h3
      subst h3
      obtain ⟨ha, hb⟩ := List.getElem?_eq_some_iff.1 hy
      subst h2
      exact ⟨by omega, h6, ha, hb⟩
  · cases h
section
variable {H : World} {rb : Nat} {q : RP} {v : Value}
set_option maxRecDepth 100000 in
theorem is67 (st : RSt H rb q v) (hl : q.l.length < 2 ^ 40) (n : Int) (Q : Value → World → Prop) : FW X 67 #[p0 rb, .int .i64 n] H Q = Q (.bool (getR n q.l).isSome) H := by
  refine FW.eqE (by simp [X]) Try.func67 Try.ntmps67 rfl (by simp) ?_ Q
  have hp := st.hp
  have hlen := fun H0 => st.len (H0 := H0)
  unfold getR
  by_cases h1 : 1 ≤ n
  · by_cases h2 : n ≤ (q.l.length : Int)
    · have hi : (n - 1).toNat < q.l.length := by omega
      obtain ⟨r, hv, hr, hle, hrow, nr1, nr2, hlt⟩ := st.at hi
      have hg := (flatX_get hi rfl).1
      rw [if_pos ⟨h1, h2⟩, List.getElem?_eq_getElem hi]
      have hw : IntKind.i64.wrap (n - 1) = (((n - 1).toNat : Nat) : Int) := by rw [wrap64 (by omega) (by omega)]; omega
      rw [hv] at hp hlen
      generalize (n - 1).toNat = i at *
      by_cases h6 : q.l[i].st = 6
      · simp [hp, hlen, h1, h2, hw, hr, hi, hg, h6]
      · simp [hp, hlen, h1, h2, hw, hr, hi, hg, h6]
    · rw [if_neg (fun h => h2 h.2)]
      simp [hp, hlen, h1, h2]
  · rw [if_neg (fun h => h1 h.1)]
    simp [hp, hlen, h1]
def rState (q : RP) (n now : Int) : RP × (Int × Int) := if badR q now then (q, (0, 7)) else match getR n (atR q now).l with
  | none => (atR q now, (0, 8))
  | some (i, x) => (atR q now, (x.st, 0))
set_option maxRecDepth 100000 in
theorem State48 (st : RSt H rb q v) (hl : q.l.length < 2 ^ 40) (n now : Int) {Q : Value → World → Prop}
    (hq : ∀ H', RSt H' rb (rState q n now).1 v → FrR H H' rb v v → Q (.tuple #[.int .i64 (rState q n now).2.1, .int .i64 (rState q n now).2.2]) H') : FW X 48 #[p0 rb, .int .i64 n, .int .i64 now] H Q := by
  refine FW.walk (by simp [X]) Try.func48 Try.ntmps48 rfl (by simp) ?_
  unfold rState at hq
  simp
  refine look58 st hl now (fun hb => ?_) fun hb H2 st2 fr2 => ?_
  · rw [if_pos hb] at hq
    simp
    exact hq _ st FrR.refl
  rw [if_neg hb] at hq
  have hl2 : (atR q now).l.length < 2 ^ 40 := by simpa [atR] using hl
  have his := fun n Q => is67 st2 hl2 n Q
  cases hg : getR n (atR q now).l with
  | none =>
    rw [hg] at hq
    simp [his, hg]
    exact hq _ st2 fr2
  | some ix =>
    obtain ⟨i, x⟩ := ix
    rw [hg] at hq
    obtain ⟨rfl, h6, hi, hx⟩ := getR_at hg
    obtain ⟨r, hv, hr, hle, hrow, nr1, nr2, hlt⟩ := st2.at hi
    have hst := (flatX_get hi hx).1
    have hw : IntKind.i64.wrap (i : Int) = i := wrap64 (by omega) (by omega)
    have hp := st2.hp
    have hq := hq _ st2 fr2
    rw [hv] at hp
    simp [his, hg, hp, hw, hi, hr, hst]
    exact hq
end
end Go.Proofs.Ytjecafhbhcjoaaa
end
