/- Helpers of this claim: an evaluator over plain values and its laws. -/
import Derived.Test.YtjecafhbhcjoaaaQl
section
set_option linter.unusedVariables false
set_option linter.unusedSimpArgs false
namespace Go.Proofs.Ytjecafhbhcjoaaa
open Go Go.Proofs.Ytjecafhbhcjoaaa.Den
def SepR (rb : Nat) (v vo : Value) : Prop := Apart vo rb ∧ ApV vo v
theorem sepR_nil (rb : Nat) (v : Value) : SepR rb v (.slice none 0 0) := ⟨fun r n c e => by (cases e), fun r n c e r' n' c' e' => by (cases e')⟩
theorem apart_nil (j : Nat) : Apart (.slice none 0 0) j := fun r n c e => by cases e
section
variable {H0 H H' : World} {rb : Nat} {q : RP} {v v' vo vo' : Value}
theorem RSt.keepS (st : RSt H rb q v) (hs : SepR rb v vo) (hk : ∀ i o, getO H i = some o → Apart vo i → getO H' i = some o) : RSt H' rb q v :=
  ⟨hk _ _ st.hp hs.1, Acc.keep (u := vo) st.acc hk hs.2, st.apv⟩
theorem SepR.next (st : RSt H rb q v) (hs : SepR rb v vo) (ha : ∀ i, Apart vo i → i < H.heap.size → Apart vo' i) : SepR rb v vo' :=
  ⟨ha _ hs.1 (getO_lt st.hp), fun r n c e => ha _ (hs.2 r n c e) (Acc.row_lt st.acc e)⟩
theorem FrR.keepS (fr : FrR H0 H rb v v) (ho : ∀ j, j < H0.heap.size → Apart vo j) (hk : ∀ i o, getO H i = some o → Apart vo i → getO H' i = some o) (sz : H.heap.size ≤ H'.heap.size) : FrR H0 H' rb v v :=
  ⟨fun j o h h1 h2 => hk _ _ (fr.keep j o h h1 h2) (ho j (getO_lt h)), fr.fresh, Nat.le_trans fr.size sz⟩
def cntS (c : Int) (l : List Lt) : Nat := l.countP fun x => decide (x.st = c)
theorem cntS_take {c : Int} {l : List Lt} {k : Nat} (hk : k < l.length) : cntS c (l.take (k + 1)) = cntS c (l.take k) + if l[k].st = c then 1 else 0 := by
  unfold cntS
  rw [List.take_succ_eq_append_getElem hk, List.countP_append, List.countP_singleton]
  simp
theorem cntS_le (c : Int) (l : List Lt) (k : Nat) : cntS c (l.take k) ≤ l.length := Nat.le_trans List.countP_le_length (by rw [List.length_take]; omega)
set_option maxRecDepth 100000 in
theorem Count57 (st : RSt H rb q v) (hl : q.l.length < 2 ^ 40) {Q : Value → World → Prop} (hq : ∀ H', RSt H' rb q v → FrR H H' rb v v → Q (.tuple #[.int .i64 q.l.length, .int .i64 (cntS 3 q.l), .int .i64 (cntS 4 q.l), .int .i64 (cntS 5 q.l), .int .i64 (cntS 6 q.l)]) H') : FW X 57 #[p0 rb] H Q := by
  refine FW.walk (by simp [X]) Try.func57 Try.ntmps57 rfl (by simp) ?_
  have hp := st.hp
  have hlen := fun H0 => st.len (H0 := H0)
  simp [hp, hlen]
  refine CE.range (m := q.l.length) (fun k e H' => lk e 12 = v ∧ lk e 0 = p0 rb ∧ lk e 3 = .int .i64 (cntS 3 (q.l.take k)) ∧ lk e 4 = .int .i64 (cntS 4 (q.l.take k)) ∧ lk e 5 = .int .i64 (cntS 5 (q.l.take k)) ∧ lk e 6 = .int .i64 (cntS 6 (q.l.take k)) ∧ RSt H' rb q v ∧ FrR H H' rb v v) ?_ (by omega) ?_ ?_ ?_
  · decide
  · refine ⟨by simp, by simp, by simp, by simp, by simp [cntS], by simp [cntS], by simp [cntS], by simp [cntS], st, FrR.refl⟩
  · rintro k e H' hk q1 q2 ⟨h12, h0, h3, h4, h5, h6, stk, frk⟩
    obtain ⟨r, hv, hr, hle, hrow, nr1, nr2, hlt⟩ := stk.at hk
    rw [hv] at h12
    have hw : ∀ c, IntKind.i64.wrap ((cntS c (q.l.take k) : Int) + 1) = (cntS c (q.l.take k) : Int) + 1 := fun c => by have := cntS_le c q.l k; exact wrap64 (by omega) (by omega)
    have ht := fun c => cntS_take (c := c) hk
    generalize hx : q.l[k] = x at *
    have stp := stk.push (.cells (cellsL x) 100 (0, 0))
    have frp : FrR H (pushObj H' (.cells (cellsL x) 100 (0, 0))) rb v v := frk.trans (FrR.push _)
    rw [ht 3, ht 4, ht 5, ht 6]
    by_cases a3 : x.st = 3
    · simp [q1, q2, h12, h0, h3, h4, h5, h6, hr, hk, hle, hrow, allocX, szO, overL, dec_t a3, hw, a3]
      exact ⟨hv.symm, by rw [← a3]; exact stp, by rw [← a3]; exact frp⟩
    by_cases a4 : x.st = 4
    · simp [q1, q2, h12, h0, h3, h4, h5, h6, hr, hk, hle, hrow, allocX, szO, overL, dec_f a3, dec_t a4, hw, a4]
      exact ⟨hv.symm, by rw [← a4]; exact stp, by rw [← a4]; exact frp⟩
    by_cases a5 : x.st = 5
    · simp [q1, q2, h12, h0, h3, h4, h5, h6, hr, hk, hle, hrow, allocX, szO, overL, dec_f a3, dec_f a4, dec_t a5, hw, a5]
      exact ⟨hv.symm, by rw [← a5]; exact stp, by rw [← a5]; exact frp⟩
    by_cases a6 : x.st = 6
    · simp [q1, q2, h12, h0, h3, h4, h5, h6, hr, hk, hle, hrow, allocX, szO, overL, dec_f a3, dec_f a4, dec_f a5, dec_t a6, hw, a6]
      exact ⟨hv.symm, by rw [← a6]; exact stp, by rw [← a6]; exact frp⟩
    simp [q1, q2, h12, h0, h3, h4, h5, h6, hr, hk, hle, hrow, allocX, szO, overL, dec_f a3, dec_f a4, dec_f a5, dec_f a6, a3, a4, a5, a6]
    exact ⟨hv.symm, stp, frp⟩
  · rintro e H' q1 q2 ⟨h12, h0, h3, h4, h5, h6, stk, frk⟩
    rw [List.take_length] at h3 h4 h5 h6
    have hlen := fun H0 => stk.len (H0 := H0)
    simp [h0, h3, h4, h5, h6, stk.hp, hlen]
    exact hq _ stk frk
set_option maxRecDepth 100000 in
theorem Waiting25 (st : RSt H rb q v) (hl : q.l.length < 2 ^ 30) {Q : Value → World → Prop} (hq : ∀ H' vo, RSt H' rb q v → FrR H H' rb v v → AccI H' vo (waitL q.l) → SepR rb v vo → (∀ j, j < H.heap.size → Apart vo j) → Q vo H') : FW X 25 #[p0 rb] H Q := by
  refine FW.walk (by simp [X]) Try.func25 Try.ntmps25 rfl (by simp) ?_
  have hp := st.hp
  have hlen := fun H0 => st.len (H0 := H0)
  simp [hp, hlen]
  refine CE.range (m := q.l.length) (fun k e H' => lk e 9 = v ∧ RSt H' rb q v ∧ FrR H H' rb v v ∧ ∃ vo, lk e 3 = vo ∧ AccI H' vo (waitL (q.l.take k)) ∧ SepR rb v vo ∧ ∀ j, j < H.heap.size → Apart vo j) ?_ (by omega) ?_ ?_ ?_
  · decide
  · refine ⟨by simp, by simp, by simp, st, FrR.refl, _, by simp, .nil, sepR_nil _ _, fun j _ => apart_nil j⟩
  · rintro k e H' hk q1 q2 ⟨h9, stk, frk, vo, h3, acc, sep, old⟩
    obtain ⟨r, hv, hr, hle, hrow, nr1, nr2, hlt⟩ := stk.at hk
    rw [hv] at h9
    have ht := waitL_take hk
    generalize hx : q.l[k] = x at *
    have stp := stk.push (.cells (cellsL x) 100 (0, 0))
    have frp : FrR H (pushObj H' (.cells (cellsL x) 100 (0, 0))) rb v v := frk.trans (FrR.push _)
    have accp := Acc.push acc (.cells (cellsL x) 100 (0, 0))
    rw [ht]
    by_cases a1 : x.st = 1
    · obtain ⟨v', H4, b1, b2, b3, b4, b5⟩ := AccI.add (xs := waitL (q.l.take k)) accp (by have := waitL_len (q.l.take k); rw [List.length_take] at this; omega) x.num
      rw [if_pos a1]
      have hsz : (pushObj H' (.cells (cellsL x) 100 (0, 0))).heap.size = H'.heap.size + 1 := by simp
      rw [hsz] at b1 b5 b4
      simp [q1, q2, h9, h3, hr, hk, hle, hrow, allocX, szO, overL, dec_t a1, buildSliceX, inOrder, catCells, b1]
      exact ⟨hv.symm, stp.keepS sep b3, frp.keepS old b3 (by rw [hsz]; exact b4), b2, sep.next stp (fun i h1 h2 => b5 i h1 (by simpa using h2)), fun j hj => b5 j (old j hj) (by have := frk.size; omega)⟩
    · rw [if_neg a1, List.append_nil]
      simp [q1, q2, h9, h3, hr, hk, hle, hrow, allocX, szO, overL, dec_f a1]
      exact ⟨hv.symm, stp, frp, accp, sep, old⟩
  · rintro e H' q1 q2 ⟨h9, stk, frk, vo, h3, acc, sep, old⟩
    rw [List.take_length] at acc
    simp [h3]
    exact hq _ _ stk frk acc sep old
def maxV (a b : Int) : Int := if a < b then b else a
def whenG (now : Int) (a : Int × Bool) (x : Lt) : Int × Bool := if x.st = 1 ∧ maxV now x.frm ≤ 1000000000000 ∧ overL' x (maxV now x.frm) = false ∧ (a.2 = false ∨ maxV now x.frm < a.1) then (maxV now x.frm, true) else a
def whenGL (now : Int) (l : List Lt) : Int × Bool := l.foldl (whenG now) (0, false)
theorem whenGL_take {now : Int} {l : List Lt} {k : Nat} (hk : k < l.length) : whenGL now (l.take (k + 1)) = whenG now (whenGL now (l.take k)) l[k] := by
  unfold whenGL
  rw [List.take_succ_eq_append_getElem hk, List.foldl_append]; rfl
def rWhen (q : RP) (now : Int) : RP × (Int × Int) := if badR q now then (q, (0, 7)) else if (whenGL now (atR q now).l).2 = false then (atR q now, (0, 8)) else (atR q now, ((whenGL now (atR q now).l).1, 0))
set_option maxRecDepth 100000 in
theorem When54 (st : RSt H rb q v) (hl : q.l.length < 2 ^ 40) (now : Int) {Q : Value → World → Prop}
    (hq : ∀ H', RSt H' rb (rWhen q now).1 v → FrR H H' rb v v → Q (.tuple #[.int .i64 (rWhen q now).2.1, .int .i64 (rWhen q now).2.2]) H') : FW X 54 #[p0 rb, .int .i64 now] H Q := by
  refine FW.walk (by simp [X]) Try.func54 Try.ntmps54 rfl (by simp) ?_
  unfold rWhen at hq
  simp
  refine look58 st hl now (fun hb => ?_) fun hb H2 st2 fr2 => ?_
  · rw [if_pos hb] at hq
    simp
    exact hq _ st FrR.refl
  rw [if_neg hb] at hq
  have hl2 : (atR q now).l.length < 2 ^ 40 := by simpa [atR] using hl
  generalize atR q now = q' at *
  have hp := st2.hp
  have hlen := fun H0 => st2.len (H0 := H0)
  simp [hp, hlen]
  refine CE.range (m := q'.l.length) (fun k e H' => lk e 21 = v ∧ lk e 1 = .int .i64 now ∧ lk e 7 = .int .i64 (whenGL now (q'.l.take k)).1 ∧ lk e 8 = .bool (whenGL now (q'.l.take k)).2 ∧ RSt H' rb q' v ∧ FrR H H' rb v v) ?_ (by omega) ?_ ?_ ?_
  · decide
  · refine ⟨by simp, by simp, by simp, by simp, by simp [whenGL], by simp [whenGL], st2, fr2⟩
  · rintro k e H' hk q1 q2 ⟨h21, h1, h7, h8, stk, frk⟩
    obtain ⟨r, hv, hr, hle, hrow, nr1, nr2, hlt⟩ := stk.at hk
    rw [hv] at h21
    have ht := whenGL_take (now := now) hk
    generalize hx : q'.l[k] = x at *
    have stp := stk.push (.cells (cellsL x) 100 (0, 0))
    have frp : FrR H (pushObj H' (.cells (cellsL x) 100 (0, 0))) rb v v := frk.trans (FrR.push _)
    have hov := fun t H Q => over68 x t H Q
    rw [ht]
    generalize whenGL now (q'.l.take k) = w at *
    obtain ⟨w1, w2⟩ := w
    unfold whenG
    simp only at h7 h8 ⊢
    have hmx : (if now < x.frm then x.frm else now) = maxV now x.frm := rfl
    generalize maxV now x.frm = t at *
    by_cases a1 : x.st = 1
    · by_cases a2 : t ≤ 1000000000000
      · cases a3 : overL' x t with
        | true =>
          rw [if_neg (by simp)]
          simp [q1, q2, h21, h1, h7, h8, hr, hk, hle, hrow, allocX, szO, overL, hmx, dec_t a1, a2, hov, a3]
          exact ⟨hv.symm, stp, frp⟩
        | false =>
          cases w2 with
          | false =>
            rw [if_pos ⟨a1, a2, rfl, .inl rfl⟩]
            simp [q1, q2, h21, h1, h7, h8, hr, hk, hle, hrow, allocX, szO, overL, hmx, dec_t a1, a2, hov, a3]
            exact ⟨hv.symm, stp, frp⟩
          | true =>
            by_cases a4 : t < w1
            · rw [if_pos ⟨a1, a2, rfl, .inr a4⟩]
              simp [q1, q2, h21, h1, h7, h8, hr, hk, hle, hrow, allocX, szO, overL, hmx, dec_t a1, a2, hov, a3, a4]
              exact ⟨hv.symm, stp, frp⟩
            · rw [if_neg (fun h => by rcases h.2.2.2 with h | h <;> simp_all)]
              simp [q1, q2, h21, h1, h7, h8, hr, hk, hle, hrow, allocX, szO, overL, hmx, dec_t a1, a2, hov, a3, a4]
              exact ⟨hv.symm, stp, frp⟩
      · rw [if_neg (fun h => a2 h.2.1)]
        simp [q1, q2, h21, h1, h7, h8, hr, hk, hle, hrow, allocX, szO, overL, hmx, dec_t a1, a2]
        exact ⟨hv.symm, stp, frp⟩
    · rw [if_neg (fun h => a1 h.1)]
      simp [q1, q2, h21, h1, h7, h8, hr, hk, hle, hrow, allocX, szO, overL, hmx, dec_f a1]
      exact ⟨hv.symm, stp, frp⟩
  · rintro e H' q1 q2 ⟨h21, h1, h7, h8, stk, frk⟩
    rw [List.take_length] at h7 h8
    cases hw : (whenGL now q'.l).2 with
    | false =>
      rw [if_pos hw] at hq
      simp [h7, h8, hw]
      exact hq _ stk frk
    | true =>
      rw [if_neg (by simp [hw])] at hq
      simp [h7, h8, hw]
      exact hq _ stk frk
end
end Go.Proofs.Ytjecafhbhcjoaaa
end
