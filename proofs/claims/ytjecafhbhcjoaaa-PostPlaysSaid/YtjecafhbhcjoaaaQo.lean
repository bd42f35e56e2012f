/- Helpers of this claim: an evaluator over plain values and its laws. -/
import Derived.Test.YtjecafhbhcjoaaaQn
section
set_option linter.unusedVariables false
set_option linter.unusedSimpArgs false
namespace Go.Proofs.Ytjecafhbhcjoaaa
open Go Go.Proofs.Ytjecafhbhcjoaaa.Den
theorem q_slice (a : Option Addr) (n c : Nat) : veq (.slice a n c) (.slice a n c) = true := by simp [Go.Proofs.Ytjecafhbhcjoaaa.Den.veq, Go.Proofs.Ytjecafhbhcjoaaa.Den.veq2, Go.Proofs.Ytjecafhbhcjoaaa.Den.veq1]
def rankW (order : Int) (x : Lt) : Int := if order = 3 then IntKind.i64.wrap (-x.pri) else if order = 4 then (if x.unt = 0 then 1000000000001 else x.unt) else 0
theorem okR (order now : Int) (x : Lt) : True := trivial
def candR (now : Int) (x : Lt) : Bool := decide (x.st = 1) && decide (x.frm ≤ now) && !overL' x now
def beats (order : Int) (x : Lt) (b : Option (Nat × Lt)) : Bool := match b with | none => true | some (_, y) => decide (rankW order x < rankW order y)
def firstW (order now : Int) : Nat → Option (Nat × Lt) → List Lt → Option (Nat × Lt)
  | _, b, [] => b
  | k, b, x :: l => firstW order now (k + 1) (if candR now x && beats order x b then some (k, x) else b) l
theorem firstW_drop {order now : Int} {l : List Lt} {k : Nat} (hk : k < l.length) (b : Option (Nat × Lt)) : firstW order now k b (l.drop k) = firstW order now (k + 1) (if candR now l[k] && beats order l[k] b then some (k, l[k]) else b) (l.drop (k + 1)) := by
  rw [List.drop_eq_getElem_cons hk]; rfl
theorem firstW_spec {order now : Int} (L : List Lt) : ∀ (l : List Lt) (k : Nat) (b : Option (Nat × Lt)), l = L.drop k → (∀ i y, b = some (i, y) → ∃ h : i < L.length, L[i] = y) → ∀ i y, firstW order now k b l = some (i, y) → ∃ h : i < L.length, L[i] = y
  | [], k, b, _, hb, i, y, h => hb i y h
  | x :: l, k, b, hl, hb, i, y, h => by
    have hk : k < L.length := by
      refine Classical.byContradiction fun hn => ?_
      rw [List.drop_eq_nil_of_le (by omega)] at hl
      cases hl
    rw [List.drop_eq_getElem_cons hk] at hl
    injection hl with h1 h2
    unfold firstW at h
    refine firstW_spec L l (k + 1) _ h2 (fun i y hi => ?_) i y h
    split at hi
    · injection hi with hi
      injection hi with h3 h4
      subst h3 h4
      exact ⟨hk, h1.symm⟩
    · exact hb i y hi
def bestI (b : Option (Nat × Lt)) : Int := match b with | none => -1 | some (i, _) => i
section
variable {H : World} {rb : Nat} {q : RP} {v : Value}
set_option maxRecDepth 100000 in
theorem rank75 (hp : getO H rb = some (refO q v)) (x : Lt) (Q : Value → World → Prop) : FW X 75 #[p0 rb, encX x] H Q = Q (.int .i64 (rankW q.order x)) (pushObj H (.cells (cellsL x) 100 (0, 0))) := by
  refine FW.eqE (by simp [X]) Try.func75 Try.ntmps75 rfl (by simp) ?_ Q
  have lp := getO_lt hp
  have n1 : ¬ rb = H.heap.size := by omega
  unfold rankW
  by_cases h3 : q.order = 3
  · simp [hp, szO, n1, h3]
  by_cases h4 : q.order = 4
  · by_cases h0 : x.unt = 0
    · simp [hp, szO, n1, h4, h0]
    · simp [hp, szO, n1, h4, h0]
  · simp [hp, szO, n1, h3, h4]
set_option maxRecDepth 100000 in
theorem first66 (st : RSt H rb q v) (hl : q.l.length < 2 ^ 40) (now : Int) {Q : Value → World → Prop} (hq : ∀ H', RSt H' rb q v → FrR H H' rb v v → Q (.int .i64 (bestI (firstW q.order now 0 none q.l))) H') : FW X 66 #[p0 rb, .int .i64 now] H Q := by
  refine FW.walk (by simp [X]) Try.func66 Try.ntmps66 rfl (by simp) ?_
  have hp := st.hp
  have hlen := fun H0 => st.len (H0 := H0)
  simp [hp, hlen]
  refine CE.range (m := q.l.length) (fun k e H' => lk e 11 = v ∧ lk e 0 = p0 rb ∧ lk e 1 = .int .i64 now ∧ RSt H' rb q v ∧ FrR H H' rb v v ∧ ∃ b, lk e 5 = .int .i64 (bestI b) ∧ firstW q.order now 0 none q.l = firstW q.order now k b (q.l.drop k) ∧ ∀ i y, b = some (i, y) → ∃ h : i < q.l.length, q.l[i] = y) ?_ (by omega) ?_ ?_ ?_
  · decide
  · refine ⟨by simp, by simp, by simp, by simp, by simp, st, FrR.refl, none, by simp [bestI], by simp, fun i y h => by cases h⟩
  · rintro k e H' hk q1 q2 ⟨h11, h0, h1, stk, frk, b, h5, hb1, hb2⟩
    obtain ⟨r, hv, hr, hle, hrow, nr1, nr2, hlt⟩ := stk.at hk
    rw [hv] at h11
    rw [firstW_drop hk] at hb1
    have hrank := fun H x Q (h : getO H rb = some (refO q v)) => rank75 h x Q
    have hpk := stk.hp
    have lpk := getO_lt hpk
    generalize hx : q.l[k] = x at *
    have hov := fun H Q => over68 x now H Q
    have stp := stk.push (.cells (cellsL x) 100 (0, 0))
    have frp : FrR H (pushObj H' (.cells (cellsL x) 100 (0, 0))) rb v v := frk.trans (FrR.push _)
    have done : ∀ b', (if (candR now x && beats q.order x b) = true then some (k, x) else b) = b' → firstW q.order now 0 none q.l = firstW q.order now (k + 1) b' (q.l.drop (k + 1)) ∧ ∀ i y, b' = some (i, y) → ∃ h : i < q.l.length, q.l[i] = y := by
      intro b' hb'
      rw [hb'] at hb1
      refine ⟨hb1, fun i y hi => ?_⟩
      rw [← hb'] at hi
      split at hi
      · injection hi with hi; injection hi with h3 h4
        subst h3 h4
        exact ⟨hk, hx⟩
      · exact hb2 i y hi
    have no : candR now x = false → firstW q.order now 0 none q.l = firstW q.order now (k + 1) b (q.l.drop (k + 1)) := fun h => (done b (if_neg (by simp [h]))).1
    simp [q1, q2, h11, h0, h1, h5, hr, hk, hle, hrow, allocX, szO, overL]
    refine WP.drawP [(22, 13), (23, 13), (24, 13), (25, 13), (26, 13), (27, 13), (28, 13), (29, 13)] (by decide +kernel) (by decide +kernel) ?_
    have nh : ¬ rb = H'.heap.size := by omega
    have nh1 : ¬ rb = H'.heap.size + 1 := by omega
    have nh3 : ¬ r = H'.heap.size := by omega
    have nh4 : ¬ r = H'.heap.size + 1 := by omega
    have nh5 : ¬ H'.heap.size = H'.heap.size + 1 := by omega
    by_cases a1 : x.st = 1
    · by_cases a2 : x.frm ≤ now
      · cases a3 : overL' x now with
        | true =>
          simp [q1, q2, h11, h0, h1, h5, hr, hrow, hle, hpk, szO, dec_t a1, a2, hov, a3]
          refine ⟨Checks.cons rfl rfl rfl ?_ (Checks.cons rfl rfl rfl ?_ (Checks.cons rfl rfl rfl ?_ (Checks.cons rfl rfl rfl ?_ (Checks.cons rfl rfl rfl ?_ (Checks.cons rfl rfl rfl ?_ (Checks.cons rfl rfl rfl ?_ (Checks.cons rfl rfl rfl ?_ .nil))))))), ?_⟩
          iterate 8
            · unfold reV
              simp [q1, q2, h11, h0, h1, h5, hr, hrow, hle, hpk, szO, dec_t a1, a2, hov, a3]
          exact ⟨hv.symm, stp, frp, b, rfl, no (by simp [candR, a3]), hb2⟩
        | false =>
          have hc : candR now x = true := by simp [candR, a1, a2, a3]
          cases b with
          | none =>
            have hd := done (some (k, x)) (by simp [hc, beats])
            rw [show bestI none = -1 from rfl] at h5
            simp [q1, q2, h11, h0, h1, h5, hr, hrow, hle, hpk, szO, dec_t a1, a2, hov, a3]
            refine ⟨Checks.cons rfl rfl rfl ?_ (Checks.cons rfl rfl rfl ?_ (Checks.cons rfl rfl rfl ?_ (Checks.cons rfl rfl rfl ?_ (Checks.cons rfl rfl rfl ?_ (Checks.cons rfl rfl rfl ?_ (Checks.cons rfl rfl rfl ?_ (Checks.cons rfl rfl rfl ?_ .nil))))))), ?_⟩
            iterate 8
              · unfold reV
                simp [q1, q2, h11, h0, h1, h5, hr, hrow, hle, hpk, szO, dec_t a1, a2, hov, a3]
            exact ⟨hv.symm, stp, frp, _, rfl, hd⟩
          | some iy =>
            obtain ⟨i, y⟩ := iy
            obtain ⟨hi, hiy⟩ := hb2 i y rfl
            obtain ⟨r', hv', hr', hle', hrow', _, _, _⟩ := stk.at hi
            have er : r' = r := by rw [hv] at hv'; injection hv' with e1; injection e1 with e1; injection e1 with e1; exact e1.symm
            subst er
            rw [hiy] at hrow'
            rw [show bestI (some (i, y)) = (i : Int) from rfl] at h5
            have n0 : ¬ (i : Int) < 0 := by omega
            have gp : getO (pushObj H' (.cells (cellsL x) 100 (0, 0))) rb = some (refO q v) := stp.hp
            have gp2 : getO (pushObj (pushObj H' (.cells (cellsL x) 100 (0, 0))) (.cells (cellsL x) 100 (0, 0))) rb = some (refO q v) := (stp.push _).hp
            have hr1 := fun Q => hrank _ x Q gp
            have hr2 := fun Q => hrank _ y Q gp2
            simp only [cellsL] at hr1 hr2 gp gp2
            have st3 := (stp.push (.cells (cellsL x) 100 (0, 0))).push (.cells (cellsL y) 100 (0, 0))
            have fr3 := (frp.trans (FrR.push (.cells (cellsL x) 100 (0, 0)))).trans (FrR.push (.cells (cellsL y) 100 (0, 0)))
            by_cases hlt2 : rankW q.order x < rankW q.order y
            · have hd := done (some (k, x)) (by simp [hc, beats, hlt2])
              simp [q1, q2, h11, h0, h1, h5, hr, hrow, hle, hpk, szO, dec_t a1, a2, hov, a3, n0, hr1, hr2, nh, nh1, nh3, nh4, nh5, hi, hle', hrow', hlt2, hv]
              refine ⟨Checks.cons rfl rfl rfl ?_ (Checks.cons rfl rfl rfl ?_ (Checks.cons rfl rfl rfl ?_ (Checks.cons rfl rfl rfl ?_ (Checks.cons rfl rfl rfl ?_ (Checks.cons rfl rfl rfl ?_ (Checks.cons rfl rfl rfl ?_ (Checks.cons rfl rfl rfl ?_ .nil))))))), ?_⟩
              iterate 8
                · unfold reV
                  simp [q1, q2, h11, h0, h1, h5, hr, hrow, hle, hpk, szO, dec_t a1, a2, hov, a3, n0, nh, nh1, nh3, nh4, nh5, hi, hle', hrow', hv, q_int, q_ptr, q_slice, q_agg, q_cons, q_nil, q1_int, q1_bool, q1_str]
              rw [← hv]
              exact ⟨st3, fr3, _, rfl, hd⟩
            · have hd := done (some (i, y)) (by simp [hc, beats, hlt2])
              simp [q1, q2, h11, h0, h1, h5, hr, hrow, hle, hpk, szO, dec_t a1, a2, hov, a3, n0, hr1, hr2, nh, nh1, nh3, nh4, nh5, hi, hle', hrow', hlt2, hv]
              refine ⟨Checks.cons rfl rfl rfl ?_ (Checks.cons rfl rfl rfl ?_ (Checks.cons rfl rfl rfl ?_ (Checks.cons rfl rfl rfl ?_ (Checks.cons rfl rfl rfl ?_ (Checks.cons rfl rfl rfl ?_ (Checks.cons rfl rfl rfl ?_ (Checks.cons rfl rfl rfl ?_ .nil))))))), ?_⟩
              iterate 8
                · unfold reV
                  simp [q1, q2, h11, h0, h1, h5, hr, hrow, hle, hpk, szO, dec_t a1, a2, hov, a3, n0, nh, nh1, nh3, nh4, nh5, hi, hle', hrow', hv, q_int, q_ptr, q_slice, q_agg, q_cons, q_nil, q1_int, q1_bool, q1_str]
              rw [← hv]
              exact ⟨st3, fr3, _, rfl, hd⟩
      · simp [q1, q2, h11, h0, h1, h5, hr, hrow, hle, hpk, szO, dec_t a1, a2]
        refine ⟨Checks.cons rfl rfl rfl ?_ (Checks.cons rfl rfl rfl ?_ (Checks.cons rfl rfl rfl ?_ (Checks.cons rfl rfl rfl ?_ (Checks.cons rfl rfl rfl ?_ (Checks.cons rfl rfl rfl ?_ (Checks.cons rfl rfl rfl ?_ (Checks.cons rfl rfl rfl ?_ .nil))))))), ?_⟩
        iterate 8
          · unfold reV
            simp [q1, q2, h11, h0, h1, h5, hr, hrow, hle, hpk, szO, dec_t a1, a2]
        exact ⟨hv.symm, stp, frp, b, rfl, no (by simp [candR, a2]), hb2⟩
    · simp [q1, q2, h11, h0, h1, h5, hr, hrow, hle, hpk, szO, dec_f a1]
      refine ⟨Checks.cons rfl rfl rfl ?_ (Checks.cons rfl rfl rfl ?_ (Checks.cons rfl rfl rfl ?_ (Checks.cons rfl rfl rfl ?_ (Checks.cons rfl rfl rfl ?_ (Checks.cons rfl rfl rfl ?_ (Checks.cons rfl rfl rfl ?_ (Checks.cons rfl rfl rfl ?_ .nil))))))), ?_⟩
      iterate 8
        · unfold reV
          simp [q1, q2, h11, h0, h1, h5, hr, hrow, hle, hpk, szO, dec_f a1]
      exact ⟨hv.symm, stp, frp, b, rfl, no (by simp [candR, a1]), hb2⟩
  · rintro e H' q1 q2 ⟨h11, h0, h1, stk, frk, b, h5, hb1, hb2⟩
    rw [List.drop_length] at hb1
    simp [h5]
    rw [show firstW q.order now 0 none q.l = b from hb1] at hq
    exact hq _ stk frk
end
end Go.Proofs.Ytjecafhbhcjoaaa
end
