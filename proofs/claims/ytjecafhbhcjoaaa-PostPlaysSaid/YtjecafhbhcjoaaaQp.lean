/- Helpers of this claim: an evaluator over plain values and its laws. -/
import Derived.Test.YtjecafhbhcjoaaaQo
section
set_option linter.unusedVariables false
set_option linter.unusedSimpArgs false
namespace Go.Proofs.Ytjecafhbhcjoaaa
open Go Go.Proofs.Ytjecafhbhcjoaaa.Den
section
variable {H : World} {rb : Nat} {q : RP} {v : Value}
def rNext (q : RP) (now : Int) : RP × (Int × Le × Int) :=
  if badR q now then (q, (0, zeroLe, 7)) else match firstW q.order now 0 none (atR q now).l with
    | none => (atR q now, (0, zeroLe, 8))
    | some (i, x) => ({ atR q now with l := (atR q now).l.set i { x with st := 2, tried := IntKind.i64.wrap (x.tried + 1) } }, (x.num, leOf x, 0))
theorem flatX_letter {l : List Lt} {k : Nat} (hk : k < l.length) {x : Lt} (hx : l[k] = x) : (flatX l).toArray.extract (k * 12) (k * 12 + 6) = (encL (leOf x)).cells := by
  have h := flatE_row encX_size l hk
  rw [hx] at h
  have : (flatX l).toArray.extract (k * 12) (k * 12 + 6) = ((flatX l).toArray.extract (k * 12) (k * 12 + 12)).extract 0 6 := by
    rw [Array.extract_extract]; simp
  rw [this, h]; rfl
set_option maxRecDepth 100000 in
theorem Next45 (st : RSt H rb q v) (hl : q.l.length < 2 ^ 40) (now : Int) {Q : Value → World → Prop}
    (hq : ∀ H', RSt H' rb (rNext q now).1 v → FrR H H' rb v v → Q (.tuple #[.int .i64 (rNext q now).2.1, encL (rNext q now).2.2.1, .int .i64 (rNext q now).2.2.2]) H') : FW X 45 #[p0 rb, .int .i64 now] H Q := by
  refine FW.walk (by simp [X]) Try.func45 Try.ntmps45 rfl (by simp) ?_
  have st1 := st.push (.cells #[.int .i64 0, .int .i64 0, .int .i64 0, .bool false, .string (sB []), .string (sB [])] 38 (0, 0))
  have fr1 : FrR H (pushObj H (.cells #[.int .i64 0, .int .i64 0, .int .i64 0, .bool false, .string (sB []), .string (sB [])] 38 (0, 0))) rb v v := FrR.push _
  have g5 : getO (pushObj H (.cells #[.int .i64 0, .int .i64 0, .int .i64 0, .bool false, .string (sB []), .string (sB [])] 38 (0, 0))) H.heap.size = some (.cells #[.int .i64 0, .int .i64 0, .int .i64 0, .bool false, .string (sB []), .string (sB [])] 38 (0, 0)) := by simp
  have nf := st.fresh (i := H.heap.size) (Nat.le_refl _)
  simp [allocX, szO]
  generalize hH1 : pushObj H (.cells #[.int .i64 0, .int .i64 0, .int .i64 0, .bool false, .string (sB []), .string (sB [])] 38 (0, 0)) = H1 at *
  generalize hm : H.heap.size = m at *
  unfold rNext at hq
  refine look58 st1 hl now (fun hb => ?_) fun hb H2 st2 fr2 => ?_
  · rw [if_pos hb] at hq
    have l5 := getO_lt g5
    simp [buildQ, fillX, g5, l5, overL]
    exact hq _ (st1.setOther _ nf.1 nf.2) (fr1.setFresh _ (by omega))
  · rw [if_neg hb] at hq
    have g5' := fr2.keep _ _ g5 nf.1 nf.2
    have hl2 : (atR q now).l.length < 2 ^ 40 := by simpa [atR] using hl
    simp
    refine first66 st2 hl2 now fun H3 st3 fr3 => ?_
    have g6 := fr3.keep _ _ g5' nf.1 nf.2
    have l6 := getO_lt g6
    have fr := (fr1.trans fr2).trans fr3
    have eo : (atR q now).order = q.order := rfl
    rw [eo]
    cases hbe : firstW q.order now 0 none (atR q now).l with
    | none =>
      rw [hbe] at hq
      simp [bestI, buildQ, fillX, g6, l6, overL]
      exact hq _ (st3.setOther _ nf.1 nf.2) (fr.setFresh _ (by omega))
    | some iy =>
      obtain ⟨i, x⟩ := iy
      rw [hbe] at hq
      simp only at hq
      obtain ⟨hi, hix⟩ := firstW_spec (atR q now).l (atR q now).l 0 none (by simp) (fun i y h => by cases h) i x hbe
      obtain ⟨r, hv, hr, hle, hrow, nr1, nr2, hlt⟩ := st3.at hi
      have fin := st3.setL hv i { x with st := 2, tried := IntKind.i64.wrap (x.tried + 1) }
      have hset := set_st hi hix 2
      have hi2 : i < ((atR q now).l.set i { x with st := 2 }).length := by simpa using hi
      have htr := (flatX_get hi2 (by simp : _ = { x with st := 2 })).2.1
      have hset2 := set_tried hi2 (by simp : _ = { x with st := 2 }) (IntKind.i64.wrap (x.tried + 1))
      simp only [List.set_set] at hset2
      have hi3 : i < ((atR q now).l.set i { x with st := 2, tried := IntKind.i64.wrap (x.tried + 1) }).length := by simpa using hi
      have hnum := (flatX_get hi3 (by simp : _ = { x with st := 2, tried := IntKind.i64.wrap (x.tried + 1) })).2.2.2.1
      have hlet := flatX_letter hi3 (by simp : _ = { x with st := 2, tried := IntKind.i64.wrap (x.tried + 1) })
      have hfl : ∀ y, (flatX ((atR q now).l.set i y)).length = (flatX (atR q now).l).length := fun y => by simp [flatX, flatE_len encX_size]
      have hle2 : i * 12 + 7 + 1 ≤ (flatX (atR q now).l).length := by omega
      have hle3 : i * 12 + 8 + 1 ≤ (flatX (atR q now).l).length := by omega
      have hle4 : i * 12 + 6 ≤ (flatX (atR q now).l).length := by omega
      have n0 : ¬ (i : Int) < 0 := by omega
      have hp := st3.hp
      have nrm : ¬ m = r := fun e => nf.2 r _ _ hv e
      have nrm2 : ¬ r = m := fun e => nrm e.symm
      have hq := hq _ (fin.setOther (.cells (encL (leOf x)).cells 38 (0, 0)) nf.1 nf.2) ((fr.trans (FrR.setRow (.cells (flatX ((atR q now).l.set i { x with st := 2, tried := IntKind.i64.wrap (x.tried + 1) })).toArray 100 (1, 0)) hv)).setFresh _ (by omega))
      rw [hv] at hp
      simp [bestI, n0, hp, hi, hr, hle2, hle3, hset, hlt, overL, htr, hfl, hset2, nr1, nr2]
      refine WP.draw0 (by decide +kernel) (by decide +kernel) ?_
      simp [hp, hi, hr, hlt, hfl, nr1, nr2, hnum, hle4, hlet, g6, l6, nrm, nrm2, overL]
      exact hq
def rPut (q : RP) (x : Le) (now : Int) : RP × (Int × Int) :=
  if validW x = false then (q, (0, 1)) else if badR q now then (q, (0, 7)) else if 0 < x.unt ∧ x.unt < now then (atR q now, (0, 16)) else if (atR q now).room ≤ (busyR (atR q now).l : Int) then (atR q now, (0, 4))
  else ({ atR q now with l := (atR q now).l ++ [newL x ((atR q now).l.length + 1)] }, ((atR q now).l.length + 1, 0))
set_option maxRecDepth 100000 in
theorem AccX.add {H : World} {v : Value} {xs : List Lt} (h : AccE encX 12 100 H v xs) (hl : xs.length < 2 ^ 30) (x : Lt) :
    ∃ v' H', builtinX Try.prog .append #[93, 93] #[v, .slice (some ⟨H.heap.size, 0, none⟩) 1 1] (pushObj H (.cells (cellsL x) 100 (0, 0))) = some (.value v', H') ∧
    AccE encX 12 100 H' v' (xs ++ [x]) ∧ (∀ i o, getO H i = some o → Apart v i → getO H' i = some o) ∧ H.heap.size ≤ H'.heap.size ∧ (∀ i, Apart v i → i < H.heap.size → Apart v' i) :=
  AccE.add Try.prog encX_size encX_one (t1 := 93) (t2 := 93) (inf := Try.t100) h Try.underlying93 (by simp) Try.type100 zero100 (by simp) (by simp) (by decide) (by simp) (by simp) (by rw [bytes100]; omega) x
theorem q_encL (y : Le) : veq (encL y) (encL y) = true := by unfold encL; simp only [q_agg, q_cons, q_nil, q1_int, q1_bool, q1_str, Bool.and_self]
set_option maxRecDepth 100000 in
theorem Put55 (st : RSt H rb q v) (hl : q.l.length < 2 ^ 30) (x : Le) (now : Int) {Q : Value → World → Prop}
    (hq : ∀ H' v', RSt H' rb (rPut q x now).1 v' → FrR H H' rb v v' → Q (.tuple #[.int .i64 (rPut q x now).2.1, .int .i64 (rPut q x now).2.2]) H') : FW X 55 #[p0 rb, encL x, .int .i64 now] H Q := by
  refine FW.walk (by simp [X]) Try.func55 Try.ntmps55 rfl (by simp) ?_
  have st1 := st.push (.cells (encL x).cells 38 (0, 0))
  have fr1 : FrR H (pushObj H (.cells (encL x).cells 38 (0, 0))) rb v v := FrR.push _
  have g3 : getO (pushObj H (.cells (encL x).cells 38 (0, 0))) H.heap.size = some (.cells (encL x).cells 38 (0, 0)) := by simp
  have nf := st.fresh (i := H.heap.size) (Nat.le_refl _)
  unfold rPut at hq
  simp only [encL_cells] at st1 fr1 g3
  simp [szO]
  generalize hH1 : pushObj H (.cells #[.int .i64 x.pri, .int .i64 x.unt, .int .i64 x.tries, .bool x.back, .string (sB x.target), .string (sB x.body)] 38 (0, 0)) = H1 at *
  generalize hm : H.heap.size = m at *
  have hv := fun H Q => Valid56 x H Q
  cases hvx : validW x with
  | false =>
    rw [if_pos hvx] at hq
    simp [g3, hv, hvx]
    exact hq _ _ st1 fr1
  | true =>
    rw [if_neg (by simp [hvx])] at hq
    simp [g3, hv, hvx]
    refine look58 st1 (by omega) now (fun hb => ?_) fun hb H2 st2 fr2 => ?_
    · rw [if_pos hb] at hq
      simp
      exact hq _ _ st1 fr1
    rw [if_neg hb] at hq
    have g4 := fr2.keep _ _ g3 nf.1 nf.2
    have hl2 : (atR q now).l.length < 2 ^ 30 := by simpa [atR] using hl
    have fr12 := fr1.trans fr2
    generalize atR q now = q' at *
    have hp2 := st2.hp
    have hlen := fun H0 => st2.len (H0 := H0)
    have hw : IntKind.i64.wrap ((q'.l.length : Int) + 1) = (q'.l.length : Int) + 1 := wrap64 (by omega) (by omega)
    simp
    refine WP.drawP [(0, 9), (1, 9), (2, 9), (3, 9), (4, 9), (5, 9), (6, 9), (7, 9)] (by decide +kernel) (by decide +kernel) ?_
    have nb : ¬ rb = H2.heap.size := by have := getO_lt hp2; omega
    have nm : ¬ m = H2.heap.size := by have := getO_lt g4; omega
    simp [g4, hp2, hlen, hw, buildQ, fillX, allocX, szO, overL]
    refine ⟨Checks.cons rfl rfl rfl ?_ (Checks.cons rfl rfl rfl ?_ (Checks.cons rfl rfl rfl ?_ (Checks.cons rfl rfl rfl ?_ (Checks.cons rfl rfl rfl ?_ (Checks.cons rfl rfl rfl ?_ (Checks.cons rfl rfl rfl ?_ (Checks.cons rfl rfl rfl ?_ .nil))))))), ?_⟩
    iterate 8
      · unfold reV
        simp [g4, hp2, hlen, hw, buildQ, fillX, nb, nm, q_int, q_ptr, q_agg, q_cons, q_nil, q1_int, q1_bool, q1_str, st2.acc.veq, q_encL]
    have st3 := st2.push (.cells (cellsL (newL x ((q'.l.length : Int) + 1))) 100 (0, 0))
    have fr3 := fr12.trans (FrR.push (.cells (cellsL (newL x ((q'.l.length : Int) + 1))) 100 (0, 0)))
    simp only [newL] at st3 fr3
    have hov := fun H Q => over68 (newL x ((q'.l.length : Int) + 1)) now H Q
    simp only [newL] at hov
    have ho : overL' ⟨x.pri, x.unt, x.tries, x.back, x.target, x.body, (q'.l.length : Int) + 1, 1, 0, 0, [], false⟩ now = (decide (0 < x.unt) && decide (x.unt < now)) := rfl
    have g8 : getO (pushObj H2 (.cells #[.int .i64 x.pri, .int .i64 x.unt, .int .i64 x.tries, .bool x.back, .string (sB x.target), .string (sB x.body), .int .i64 ((q'.l.length : Int) + 1), .int .i64 1, .int .i64 0, .int .i64 0, .string (sB []), .bool false] 100 (0, 0))) H2.heap.size = some (.cells #[.int .i64 x.pri, .int .i64 x.unt, .int .i64 x.tries, .bool x.back, .string (sB x.target), .string (sB x.body), .int .i64 ((q'.l.length : Int) + 1), .int .i64 1, .int .i64 0, .int .i64 0, .string (sB []), .bool false] 100 (0, 0)) := by simp
    by_cases h12 : 0 < x.unt ∧ x.unt < now
    · rw [if_pos h12] at hq
      simp [hov, ho, h12.1, h12.2]
      exact hq _ _ st3 fr3
    rw [if_neg h12] at hq
    have hof : (decide (0 < x.unt) && decide (x.unt < now)) = false := by simpa using h12
    simp [hov, ho, hof]
    generalize hH3 : pushObj H2 (.cells #[.int .i64 x.pri, .int .i64 x.unt, .int .i64 x.tries, .bool x.back, .string (sB x.target), .string (sB x.body), .int .i64 ((q'.l.length : Int) + 1), .int .i64 1, .int .i64 0, .int .i64 0, .string (sB []), .bool false] 100 (0, 0)) = H3 at *
    generalize hm2 : H2.heap.size = m2 at *
    refine WP.drawP [(2, 0), (3, 0), (4, 0), (5, 0)] (by decide +kernel) (by decide +kernel) ?_
    simp
    refine busy69 st3 (by omega) fun H4 st4 fr4 k4 => ?_
    have hp3 := st3.hp
    have hp4 := st4.hp
    have g9 := k4 _ _ g8
    have fr := fr3.trans fr4
    by_cases hroom : q'.room ≤ (busyR q'.l : Int)
    · rw [if_pos hroom] at hq
      simp [hp4, hroom]
      refine ⟨Checks.cons rfl rfl rfl ?_ (Checks.cons rfl rfl rfl ?_ (Checks.cons rfl rfl rfl ?_ (Checks.cons rfl rfl rfl ?_ .nil))), ?_⟩
      iterate 4
        · unfold reV
          simp [hp3, hp4, q_int, q_ptr]
      exact hq _ _ st4 fr
    · rw [if_neg hroom] at hq
      simp [hp4, hroom]
      refine ⟨Checks.cons rfl rfl rfl ?_ (Checks.cons rfl rfl rfl ?_ (Checks.cons rfl rfl rfl ?_ (Checks.cons rfl rfl rfl ?_ .nil))), ?_⟩
      iterate 4
        · unfold reV
          simp [hp3, hp4, q_int, q_ptr]
      refine WP.drawP [(0, 7), (0, 8), (1, 7), (2, 7), (3, 7), (4, 7)] (by decide +kernel) (by decide +kernel) ?_
      obtain ⟨v', H6, e1, acc6, keep6, sz6, ap6⟩ := AccX.add st4.acc hl2 (newL x ((q'.l.length : Int) + 1))
      simp only [newL] at e1
      have hp6 := keep6 _ _ hp4 st4.apv
      have lp6 := getO_lt hp6
      have nfm2 : Apart v m2 := (st2.fresh (i := m2) (by omega)).2
      have g10 := keep6 _ _ g9 nfm2
      have nb4 : ¬ rb = H4.heap.size := by have := getO_lt hp4; omega
      simp [hp4, g9, buildSliceX, inOrder, catCells, szO, e1, hp6, lp6, overL, acc6.one.1, acc6.one.2]
      refine ⟨Checks.cons rfl rfl rfl ?_ (Checks.cons rfl rfl rfl ?_ (Checks.cons rfl rfl rfl ?_ (Checks.cons rfl rfl rfl ?_ (Checks.cons rfl rfl rfl ?_ (Checks.cons rfl rfl rfl ?_ .nil))))), ?_⟩
      iterate 6
        · unfold reV
          simp [hp4, hp6, nb4, q_int, q_ptr, st4.acc.veq]
      have nm2 : ¬ m2 = rb := fun e => nb e.symm
      simp [nm2, g10]
      refine hq _ v' ⟨?_, acc6.set _ (ap6 _ st4.apv (getO_lt hp4)), ap6 _ st4.apv (getO_lt hp4)⟩ ⟨fun j o h h1 h2 => ?_, fun j h h1 h2 => ?_, ?_⟩
      · rw [get_set, if_pos rfl, if_pos lp6]
      · rw [get_set, if_neg h1]; exact keep6 _ _ (fr.keep j o h h1 h2) h2
      · exact ap6 _ (fr.fresh j h h1 h2) (by have := fr.size; omega)
      · rw [size_set]; have := fr.size; omega
end
end Go.Proofs.Ytjecafhbhcjoaaa
end
