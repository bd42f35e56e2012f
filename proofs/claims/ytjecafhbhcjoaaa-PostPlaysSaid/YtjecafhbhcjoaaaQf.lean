/- Helpers of this claim: an evaluator over plain values and its laws. -/
import Derived.Test.YtjecafhbhcjoaaaQe
section
set_option linter.unusedVariables false
set_option linter.unusedSimpArgs false
namespace Go.Proofs.Ytjecafhbhcjoaaa
open Go Go.Proofs.Ytjecafhbhcjoaaa.Den
theorem lateS_num (now : Int) (x : Lt) : (lateS now x).num = x.num := by unfold lateS; split <;> rfl
theorem Asc.map {l : List Lt} (h : Asc l) {f : Lt → Lt} (hf : ∀ x, (f x).num = x.num) : Asc (l.map f) := by
  refine ⟨fun i j hi hj hij => ?_, fun x hx => ?_⟩
  · simp only [List.getElem_map, hf]
    exact h.1 i j (by simpa using hi) (by simpa using hj) hij
  · obtain ⟨y, hy, rfl⟩ := List.mem_map.1 hx
    rw [hf]; exact h.2 y hy
theorem Asc.at {p : PP} (h : Asc p.all) (now : Int) : Asc (atP p now).all := h.map (lateS_num now)
def pPut (p : PP) (x : Le) (now : Int) : PP × (Int × Int) := if validW x = false then (p, (0, 1)) else if atBad p now then (p, (0, 7)) else pAdd (atP p now) x
set_option maxRecDepth 100000 in
theorem Put19 {H : World} {pb : Nat} {p : PP} {v : Value} {bs : List Nat} (st : PSt H pb p v bs) (hl : bs.length < 2 ^ 30) (x : Le) (now : Int) {Q : Value → World → Prop}
    (hq : ∀ H' v' bs', PSt H' pb (pPut p x now).1 v' bs' → FrP H H' pb v bs v' bs' → Q (.tuple #[.int .i64 (pPut p x now).2.1, .int .i64 (pPut p x now).2.2]) H') : FW X 19 #[p0 pb, encL x, .int .i64 now] H Q := by
  refine FW.walk (by simp [X]) Try.func19 Try.ntmps19 rfl (by simp) ?_
  have st1 := st.push (.cells (encL x).cells 38 (0, 0))
  have fr1 : FrP H (pushObj H (.cells (encL x).cells 38 (0, 0))) pb v bs v bs := FrP.push _
  have g3 : getO (pushObj H (.cells (encL x).cells 38 (0, 0))) H.heap.size = some (.cells (encL x).cells 38 (0, 0)) := by simp
  have nf := st.fresh (i := H.heap.size) (Nat.le_refl _)
  unfold pPut at hq
  simp only [encL_cells] at st1 fr1 g3
  simp [szO, pptr_nil]
  generalize hH1 : pushObj H (.cells #[.int .i64 x.pri, .int .i64 x.unt, .int .i64 x.tries, .bool x.back, .string (sB x.target), .string (sB x.body)] 38 (0, 0)) = H1 at *
  generalize hm : H.heap.size = m at *
  have hv := fun Q => Valid42 x H1 Q
  cases hvx : validW x with
  | false =>
    rw [if_pos hvx] at hq
    simp [g3, hv, hvx]
    exact hq _ _ _ st1 fr1
  | true =>
    rw [if_neg (by simp [hvx])] at hq
    simp [g3, hv, hvx]
    refine at35 st1 (by omega) now (fun hb => ?_) fun hb H2 st2 fr2 => ?_
    · rw [if_pos hb] at hq
      simp
      exact hq _ _ _ st1 fr1
    · rw [if_neg hb] at hq
      have g3' := fr2.keep _ _ g3 nf.1 nf.2.1 nf.2.2
      simp [g3']
      refine add43 st2 hl x fun H3 v3 bs3 st3 fr3 => ?_
      simp
      exact hq _ _ _ st3 (fr1.trans (fr2.trans fr3))
def pDone (p : PP) (n now : Int) (ok : Bool) (reply : List UInt8) : PP × Int :=
  if 1000 < (reply.length : Int) then (p, 1) else if atBad p now then (p, 7) else match findP n (atP p now).all with
    | none => (atP p now, 8)
    | some (i, x) => if x.st ≠ 2 then (atP p now, 9)
      else if ok = true then ({ atP p now with ans := IntKind.i64.wrap ((atP p now).ans + 1), all := (atP p now).all.set i { x with st := 3, reply := reply } }, 0)
      else if overL' x now = true then ({ atP p now with lat := IntKind.i64.wrap ((atP p now).lat + 1), all := (atP p now).all.set i { x with st := 5 } }, 0)
      else if x.tries ≤ x.tried then ({ atP p now with giv := IntKind.i64.wrap ((atP p now).giv + 1), all := (atP p now).all.set i { x with st := 4 } }, 0)
      else ({ atP p now with all := (atP p now).all.set i { x with st := 1, frm := IntKind.i64.wrap (now + (atP p now).pause) } }, 0)
set_option maxRecDepth 100000 in
theorem Done15 {H : World} {pb : Nat} {p : PP} {v : Value} {bs : List Nat} (st : PSt H pb p v bs) (ha : Asc p.all) (hl : bs.length < 2 ^ 62) {n : Int} (hn : I64 n) (now : Int) (ok : Bool) (reply : List UInt8) {Q : Value → World → Prop}
    (hq : ∀ H', PSt H' pb (pDone p n now ok reply).1 v bs → FrP H H' pb v bs v bs → Q (.int .i64 (pDone p n now ok reply).2) H') : FW X 15 #[p0 pb, .int .i64 n, .int .i64 now, .bool ok, .string (sB reply)] H Q := by
  refine FW.walk (by simp [X]) Try.func15 Try.ntmps15 rfl (by simp) ?_
  unfold pDone at hq
  by_cases h1 : 1000 < (reply.length : Int)
  · rw [if_pos h1] at hq
    simp [pptr_nil, h1]
    exact hq _ st FrP.refl
  rw [if_neg h1] at hq
  simp [pptr_nil, h1]
  refine at35 st (by omega) now (fun hb => ?_) fun hb H2 st2 fr2 => ?_
  · rw [if_pos hb] at hq
    simp
    exact hq _ st FrP.refl
  rw [if_neg hb] at hq
  simp
  refine find37 st2 (ha.at now) hl hn _ ?_
  have hp2 := st2.hp
  have lp2 := getO_lt hp2
  cases hf : findP n (atP p now).all with
  | none =>
    rw [hf] at hq
    simp [bestP, lnil_nil]
    exact hq _ st2 fr2
  | some ix =>
    obtain ⟨i, x⟩ := ix
    rw [hf] at hq
    simp only at hq
    obtain ⟨hi, hix, _⟩ := findP_at hf
    have hi' : i < bs.length := by rw [st2.len]; exact hi
    have hlk := st2.look hi'
    rw [hix] at hlk
    have lb := getO_lt hlk
    have hm := List.getElem_mem hi'
    have npb : ¬ pb = bs[i] := fun e => st2.pbn (by rw [e]; exact hm)
    have npb2 : ¬ bs[i] = pb := fun e => npb e.symm
    by_cases h2 : x.st = 2
    · rw [if_neg (by simp [h2])] at hq
      cases ok with
      | true =>
        rw [if_pos rfl] at hq
        simp [bestP, hi', lptr_nil, hlk, h2, lb, overL, npb, npb2, hp2, lp2]
        exact hq _ ((st2.setL hi' { x with st := 3, reply := reply }).setP (p' := { atP p now with ans := IntKind.i64.wrap ((atP p now).ans + 1), all := (atP p now).all.set i { x with st := 3, reply := reply } }) rfl) (fr2.trans ((FrP.setL hm _).trans (FrP.setP _)))
      | false =>
        rw [if_neg (by simp)] at hq
        have hov := fun Q => over38 hlk now Q
        cases ho : overL' x now with
        | true =>
          rw [if_pos ho] at hq
          simp [bestP, hi', lptr_nil, hlk, h2, lb, overL, npb, npb2, hp2, lp2, hov, ho]
          exact hq _ ((st2.setL hi' { x with st := 5 }).setP (p' := { atP p now with lat := IntKind.i64.wrap ((atP p now).lat + 1), all := (atP p now).all.set i { x with st := 5 } }) rfl) (fr2.trans ((FrP.setL hm _).trans (FrP.setP _)))
        | false =>
          rw [if_neg (by simp [ho])] at hq
          simp [bestP, hi', lptr_nil, hlk, h2, lb, overL, npb, npb2, hp2, lp2, hov, ho]
          refine WP.draw0 (by decide +kernel) (by decide +kernel) ?_
          by_cases h3 : x.tries ≤ x.tried
          · rw [if_pos h3] at hq
            simp [bestP, hi', lptr_nil, hlk, h2, h3, lb, overL, npb, npb2, hp2, lp2, hov, ho]
            exact hq _ ((st2.setL hi' { x with st := 4 }).setP (p' := { atP p now with giv := IntKind.i64.wrap ((atP p now).giv + 1), all := (atP p now).all.set i { x with st := 4 } }) rfl) (fr2.trans ((FrP.setL hm _).trans (FrP.setP _)))
          · rw [if_neg h3] at hq
            simp [bestP, hi', lptr_nil, hlk, h2, h3, lb, overL, npb, npb2, hp2, lp2, hov, ho]
            exact hq _ (st2.setL hi' { x with st := 1, frm := IntKind.i64.wrap (now + (atP p now).pause) }) (fr2.trans (FrP.setL hm _))
    · rw [if_pos h2] at hq
      simp [bestP, hi', lptr_nil, hlk, h2]
      exact hq _ st2 fr2
def pState (p : PP) (n now : Int) : PP × (Int × Int) := if atBad p now then (p, (0, 7)) else match findP n (atP p now).all with
  | none => (atP p now, (0, 8))
  | some (i, x) => (atP p now, (x.st, 0))
set_option maxRecDepth 100000 in
theorem State47 {H : World} {pb : Nat} {p : PP} {v : Value} {bs : List Nat} (st : PSt H pb p v bs) (ha : Asc p.all) (hl : bs.length < 2 ^ 62) {n : Int} (hn : I64 n) (now : Int) {Q : Value → World → Prop}
    (hq : ∀ H', PSt H' pb (pState p n now).1 v bs → FrP H H' pb v bs v bs → Q (.tuple #[.int .i64 (pState p n now).2.1, .int .i64 (pState p n now).2.2]) H') : FW X 47 #[p0 pb, .int .i64 n, .int .i64 now] H Q := by
  refine FW.walk (by simp [X]) Try.func47 Try.ntmps47 rfl (by simp) ?_
  unfold pState at hq
  simp
  refine at35 st (by omega) now (fun hb => ?_) fun hb H2 st2 fr2 => ?_
  · rw [if_pos hb] at hq
    simp
    exact hq _ st FrP.refl
  rw [if_neg hb] at hq
  simp
  refine find37 st2 (ha.at now) hl hn _ ?_
  cases hf : findP n (atP p now).all with
  | none =>
    rw [hf] at hq
    simp [bestP, lnil_nil]
    exact hq _ st2 fr2
  | some ix =>
    obtain ⟨i, x⟩ := ix
    rw [hf] at hq
    obtain ⟨hi, hix, _⟩ := findP_at hf
    have hi' : i < bs.length := by rw [st2.len]; exact hi
    have hlk := st2.look hi'
    rw [hix] at hlk
    simp [bestP, hi', lptr_nil, hlk]
    exact hq _ st2 fr2
set_option maxRecDepth 100000 in
theorem tell39 {H : World} {pb : Nat} {p : PP} {v : Value} {bs : List Nat} (st : PSt H pb p v bs) {i : Nat} (hi : i < bs.length) {x : Lt} (hx : p.all[i]'(st.len ▸ hi) = x) {Q : Value → World → Prop}
    (hq : ∀ H', PSt H' pb { p with all := p.all.set i { x with told := true } } v bs → FrP H H' pb v bs v bs → Q (.agg #[.int .i64 x.num, .int .i64 x.st, .string (sB x.reply)]) H') : FW X 39 #[p0 bs[i]] H Q := by
  refine FW.walk (by simp [X]) Try.func39 Try.ntmps39 rfl (by simp) ?_
  have h := st.look hi
  rw [hx] at h
  have hm := List.getElem_mem hi
  have lb := getO_lt h
  have nb : ¬ bs[i] = H.heap.size := by omega
  have nb2 : ¬ H.heap.size = bs[i] := by omega
  have nf := st.fresh (i := H.heap.size) (Nat.le_refl _)
  simp [allocX, szO, nb, nb2, h, lb, overL]
  refine WP.draw0 (by decide +kernel) (by decide +kernel) ?_
  have lb1 : bs[i] < H.heap.size + 1 := by omega
  simp [nb, nb2, h, lb, lb1, overL, buildQ, fillX]
  exact hq _ (((st.push _).setL hi { x with told := true }).setOther _ nf.1 nf.2.1 nf.2.2) (((FrP.push _).trans (FrP.setL hm _)).setFresh _ (Nat.le_refl _))
def pPoll (p : PP) (n now : Int) : PP × (List UInt8 × Int) := if atBad p now then (p, ([], 7)) else match findP n (atP p now).all with
  | none => (atP p now, ([], 8))
  | some (i, x) => if x.told = true then (atP p now, ([], 8)) else if x.back = true then (atP p now, ([], 10)) else if x.st ≤ 2 then (atP p now, ([], 9)) else if x.st = 4 then (atP p now, ([], 4)) else if x.st = 5 then (atP p now, ([], 16))
    else ({ atP p now with all := (atP p now).all.set i { x with told := true } }, (x.reply, 0))
set_option maxRecDepth 100000 in
theorem Poll16 {H : World} {pb : Nat} {p : PP} {v : Value} {bs : List Nat} (st : PSt H pb p v bs) (ha : Asc p.all) (hl : bs.length < 2 ^ 62) {n : Int} (hn : I64 n) (now : Int) {Q : Value → World → Prop}
    (hq : ∀ H', PSt H' pb (pPoll p n now).1 v bs → FrP H H' pb v bs v bs → Q (.tuple #[.string (sB (pPoll p n now).2.1), .int .i64 (pPoll p n now).2.2]) H') : FW X 16 #[p0 pb, .int .i64 n, .int .i64 now] H Q := by
  refine FW.walk (by simp [X]) Try.func16 Try.ntmps16 rfl (by simp) ?_
  unfold pPoll at hq
  simp
  refine at35 st (by omega) now (fun hb => ?_) fun hb H2 st2 fr2 => ?_
  · rw [if_pos hb] at hq
    simp
    exact hq _ st FrP.refl
  rw [if_neg hb] at hq
  simp
  refine find37 st2 (ha.at now) hl hn _ ?_
  cases hf : findP n (atP p now).all with
  | none =>
    rw [hf] at hq
    simp [bestP, lnil_nil]
    exact hq _ st2 fr2
  | some ix =>
    obtain ⟨i, x⟩ := ix
    rw [hf] at hq
    simp only at hq
    obtain ⟨hi, hix, _⟩ := findP_at hf
    have hi' : i < bs.length := by rw [st2.len]; exact hi
    have hlk := st2.look hi'
    rw [hix] at hlk
    cases h1 : x.told with
    | true =>
      rw [if_pos h1] at hq
      simp [bestP, hi', lptr_nil, hlk, h1]
      exact hq _ st2 fr2
    | false =>
    rw [if_neg (by simp [h1])] at hq
    cases h2 : x.back with
    | true =>
      rw [if_pos h2] at hq
      simp [bestP, hi', lptr_nil, hlk, h1, h2]
      exact hq _ st2 fr2
    | false =>
    rw [if_neg (by simp [h2])] at hq
    by_cases h3 : x.st ≤ 2
    · rw [if_pos h3] at hq
      simp [bestP, hi', lptr_nil, hlk, h1, h2, h3]
      exact hq _ st2 fr2
    rw [if_neg h3] at hq
    by_cases h4 : x.st = 4
    · rw [if_pos h4] at hq
      simp [bestP, hi', lptr_nil, hlk, h1, h2, h4]
      exact hq _ st2 fr2
    rw [if_neg h4] at hq
    by_cases h5 : x.st = 5
    · rw [if_pos h5] at hq
      simp [bestP, hi', lptr_nil, hlk, h1, h2, h5]
      exact hq _ st2 fr2
    rw [if_neg h5] at hq
    simp [bestP, hi', lptr_nil, hlk, h1, h2, h3, h4, h5]
    refine tell39 st2 hi' hix fun H3 st3 fr3 => ?_
    simp
    exact hq _ st3 (fr2.trans fr3)
end Go.Proofs.Ytjecafhbhcjoaaa
end
