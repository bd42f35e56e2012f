/- Helpers of this claim: an evaluator over plain values and its laws. -/
import Derived.Test.YtjecafhbhcjoaaaQk
section
set_option linter.unusedVariables false
set_option linter.unusedSimpArgs false
namespace Go.Proofs.Ytjecafhbhcjoaaa
open Go Go.Proofs.Ytjecafhbhcjoaaa.Den
section
variable {H : World} {rb : Nat} {q : RP} {v : Value}
def rWith (q : RP) (n now : Int) : RP × Int := if badR q now then (q, 7) else match getR n (atR q now).l with
  | none => (atR q now, 8)
  | some (i, x) => if x.st ≠ 1 then (atR q now, 9) else ({ atR q now with l := (atR q now).l.set i { x with st := 6 } }, 0)
set_option maxRecDepth 100000 in
theorem With52 (st : RSt H rb q v) (hl : q.l.length < 2 ^ 40) (n now : Int) {Q : Value → World → Prop}
    (hq : ∀ H', RSt H' rb (rWith q n now).1 v → FrR H H' rb v v → Q (.int .i64 (rWith q n now).2) H') : FW X 52 #[p0 rb, .int .i64 n, .int .i64 now] H Q := by
  refine FW.walk (by simp [X]) Try.func52 Try.ntmps52 rfl (by simp) ?_
  unfold rWith at hq
  simp
  refine look58 st hl now (fun hb => ?_) fun hb H2 st2 fr2 => ?_
  · rw [if_pos hb] at hq
    simp
    exact hq _ st FrR.refl
  rw [if_neg hb] at hq
  have hl2 : (atR q now).l.length < 2 ^ 40 := by simpa [atR] using hl
  have his := fun n Q => is67 st2 hl2 n Q
  cases hg : getR n (atR q now).l with
  | none =>
    rw [hg] at hq
    simp [his, hg]
    exact hq _ st2 fr2
  | some ix =>
    obtain ⟨i, x⟩ := ix
    rw [hg] at hq
    obtain ⟨rfl, h6, hi, hx⟩ := getR_at hg
    obtain ⟨r, hv, hr, hle, hrow, nr1, nr2, hlt⟩ := st2.at hi
    have hst := (flatX_get hi hx).1
    have hset := set_st hi hx 6
    have fin := st2.setL hv i { x with st := 6 }
    have hw : IntKind.i64.wrap (i : Int) = i := wrap64 (by omega) (by omega)
    have hp := st2.hp
    have hle2 : i * 12 + 7 + 1 ≤ (flatX (atR q now).l).length := by omega
    simp only at hq
    by_cases h1 : x.st = 1
    · rw [if_neg (by simp [h1])] at hq
      have hq := hq _ fin (fr2.trans (FrR.setRow _ hv))
      rw [hv] at hp
      simp [his, hg, hp, hw, hi, hr, hst, dec_t h1, hle2, overL, hset]
      exact hq
    · rw [if_pos h1] at hq
      have hq := hq _ st2 fr2
      rw [hv] at hp
      simp [his, hg, hp, hw, hi, hr, hst, dec_f h1]
      exact hq
def rPoll (q : RP) (n now : Int) : RP × (List UInt8 × Int) := if badR q now then (q, ([], 7)) else match getR n (atR q now).l with
  | none => (atR q now, ([], 8))
  | some (i, x) => if x.told = true then (atR q now, ([], 8)) else if x.back = true then (atR q now, ([], 10)) else if x.st = 1 ∨ x.st = 2 then (atR q now, ([], 9)) else if x.st = 4 then (atR q now, ([], 4)) else if x.st = 5 then (atR q now, ([], 16))
    else ({ atR q now with l := (atR q now).l.set i { x with told := true } }, (x.reply, 0))
set_option maxRecDepth 100000 in
theorem Poll49 (st : RSt H rb q v) (hl : q.l.length < 2 ^ 40) (n now : Int) {Q : Value → World → Prop}
    (hq : ∀ H', RSt H' rb (rPoll q n now).1 v → FrR H H' rb v v → Q (.tuple #[.string (sB (rPoll q n now).2.1), .int .i64 (rPoll q n now).2.2]) H') : FW X 49 #[p0 rb, .int .i64 n, .int .i64 now] H Q := by
  refine FW.walk (by simp [X]) Try.func49 Try.ntmps49 rfl (by simp) ?_
  unfold rPoll at hq
  simp
  refine look58 st hl now (fun hb => ?_) fun hb H2 st2 fr2 => ?_
  · rw [if_pos hb] at hq
    simp
    exact hq _ st FrR.refl
  rw [if_neg hb] at hq
  have hl2 : (atR q now).l.length < 2 ^ 40 := by simpa [atR] using hl
  have his := fun n Q => is67 st2 hl2 n Q
  cases hg : getR n (atR q now).l with
  | none =>
    rw [hg] at hq
    simp [his, hg]
    exact hq _ st2 fr2
  | some ix =>
    obtain ⟨i, x⟩ := ix
    rw [hg] at hq
    obtain ⟨rfl, h6, hi, hx⟩ := getR_at hg
    obtain ⟨r, hv, hr, hle, hrow, nr1, nr2, hlt⟩ := st2.at hi
    have hst := (flatX_get hi hx).1
    obtain ⟨-, -, -, -, htold, hback, hrep⟩ := flatX_get hi hx
    have hset := set_told hi hx true
    have fin := st2.setL hv i { x with told := true }
    have hrep2 := (flatX_get (l := (atR q now).l.set i { x with told := true }) (k := i) (by simpa using hi) (x := { x with told := true }) (by simp)).2.2.2.2.2.2
    have hw : IntKind.i64.wrap (i : Int) = i := wrap64 (by omega) (by omega)
    have hp := st2.hp
    have hle2 : i * 12 + 11 + 1 ≤ (flatX (atR q now).l).length := by omega
    simp only at hq
    cases h1 : x.told with
    | true =>
      rw [if_pos h1] at hq
      have hq := hq _ st2 fr2
      rw [hv] at hp
      simp [his, hg, hp, hw, hi, hr, htold, h1]
      exact hq
    | false =>
    rw [if_neg (by simp [h1])] at hq
    cases h2 : x.back with
    | true =>
      rw [if_pos h2] at hq
      have hq := hq _ st2 fr2
      rw [hv] at hp
      simp [his, hg, hp, hw, hi, hr, htold, h1, hback, h2]
      exact hq
    | false =>
    rw [if_neg (by simp [h2])] at hq
    by_cases h3 : x.st = 1
    · rw [if_pos (.inl h3)] at hq
      have hq := hq _ st2 fr2
      rw [hv] at hp
      simp [his, hg, hp, hw, hi, hr, htold, h1, hback, h2, hst, dec_t h3]
      exact hq
    by_cases h4 : x.st = 2
    · rw [if_pos (.inr h4)] at hq
      have hq := hq _ st2 fr2
      rw [hv] at hp
      simp [his, hg, hp, hw, hi, hr, htold, h1, hback, h2, hst, dec_f h3, dec_t h4]
      exact hq
    rw [if_neg (fun h => h.elim h3 h4)] at hq
    by_cases h5 : x.st = 4
    · rw [if_pos h5] at hq
      have hq := hq _ st2 fr2
      rw [hv] at hp
      simp [his, hg, hp, hw, hi, hr, htold, h1, hback, h2, hst, dec_f h3, dec_f h4, dec_t h5]
      exact hq
    rw [if_neg h5] at hq
    by_cases h7 : x.st = 5
    · rw [if_pos h7] at hq
      have hq := hq _ st2 fr2
      rw [hv] at hp
      simp [his, hg, hp, hw, hi, hr, htold, h1, hback, h2, hst, dec_f h3, dec_f h4, dec_f h5, dec_t h7]
      exact hq
    rw [if_neg h7] at hq
    have hq := hq _ fin (fr2.trans (FrR.setRow _ hv))
    rw [hv] at hp
    rw [h1] at htold
    rw [h2] at hback
    simp [his, hg, hp, hw, hi, hr, htold, hback, hst, dec_f h3, dec_f h4, dec_f h5, dec_f h7, hle2, overL, hset, hlt, hrep2]
    exact hq
def rDone (q : RP) (n now : Int) (ok : Bool) (reply : List UInt8) : RP × Int :=
  if 1000 < (reply.length : Int) then (q, 1) else if badR q now then (q, 7) else match getR n (atR q now).l with
    | none => (atR q now, 8)
    | some (i, x) => if x.st ≠ 2 then (atR q now, 9)
      else if ok = true then ({ atR q now with l := (atR q now).l.set i { x with st := 3, reply := reply } }, 0)
      else if overL' x now = true then ({ atR q now with l := (atR q now).l.set i { x with st := 5 } }, 0)
      else if x.tries ≤ x.tried then ({ atR q now with l := (atR q now).l.set i { x with st := 4 } }, 0)
      else ({ atR q now with l := (atR q now).l.set i { x with st := 1, frm := IntKind.i64.wrap (now + (atR q now).pause) } }, 0)
set_option maxRecDepth 100000 in
theorem Done46 (st : RSt H rb q v) (hl : q.l.length < 2 ^ 40) (n now : Int) (ok : Bool) (reply : List UInt8) {Q : Value → World → Prop}
    (hq : ∀ H', RSt H' rb (rDone q n now ok reply).1 v → FrR H H' rb v v → Q (.int .i64 (rDone q n now ok reply).2) H') : FW X 46 #[p0 rb, .int .i64 n, .int .i64 now, .bool ok, .string (sB reply)] H Q := by
  refine FW.walk (by simp [X]) Try.func46 Try.ntmps46 rfl (by simp) ?_
  unfold rDone at hq
  by_cases hlen : 1000 < (reply.length : Int)
  · rw [if_pos hlen] at hq
    simp [hlen]
    exact hq _ st FrR.refl
  rw [if_neg hlen] at hq
  simp [hlen]
  refine look58 st hl now (fun hb => ?_) fun hb H2 st2 fr2 => ?_
  · rw [if_pos hb] at hq
    simp
    exact hq _ st FrR.refl
  rw [if_neg hb] at hq
  have hl2 : (atR q now).l.length < 2 ^ 40 := by simpa [atR] using hl
  have his := fun n Q => is67 st2 hl2 n Q
  cases hg : getR n (atR q now).l with
  | none =>
    rw [hg] at hq
    simp [his, hg]
    exact hq _ st2 fr2
  | some ix =>
    obtain ⟨i, x⟩ := ix
    rw [hg] at hq
    obtain ⟨rfl, h6, hi, hx⟩ := getR_at hg
    obtain ⟨r, hv, hr, hle, hrow, nr1, nr2, hlt⟩ := st2.at hi
    rw [hx] at hrow
    obtain ⟨hst, htried, htries, -, -, -, -⟩ := flatX_get hi hx
    have fin := fun y => st2.setL hv i y
    have hw : IntKind.i64.wrap (i : Int) = i := wrap64 (by omega) (by omega)
    have hp := st2.hp
    have hle2 : i * 12 + 7 + 1 ≤ (flatX (atR q now).l).length := by omega
    have hfl : ∀ y, (flatX ((atR q now).l.set i y)).length = (flatX (atR q now).l).length := fun y => by simp [flatX, flatE_len encX_size]
    have hle3 : i * 12 + 10 + 1 ≤ (flatX (atR q now).l).length := by omega
    have hle4 : i * 12 + 9 + 1 ≤ (flatX (atR q now).l).length := by omega
    have hi2 : ∀ y, i < ((atR q now).l.set i y).length := fun y => by simpa using hi
    have hset3 := set_st hi hx 3
    have hset5 := set_st hi hx 5
    have hset4 := set_st hi hx 4
    have hset1 := set_st hi hx 1
    have hsetr := set_reply (hi2 { x with st := 3 }) (by simp : _ = { x with st := 3 }) reply
    have hsetf := set_frm (hi2 { x with st := 1 }) (by simp : _ = { x with st := 1 }) (IntKind.i64.wrap (now + (atR q now).pause))
    simp only [List.set_set] at hsetr hsetf
    have hov := fun H Q => over68 x now H Q
    simp only at hq
    by_cases h2 : x.st = 2
    · rw [if_neg (by simp [h2])] at hq
      cases ok with
      | true =>
        rw [if_pos rfl] at hq
        have hq := hq _ (fin { x with st := 3, reply := reply }) (fr2.trans (FrR.setRow _ hv))
        rw [hv] at hp
        simp [his, hg, hp, hw, hi, hr, hst, dec_t h2, hle2, hle3, overL, hset3, hlt, hfl, hsetr, nr1, nr2]
        exact hq
      | false =>
        rw [if_neg (by simp)] at hq
        cases ho : overL' x now with
        | true =>
          rw [if_pos ho] at hq
          have hq := hq _ (fin { x with st := 5 }) (fr2.trans (FrR.setRow _ hv))
          rw [hv] at hp
          simp [his, hg, hp, hw, hi, hr, hst, dec_t h2, hle, hle2, hrow, overL, hset5, hlt, hov, ho]
          exact hq
        | false =>
          rw [if_neg (by simp [ho])] at hq
          have hd := dec_t h2
          by_cases h3 : x.tries ≤ x.tried
          · rw [if_pos h3] at hq
            have hq := hq _ (fin { x with st := 4 }) (fr2.trans (FrR.setRow _ hv))
            rw [hv] at hp
            simp [his, hg, hp, hw, hi, hr, hst, hd, hle, hle2, hrow, overL, hlt, hov, ho]
            refine WP.draw0 (by decide +kernel) (by decide +kernel) ?_
            simp [hr, htried, htries, h3, hle2, hset4, hlt, overL]
            exact hq
          · rw [if_neg h3] at hq
            have hq := hq _ (fin { x with st := 1, frm := IntKind.i64.wrap (now + (atR q now).pause) }) (fr2.trans (FrR.setRow _ hv))
            rw [hv] at hp
            simp [his, hg, hp, hw, hi, hr, hst, hd, hle, hle2, hrow, overL, hlt, hov, ho]
            refine WP.draw0 (by decide +kernel) (by decide +kernel) ?_
            simp [hr, htried, htries, h3, hle2, hle4, hset1, hlt, overL, hp, hfl, hsetf, nr1, nr2]
            exact hq
    · rw [if_pos h2] at hq
      have hq := hq _ st2 fr2
      rw [hv] at hp
      simp [his, hg, hp, hw, hi, hr, hst, dec_f h2]
      exact hq
end
end Go.Proofs.Ytjecafhbhcjoaaa
end
