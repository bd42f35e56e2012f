/- Helpers of this claim: an evaluator over plain values and its laws. -/
import Derived.Test.YtjecafhbhcjoaaaQf
section
set_option linter.unusedVariables false
set_option linter.unusedSimpArgs false
namespace Go.Proofs.Ytjecafhbhcjoaaa
open Go Go.Proofs.Ytjecafhbhcjoaaa.Den
def Sep (pb : Nat) (v : Value) (bs : List Nat) (vo : Value) : Prop := Apart vo pb ∧ ApV vo v ∧ ∀ b ∈ bs, Apart vo b
section
variable {H0 H H' : World} {pb : Nat} {p : PP} {v v' vo vo' : Value} {bs bs' : List Nat} {es : Nat} {e : TypeId} {n m : Nat} {cs new : List Value}
theorem Acc.frp (h : Den.Acc H vo es e n cs) (hs : Sep pb v bs vo) (fr : FrP H H' pb v bs v' bs') : Den.Acc H' vo es e n cs ∧ Sep pb v' bs' vo := by
  obtain ⟨h1, ⟨rfl, rfl⟩ | ⟨r, rfl, h2, h3⟩⟩ := h
  · refine ⟨⟨h1, .inl ⟨rfl, rfl⟩⟩, fun r n c e => by (cases e), fun r n c e r' n' c' e' => by (cases e'), fun b _ r n c e => by (cases e)⟩
  · have a1 : r ≠ pb := fun e => hs.1 r _ _ rfl e.symm
    have a2 : Apart v r := fun r' n' c' e' e => hs.2.1 r' n' c' e' r _ _ rfl e.symm
    have a3 : r ∉ bs := fun hm => hs.2.2 r hm r _ _ rfl rfl
    obtain ⟨b1, b2⟩ := fr.fresh r (getO_lt h3) a1 a2 a3
    refine ⟨⟨h1, .inr ⟨r, rfl, h2, fr.keep _ _ h3 a1 a2 a3⟩⟩, hs.1, fun r' n' c' e' r2 n2 c2 e2 => ?_, fun b hb r2 n2 c2 e2 e => ?_⟩
    · cases e2
      exact fun e => b1 r' n' c' e' e.symm
    · cases e2
      subst e
      exact b2 hb
theorem PSt.keepS (st : PSt H pb p v bs) (hs : Sep pb v bs vo) (hk : ∀ i o, getO H i = some o → Apart vo i → getO H' i = some o) : PSt H' pb p v bs :=
  ⟨hk _ _ st.hp hs.1, st.hv.keep fun r o h _ hna => hk _ _ h (by
    rcases st.hv with ⟨rfl, _⟩ | ⟨r', tail, rfl, _, h3, _⟩
    · exact absurd (fun r n c e => by cases e) hna
    · by_cases hr : r = r'
      · subst hr; exact hs.2.1 _ _ _ rfl
      · exact absurd (fun r2 n c e e2 => hr (by cases e; exact e2)) hna), st.len, fun i h1 h2 => hk _ _ (st.hl i h1 h2) (hs.2.2 _ (List.getElem_mem h1)), st.nd, st.apv, st.apl, st.pbn⟩
theorem Sep.next (st : PSt H pb p v bs) (hs : Sep pb v bs vo) (ha : ∀ i, Apart vo i → i < H.heap.size → Apart vo' i) : Sep pb v bs vo' :=
  ⟨ha _ hs.1 (getO_lt st.hp), fun r n c e => by
    rcases st.hv with ⟨rfl, _⟩ | ⟨r', tail, rfl, _, h3, _⟩
    · cases e
    · have := hs.2.1 r n c e
      cases e
      exact ha _ this (getO_lt h3), fun b hb => ha _ (hs.2.2 b hb) (st.lt hb)⟩
theorem FrP.keepS (fr : FrP H0 H pb v bs v bs) (ho : ∀ j, j < H0.heap.size → Apart vo j) (hk : ∀ i o, getO H i = some o → Apart vo i → getO H' i = some o) (sz : H.heap.size ≤ H'.heap.size) : FrP H0 H' pb v bs v bs :=
  ⟨fun j o h h1 h2 h3 => hk _ _ (fr.keep j o h h1 h2 h3) (ho j (getO_lt h)), fr.fresh, Nat.le_trans fr.size sz⟩
end
/-! ### replies -/
structure Rp where
  num : Int
  st : Int
  text : List UInt8
abbrev encR (x : Rp) : Value := .agg #[.int .i64 x.num, .int .i64 x.st, .string (sB x.text)]
def AccR (H : World) (v : Value) (xs : List Rp) : Prop := Den.Acc H v 3 50 xs.length ((xs.map encR).flatMap fun v => v.cells.toList)
theorem AccR.nil {H : World} : AccR H (.slice none 0 0) [] := Acc.nil
set_option maxRecDepth 100000 in
theorem AccR.add {H : World} {v : Value} {xs : List Rp} (h : AccR H v xs) (hl : xs.length < 2 ^ 30) (x : Rp) :
    ∃ v' H', builtinX Try.prog .append #[46, 46] #[v, .slice (some ⟨H.heap.size, 0, none⟩) 1 1] (pushObj H (.cells #[.int .i64 x.num, .int .i64 x.st, .string (sB x.text)] 50 (0, 0))) = some (.value v', H') ∧
    AccR H' v' (xs ++ [x]) ∧ (∀ i o, getO H i = some o → Apart v i → getO H' i = some o) ∧ H.heap.size ≤ H'.heap.size ∧ (∀ i, Apart v i → i < H.heap.size → Apart v' i) := by
  have hx : SrcX Try.prog 3 (.slice (some ⟨H.heap.size, 0, none⟩) 1 1) (pushObj H (.cells #[.int .i64 x.num, .int .i64 x.st, .string (sB x.text)] 50 (0, 0))) 1 [.int .i64 x.num, .int .i64 x.st, .string (sB x.text)] := SrcX.row (e := 50) (fr := (0, 0)) (by simp) rfl
  obtain ⟨v', H', h1, h2, h3, h4, h5⟩ := Acc.append Try.prog (t1 := 46) (t2 := 46) (inf := Try.t50) (h.push (.cells #[.int .i64 x.num, .int .i64 x.st, .string (sB x.text)] 50 (0, 0))) Try.underlying46 (by simp) Try.type50 zero50 (by simp) (by simp) (by decide) (by simp) (by simp) hx rfl (by simp) (by rw [bytes50]; omega)
  refine ⟨v', H', h1, ?_, fun i o h ha => h3 i o (by have := getO_lt h; rw [get_push, if_neg (by omega)]; exact h) ha, by simp at h4; omega, fun i ha hi => h5 i ha (by simp; omega)⟩
  unfold AccR
  simp at h2 ⊢
  exact h2
def toTell (x : Lt) : Bool := x.back && !x.told && decide (2 < x.st)
def tellF (x : Lt) : Lt := if toTell x = true then { x with told := true } else x
def backsL (l : List Lt) : List Rp := (l.filter toTell).map fun x => ⟨x.num, x.st, x.reply⟩
theorem backsL_take {l : List Lt} {k : Nat} (hk : k < l.length) : backsL (l.take (k + 1)) = backsL (l.take k) ++ if toTell l[k] = true then [⟨l[k].num, l[k].st, l[k].reply⟩] else [] := by
  unfold backsL
  rw [List.take_succ_eq_append_getElem hk, List.filter_append]
  by_cases h : toTell l[k] = true
  · simp [List.filter_cons, h]
  · simp [List.filter_cons, h]
theorem backsL_len (l : List Lt) : (backsL l).length ≤ l.length := by
  unfold backsL
  rw [List.length_map]
  exact List.length_filter_le _ _
def pBacks (p : PP) (now : Int) : PP × (List Rp × Int) := if atBad p now then (p, ([], 7)) else ({ atP p now with all := (atP p now).all.map tellF }, (backsL (atP p now).all, 0))
set_option maxRecDepth 100000 in
theorem Backs17 {H : World} {pb : Nat} {p : PP} {v : Value} {bs : List Nat} (st : PSt H pb p v bs) (hl : bs.length < 2 ^ 30) (now : Int) {Q : Value → World → Prop}
    (hq : ∀ H' vo, PSt H' pb (pBacks p now).1 v bs → FrP H H' pb v bs v bs → AccR H' vo (pBacks p now).2.1 → Sep pb v bs vo → (∀ j, j < H.heap.size → Apart vo j) → Q (.tuple #[vo, .int .i64 (pBacks p now).2.2]) H') : FW X 17 #[p0 pb, .int .i64 now] H Q := by
  refine FW.walk (by simp [X]) Try.func17 Try.ntmps17 rfl (by simp) ?_
  unfold pBacks at hq
  have sep0 : Sep pb v bs (.slice none 0 0) := ⟨fun r n c e => by (cases e), fun r n c e r' n' c' e' => by (cases e'), fun b _ r n c e => by (cases e)⟩
  have old0 : ∀ j, j < H.heap.size → Apart (.slice none 0 0) j := fun j _ r n c e => by cases e
  simp
  refine at35 st (by omega) now (fun hb => ?_) fun hb H2 st2 fr2 => ?_
  · rw [if_pos hb] at hq
    simp
    exact hq _ _ st FrP.refl .nil sep0 old0
  rw [if_neg hb] at hq
  have hlen := fun H0 => st2.hv.len (H0 := H0)
  have hp2 := st2.hp
  have hbl := st2.len
  simp [hp2, hlen]
  generalize hQ : atP p now = q at *
  refine CE.range (m := bs.length) (fun k e H' => lk e 0 = p0 pb ∧ lk e 19 = v ∧ PSt H' pb { q with all := mix tellF q.all k } v bs ∧ FrP H H' pb v bs v bs ∧ ∃ vo, lk e 7 = vo ∧ AccR H' vo (backsL (q.all.take k)) ∧ Sep pb v bs vo ∧ ∀ j, j < H.heap.size → Apart vo j) ?_ (by omega) ?_ ?_ ?_
  · decide
  · simp
    rw [mix_zero]
    exact ⟨st2, fr2, .nil, sep0, old0⟩
  · rintro k e H' hk q1 q2 ⟨e0, e19, stk, frk, vo, e7, acc, sep, old⟩
    obtain ⟨r, c, cs, rfl, hnc, hr, hcs⟩ := stk.row (by omega)
    have hbs := hcs k hk
    have hk' : k < q.all.length := by omega
    have hlk := stk.look hk
    rw [mix_get hk'] at hlk
    rw [backsL_take hk']
    have hms := mix_succ (f := tellF) hk'
    have hmx := mix_get (f := tellF) hk'
    generalize hx : q.all[k] = x at *
    have step : ∀ b, toTell x = b → mix tellF q.all (k + 1) = if b = true then (mix tellF q.all k).set k { x with told := true } else mix tellF q.all k := by
      intro b hb2
      cases b with
      | true => rw [if_pos rfl, ← hms]; unfold tellF; rw [if_pos hb2]
      | false => rw [if_neg (by simp)]; exact mix_same hk' (by rw [hx]; unfold tellF; rw [if_neg (by simp [hb2])])
    cases h1 : x.back with
    | false =>
      have ht : toTell x = false := by simp [toTell, h1]
      rw [step _ ht]
      simp [q1, q2, e0, e19, hr, hk, hbs, hlk, h1, ht]
      exact ⟨stk, frk, e7 ▸ acc, e7 ▸ sep, e7 ▸ old⟩
    | true =>
    cases h2 : x.told with
    | true =>
      have ht : toTell x = false := by simp [toTell, h2]
      rw [step _ ht]
      simp [q1, q2, e0, e19, hr, hk, hbs, hlk, h1, h2, ht]
      exact ⟨stk, frk, e7 ▸ acc, e7 ▸ sep, e7 ▸ old⟩
    | false =>
    by_cases h3 : 2 < x.st
    · have ht : toTell x = true := by simp [toTell, h1, h2, h3]
      rw [step _ ht]
      simp [q1, q2, e0, e19, hr, hk, hbs, hlk, h1, h2, h3, ht]
      refine tell39 stk hk (x := x) hmx fun H3 st3 fr3 => ?_
      obtain ⟨acc3, sep3⟩ := Acc.frp acc sep fr3
      obtain ⟨v', H4, a1, a2, a3, a4, a5⟩ := AccR.add (xs := backsL (q.all.take k)) acc3 (by have := backsL_len (q.all.take k); rw [List.length_take] at this; omega) ⟨x.num, x.st, x.reply⟩
      simp [buildSliceX, inOrder, catCells, szO, e7, a1, q1, q2, e0, e19]
      rw [if_pos ht]
      exact ⟨st3.keepS sep3 a3, (frk.trans fr3).keepS old a3 a4, a2, sep3.next st3 a5, fun j hj => a5 j (old j hj) (by have := frk.size; have := fr3.size; omega)⟩
    · have ht : toTell x = false := by simp [toTell, h3]
      rw [step _ ht]
      simp [q1, q2, e0, e19, hr, hk, hbs, hlk, h1, h2, h3, ht]
      exact ⟨stk, frk, e7 ▸ acc, e7 ▸ sep, e7 ▸ old⟩
  · rintro e H' q1 q2 ⟨e0, e19, stk, frk, vo, e7, acc, sep, old⟩
    rw [hbl, mix_all] at stk
    rw [hbl, List.take_length] at acc
    simp [e7]
    exact hq _ _ stk frk acc sep old
end Go.Proofs.Ytjecafhbhcjoaaa
end
