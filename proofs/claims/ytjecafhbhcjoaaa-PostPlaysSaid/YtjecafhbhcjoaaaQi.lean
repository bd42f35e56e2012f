/- Helpers of this claim: an evaluator over plain values and its laws. -/
import Derived.Test.YtjecafhbhcjoaaaQh
section
set_option linter.unusedVariables false
set_option linter.unusedSimpArgs false
namespace Go.Proofs.Ytjecafhbhcjoaaa
open Go Go.Proofs.Ytjecafhbhcjoaaa.Den
theorem openLoop {n : Nat} {g : Tmp} {pt : Tmp} {ac bc : Code} {e : Env} {ds : List Deferred} {H : World} {Q : Exit → Env → List Deferred → World → Prop} {pb c D : Nat} {p : PP} {v : Value} {bs : List Nat} (hD : H.heap.size = D)
    (hg : lk e g = .func (.func 65) #[] #[p0 c]) (hpt : pt < n) (hl : bs.length < 2 ^ 62) (hbl : bs.length = p.all.length) (S : Nat → World → Prop)
    (hbase : ∀ k Hx, S k Hx → PSt Hx pb p v bs ∧ getO Hx c = some (.cells #[p0 pb] 32 (0, 0)))
    (h0 : ∀ l, S 0 (pushObj (pushObj H (.deferred (some []))) l)) (hset : ∀ k Hx i o, i = D ∨ i = D + 1 → S k Hx → S k (setO Hx i o))
    (hskip : ∀ k Hx (hk : k < bs.length), S k Hx → ¬ (p.all[k]'(hbl ▸ hk)).st = 1 → S (k + 1) Hx)
    (hbody : ∀ k Hx (hk : k < bs.length), S k Hx → (p.all[k]'(hbl ▸ hk)).st = 1 → WP X (some (D + 1)) n ac ((pt, p0 bs[k]) :: e) [] Hx (thenE (fun e1 ds1 H1 => H1 = Hx ∧ ∀ Hy, S k Hy →
      WP X (some (D + 1)) n bc e1 ds1 Hy (fun ex e2 ds2 H2 => ex = .normal ∧ S (k + 1) H2 ∧ ∀ i, i = D ∨ i = D + 1 → ∀ o, getO Hy i = some o → getO H2 i = some o)) (fun _ _ _ _ => False)))
    (hend : ∀ Hx, S bs.length Hx → getO Hx D = some (.deferred (some [])) → Q .normal e ({ target := .collected D, args := #[] } :: ds) Hx) :
    CE X none n (.rangeFunc (.tmp g) #[pt] ac bc) e ds H Q := by
  subst hD
  refine CE.rangeFunc (f := 65) (fs := #[]) (cs := #[p0 c]) (by simp [hg]) (by simp) (by simp) ?_
  intro T hT
  refine FW.inLoop fun l hl2 => ?_
  have d1 : getO (pushObj (pushObj H (.deferred (some []))) (.loop l)) H.heap.size = some (.deferred (some [])) := by simp
  have d2 : getO (pushObj (pushObj H (.deferred (some []))) (.loop l)) (H.heap.size + 1) = some (.loop l) := by simp
  have h0 := h0 (.loop l)
  generalize pushObj (pushObj H (.deferred (some []))) (.loop l) = H5 at *
  generalize hm : H.heap.size = D at *
  show FW X 65 _ _ _
  refine FW.imp (open65 (l := D + 1) (c := c) (pb := pb) (p := p) (v := v) (bs := bs) hl hbl (fun k Hk => S k Hk ∧ getO Hk D = some (.deferred (some [])) ∧ getO Hk (D + 1) = some (.loop l)) ?_ ?_ ?_ _ ⟨h0, d1, d2⟩) ?_
  · rintro k Hk ⟨h1, _, _⟩
    exact hbase k Hk h1
  · rintro k Hk hk ⟨h1, h2, h3⟩ hs
    exact ⟨hskip k Hk hk h1 hs, h2, h3⟩
  · rintro k Hk hk ⟨h1, h2, h3⟩ hs
    have h3' := h3
    rw [hl2] at h3
    refine yieldW.one h3 hT hpt ?_
    have hrs : l.state = .ready := by rw [hl2]; rfl
    have l12 := getO_lt h3
    refine WP_mono _ _ _ _ _ _ ?_ (hbody k Hk hk h1 hs)
    intro ex e1 ds1 H1 q
    cases ex with
    | normal =>
      obtain ⟨rfl, q⟩ := q
      refine ⟨l, h3', hrs, ?_⟩
      generalize hbz : Obj.loop { l with state := .busy } = bz
      have bz12 : getO (setO H1 (D + 1) bz) (D + 1) = some bz := by rw [get_set, if_pos rfl, if_pos l12]
      have bd : getO (setO H1 (D + 1) bz) D = some (.deferred (some [])) := by rw [get_set, if_neg (by omega)]; exact h2
      refine WP_mono _ _ _ _ _ _ ?_ (q (setO H1 (D + 1) bz) (hset _ _ _ _ (.inr rfl) h1))
      rintro ex e2 ds2 H2 ⟨rfl, q2, q3⟩
      have z1 := q3 _ (.inr rfl) _ bz12
      have z2 := q3 _ (.inl rfl) _ bd
      subst hbz
      refine ⟨_, z1, rfl, hset _ _ _ _ (.inr rfl) q2, by rw [get_set, if_neg (by omega)]; exact z2, ?_⟩
      rw [get_set, if_pos rfl, if_pos (getO_lt z1)]
      congr 2
      rw [hl2]; rfl
    | _ => exact q
  · rintro _ Hk ⟨h1, h2, h3⟩
    have hj : l.pending = none := by rw [hl2]; rfl
    have hb' : (l.state == LoopState.busy) = false := by rw [hl2]; rfl
    refine ⟨l, .normal, h3, hb', by rw [hj]; rfl, ?_⟩
    exact hend _ (hset _ _ _ _ (.inr rfl) h1) (by rw [get_set, if_neg (by omega)]; exact h2)
def AccI (H : World) (v : Value) (xs : List Int) : Prop := Den.Acc H v 1 3 xs.length ((xs.map (Value.int .i64)).flatMap fun v => v.cells.toList)
theorem AccI.nil {H : World} : AccI H (.slice none 0 0) [] := Acc.nil
set_option maxRecDepth 100000 in
theorem AccI.add {H : World} {v : Value} {xs : List Int} (h : AccI H v xs) (hl : xs.length < 2 ^ 30) (x : Int) :
    ∃ v' H', builtinX Try.prog .append #[22, 22] #[v, .slice (some ⟨H.heap.size, 0, none⟩) 1 1] (pushObj H (.cells #[.int .i64 x] 3 (0, 0))) = some (.value v', H') ∧
    AccI H' v' (xs ++ [x]) ∧ (∀ i o, getO H i = some o → Apart v i → getO H' i = some o) ∧ H.heap.size ≤ H'.heap.size ∧ (∀ i, Apart v i → i < H.heap.size → Apart v' i) := by
  have hx : SrcX Try.prog 1 (.slice (some ⟨H.heap.size, 0, none⟩) 1 1) (pushObj H (.cells #[.int .i64 x] 3 (0, 0))) 1 [.int .i64 x] := SrcX.row (e := 3) (fr := (0, 0)) (by simp) rfl
  obtain ⟨v', H', h1, h2, h3, h4, h5⟩ := Acc.append Try.prog (t1 := 22) (t2 := 22) (inf := Try.t3) (h.push (.cells #[.int .i64 x] 3 (0, 0))) Try.underlying22 (by simp) Try.type3 zero3 (by simp) (by simp) (by decide) (by simp) (by simp) hx rfl (by simp) (by rw [bytes3]; omega)
  refine ⟨v', H', h1, ?_, fun i o h ha => h3 i o (by have := getO_lt h; rw [get_push, if_neg (by omega)]; exact h) ha, by simp at h4; omega, fun i ha hi => h5 i ha (by simp; omega)⟩
  unfold AccI
  simp at h2 ⊢
  exact h2
def waitL (l : List Lt) : List Int := (l.filter fun x => decide (x.st = 1)).map (·.num)
theorem waitL_take {l : List Lt} {k : Nat} (hk : k < l.length) : waitL (l.take (k + 1)) = waitL (l.take k) ++ if l[k].st = 1 then [l[k].num] else [] := by
  unfold waitL
  rw [List.take_succ_eq_append_getElem hk, List.filter_append]
  by_cases h : l[k].st = 1
  · simp [List.filter_cons, h]
  · simp [List.filter_cons, h]
theorem waitL_len (l : List Lt) : (waitL l).length ≤ l.length := by
  unfold waitL
  rw [List.length_map]
  exact List.length_filter_le _ _
structure WtI (H : World) (pb : Nat) (p : PP) (v : Value) (bs : List Nat) (m c : Nat) (k : Nat) (Hx : World) : Prop where
  st : PSt Hx pb p v bs
  fr : FrP H Hx pb v bs v bs
  hc : getO Hx c = some (.cells #[p0 pb] 32 (0, 0))
  ex : ∃ vo, getO Hx m = some (.cells #[vo] 22 (0, 0)) ∧ AccI Hx vo (waitL (p.all.take k)) ∧ Sep pb v bs vo ∧ (∀ j, j < H.heap.size + 4 → Apart vo j)
  sz : H.heap.size + 4 ≤ Hx.heap.size
set_option maxRecDepth 100000 in
theorem Waiting21 {H : World} {pb : Nat} {p : PP} {v : Value} {bs : List Nat} (st : PSt H pb p v bs) (hl : bs.length < 2 ^ 30) {Q : Value → World → Prop}
    (hq : ∀ H' vo, PSt H' pb p v bs → FrP H H' pb v bs v bs → AccI H' vo (waitL p.all) → Sep pb v bs vo → (∀ j, j < H.heap.size → Apart vo j) → Q vo H') : FW X 21 #[p0 pb] H Q := by
  refine FW.walk (by simp [X]) Try.func21 Try.ntmps21 rfl (by simp) ?_
  have sep0 : Sep pb v bs (.slice none 0 0) := ⟨fun r n c e => by (cases e), fun r n c e r' n' c' e' => by (cases e'), fun b _ r n c e => by (cases e)⟩
  have hbl := st.len
  simp [pptr_nil, allocX, szO, open44, Value.cells]
  generalize hm : H.heap.size = m at *
  refine openLoop (D := m + 2) (c := m + 1) (pb := pb) (p := p) (v := v) (bs := bs) (by simp [hm]) (by simp) (by decide) (by omega) hbl (WtI H pb p v bs m (m + 1)) ?_ ?_ ?_ ?_ ?_ ?_
  · rintro k Hx ⟨h1, h2, h3, h4⟩
    exact ⟨h1, h3⟩
  · intro l
    refine ⟨(((st.push _).push _).push _).push _, (((FrP.push _).trans (FrP.push _)).trans (FrP.push _)).trans (FrP.push _), ?_, ⟨.slice none 0 0, ?_, ?_, sep0, fun j _ r n c e => by cases e⟩, by simp [hm]⟩
    · simp [hm]
    · have n1 : ¬ m = m + 1 + 1 + 1 := by omega
      have n2 : ¬ m = m + 1 + 1 := by omega
      simp [hm, n1, n2]
    · exact .nil
  · rintro k Hx i o hi ⟨h1, h2, h3, ⟨vo, h4, h5, h6, h7⟩, h8⟩
    have nf := st.fresh (i := i) (by omega)
    refine ⟨h1.setOther _ nf.1 nf.2.1 nf.2.2, h2.setFresh _ (by omega), by rw [get_set, if_neg (by omega)]; exact h3, ⟨vo, by rw [get_set, if_neg (by omega)]; exact h4, Acc.set h5 _ (h7 _ (by omega)), h6, h7⟩, by simpa using h8⟩
  · rintro k Hx hk ⟨h1, h2, h3, ⟨vo, h4, h5, h6, h7⟩, h8⟩ hs
    refine ⟨h1, h2, h3, ⟨vo, h4, ?_, h6, h7⟩, h8⟩
    rw [waitL_take (by omega), if_neg hs, List.append_nil]; exact h5
  · rintro k Hx hk ⟨h1, h2, h3, ⟨vo, h4, h5, h6, h7⟩, h8⟩ hs
    simp
    rintro Hy ⟨h1, h2, h3, ⟨vo, h4, h5, h6, h7⟩, h8⟩
    have hlk := h1.look hk
    generalize hx : p.all[k]'(hbl ▸ hk) = x at *
    refine WP.drawP [(0, 6)] (by decide +kernel) (by decide +kernel) ?_
    obtain ⟨v', H4, a1, a2, a3, a4, a5⟩ := AccI.add (xs := waitL (p.all.take k)) h5 (by have := waitL_len (p.all.take k); rw [List.length_take] at this; omega) x.num
    have g4 := a3 _ _ h4 (h7 m (by omega))
    have l4 := getO_lt g4
    simp [h4, hlk, buildSliceX, inOrder, catCells, szO, a1, g4, l4, overL, a2.one.1, a2.one.2]
    have nf := st.fresh (i := m) (by omega)
    refine ⟨.cons rfl rfl rfl ?_ .nil, ?_⟩
    · unfold reV
      have nm : ¬ m = Hy.heap.size := by omega
      simp [h4, g4, nm, h5.veq]
    · refine ⟨⟨(h1.keepS h6 a3).setOther _ nf.1 nf.2.1 nf.2.2, ?_, ?_, ⟨v', ?_, ?_, h6.next h1 a5, fun j hj => a5 j (h7 j hj) (by omega)⟩, by simp; omega⟩, ?_⟩
      · exact (h2.keepS (fun j hj => h7 j (by omega)) a3 a4).setFresh _ (by omega)
      · rw [get_set, if_neg (by omega)]; exact a3 _ _ h3 (h7 _ (by omega))
      · rw [get_set, if_pos rfl, if_pos l4]
      · rw [waitL_take (by omega), hx, if_pos hs]
        exact Acc.set a2 _ (a5 _ (h7 _ (by omega)) (by omega))
      · refine ⟨fun o ho => a3 _ _ ho (h7 _ (by omega)), fun o ho => ?_⟩
        rw [if_neg (by omega)]; exact a3 _ _ ho (h7 _ (by omega))
  · rintro Hx ⟨h1, h2, h3, ⟨vo, h4, h5, h6, h7⟩, h8⟩ hd
    simp [h4]
    rw [endE_mark hd]
    simp
    have nf := st.fresh (i := m + 2) (by omega)
    rw [hbl, List.take_length] at h5
    exact hq _ _ (h1.setOther _ nf.1 nf.2.1 nf.2.2) (h2.setFresh _ (by omega)) (Acc.set h5 _ (h7 _ (by omega))) h6 (fun j hj => h7 j (by omega))
end Go.Proofs.Ytjecafhbhcjoaaa
end

section
set_option linter.unusedVariables false
set_option linter.unusedSimpArgs false
namespace Go.Proofs.Ytjecafhbhcjoaaa
open Go Go.Proofs.Ytjecafhbhcjoaaa.Den
@[simp] theorem X_max (ts : Array TypeId) (k l : IntKind) (n m : Int) (H : World) : builtinX Try.prog .max ts #[.int k n, .int l m] H = some (.value (.int k (if n < m then m else n)), H) := _root_.id rfl
def maxW (a b : Int) : Int := if b > a then b else a
def whenF (now : Int) (a : Int) (x : Lt) : Int := if x.st = 1 ∧ overL' x (maxW x.frm now) = false ∧ maxW x.frm now ≤ 1000000000000 ∧ (a < 0 ∨ maxW x.frm now < a) then maxW x.frm now else a
def whenL (now : Int) (l : List Lt) : Int := l.foldl (whenF now) (-1)
theorem whenL_take {now : Int} {l : List Lt} {k : Nat} (hk : k < l.length) : whenL now (l.take (k + 1)) = whenF now (whenL now (l.take k)) l[k] := by
  unfold whenL
  rw [List.take_succ_eq_append_getElem hk, List.foldl_append]; rfl
def pWhen (p : PP) (now : Int) : PP × (Int × Int) := if atBad p now then (p, (0, 7)) else if whenL now (atP p now).all < 0 then (atP p now, (0, 8)) else (atP p now, (whenL now (atP p now).all, 0))
structure WnI (H : World) (pb : Nat) (p : PP) (v : Value) (bs : List Nat) (now : Int) (a b c D : Nat) (k : Nat) (Hx : World) : Prop where
  st : PSt Hx pb p v bs
  fr : FrP H Hx pb v bs v bs
  hc : getO Hx c = some (.cells #[p0 pb] 32 (0, 0))
  ha : getO Hx a = some (.cells #[.int .i64 now] 3 (0, 0))
  hb : getO Hx b = some (.cells #[.int .i64 (whenL now (p.all.take k))] 3 (0, 0))
  sz : D + 2 ≤ Hx.heap.size
set_option maxRecDepth 100000 in
theorem When53 {H : World} {pb : Nat} {p : PP} {v : Value} {bs : List Nat} (st : PSt H pb p v bs) (hl : bs.length < 2 ^ 62) (now : Int) {Q : Value → World → Prop}
    (hq : ∀ H', PSt H' pb (pWhen p now).1 v bs → FrP H H' pb v bs v bs → Q (.tuple #[.int .i64 (pWhen p now).2.1, .int .i64 (pWhen p now).2.2]) H') : FW X 53 #[p0 pb, .int .i64 now] H Q := by
  refine FW.walk (by simp [X]) Try.func53 Try.ntmps53 rfl (by simp) ?_
  unfold pWhen at hq
  have st1 := st.push (.cells #[.int .i64 now] 3 (0, 0))
  have fr1 : FrP H (pushObj H (.cells #[.int .i64 now] 3 (0, 0))) pb v bs v bs := FrP.push _
  have g1 : getO (pushObj H (.cells #[.int .i64 now] 3 (0, 0))) H.heap.size = some (.cells #[.int .i64 now] 3 (0, 0)) := by simp
  have nf1 := st.fresh (i := H.heap.size) (Nat.le_refl _)
  simp [szO]
  generalize hm : H.heap.size = m at *
  refine at35 st1 (by omega) now (fun hb => ?_) fun hb H2 st2 fr2 => ?_
  · rw [if_pos hb] at hq
    simp
    exact hq _ st1 fr1
  rw [if_neg hb] at hq
  have g2 := fr2.keep _ _ g1 nf1.1 nf1.2.1 nf1.2.2
  have fr12 := fr1.trans fr2
  generalize hQ : atP p now = q at *
  have hbl := st2.len
  have lm := getO_lt g2
  simp [allocX, szO, overL, open44]
  generalize hm2 : H2.heap.size = m2 at *
  refine openLoop (D := m2 + 2) (c := m2 + 1) (pb := pb) (p := q) (v := v) (bs := bs) (by simp [hm2]) (by simp) (by decide) (by omega) hbl (WnI H pb q v bs now m m2 (m2 + 1) (m2 + 2)) ?_ ?_ ?_ ?_ ?_ ?_
  · rintro k Hx ⟨h1, h2, h3, h4, h5, h6⟩
    exact ⟨h1, h3⟩
  · intro l
    have n1 : ¬ m = m2 + 1 + 1 + 1 := by omega
    have n2 : ¬ m = m2 + 1 + 1 := by omega
    have n3 : ¬ m = m2 + 1 := by omega
    have n4 : ¬ m = m2 := by omega
    have n5 : ¬ m2 = m2 + 1 + 1 + 1 := by omega
    have n6 : ¬ m2 = m2 + 1 + 1 := by omega
    refine ⟨(((st2.push _).push _).push _).push _, (((fr12.trans (FrP.push _)).trans (FrP.push _)).trans (FrP.push _)).trans (FrP.push _), by simp [hm2], by simp [hm2, n1, n2, n3, n4, g2], by simp [hm2, n5, n6, whenL], by simp [hm2]⟩
  · rintro k Hx i o hi ⟨h1, h2, h3, h4, h5, h6⟩
    have nf := st2.fresh (i := i) (by omega)
    have hsz := fr12.size
    exact ⟨h1.setOther _ nf.1 nf.2.1 nf.2.2, h2.setFresh _ (by omega), by rw [get_set, if_neg (by omega)]; exact h3, by rw [get_set, if_neg (by omega)]; exact h4, by rw [get_set, if_neg (by omega)]; exact h5, by simpa using h6⟩
  · rintro k Hx hk ⟨h1, h2, h3, h4, h5, h6⟩ hs
    refine ⟨h1, h2, h3, h4, ?_, h6⟩
    rw [whenL_take (by omega)]
    unfold whenF
    rw [if_neg (fun h => hs h.1)]; exact h5
  · rintro k Hx hk ⟨h1, h2, h3, h4, h5, h6⟩ hs
    simp
    rintro Hy ⟨h1, h2, h3, h4, h5, h6⟩
    have hlk := h1.look hk
    have hwt := whenL_take (now := now) (l := q.all) (k := k) (by omega)
    generalize hx : q.all[k]'(hbl ▸ hk) = x at *
    refine WP.draw0 (by decide +kernel) (by decide +kernel) ?_
    have hov := fun t Q => over38 hlk t Q
    generalize hw : whenL now (q.all.take k) = w at *
    have l5 := getO_lt h5
    have hsz := fr12.size
    simp [h4, h5, hlk]
    rw [show (if x.frm < now then now else x.frm) = maxW x.frm now from rfl]
    generalize hmx : maxW x.frm now = t at *
    have fin : ∀ b, whenF now w x = b → WnI H pb q v bs now m m2 (m2 + 1) (m2 + 2) (k + 1) (setO Hy m2 (.cells #[.int .i64 b] 3 (0, 0))) := fun b hb => by
      have nf := st2.fresh (i := m2) (by omega)
      exact ⟨h1.setOther _ nf.1 nf.2.1 nf.2.2, h2.setFresh _ (by omega), by rw [get_set, if_neg (by omega)]; exact h3, by rw [get_set, if_neg (by omega)]; exact h4, by rw [get_set, if_pos rfl, if_pos l5, hwt, hb], by simpa using h6⟩
    unfold whenF at fin
    rw [hmx] at fin
    have n1 : ¬ m2 + 2 = m2 := by omega
    have n2 : ¬ m2 + 2 + 1 = m2 := by omega
    cases ho : overL' x t with
    | true =>
      have := fin w (if_neg (by simp [ho]))
      rw [set_same h5] at this
      simp [hov, ho]
      exact this
    | false =>
    by_cases ht : t ≤ 1000000000000
    · by_cases hw0 : w < 0
      · have := fin t (if_pos ⟨hs, ho, ht, .inl hw0⟩)
        simp [hov, ho, ht, hw0, h5, l5, overL, n1, n2]
        exact this
      · by_cases hw1 : t < w
        · have := fin t (if_pos ⟨hs, ho, ht, .inr hw1⟩)
          simp [hov, ho, ht, hw0, hw1, h5, l5, overL, n1, n2]
          exact this
        · have := fin w (if_neg (fun h => by rcases h.2.2.2 with h | h <;> omega))
          rw [set_same h5] at this
          simp [hov, ho, ht, hw0, hw1, h5, l5, overL]
          exact this
    · have := fin w (if_neg (fun h => ht h.2.2.1))
      rw [set_same h5] at this
      simp [hov, ho, ht, h5]
      exact this
  · rintro Hx ⟨h1, h2, h3, h4, h5, h6⟩ hd
    have hsz := fr12.size
    have nf := st2.fresh (i := m2 + 2) (by omega)
    rw [hbl, List.take_length] at h5
    by_cases hw : whenL now q.all < 0
    · rw [if_pos hw] at hq
      simp [h5, hw]
      rw [endE_mark hd]
      simp
      exact hq _ (h1.setOther _ nf.1 nf.2.1 nf.2.2) (h2.setFresh _ (by omega))
    · rw [if_neg hw] at hq
      simp [h5, hw]
      rw [endE_mark hd]
      simp
      exact hq _ (h1.setOther _ nf.1 nf.2.1 nf.2.2) (h2.setFresh _ (by omega))
end Go.Proofs.Ytjecafhbhcjoaaa
end
