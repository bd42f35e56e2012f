/- Helpers of this claim: an evaluator over plain values and its laws. -/
import Derived.Test.YtjecafhbhcjoaaaQd
section
set_option linter.unusedVariables false
set_option linter.unusedSimpArgs false
namespace Go.Proofs.Ytjecafhbhcjoaaa
open Go Go.Proofs.Ytjecafhbhcjoaaa.Den
def I64 (n : Int) : Prop := -9223372036854775808 ≤ n ∧ n ≤ 9223372036854775807
set_option maxRecDepth 100000 in
theorem find37 {H : World} {pb : Nat} {p : PP} {v : Value} {bs : List Nat} (st : PSt H pb p v bs) (ha : Asc p.all) (hl : bs.length < 2 ^ 62) {n : Int} (hn : I64 n) (Q : Value → World → Prop) (hq : Q (bestP bs (findP n p.all)) H) : FW X 37 #[p0 pb, .int .i64 n] H Q := by
  refine FW.walk (by simp [X]) Try.func37 Try.ntmps37 rfl (by simp) ?_
  have hp := st.hp
  simp [hp]
  refine bsf61 st ha hl hn fun i hi hk => ?_
  by_cases hil : i < p.all.length
  · by_cases he : p.all[i].num = n
    · obtain ⟨r, c, cs, rfl, hnc, hr, hcs⟩ := st.row (by have := st.len; omega)
      have hib : i < bs.length := by have := st.len; omega
      have hbs := hcs _ hib
      rw [findP_in ha hil he] at hq
      simp [List.getElem?_eq_getElem hil, he, hp, hib, hr, hbs]
      simpa [bestP, hib] using hq
    · have hno : findP n p.all = none := by
        cases hf : findP n p.all with
        | none => rfl
        | some jy =>
          obtain ⟨j, y⟩ := jy
          obtain ⟨hj, h1, h2⟩ := findP_at hf
          have := hk j hj (by rw [h1]; exact h2)
          subst this
          exact absurd (by rw [h1]; exact h2) he
      rw [hno] at hq
      simp [List.getElem?_eq_getElem hil, he]
      exact hq
  · have hno : findP n p.all = none := by
      cases hf : findP n p.all with
      | none => rfl
      | some jy =>
        obtain ⟨j, y⟩ := jy
        obtain ⟨hj, h1, h2⟩ := findP_at hf
        have := hk j hj (by rw [h1]; exact h2)
        omega
    rw [hno] at hq
    simp [List.getElem?_eq_none (by omega : p.all.length ≤ i)]
    exact hq
def busyN (l : List Lt) : Nat := l.countP fun x => decide (x.st ≤ 2)
theorem busyN_take {l : List Lt} {k : Nat} (hk : k < l.length) : busyN (l.take (k + 1)) = busyN (l.take k) + if l[k].st ≤ 2 then 1 else 0 := by
  unfold busyN
  rw [List.take_succ_eq_append_getElem hk, List.countP_append, List.countP_singleton]
  simp
theorem busyN_le (l : List Lt) : busyN l ≤ l.length := List.countP_le_length
set_option maxRecDepth 100000 in
theorem full64 {H : World} {pb : Nat} {p : PP} {v : Value} {bs : List Nat} (st : PSt H pb p v bs) (hl : bs.length < 2 ^ 62) (Q : Value → World → Prop) : FW X 64 #[p0 pb] H Q = Q (.bool (decide (p.room ≤ (busyN p.all : Int)))) H := by
  refine FW.eqE (by simp [X]) Try.func64 Try.ntmps64 rfl (by simp) ?_ Q
  have hp := st.hp
  have hbl := st.len
  have hlen := fun H0 => st.hv.len (H0 := H0)
  simp [hp, hlen]
  refine CE.range (m := bs.length) (fun k e H' => H' = H ∧ lk e 0 = p0 pb ∧ lk e 9 = v ∧ lk e 3 = .int .i64 (busyN (p.all.take k))) ?_ (by omega) ?_ ?_ ?_
  · decide
  · simp [busyN]
  · rintro k e H' hk q1 q2 ⟨rfl, e0, e9, e3⟩
    obtain ⟨r, c, cs, rfl, hnc, hr, hcs⟩ := st.row (by omega)
    have hbs := hcs k hk
    have hlk := st.look hk
    have hk' : k < p.all.length := by omega
    rw [busyN_take hk']
    have hle : busyN (p.all.take k) < 2 ^ 62 := by have := busyN_le (p.all.take k); rw [List.length_take] at this; omega
    generalize p.all[k] = x at *
    by_cases hc : x.st ≤ 2
    · have hw : IntKind.i64.wrap ((busyN (p.all.take k) : Int) + 1) = (busyN (p.all.take k) : Int) + 1 := wrap64 (by omega) (by omega)
      simp [q1, q2, e0, e9, e3, hr, hk, hbs, hlk, hc, hw]
    · simp [q1, q2, e0, e9, e3, hr, hk, hbs, hlk, hc]
  · rintro e H' q1 q2 ⟨rfl, e0, e9, e3⟩
    rw [hbl, List.take_length] at e3
    simp [e0, e3, hp]
set_option maxRecDepth 100000 in
theorem Row.append {H : World} {v : Value} {bs : List Nat} (h : Row H v bs) {x : Value} {b : Nat} (hx : SrcX Try.prog 1 x H 1 [p0 b]) (hl : bs.length < 2 ^ 30) :
    ∃ v' H', builtinX Try.prog .append #[75, 75] #[v, x] H = some (.value v', H') ∧ Row H' v' (bs ++ [b]) ∧ (∀ i o, getO H i = some o → Apart v i → getO H' i = some o) ∧ H.heap.size ≤ H'.heap.size ∧ (∀ i, Apart v i → i < H.heap.size → Apart v' i) := by
  have key : ∀ n, Acc H v 1 79 n (bs.map p0) → n = bs.length → ∃ v' H', builtinX Try.prog .append #[75, 75] #[v, x] H = some (.value v', H') ∧ Row H' v' (bs ++ [b]) ∧ (∀ i o, getO H i = some o → Apart v i → getO H' i = some o) ∧ H.heap.size ≤ H'.heap.size ∧ (∀ i, Apart v i → i < H.heap.size → Apart v' i) := by
    intro n ha hn
    obtain ⟨v', H', h1, h2, h3, h4, h5⟩ := Acc.append Try.prog (t1 := 75) (t2 := 75) (inf := Try.t79) ha Try.underlying75 (by simp) Try.type79 zero79 (by simp) (by simp) (by decide) (by simp) (by simp) hx rfl (by simp) (by rw [bytes79]; omega)
    refine ⟨v', H', h1, ?_, h3, h4, h5⟩
    obtain ⟨_, ⟨_, hc⟩ | ⟨r, e1, e2, e3⟩⟩ := h2
    · omega
    · refine .inr ⟨r, [], ?_, by simp, ?_, rfl⟩
      · rw [e1, hn]; simp
      · rw [e3]; simp
  rcases h with ⟨rfl, rfl⟩ | ⟨r, tail, rfl, h2, h3, h4⟩
  · exact key 0 Acc.nil rfl
  · cases tail with
    | nil => exact key bs.length ⟨by simp, .inr ⟨r, by simp, by simpa using h2, by simpa using h3⟩⟩ rfl
    | cons t ts =>
      have hap := appended_src Try.prog (t2 := 75) (inf := Try.t79) (by simp) (by simp) hx
      have hr := append_room Try.prog (t1 := 75) (t2 := 75) (inf := Try.t79) (n := bs.length) (c := bs.length + (t :: ts).length) h3 rfl Try.underlying75 hap Try.type79 (by simp) rfl (by simp) (by simp) (by simp)
      refine ⟨_, _, hr, .inr ⟨r, ts, ?_, by simp; omega, ?_, ?_⟩, fun i o hi ha => ?_, by simp, fun i hi _ => ?_⟩
      · congr 1
        · simp
        · simp; omega
      · rw [get_set, if_pos rfl, if_pos (getO_lt h3), overL_list _ _ _ (by simp)]
        simp
        rw [List.drop_append]; simp
      · simp at h4 ⊢; exact h4.2
      · rw [get_set, if_neg (ha r _ _ rfl)]; exact hi
      · intro r' n c e
        cases e
        exact hi r _ _ rfl
end Go.Proofs.Ytjecafhbhcjoaaa
end

section
set_option linter.unusedVariables false
set_option linter.unusedSimpArgs false
namespace Go.Proofs.Ytjecafhbhcjoaaa
open Go Go.Proofs.Ytjecafhbhcjoaaa.Den
theorem Row.one {H : World} {v : Value} {bs : List Nat} (h : Row H v bs) : v.cells = #[v] ∧ v.oneCell' = true ∧ veq v v = true := by
  rcases h with ⟨rfl, rfl⟩ | ⟨r, tail, rfl, _, _, _⟩
  · exact ⟨rfl, rfl, rfl⟩
  · exact ⟨rfl, rfl, by simp [Go.Proofs.Ytjecafhbhcjoaaa.Den.veq, Go.Proofs.Ytjecafhbhcjoaaa.Den.veq2, Go.Proofs.Ytjecafhbhcjoaaa.Den.veq1]⟩
theorem PSt.add {H H6 : World} {pb : Nat} {p p' : PP} {v v' : Value} {bs : List Nat} {b : Nat} {x : Lt} (st : PSt H pb p v bs) (hb : H.heap.size ≤ b) (hrow : Row H6 v' (bs ++ [b])) (hk : ∀ i o, getO H i = some o → Apart v i → getO H6 i = some o) (gb : getO H6 b = some (letO x))
    (ap : ∀ i, Apart v i → i < H.heap.size → Apart v' i) (apb : Apart v' b) (sz : H.heap.size ≤ H6.heap.size) (ha : p'.all = p.all ++ [x]) : PSt (setO H6 pb (postO p' v')) pb p' v' (bs ++ [b]) ∧ FrP H (setO H6 pb (postO p' v')) pb v bs v' (bs ++ [b]) := by
  have hp6 := hk _ _ st.hp st.apv
  have lpb := getO_lt st.hp
  have nb : b ∉ bs := fun h => by have := st.lt h; omega
  have hbl : (bs ++ [b]).length = p'.all.length := by simp [ha, st.len]
  refine ⟨⟨by rw [get_set, if_pos rfl, if_pos (getO_lt hp6)], hrow.set _ (ap _ st.apv lpb), hbl, fun i h1 h2 => ?_, List.nodup_append.2 ⟨st.nd, by simp, ?_⟩, ap _ st.apv lpb, fun c hc => ?_, fun h => ?_⟩, ⟨fun j o h h1 h2 h3 => by rw [get_set, if_neg h1]; exact hk _ _ h h2, fun j h h1 h2 h3 => ⟨ap _ h2 h, fun hm => ?_⟩, by simpa using sz⟩⟩
  · by_cases hi : i < bs.length
    · rw [List.getElem_append_left hi, get_set, if_neg (fun e => st.pbn (by rw [← e]; exact List.getElem_mem hi))]
      have h3 : i < p.all.length := by rw [← st.len]; exact hi
      simp only [ha]
      rw [List.getElem_append_left h3]
      exact hk _ _ (st.hl i hi h3) (st.apl _ (List.getElem_mem hi))
    · have e1 : i = bs.length := by simp at h1; omega
      subst e1
      rw [List.getElem_append_right (Nat.le_refl _), get_set]
      simp only [ha]
      rw [List.getElem_append_right (by rw [st.len]; exact Nat.le_refl _)]
      simp
      rw [if_neg (by omega)]
      exact gb
  · intro c hc d hd
    simp at hd; subst hd
    exact fun e => nb (e ▸ hc)
  · rcases List.mem_append.1 hc with h | h
    · exact ap _ (st.apl _ h) (st.lt h)
    · simp at h; subst h; exact apb
  · rcases List.mem_append.1 h with h | h
    · exact st.pbn h
    · simp at h; omega
  · rcases List.mem_append.1 hm with h4 | h4
    · exact h3 h4
    · simp at h4; omega
def newL (x : Le) (n : Int) : Lt := ⟨x.pri, x.unt, x.tries, x.back, x.target, x.body, n, 1, 0, 0, [], false⟩
def pAdd (p : PP) (x : Le) : PP × (Int × Int) :=
  if 0 < x.unt ∧ x.unt < p.now then (p, (0, 16)) else if p.room ≤ (busyN p.all : Int) then (p, (0, 4))
  else ({ p with put := IntKind.i64.wrap (p.put + 1), all := p.all ++ [newL x (IntKind.i64.wrap (p.put + 1))] }, (IntKind.i64.wrap (p.put + 1), 0))
set_option maxRecDepth 100000 in
theorem add43 {H : World} {pb : Nat} {p : PP} {v : Value} {bs : List Nat} (st : PSt H pb p v bs) (hl : bs.length < 2 ^ 30) (x : Le) {Q : Value → World → Prop}
    (hq : ∀ H' v' bs', PSt H' pb (pAdd p x).1 v' bs' → FrP H H' pb v bs v' bs' → Q (.tuple #[.int .i64 (pAdd p x).2.1, .int .i64 (pAdd p x).2.2]) H') : FW X 43 #[p0 pb, encL x] H Q := by
  refine FW.walk (by simp [X]) Try.func43 Try.ntmps43 rfl (by simp) ?_
  have st1 := st.push (.cells (encL x).cells 38 (0, 0))
  have fr1 : FrP H (pushObj H (.cells (encL x).cells 38 (0, 0))) pb v bs v bs := FrP.push _
  have g3 : getO (pushObj H (.cells (encL x).cells 38 (0, 0))) H.heap.size = some (.cells (encL x).cells 38 (0, 0)) := by simp
  have nf := st.fresh (i := H.heap.size) (Nat.le_refl _)
  have hpb := getO_lt st.hp
  have np : ¬ pb = H.heap.size := by omega
  have np2 : ¬ H.heap.size = pb := by omega
  unfold pAdd at hq
  simp only [encL_cells] at st1 fr1 g3
  simp [szO]
  generalize hH1 : pushObj H (.cells #[.int .i64 x.pri, .int .i64 x.unt, .int .i64 x.tries, .bool x.back, .string (sB x.target), .string (sB x.body)] 38 (0, 0)) = H1 at *
  generalize hm : H.heap.size = m at *
  refine WP.draw0 (by decide +kernel) (by decide +kernel) ?_
  have hp1 := st1.hp
  have hf := fun Q => full64 st1 (by omega) Q
  by_cases h12 : 0 < x.unt ∧ x.unt < p.now
  · rw [if_pos h12] at hq
    simp [g3, hp1, h12.1, h12.2]
    exact hq _ _ _ st1 fr1
  rw [if_neg h12] at hq
  have hcase : (¬ 0 < x.unt ∧ ¬ 0 < x.unt) ∨ (0 < x.unt ∧ ¬ x.unt < p.now) := by
    by_cases h : 0 < x.unt
    · exact .inr ⟨h, fun h' => h12 ⟨h, h'⟩⟩
    · exact .inl ⟨h, h⟩
  by_cases hroom : p.room ≤ (busyN p.all : Int)
  · rw [if_pos hroom] at hq
    rcases hcase with ⟨h1, h2⟩ | ⟨h1, h2⟩
    all_goals
      simp [g3, hp1, h1, h2, hf, hroom]
      exact hq _ _ _ st1 fr1
  rw [if_neg hroom] at hq
  have st2 := st1.setP (p' := { p with put := IntKind.i64.wrap (p.put + 1) }) rfl
  have fr2 := fr1.trans (FrP.setP (pb := pb) (v := v) (bs := bs) (postO { p with put := IntKind.i64.wrap (p.put + 1) } v))
  have g3' : getO (setO H1 pb (postO { p with put := IntKind.i64.wrap (p.put + 1) } v)) m = some (.cells #[.int .i64 x.pri, .int .i64 x.unt, .int .i64 x.tries, .bool x.back, .string (sB x.target), .string (sB x.body)] 38 (0, 0)) := by rw [get_set, if_neg np2]; exact g3
  have hp2 := st2.hp
  have lp1 := getO_lt hp1
  rcases hcase with ⟨h1, h2⟩ | ⟨h1, h2⟩
  all_goals
    simp [g3, hp1, h1, h2, hf, hroom, lp1, overL]
    show WP _ _ _ _ _ _ (setO H1 pb (postO { p with put := IntKind.i64.wrap (p.put + 1) } v)) _
    generalize setO H1 pb (postO { p with put := IntKind.i64.wrap (p.put + 1) } v) = H2 at *
    have hrow := (st2.hv.push (letO (newL x (IntKind.i64.wrap (p.put + 1))))).push (.cells #[p0 H2.heap.size] 79 (0, 0))
    have hx : SrcX Try.prog 1 (.slice (some ⟨H2.heap.size + 1, 0, none⟩) 1 1) (pushObj (pushObj H2 (letO (newL x (IntKind.i64.wrap (p.put + 1))))) (.cells #[p0 H2.heap.size] 79 (0, 0))) 1 [p0 H2.heap.size] := SrcX.row (e := 79) (fr := (0, 0)) (by simp) rfl
    obtain ⟨v', H6, e1, row', keep', sz', ap'⟩ := hrow.append hx hl
    have k2 : Keep H2 (pushObj (pushObj H2 (letO (newL x (IntKind.i64.wrap (p.put + 1))))) (.cells #[p0 H2.heap.size] 79 (0, 0))) := (Keep.push Keep.refl _).push _
    have gb : getO (pushObj (pushObj H2 (letO (newL x (IntKind.i64.wrap (p.put + 1))))) (.cells #[p0 H2.heap.size] 79 (0, 0))) H2.heap.size = some (letO (newL x (IntKind.i64.wrap (p.put + 1)))) := by simp
    have szH : (pushObj (pushObj H2 (letO (newL x (IntKind.i64.wrap (p.put + 1))))) (.cells #[p0 H2.heap.size] 79 (0, 0))).heap.size = H2.heap.size + 2 := by simp
    simp only [newL] at e1
    have fb := st2.fresh (i := H2.heap.size) (Nat.le_refl _)
    have hp6 := keep' _ _ (k2 _ _ hp2) st2.apv
    have lp6 := getO_lt hp6
    have gb6 := keep' _ _ gb fb.2.1
    have n5 : ¬ pb = H2.heap.size := fun e => fb.1 e.symm
    have n6 : ¬ pb = H2.heap.size + 1 := by have := getO_lt hp2; omega
    refine WP.drawP [(0, 13), (0, 14), (0, 15), (1, 13), (1, 14), (2, 13), (2, 14), (3, 13), (3, 14), (4, 13), (4, 14)] (by decide +kernel) (by decide +kernel) ?_
    simp [g3', hp2, buildQ, fillX, szO, buildSliceX, inOrder, catCells, e1, hp6, lp6, overL, row'.one.1, row'.one.2.1]
    refine ⟨Checks.cons rfl rfl rfl ?_ (Checks.cons rfl rfl rfl ?_ (Checks.cons rfl rfl rfl ?_ (Checks.cons rfl rfl rfl ?_ (Checks.cons rfl rfl rfl ?_ (Checks.cons rfl rfl rfl ?_ (Checks.cons rfl rfl rfl ?_ (Checks.cons rfl rfl rfl ?_ (Checks.cons rfl rfl rfl ?_ (Checks.cons rfl rfl rfl ?_ (Checks.cons rfl rfl rfl ?_ .nil)))))))))), ?_⟩
    iterate 11
      · unfold reV
        simp [hp2, hp6, q_int, q_ptr, st2.hv.one.2.2, n5, n6]
    have hadd := st2.add (p' := { p with put := IntKind.i64.wrap (p.put + 1), all := p.all ++ [newL x (IntKind.i64.wrap (p.put + 1))] }) (x := newL x (IntKind.i64.wrap (p.put + 1))) (Nat.le_refl _) row' (fun i o h ha => keep' _ _ (k2 _ _ h) ha) gb6 (fun i ha hi => ap' _ ha (by omega)) (ap' _ fb.2.1 (by omega)) (by omega) rfl
    exact hq _ _ _ hadd.1 (fr2.trans hadd.2)
end Go.Proofs.Ytjecafhbhcjoaaa
end
