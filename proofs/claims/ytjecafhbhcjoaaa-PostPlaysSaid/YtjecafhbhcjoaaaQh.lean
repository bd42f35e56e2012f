/- Helpers of this claim: an evaluator over plain values and its laws. -/
import Derived.Test.YtjecafhbhcjoaaaQg
section
set_option linter.unusedVariables false
set_option linter.unusedSimpArgs false
namespace Go.Proofs.Ytjecafhbhcjoaaa
open Go Go.Proofs.Ytjecafhbhcjoaaa.Den
theorem exact_of {H : World} {a : Nat} {cs : Array Value} {e : TypeId} (h : getO H a = some (.cells cs e (0, 0))) : exactRow H a = true := by
  have h' : H.heap[a]? = some (.cells cs e (0, 0)) := h
  unfold exactRow; rw [h']; rfl
theorem bX_ptr_ptr {P : Program} {t e : TypeId} {x y : Operand} {inf : TypeInfo} {H : World} {a b : Nat} (hu : P.underlying t = some (.pointer e)) (hi : P.info? e = some inf) (hs : inf.size ≠ 0) (ha : exactRow H a = true) (hb : exactRow H b = true) :
    binX P .eql t x y (p0 a) (p0 b) H = some (.value (.bool (decide (a = b))), H) := by
  unfold binX
  simp only [vNilOp, vNil, Option.map_none]
  unfold binV
  rw [if_neg (by simp [flatFor, isEq, flat, flat1])]
  simp [eqD, hu, hi, hs, ha, hb]
  by_cases h : a = b <;> simp [h]
set_option maxRecDepth 100000 in
theorem same41 {H : World} {a b c : Nat} (ha : exactRow H a = true) (hb : exactRow H b = true) (hc : getO H c = some (.cells #[p0 b] 79 (0, 0))) (Q : Value → World → Prop) : FW X 41 #[p0 a, p0 c] H Q = Q (.bool (decide (a = b))) H := by
  refine FW.eqE (by simp [X]) Try.func41 Try.ntmps41 rfl (by simp) ?_ Q
  have e := fun x y => bX_ptr_ptr (P := Try.prog) (t := 79) (x := x) (y := y) Try.underlying79 Try.type82 (by simp) ha hb
  simp [hc, e]
set_option maxRecDepth 100000 in
theorem index63 {H : World} {v : Value} {bs : List Nat} {c : Nat} (hv : Row H v bs) (hl : bs.length < 2 ^ 62) (nd : bs.Nodup) (hx : ∀ b ∈ bs, exactRow H b = true) {i : Nat} (hi : i < bs.length) (hc : getO H c = some (.cells #[p0 bs[i]] 79 (0, 0))) (Q : Value → World → Prop) :
    FW X 63 #[v, .func (.func 41) #[] #[p0 c]] H Q = Q (.int .i64 i) H := by
  refine FW.eqE (by simp [X]) Try.func63 Try.ntmps63 rfl (by simp) ?_ Q
  have hlen := fun H0 => hv.len (H0 := H0)
  simp [hlen]
  refine CE.range (m := bs.length) (fun k e H' => H' = H ∧ k ≤ i ∧ lk e 0 = v ∧ lk e 1 = .func (.func 41) #[] #[p0 c]) ?_ (by omega) ?_ ?_ ?_
  · decide
  · simp
  · rintro k e H' hk q1 q2 ⟨rfl, hki, e0, e1⟩
    rcases hv with ⟨_, rfl⟩ | ⟨r, tail, rfl, h2, h3, h4⟩
    · simp at hk
    have hbs : (bs.map p0 ++ tail)[k]? = some (p0 bs[k]) := by rw [List.getElem?_append_left (by simpa using hk), List.getElem?_map, List.getElem?_eq_getElem hk]; rfl
    have h41 := fun Q => same41 (hx _ (List.getElem_mem hk)) (hx _ (List.getElem_mem hi)) hc Q
    by_cases hki' : k = i
    · subst hki'
      simp [q1, q2, e0, e1, h3, hk, hbs, h41]
    · have hne : ¬ bs[k] = bs[i] := fun e => hki' (nodup_inj nd hk hi e)
      simp [q1, q2, e0, e1, h3, hk, hbs, h41, hne]
      omega
  · rintro e H' q1 q2 ⟨rfl, hki, e0, e1⟩
    omega
def shiftL (bs : List Nat) (i j : Nat) : List Nat := (bs.eraseIdx i).take (j - 1) ++ bs.drop (j - 1)
theorem shiftL_len {bs : List Nat} {i j : Nat} (hi : i < bs.length) (hj : j ≤ bs.length) : (shiftL bs i j).length = bs.length := by
  unfold shiftL
  simp [List.length_eraseIdx, hi]
  omega
theorem shiftL_start {bs : List Nat} {i : Nat} (hi : i < bs.length) : shiftL bs i (i + 1) = bs := by
  unfold shiftL
  rw [Nat.add_sub_cancel, List.eraseIdx_eq_take_drop_succ, List.take_append_of_le_length (by simp; omega), List.take_take, Nat.min_self, List.take_append_drop]
theorem shiftL_get {bs : List Nat} {i j : Nat} (hi : i < bs.length) (hij : i < j) (hj : j < bs.length) : (shiftL bs i j)[j]'(by rw [shiftL_len hi (by omega)]; exact hj) = bs[j] := by
  unfold shiftL
  rw [List.getElem_append_right (by simp [List.length_eraseIdx, hi]; omega)]
  simp [List.length_eraseIdx, hi]
  congr 1
  omega
theorem shiftL_succ {bs : List Nat} {i j : Nat} (hi : i < bs.length) (hij : i < j) (hj : j < bs.length) : (shiftL bs i j).set (j - 1) bs[j] = shiftL bs i (j + 1) := by
  unfold shiftL
  have hl : ((bs.eraseIdx i).take (j - 1)).length = j - 1 := by simp [List.length_eraseIdx, hi]; omega
  have hlt : j - 1 < (bs.eraseIdx i).length := by simp [List.length_eraseIdx, hi]; omega
  have h2 : j - 1 < bs.length := by omega
  rw [List.set_append_right _ _ (by omega), hl, Nat.sub_self, List.drop_eq_getElem_cons h2, List.set_cons_zero, Nat.add_sub_cancel]
  conv => rhs; rw [show j = j - 1 + 1 by omega, List.take_succ_eq_append_getElem hlt, List.append_assoc]
  have e : (bs.eraseIdx i)[j - 1] = bs[j] := by
    rw [List.getElem_eraseIdx]
    rw [dif_neg (by omega)]
    congr 1; omega
  rw [e]; rfl
theorem shiftL_end {bs : List Nat} {i : Nat} (hi : i < bs.length) : ∃ b, shiftL bs i bs.length = bs.eraseIdx i ++ [b] := by
  unfold shiftL
  refine ⟨bs[bs.length - 1], ?_⟩
  rw [List.take_of_length_le (by simp [List.length_eraseIdx, hi]), List.drop_eq_getElem_cons (by omega : bs.length - 1 < bs.length), List.drop_eq_nil_of_le (by omega)]
structure DelI (H : World) (r i n c : Nat) (clo : Value) (bs : List Nat) (tail : List Value) (d : Nat) (e : Env) (H' : World) : Prop where
  e0 : lk e 0 = .slice (some ⟨r, 0, none⟩) n c
  e1 : lk e 1 = clo
  j : ∃ j, i < j ∧ j ≤ n ∧ d = n - j ∧ lk e 5 = .int .i64 ((j - 1 : Nat) : Int) ∧ lk e 6 = .int .i64 (j : Int) ∧ H' = setO H r (.cells ((shiftL bs i j).map p0 ++ tail).toArray 79 (1, 0))
set_option maxRecDepth 100000 in
theorem delete40 {H : World} {r c : Nat} {bs : List Nat} {tail : List Value} (hr : getO H r = some (.cells (bs.map p0 ++ tail).toArray 79 (1, 0))) (h4 : tail.all Value.oneCell' = true) (hl : bs.length < 2 ^ 62) (nd : bs.Nodup) (hx : ∀ b ∈ bs, exactRow H b = true) {i : Nat} (hi : i < bs.length)
    (hc : getO H c = some (.cells #[p0 bs[i]] 79 (0, 0))) {Q : Value → World → Prop} (hq : Q (.slice (some ⟨r, 0, none⟩) (bs.length - 1) (bs.length + tail.length)) (setO H r (.cells ((bs.eraseIdx i).map p0 ++ (.pointer none :: tail)).toArray 79 (1, 0)))) :
    FW X 40 #[.slice (some ⟨r, 0, none⟩) bs.length (bs.length + tail.length), .func (.func 41) #[] #[p0 c]] H Q := by
  refine FW.walk (by simp [X]) Try.func40 Try.ntmps40 rfl (by simp) ?_
  have hv : Row H (.slice (some ⟨r, 0, none⟩) bs.length (bs.length + tail.length)) bs := .inr ⟨r, tail, rfl, by omega, hr, h4⟩
  have h63 := fun Q => index63 hv hl nd hx hi hc Q
  have hlt := getO_lt hr
  have hcr : c ≠ r := fun e => by rw [e, hr] at hc; injection hc with hc; injection hc with _ _ hc; cases hc
  have hw : IntKind.i64.wrap ((i : Int) + 1) = ((i + 1 : Nat) : Int) := by rw [wrap64 (by omega) (by omega)]; omega
  have hni : ¬ (i : Int) = -1 := by omega
  simp [h63, hw, hni]
  refine CE.inv (DelI H r i bs.length (bs.length + tail.length) (.func (.func 41) #[] #[p0 c]) bs tail) ?_ (d := bs.length - (i + 1)) ⟨by simp, by simp, i + 1, by omega, by omega, rfl, by simp, by simp, ?_⟩
  · rintro d e H' ⟨e0, e1, j, hij, hjn, rfl, e5, e6, rfl⟩
    by_cases hj : j < bs.length
    · have hsl := shiftL_len hi hjn
      have hsg := shiftL_get hi hij hj
      have hss := shiftL_succ hi hij hj
      have hg : ((shiftL bs i j).map p0 ++ tail)[j]? = some (p0 bs[j]) := by
        rw [List.getElem?_append_left (by simp [hsl, hj]), List.getElem?_map, List.getElem?_eq_getElem (by rw [hsl]; exact hj), hsg]; rfl
      have hbr : ∀ b ∈ bs, b ≠ r := fun b hb e => by have := hx b hb; unfold exactRow at this; rw [e, show H.heap[r]? = _ from hr] at this; cases this
      have hxr : ∀ b ∈ bs, exactRow (setO H r (.cells ((shiftL bs i j).map p0 ++ tail).toArray 79 (1, 0))) b = true := fun b hb => by
        have := hx b hb
        unfold exactRow at this ⊢
        rw [show (setO H r (.cells ((shiftL bs i j).map p0 ++ tail).toArray 79 (1, 0))).heap[b]? = H.heap[b]? from by
          show getO (setO H r _) b = getO H b
          rw [get_set, if_neg (hbr b hb)]]
        exact this
      have hc' : getO (setO H r (.cells ((shiftL bs i j).map p0 ++ tail).toArray 79 (1, 0))) c = some (.cells #[p0 bs[i]] 79 (0, 0)) := by rw [get_set, if_neg hcr]; exact hc
      have h41 := fun Q => same41 (hxr _ (List.getElem_mem hj)) (hxr _ (List.getElem_mem hi)) hc' Q
      have hne : ¬ bs[j] = bs[i] := fun e => by have := nodup_inj nd hj hi e; omega
      have hj' : (j : Int) < bs.length := by omega
      have hj1 : j - 1 < bs.length := by omega
      have hw6 : IntKind.i64.wrap ((j : Int) + 1) = ((j + 1 : Nat) : Int) := by rw [wrap64 (by omega) (by omega)]; omega
      have hw5 : IntKind.i64.wrap (((j - 1 : Nat) : Int) + 1) = ((j + 1 - 1 : Nat) : Int) := by rw [wrap64 (by omega) (by omega)]; omega
      have hset : ((shiftL bs i j).map p0 ++ tail).set (j - 1) (p0 bs[j]) = (shiftL bs i (j + 1)).map p0 ++ tail := by
        rw [List.set_append_left _ _ (by simp [hsl]; omega), ← hss, List.map_set]
      simp [e0, e1, e5, e6, hj, hlt, hg, h41, hne, hj1, overL, hw5, hw6, hset, hsl, show j - 1 + 1 ≤ bs.length + tail.length from by omega]
      exact ⟨bs.length - (j + 1), by omega, by simp [e0], by simp [e1], j + 1, by omega, by omega, rfl, by simp, by simp, by simp⟩
    · have : j = bs.length := by omega
      subst this
      obtain ⟨b, hb⟩ := shiftL_end hi
      have hsl := shiftL_len hi (Nat.le_refl bs.length)
      have hgr : getO (setO H r (.cells ((shiftL bs i bs.length).map p0 ++ tail).toArray 79 (1, 0))) r = some (.cells ((shiftL bs i bs.length).map p0 ++ tail).toArray 79 (1, 0)) := by rw [get_set, if_pos rfl, if_pos hlt]
      have s1 := slice_heap Try.prog (t := 75) (e := 79) (o := 0) (n := bs.length) (c := bs.length + tail.length) (l := bs.length - 1) (h := bs.length) (lo := some (.int .i64 ((bs.length - 1 : Nat) : Int))) (hi := none) Try.underlying75 Try.type79 hgr rfl (by omega) (by simp [vBound]) (by simp [vBound])
      have hen : (bs.eraseIdx i).length = bs.length - 1 := by simp [List.length_eraseIdx, hi]
      have hov : overL ((shiftL bs i bs.length).map p0 ++ tail).toArray (bs.length - 1) (List.replicate 1 (.pointer none)) = ((bs.eraseIdx i).map p0 ++ (.pointer none :: tail)).toArray := by
        rw [overL_list _ _ _ (by simp [hsl]; omega), hb]
        simp only [List.map_append, List.map_cons, List.map_nil, List.append_assoc]
        rw [List.take_append_of_le_length (by simp [hen]), List.take_of_length_le (by simp [hen]), List.drop_append]
        simp [hen]
      have h1 : bs.length - (bs.length - 1) = 1 := by omega
      simp only [h1, size79, Nat.mul_one, Nat.zero_add] at s1
      have s2 := clear_one Try.prog (t := 75) (e := 79) (off := bs.length - 1) (n := 1) (c := bs.length + tail.length - (bs.length - 1)) Try.underlying75 Try.type79 zero79 rfl rfl hgr rfl (by simp [hsl]; omega)
      rw [hov, set_set] at s2
      have hgr2 : getO (setO H r (.cells ((bs.eraseIdx i).map p0 ++ (.pointer none :: tail)).toArray 79 (1, 0))) r = some (.cells ((bs.eraseIdx i).map p0 ++ (.pointer none :: tail)).toArray 79 (1, 0)) := by rw [get_set, if_pos rfl, if_pos hlt]
      have s3 := slice_heap Try.prog (t := 75) (e := 79) (o := 0) (n := bs.length) (c := bs.length + tail.length) (l := 0) (h := bs.length - 1) (lo := none) (hi := some (.int .i64 ((bs.length - 1 : Nat) : Int))) Try.underlying75 Try.type79 hgr2 rfl (by omega) (by simp [vBound]; omega) (by simp [vBound])
      simp only [Nat.zero_mul, Nat.add_zero, Nat.sub_zero] at s3
      simp [e0, e1, e5, e6, s1, s2, s3]
      exact hq
  · rw [shiftL_start hi, set_same hr]
end Go.Proofs.Ytjecafhbhcjoaaa
end

section
set_option linter.unusedVariables false
set_option linter.unusedSimpArgs false
namespace Go.Proofs.Ytjecafhbhcjoaaa
open Go Go.Proofs.Ytjecafhbhcjoaaa.Den
theorem PSt.erase {H H' : World} {pb : Nat} {p p' : PP} {v v' : Value} {bs : List Nat} {i : Nat} (st : PSt H pb p v bs) (hi : i < bs.length) (hp' : getO H' pb = some (postO p' v')) (hrow : Row H' v' (bs.eraseIdx i)) (hk : ∀ j o, getO H j = some o → j ≠ pb → Apart v j → getO H' j = some o)
    (ap : ∀ j, Apart v j → Apart v' j) (ha : p'.all = p.all.eraseIdx i) (sz : H.heap.size ≤ H'.heap.size) : PSt H' pb p' v' (bs.eraseIdx i) ∧ FrP H H' pb v bs v' (bs.eraseIdx i) := by
  have hsub : ∀ b ∈ bs.eraseIdx i, b ∈ bs := fun b hb => List.mem_of_mem_eraseIdx hb
  have hi' : i < p.all.length := by rw [← st.len]; exact hi
  refine ⟨⟨hp', hrow, by simp [ha, List.length_eraseIdx, hi, hi', st.len], fun k h1 h2 => ?_, st.nd.sublist (List.eraseIdx_sublist ..), ap _ st.apv, fun b hb => ap _ (st.apl _ (hsub b hb)), fun h => st.pbn (hsub _ h)⟩, ⟨fun j o h h1 h2 h3 => hk j o h h1 h2, fun j h h1 h2 h3 => ⟨ap _ h2, fun hm => h3 (hsub _ hm)⟩, sz⟩⟩
  have key : ∀ m (g1 : m < bs.length) (g2 : m < p.all.length), getO H' bs[m] = some (letO p.all[m]) := fun m g1 g2 => hk _ _ (st.hl m g1 g2) (fun e => st.pbn (by rw [← e]; exact List.getElem_mem g1)) (st.apl _ (List.getElem_mem g1))
  simp only [ha]
  simp only [List.length_eraseIdx, hi, if_true] at h1
  rw [List.getElem_eraseIdx, List.getElem_eraseIdx]
  by_cases hki : k < i
  · rw [dif_pos hki, dif_pos hki]
    exact key k (by omega) (by omega)
  · rw [dif_neg hki, dif_neg hki]
    exact key (k + 1) (by omega) (by have := st.len; omega)
def pWith (p : PP) (n now : Int) : PP × Int := if atBad p now then (p, 7) else match findP n (atP p now).all with
  | none => (atP p now, 8)
  | some (i, x) => if x.st ≠ 1 then (atP p now, 9) else ({ atP p now with all := (atP p now).all.eraseIdx i, wdr := IntKind.i64.wrap ((atP p now).wdr + 1) }, 0)
set_option maxRecDepth 100000 in
theorem With18 {H : World} {pb : Nat} {p : PP} {v : Value} {bs : List Nat} (st : PSt H pb p v bs) (ha : Asc p.all) (hl : bs.length < 2 ^ 62) {n : Int} (hn : I64 n) (now : Int) {Q : Value → World → Prop}
    (hq : ∀ H' v' bs', PSt H' pb (pWith p n now).1 v' bs' → FrP H H' pb v bs v' bs' → Q (.int .i64 (pWith p n now).2) H') : FW X 18 #[p0 pb, .int .i64 n, .int .i64 now] H Q := by
  refine FW.walk (by simp [X]) Try.func18 Try.ntmps18 rfl (by simp) ?_
  unfold pWith at hq
  simp
  refine at35 st (by omega) now (fun hb => ?_) fun hb H2 st2 fr2 => ?_
  · rw [if_pos hb] at hq
    simp
    exact hq _ _ _ st FrP.refl
  rw [if_neg hb] at hq
  simp
  refine find37 st2 (ha.at now) hl hn _ ?_
  generalize hQ : atP p now = q at *
  have nf := st2.fresh (i := H2.heap.size) (Nat.le_refl _)
  cases hf : findP n q.all with
  | none =>
    rw [hf] at hq
    simp [bestP, allocX, szO, overL, lnil_nil]
    exact hq _ _ _ (st2.push _) (fr2.trans (FrP.push _))
  | some ix =>
    obtain ⟨i, x⟩ := ix
    rw [hf] at hq
    simp only at hq
    obtain ⟨hi, hix, _⟩ := findP_at hf
    have hi' : i < bs.length := by rw [st2.len]; exact hi
    have st3 := st2.push (.cells #[p0 bs[i]] 79 (0, 0))
    have fr3 := fr2.trans (FrP.push (pb := pb) (v := v) (bs := bs) (.cells #[p0 bs[i]] 79 (0, 0)))
    have gc : getO (pushObj H2 (.cells #[p0 bs[i]] 79 (0, 0))) H2.heap.size = some (.cells #[p0 bs[i]] 79 (0, 0)) := by simp
    simp [bestP, hi', allocX, szO, overL]
    generalize pushObj H2 (.cells #[p0 bs[i]] 79 (0, 0)) = H3 at *
    generalize hm : H2.heap.size = m at *
    have hlk := st3.look hi'
    rw [hix] at hlk
    have hp3 := st3.hp
    by_cases h1 : x.st = 1
    · rw [if_neg (by simp [h1])] at hq
      simp [gc, lptr_nil, hlk, h1, hp3]
      rcases st3.hv with ⟨_, rfl⟩ | ⟨r, tail, rfl, h2, h3, h4⟩
      · simp at hi'
      have lp3 := getO_lt hp3
      have npr : pb ≠ r := fun e => by rw [e, h3] at hp3; injection hp3 with hp3; injection hp3 with _ h5; cases h5
      refine delete40 h3 h4 hl st3.nd (fun b hb => ?_) hi' gc ?_
      · obtain ⟨k, hk, rfl⟩ := List.getElem_of_mem hb
        exact exact_of (st3.look hk)
      simp [npr, hp3, lp3, overL]
      have lr := getO_lt h3
      have := st3.erase (p' := { q with all := q.all.eraseIdx i, wdr := IntKind.i64.wrap (q.wdr + 1) }) (v' := .slice (some ⟨r, 0, none⟩) (bs.length - 1) (bs.length + tail.length)) (H' := setO (setO H3 r (.cells ((bs.eraseIdx i).map p0 ++ (.pointer none :: tail)).toArray 79 (1, 0))) pb (postO { q with all := q.all.eraseIdx i, wdr := IntKind.i64.wrap (q.wdr + 1) } (.slice (some ⟨r, 0, none⟩) (bs.length - 1) (bs.length + tail.length)))) hi' ?_ ?_ ?_ ?_ rfl ?_
      · exact hq _ _ _ this.1 (fr3.trans this.2)
      · rw [get_set, if_pos rfl, if_pos (by simpa using lp3)]
      · have hen : (bs.eraseIdx i).length = bs.length - 1 := by simp [List.length_eraseIdx, hi']
        refine .inr ⟨r, .pointer none :: tail, ?_, by simp; omega, ?_, by simpa using h4⟩
        · rw [hen, List.length_cons]; congr 1; omega
        · rw [get_set, if_neg (fun e => npr e.symm), get_set, if_pos rfl, if_pos lr]
      · intro j o h a1 a2
        rw [get_set, if_neg a1, get_set, if_neg (a2 r _ _ rfl)]; exact h
      · intro j hj r' n' c' e
        cases e
        exact hj r _ _ rfl
      · simp
    · rw [if_pos h1] at hq
      simp [gc, lptr_nil, hlk, h1]
      exact hq _ _ _ st3 fr3
set_option maxRecDepth 100000 in
theorem Count20 {H : World} {pb : Nat} {p : PP} {v : Value} (hp : getO H pb = some (postO p v)) (Q : Value → World → Prop) : FW X 20 #[p0 pb] H Q = Q (.tuple #[.int .i64 p.put, .int .i64 p.ans, .int .i64 p.giv, .int .i64 p.lat, .int .i64 p.wdr]) H := by
  refine FW.eqE (by simp [X]) Try.func20 Try.ntmps20 rfl (by simp) ?_ Q
  simp [pptr_nil]
  refine WP.draw0 (by decide +kernel) (by decide +kernel) ?_
  simp [hp]
def okNew (o r q : Int) : Bool := decide (1 ≤ o) && decide (o ≤ 4) && (decide (1 ≤ r) && decide (r ≤ 200)) && (decide (0 ≤ q) && decide (q ≤ 10000))
set_option maxRecDepth 100000 in
theorem New13 (H : World) (o r q : Int) (Q : Value → World → Prop) : FW X 13 #[.int .i64 o, .int .i64 r, .int .i64 q] H Q =
    if okNew o r q = true then Q (.tuple #[p0 H.heap.size, .int .i64 0]) (pushObj H (postO ⟨0, 0, 0, 0, 0, o, r, q, 0, []⟩ (.slice none 0 0))) else Q (.tuple #[.pointer none, .int .i64 7]) H := by
  unfold okNew
  by_cases h : (decide (1 ≤ o) && decide (o ≤ 4) && (decide (1 ≤ r) && decide (r ≤ 200)) && (decide (0 ≤ q) && decide (q ≤ 10000))) = true
  · rw [if_pos h]
    refine FW.eqE (by simp [X]) Try.func13 Try.ntmps13 rfl (by simp) ?_ Q
    simp only [Bool.and_eq_true] at h
    simp [within34, h, buildQ, fillX, szO]
  · rw [if_neg h]
    refine FW.eqE (by simp [X]) Try.func13 Try.ntmps13 rfl (by simp) ?_ Q
    cases h1 : decide (1 ≤ o) && decide (o ≤ 4) with
    | false => simp [within34, h1]
    | true =>
      cases h2 : decide (1 ≤ r) && decide (r ≤ 200) with
      | false => simp [within34, h1, h2]
      | true =>
        rw [h1, h2] at h
        have h3 : (decide (0 ≤ q) && decide (q ≤ 10000)) = false := by simpa using h
        simp [within34, h1, h2, h3]
end Go.Proofs.Ytjecafhbhcjoaaa
end
