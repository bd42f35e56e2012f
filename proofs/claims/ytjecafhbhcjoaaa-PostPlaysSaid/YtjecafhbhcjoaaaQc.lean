/- Helpers of this claim: an evaluator over plain values and its laws. -/
import Derived.Test.YtjecafhbhcjoaaaQb
section
set_option linter.unusedVariables false
set_option linter.unusedSimpArgs false
namespace Go.Proofs.Ytjecafhbhcjoaaa
open Go Go.Proofs.Ytjecafhbhcjoaaa.Den
def bestW (order now : Int) : Nat → Option (Nat × Lt) → List Lt → Option (Nat × Lt)
  | _, b, [] => b
  | k, b, x :: l => bestW order now (k + 1) (if x.st = 1 ∧ x.frm ≤ now ∧ (match b with | none => true | some (_, y) => decide (lessW order x y < 0)) = true then some (k, x) else b) l
theorem bestW_drop {order now : Int} {l : List Lt} {k : Nat} (hk : k < l.length) (b : Option (Nat × Lt)) : bestW order now k b (l.drop k) = bestW order now (k + 1) (if l[k].st = 1 ∧ l[k].frm ≤ now ∧ (match b with | none => true | some (_, y) => decide (lessW order l[k] y < 0)) = true then some (k, l[k]) else b) (l.drop (k + 1)) := by
  rw [List.drop_eq_getElem_cons hk]; rfl
def bestP (bs : List Nat) (b : Option (Nat × Lt)) : Value := match b with
  | none => .pointer none
  | some (i, _) => p0 (bs.getD i 0)
theorem PSt.keep {H H' : World} {pb : Nat} {p : PP} {v : Value} {bs : List Nat} (st : PSt H pb p v bs) (hk : Keep H H') : PSt H' pb p v bs :=
  ⟨hk _ _ st.hp, st.hv.keep fun r o h _ _ => hk _ _ h, st.len, fun i h1 h2 => hk _ _ (st.hl i h1 h2), st.nd, st.apv, st.apl, st.pbn⟩
theorem FrP.keep' {H H' : World} {pb : Nat} {v : Value} {bs : List Nat} (hk : Keep H H') (hs : H.heap.size ≤ H'.heap.size) : FrP H H' pb v bs v bs := ⟨fun j o h _ _ _ => hk _ _ h, fun _ _ _ h1 h2 => ⟨h1, h2⟩, hs⟩
theorem lnil_nil {x y : Operand} {H : World} : binX Try.prog .eql 79 x y (.pointer none) (.pointer none) H = some (.value (.bool true), H) := bX_ptr_nil2 Try.underlying79
/-- How letters are compared. -/
structure LessFn (lv : Value) (order : Int) (c c2 : Nat) : Prop where
  call : ∀ {n : Nat} {dsts : List (Option Tmp)} {l : List Oper} {e : Env} {d : Option Tmp} {K : Env → World → Prop} {a b : Nat} {x y : Lt} {H : World}, getO H a = some (letO x) → getO H b = some (letO y) →
  getO H c = some (.cells #[fn70] 102 (0, 0)) → getO H c2 = some (.cells #[fn71] 111 (0, 0)) → (∀ H', Keep H H' → H.heap.size ≤ H'.heap.size → OX X n dsts l (putE e d (.int .i64 (lessW order x y))) H' K) → stepX X n dsts l e d (callX Try.prog lv #[p0 a, p0 b] H) K
theorem less70 (order c c2 : _) (h : order = 1 ∨ order = 2) : LessFn fn70 order c c2 := by
  constructor
  intro n dsts l e d K a b x y H ha hb hc hc2 hk
  have hw : lessW order x y = numD x y := by unfold lessW; rw [if_neg (by omega), if_neg (by omega)]
  rw [hw] at hk
  simp [first70 ha hb]
  exact hk H Keep.refl (Nat.le_refl _)
theorem less72 (c c2 : Nat) : LessFn (.func (.func 72) #[] #[p0 c]) 3 c c2 := by
  constructor
  intro n dsts l e d K a b x y H ha hb hc hc2 hk
  simp
  exact pri72 ha hb hc fun H' k z => hk H' k z
theorem less74 (c c2 : Nat) : LessFn (.func (.func 74) #[] #[p0 c2, p0 c]) 4 c c2 := by
  constructor
  intro n dsts l e d K a b x y H ha hb hc hc2 hk
  simp
  exact unt74 ha hb hc2 hc fun H' k z => hk H' k z
set_option maxRecDepth 100000 in
theorem next36 {H : World} {pb : Nat} {p : PP} {v : Value} {bs : List Nat} (st : PSt H pb p v bs) (hl : bs.length < 2 ^ 62) (ho : 1 ≤ p.order ∧ p.order ≤ 4) {Q : Value → World → Prop}
    (hq : ∀ H', PSt H' pb p v bs → Keep H H' → H.heap.size ≤ H'.heap.size → Q (bestP bs (bestW p.order p.now 0 none p.all)) H') : FW X 36 #[p0 pb] H Q := by
  refine FW.walk (by simp [X]) Try.func36 Try.ntmps36 rfl (by simp) ?_
  have hbl := st.len
  have n1 : ¬ H.heap.size = H.heap.size + 1 := by omega
  have k1 : Keep H (pushObj (pushObj H (.cells #[p0 pb] 32 (0, 0))) (.cells #[.pointer none] 79 (0, 0))) := (Keep.push Keep.refl _).push _
  have gt1 : getO (pushObj (pushObj H (.cells #[p0 pb] 32 (0, 0))) (.cells #[.pointer none] 79 (0, 0))) H.heap.size = some (.cells #[p0 pb] 32 (0, 0)) := by simp [n1]
  have gt3 : getO (pushObj (pushObj H (.cells #[p0 pb] 32 (0, 0))) (.cells #[.pointer none] 79 (0, 0))) (H.heap.size + 1) = some (.cells #[.pointer none] 79 (0, 0)) := by simp
  have sz1 : (pushObj (pushObj H (.cells #[p0 pb] 32 (0, 0))) (.cells #[.pointer none] 79 (0, 0))).heap.size = H.heap.size + 2 := by simp
  simp [szO, allocX, Value.cells]
  generalize hH1 : pushObj (pushObj H (.cells #[p0 pb] 32 (0, 0))) (.cells #[.pointer none] 79 (0, 0)) = H1 at *
  generalize hm : H.heap.size = m at *
  have st1 := st.keep k1
  refine WP.drawP [(1, 0), (1, 8), (2, 0), (2, 8), (3, 0), (3, 8), (4, 0), (4, 8), (5, 0), (5, 8), (6, 8)] (by decide +kernel) (by decide +kernel) ?_
  simp
  refine rules60 H1 fun H2 c c2 k2 z2 gc gc2 hc hc2 => ?_
  have st2 := st1.keep k2
  have gt1' := k2 _ _ gt1
  have gt3' := k2 _ _ gt3
  have hcase : p.order = 1 ∨ p.order = 2 ∨ p.order = 3 ∨ p.order = 4 := by omega
  have w0 : IntKind.i64.wrap 0 = 0 := by decide
  have w1 : IntKind.i64.wrap 1 = 1 := by decide
  have w2 : IntKind.i64.wrap 2 = 2 := by decide
  have w3 : IntKind.i64.wrap 3 = 3 := by decide
  have nm : ¬ m = H2.heap.size := by have := getO_lt gt1'; omega
  have npb : ¬ pb = H2.heap.size := by have := getO_lt st2.hp; omega
  rcases hcase with h | h | h | h
  · simp [gt1', st2.hp, h, w0, szO, allocX, Value.cells]
    refine ⟨(Checks.cons rfl rfl rfl ?_ (Checks.cons rfl rfl rfl ?_ (Checks.cons rfl rfl rfl ?_ (Checks.cons rfl rfl rfl ?_ (Checks.cons rfl rfl rfl ?_ (Checks.cons rfl rfl rfl ?_ (Checks.cons rfl rfl rfl ?_ (Checks.cons rfl rfl rfl ?_ (Checks.cons rfl rfl rfl ?_ (Checks.cons rfl rfl rfl ?_ (Checks.cons rfl rfl rfl ?_ .nil))))))))))), ?_⟩
    iterate 11
      · unfold reV
        simp [gt1, gt1', st1.hp, st2.hp, h, nm, npb, w0, w1, w2, w3, q_int, q_ptr, veq, veq2, Go.Proofs.Ytjecafhbhcjoaaa.Den.veq1, Go.Proofs.Ytjecafhbhcjoaaa.Den.veqA]
    have hL := less70 1 c c2 (.inl rfl)
    rw [← h] at hL
    generalize fn70 = lv at hL ⊢
    have gt4 : getO (pushObj H2 (.cells #[lv] 102 (0, 0))) H2.heap.size = some (.cells #[lv] 102 (0, 0)) := by simp
    have k3 : Keep H2 (pushObj H2 (.cells #[lv] 102 (0, 0))) := Keep.push Keep.refl _
    have gt1'' := k3 _ _ gt1'
    simp [nm, open44]
    have k4 : Keep (pushObj H2 (.cells #[lv] 102 (0, 0))) (pushObj (pushObj H2 (.cells #[lv] 102 (0, 0))) (.cells #[p0 pb] 32 (0, 0))) := Keep.push Keep.refl _
    have go : getO (pushObj (pushObj H2 (.cells #[lv] 102 (0, 0))) (.cells #[p0 pb] 32 (0, 0))) (H2.heap.size + 1) = some (.cells #[p0 pb] 32 (0, 0)) := by simp
    have sz4 : (pushObj (pushObj H2 (.cells #[lv] 102 (0, 0))) (.cells #[p0 pb] 32 (0, 0))).heap.size = H2.heap.size + 2 := by simp
    have kA : Keep H2 (pushObj (pushObj H2 (.cells #[lv] 102 (0, 0))) (.cells #[p0 pb] 32 (0, 0))) := k3.trans k4
    have g4' := k4 _ _ gt4
    have gm : m + 1 < H2.heap.size := getO_lt gt3'
    generalize pushObj (pushObj H2 (.cells #[lv] 102 (0, 0))) (.cells #[p0 pb] 32 (0, 0)) = H4 at *
    generalize hn : H2.heap.size = n at *
    refine CE.rangeFunc (f := 65) (fs := #[]) (cs := #[p0 (n + 1)]) (by simp) (by simp) (by simp) ?_
    intro T hT
    rw [sz4]
    refine FW.inLoop fun l hl2 => ?_
    rw [sz4] at hl2
    have k5 : Keep H4 (pushObj (pushObj H4 (.deferred (some []))) (.loop l)) := (Keep.push Keep.refl _).push _
    have d1 : getO (pushObj (pushObj H4 (.deferred (some []))) (.loop l)) (n + 2) = some (.deferred (some [])) := by simp [sz4]
    have d2 : getO (pushObj (pushObj H4 (.deferred (some []))) (.loop l)) (n + 3) = some (.loop l) := by simp [sz4]
    have sz5 : (pushObj (pushObj H4 (.deferred (some []))) (.loop l)).heap.size = n + 4 := by simp [sz4]
    have e1 := k5 _ _ (kA _ _ gt1')
    have e3 := k5 _ _ (kA _ _ gt3')
    have e4 := k5 _ _ g4'
    have eo := k5 _ _ go
    have ec := k5 _ _ (kA _ _ gc)
    have ec2 := k5 _ _ (kA _ _ gc2)
    have kH : Keep H (pushObj (pushObj H4 (.deferred (some []))) (.loop l)) := ((k1.trans k2).trans kA).trans k5
    generalize pushObj (pushObj H4 (.deferred (some []))) (.loop l) = H5 at *
    show FW X 65 _ _ _
    have hcm : c ≠ m + 1 := by omega
    have hc2m : c2 ≠ m + 1 := by omega
    have hold : ∀ Hk : World, (∀ j o, getO H5 j = some o → j ≠ m + 1 → getO Hk j = some o) → Keep H Hk := fun Hk hk j o hj => hk j o (kH j o hj) (by have := getO_lt hj; omega)
    refine FW.imp (open65 (l := n + 3) (c := n + 1) (pb := pb) (p := p) (v := v) (bs := bs) hl hbl (fun k Hk => (∀ j o, getO H5 j = some o → j ≠ m + 1 → getO Hk j = some o) ∧ H5.heap.size ≤ Hk.heap.size ∧ ∃ b, bestW p.order p.now 0 none p.all = bestW p.order p.now k b (p.all.drop k) ∧ getO Hk (m + 1) = some (.cells #[bestP bs b] 79 (0, 0)) ∧ ∀ i y, b = some (i, y) → ∃ hi : i < p.all.length, p.all[i] = y) ?_ ?_ ?_ _ ⟨fun j o h _ => h, Nat.le_refl _, none, by simp, e3, fun i y h => by cases h⟩) ?_
    · rintro k Hk ⟨hk1, hk2, _⟩
      exact ⟨st.keep (hold Hk hk1), hk1 _ _ eo (by omega)⟩
    · rintro k Hk hkb ⟨hk1, hk2, b, hb1, hb2, hb3⟩ hs1
      refine ⟨hk1, hk2, b, ?_, hb2, hb3⟩
      rw [hb1, bestW_drop (by omega), if_neg (fun h => hs1 h.1)]
    · rintro k Hk hkb ⟨hk1, hk2, b, hb1, hb2, hb3⟩ hs1
      have hstk := st.keep (hold Hk hk1)
      have f12 := hk1 _ _ d2 (by omega)
      have f12' := f12
      rw [hl2] at f12
      refine yieldW.one f12 hT (by decide) ?_
      have hrs : l.state = .ready := by rw [hl2]; rfl
      have l12 := getO_lt f12
      simp
      refine ⟨_, f12', hrs, ?_⟩
      generalize hbz : Obj.loop { state := LoopState.busy, pending := l.pending, fn := l.fn, tmps := l.tmps, params := l.params, assign := l.assign, body := l.body, defers := l.defers } = bz
      have kB : ∀ j o, getO Hk j = some o → j ≠ n + 3 → getO (setO Hk (n + 3) bz) j = some o := fun j o h hj => by rw [get_set, if_neg hj]; exact h
      have b1 := kB _ _ (hk1 _ _ e1 (by omega)) (by omega)
      have b4 := kB _ _ (hk1 _ _ e4 (by omega)) (by omega)
      have bc := kB _ _ (hk1 _ _ ec hcm) (by have := getO_lt gc; omega)
      have bc2 := kB _ _ (hk1 _ _ ec2 hc2m) (by have := getO_lt gc2; omega)
      have bB := kB _ _ hb2 (by omega)
      have bp := kB _ _ hstk.hp (by have := getO_lt st2.hp; omega)
      have bl := kB _ _ (hstk.look hkb) (by have := getO_lt (st2.look hkb); omega)
      have blk : ∀ i (hi : i < bs.length), getO (setO Hk (n + 3) bz) bs[i] = some (letO (p.all[i]'(hbl ▸ hi))) := fun i hi => kB _ _ (hstk.look hi) (by have := getO_lt (st2.look hi); omega)
      have bz12 : getO (setO Hk (n + 3) bz) (n + 3) = some bz := by rw [get_set, if_pos rfl, if_pos l12]
      have bsz : (setO Hk (n + 3) bz).heap.size = Hk.heap.size := by simp
      have bback : ∀ j o, getO Hk j = some o → getO (setO (setO Hk (n + 3) bz) (n + 3) (.loop l)) j = some o := fun j o hj => by
        rw [set_set, get_set]
        by_cases hjn : j = n + 3
        · subst hjn; rw [if_pos rfl, if_pos l12, ← hj, f12']
        · rw [if_neg hjn]; exact hj
      rw [bestW_drop (by omega)] at hb1
      generalize hHA : setO Hk (n + 3) bz = HA at *
      generalize hx : p.all[k]'(hbl ▸ hkb) = x at *
      refine WP.draw0 (by decide +kernel) (by decide +kernel) ?_
      have hrr : ({ state := LoopState.ready, pending := none, fn := l.fn, tmps := l.tmps, params := l.params, assign := l.assign, body := l.body, defers := l.defers } : Loop) = l := by rw [hl2]; rfl
      have done : ∀ (e : Env) (Hx : World) (b' : Option (Nat × Lt)), (∀ j o, getO HA j = some o → j ≠ m + 1 → getO Hx j = some o) → HA.heap.size ≤ Hx.heap.size → bestW p.order p.now 0 none p.all = bestW p.order p.now (k + 1) b' (p.all.drop (k + 1)) → getO Hx (m + 1) = some (.cells #[bestP bs b'] 79 (0, 0)) →
          (∀ i y, b' = some (i, y) → ∃ hi : i < p.all.length, p.all[i] = y) → roundE (n + 3) (fun u H' => u = .bool true ∧ (∀ j o, getO H5 j = some o → j ≠ m + 1 → getO H' j = some o) ∧ H5.heap.size ≤ H'.heap.size ∧ ∃ b, bestW p.order p.now 0 none p.all = bestW p.order p.now (k + 1) b (p.all.drop (k + 1)) ∧ getO H' (m + 1) = some (.cells #[bestP bs b] 79 (0, 0)) ∧ ∀ i y, b = some (i, y) → ∃ hi : i < p.all.length, p.all[i] = y) .normal e [] Hx := by
        intro e Hx b' hx1 hx2 hx3 hx4 hx5
        have hxl := hx1 _ _ bz12 (by omega)
        rw [← hbz] at hxl
        refine ⟨_, hxl, rfl, fun j o hj hjm => ?_, ?_, b', hx3, ?_, hx5⟩
        · simp only [hrr]
          rw [get_set]
          by_cases hjn : j = n + 3
          · subst hjn
            rw [if_pos rfl, if_pos (getO_lt hxl), ← hj, d2]
          · rw [if_neg hjn]
            exact hx1 j o (kB j o (hk1 j o hj hjm) hjn) hjm
        · rw [size_set]; omega
        · rw [get_set, if_neg (by omega)]; exact hx4
      by_cases hfr : x.frm ≤ p.now
      · cases b with
        | none =>
          rw [if_pos ⟨hs1, hfr, rfl⟩] at hb1
          have lB := getO_lt bB
          rw [show bestP bs none = .pointer none from rfl] at bB
          simp [bl, b1, bp, hfr, b4, bB, lnil_nil, lB, overL]
          refine done _ _ (some (k, x)) (fun j o hj hjm => by rw [get_set, if_neg hjm]; exact hj) (by simp) hb1 ?_ ?_
          · rw [get_set, if_pos rfl, if_pos lB]
            simp [bestP, hkb]
          · intro i y h
            cases h
            exact ⟨by omega, hx⟩
        | some iy =>
          obtain ⟨i, y⟩ := iy
          obtain ⟨hi, hiy⟩ := hb3 i y rfl
          have hi' : i < bs.length := by omega
          have bli := blk i hi'
          rw [hiy] at bli
          have lB := getO_lt bB
          rw [show bestP bs (some (i, y)) = p0 bs[i] from by simp [bestP, hi']] at bB
          simp [bl, b1, bp, hfr, b4, bB, lptr_nil]
          refine hL.call bl bli bc bc2 fun H7 k7 z7 => ?_
          have b17 := k7 _ _ bB
          have l17 := getO_lt b17
          by_cases hlt : lessW p.order x y < 0
          · rw [if_pos ⟨hs1, hfr, by simpa using hlt⟩] at hb1
            simp [hlt, b17, l17, overL]
            refine done _ _ (some (k, x)) (fun j o hj hjm => by rw [get_set, if_neg hjm]; exact k7 _ _ hj) (by simpa using z7) hb1 ?_ ?_
            · rw [get_set, if_pos rfl, if_pos l17]
              simp [bestP, hkb]
            · intro i y h
              cases h
              exact ⟨by omega, hx⟩
          · rw [if_neg (fun h => hlt (by simpa using h.2.2))] at hb1
            simp [hlt]
            exact done _ _ (some (i, y)) (fun j o hj hjm => k7 _ _ hj) z7 hb1 (by simpa [bestP, hi'] using b17) hb3
      · rw [if_neg (fun h => hfr h.2.1)] at hb1
        simp [bl, b1, bp, hfr]
        exact done _ _ b (fun j o hj hjm => hj) (Nat.le_refl _) hb1 bB hb3
    · rintro _ Hk ⟨hk1, hk2, b, hb1, hb2, hb3⟩
      have hj : l.pending = none := by rw [hl2]; rfl
      have hb' : (l.state == LoopState.busy) = false := by rw [hl2]; rfl
      have f12 := hk1 _ _ d2 (by omega)
      have f11 := hk1 _ _ d1 (by omega)
      have f12l := getO_lt f12
      rw [hbl, List.drop_length] at hb1
      refine ⟨l, .normal, f12, hb', by rw [hj]; rfl, ?_⟩
      have n7 : ¬ m = n + 2 := by omega
      simp [hb2, n7]
      rw [endE_mark (by rw [get_set, if_neg (by omega)]; exact f11)]
      simp
      have hb2' : bestW p.order p.now 0 none p.all = b := hb1
      rw [hb2'] at hq
      refine hq _ ?_ ?_ ?_
      · have a1 := st.fresh (i := n + 2) (by omega)
        have a2 := st.fresh (i := n + 2 + 1) (by omega)
        exact ((st.keep (hold Hk hk1)).setOther _ a2.1 a2.2.1 a2.2.2).setOther _ a1.1 a1.2.1 a1.2.2
      · exact fun j o h => by have := getO_lt h; rw [get_set, if_neg (by omega), get_set, if_neg (by omega)]; exact hold Hk hk1 j o h
      · rw [size_set, size_set]; omega
  · simp [gt1', st2.hp, h, w1, szO, allocX, Value.cells]
    refine ⟨(Checks.cons rfl rfl rfl ?_ (Checks.cons rfl rfl rfl ?_ (Checks.cons rfl rfl rfl ?_ (Checks.cons rfl rfl rfl ?_ (Checks.cons rfl rfl rfl ?_ (Checks.cons rfl rfl rfl ?_ (Checks.cons rfl rfl rfl ?_ (Checks.cons rfl rfl rfl ?_ (Checks.cons rfl rfl rfl ?_ (Checks.cons rfl rfl rfl ?_ (Checks.cons rfl rfl rfl ?_ .nil))))))))))), ?_⟩
    iterate 11
      · unfold reV
        simp [gt1, gt1', st1.hp, st2.hp, h, nm, npb, w0, w1, w2, w3, q_int, q_ptr, veq, veq2, Go.Proofs.Ytjecafhbhcjoaaa.Den.veq1, Go.Proofs.Ytjecafhbhcjoaaa.Den.veqA]
    have hL := less70 2 c c2 (.inr rfl)
    rw [← h] at hL
    generalize fn70 = lv at hL ⊢
    have gt4 : getO (pushObj H2 (.cells #[lv] 102 (0, 0))) H2.heap.size = some (.cells #[lv] 102 (0, 0)) := by simp
    have k3 : Keep H2 (pushObj H2 (.cells #[lv] 102 (0, 0))) := Keep.push Keep.refl _
    have gt1'' := k3 _ _ gt1'
    simp [nm, open44]
    have k4 : Keep (pushObj H2 (.cells #[lv] 102 (0, 0))) (pushObj (pushObj H2 (.cells #[lv] 102 (0, 0))) (.cells #[p0 pb] 32 (0, 0))) := Keep.push Keep.refl _
    have go : getO (pushObj (pushObj H2 (.cells #[lv] 102 (0, 0))) (.cells #[p0 pb] 32 (0, 0))) (H2.heap.size + 1) = some (.cells #[p0 pb] 32 (0, 0)) := by simp
    have sz4 : (pushObj (pushObj H2 (.cells #[lv] 102 (0, 0))) (.cells #[p0 pb] 32 (0, 0))).heap.size = H2.heap.size + 2 := by simp
    have kA : Keep H2 (pushObj (pushObj H2 (.cells #[lv] 102 (0, 0))) (.cells #[p0 pb] 32 (0, 0))) := k3.trans k4
    have g4' := k4 _ _ gt4
    have gm : m + 1 < H2.heap.size := getO_lt gt3'
    generalize pushObj (pushObj H2 (.cells #[lv] 102 (0, 0))) (.cells #[p0 pb] 32 (0, 0)) = H4 at *
    generalize hn : H2.heap.size = n at *
    refine CE.rangeFunc (f := 65) (fs := #[]) (cs := #[p0 (n + 1)]) (by simp) (by simp) (by simp) ?_
    intro T hT
    rw [sz4]
    refine FW.inLoop fun l hl2 => ?_
    rw [sz4] at hl2
    have k5 : Keep H4 (pushObj (pushObj H4 (.deferred (some []))) (.loop l)) := (Keep.push Keep.refl _).push _
    have d1 : getO (pushObj (pushObj H4 (.deferred (some []))) (.loop l)) (n + 2) = some (.deferred (some [])) := by simp [sz4]
    have d2 : getO (pushObj (pushObj H4 (.deferred (some []))) (.loop l)) (n + 3) = some (.loop l) := by simp [sz4]
    have sz5 : (pushObj (pushObj H4 (.deferred (some []))) (.loop l)).heap.size = n + 4 := by simp [sz4]
    have e1 := k5 _ _ (kA _ _ gt1')
    have e3 := k5 _ _ (kA _ _ gt3')
    have e4 := k5 _ _ g4'
    have eo := k5 _ _ go
    have ec := k5 _ _ (kA _ _ gc)
    have ec2 := k5 _ _ (kA _ _ gc2)
    have kH : Keep H (pushObj (pushObj H4 (.deferred (some []))) (.loop l)) := ((k1.trans k2).trans kA).trans k5
    generalize pushObj (pushObj H4 (.deferred (some []))) (.loop l) = H5 at *
    show FW X 65 _ _ _
    have hcm : c ≠ m + 1 := by omega
    have hc2m : c2 ≠ m + 1 := by omega
    have hold : ∀ Hk : World, (∀ j o, getO H5 j = some o → j ≠ m + 1 → getO Hk j = some o) → Keep H Hk := fun Hk hk j o hj => hk j o (kH j o hj) (by have := getO_lt hj; omega)
    refine FW.imp (open65 (l := n + 3) (c := n + 1) (pb := pb) (p := p) (v := v) (bs := bs) hl hbl (fun k Hk => (∀ j o, getO H5 j = some o → j ≠ m + 1 → getO Hk j = some o) ∧ H5.heap.size ≤ Hk.heap.size ∧ ∃ b, bestW p.order p.now 0 none p.all = bestW p.order p.now k b (p.all.drop k) ∧ getO Hk (m + 1) = some (.cells #[bestP bs b] 79 (0, 0)) ∧ ∀ i y, b = some (i, y) → ∃ hi : i < p.all.length, p.all[i] = y) ?_ ?_ ?_ _ ⟨fun j o h _ => h, Nat.le_refl _, none, by simp, e3, fun i y h => by cases h⟩) ?_
    · rintro k Hk ⟨hk1, hk2, _⟩
      exact ⟨st.keep (hold Hk hk1), hk1 _ _ eo (by omega)⟩
    · rintro k Hk hkb ⟨hk1, hk2, b, hb1, hb2, hb3⟩ hs1
      refine ⟨hk1, hk2, b, ?_, hb2, hb3⟩
      rw [hb1, bestW_drop (by omega), if_neg (fun h => hs1 h.1)]
    · rintro k Hk hkb ⟨hk1, hk2, b, hb1, hb2, hb3⟩ hs1
      have hstk := st.keep (hold Hk hk1)
      have f12 := hk1 _ _ d2 (by omega)
      have f12' := f12
      rw [hl2] at f12
      refine yieldW.one f12 hT (by decide) ?_
      have hrs : l.state = .ready := by rw [hl2]; rfl
      have l12 := getO_lt f12
      simp
      refine ⟨_, f12', hrs, ?_⟩
      generalize hbz : Obj.loop { state := LoopState.busy, pending := l.pending, fn := l.fn, tmps := l.tmps, params := l.params, assign := l.assign, body := l.body, defers := l.defers } = bz
      have kB : ∀ j o, getO Hk j = some o → j ≠ n + 3 → getO (setO Hk (n + 3) bz) j = some o := fun j o h hj => by rw [get_set, if_neg hj]; exact h
      have b1 := kB _ _ (hk1 _ _ e1 (by omega)) (by omega)
      have b4 := kB _ _ (hk1 _ _ e4 (by omega)) (by omega)
      have bc := kB _ _ (hk1 _ _ ec hcm) (by have := getO_lt gc; omega)
      have bc2 := kB _ _ (hk1 _ _ ec2 hc2m) (by have := getO_lt gc2; omega)
      have bB := kB _ _ hb2 (by omega)
      have bp := kB _ _ hstk.hp (by have := getO_lt st2.hp; omega)
      have bl := kB _ _ (hstk.look hkb) (by have := getO_lt (st2.look hkb); omega)
      have blk : ∀ i (hi : i < bs.length), getO (setO Hk (n + 3) bz) bs[i] = some (letO (p.all[i]'(hbl ▸ hi))) := fun i hi => kB _ _ (hstk.look hi) (by have := getO_lt (st2.look hi); omega)
      have bz12 : getO (setO Hk (n + 3) bz) (n + 3) = some bz := by rw [get_set, if_pos rfl, if_pos l12]
      have bsz : (setO Hk (n + 3) bz).heap.size = Hk.heap.size := by simp
      have bback : ∀ j o, getO Hk j = some o → getO (setO (setO Hk (n + 3) bz) (n + 3) (.loop l)) j = some o := fun j o hj => by
        rw [set_set, get_set]
        by_cases hjn : j = n + 3
        · subst hjn; rw [if_pos rfl, if_pos l12, ← hj, f12']
        · rw [if_neg hjn]; exact hj
      rw [bestW_drop (by omega)] at hb1
      generalize hHA : setO Hk (n + 3) bz = HA at *
      generalize hx : p.all[k]'(hbl ▸ hkb) = x at *
      refine WP.draw0 (by decide +kernel) (by decide +kernel) ?_
      have hrr : ({ state := LoopState.ready, pending := none, fn := l.fn, tmps := l.tmps, params := l.params, assign := l.assign, body := l.body, defers := l.defers } : Loop) = l := by rw [hl2]; rfl
      have done : ∀ (e : Env) (Hx : World) (b' : Option (Nat × Lt)), (∀ j o, getO HA j = some o → j ≠ m + 1 → getO Hx j = some o) → HA.heap.size ≤ Hx.heap.size → bestW p.order p.now 0 none p.all = bestW p.order p.now (k + 1) b' (p.all.drop (k + 1)) → getO Hx (m + 1) = some (.cells #[bestP bs b'] 79 (0, 0)) →
          (∀ i y, b' = some (i, y) → ∃ hi : i < p.all.length, p.all[i] = y) → roundE (n + 3) (fun u H' => u = .bool true ∧ (∀ j o, getO H5 j = some o → j ≠ m + 1 → getO H' j = some o) ∧ H5.heap.size ≤ H'.heap.size ∧ ∃ b, bestW p.order p.now 0 none p.all = bestW p.order p.now (k + 1) b (p.all.drop (k + 1)) ∧ getO H' (m + 1) = some (.cells #[bestP bs b] 79 (0, 0)) ∧ ∀ i y, b = some (i, y) → ∃ hi : i < p.all.length, p.all[i] = y) .normal e [] Hx := by
        intro e Hx b' hx1 hx2 hx3 hx4 hx5
        have hxl := hx1 _ _ bz12 (by omega)
        rw [← hbz] at hxl
        refine ⟨_, hxl, rfl, fun j o hj hjm => ?_, ?_, b', hx3, ?_, hx5⟩
        · simp only [hrr]
          rw [get_set]
          by_cases hjn : j = n + 3
          · subst hjn
            rw [if_pos rfl, if_pos (getO_lt hxl), ← hj, d2]
          · rw [if_neg hjn]
            exact hx1 j o (kB j o (hk1 j o hj hjm) hjn) hjm
        · rw [size_set]; omega
        · rw [get_set, if_neg (by omega)]; exact hx4
      by_cases hfr : x.frm ≤ p.now
      · cases b with
        | none =>
          rw [if_pos ⟨hs1, hfr, rfl⟩] at hb1
          have lB := getO_lt bB
          rw [show bestP bs none = .pointer none from rfl] at bB
          simp [bl, b1, bp, hfr, b4, bB, lnil_nil, lB, overL]
          refine done _ _ (some (k, x)) (fun j o hj hjm => by rw [get_set, if_neg hjm]; exact hj) (by simp) hb1 ?_ ?_
          · rw [get_set, if_pos rfl, if_pos lB]
            simp [bestP, hkb]
          · intro i y h
            cases h
            exact ⟨by omega, hx⟩
        | some iy =>
          obtain ⟨i, y⟩ := iy
          obtain ⟨hi, hiy⟩ := hb3 i y rfl
          have hi' : i < bs.length := by omega
          have bli := blk i hi'
          rw [hiy] at bli
          have lB := getO_lt bB
          rw [show bestP bs (some (i, y)) = p0 bs[i] from by simp [bestP, hi']] at bB
          simp [bl, b1, bp, hfr, b4, bB, lptr_nil]
          refine hL.call bl bli bc bc2 fun H7 k7 z7 => ?_
          have b17 := k7 _ _ bB
          have l17 := getO_lt b17
          by_cases hlt : lessW p.order x y < 0
          · rw [if_pos ⟨hs1, hfr, by simpa using hlt⟩] at hb1
            simp [hlt, b17, l17, overL]
            refine done _ _ (some (k, x)) (fun j o hj hjm => by rw [get_set, if_neg hjm]; exact k7 _ _ hj) (by simpa using z7) hb1 ?_ ?_
            · rw [get_set, if_pos rfl, if_pos l17]
              simp [bestP, hkb]
            · intro i y h
              cases h
              exact ⟨by omega, hx⟩
          · rw [if_neg (fun h => hlt (by simpa using h.2.2))] at hb1
            simp [hlt]
            exact done _ _ (some (i, y)) (fun j o hj hjm => k7 _ _ hj) z7 hb1 (by simpa [bestP, hi'] using b17) hb3
      · rw [if_neg (fun h => hfr h.2.1)] at hb1
        simp [bl, b1, bp, hfr]
        exact done _ _ b (fun j o hj hjm => hj) (Nat.le_refl _) hb1 bB hb3
    · rintro _ Hk ⟨hk1, hk2, b, hb1, hb2, hb3⟩
      have hj : l.pending = none := by rw [hl2]; rfl
      have hb' : (l.state == LoopState.busy) = false := by rw [hl2]; rfl
      have f12 := hk1 _ _ d2 (by omega)
      have f11 := hk1 _ _ d1 (by omega)
      have f12l := getO_lt f12
      rw [hbl, List.drop_length] at hb1
      refine ⟨l, .normal, f12, hb', by rw [hj]; rfl, ?_⟩
      have n7 : ¬ m = n + 2 := by omega
      simp [hb2, n7]
      rw [endE_mark (by rw [get_set, if_neg (by omega)]; exact f11)]
      simp
      have hb2' : bestW p.order p.now 0 none p.all = b := hb1
      rw [hb2'] at hq
      refine hq _ ?_ ?_ ?_
      · have a1 := st.fresh (i := n + 2) (by omega)
        have a2 := st.fresh (i := n + 2 + 1) (by omega)
        exact ((st.keep (hold Hk hk1)).setOther _ a2.1 a2.2.1 a2.2.2).setOther _ a1.1 a1.2.1 a1.2.2
      · exact fun j o h => by have := getO_lt h; rw [get_set, if_neg (by omega), get_set, if_neg (by omega)]; exact hold Hk hk1 j o h
      · rw [size_set, size_set]; omega
  · simp [gt1', st2.hp, h, w2, szO, allocX, Value.cells]
    refine ⟨(Checks.cons rfl rfl rfl ?_ (Checks.cons rfl rfl rfl ?_ (Checks.cons rfl rfl rfl ?_ (Checks.cons rfl rfl rfl ?_ (Checks.cons rfl rfl rfl ?_ (Checks.cons rfl rfl rfl ?_ (Checks.cons rfl rfl rfl ?_ (Checks.cons rfl rfl rfl ?_ (Checks.cons rfl rfl rfl ?_ (Checks.cons rfl rfl rfl ?_ (Checks.cons rfl rfl rfl ?_ .nil))))))))))), ?_⟩
    iterate 11
      · unfold reV
        simp [gt1, gt1', st1.hp, st2.hp, h, nm, npb, w0, w1, w2, w3, q_int, q_ptr, veq, veq2, Go.Proofs.Ytjecafhbhcjoaaa.Den.veq1, Go.Proofs.Ytjecafhbhcjoaaa.Den.veqA]
    have hL := less72 c c2
    rw [← h] at hL
    generalize (Value.func (.func 72) #[] #[p0 c]) = lv at hL ⊢
    have gt4 : getO (pushObj H2 (.cells #[lv] 102 (0, 0))) H2.heap.size = some (.cells #[lv] 102 (0, 0)) := by simp
    have k3 : Keep H2 (pushObj H2 (.cells #[lv] 102 (0, 0))) := Keep.push Keep.refl _
    have gt1'' := k3 _ _ gt1'
    simp [nm, open44]
    have k4 : Keep (pushObj H2 (.cells #[lv] 102 (0, 0))) (pushObj (pushObj H2 (.cells #[lv] 102 (0, 0))) (.cells #[p0 pb] 32 (0, 0))) := Keep.push Keep.refl _
    have go : getO (pushObj (pushObj H2 (.cells #[lv] 102 (0, 0))) (.cells #[p0 pb] 32 (0, 0))) (H2.heap.size + 1) = some (.cells #[p0 pb] 32 (0, 0)) := by simp
    have sz4 : (pushObj (pushObj H2 (.cells #[lv] 102 (0, 0))) (.cells #[p0 pb] 32 (0, 0))).heap.size = H2.heap.size + 2 := by simp
    have kA : Keep H2 (pushObj (pushObj H2 (.cells #[lv] 102 (0, 0))) (.cells #[p0 pb] 32 (0, 0))) := k3.trans k4
    have g4' := k4 _ _ gt4
    have gm : m + 1 < H2.heap.size := getO_lt gt3'
    generalize pushObj (pushObj H2 (.cells #[lv] 102 (0, 0))) (.cells #[p0 pb] 32 (0, 0)) = H4 at *
    generalize hn : H2.heap.size = n at *
    refine CE.rangeFunc (f := 65) (fs := #[]) (cs := #[p0 (n + 1)]) (by simp) (by simp) (by simp) ?_
    intro T hT
    rw [sz4]
    refine FW.inLoop fun l hl2 => ?_
    rw [sz4] at hl2
    have k5 : Keep H4 (pushObj (pushObj H4 (.deferred (some []))) (.loop l)) := (Keep.push Keep.refl _).push _
    have d1 : getO (pushObj (pushObj H4 (.deferred (some []))) (.loop l)) (n + 2) = some (.deferred (some [])) := by simp [sz4]
    have d2 : getO (pushObj (pushObj H4 (.deferred (some []))) (.loop l)) (n + 3) = some (.loop l) := by simp [sz4]
    have sz5 : (pushObj (pushObj H4 (.deferred (some []))) (.loop l)).heap.size = n + 4 := by simp [sz4]
    have e1 := k5 _ _ (kA _ _ gt1')
    have e3 := k5 _ _ (kA _ _ gt3')
    have e4 := k5 _ _ g4'
    have eo := k5 _ _ go
    have ec := k5 _ _ (kA _ _ gc)
    have ec2 := k5 _ _ (kA _ _ gc2)
    have kH : Keep H (pushObj (pushObj H4 (.deferred (some []))) (.loop l)) := ((k1.trans k2).trans kA).trans k5
    generalize pushObj (pushObj H4 (.deferred (some []))) (.loop l) = H5 at *
    show FW X 65 _ _ _
    have hcm : c ≠ m + 1 := by omega
    have hc2m : c2 ≠ m + 1 := by omega
    have hold : ∀ Hk : World, (∀ j o, getO H5 j = some o → j ≠ m + 1 → getO Hk j = some o) → Keep H Hk := fun Hk hk j o hj => hk j o (kH j o hj) (by have := getO_lt hj; omega)
    refine FW.imp (open65 (l := n + 3) (c := n + 1) (pb := pb) (p := p) (v := v) (bs := bs) hl hbl (fun k Hk => (∀ j o, getO H5 j = some o → j ≠ m + 1 → getO Hk j = some o) ∧ H5.heap.size ≤ Hk.heap.size ∧ ∃ b, bestW p.order p.now 0 none p.all = bestW p.order p.now k b (p.all.drop k) ∧ getO Hk (m + 1) = some (.cells #[bestP bs b] 79 (0, 0)) ∧ ∀ i y, b = some (i, y) → ∃ hi : i < p.all.length, p.all[i] = y) ?_ ?_ ?_ _ ⟨fun j o h _ => h, Nat.le_refl _, none, by simp, e3, fun i y h => by cases h⟩) ?_
    · rintro k Hk ⟨hk1, hk2, _⟩
      exact ⟨st.keep (hold Hk hk1), hk1 _ _ eo (by omega)⟩
    · rintro k Hk hkb ⟨hk1, hk2, b, hb1, hb2, hb3⟩ hs1
      refine ⟨hk1, hk2, b, ?_, hb2, hb3⟩
      rw [hb1, bestW_drop (by omega), if_neg (fun h => hs1 h.1)]
    · rintro k Hk hkb ⟨hk1, hk2, b, hb1, hb2, hb3⟩ hs1
      have hstk := st.keep (hold Hk hk1)
      have f12 := hk1 _ _ d2 (by omega)
      have f12' := f12
      rw [hl2] at f12
      refine yieldW.one f12 hT (by decide) ?_
      have hrs : l.state = .ready := by rw [hl2]; rfl
      have l12 := getO_lt f12
      simp
      refine ⟨_, f12', hrs, ?_⟩
      generalize hbz : Obj.loop { state := LoopState.busy, pending := l.pending, fn := l.fn, tmps := l.tmps, params := l.params, assign := l.assign, body := l.body, defers := l.defers } = bz
      have kB : ∀ j o, getO Hk j = some o → j ≠ n + 3 → getO (setO Hk (n + 3) bz) j = some o := fun j o h hj => by rw [get_set, if_neg hj]; exact h
      have b1 := kB _ _ (hk1 _ _ e1 (by omega)) (by omega)
      have b4 := kB _ _ (hk1 _ _ e4 (by omega)) (by omega)
      have bc := kB _ _ (hk1 _ _ ec hcm) (by have := getO_lt gc; omega)
      have bc2 := kB _ _ (hk1 _ _ ec2 hc2m) (by have := getO_lt gc2; omega)
      have bB := kB _ _ hb2 (by omega)
      have bp := kB _ _ hstk.hp (by have := getO_lt st2.hp; omega)
      have bl := kB _ _ (hstk.look hkb) (by have := getO_lt (st2.look hkb); omega)
      have blk : ∀ i (hi : i < bs.length), getO (setO Hk (n + 3) bz) bs[i] = some (letO (p.all[i]'(hbl ▸ hi))) := fun i hi => kB _ _ (hstk.look hi) (by have := getO_lt (st2.look hi); omega)
      have bz12 : getO (setO Hk (n + 3) bz) (n + 3) = some bz := by rw [get_set, if_pos rfl, if_pos l12]
      have bsz : (setO Hk (n + 3) bz).heap.size = Hk.heap.size := by simp
      have bback : ∀ j o, getO Hk j = some o → getO (setO (setO Hk (n + 3) bz) (n + 3) (.loop l)) j = some o := fun j o hj => by
        rw [set_set, get_set]
        by_cases hjn : j = n + 3
        · subst hjn; rw [if_pos rfl, if_pos l12, ← hj, f12']
        · rw [if_neg hjn]; exact hj
      rw [bestW_drop (by omega)] at hb1
      generalize hHA : setO Hk (n + 3) bz = HA at *
      generalize hx : p.all[k]'(hbl ▸ hkb) = x at *
      refine WP.draw0 (by decide +kernel) (by decide +kernel) ?_
      have hrr : ({ state := LoopState.ready, pending := none, fn := l.fn, tmps := l.tmps, params := l.params, assign := l.assign, body := l.body, defers := l.defers } : Loop) = l := by rw [hl2]; rfl
      have done : ∀ (e : Env) (Hx : World) (b' : Option (Nat × Lt)), (∀ j o, getO HA j = some o → j ≠ m + 1 → getO Hx j = some o) → HA.heap.size ≤ Hx.heap.size → bestW p.order p.now 0 none p.all = bestW p.order p.now (k + 1) b' (p.all.drop (k + 1)) → getO Hx (m + 1) = some (.cells #[bestP bs b'] 79 (0, 0)) →
          (∀ i y, b' = some (i, y) → ∃ hi : i < p.all.length, p.all[i] = y) → roundE (n + 3) (fun u H' => u = .bool true ∧ (∀ j o, getO H5 j = some o → j ≠ m + 1 → getO H' j = some o) ∧ H5.heap.size ≤ H'.heap.size ∧ ∃ b, bestW p.order p.now 0 none p.all = bestW p.order p.now (k + 1) b (p.all.drop (k + 1)) ∧ getO H' (m + 1) = some (.cells #[bestP bs b] 79 (0, 0)) ∧ ∀ i y, b = some (i, y) → ∃ hi : i < p.all.length, p.all[i] = y) .normal e [] Hx := by
        intro e Hx b' hx1 hx2 hx3 hx4 hx5
        have hxl := hx1 _ _ bz12 (by omega)
        rw [← hbz] at hxl
        refine ⟨_, hxl, rfl, fun j o hj hjm => ?_, ?_, b', hx3, ?_, hx5⟩
        · simp only [hrr]
          rw [get_set]
          by_cases hjn : j = n + 3
          · subst hjn
            rw [if_pos rfl, if_pos (getO_lt hxl), ← hj, d2]
          · rw [if_neg hjn]
            exact hx1 j o (kB j o (hk1 j o hj hjm) hjn) hjm
        · rw [size_set]; omega
        · rw [get_set, if_neg (by omega)]; exact hx4
      by_cases hfr : x.frm ≤ p.now
      · cases b with
        | none =>
          rw [if_pos ⟨hs1, hfr, rfl⟩] at hb1
          have lB := getO_lt bB
          rw [show bestP bs none = .pointer none from rfl] at bB
          simp [bl, b1, bp, hfr, b4, bB, lnil_nil, lB, overL]
          refine done _ _ (some (k, x)) (fun j o hj hjm => by rw [get_set, if_neg hjm]; exact hj) (by simp) hb1 ?_ ?_
          · rw [get_set, if_pos rfl, if_pos lB]
            simp [bestP, hkb]
          · intro i y h
            cases h
            exact ⟨by omega, hx⟩
        | some iy =>
          obtain ⟨i, y⟩ := iy
          obtain ⟨hi, hiy⟩ := hb3 i y rfl
          have hi' : i < bs.length := by omega
          have bli := blk i hi'
          rw [hiy] at bli
          have lB := getO_lt bB
          rw [show bestP bs (some (i, y)) = p0 bs[i] from by simp [bestP, hi']] at bB
          simp [bl, b1, bp, hfr, b4, bB, lptr_nil]
          refine hL.call bl bli bc bc2 fun H7 k7 z7 => ?_
          have b17 := k7 _ _ bB
          have l17 := getO_lt b17
          by_cases hlt : lessW p.order x y < 0
          · rw [if_pos ⟨hs1, hfr, by simpa using hlt⟩] at hb1
            simp [hlt, b17, l17, overL]
            refine done _ _ (some (k, x)) (fun j o hj hjm => by rw [get_set, if_neg hjm]; exact k7 _ _ hj) (by simpa using z7) hb1 ?_ ?_
            · rw [get_set, if_pos rfl, if_pos l17]
              simp [bestP, hkb]
            · intro i y h
              cases h
              exact ⟨by omega, hx⟩
          · rw [if_neg (fun h => hlt (by simpa using h.2.2))] at hb1
            simp [hlt]
            exact done _ _ (some (i, y)) (fun j o hj hjm => k7 _ _ hj) z7 hb1 (by simpa [bestP, hi'] using b17) hb3
      · rw [if_neg (fun h => hfr h.2.1)] at hb1
        simp [bl, b1, bp, hfr]
        exact done _ _ b (fun j o hj hjm => hj) (Nat.le_refl _) hb1 bB hb3
    · rintro _ Hk ⟨hk1, hk2, b, hb1, hb2, hb3⟩
      have hj : l.pending = none := by rw [hl2]; rfl
      have hb' : (l.state == LoopState.busy) = false := by rw [hl2]; rfl
      have f12 := hk1 _ _ d2 (by omega)
      have f11 := hk1 _ _ d1 (by omega)
      have f12l := getO_lt f12
      rw [hbl, List.drop_length] at hb1
      refine ⟨l, .normal, f12, hb', by rw [hj]; rfl, ?_⟩
      have n7 : ¬ m = n + 2 := by omega
      simp [hb2, n7]
      rw [endE_mark (by rw [get_set, if_neg (by omega)]; exact f11)]
      simp
      have hb2' : bestW p.order p.now 0 none p.all = b := hb1
      rw [hb2'] at hq
      refine hq _ ?_ ?_ ?_
      · have a1 := st.fresh (i := n + 2) (by omega)
        have a2 := st.fresh (i := n + 2 + 1) (by omega)
        exact ((st.keep (hold Hk hk1)).setOther _ a2.1 a2.2.1 a2.2.2).setOther _ a1.1 a1.2.1 a1.2.2
      · exact fun j o h => by have := getO_lt h; rw [get_set, if_neg (by omega), get_set, if_neg (by omega)]; exact hold Hk hk1 j o h
      · rw [size_set, size_set]; omega
  · simp [gt1', st2.hp, h, w3, szO, allocX, Value.cells]
    refine ⟨(Checks.cons rfl rfl rfl ?_ (Checks.cons rfl rfl rfl ?_ (Checks.cons rfl rfl rfl ?_ (Checks.cons rfl rfl rfl ?_ (Checks.cons rfl rfl rfl ?_ (Checks.cons rfl rfl rfl ?_ (Checks.cons rfl rfl rfl ?_ (Checks.cons rfl rfl rfl ?_ (Checks.cons rfl rfl rfl ?_ (Checks.cons rfl rfl rfl ?_ (Checks.cons rfl rfl rfl ?_ .nil))))))))))), ?_⟩
    iterate 11
      · unfold reV
        simp [gt1, gt1', st1.hp, st2.hp, h, nm, npb, w0, w1, w2, w3, q_int, q_ptr, veq, veq2, Go.Proofs.Ytjecafhbhcjoaaa.Den.veq1, Go.Proofs.Ytjecafhbhcjoaaa.Den.veqA]
    have hL := less74 c c2
    rw [← h] at hL
    generalize (Value.func (.func 74) #[] #[p0 c2, p0 c]) = lv at hL ⊢
    have gt4 : getO (pushObj H2 (.cells #[lv] 102 (0, 0))) H2.heap.size = some (.cells #[lv] 102 (0, 0)) := by simp
    have k3 : Keep H2 (pushObj H2 (.cells #[lv] 102 (0, 0))) := Keep.push Keep.refl _
    have gt1'' := k3 _ _ gt1'
    simp [nm, open44]
    have k4 : Keep (pushObj H2 (.cells #[lv] 102 (0, 0))) (pushObj (pushObj H2 (.cells #[lv] 102 (0, 0))) (.cells #[p0 pb] 32 (0, 0))) := Keep.push Keep.refl _
    have go : getO (pushObj (pushObj H2 (.cells #[lv] 102 (0, 0))) (.cells #[p0 pb] 32 (0, 0))) (H2.heap.size + 1) = some (.cells #[p0 pb] 32 (0, 0)) := by simp
    have sz4 : (pushObj (pushObj H2 (.cells #[lv] 102 (0, 0))) (.cells #[p0 pb] 32 (0, 0))).heap.size = H2.heap.size + 2 := by simp
    have kA : Keep H2 (pushObj (pushObj H2 (.cells #[lv] 102 (0, 0))) (.cells #[p0 pb] 32 (0, 0))) := k3.trans k4
    have g4' := k4 _ _ gt4
    have gm : m + 1 < H2.heap.size := getO_lt gt3'
    generalize pushObj (pushObj H2 (.cells #[lv] 102 (0, 0))) (.cells #[p0 pb] 32 (0, 0)) = H4 at *
    generalize hn : H2.heap.size = n at *
    refine CE.rangeFunc (f := 65) (fs := #[]) (cs := #[p0 (n + 1)]) (by simp) (by simp) (by simp) ?_
    intro T hT
    rw [sz4]
    refine FW.inLoop fun l hl2 => ?_
    rw [sz4] at hl2
    have k5 : Keep H4 (pushObj (pushObj H4 (.deferred (some []))) (.loop l)) := (Keep.push Keep.refl _).push _
    have d1 : getO (pushObj (pushObj H4 (.deferred (some []))) (.loop l)) (n + 2) = some (.deferred (some [])) := by simp [sz4]
    have d2 : getO (pushObj (pushObj H4 (.deferred (some []))) (.loop l)) (n + 3) = some (.loop l) := by simp [sz4]
    have sz5 : (pushObj (pushObj H4 (.deferred (some []))) (.loop l)).heap.size = n + 4 := by simp [sz4]
    have e1 := k5 _ _ (kA _ _ gt1')
    have e3 := k5 _ _ (kA _ _ gt3')
    have e4 := k5 _ _ g4'
    have eo := k5 _ _ go
    have ec := k5 _ _ (kA _ _ gc)
    have ec2 := k5 _ _ (kA _ _ gc2)
    have kH : Keep H (pushObj (pushObj H4 (.deferred (some []))) (.loop l)) := ((k1.trans k2).trans kA).trans k5
    generalize pushObj (pushObj H4 (.deferred (some []))) (.loop l) = H5 at *
    show FW X 65 _ _ _
    have hcm : c ≠ m + 1 := by omega
    have hc2m : c2 ≠ m + 1 := by omega
    have hold : ∀ Hk : World, (∀ j o, getO H5 j = some o → j ≠ m + 1 → getO Hk j = some o) → Keep H Hk := fun Hk hk j o hj => hk j o (kH j o hj) (by have := getO_lt hj; omega)
    refine FW.imp (open65 (l := n + 3) (c := n + 1) (pb := pb) (p := p) (v := v) (bs := bs) hl hbl (fun k Hk => (∀ j o, getO H5 j = some o → j ≠ m + 1 → getO Hk j = some o) ∧ H5.heap.size ≤ Hk.heap.size ∧ ∃ b, bestW p.order p.now 0 none p.all = bestW p.order p.now k b (p.all.drop k) ∧ getO Hk (m + 1) = some (.cells #[bestP bs b] 79 (0, 0)) ∧ ∀ i y, b = some (i, y) → ∃ hi : i < p.all.length, p.all[i] = y) ?_ ?_ ?_ _ ⟨fun j o h _ => h, Nat.le_refl _, none, by simp, e3, fun i y h => by cases h⟩) ?_
    · rintro k Hk ⟨hk1, hk2, _⟩
      exact ⟨st.keep (hold Hk hk1), hk1 _ _ eo (by omega)⟩
    · rintro k Hk hkb ⟨hk1, hk2, b, hb1, hb2, hb3⟩ hs1
      refine ⟨hk1, hk2, b, ?_, hb2, hb3⟩
      rw [hb1, bestW_drop (by omega), if_neg (fun h => hs1 h.1)]
    · rintro k Hk hkb ⟨hk1, hk2, b, hb1, hb2, hb3⟩ hs1
      have hstk := st.keep (hold Hk hk1)
      have f12 := hk1 _ _ d2 (by omega)
      have f12' := f12
      rw [hl2] at f12
      refine yieldW.one f12 hT (by decide) ?_
      have hrs : l.state = .ready := by rw [hl2]; rfl
      have l12 := getO_lt f12
      simp
      refine ⟨_, f12', hrs, ?_⟩
      generalize hbz : Obj.loop { state := LoopState.busy, pending := l.pending, fn := l.fn, tmps := l.tmps, params := l.params, assign := l.assign, body := l.body, defers := l.defers } = bz
      have kB : ∀ j o, getO Hk j = some o → j ≠ n + 3 → getO (setO Hk (n + 3) bz) j = some o := fun j o h hj => by rw [get_set, if_neg hj]; exact h
      have b1 := kB _ _ (hk1 _ _ e1 (by omega)) (by omega)
      have b4 := kB _ _ (hk1 _ _ e4 (by omega)) (by omega)
      have bc := kB _ _ (hk1 _ _ ec hcm) (by have := getO_lt gc; omega)
      have bc2 := kB _ _ (hk1 _ _ ec2 hc2m) (by have := getO_lt gc2; omega)
      have bB := kB _ _ hb2 (by omega)
      have bp := kB _ _ hstk.hp (by have := getO_lt st2.hp; omega)
      have bl := kB _ _ (hstk.look hkb) (by have := getO_lt (st2.look hkb); omega)
      have blk : ∀ i (hi : i < bs.length), getO (setO Hk (n + 3) bz) bs[i] = some (letO (p.all[i]'(hbl ▸ hi))) := fun i hi => kB _ _ (hstk.look hi) (by have := getO_lt (st2.look hi); omega)
      have bz12 : getO (setO Hk (n + 3) bz) (n + 3) = some bz := by rw [get_set, if_pos rfl, if_pos l12]
      have bsz : (setO Hk (n + 3) bz).heap.size = Hk.heap.size := by simp
      have bback : ∀ j o, getO Hk j = some o → getO (setO (setO Hk (n + 3) bz) (n + 3) (.loop l)) j = some o := fun j o hj => by
        rw [set_set, get_set]
        by_cases hjn : j = n + 3
        · subst hjn; rw [if_pos rfl, if_pos l12, ← hj, f12']
        · rw [if_neg hjn]; exact hj
      rw [bestW_drop (by omega)] at hb1
      generalize hHA : setO Hk (n + 3) bz = HA at *
      generalize hx : p.all[k]'(hbl ▸ hkb) = x at *
      refine WP.draw0 (by decide +kernel) (by decide +kernel) ?_
      have hrr : ({ state := LoopState.ready, pending := none, fn := l.fn, tmps := l.tmps, params := l.params, assign := l.assign, body := l.body, defers := l.defers } : Loop) = l := by rw [hl2]; rfl
      have done : ∀ (e : Env) (Hx : World) (b' : Option (Nat × Lt)), (∀ j o, getO HA j = some o → j ≠ m + 1 → getO Hx j = some o) → HA.heap.size ≤ Hx.heap.size → bestW p.order p.now 0 none p.all = bestW p.order p.now (k + 1) b' (p.all.drop (k + 1)) → getO Hx (m + 1) = some (.cells #[bestP bs b'] 79 (0, 0)) →
          (∀ i y, b' = some (i, y) → ∃ hi : i < p.all.length, p.all[i] = y) → roundE (n + 3) (fun u H' => u = .bool true ∧ (∀ j o, getO H5 j = some o → j ≠ m + 1 → getO H' j = some o) ∧ H5.heap.size ≤ H'.heap.size ∧ ∃ b, bestW p.order p.now 0 none p.all = bestW p.order p.now (k + 1) b (p.all.drop (k + 1)) ∧ getO H' (m + 1) = some (.cells #[bestP bs b] 79 (0, 0)) ∧ ∀ i y, b = some (i, y) → ∃ hi : i < p.all.length, p.all[i] = y) .normal e [] Hx := by
        intro e Hx b' hx1 hx2 hx3 hx4 hx5
        have hxl := hx1 _ _ bz12 (by omega)
        rw [← hbz] at hxl
        refine ⟨_, hxl, rfl, fun j o hj hjm => ?_, ?_, b', hx3, ?_, hx5⟩
        · simp only [hrr]
          rw [get_set]
          by_cases hjn : j = n + 3
          · subst hjn
            rw [if_pos rfl, if_pos (getO_lt hxl), ← hj, d2]
          · rw [if_neg hjn]
            exact hx1 j o (kB j o (hk1 j o hj hjm) hjn) hjm
        · rw [size_set]; omega
        · rw [get_set, if_neg (by omega)]; exact hx4
      by_cases hfr : x.frm ≤ p.now
      · cases b with
        | none =>
          rw [if_pos ⟨hs1, hfr, rfl⟩] at hb1
          have lB := getO_lt bB
          rw [show bestP bs none = .pointer none from rfl] at bB
          simp [bl, b1, bp, hfr, b4, bB, lnil_nil, lB, overL]
          refine done _ _ (some (k, x)) (fun j o hj hjm => by rw [get_set, if_neg hjm]; exact hj) (by simp) hb1 ?_ ?_
          · rw [get_set, if_pos rfl, if_pos lB]
            simp [bestP, hkb]
          · intro i y h
            cases h
            exact ⟨by omega, hx⟩
        | some iy =>
          obtain ⟨i, y⟩ := iy
          obtain ⟨hi, hiy⟩ := hb3 i y rfl
          have hi' : i < bs.length := by omega
          have bli := blk i hi'
          rw [hiy] at bli
          have lB := getO_lt bB
          rw [show bestP bs (some (i, y)) = p0 bs[i] from by simp [bestP, hi']] at bB
          simp [bl, b1, bp, hfr, b4, bB, lptr_nil]
          refine hL.call bl bli bc bc2 fun H7 k7 z7 => ?_
          have b17 := k7 _ _ bB
          have l17 := getO_lt b17
          by_cases hlt : lessW p.order x y < 0
          · rw [if_pos ⟨hs1, hfr, by simpa using hlt⟩] at hb1
            simp [hlt, b17, l17, overL]
            refine done _ _ (some (k, x)) (fun j o hj hjm => by rw [get_set, if_neg hjm]; exact k7 _ _ hj) (by simpa using z7) hb1 ?_ ?_
            · rw [get_set, if_pos rfl, if_pos l17]
              simp [bestP, hkb]
            · intro i y h
              cases h
              exact ⟨by omega, hx⟩
          · rw [if_neg (fun h => hlt (by simpa using h.2.2))] at hb1
            simp [hlt]
            exact done _ _ (some (i, y)) (fun j o hj hjm => k7 _ _ hj) z7 hb1 (by simpa [bestP, hi'] using b17) hb3
      · rw [if_neg (fun h => hfr h.2.1)] at hb1
        simp [bl, b1, bp, hfr]
        exact done _ _ b (fun j o hj hjm => hj) (Nat.le_refl _) hb1 bB hb3
    · rintro _ Hk ⟨hk1, hk2, b, hb1, hb2, hb3⟩
      have hj : l.pending = none := by rw [hl2]; rfl
      have hb' : (l.state == LoopState.busy) = false := by rw [hl2]; rfl
      have f12 := hk1 _ _ d2 (by omega)
      have f11 := hk1 _ _ d1 (by omega)
      have f12l := getO_lt f12
      rw [hbl, List.drop_length] at hb1
      refine ⟨l, .normal, f12, hb', by rw [hj]; rfl, ?_⟩
      have n7 : ¬ m = n + 2 := by omega
      simp [hb2, n7]
      rw [endE_mark (by rw [get_set, if_neg (by omega)]; exact f11)]
      simp
      have hb2' : bestW p.order p.now 0 none p.all = b := hb1
      rw [hb2'] at hq
      refine hq _ ?_ ?_ ?_
      · have a1 := st.fresh (i := n + 2) (by omega)
        have a2 := st.fresh (i := n + 2 + 1) (by omega)
        exact ((st.keep (hold Hk hk1)).setOther _ a2.1 a2.2.1 a2.2.2).setOther _ a1.1 a1.2.1 a1.2.2
      · exact fun j o h => by have := getO_lt h; rw [get_set, if_neg (by omega), get_set, if_neg (by omega)]; exact hold Hk hk1 j o h
      · rw [size_set, size_set]; omega
end Go.Proofs.Ytjecafhbhcjoaaa
end
