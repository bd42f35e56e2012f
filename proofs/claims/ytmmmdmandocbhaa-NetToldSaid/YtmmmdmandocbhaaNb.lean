/- Helpers of this claim: an evaluator over plain values and its laws. -/
import Derived.Test.YtmmmdmandocbhaaNa
section
set_option linter.unusedVariables false
set_option linter.unusedSimpArgs false
namespace Go.Proofs.Ytmmmdmandocbhaa
open Go Go.Proofs.Ytmmmdmandocbhaa.Den
theorem oN_sides {n : NN} {vn vf : Value} (h : WF n) {l : List Int} (hl : l.length ≤ 16) :
    overL (cellsN n vn vf).toArray 1033 (l.map (Value.int .i64)) = (cellsN { n with sides := l ++ n.sides.drop l.length } vn vf).toArray := by
  have hlen := cN_size (vn := vn) (vf := vf) h
  rw [overL_list _ _ _ (by rw [hlen, List.length_map]; omega)]
  congr 1
  have hf := flatE_len encLk_size n.links
  have hA : ∀ A B : List Value, A.length = 9 → B.length = 1024 → ∀ R, (A ++ (B ++ R)).take 1033 = A ++ B ∧ ∀ k, (A ++ (B ++ R)).drop (1033 + k) = R.drop k := fun A B a b R => by
    rw [← List.append_assoc]
    refine ⟨?_, fun k => ?_⟩
    · rw [show 1033 = (A ++ B).length by simp [a, b], List.take_left]
    · rw [← List.drop_drop, show 1033 = (A ++ B).length by simp [a, b], List.drop_left]
  unfold cellsN
  obtain ⟨t1, t2⟩ := hA [.int .i64 n.sent, .int .i64 n.arr, .int .i64 n.lost, .int .i64 n.dbl, .int .i64 n.hosts, vn, .int .i64 n.used, .int .i64 n.now, .int .i64 n.next] (flatE encLk n.links) rfl (by rw [hf, h.links]) (n.sides.map (Value.int .i64) ++ (n.down.map Value.bool ++ [vf]))
  rw [t1, t2, List.length_map, List.drop_append, List.length_map, h.sides, Nat.sub_eq_zero_of_le hl, List.drop_zero, List.map_append, List.map_drop]
  simp only [List.append_assoc]
theorem has43a {H : World} {b r : Nat} {n : NN} {vn vf : Value} (hn : getO H b = some (netO n vn vf)) {i : Int} {e : TypeId} {fr : Nat × Nat} (hr : getO H r = some (.cells #[.int .i64 i] e fr)) {Q : Value → World → Prop}
    (hq : Q (.bool (decide (0 ≤ i ∧ i < n.hosts))) (pushObj H (.cells #[p0 b] 25 (0, 0)))) : FW X 43 #[p0 b, .slice (some ⟨r, 0, none⟩) 1 1] H Q := by
  refine FW.walk (by simp [X, sp17_no]) Try.func43 Try.ntmps43 rfl (by simp) ?_
  have hrl := getO_lt hr
  have hbl := getO_lt hn
  simp
  refine contains39 (l := [i]) (cs := [p0 (szO H)]) (p := fun x => decide (x < 0 ∨ n.hosts ≤ x)) (Rd.row (e := e) (fr := fr) ?_) (by simp) (by simp) (fun x Q => has59 (b := b) (n := n) (vn := vn) (vf := vf) ?_ ?_ x Q) ?_
  · simp; rw [if_neg (by omega)]; exact hr
  · rw [get_push, if_neg (by omega)]; exact hn
  · simp
  have e : ([i].any fun x => decide (x < 0 ∨ n.hosts ≤ x)) = !decide (0 ≤ i ∧ i < n.hosts) := by
    rw [Bool.eq_iff_iff]; simp
  rw [e]
  generalize decide (0 ≤ i ∧ i < n.hosts) = d at *
  simp
  exact hq
/-! ### Link -/
def eLink (n : NN) (x y : Int) : Int := if ¬ hasB n x y then 7 else if x = y then 10 else 0
def rLink (n : NN) (x y : Int) : Lk := if eLink n x y = 0 then lnk n x y else ⟨0, 0, 0, 0⟩
set_option maxRecDepth 100000 in
theorem link15 {H : World} {b : Nat} {n : NN} {vn vf : Value} (st : NSt H b n vn vf) (h16 : n.hosts ≤ 16) (x y : Int) {Q : Value → World → Prop}
    (hq : ∀ H', NSt H' b n vn vf → FrN H H' b vf vf → Q (.tuple #[encLk (rLink n x y), .int .i64 (eLink n x y)]) H') : FW X 15 #[p0 b, .int .i64 x, .int .i64 y] H Q := by
  refine FW.walk (by simp [X, sp17_no]) Try.func15 Try.ntmps15 rfl (by simp) ?_
  have st1 := st.push (.cells (encLk ⟨0, 0, 0, 0⟩).cells 32 (0, 0))
  have fr1 : FrN H (pushObj H (.cells (encLk ⟨0, 0, 0, 0⟩).cells 32 (0, 0))) b vf vf := FrN.push _
  have g7 : getO (pushObj H (.cells (encLk ⟨0, 0, 0, 0⟩).cells 32 (0, 0))) H.heap.size = some (.cells (encLk ⟨0, 0, 0, 0⟩).cells 32 (0, 0)) := by rw [get_push, if_pos rfl]
  have nf := st.fresh (i := H.heap.size) (Nat.le_refl _)
  simp [szO, allocX]
  change NSt (pushObj H (.cells #[.int .i64 0, .int .i64 0, .int .i64 0, .int .i64 0] 32 (0, 0))) b n vn vf at st1
  change FrN H (pushObj H (.cells #[.int .i64 0, .int .i64 0, .int .i64 0, .int .i64 0] 32 (0, 0))) b vf vf at fr1
  change getO (pushObj H (.cells #[.int .i64 0, .int .i64 0, .int .i64 0, .int .i64 0] 32 (0, 0))) H.heap.size = some (.cells #[.int .i64 0, .int .i64 0, .int .i64 0, .int .i64 0] 32 (0, 0)) at g7
  generalize hH1 : pushObj H (.cells #[.int .i64 0, .int .i64 0, .int .i64 0, .int .i64 0] 32 (0, 0)) = H1 at *
  generalize hm : H.heap.size = m at *
  have gr : getO (pushObj H1 (.cells #[.int .i64 x, .int .i64 y] 3 (0, 0))) H1.heap.size = some (.cells #[.int .i64 x, .int .i64 y] 3 (0, 0)) := by rw [get_push, if_pos rfl]
  have st2 := st1.push (.cells #[.int .i64 x, .int .i64 y] 3 (0, 0))
  have fr2 := fr1.trans (FrN.push (.cells #[.int .i64 x, .int .i64 y] 3 (0, 0)))
  have lm := getO_lt g7
  have g72 : getO (pushObj H1 (.cells #[.int .i64 x, .int .i64 y] 3 (0, 0))) m = some (.cells #[.int .i64 0, .int .i64 0, .int .i64 0, .int .i64 0] 32 (0, 0)) := by rw [get_push, if_neg (by omega)]; exact g7
  simp [szO, buildSliceX, inOrder, catCells]
  generalize hH2 : pushObj H1 (.cells #[.int .i64 x, .int .i64 y] 3 (0, 0)) = H2 at *
  refine has43 st2.net gr ?_
  have st3 := st2.push (.cells #[p0 b] 25 (0, 0))
  have fr3 : FrN H (pushObj H2 (.cells #[p0 b] 25 (0, 0))) b vf vf := fr2.trans (FrN.push _)
  have g73 : getO (pushObj H2 (.cells #[p0 b] 25 (0, 0))) m = some (.cells #[.int .i64 0, .int .i64 0, .int .i64 0, .int .i64 0] 32 (0, 0)) := by have := getO_lt g72; rw [get_push, if_neg (by omega)]; exact g72
  generalize hH3 : pushObj H2 (.cells #[p0 b] 25 (0, 0)) = H3 at *
  have lm3 := getO_lt g73
  by_cases hh : hasB n x y
  rotate_left
  · have e : eLink n x y = 7 := by simp [eLink, hh]
    have e1 : rLink n x y = ⟨0, 0, 0, 0⟩ := by simp [rLink, e]
    rw [e, e1] at hq
    have hd : decide (0 ≤ x ∧ x < n.hosts ∧ 0 ≤ y ∧ y < n.hosts) = false := decide_eq_false hh
    rw [hd]
    simp [g73, buildQ, fillX, Value.cells, overL, lm3]
    exact hq _ (st3.setO' _ nf.1 nf.2.1 nf.2.2) (fr3.setFresh _ (by omega))
  have hd : decide (0 ≤ x ∧ x < n.hosts ∧ 0 ≤ y ∧ y < n.hosts) = true := decide_eq_true hh
  rw [hd]
  by_cases hxy : x = y
  · have e : eLink n x y = 10 := by simp [eLink, hh, hxy]; simpa [hxy] using hh
    have e1 : rLink n x y = ⟨0, 0, 0, 0⟩ := by simp [rLink, e]
    rw [e, e1] at hq
    have hxd : decide (x = y) = true := decide_eq_true hxy
    simp [hxd, g73, buildQ, fillX, Value.cells, overL, lm3]
    exact hq _ (st3.setO' _ nf.1 nf.2.1 nf.2.2) (fr3.setFresh _ (by omega))
  have e : eLink n x y = 0 := by simp [eLink, hh, hxy]
  have e1 : rLink n x y = lnk n x y := by simp [rLink, e]
  rw [e, e1] at hq
  have hxd : decide (x = y) = false := decide_eq_false hxy
  obtain ⟨x0, x1, y0, y1⟩ := hh
  have x16 : x < 16 := by omega
  have y16 : y < 16 := by omega
  have hn3 := st3.net
  have cl := cN_lnk (vn := vn) (vf := vf) st3.wf x0 x16 y0 y16 rfl
  have hlo : 9 + x.toNat * 64 + y.toNat * 4 + 4 ≤ (cellsN n vn vf).length := cN_le st3.wf (by omega)
  simp [hxd, hn3, idxP, x0, x16, y0, y16, hlo, cl, g73, Value.cells, overL, lm3]
  exact hq _ (st3.setO' _ nf.1 nf.2.1 nf.2.2) (fr3.setFresh _ (by omega))
/-! ### Down, Up -/
def eTurn (n : NN) (x : Int) (d : Bool) : Int := if ¬ (0 ≤ x ∧ x < n.hosts) then 7 else if dwn n x = d then 9 else 0
def pTurn (n : NN) (x : Int) (d : Bool) : NN := if eTurn n x d = 0 then { n with down := n.down.set x.toNat d } else n
set_option maxRecDepth 100000 in
theorem turn49 {H : World} {b : Nat} {n : NN} {vn vf : Value} (st : NSt H b n vn vf) (h16 : n.hosts ≤ 16) (x : Int) (d : Bool) {Q : Value → World → Prop}
    (hq : ∀ H', NSt H' b (pTurn n x d) vn vf → FrN H H' b vf vf → Q (.int .i64 (eTurn n x d)) H') : FW X 49 #[p0 b, .int .i64 x, .bool d] H Q := by
  refine FW.walk (by simp [X, sp17_no]) Try.func49 Try.ntmps49 rfl (by simp) ?_
  have gr : getO (pushObj H (.cells #[.int .i64 x] 3 (0, 0))) H.heap.size = some (.cells #[.int .i64 x] 3 (0, 0)) := by rw [get_push, if_pos rfl]
  have st2 := st.push (.cells #[.int .i64 x] 3 (0, 0))
  have fr2 : FrN H (pushObj H (.cells #[.int .i64 x] 3 (0, 0))) b vf vf := FrN.push _
  simp [szO, buildSliceX, inOrder, catCells]
  generalize hH2 : pushObj H (.cells #[.int .i64 x] 3 (0, 0)) = H2 at *
  refine has43a st2.net gr ?_
  have st3 := st2.push (.cells #[p0 b] 25 (0, 0))
  have fr3 : FrN H (pushObj H2 (.cells #[p0 b] 25 (0, 0))) b vf vf := fr2.trans (FrN.push _)
  generalize hH3 : pushObj H2 (.cells #[p0 b] 25 (0, 0)) = H3 at *
  by_cases hh : 0 ≤ x ∧ x < n.hosts
  rotate_left
  · have e : eTurn n x d = 7 := by unfold eTurn; rw [if_pos hh]
    have e1 : pTurn n x d = n := by simp [pTurn, e]
    rw [e, e1] at hq
    rw [decide_eq_false hh]
    simp
    exact hq _ st3 fr3
  rw [decide_eq_true hh]
  obtain ⟨x0, x1⟩ := hh
  have x16 : x < 16 := by omega
  have hn3 := st3.net
  have lb3 := getO_lt hn3
  have cd := cN_dwn (vn := vn) (vf := vf) st3.wf x0 x16 (k := 1049 + x.toNat) rfl
  have hnn : ¬ ¬ (0 ≤ x ∧ x < n.hosts) := fun h => h ⟨x0, x1⟩
  by_cases hdd : dwn n x = d
  · have e : eTurn n x d = 9 := by unfold eTurn; rw [if_neg hnn, if_pos hdd]
    have e1 : pTurn n x d = n := by simp [pTurn, e]
    rw [e, e1] at hq
    have hbe : (dwn n x == d) = true := by rw [hdd]; exact beq_self_eq_true d
    simp [hn3, idxP, x0, x16, cd, bX_beql Try.underlying4, hbe, -beq_iff_eq]
    exact hq _ st3 fr3
  have e : eTurn n x d = 0 := by unfold eTurn; rw [if_neg hnn, if_neg hdd]
  have e1 : pTurn n x d = { n with down := n.down.set x.toNat d } := by simp [pTurn, e]
  rw [e, e1] at hq
  have sl := sN_down (vn := vn) (vf := vf) st3.wf (i := x.toNat) (by omega) d
  have hlo : 1049 + x.toNat + 1 ≤ (cellsN n vn vf).length := cN_le st3.wf (by omega)
  have st4 := st3.write { n with down := n.down.set x.toNat d } ⟨st3.wf.links, st3.wf.sides, by simp [st3.wf.down]⟩ rfl rfl
  have hbe : (dwn n x == d) = false := beq_eq_false_iff_ne.2 hdd
  simp [hn3, idxP, x0, x16, cd, bX_beql Try.underlying4, hbe, hlo, lb3, overL, sl]
  exact hq _ st4 (fr3.trans (FrN.setB _))
set_option maxRecDepth 100000 in
theorem down32 {H : World} {b : Nat} {n : NN} {vn vf : Value} (st : NSt H b n vn vf) (h16 : n.hosts ≤ 16) (x : Int) {Q : Value → World → Prop}
    (hq : ∀ H', NSt H' b (pTurn n x true) vn vf → FrN H H' b vf vf → Q (.int .i64 (eTurn n x true)) H') : FW X 32 #[p0 b, .int .i64 x] H Q := by
  refine FW.walk (by simp [X, sp17_no]) Try.func32 Try.ntmps32 rfl (by simp) ?_
  simp
  refine turn49 st h16 x true fun H' st' fr' => ?_
  simp
  exact hq _ st' fr'
set_option maxRecDepth 100000 in
theorem up34 {H : World} {b : Nat} {n : NN} {vn vf : Value} (st : NSt H b n vn vf) (h16 : n.hosts ≤ 16) (x : Int) {Q : Value → World → Prop}
    (hq : ∀ H', NSt H' b (pTurn n x false) vn vf → FrN H H' b vf vf → Q (.int .i64 (eTurn n x false)) H') : FW X 34 #[p0 b, .int .i64 x] H Q := by
  refine FW.walk (by simp [X, sp17_no]) Try.func34 Try.ntmps34 rfl (by simp) ?_
  simp
  refine turn49 st h16 x false fun H' st' fr' => ?_
  simp
  exact hq _ st' fr'
/-! ### Heal, Part -/
def pHeal (n : NN) : NN := { n with sides := List.replicate 16 0 }
set_option maxRecDepth 100000 in
theorem heal30 {H : World} {b : Nat} {n : NN} {vn vf : Value} (st : NSt H b n vn vf) {Q : Value → World → Prop}
    (hq : ∀ H', NSt H' b (pHeal n) vn vf → FrN H H' b vf vf → Q (.int .i64 0) H') : FW X 30 #[p0 b] H Q := by
  refine FW.walk (by simp [X, sp17_no]) Try.func30 Try.ntmps30 rfl (by simp) ?_
  have hn3 := st.net
  have lb3 := getO_lt hn3
  have os := oN_sides (vn := vn) (vf := vf) st.wf (l := List.replicate 16 0) (by simp)
  have hd : n.sides.drop 16 = [] := List.drop_eq_nil_of_le (by rw [st.wf.sides]; exact Nat.le_refl _)
  have hlo : 1033 + 16 ≤ (cellsN n vn vf).length := cN_le st.wf (by omega)
  have st4 := st.write (pHeal n) ⟨st.wf.links, List.length_replicate, st.wf.down⟩ rfl rfl
  have os' : overL (cellsN n vn vf).toArray 1033 [.int .i64 0, .int .i64 0, .int .i64 0, .int .i64 0, .int .i64 0, .int .i64 0, .int .i64 0, .int .i64 0, .int .i64 0, .int .i64 0, .int .i64 0, .int .i64 0, .int .i64 0, .int .i64 0, .int .i64 0, .int .i64 0] = (cellsN (pHeal n) vn vf).toArray := by
    refine os.trans ?_
    rw [List.length_replicate, hd, List.append_nil]; rfl
  simp [buildQ, fillX, hn3, lb3, hlo, Value.cells, os', -overL_cons]
  exact hq _ st4 (FrN.setB _)
def ePart (n : NN) (l : List Int) : Int := if (l.any fun x => decide (x < 0)) = true then 7 else if (l.length : Int) ≠ n.hosts then 11 else 0
def pPart (n : NN) (l : List Int) : NN := if ePart n l = 0 then { n with sides := l ++ n.sides.drop l.length } else n
theorem part48 (H : World) (i : Int) (Q : Value → World → Prop) : FW X 48 #[.int .i64 i] H Q = Q (.bool (decide (i < 0))) H := by
  refine FW.aloneEq ?_ Try.func48 Try.ntmps48 rfl (by simp) ?_ H Q
  · simp [X, plainDI]
  simp
set_option maxRecDepth 100000 in
theorem part28 {H : World} {b : Nat} {n : NN} {vn vf : Value} (st : NSt H b n vn vf) (h1 : 1 ≤ n.hosts) (h16 : n.hosts ≤ 16) (o : Option (List Int)) (hl : (o.getD []).length < 2 ^ 62) {Q : Value → World → Prop}
    (hq : ∀ H', NSt H' b (pPart n (o.getD [])) vn vf → FrN H H' b vf vf → Q (.int .i64 (ePart n (o.getD []))) H') : FW X 28 #[p0 b, sidesV o] H Q := by
  have rd : Rd H (sidesV o) (o.getD []) := Rd.slV
  have hvlen := fun H0 => rd.len H0
  have hcp := fun (hs : (o.map fun l => l.map (Value.int .i64)).isSome = true) (hn : (o.getD []).length ≤ 16) => copy_vs (H := H) Try.prog (t1 := 29) (t2 := 29) (e := 3) (r := b) (o := 1033) (n := 16) (c := 16) (es := 1) (fr := (0, 0)) (x := o.map fun l => l.map (Value.int .i64)) Try.underlying29 info3 rfl st.net rfl (by rw [getD_mapI]; exact hn)
  have hfl : ((o.map fun l => l.map (Value.int .i64)).getD []).flatMap (fun v => v.cells.toList) = (o.getD []).map (Value.int .i64) := by
    cases o with
    | none => rfl
    | some l => simp [List.flatMap_map]; rw [List.map_eq_flatMap]
  have hsm : (o.map fun l => l.map (Value.int .i64)).isSome = o.isSome := by cases o <;> rfl
  rw [hfl, hsm, getD_mapI] at hcp
  have hson : (o.getD []).length ≠ 0 → o.isSome = true := fun h => by cases o with
    | none => exact absurd rfl h
    | some l => rfl
  have hv : slV 1 (o.map fun l => l.map (Value.int .i64)) = sidesV o := rfl
  rw [hv] at hcp
  clear hfl hsm
  generalize sidesV o = v at *
  generalize hb : o.isSome = ob at *
  generalize hlo : o.getD [] = l at *
  refine FW.walk (by simp [X, sp17_no]) Try.func28 Try.ntmps28 rfl (by simp) ?_
  simp
  refine contains39 (l := l) (cs := []) (p := fun x => decide (x < 0)) rd (by omega) (by simp) (fun x Q => by simpa using part48 H x Q) ?_
  cases hany : (l.any fun x => decide (x < 0)) with
  | true =>
    have e : ePart n l = 7 := by simp [ePart, hany]
    have e1 : pPart n l = n := by simp [pPart, e]
    rw [e, e1] at hq
    simp
    exact hq _ st FrN.refl
  | false =>
  have hn := st.net
  by_cases hsz : (l.length : Int) = n.hosts
  rotate_left
  · have e : ePart n l = 11 := by simp [ePart, hany, hsz]
    have e1 : pPart n l = n := by simp [pPart, e]
    rw [e, e1] at hq
    simp [hvlen, hn, hsz]
    exact hq _ st FrN.refl
  have e : ePart n l = 0 := by simp [ePart, hany, hsz]
  have e1 : pPart n l = { n with sides := l ++ n.sides.drop l.length } := by simp [pPart, e]
  rw [e, e1] at hq
  have hlb := getO_lt hn
  have os := oN_sides (vn := vn) (vf := vf) st.wf (l := l) (by omega)
  have hc := hcp (hson (by omega)) (by omega) (by simp [cN_size st.wf]; omega) (by simp [Value.oneCell']) (hson (by omega))
  rw [os] at hc
  have sa := slice_arr Try.prog (t := 74) (e := 3) (n := 16) (o := 1033) Try.underlying74 info3 hn
  have st4 := st.write { n with sides := l ++ n.sides.drop l.length } ⟨st.wf.links, by simp [st.wf.sides]; omega, st.wf.down⟩ rfl rfl
  simp [hvlen, hn, hsz, sa, hc]
  exact hq _ st4 (FrN.setB _)
/-! ### Reach, IsUp, Used -/
def eReach (n : NN) (x y : Int) : Int := if ¬ hasB n x y then 7 else 0
def rReach (n : NN) (x y : Int) : Bool := if eReach n x y = 0 then !dwn n x && !dwn n y && decide (sid n x = sid n y) else false
set_option maxRecDepth 100000 in
theorem reach35 {H : World} {b : Nat} {n : NN} {vn vf : Value} (st : NSt H b n vn vf) (h16 : n.hosts ≤ 16) (x y : Int) {Q : Value → World → Prop}
    (hq : ∀ H', NSt H' b n vn vf → FrN H H' b vf vf → Q (.tuple #[.bool (rReach n x y), .int .i64 (eReach n x y)]) H') : FW X 35 #[p0 b, .int .i64 x, .int .i64 y] H Q := by
  refine FW.walk (by simp [X, sp17_no]) Try.func35 Try.ntmps35 rfl (by simp) ?_
  have gr : getO (pushObj H (.cells #[.int .i64 x, .int .i64 y] 3 (0, 0))) H.heap.size = some (.cells #[.int .i64 x, .int .i64 y] 3 (0, 0)) := by rw [get_push, if_pos rfl]
  have st2 := st.push (.cells #[.int .i64 x, .int .i64 y] 3 (0, 0))
  have fr2 : FrN H (pushObj H (.cells #[.int .i64 x, .int .i64 y] 3 (0, 0))) b vf vf := FrN.push _
  simp [szO, buildSliceX, inOrder, catCells]
  generalize hH2 : pushObj H (.cells #[.int .i64 x, .int .i64 y] 3 (0, 0)) = H2 at *
  refine has43 st2.net gr ?_
  have st3 := st2.push (.cells #[p0 b] 25 (0, 0))
  have fr3 : FrN H (pushObj H2 (.cells #[p0 b] 25 (0, 0))) b vf vf := fr2.trans (FrN.push _)
  generalize hH3 : pushObj H2 (.cells #[p0 b] 25 (0, 0)) = H3 at *
  by_cases hh : hasB n x y
  rotate_left
  · have e : eReach n x y = 7 := by simp [eReach, hh]
    have e1 : rReach n x y = false := by simp [rReach, e]
    rw [e, e1] at hq
    have hd : decide (0 ≤ x ∧ x < n.hosts ∧ 0 ≤ y ∧ y < n.hosts) = false := decide_eq_false hh
    rw [hd]
    simp
    exact hq _ st3 fr3
  have hd : decide (0 ≤ x ∧ x < n.hosts ∧ 0 ≤ y ∧ y < n.hosts) = true := decide_eq_true hh
  rw [hd]
  have e : eReach n x y = 0 := by simp [eReach, hh]
  have e1 : rReach n x y = (!dwn n x && !dwn n y && decide (sid n x = sid n y)) := by simp [rReach, e]
  rw [e, e1] at hq
  obtain ⟨x0, x1, y0, y1⟩ := hh
  have x16 : x < 16 := by omega
  have y16 : y < 16 := by omega
  have hn3 := st3.net
  have cx := cN_dwn (vn := vn) (vf := vf) st3.wf x0 x16 (k := 1049 + x.toNat) rfl
  have cy := cN_dwn (vn := vn) (vf := vf) st3.wf y0 y16 (k := 1049 + y.toNat) rfl
  have sx := cN_sid (vn := vn) (vf := vf) st3.wf x0 x16 (k := 1033 + x.toNat) rfl
  have sy := cN_sid (vn := vn) (vf := vf) st3.wf y0 y16 (k := 1033 + y.toNat) rfl
  simp
  refine WP.draw0 (by decide +kernel) (by decide +kernel) ?_
  cases hdx : dwn n x with
  | true =>
    rw [hdx] at hq cx
    simp [hn3, idxP, x0, x16, y0, y16, cx]
    exact hq _ st3 fr3
  | false =>
  cases hdy : dwn n y with
  | true =>
    rw [hdx, hdy] at hq
    rw [hdx] at cx
    rw [hdy] at cy
    simp [hn3, idxP, x0, x16, y0, y16, cx, cy]
    exact hq _ st3 fr3
  | false =>
    rw [hdx, hdy] at hq
    rw [hdx] at cx
    rw [hdy] at cy
    simp [hn3, idxP, x0, x16, y0, y16, cx, cy, sx, sy]
    simpa using hq _ st3 fr3
def isUp (n : NN) (x : Int) : Bool := decide (0 ≤ x ∧ x < n.hosts) && !dwn n x
set_option maxRecDepth 100000 in
theorem isup51 {H : World} {b : Nat} {n : NN} {vn vf : Value} (st : NSt H b n vn vf) (h16 : n.hosts ≤ 16) (x : Int) {Q : Value → World → Prop}
    (hq : ∀ H', NSt H' b n vn vf → FrN H H' b vf vf → Q (.bool (isUp n x)) H') : FW X 51 #[p0 b, .int .i64 x] H Q := by
  refine FW.walk (by simp [X, sp17_no]) Try.func51 Try.ntmps51 rfl (by simp) ?_
  have gr : getO (pushObj H (.cells #[.int .i64 x] 3 (0, 0))) H.heap.size = some (.cells #[.int .i64 x] 3 (0, 0)) := by rw [get_push, if_pos rfl]
  have st2 := st.push (.cells #[.int .i64 x] 3 (0, 0))
  have fr2 : FrN H (pushObj H (.cells #[.int .i64 x] 3 (0, 0))) b vf vf := FrN.push _
  have nn := fun (x y : Operand) (H0 : World) => (bX_ptr_nil (P := Try.prog) (t := 25) (x := x) (y := y) (H := H0) (a := ⟨b, 0, none⟩) Try.underlying25).2
  simp [szO, buildSliceX, inOrder, catCells, nn]
  generalize hH2 : pushObj H (.cells #[.int .i64 x] 3 (0, 0)) = H2 at *
  refine has43a st2.net gr ?_
  have st3 := st2.push (.cells #[p0 b] 25 (0, 0))
  have fr3 : FrN H (pushObj H2 (.cells #[p0 b] 25 (0, 0))) b vf vf := fr2.trans (FrN.push _)
  generalize hH3 : pushObj H2 (.cells #[p0 b] 25 (0, 0)) = H3 at *
  by_cases hh : 0 ≤ x ∧ x < n.hosts
  rotate_left
  · have e1 : isUp n x = false := by unfold isUp; rw [decide_eq_false hh]; rfl
    rw [e1] at hq
    rw [decide_eq_false hh]
    simp
    exact hq _ st3 fr3
  have e1 : isUp n x = !dwn n x := by unfold isUp; rw [decide_eq_true hh]; rfl
  rw [e1] at hq
  rw [decide_eq_true hh]
  obtain ⟨x0, x1⟩ := hh
  have x16 : x < 16 := by omega
  have hn3 := st3.net
  have cx := cN_dwn (vn := vn) (vf := vf) st3.wf x0 x16 (k := 1049 + x.toNat) rfl
  simp [hn3, idxP, x0, x16, cx]
  exact hq _ st3 fr3
set_option maxRecDepth 100000 in
theorem used54 {H : World} {b : Nat} {n : NN} {vn vf : Value} (st : NSt H b n vn vf) {Q : Value → World → Prop} (hq : Q (.int .i64 n.used) H) : FW X 54 #[p0 b] H Q := by
  refine FW.walk (by simp [X, sp17_no]) Try.func54 Try.ntmps54 rfl (by simp) ?_
  have h := st.net
  simp [h]
  exact hq
end Go.Proofs.Ytmmmdmandocbhaa
end
