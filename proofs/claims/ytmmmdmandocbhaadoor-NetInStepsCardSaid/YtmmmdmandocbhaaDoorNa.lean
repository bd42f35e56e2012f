/- Helpers of this claim: an evaluator over plain values and its laws. -/
import Derived.Test.YtmmmdmandocbhaaDoorPy
section
set_option linter.unusedVariables false
set_option linter.unusedSimpArgs false
namespace Go.Proofs.YtmmmdmandocbhaaDoor
open Go Go.Proofs.YtmmmdmandocbhaaDoor.Den
theorem clone_app0 {H : World} {b : Nat} {x : Value} (hb : getO H b = some (.cells #[] 3 (0, 0))) (hx : SrcX Tryd.prog 1 x H 0 []) :
    builtinX Tryd.prog .append #[22, 22] #[.slice (some ⟨b, 0, none⟩) 0 0, x] H = some (.value (.slice (some ⟨b, 0, none⟩) 0 0), H) := by
  refine builtin_append (r := (_, _)) ?_
  have hap : appended Tryd.prog (some 22) Tryd.t3 x H = some (0, #[]) := appended_src Tryd.prog (es := 1) (by simp) (by simp) hx
  have h1 : ((#[22, 22] : Array TypeId)[0]?).bind Tryd.prog.underlying = some (.slice 3) := by simp
  have h2 : (#[22, 22] : Array TypeId)[1]? = some 22 := rfl
  simp only [lappend, h1, h2, info3, hap, Nat.add_zero, Nat.le_refl, if_true, storeCells, Sem.run_pure, okRun, Option.map_some]
set_option maxRecDepth 100000 in
/-- The copy of a row of numbers that came in. -/
theorem clone41v {H : World} (o : Option (List Int)) (hn : (o.getD []).length ≤ 2 ^ 20) {Q : Value → World → Prop}
    (hq : ∀ H' a m c, Nums H' (.slice a m c) (o.getD []) → Keep H H' → H.heap.size ≤ H'.heap.size → (∀ r o2 m2 c2, Value.slice a m c = .slice (some ⟨r, o2, none⟩) m2 c2 → H.heap.size ≤ r) → Q (.slice a m c) H') : FW X 17 #[sidesV o] H Q := by
  refine FW.walk (by simp [X, sp17_no]) Tryd.func17 Tryd.ntmps17 rfl (by simp) ?_
  have hnil := fun x y H0 => slV_nil (P := Tryd.prog) (t := 22) (x := x) (y := y) (H := H0) (es := 1) (o := o.map fun l => l.map (Value.int .i64)) (by simp)
  cases o with
  | none =>
    simp [hnil]
    exact hq H none 0 0 (.inl ⟨rfl, rfl⟩) (fun _ _ h => h) (Nat.le_refl _) (fun r o2 m2 c2 e => by cases e)
  | some l =>
  have hb : getO (pushObj H (.cells #[] 3 (0, 0))) H.heap.size = some (.cells #[] 3 (0, 0)) := by rw [get_push, if_pos rfl]
  have hx : SrcX Tryd.prog 1 (sidesV (some l)) (pushObj H (.cells #[] 3 (0, 0))) l.length (l.map (Value.int .i64)) := by
    have h := SrcX.slV (P := Tryd.prog) (es := 1) (o := some (l.map (Value.int .i64))) (H := pushObj H (.cells #[] 3 (0, 0)))
    simp [List.flatMap_map] at h
    rw [List.map_eq_flatMap]
    exact h
  have k1 : Keep H (pushObj H (.cells #[] 3 (0, 0))) := fun j o hj => by
    have := getO_lt hj
    rw [get_push, if_neg (by omega)]; exact hj
  by_cases hl : l = []
  · subst hl
    have ha := clone_app0 hb hx
    simp [hnil, buildSliceX, inOrder, catCells, szO, ha]
    exact hq _ _ _ _ (.inr ⟨H.heap.size, 0, (0, 0), rfl, hb⟩) k1 (by simp) (fun r o2 m2 c2 e => by cases e; omega)
  · have ha := clone_app hb hx hl hn
    have hz : (pushObj H (.cells #[] 3 (0, 0))).heap.size = H.heap.size + 1 := by simp
    rw [hz] at ha
    simp [hnil, buildSliceX, inOrder, catCells, szO, ha]
    refine hq _ _ _ _ (.inr ⟨H.heap.size + 1, l.length, (1, 0), rfl, by rw [get_push, if_pos (by simp)]; rfl⟩) (fun j o hj => ?_) (by simp; omega) (fun r o2 m2 c2 e => by cases e; omega)
    have := getO_lt hj
    rw [get_push, if_neg (by simp; omega), get_push, if_neg (by omega)]; exact hj
/-- What New answers. -/
def eNew (h : Int) (l : List Int) : Int := if h < 1 ∨ 16 < h ∨ (l.any fun x => decide (x < 0)) = true then 7 else if 10000 < l.length then 4 else 0
set_option maxRecDepth 100000 in
/-- New of numbers that came in. -/
theorem new8v {H : World} (o : Option (List Int)) (hlen : (o.getD []).length < 2 ^ 62) (h : Int) {Q : Value → World → Prop}
    (hq : ∀ H' b vn, eNew h (o.getD []) = 0 → H.heap.size ≤ b → NSt H' b (netZ h (o.getD []) ⟨1, 0, 0, 0⟩) vn (.slice none 0 0) → Keep H H' → H.heap.size ≤ H'.heap.size → (∀ j, j < H.heap.size → ApO vn j) → Q (.tuple #[p0 b, .int .i64 0]) H')
    (hz : eNew h (o.getD []) ≠ 0 → Q (.tuple #[.pointer none, .int .i64 (eNew h (o.getD []))]) H) : FW X 6 #[.int .i64 h, sidesV o] H Q := by
  have rd : Rd H (sidesV o) (o.getD []) := Rd.slV
  have hcl := fun hn Q => clone41v (H := H) o hn (Q := Q)
  have hvlen := fun H0 => rd.len H0
  generalize hv : sidesV o = v at *
  generalize o.getD [] = l at *
  refine FW.walk (by simp [X, sp17_no]) Tryd.func6 Tryd.ntmps6 rfl (by simp) ?_
  by_cases a1 : h < 1
  · have e : eNew h l = 7 := by simp [eNew, a1]
    rw [e] at hz
    simp [a1]
    exact hz (by decide)
  by_cases a2 : 16 < h
  · have e : eNew h l = 7 := by simp [eNew, a2]
    rw [e] at hz
    simp [a1, a2]
    exact hz (by decide)
  simp [a1, a2]
  refine contains39 (l := l) (cs := []) (p := fun x => decide (x < 0)) rd (by omega) (by simp) (fun x Q => by simpa using new40 H x Q) ?_
  cases hany : (l.any fun x => decide (x < 0)) with
  | true =>
    have e : eNew h l = 7 := by unfold eNew; rw [if_pos (.inr (.inr hany))]
    rw [e] at hz
    simp
    exact hz (by decide)
  | false =>
  by_cases hbig : 10000 < l.length
  · have e : eNew h l = 4 := by unfold eNew; rw [hany, if_neg (by simp; omega), if_pos hbig]
    rw [e] at hz
    have hb' : (10000 : Int) < l.length := by omega
    simp [hvlen, hb']
    exact hz (by decide)
  have e : eNew h l = 0 := by unfold eNew; rw [hany, if_neg (by simp; omega), if_neg hbig]
  rw [e] at hq
  have hb' : ¬ (10000 : Int) < l.length := by omega
  simp [hvlen, hb']
  refine hcl (by omega) _ fun H1 av am ac nums k1 z1 fresh => ?_
  have b78 := build78 h l av am ac
  generalize hvn : Value.slice av am ac = vn at *
  simp [b78, szO]
  have gnb : getO (pushObj H1 (netO (netZ h l ⟨0, 0, 0, 0⟩) vn (.slice none 0 0))) H1.heap.size = some (netO (netZ h l ⟨0, 0, 0, 0⟩) vn (.slice none 0 0)) := by rw [get_push, if_pos rfl]
  have k2 : Keep H1 (pushObj H1 (netO (netZ h l ⟨0, 0, 0, 0⟩) vn (.slice none 0 0))) := fun j o hj => by
    have := getO_lt hj
    rw [get_push, if_neg (by omega)]; exact hj
  have z2 : (pushObj H1 (netO (netZ h l ⟨0, 0, 0, 0⟩) vn (.slice none 0 0))).heap.size = H1.heap.size + 1 := by simp
  have nums2 : Nums (pushObj H1 (netO (netZ h l ⟨0, 0, 0, 0⟩) vn (.slice none 0 0))) vn l := nums.imp fun r o m c e x hx => k2 _ _ hx
  have apn : ApO vn H1.heap.size := fun r o n c e => by
    rcases nums with ⟨e2, _⟩ | ⟨r2, c2, fr2, e2, hr⟩
    · rw [e2] at e; cases e
    · rw [e2] at e; cases e; have := getO_lt hr; omega
  generalize hH2 : pushObj H1 (netO (netZ h l ⟨0, 0, 0, 0⟩) vn (.slice none 0 0)) = H2 at *
  generalize hnb : H1.heap.size = nb at *
  have hset0 : H2 = setO H2 nb (netO (netL h l (0 * 16)) vn (.slice none 0 0)) := by
    rw [Nat.zero_mul, netL_0]
    exact (set_same gnb).symm
  have lnb : nb < H2.heap.size := by omega
  refine CE.inv (NwO nb H2 h l vn) ?_ (d := 16) ⟨by simp, 0, rfl, by omega, by simp, hset0⟩
  rintro d e H' ⟨e6, i, rfl, hi, e27, hH'⟩
  by_cases hlt : i < 16
  rotate_left
  · have hi16 : i = 16 := by omega
    subst hi16
    simp [e27, e6]
    rw [show 16 * 16 = 256 from rfl, netL_256] at hH'
    rw [hH']
    refine hq _ nb vn rfl (by omega) ⟨by rw [get_set, if_pos rfl, if_pos lnb], ⟨List.length_replicate, List.length_replicate, List.length_replicate⟩, ?_, .inl ⟨rfl, rfl⟩, apn, ?_, ?_⟩ ?_ ?_ ?_
    · exact nums2.imp fun r o m c e x hx => by rw [get_set, if_neg (fun e' => apn _ _ _ _ e e'.symm)]; exact hx
    · intro r o n c e; cases e
    · intro r o n c e r' o' n' c' e'; cases e'
    · intro j o hj
      have := getO_lt hj
      rw [get_set, if_neg (by omega)]; exact k2 _ _ (k1 _ _ hj)
    · simp; omega
    · intro j hj r o n c e hjr
      have := fresh r o n c e
      omega
  have hlt' : (i : Int) < 16 := by omega
  simp [e27, e6, hlt']
  refine CE.inv (NwI nb H2 h l vn i) ?_ (d := 16) ⟨by simp [e6], by simp, by simp [e27], 0, rfl, by omega, by simp, by simpa using hH'⟩
  rintro d e H' ⟨e6, e7, e27, k, rfl, hk, e30, hH'⟩
  by_cases hkt : k < 16
  rotate_left
  · have hk16 : k = 16 := by omega
    subst hk16
    have wi : IntKind.i64.wrap ((i : Int) + 1) = ((i + 1 : Nat) : Int) := by rw [wrap64 (by omega) (by omega)]; omega
    simp [e30, e27, wi]
    refine ⟨16 - (i + 1), by omega, by simp [e6], i + 1, rfl, by omega, by simp, ?_⟩
    rw [hH', show (i + 1) * 16 = i * 16 + 16 by omega]
  have hkt' : (k : Int) < 16 := by omega
  have gN : getO H' nb = some (netO (netL h l (i * 16 + k)) vn (.slice none 0 0)) := by rw [hH', get_set, if_pos rfl, if_pos lnb]
  have lN := getO_lt gN
  have wf := netL_wf h l (t := i * 16 + k) (by omega)
  have sl := sN_link (n := netL h l (i * 16 + k)) (vn := vn) (vf := .slice none 0 0) wf (k := i * 16 + k) (j := 0) (by omega) (by decide) (c := .int .i64 1) (x := ⟨1, 0, 0, 0⟩) (by rw [netL_get h l (by omega)]; rfl)
  rw [netL_set h l (by omega), show 9 + (i * 16 + k) * 4 + 0 = 9 + i * 64 + k * 4 by omega] at sl
  have hlo : 9 + i * 64 + k * 4 + 1 ≤ (cellsN (netL h l (i * 16 + k)) vn (.slice none 0 0)).length := cN_le wf (by omega)
  have wk : IntKind.i64.wrap ((k : Int) + 1) = ((k + 1 : Nat) : Int) := by rw [wrap64 (by omega) (by omega)]; omega
  simp [e30, e7, e6, hkt', hlt', idxP, gN, lN, overL, sl, hlo, wk]
  refine ⟨16 - (k + 1), by omega, by simp [e6], by simp [e7], by simp [e27], k + 1, rfl, by omega, by simp, ?_⟩
  rw [hH', set_set, Nat.add_assoc]
end Go.Proofs.YtmmmdmandocbhaaDoor
end

section
set_option linter.unusedVariables false
set_option linter.unusedSimpArgs false
namespace Go.Proofs.YtmmmdmandocbhaaDoor
open Go Go.Proofs.YtmmmdmandocbhaaDoor.Den
theorem oN_sides {n : NN} {vn vf : Value} (h : WF n) {l : List Int} (hl : l.length ≤ 16) :
    overL (cellsN n vn vf).toArray 1033 (l.map (Value.int .i64)) = (cellsN { n with sides := l ++ n.sides.drop l.length } vn vf).toArray := by
  have hlen := cN_size (vn := vn) (vf := vf) h
  rw [overL_list _ _ _ (by rw [hlen, List.length_map]; omega)]
  congr 1
  have hf := flatE_len encLk_size n.links
  have hA : ∀ A B : List Value, A.length = 9 → B.length = 1024 → ∀ R, (A ++ (B ++ R)).take 1033 = A ++ B ∧ ∀ k, (A ++ (B ++ R)).drop (1033 + k) = R.drop k := fun A B a b R => by
    rw [← List.append_assoc]
    refine ⟨?_, fun k => ?_⟩
    · rw [show 1033 = (A ++ B).length by simp [a, b], List.take_left]
    · rw [← List.drop_drop, show 1033 = (A ++ B).length by simp [a, b], List.drop_left]
  unfold cellsN
  obtain ⟨t1, t2⟩ := hA [.int .i64 n.sent, .int .i64 n.arr, .int .i64 n.lost, .int .i64 n.dbl, .int .i64 n.hosts, vn, .int .i64 n.used, .int .i64 n.now, .int .i64 n.next] (flatE encLk n.links) rfl (by rw [hf, h.links]) (n.sides.map (Value.int .i64) ++ (n.down.map Value.bool ++ [vf]))
  rw [t1, t2, List.length_map, List.drop_append, List.length_map, h.sides, Nat.sub_eq_zero_of_le hl, List.drop_zero, List.map_append, List.map_drop]
  simp only [List.append_assoc]
theorem has43a {H : World} {b r : Nat} {n : NN} {vn vf : Value} (hn : getO H b = some (netO n vn vf)) {i : Int} {e : TypeId} {fr : Nat × Nat} (hr : getO H r = some (.cells #[.int .i64 i] e fr)) {Q : Value → World → Prop}
    (hq : Q (.bool (decide (0 ≤ i ∧ i < n.hosts))) (pushObj H (.cells #[p0 b] 26 (0, 0)))) : FW X 30 #[p0 b, .slice (some ⟨r, 0, none⟩) 1 1] H Q := by
  refine FW.walk (by simp [X, sp17_no]) Tryd.func30 Tryd.ntmps30 rfl (by simp) ?_
  have hrl := getO_lt hr
  have hbl := getO_lt hn
  simp
  refine contains39 (l := [i]) (cs := [p0 (szO H)]) (p := fun x => decide (x < 0 ∨ n.hosts ≤ x)) (Rd.row (e := e) (fr := fr) ?_) (by simp) (by simp) (fun x Q => has59 (b := b) (n := n) (vn := vn) (vf := vf) ?_ ?_ x Q) ?_
  · simp; rw [if_neg (by omega)]; exact hr
  · rw [get_push, if_neg (by omega)]; exact hn
  · simp
  have e : ([i].any fun x => decide (x < 0 ∨ n.hosts ≤ x)) = !decide (0 ≤ i ∧ i < n.hosts) := by
    rw [Bool.eq_iff_iff]; simp
  rw [e]
  generalize decide (0 ≤ i ∧ i < n.hosts) = d at *
  simp
  exact hq
/-! ### Link -/
def eLink (n : NN) (x y : Int) : Int := if ¬ hasB n x y then 7 else if x = y then 10 else 0
def rLink (n : NN) (x y : Int) : Lk := if eLink n x y = 0 then lnk n x y else ⟨0, 0, 0, 0⟩
def eTurn (n : NN) (x : Int) (d : Bool) : Int := if ¬ (0 ≤ x ∧ x < n.hosts) then 7 else if dwn n x = d then 9 else 0
def pTurn (n : NN) (x : Int) (d : Bool) : NN := if eTurn n x d = 0 then { n with down := n.down.set x.toNat d } else n
set_option maxRecDepth 100000 in
theorem turn49 {H : World} {b : Nat} {n : NN} {vn vf : Value} (st : NSt H b n vn vf) (h16 : n.hosts ≤ 16) (x : Int) (d : Bool) {Q : Value → World → Prop}
    (hq : ∀ H', NSt H' b (pTurn n x d) vn vf → FrN H H' b vf vf → Q (.int .i64 (eTurn n x d)) H') : FW X 36 #[p0 b, .int .i64 x, .bool d] H Q := by
  refine FW.walk (by simp [X, sp17_no]) Tryd.func36 Tryd.ntmps36 rfl (by simp) ?_
  have gr : getO (pushObj H (.cells #[.int .i64 x] 3 (0, 0))) H.heap.size = some (.cells #[.int .i64 x] 3 (0, 0)) := by rw [get_push, if_pos rfl]
  have st2 := st.push (.cells #[.int .i64 x] 3 (0, 0))
  have fr2 : FrN H (pushObj H (.cells #[.int .i64 x] 3 (0, 0))) b vf vf := FrN.push _
  simp [szO, buildSliceX, inOrder, catCells]
  generalize hH2 : pushObj H (.cells #[.int .i64 x] 3 (0, 0)) = H2 at *
  refine has43a st2.net gr ?_
  have st3 := st2.push (.cells #[p0 b] 26 (0, 0))
  have fr3 : FrN H (pushObj H2 (.cells #[p0 b] 26 (0, 0))) b vf vf := fr2.trans (FrN.push _)
  generalize hH3 : pushObj H2 (.cells #[p0 b] 26 (0, 0)) = H3 at *
  by_cases hh : 0 ≤ x ∧ x < n.hosts
  rotate_left
  · have e : eTurn n x d = 7 := by unfold eTurn; rw [if_pos hh]
    have e1 : pTurn n x d = n := by simp [pTurn, e]
    rw [e, e1] at hq
    rw [decide_eq_false hh]
    simp
    exact hq _ st3 fr3
  rw [decide_eq_true hh]
  obtain ⟨x0, x1⟩ := hh
  have x16 : x < 16 := by omega
  have hn3 := st3.net
  have lb3 := getO_lt hn3
  have cd := cN_dwn (vn := vn) (vf := vf) st3.wf x0 x16 (k := 1049 + x.toNat) rfl
  have hnn : ¬ ¬ (0 ≤ x ∧ x < n.hosts) := fun h => h ⟨x0, x1⟩
  by_cases hdd : dwn n x = d
  · have e : eTurn n x d = 9 := by unfold eTurn; rw [if_neg hnn, if_pos hdd]
    have e1 : pTurn n x d = n := by simp [pTurn, e]
    rw [e, e1] at hq
    have hbe : (dwn n x == d) = true := by rw [hdd]; exact beq_self_eq_true d
    simp [hn3, idxP, x0, x16, cd, bX_beql Tryd.underlying4, hbe, -beq_iff_eq]
    exact hq _ st3 fr3
  have e : eTurn n x d = 0 := by unfold eTurn; rw [if_neg hnn, if_neg hdd]
  have e1 : pTurn n x d = { n with down := n.down.set x.toNat d } := by simp [pTurn, e]
  rw [e, e1] at hq
  have sl := sN_down (vn := vn) (vf := vf) st3.wf (i := x.toNat) (by omega) d
  have hlo : 1049 + x.toNat + 1 ≤ (cellsN n vn vf).length := cN_le st3.wf (by omega)
  have st4 := st3.write { n with down := n.down.set x.toNat d } ⟨st3.wf.links, st3.wf.sides, by simp [st3.wf.down]⟩ rfl rfl
  have hbe : (dwn n x == d) = false := beq_eq_false_iff_ne.2 hdd
  simp [hn3, idxP, x0, x16, cd, bX_beql Tryd.underlying4, hbe, hlo, lb3, overL, sl]
  exact hq _ st4 (fr3.trans (FrN.setB _))
set_option maxRecDepth 100000 in
theorem down32 {H : World} {b : Nat} {n : NN} {vn vf : Value} (st : NSt H b n vn vf) (h16 : n.hosts ≤ 16) (x : Int) {Q : Value → World → Prop}
    (hq : ∀ H', NSt H' b (pTurn n x true) vn vf → FrN H H' b vf vf → Q (.int .i64 (eTurn n x true)) H') : FW X 20 #[p0 b, .int .i64 x] H Q := by
  refine FW.walk (by simp [X, sp17_no]) Tryd.func20 Tryd.ntmps20 rfl (by simp) ?_
  simp
  refine turn49 st h16 x true fun H' st' fr' => ?_
  simp
  exact hq _ st' fr'
set_option maxRecDepth 100000 in
theorem up34 {H : World} {b : Nat} {n : NN} {vn vf : Value} (st : NSt H b n vn vf) (h16 : n.hosts ≤ 16) (x : Int) {Q : Value → World → Prop}
    (hq : ∀ H', NSt H' b (pTurn n x false) vn vf → FrN H H' b vf vf → Q (.int .i64 (eTurn n x false)) H') : FW X 21 #[p0 b, .int .i64 x] H Q := by
  refine FW.walk (by simp [X, sp17_no]) Tryd.func21 Tryd.ntmps21 rfl (by simp) ?_
  simp
  refine turn49 st h16 x false fun H' st' fr' => ?_
  simp
  exact hq _ st' fr'
/-! ### Heal, Part -/
def pHeal (n : NN) : NN := { n with sides := List.replicate 16 0 }
set_option maxRecDepth 100000 in
theorem heal30 {H : World} {b : Nat} {n : NN} {vn vf : Value} (st : NSt H b n vn vf) {Q : Value → World → Prop}
    (hq : ∀ H', NSt H' b (pHeal n) vn vf → FrN H H' b vf vf → Q (.int .i64 0) H') : FW X 19 #[p0 b] H Q := by
  refine FW.walk (by simp [X, sp17_no]) Tryd.func19 Tryd.ntmps19 rfl (by simp) ?_
  have hn3 := st.net
  have lb3 := getO_lt hn3
  have os := oN_sides (vn := vn) (vf := vf) st.wf (l := List.replicate 16 0) (by simp)
  have hd : n.sides.drop 16 = [] := List.drop_eq_nil_of_le (by rw [st.wf.sides]; exact Nat.le_refl _)
  have hlo : 1033 + 16 ≤ (cellsN n vn vf).length := cN_le st.wf (by omega)
  have st4 := st.write (pHeal n) ⟨st.wf.links, List.length_replicate, st.wf.down⟩ rfl rfl
  have os' : overL (cellsN n vn vf).toArray 1033 [.int .i64 0, .int .i64 0, .int .i64 0, .int .i64 0, .int .i64 0, .int .i64 0, .int .i64 0, .int .i64 0, .int .i64 0, .int .i64 0, .int .i64 0, .int .i64 0, .int .i64 0, .int .i64 0, .int .i64 0, .int .i64 0] = (cellsN (pHeal n) vn vf).toArray := by
    refine os.trans ?_
    rw [List.length_replicate, hd, List.append_nil]; rfl
  simp [buildQ, fillX, hn3, lb3, hlo, Value.cells, os', -overL_cons]
  exact hq _ st4 (FrN.setB _)
def ePart (n : NN) (l : List Int) : Int := if (l.any fun x => decide (x < 0)) = true then 7 else if (l.length : Int) ≠ n.hosts then 11 else 0
def pPart (n : NN) (l : List Int) : NN := if ePart n l = 0 then { n with sides := l ++ n.sides.drop l.length } else n
theorem part48 (H : World) (i : Int) (Q : Value → World → Prop) : FW X 35 #[.int .i64 i] H Q = Q (.bool (decide (i < 0))) H := by
  refine FW.aloneEq ?_ Tryd.func35 Tryd.ntmps35 rfl (by simp) ?_ H Q
  · simp [X, plainDI]
  simp
set_option maxRecDepth 100000 in
theorem part28 {H : World} {b : Nat} {n : NN} {vn vf : Value} (st : NSt H b n vn vf) (h1 : 1 ≤ n.hosts) (h16 : n.hosts ≤ 16) (o : Option (List Int)) (hl : (o.getD []).length < 2 ^ 62) {Q : Value → World → Prop}
    (hq : ∀ H', NSt H' b (pPart n (o.getD [])) vn vf → FrN H H' b vf vf → Q (.int .i64 (ePart n (o.getD []))) H') : FW X 18 #[p0 b, sidesV o] H Q := by
  have rd : Rd H (sidesV o) (o.getD []) := Rd.slV
  have hvlen := fun H0 => rd.len H0
  have hcp := fun (hs : (o.map fun l => l.map (Value.int .i64)).isSome = true) (hn : (o.getD []).length ≤ 16) => copy_vs (H := H) Tryd.prog (t1 := 22) (t2 := 22) (e := 3) (r := b) (o := 1033) (n := 16) (c := 16) (es := 1) (fr := (0, 0)) (x := o.map fun l => l.map (Value.int .i64)) Tryd.underlying22 info3 rfl st.net rfl (by rw [getD_mapI]; exact hn)
  have hfl : ((o.map fun l => l.map (Value.int .i64)).getD []).flatMap (fun v => v.cells.toList) = (o.getD []).map (Value.int .i64) := by
    cases o with
    | none => rfl
    | some l => simp [List.flatMap_map]; rw [List.map_eq_flatMap]
  have hsm : (o.map fun l => l.map (Value.int .i64)).isSome = o.isSome := by cases o <;> rfl
  rw [hfl, hsm, getD_mapI] at hcp
  have hson : (o.getD []).length ≠ 0 → o.isSome = true := fun h => by cases o with
    | none => exact absurd rfl h
    | some l => rfl
  have hv : slV 1 (o.map fun l => l.map (Value.int .i64)) = sidesV o := rfl
  rw [hv] at hcp
  clear hfl hsm
  generalize sidesV o = v at *
  generalize hb : o.isSome = ob at *
  generalize hlo : o.getD [] = l at *
  refine FW.walk (by simp [X, sp17_no]) Tryd.func18 Tryd.ntmps18 rfl (by simp) ?_
  simp
  refine contains39 (l := l) (cs := []) (p := fun x => decide (x < 0)) rd (by omega) (by simp) (fun x Q => by simpa using part48 H x Q) ?_
  cases hany : (l.any fun x => decide (x < 0)) with
  | true =>
    have e : ePart n l = 7 := by simp [ePart, hany]
    have e1 : pPart n l = n := by simp [pPart, e]
    rw [e, e1] at hq
    simp
    exact hq _ st FrN.refl
  | false =>
  have hn := st.net
  by_cases hsz : (l.length : Int) = n.hosts
  rotate_left
  · have e : ePart n l = 11 := by simp [ePart, hany, hsz]
    have e1 : pPart n l = n := by simp [pPart, e]
    rw [e, e1] at hq
    simp [hvlen, hn, hsz]
    exact hq _ st FrN.refl
  have e : ePart n l = 0 := by simp [ePart, hany, hsz]
  have e1 : pPart n l = { n with sides := l ++ n.sides.drop l.length } := by simp [pPart, e]
  rw [e, e1] at hq
  have hlb := getO_lt hn
  have os := oN_sides (vn := vn) (vf := vf) st.wf (l := l) (by omega)
  have hc := hcp (hson (by omega)) (by omega) (by simp [cN_size st.wf]; omega) (by simp [Value.oneCell']) (hson (by omega))
  rw [os] at hc
  have sa := slice_arr Tryd.prog (t := 55) (e := 3) (n := 16) (o := 1033) Tryd.underlying55 info3 hn
  have st4 := st.write { n with sides := l ++ n.sides.drop l.length } ⟨st.wf.links, by simp [st.wf.sides]; omega, st.wf.down⟩ rfl rfl
  simp [hvlen, hn, hsz, sa, hc]
  exact hq _ st4 (FrN.setB _)
/-! ### Reach, IsUp, Used -/
def eReach (n : NN) (x y : Int) : Int := if ¬ hasB n x y then 7 else 0
def rReach (n : NN) (x y : Int) : Bool := if eReach n x y = 0 then !dwn n x && !dwn n y && decide (sid n x = sid n y) else false
def isUp (n : NN) (x : Int) : Bool := decide (0 ≤ x ∧ x < n.hosts) && !dwn n x
end Go.Proofs.YtmmmdmandocbhaaDoor
end

section
set_option linter.unusedVariables false
set_option linter.unusedSimpArgs false
namespace Go.Proofs.YtmmmdmandocbhaaDoor
open Go Go.Proofs.YtmmmdmandocbhaaDoor.Den
/-- What an act makes of a network (but 11). -/
def pDo (n : NN) (x : Ac) : NN :=
  if x.kind = 1 then pSet n x.frm x.to x.lk else
  if x.kind = 12 then pPart n (x.sides.getD []) else
  if x.kind = 13 then pHeal n else
  if x.kind = 14 then pTurn n x.frm true else
  if x.kind = 15 then pTurn n x.frm false else
  if 3 ≤ x.kind ∧ x.kind ≤ 8 then pSend n x.frm x.to x.body else n
theorem inv_mono {n : NN} {T : Nat} (h : Inv n T) (hT : T < 100000) : Inv n (T + 1) :=
  { h with id1 := by have := h.id1; omega, T := by omega }
theorem inv_part {n : NN} {T : Nat} (h : Inv n T) (l : List Int) : Inv (pPart n l) T := by
  unfold pPart
  split
  · exact { h with us := ⟨h.us.lo, h.us.hi, h.us.len⟩, ok := ⟨h.ok.fb, h.ok.so, h.ok.len⟩ }
  · exact h
theorem inv_turn {n : NN} {T : Nat} (h : Inv n T) (x : Int) (d : Bool) : Inv (pTurn n x d) T := by
  unfold pTurn
  split
  · exact { h with us := ⟨h.us.lo, h.us.hi, h.us.len⟩, ok := ⟨h.ok.fb, h.ok.so, h.ok.len⟩ }
  · exact h
theorem inv_heal {n : NN} {T : Nat} (h : Inv n T) : Inv (pHeal n) T :=
  { h with us := ⟨h.us.lo, h.us.hi, h.us.len⟩, ok := ⟨h.ok.fb, h.ok.so, h.ok.len⟩ }
theorem inv_do {n : NN} {T : Nat} (h : Inv n T) (hT : T < 100000) (x : Ac) : Inv (pDo n x) (T + 1) := by
  unfold pDo
  split
  · exact inv_mono (inv_set h _ _ _) hT
  split
  · exact inv_mono (inv_part h _) hT
  split
  · exact inv_mono (inv_heal h) hT
  split
  · exact inv_mono (inv_turn h _ _) hT
  split
  · exact inv_mono (inv_turn h _ _) hT
  split
  · exact inv_send h hT _ _ _
  · exact inv_mono h hT
set_option maxRecDepth 100000 in
theorem do16 {H : World} {b : Nat} {n : NN} {vn vf : Value} (st : NSt H b n vn vf) {T : Nat} (iv : Inv n T) (x : Ac) (hl : (x.sides.getD []).length < 2 ^ 62) {Q : Value → World → Prop}
    (hq : ∀ H' vf', NSt H' b (pDo n x) vn vf' → FrN H H' b vf vf' → Q (.tuple #[]) H') : FW X 7 #[p0 b, encA x] H Q := by
  refine FW.walk (by simp [X, sp17_no]) Tryd.func7 Tryd.ntmps7 rfl (by simp) ?_
  have st1 := st.push (.cells (cellsA x) 33 (0, 0))
  have fr1 : FrN H (pushObj H (.cells (cellsA x) 33 (0, 0))) b vf vf := FrN.push _
  have ga : getO (pushObj H (.cells (cellsA x) 33 (0, 0))) H.heap.size = some (.cells (cellsA x) 33 (0, 0)) := by rw [get_push, if_pos rfl]
  have h1 := iv.h1
  have h2 := iv.h2
  simp [szO]
  change NSt (pushObj H (.cells #[.int .i64 x.kind, .int .i64 x.frm, .int .i64 x.to, .int .i64 x.time, .int .i64 x.lk.delay, .int .i64 x.lk.jitter, .int .i64 x.lk.loss, .int .i64 x.lk.dbl, .string (sB x.body), sidesV x.sides] 33 (0, 0))) b n vn vf at st1
  change FrN H (pushObj H (.cells #[.int .i64 x.kind, .int .i64 x.frm, .int .i64 x.to, .int .i64 x.time, .int .i64 x.lk.delay, .int .i64 x.lk.jitter, .int .i64 x.lk.loss, .int .i64 x.lk.dbl, .string (sB x.body), sidesV x.sides] 33 (0, 0))) b vf vf at fr1
  change getO (pushObj H (.cells #[.int .i64 x.kind, .int .i64 x.frm, .int .i64 x.to, .int .i64 x.time, .int .i64 x.lk.delay, .int .i64 x.lk.jitter, .int .i64 x.lk.loss, .int .i64 x.lk.dbl, .string (sB x.body), sidesV x.sides] 33 (0, 0))) H.heap.size = some (.cells #[.int .i64 x.kind, .int .i64 x.frm, .int .i64 x.to, .int .i64 x.time, .int .i64 x.lk.delay, .int .i64 x.lk.jitter, .int .i64 x.lk.loss, .int .i64 x.lk.dbl, .string (sB x.body), sidesV x.sides] 33 (0, 0)) at ga
  generalize hHa : pushObj H (.cells #[.int .i64 x.kind, .int .i64 x.frm, .int .i64 x.to, .int .i64 x.time, .int .i64 x.lk.delay, .int .i64 x.lk.jitter, .int .i64 x.lk.loss, .int .i64 x.lk.dbl, .string (sB x.body), sidesV x.sides] 33 (0, 0)) = Ha at *
  have dt : ∀ m : Int, x.kind = m → (decide (x.kind = m)) = true := fun m h => decide_eq_true h
  by_cases k1 : x.kind = 1
  · have e : pDo n x = pSet n x.frm x.to x.lk := by simp [pDo, k1]
    rw [e] at hq
    have d1 := decide_eq_true k1
    simp [ga, d1]
    refine set21 st1 h2 x.frm x.to x.lk fun H' st' fr' => ?_
    simp
    exact hq _ _ st' (fr1.trans fr')
  by_cases k12 : x.kind = 12
  · have e : pDo n x = pPart n (x.sides.getD []) := by simp [pDo, k12]
    rw [e] at hq
    have d1 := decide_eq_false k1
    have d12 := decide_eq_true k12
    simp [ga, d1, d12]
    refine part28 st1 h1 h2 x.sides hl fun H' st' fr' => ?_
    simp
    exact hq _ _ st' (fr1.trans fr')
  by_cases k13 : x.kind = 13
  · have e : pDo n x = pHeal n := by simp [pDo, k13]
    rw [e] at hq
    have d1 := decide_eq_false k1
    have d12 := decide_eq_false k12
    have d13 := decide_eq_true k13
    simp [ga, d1, d12, d13]
    refine heal30 st1 fun H' st' fr' => ?_
    simp
    exact hq _ _ st' (fr1.trans fr')
  by_cases k14 : x.kind = 14
  · have e : pDo n x = pTurn n x.frm true := by simp [pDo, k14]
    rw [e] at hq
    have d1 := decide_eq_false k1
    have d12 := decide_eq_false k12
    have d13 := decide_eq_false k13
    have d14 := decide_eq_true k14
    simp [ga, d1, d12, d13, d14]
    refine down32 st1 h2 x.frm fun H' st' fr' => ?_
    simp
    exact hq _ _ st' (fr1.trans fr')
  by_cases k15 : x.kind = 15
  · have e : pDo n x = pTurn n x.frm false := by simp [pDo, k15]
    rw [e] at hq
    have d1 := decide_eq_false k1
    have d12 := decide_eq_false k12
    have d13 := decide_eq_false k13
    have d14 := decide_eq_false k14
    have d15 := decide_eq_true k15
    simp [ga, d1, d12, d13, d14, d15]
    refine up34 st1 h2 x.frm fun H' st' fr' => ?_
    simp
    exact hq _ _ st' (fr1.trans fr')
  have d1 := decide_eq_false k1
  have d12 := decide_eq_false k12
  have d13 := decide_eq_false k13
  have d14 := decide_eq_false k14
  have d15 := decide_eq_false k15
  by_cases ks : 3 ≤ x.kind ∧ x.kind ≤ 8
  · have e : pDo n x = pSend n x.frm x.to x.body := by simp only [pDo, k1, k12, k13, k14, k15, if_false, if_pos ks]
    rw [e] at hq
    obtain ⟨ks1, ks2⟩ := ks
    by_cases k3 : x.kind = 3
    · have d3 := decide_eq_true k3
      simp [ga, d1, d12, d13, d14, d15, d3]
      refine send11 st1 iv x.frm x.to x.body fun H' vf' st' fr' => ?_
      simp
      exact hq _ _ st' (fr1.trans fr')
    have d3 := decide_eq_false k3
    by_cases k4 : x.kind = 4
    · have d4 := decide_eq_true k4
      simp [ga, d1, d12, d13, d14, d15, d3, d4]
      refine send11 st1 iv x.frm x.to x.body fun H' vf' st' fr' => ?_
      simp
      exact hq _ _ st' (fr1.trans fr')
    have d4 := decide_eq_false k4
    by_cases k5 : x.kind = 5
    · have d5 := decide_eq_true k5
      simp [ga, d1, d12, d13, d14, d15, d3, d4, d5]
      refine send11 st1 iv x.frm x.to x.body fun H' vf' st' fr' => ?_
      simp
      exact hq _ _ st' (fr1.trans fr')
    have d5 := decide_eq_false k5
    by_cases k6 : x.kind = 6
    · have d6 := decide_eq_true k6
      simp [ga, d1, d12, d13, d14, d15, d3, d4, d5, d6]
      refine send11 st1 iv x.frm x.to x.body fun H' vf' st' fr' => ?_
      simp
      exact hq _ _ st' (fr1.trans fr')
    have d6 := decide_eq_false k6
    by_cases k7 : x.kind = 7
    · have d7 := decide_eq_true k7
      simp [ga, d1, d12, d13, d14, d15, d3, d4, d5, d6, d7]
      refine send11 st1 iv x.frm x.to x.body fun H' vf' st' fr' => ?_
      simp
      exact hq _ _ st' (fr1.trans fr')
    have d7 := decide_eq_false k7
    have d8 : decide (x.kind = 8) = true := decide_eq_true (by omega)
    simp [ga, d1, d12, d13, d14, d15, d3, d4, d5, d6, d7, d8]
    refine send11 st1 iv x.frm x.to x.body fun H' vf' st' fr' => ?_
    simp
    exact hq _ _ st' (fr1.trans fr')
  · have e : pDo n x = n := by simp only [pDo, k1, k12, k13, k14, k15, if_false, if_neg ks]
    rw [e] at hq
    have d3 : decide (x.kind = 3) = false := decide_eq_false (by omega)
    have d4 : decide (x.kind = 4) = false := decide_eq_false (by omega)
    have d5 : decide (x.kind = 5) = false := decide_eq_false (by omega)
    have d6 : decide (x.kind = 6) = false := decide_eq_false (by omega)
    have d7 : decide (x.kind = 7) = false := decide_eq_false (by omega)
    have d8 : decide (x.kind = 8) = false := decide_eq_false (by omega)
    simp [ga, d1, d12, d13, d14, d15, d3, d4, d5, d6, d7, d8]
    exact hq _ _ st1 fr1
end Go.Proofs.YtmmmdmandocbhaaDoor
end
