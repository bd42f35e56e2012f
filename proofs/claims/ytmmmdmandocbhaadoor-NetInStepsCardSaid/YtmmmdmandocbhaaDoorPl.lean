/- Helpers of this claim: an evaluator over plain values and its laws. -/
import Derived.Test.YtmmmdmandocbhaaDoorPj
section
set_option linter.unusedVariables false
set_option linter.unusedSimpArgs false
namespace Go.Proofs.YtmmmdmandocbhaaDoor
open Go Go.Proofs.YtmmmdmandocbhaaDoor.Den
def tNext (n : NN) : Int := match n.fl with
  | [] => 0
  | f :: _ => f.time
def eNext (n : NN) : Int := match n.fl with
  | [] => 8
  | _ :: _ => 0
set_option maxRecDepth 100000 in
theorem next24 {H : World} {b : Nat} {n : NN} {vn vf : Value} (st : NSt H b n vn vf) {Q : Value → World → Prop} (hq : Q (.tuple #[.int .i64 (tNext n), .int .i64 (eNext n)]) H) : FW X 33 #[p0 b] H Q := by
  refine FW.walk (by simp [X, sp17_no]) Tryd.func33 Tryd.ntmps33 rfl (by simp) ?_
  have hn := st.net
  have c9 := cN_fl (vn := vn) (vf := vf) st.wf
  have hlen := fun H0 => st.fl.len (H0 := H0)
  cases hfl : n.fl with
  | nil =>
    have e1 : tNext n = 0 := by unfold tNext; rw [hfl]
    have e2 : eNext n = 8 := by unfold eNext; rw [hfl]
    rw [e1, e2] at hq
    have hl0 : n.fl.length = 0 := by rw [hfl]; rfl
    simp [hn, c9, hlen, hl0]
    exact hq
  | cons f l =>
    have e1 : tNext n = f.time := by unfold tNext; rw [hfl]
    have e2 : eNext n = 0 := by unfold eNext; rw [hfl]
    rw [e1, e2] at hq
    have hfs := st.fl
    rw [hfl] at hfs
    obtain ⟨r, o, rfl, t1, t2, t3, t4, t5⟩ := fls_tail hfs
    have hl0 : n.fl.length = l.length + 1 := by rw [hfl]; rfl
    have hne : ¬ ((l.length : Int) + 1 = 0) := by omega
    simp [hn, c9, hlen, hl0, t3, t5, hne]
    exact hq
def pStep (n : NN) : NN := if eNext n = 0 then pPass n (tNext n) else n
def oStep (n : NN) : List Fl := if eNext n = 0 then oPass n (tNext n) else []
def eStep (n : NN) : Int := if eNext n = 0 then ePass n (tNext n) else eNext n
set_option maxRecDepth 100000 in
theorem step17 {H : World} {b : Nat} {n : NN} {vn vf : Value} (st : NSt H b n vn vf) {T : Nat} (iv : Inv n T) {Q : Value → World → Prop}
    (hq : ∀ H' vf' vo, NSt H' b (pStep n) vn vf' → FrN H H' b vf vf' → AccP H' vo (oStep n) → (∀ j, j < H.heap.size → ApO vo j) → Q (.tuple #[vo, .int .i64 (eStep n)]) H') : FW X 13 #[p0 b] H Q := by
  refine FW.walk (by simp [X, sp17_no]) Tryd.func13 Tryd.ntmps13 rfl (by simp) ?_
  simp
  refine next24 st ?_
  by_cases h : eNext n = 0
  · have e1 : pStep n = pPass n (tNext n) := if_pos h
    have e2 : oStep n = oPass n (tNext n) := if_pos h
    have e3 : eStep n = ePass n (tNext n) := if_pos h
    rw [e1, e2, e3] at hq
    simp [h]
    refine pass9 st iv _ fun H' vf' vo a1 a2 a3 a4 _ => ?_
    simp
    exact hq _ _ _ a1 a2 a3 a4
  · have e1 : pStep n = n := if_neg h
    have e2 : oStep n = [] := if_neg h
    have e3 : eStep n = eNext n := if_neg h
    rw [e1, e2, e3] at hq
    simp [h]
    exact hq _ _ _ st FrN.refl .nil fun j _ r o n c e => by cases e
theorem cells_set4 (L : List Value) (k : Nat) (a b c d : Value) : overL L.toArray k [a, b, c, d] = ((((L.set k a).set (k + 1) b).set (k + 2) c).set (k + 3) d).toArray := by
  simp [overL]
def eSet (n : NN) (x y : Int) (l : Lk) : Int := if vLink l = false then 1 else if ¬ hasB n x y then 7 else if x = y then 10 else 0
def pSet (n : NN) (x y : Int) (l : Lk) : NN := if eSet n x y l = 0 then { n with links := n.links.set (x.toNat * 16 + y.toNat) l } else n
theorem sN_lnk {n : NN} {vn vf : Value} (h : WF n) {i : Nat} (hi : i < 256) (l : Lk) {k : Nat} (hk : k = 9 + i * 4) :
    ((((cellsN n vn vf).set k (.int .i64 l.delay)).set (k + 1) (.int .i64 l.jitter)).set (k + 2) (.int .i64 l.loss)).set (k + 3) (.int .i64 l.dbl) = cellsN { n with links := n.links.set i l } vn vf := by
  subst hk
  have hl : i < n.links.length := by rw [h.links]; exact hi
  have w : ∀ (ls : List Lk), ls.length = 256 → WF { n with links := ls } := fun ls e => ⟨e, h.sides, h.down⟩
  have hl1 : ∀ x, (n.links.set i x).length = 256 := fun x => by simp [h.links]
  have s1 := sN_link (n := n) (vn := vn) (vf := vf) h hi (j := 0) (by decide) (c := .int .i64 l.delay) (x := { n.links[i] with delay := l.delay }) rfl
  have s2 := sN_link (vn := vn) (vf := vf) (w _ (hl1 { n.links[i] with delay := l.delay })) hi (j := 1) (by decide) (c := .int .i64 l.jitter) (x := { n.links[i] with delay := l.delay, jitter := l.jitter }) (by simp)
  have s3 := sN_link (vn := vn) (vf := vf) (w _ (hl1 { n.links[i] with delay := l.delay, jitter := l.jitter })) hi (j := 2) (by decide) (c := .int .i64 l.loss) (x := { n.links[i] with delay := l.delay, jitter := l.jitter, loss := l.loss }) (by simp)
  have s4 := sN_link (vn := vn) (vf := vf) (w _ (hl1 { n.links[i] with delay := l.delay, jitter := l.jitter, loss := l.loss })) hi (j := 3) (by decide) (c := .int .i64 l.dbl) (x := l) (by simp)
  simp only [List.set_set] at s2 s3 s4
  rw [Nat.add_zero] at s1
  rw [s1, s2, s3, s4]
set_option maxRecDepth 100000 in
theorem set21 {H : World} {b : Nat} {n : NN} {vn vf : Value} (st : NSt H b n vn vf) (h16 : n.hosts ≤ 16) (x y : Int) (l : Lk) {Q : Value → World → Prop}
    (hq : ∀ H', NSt H' b (pSet n x y l) vn vf → FrN H H' b vf vf → Q (.int .i64 (eSet n x y l)) H') : FW X 11 #[p0 b, .int .i64 x, .int .i64 y, encLk l] H Q := by
  refine FW.walk (by simp [X, sp17_no]) Tryd.func11 Tryd.ntmps11 rfl (by simp) ?_
  have st1 := st.push (.cells (encLk l).cells 31 (0, 0))
  have fr1 : FrN H (pushObj H (.cells (encLk l).cells 31 (0, 0))) b vf vf := FrN.push _
  have g7 : getO (pushObj H (.cells (encLk l).cells 31 (0, 0))) H.heap.size = some (.cells (encLk l).cells 31 (0, 0)) := by rw [get_push, if_pos rfl]
  simp [szO, valid19]
  change NSt (pushObj H (.cells #[.int .i64 l.delay, .int .i64 l.jitter, .int .i64 l.loss, .int .i64 l.dbl] 31 (0, 0))) b n vn vf at st1
  change FrN H (pushObj H (.cells #[.int .i64 l.delay, .int .i64 l.jitter, .int .i64 l.loss, .int .i64 l.dbl] 31 (0, 0))) b vf vf at fr1
  change getO (pushObj H (.cells #[.int .i64 l.delay, .int .i64 l.jitter, .int .i64 l.loss, .int .i64 l.dbl] 31 (0, 0))) H.heap.size = some (.cells #[.int .i64 l.delay, .int .i64 l.jitter, .int .i64 l.loss, .int .i64 l.dbl] 31 (0, 0)) at g7
  generalize hH1 : pushObj H (.cells #[.int .i64 l.delay, .int .i64 l.jitter, .int .i64 l.loss, .int .i64 l.dbl] 31 (0, 0)) = H1 at *
  generalize hm : H.heap.size = m at *
  cases hvl : vLink l with
  | false =>
    have e : eSet n x y l = 1 := by simp [eSet, hvl]
    have e1 : pSet n x y l = n := by simp [pSet, e]
    rw [e, e1] at hq
    simp
    exact hq _ st1 fr1
  | true =>
  have gr : getO (pushObj H1 (.cells #[.int .i64 x, .int .i64 y] 3 (0, 0))) H1.heap.size = some (.cells #[.int .i64 x, .int .i64 y] 3 (0, 0)) := by rw [get_push, if_pos rfl]
  have st2 := st1.push (.cells #[.int .i64 x, .int .i64 y] 3 (0, 0))
  have fr2 := fr1.trans (FrN.push (.cells #[.int .i64 x, .int .i64 y] 3 (0, 0)))
  have lm := getO_lt g7
  have g72 : getO (pushObj H1 (.cells #[.int .i64 x, .int .i64 y] 3 (0, 0))) m = some (.cells #[.int .i64 l.delay, .int .i64 l.jitter, .int .i64 l.loss, .int .i64 l.dbl] 31 (0, 0)) := by rw [get_push, if_neg (by omega)]; exact g7
  simp [szO, buildSliceX, inOrder, catCells]
  generalize hH2 : pushObj H1 (.cells #[.int .i64 x, .int .i64 y] 3 (0, 0)) = H2 at *
  refine has43 st2.net gr ?_
  have st3 := st2.push (.cells #[p0 b] 26 (0, 0))
  have fr3 : FrN H (pushObj H2 (.cells #[p0 b] 26 (0, 0))) b vf vf := fr2.trans (FrN.push _)
  have g73 : getO (pushObj H2 (.cells #[p0 b] 26 (0, 0))) m = some (.cells #[.int .i64 l.delay, .int .i64 l.jitter, .int .i64 l.loss, .int .i64 l.dbl] 31 (0, 0)) := by have := getO_lt g72; rw [get_push, if_neg (by omega)]; exact g72
  generalize hH3 : pushObj H2 (.cells #[p0 b] 26 (0, 0)) = H3 at *
  by_cases hh : hasB n x y
  rotate_left
  · have e : eSet n x y l = 7 := by simp [eSet, hvl, hh]
    have e1 : pSet n x y l = n := by simp [pSet, e]
    rw [e, e1] at hq
    have hd : decide (0 ≤ x ∧ x < n.hosts ∧ 0 ≤ y ∧ y < n.hosts) = false := decide_eq_false hh
    rw [hd]
    simp
    exact hq _ st3 fr3
  have hd : decide (0 ≤ x ∧ x < n.hosts ∧ 0 ≤ y ∧ y < n.hosts) = true := decide_eq_true hh
  rw [hd]
  by_cases hxy : x = y
  · have e : eSet n x y l = 10 := by simp [eSet, hvl, hh, hxy]; simpa [hxy] using hh
    have e1 : pSet n x y l = n := by simp [pSet, e]
    rw [e, e1] at hq
    have hxd : decide (x = y) = true := decide_eq_true hxy
    simp [hxd]
    exact hq _ st3 fr3
  have e : eSet n x y l = 0 := by simp [eSet, hvl, hh, hxy]
  have e1 : pSet n x y l = { n with links := n.links.set (x.toNat * 16 + y.toNat) l } := by simp [pSet, e]
  rw [e, e1] at hq
  have hxd : decide (x = y) = false := decide_eq_false hxy
  obtain ⟨x0, x1, y0, y1⟩ := hh
  have x16 : x < 16 := by omega
  have y16 : y < 16 := by omega
  have hn3 := st3.net
  have lb3 := getO_lt hn3
  have sl := sN_lnk (vn := vn) (vf := vf) st3.wf (i := x.toNat * 16 + y.toNat) (by omega) l (k := 9 + x.toNat * 64 + y.toNat * 4) (by omega)
  have hlo : 9 + x.toNat * 64 + y.toNat * 4 + 4 ≤ (cellsN n vn vf).length := cN_le st3.wf (by omega)
  have st4 := st3.write { n with links := n.links.set (x.toNat * 16 + y.toNat) l } ⟨by simp [st3.wf.links], st3.wf.sides, st3.wf.down⟩ rfl rfl
  simp [hxd]
  refine WP.draw0 (by decide +kernel) (by decide +kernel) ?_
  simp [hn3, idxP, x0, x16, y0, y16, g73, hlo, lb3, overL, sl, Value.cells]
  exact hq _ st4 (fr3.trans (FrN.setB _))
end Go.Proofs.YtmmmdmandocbhaaDoor
end

section
set_option linter.unusedVariables false
set_option linter.unusedSimpArgs false
namespace Go.Proofs.YtmmmdmandocbhaaDoor
open Go Go.Proofs.YtmmmdmandocbhaaDoor.Den
theorem clone_app {H : World} {b : Nat} {x : Value} {l : List Int} (hb : getO H b = some (.cells #[] 3 (0, 0))) (hx : SrcX Tryd.prog 1 x H l.length (l.map (Value.int .i64))) (hl : l ≠ []) (hn : l.length ≤ 2 ^ 20) :
    builtinX Tryd.prog .append #[22, 22] #[.slice (some ⟨b, 0, none⟩) 0 0, x] H = some (.value (.slice (some ⟨H.heap.size, 0, none⟩) l.length l.length), pushObj H (.cells (l.map (Value.int .i64)).toArray 3 (1, 0))) := by
  refine builtin_append (r := (_, _)) ?_
  have hap : appended Tryd.prog (some 22) Tryd.t3 x H = some (l.length, (l.map (Value.int .i64)).toArray) := appended_src Tryd.prog (es := 1) (by simp) (by simp) hx
  have hb' : H.heap[b]? = some (.cells #[] 3 (0, 0)) := hb
  have hpos : 0 < l.length := List.length_pos_iff.2 hl
  have h1 : ((#[22, 22] : Array TypeId)[0]?).bind Tryd.prog.underlying = some (.slice 3) := by simp
  have h2 : (#[22, 22] : Array TypeId)[1]? = some 22 := rfl
  have hne : ¬ 0 + l.length ≤ 0 := by omega
  have hload : okRun ((loadCells ⟨b, 0, none⟩ (0 * 1)).run Tryd.prog H) = some (#[], H) := by
    rw [run_loadCells_row hb' (by simp)]; rfl
  unfold lappend
  simp only [h1, h2, info3, hap, if_neg hne, size3, bytes3, zero3, cellsOfD, hload, Option.map_some, growsFrom, hb']
  rw [if_pos ⟨by decide, by decide, by decide, by omega⟩]
  simp
  rfl
theorem sl_nil {a : Addr} {n c : Nat} {x y : Operand} {H : World} : binX Tryd.prog .eql 22 x y (.slice (some a) n c) (.slice none 0 0) H = some (.value (.bool false), H) := by
  unfold binX
  simp only [vNilOp, vNil, Option.map_none]
  unfold binV
  rw [if_neg (by simp [flatFor, isEq, flat, flat1])]
  simp [eqD, Tryd.underlying22]
set_option maxRecDepth 100000 in
theorem clone41r {H : World} {r c : Nat} {l : List Int} {fr : Nat × Nat} (hr : getO H r = some (.cells (l.map (Value.int .i64)).toArray 3 fr)) (hl : l ≠ []) (hn : l.length ≤ 2 ^ 20) {Q : Value → World → Prop}
    (hq : Q (.slice (some ⟨H.heap.size + 1, 0, none⟩) l.length l.length) (pushObj (pushObj H (.cells #[] 3 (0, 0))) (.cells (l.map (Value.int .i64)).toArray 3 (1, 0)))) : FW X 17 #[.slice (some ⟨r, 0, none⟩) l.length c] H Q := by
  refine FW.walk (by simp [X, sp17_no]) Tryd.func17 Tryd.ntmps17 rfl (by simp) ?_
  have hb : getO (pushObj H (.cells #[] 3 (0, 0))) H.heap.size = some (.cells #[] 3 (0, 0)) := by rw [get_push, if_pos rfl]
  have hr2 : getO (pushObj H (.cells #[] 3 (0, 0))) r = some (.cells (l.map (Value.int .i64)).toArray 3 fr) := by
    have := getO_lt hr
    rw [get_push, if_neg (by omega)]; exact hr
  have hx := SrcX.row (P := Tryd.prog) (es := 1) (c := c) hr2 (n := l.length) (by simp)
  have ha := clone_app hb hx hl hn
  have hz : (pushObj H (.cells #[] 3 (0, 0))).heap.size = H.heap.size + 1 := by simp
  rw [hz] at ha
  simp [buildSliceX, inOrder, catCells, szO, ha, sl_nil]
  exact hq
end Go.Proofs.YtmmmdmandocbhaaDoor
end

section
set_option linter.unusedVariables false
set_option linter.unusedSimpArgs false
namespace Go.Proofs.YtmmmdmandocbhaaDoor
open Go Go.Proofs.YtmmmdmandocbhaaDoor.Den
def netZ (h : Int) (l : List Int) (lk : Lk) : NN := ⟨0, 0, 0, 0, h, 0, 0, 1, l, List.replicate 256 lk, List.replicate 16 0, List.replicate 16 false, []⟩
def zCells : List Value := [.int .i64 0, .int .i64 0, .int .i64 0, .int .i64 0, .int .i64 0, .slice none 0 0, .int .i64 0, .int .i64 0, .int .i64 0] ++ (List.replicate 1040 (.int .i64 0) ++ (List.replicate 16 (.bool false) ++ [.slice none 0 0]))
theorem z78 : Tryd.t59.zero = some (.agg zCells.toArray) := by kernel_rfl
theorem zCells_len : zCells.length = 1066 := by kernel_rfl
theorem zFlat : flatE encLk (List.replicate 256 ⟨0, 0, 0, 0⟩) = List.replicate 1024 (.int .i64 0) := by kernel_rfl
theorem zCells_eq (h : Int) (l : List Int) (v : Value) : ((zCells.set 4 (.int .i64 h)).set 5 v).set 8 (.int .i64 1) = cellsN (netZ h l ⟨0, 0, 0, 0⟩) v (.slice none 0 0) := by
  unfold cellsN netZ zCells
  dsimp only
  rw [zFlat]
  simp only [List.map_replicate]
  rw [← List.append_assoc, ← List.append_assoc (List.replicate 1024 _), List.replicate_append_replicate]
  rfl
theorem build78 (h : Int) (l : List Int) (a : Option Addr) (m c : Nat) : buildQ Tryd.prog 59 [(1, .int .i64 h), (2, .slice a m c), (5, .int .i64 1)] = some (.agg (cellsN (netZ h l ⟨0, 0, 0, 0⟩) (.slice a m c) (.slice none 0 0)).toArray) := by
  have hl := zCells_len
  unfold buildQ
  simp only [info59, z78, Tryd.underlying59]
  rw [if_pos (by simp)]
  rw [← zCells_eq h l (.slice a m c)]
  simp [fillX, overL, Value.cells, hl]
end Go.Proofs.YtmmmdmandocbhaaDoor
end

section
set_option linter.unusedVariables false
set_option linter.unusedSimpArgs false
namespace Go.Proofs.YtmmmdmandocbhaaDoor
open Go Go.Proofs.YtmmmdmandocbhaaDoor.Den
def netL (h : Int) (l : List Int) (t : Nat) : NN := { netZ h l ⟨0, 0, 0, 0⟩ with links := List.replicate t ⟨1, 0, 0, 0⟩ ++ List.replicate (256 - t) ⟨0, 0, 0, 0⟩ }
theorem netL_wf (h : Int) (l : List Int) {t : Nat} (ht : t ≤ 256) : WF (netL h l t) :=
  ⟨by show (List.replicate t (⟨1, 0, 0, 0⟩ : Lk) ++ List.replicate (256 - t) (⟨0, 0, 0, 0⟩ : Lk)).length = 256; rw [List.length_append, List.length_replicate, List.length_replicate]; omega, List.length_replicate, List.length_replicate⟩
theorem netL_set (h : Int) (l : List Int) {t : Nat} (ht : t < 256) : { netL h l t with links := (netL h l t).links.set t ⟨1, 0, 0, 0⟩ } = netL h l (t + 1) := by
  unfold netL
  congr 1
  dsimp only
  rw [List.set_append_right _ _ (by simp), show 256 - t = (255 - t) + 1 by omega, List.replicate_succ]
  simp only [List.length_replicate, Nat.sub_self, List.set_cons_zero]
  rw [List.replicate_succ', List.append_assoc, show 256 - (t + 1) = 255 - t by omega]
  rfl
theorem netL_0 (h : Int) (l : List Int) : netL h l 0 = netZ h l ⟨0, 0, 0, 0⟩ := rfl
theorem netL_256 (h : Int) (l : List Int) : netL h l 256 = netZ h l ⟨1, 0, 0, 0⟩ := congrArg (fun ls => ({ netZ h l ⟨0, 0, 0, 0⟩ with links := ls } : NN)) (List.append_nil (List.replicate 256 (⟨1, 0, 0, 0⟩ : Lk)))
theorem netL_get (h : Int) (l : List Int) {t : Nat} (ht : t < 256) (ht' : t < (netL h l t).links.length) : (netL h l t).links[t] = ⟨0, 0, 0, 0⟩ := by
  apply Option.some.inj
  rw [← List.getElem?_eq_getElem ht']
  show (List.replicate t (⟨1, 0, 0, 0⟩ : Lk) ++ List.replicate (256 - t) (⟨0, 0, 0, 0⟩ : Lk))[t]? = _
  rw [List.getElem?_append_right (by rw [List.length_replicate]; exact Nat.le_refl _), List.length_replicate, Nat.sub_self, List.getElem?_replicate, if_pos (by omega)]
structure NwO (nb : Nat) (H0 : World) (h : Int) (l : List Int) (vn : Value) (d : Nat) (e : Env) (H : World) : Prop where
  e6 : lk e 6 = p0 nb
  i : ∃ i : Nat, d = 16 - i ∧ i ≤ 16 ∧ lk e 27 = .int .i64 i ∧ H = setO H0 nb (netO (netL h l (i * 16)) vn (.slice none 0 0))
structure NwI (nb : Nat) (H0 : World) (h : Int) (l : List Int) (vn : Value) (i : Nat) (d : Nat) (e : Env) (H : World) : Prop where
  e6 : lk e 6 = p0 nb
  e7 : lk e 7 = .int .i64 i
  e27 : lk e 27 = .int .i64 i
  k : ∃ k : Nat, d = 16 - k ∧ k ≤ 16 ∧ lk e 30 = .int .i64 k ∧ H = setO H0 nb (netO (netL h l (i * 16 + k)) vn (.slice none 0 0))
set_option maxRecDepth 100000 in
theorem new8r {H : World} {r c : Nat} {l : List Int} {fr : Nat × Nat} (hr : getO H r = some (.cells (l.map (Value.int .i64)).toArray 3 fr)) (hl : l ≠ []) (hn : l.length ≤ 10000) (h0 : ∀ k ∈ l, 0 ≤ k) {h : Int} (h1 : 1 ≤ h) (h2 : h ≤ 16) {Q : Value → World → Prop}
    (hq : ∀ H' b vn, H.heap.size ≤ b → NSt H' b (netZ h l ⟨1, 0, 0, 0⟩) vn (.slice none 0 0) → Keep H H' → H.heap.size ≤ H'.heap.size → Q (.tuple #[p0 b, .int .i64 0]) H') : FW X 6 #[.int .i64 h, .slice (some ⟨r, 0, none⟩) l.length c] H Q := by
  refine FW.walk (by simp [X, sp17_no]) Tryd.func6 Tryd.ntmps6 rfl (by simp) ?_
  have a1 : ¬ h < 1 := by omega
  have a2 : ¬ 16 < h := by omega
  simp [a1, a2]
  refine contains39 (l := l) (cs := []) (p := fun x => decide (x < 0)) (Rd.row (e := 3) (fr := fr) hr) (by omega) (by simp) (fun x Q => by simpa using new40 H x Q) ?_
  have hany : (l.any fun x => decide (x < 0)) = false := by
    rw [List.any_eq_false]
    intro x hx
    have := h0 x hx
    simp; omega
  rw [hany]
  have hlen : ¬ (10000 : Int) < l.length := by omega
  have hlen2 : ¬ 10000 < l.length := by omega
  simp [hlen]
  refine clone41r hr hl (by omega) ?_
  have b78 := build78 h l (some ⟨H.heap.size + 1, 0, none⟩) l.length l.length
  have k1 : Keep H (pushObj (pushObj H (.cells #[] 3 (0, 0))) (.cells (l.map (Value.int .i64)).toArray 3 (1, 0))) := fun j o hj => by
    have := getO_lt hj
    rw [get_push, if_neg (by simp; omega), get_push, if_neg (by omega)]; exact hj
  have gn : getO (pushObj (pushObj H (.cells #[] 3 (0, 0))) (.cells (l.map (Value.int .i64)).toArray 3 (1, 0))) (H.heap.size + 1) = some (.cells (l.map (Value.int .i64)).toArray 3 (1, 0)) := by rw [get_push, if_pos (by simp)]
  have z1 : (pushObj (pushObj H (.cells #[] 3 (0, 0))) (.cells (l.map (Value.int .i64)).toArray 3 (1, 0))).heap.size = H.heap.size + 2 := by simp
  generalize hH1 : pushObj (pushObj H (.cells #[] 3 (0, 0))) (.cells (l.map (Value.int .i64)).toArray 3 (1, 0)) = H1 at *
  generalize hm : H.heap.size = m at *
  simp [b78, szO, z1]
  have gnb : getO (pushObj H1 (netO (netZ h l ⟨0, 0, 0, 0⟩) (.slice (some ⟨m + 1, 0, none⟩) l.length l.length) (.slice none 0 0))) (m + 2) = some (netO (netZ h l ⟨0, 0, 0, 0⟩) (.slice (some ⟨m + 1, 0, none⟩) l.length l.length) (.slice none 0 0)) := by rw [get_push, if_pos z1.symm]
  have gn2 : getO (pushObj H1 (netO (netZ h l ⟨0, 0, 0, 0⟩) (.slice (some ⟨m + 1, 0, none⟩) l.length l.length) (.slice none 0 0))) (m + 1) = some (.cells (l.map (Value.int .i64)).toArray 3 (1, 0)) := by rw [get_push, if_neg (by omega)]; exact gn
  have k2 : Keep H (pushObj H1 (netO (netZ h l ⟨0, 0, 0, 0⟩) (.slice (some ⟨m + 1, 0, none⟩) l.length l.length) (.slice none 0 0))) := fun j o hj => by
    have h1 := k1 _ _ hj
    have := getO_lt h1
    rw [get_push, if_neg (by omega)]; exact h1
  have z2 : (pushObj H1 (netO (netZ h l ⟨0, 0, 0, 0⟩) (.slice (some ⟨m + 1, 0, none⟩) l.length l.length) (.slice none 0 0))).heap.size = m + 3 := by simp [z1]
  generalize hH2 : pushObj H1 (netO (netZ h l ⟨0, 0, 0, 0⟩) (.slice (some ⟨m + 1, 0, none⟩) l.length l.length) (.slice none 0 0)) = H2 at *
  generalize hvn : (Value.slice (some ⟨m + 1, 0, none⟩) l.length l.length) = vn at *
  have hset0 : H2 = setO H2 (m + 2) (netO (netL h l (0 * 16)) vn (.slice none 0 0)) := by
    rw [Nat.zero_mul, netL_0]
    exact (set_same gnb).symm
  refine CE.inv (NwO (m + 2) H2 h l vn) ?_ (d := 16) ⟨by simp, 0, rfl, by omega, by simp, hset0⟩
  rintro d e H' ⟨e6, i, rfl, hi, e27, hH'⟩
  by_cases hlt : i < 16
  rotate_left
  · have hi16 : i = 16 := by omega
    subst hi16
    simp [e27, e6]
    rw [show 16 * 16 = 256 from rfl, netL_256] at hH'
    have lnb : m + 2 < H2.heap.size := by omega
    rw [hH']
    refine hq _ (m + 2) vn (by omega) ⟨by rw [get_set, if_pos rfl, if_pos lnb], ⟨List.length_replicate, List.length_replicate, List.length_replicate⟩, ?_, .inl ⟨rfl, rfl⟩, ?_, ?_, ?_⟩ ?_ ?_
    · rw [← hvn]
      exact .inr ⟨m + 1, l.length, (1, 0), rfl, by rw [get_set, if_neg (by omega)]; exact gn2⟩
    · rw [← hvn]; intro r o n c e; cases e; omega
    · intro r o n c e; cases e
    · intro r o n c e r' o' n' c' e'; cases e'
    · intro j o hj
      have := getO_lt hj
      rw [get_set, if_neg (by omega)]; exact k2 _ _ hj
    · simp; omega
  have hlt' : (i : Int) < 16 := by omega
  simp [e27, e6, hlt']
  refine CE.inv (NwI (m + 2) H2 h l vn i) ?_ (d := 16) ⟨by simp [e6], by simp, by simp [e27], 0, rfl, by omega, by simp, by simpa using hH'⟩
  rintro d e H' ⟨e6, e7, e27, k, rfl, hk, e30, hH'⟩
  by_cases hkt : k < 16
  rotate_left
  · have hk16 : k = 16 := by omega
    subst hk16
    have wi : IntKind.i64.wrap ((i : Int) + 1) = ((i + 1 : Nat) : Int) := by rw [wrap64 (by omega) (by omega)]; omega
    simp [e30, e27, wi]
    refine ⟨16 - (i + 1), by omega, by simp [e6], i + 1, rfl, by omega, by simp, ?_⟩
    rw [hH', show (i + 1) * 16 = i * 16 + 16 by omega]
  have hkt' : (k : Int) < 16 := by omega
  have lnb : m + 2 < H2.heap.size := by omega
  have gN : getO H' (m + 2) = some (netO (netL h l (i * 16 + k)) vn (.slice none 0 0)) := by rw [hH', get_set, if_pos rfl, if_pos lnb]
  have lN := getO_lt gN
  have wf := netL_wf h l (t := i * 16 + k) (by omega)
  have sl := sN_link (n := netL h l (i * 16 + k)) (vn := vn) (vf := .slice none 0 0) wf (k := i * 16 + k) (j := 0) (by omega) (by decide) (c := .int .i64 1) (x := ⟨1, 0, 0, 0⟩) (by rw [netL_get h l (by omega)]; rfl)
  rw [netL_set h l (by omega), show 9 + (i * 16 + k) * 4 + 0 = 9 + i * 64 + k * 4 by omega] at sl
  have hlo : 9 + i * 64 + k * 4 + 1 ≤ (cellsN (netL h l (i * 16 + k)) vn (.slice none 0 0)).length := cN_le wf (by omega)
  have wk : IntKind.i64.wrap ((k : Int) + 1) = ((k + 1 : Nat) : Int) := by rw [wrap64 (by omega) (by omega)]; omega
  simp [e30, e7, e6, hkt', hlt', idxP, gN, lN, overL, sl, hlo, wk]
  refine ⟨16 - (k + 1), by omega, by simp [e6], by simp [e7], by simp [e27], k + 1, rfl, by omega, by simp, ?_⟩
  rw [hH', set_set, Nat.add_assoc]
end Go.Proofs.YtmmmdmandocbhaaDoor
end
