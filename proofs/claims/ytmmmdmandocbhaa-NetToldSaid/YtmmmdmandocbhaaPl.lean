/- Helpers of this claim: an evaluator over plain values and its laws. -/
import Derived.Test.YtmmmdmandocbhaaPk
section
set_option linter.unusedVariables false
set_option linter.unusedSimpArgs false
namespace Go.Proofs.Ytmmmdmandocbhaa
open Go Go.Proofs.Ytmmmdmandocbhaa.Den
def tNext (n : NN) : Int := match n.fl with
  | [] => 0
  | f :: _ => f.time
def eNext (n : NN) : Int := match n.fl with
  | [] => 8
  | _ :: _ => 0
set_option maxRecDepth 100000 in
theorem next24 {H : World} {b : Nat} {n : NN} {vn vf : Value} (st : NSt H b n vn vf) {Q : Value → World → Prop} (hq : Q (.tuple #[.int .i64 (tNext n), .int .i64 (eNext n)]) H) : FW X 24 #[p0 b] H Q := by
  refine FW.walk (by simp [X, sp17_no]) Try.func24 Try.ntmps24 rfl (by simp) ?_
  have hn := st.net
  have c9 := cN_fl (vn := vn) (vf := vf) st.wf
  have hlen := fun H0 => st.fl.len (H0 := H0)
  cases hfl : n.fl with
  | nil =>
    have e1 : tNext n = 0 := by unfold tNext; rw [hfl]
    have e2 : eNext n = 8 := by unfold eNext; rw [hfl]
    rw [e1, e2] at hq
    have hl0 : n.fl.length = 0 := by rw [hfl]; rfl
    simp [hn, c9, hlen, hl0]
    exact hq
  | cons f l =>
    have e1 : tNext n = f.time := by unfold tNext; rw [hfl]
    have e2 : eNext n = 0 := by unfold eNext; rw [hfl]
    rw [e1, e2] at hq
    have hfs := st.fl
    rw [hfl] at hfs
    obtain ⟨r, o, rfl, t1, t2, t3, t4, t5⟩ := fls_tail hfs
    have hl0 : n.fl.length = l.length + 1 := by rw [hfl]; rfl
    have hne : ¬ ((l.length : Int) + 1 = 0) := by omega
    simp [hn, c9, hlen, hl0, t3, t5, hne]
    exact hq
def pStep (n : NN) : NN := if eNext n = 0 then pPass n (tNext n) else n
def oStep (n : NN) : List Fl := if eNext n = 0 then oPass n (tNext n) else []
def eStep (n : NN) : Int := if eNext n = 0 then ePass n (tNext n) else eNext n
set_option maxRecDepth 100000 in
theorem step17 {H : World} {b : Nat} {n : NN} {vn vf : Value} (st : NSt H b n vn vf) {T : Nat} (iv : Inv n T) {Q : Value → World → Prop}
    (hq : ∀ H' vf' vo, NSt H' b (pStep n) vn vf' → FrN H H' b vf vf' → AccP H' vo (oStep n) → (∀ j, j < H.heap.size → ApO vo j) → Q (.tuple #[vo, .int .i64 (eStep n)]) H') : FW X 17 #[p0 b] H Q := by
  refine FW.walk (by simp [X, sp17_no]) Try.func17 Try.ntmps17 rfl (by simp) ?_
  simp
  refine next24 st ?_
  by_cases h : eNext n = 0
  · have e1 : pStep n = pPass n (tNext n) := if_pos h
    have e2 : oStep n = oPass n (tNext n) := if_pos h
    have e3 : eStep n = ePass n (tNext n) := if_pos h
    rw [e1, e2, e3] at hq
    simp [h]
    refine pass9 st iv _ fun H' vf' vo a1 a2 a3 a4 _ => ?_
    simp
    exact hq _ _ _ a1 a2 a3 a4
  · have e1 : pStep n = n := if_neg h
    have e2 : oStep n = [] := if_neg h
    have e3 : eStep n = eNext n := if_neg h
    rw [e1, e2, e3] at hq
    simp [h]
    exact hq _ _ _ st FrN.refl .nil fun j _ r o n c e => by cases e
theorem cells_set4 (L : List Value) (k : Nat) (a b c d : Value) : overL L.toArray k [a, b, c, d] = ((((L.set k a).set (k + 1) b).set (k + 2) c).set (k + 3) d).toArray := by
  simp [overL]
def eSet (n : NN) (x y : Int) (l : Lk) : Int := if vLink l = false then 1 else if ¬ hasB n x y then 7 else if x = y then 10 else 0
def pSet (n : NN) (x y : Int) (l : Lk) : NN := if eSet n x y l = 0 then { n with links := n.links.set (x.toNat * 16 + y.toNat) l } else n
theorem sN_lnk {n : NN} {vn vf : Value} (h : WF n) {i : Nat} (hi : i < 256) (l : Lk) {k : Nat} (hk : k = 9 + i * 4) :
    ((((cellsN n vn vf).set k (.int .i64 l.delay)).set (k + 1) (.int .i64 l.jitter)).set (k + 2) (.int .i64 l.loss)).set (k + 3) (.int .i64 l.dbl) = cellsN { n with links := n.links.set i l } vn vf := by
  subst hk
  have hl : i < n.links.length := by rw [h.links]; exact hi
  have w : ∀ (ls : List Lk), ls.length = 256 → WF { n with links := ls } := fun ls e => ⟨e, h.sides, h.down⟩
  have hl1 : ∀ x, (n.links.set i x).length = 256 := fun x => by simp [h.links]
  have s1 := sN_link (n := n) (vn := vn) (vf := vf) h hi (j := 0) (by decide) (c := .int .i64 l.delay) (x := { n.links[i] with delay := l.delay }) rfl
  have s2 := sN_link (vn := vn) (vf := vf) (w _ (hl1 { n.links[i] with delay := l.delay })) hi (j := 1) (by decide) (c := .int .i64 l.jitter) (x := { n.links[i] with delay := l.delay, jitter := l.jitter }) (by simp)
  have s3 := sN_link (vn := vn) (vf := vf) (w _ (hl1 { n.links[i] with delay := l.delay, jitter := l.jitter })) hi (j := 2) (by decide) (c := .int .i64 l.loss) (x := { n.links[i] with delay := l.delay, jitter := l.jitter, loss := l.loss }) (by simp)
  have s4 := sN_link (vn := vn) (vf := vf) (w _ (hl1 { n.links[i] with delay := l.delay, jitter := l.jitter, loss := l.loss })) hi (j := 3) (by decide) (c := .int .i64 l.dbl) (x := l) (by simp)
  simp only [List.set_set] at s2 s3 s4
  rw [Nat.add_zero] at s1
  rw [s1, s2, s3, s4]
set_option maxRecDepth 100000 in
theorem set21 {H : World} {b : Nat} {n : NN} {vn vf : Value} (st : NSt H b n vn vf) (h16 : n.hosts ≤ 16) (x y : Int) (l : Lk) {Q : Value → World → Prop}
    (hq : ∀ H', NSt H' b (pSet n x y l) vn vf → FrN H H' b vf vf → Q (.int .i64 (eSet n x y l)) H') : FW X 21 #[p0 b, .int .i64 x, .int .i64 y, encLk l] H Q := by
  refine FW.walk (by simp [X, sp17_no]) Try.func21 Try.ntmps21 rfl (by simp) ?_
  have st1 := st.push (.cells (encLk l).cells 32 (0, 0))
  have fr1 : FrN H (pushObj H (.cells (encLk l).cells 32 (0, 0))) b vf vf := FrN.push _
  have g7 : getO (pushObj H (.cells (encLk l).cells 32 (0, 0))) H.heap.size = some (.cells (encLk l).cells 32 (0, 0)) := by rw [get_push, if_pos rfl]
  simp [szO, valid19]
  change NSt (pushObj H (.cells #[.int .i64 l.delay, .int .i64 l.jitter, .int .i64 l.loss, .int .i64 l.dbl] 32 (0, 0))) b n vn vf at st1
  change FrN H (pushObj H (.cells #[.int .i64 l.delay, .int .i64 l.jitter, .int .i64 l.loss, .int .i64 l.dbl] 32 (0, 0))) b vf vf at fr1
  change getO (pushObj H (.cells #[.int .i64 l.delay, .int .i64 l.jitter, .int .i64 l.loss, .int .i64 l.dbl] 32 (0, 0))) H.heap.size = some (.cells #[.int .i64 l.delay, .int .i64 l.jitter, .int .i64 l.loss, .int .i64 l.dbl] 32 (0, 0)) at g7
  generalize hH1 : pushObj H (.cells #[.int .i64 l.delay, .int .i64 l.jitter, .int .i64 l.loss, .int .i64 l.dbl] 32 (0, 0)) = H1 at *
  generalize hm : H.heap.size = m at *
  cases hvl : vLink l with
  | false =>
    have e : eSet n x y l = 1 := by simp [eSet, hvl]
    have e1 : pSet n x y l = n := by simp [pSet, e]
    rw [e, e1] at hq
    simp
    exact hq _ st1 fr1
  | true =>
  have gr : getO (pushObj H1 (.cells #[.int .i64 x, .int .i64 y] 3 (0, 0))) H1.heap.size = some (.cells #[.int .i64 x, .int .i64 y] 3 (0, 0)) := by rw [get_push, if_pos rfl]
  have st2 := st1.push (.cells #[.int .i64 x, .int .i64 y] 3 (0, 0))
  have fr2 := fr1.trans (FrN.push (.cells #[.int .i64 x, .int .i64 y] 3 (0, 0)))
  have lm := getO_lt g7
  have g72 : getO (pushObj H1 (.cells #[.int .i64 x, .int .i64 y] 3 (0, 0))) m = some (.cells #[.int .i64 l.delay, .int .i64 l.jitter, .int .i64 l.loss, .int .i64 l.dbl] 32 (0, 0)) := by rw [get_push, if_neg (by omega)]; exact g7
  simp [szO, buildSliceX, inOrder, catCells]
  generalize hH2 : pushObj H1 (.cells #[.int .i64 x, .int .i64 y] 3 (0, 0)) = H2 at *
  refine has43 st2.net gr ?_
  have st3 := st2.push (.cells #[p0 b] 25 (0, 0))
  have fr3 : FrN H (pushObj H2 (.cells #[p0 b] 25 (0, 0))) b vf vf := fr2.trans (FrN.push _)
  have g73 : getO (pushObj H2 (.cells #[p0 b] 25 (0, 0))) m = some (.cells #[.int .i64 l.delay, .int .i64 l.jitter, .int .i64 l.loss, .int .i64 l.dbl] 32 (0, 0)) := by have := getO_lt g72; rw [get_push, if_neg (by omega)]; exact g72
  generalize hH3 : pushObj H2 (.cells #[p0 b] 25 (0, 0)) = H3 at *
  by_cases hh : hasB n x y
  rotate_left
  · have e : eSet n x y l = 7 := by simp [eSet, hvl, hh]
    have e1 : pSet n x y l = n := by simp [pSet, e]
    rw [e, e1] at hq
    have hd : decide (0 ≤ x ∧ x < n.hosts ∧ 0 ≤ y ∧ y < n.hosts) = false := decide_eq_false hh
    rw [hd]
    simp
    exact hq _ st3 fr3
  have hd : decide (0 ≤ x ∧ x < n.hosts ∧ 0 ≤ y ∧ y < n.hosts) = true := decide_eq_true hh
  rw [hd]
  by_cases hxy : x = y
  · have e : eSet n x y l = 10 := by simp [eSet, hvl, hh, hxy]; simpa [hxy] using hh
    have e1 : pSet n x y l = n := by simp [pSet, e]
    rw [e, e1] at hq
    have hxd : decide (x = y) = true := decide_eq_true hxy
    simp [hxd]
    exact hq _ st3 fr3
  have e : eSet n x y l = 0 := by simp [eSet, hvl, hh, hxy]
  have e1 : pSet n x y l = { n with links := n.links.set (x.toNat * 16 + y.toNat) l } := by simp [pSet, e]
  rw [e, e1] at hq
  have hxd : decide (x = y) = false := decide_eq_false hxy
  obtain ⟨x0, x1, y0, y1⟩ := hh
  have x16 : x < 16 := by omega
  have y16 : y < 16 := by omega
  have hn3 := st3.net
  have lb3 := getO_lt hn3
  have sl := sN_lnk (vn := vn) (vf := vf) st3.wf (i := x.toNat * 16 + y.toNat) (by omega) l (k := 9 + x.toNat * 64 + y.toNat * 4) (by omega)
  have hlo : 9 + x.toNat * 64 + y.toNat * 4 + 4 ≤ (cellsN n vn vf).length := cN_le st3.wf (by omega)
  have st4 := st3.write { n with links := n.links.set (x.toNat * 16 + y.toNat) l } ⟨by simp [st3.wf.links], st3.wf.sides, st3.wf.down⟩ rfl rfl
  simp [hxd]
  refine WP.draw0 (by decide +kernel) (by decide +kernel) ?_
  simp [hn3, idxP, x0, x16, y0, y16, g73, hlo, lb3, overL, sl, Value.cells]
  exact hq _ st4 (fr3.trans (FrN.setB _))
end Go.Proofs.Ytmmmdmandocbhaa
end
