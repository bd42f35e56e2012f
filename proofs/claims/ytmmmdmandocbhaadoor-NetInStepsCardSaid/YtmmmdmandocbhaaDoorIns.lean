/- Helpers of this claim: an evaluator over plain values and its laws. -/
import Derived.Test.YtmmmdmandocbhaaDoorBl
import Derived.Test.YtmmmdmandocbhaaDoorProg
import Derived.Shelf.RegionOpenPlain
import Derived.WalkKit
import Derived.Lib.Walk
import Derived.Lib.SliceRun
import Derived.Lib.AppendZeros
import Derived.Lib.AppendZerosOnto
import Derived.Lib.Overlaps
import Derived.Laws.Externs
import Derived.Laws.IdiomCopy
import Derived.Laws.NewBlocks
import Derived.KernelRfl
section
/- slices.Insert of flights: the machine's walks. -/
set_option linter.unusedVariables false
set_option linter.unusedSimpArgs false
namespace Go.Proofs.YtmmmdmandocbhaaDoor
open Go Go.Proofs.YtmmmdmandocbhaaDoor.Den Go.Proofs
open Go.Shelf Go.RowKit Go.Lib
theorem wp_copy_run {P : Program} (w : World) {o : Oper} {a : Act} {K : Act → World → Prop} {Q : Exit → Act → World → Prop} (d s : Operand) (t t' : TypeId)
    (ho : o.op = .call { callee := .builtin .copy, args := #[d, s], argTypes := #[t, t'] }) (v u : Value) (hd : a.eval d = v) (hs : a.eval s = u) {v' : Value} {w' : World}
    (hr : (Builtin.copy_ #[t, t'] o.type #[v, u]).run P w = .ok v' w') (h : K (a.put o.dst v') w') : o.wp P a w K Q := by
  unfold Oper.wp execOp
  simp only [ho, resolve, invoke, builtin, Sem.run_bind, Sem.run_pure, Result.andThen_ok, List.map_toArray, List.map_cons, List.map_nil, hd, hs, hr]
  exact h
theorem wpList_copy_run {P : Program} (w : World) {ops : Array Oper} {rest : List Oper} {o : Oper} {a : Act} {Q : Exit → Act → World → Prop} (hgd : o.guard = none) (d s : Operand) (t t' : TypeId)
    (ho : o.op = .call { callee := .builtin .copy, args := #[d, s], argTypes := #[t, t'] }) (v u : Value) (hd : a.eval d = v) (hs : a.eval s = u) {v' : Value} {w' : World}
    (hr : (Builtin.copy_ #[t, t'] o.type #[v, u]).run P w = .ok v' w') (h : wpList P ops Q rest (a.put o.dst v') w') : wpList P ops Q (o :: rest) a w :=
  wpList_plain hgd fun _ hK => wp_copy_run w d s t t' ho v u hd hs hr (hK _ _ h)
theorem step_copy_run {P : Program} {ops : Array Oper} {o : Oper} {a : Act} {w : World} {K : Act → World → Prop} {Q : Exit → Act → World → Prop} {E : Prop}
    (hg : o.guard = none) (d x : Operand) (dT sT : TypeId) (hop : o.op = Op.call { callee := Callee.builtin Builtin.copy, args := #[d, x], argTypes := #[dT, sT] })
    (v u : Value) (hd : a.eval d = v) (hx : a.eval x = u) {v' : Value} {w' : World} (hr : (Builtin.copy_ #[dT, sT] o.type #[v, u]).run P w = .ok v' w') (hK : K (a.put o.dst v') w') :
    if Region.wanted o (yielded ops a.tmps) = true then Oper.wp P o a w K Q else E := by
  have hw : Region.wanted o (yielded ops a.tmps) = true := by simp [Region.wanted, hg]
  rw [if_pos hw]
  unfold Oper.wp
  simp [execOp, hop, resolve, invoke, builtin, hd, hx, hr, Result.andThen]
  exact hK
set_option maxHeartbeats 4000000 in
set_option maxRecDepth 100000 in
theorem insEnd : InsEnd Tryd.prog 44 57 := by
  intro base n c m mc b w w1 v' hm hnc hn hnil hrun
  have u76 := run_underlying Tryd.underlying57
  have u3 := run_underlying Tryd.underlying3
  have u4 := run_underlying Tryd.underlying4
  have hz1 : ¬ ((m : Int) = 0) := by omega
  go_enter Tryd.func44, Tryd.ntmps44
  cases base with
  | none =>
    obtain ⟨rfl, rfl⟩ := hnil rfl
    go_wp2_with (at_builtin; refine Lib.wpList_append_run _ rfl _ _ _ _ rfl _ _ rfl rfl _ _ hrun ?_)
    go_ret
    exact ⟨rfl, rfl⟩
  | some a =>
    obtain ⟨ab, ao, asp⟩ := a
    go_wp2_with (at_builtin; refine Lib.wpList_append_run _ rfl _ _ _ _ rfl _ _ rfl rfl _ _ hrun ?_)
    all_goals (go_ret; exact ⟨rfl, rfl⟩)
set_option maxHeartbeats 4000000 in
set_option maxRecDepth 100000 in
theorem insRoom : InsRoom Tryd.prog 44 Tryd.t76.size := by
  have mixed : Tryd.prog.follows .mixedOrders = true := by kernel_rfl
  intro rb p n c i vb q m mc cs xs e e2 fr w hin hm hroom hn40 hm40 hvb hb hx hfr hend hxend h1c h1x
  have hsz : Tryd.t76.size = 6 := rfl
  rw [hsz] at hend hxend h1c h1x ⊢
  have u76 := run_underlying Tryd.underlying57
  have u3 := run_underlying Tryd.underlying3
  have u4 := run_underlying Tryd.underlying4
  have hz1 : ¬ ((m : Int) = 0) := by omega
  have hz2 : ¬ ((i : Int) = (n : Int)) := by omega
  have hz3 : ¬ ((c : Int) < (n : Int) + (m : Int)) := by omega
  have hov : ∀ lb cb, (callFunc 50 #[.slice (some ⟨vb, q, none⟩) m mc, .slice (some ⟨rb, p + (i + m) * 6, none⟩) lb cb]).run Tryd.prog w = .ok (.value (.bool false)) w := fun lb cb => by
    rw [run_callFunc_extern Tryd.func50 (by kernel_rfl) (by kernel_rfl) (by kernel_rfl) (e := Extern.SlicesOverlaps.overlaps #[57, 57] #[4]) (by kernel_rfl),
      Lib.run_overlaps_apart w 57 4 76 Tryd.underlying57 6 (run_sizeOf' (show Tryd.prog.info? 76 = some Tryd.t76 from Tryd.type76)) ⟨vb, q, none⟩ ⟨rb, p + (i + m) * 6, none⟩ m mc lb cb hvb e2 e xs.size cs.size (by simp [World.shape?, hx]) (by simp [World.shape?, hb]) (by omega) (by simp [World.frozen?, hx]) (by simp [World.frozen?, hx])]
    rfl
  have hw1 : IntKind.i64.wrap ((i : Int) + (m : Int)) = (i : Int) + (m : Int) := by rw [IntKind.wrap_i64]; omega
  have hw2 : IntKind.i64.wrap ((n : Int) + (m : Int)) = (n : Int) + (m : Int) := by rw [IntKind.wrap_i64]; omega
  have hb1 : (0 : Int) ≤ (i : Int) + (m : Int) := by omega
  have hin' : i ≤ n := by omega
  have htn : ((i : Int) + (m : Int)).toNat = i + m := by omega
  have htn2 : ((n : Int) + (m : Int)).toNat = n + m := by omega
  have hb2 : ¬ (c = i + m) := by omega
  have hb3 : (i : Int) ≤ (n : Int) + (m : Int) := by omega
  have hb4 : ¬ (c = i) := by omega
  have hcp1 : ∀ ty dc sc, (Builtin.copy_ #[57, 57] ty #[.slice (some ⟨rb, p + (i + m) * 6, none⟩) (n + m - (i + m)) dc, .slice (some ⟨rb, p + i * 6, none⟩) (n + m - i) sc]).run Tryd.prog w.drew = .ok (goInt (n - i : Nat)) (setO w.drew rb (.cells (overL cs (p + (i + m) * 6) (cs.extract (p + i * 6) (p + n * 6)).toList) e fr)) := fun ty dc sc => by
    have e1 : p + i * 6 + (n - i) * 6 = p + n * 6 := by omega
    have h1c' : ∀ v ∈ (cs.extract (p + i * 6) (p + i * 6 + (n - i) * Tryd.t76.size)).toList, v.oneCell' = true := by rw [hsz, e1]; exact h1c
    have := run_copyRow (P := Tryd.prog) (t1 := 57) (t2 := 57) (ty := ty) (w := w.drew) (b := rb) (o := p + (i + m) * 6) (nd := n + m - (i + m)) (dc := dc) (sb := rb) (so := p + i * 6) (ns := n + m - i) (sc := sc) (k := n - i) Tryd.underlying57 Tryd.type76 hb hb hfr (by simp only [Nat.min_def]; split <;> omega) (by rw [hsz]; omega) (by rw [hsz]; omega) h1c'
    rw [hsz, e1] at this
    exact this
  obtain ⟨W1, hW1⟩ : ∃ W1, W1 = setO w.drew rb (.cells (overL cs (p + (i + m) * 6) (cs.extract (p + i * 6) (p + n * 6)).toList) e fr) := ⟨_, rfl⟩
  have hlt : rb < w.heap.size := (Array.getElem?_eq_some_iff.1 hb).1
  have hb1' : W1.heap[rb]? = some (.cells (overL cs (p + (i + m) * 6) (cs.extract (p + i * 6) (p + n * 6)).toList) e fr) := by
    rw [hW1]
    show getO (setO w.drew rb _) rb = _
    rw [get_set, if_pos rfl, if_pos (show rb < w.drew.heap.size from hlt)]
  have hx1 : W1.heap[vb]? = some (.cells xs e2 (0, 0)) := by
    rw [hW1]
    show getO (setO w.drew rb _) vb = _
    rw [get_set, if_neg hvb]; exact hx
  have hcp2 : ∀ ty dc, (Builtin.copy_ #[57, 57] ty #[.slice (some ⟨rb, p + i * 6, none⟩) (n + m - i) dc, .slice (some ⟨vb, q, none⟩) m mc]).run Tryd.prog W1 = .ok (goInt (m : Nat)) (setO W1 rb (.cells (overL (overL cs (p + (i + m) * 6) (cs.extract (p + i * 6) (p + n * 6)).toList) (p + i * 6) (xs.extract q (q + m * 6)).toList) e fr)) := fun ty dc => by
    have := run_copyRow (P := Tryd.prog) (t1 := 57) (t2 := 57) (ty := ty) (w := W1) (b := rb) (o := p + i * 6) (nd := n + m - i) (dc := dc) (sb := vb) (so := q) (ns := m) (sc := mc) (k := m) Tryd.underlying57 Tryd.type76 hb1' hx1 (fun j hj => hfr j (by rwa [overL_size] at hj)) (by simp only [Nat.min_def]; split <;> omega) (by rw [hsz, overL_size]; omega) (by rw [hsz]; omega) (by rw [hsz]; exact h1x)
    rw [hsz] at this
    exact this
  rw [← hW1] at hcp1
  have hfin : ∀ X, ∃ k, setO W1 rb X = { w with drawn := k, heap := w.heap.setIfInBounds rb X } := fun X => ⟨w.drew.drawn, by
    rw [hW1, set_set]; rfl⟩
  clear hW1 hb1' hx1
  go_enter Tryd.func44, Tryd.ntmps44
  go_wp2_with (simp only [hov])
  go_region_law_o (refine step_copy_run rfl _ _ 57 57 rfl _ _ (by simp [Act.eval, Act.put]) (by simp [Act.eval, Act.put]) (hcp1 _ _ _) ?_)
  go_wp2_with (at_builtin; refine wpList_copy_run _ rfl _ _ 57 57 rfl _ _ rfl rfl (hcp2 _ _) ?_)
  go_ret
  refine ⟨rfl, ?_⟩
  have := hfin (Obj.cells (overL (overL cs (p + (i + m) * 6) (cs.extract (p + i * 6) (p + n * 6)).toList) (p + i * 6) (xs.extract q (q + m * 6)).toList) e fr)
  simpa using this
set_option maxHeartbeats 4000000 in
set_option maxRecDepth 100000 in
theorem insGrow : InsGrow Tryd.prog 44 76 Tryd.t76 := by
  have mixed : Tryd.prog.follows .mixedOrders = true := by kernel_rfl
  intro rb p n c i vb q m mc cs xs e e2 fr w hin hm hnc hroom hbig hn40 hm40 hvb hb hx hend hxend h1c h1x
  have hsz : Tryd.t76.size = 6 := rfl
  have hby : Tryd.t76.bytes = 56 := rfl
  rw [hsz] at hend hxend h1c h1x
  rw [hby] at hbig
  have u76 := run_underlying Tryd.underlying57
  have u3 := run_underlying Tryd.underlying3
  have u4 := run_underlying Tryd.underlying4
  have hz1 : ¬ ((m : Int) = 0) := by omega
  have hz2 : ¬ ((i : Int) = (n : Int)) := by omega
  have hz3 : (c : Int) < (n : Int) + (m : Int) := by omega
  have hw1 : IntKind.i64.wrap ((i : Int) + (m : Int)) = (i : Int) + (m : Int) := by rw [IntKind.wrap_i64]; omega
  have hb1 : (0 : Int) ≤ (i : Int) + (m : Int) := by omega
  have hin' : i ≤ n := by omega
  have htn : ((i : Int) + (m : Int)).toNat = i + m := by omega
  have hb3 : (i : Int) ≤ (n : Int) := by omega
  have hci : ¬ (c = i) := by omega
  have hkk : (n : Int) + (m : Int) - (i : Int) = ((n + m - i : Nat) : Int) := by omega
  have hlt : rb < w.heap.size := (Array.getElem?_eq_some_iff.1 hb).1
  have hltx : vb < w.heap.size := (Array.getElem?_eq_some_iff.1 hx).1
  have hz0 : Tryd.t76.zero = some (.agg #[.int .i64 0, .int .i64 0, .int .i64 0, .int .i64 0, .string (sB []), .bool false]) := rfl
  have hgrow : ∃ cap k ROW, n + m ≤ cap ∧ ROW.size = cap * 6 ∧ (∀ j, j < i * 6 → ROW[j]? = cs[p + j]?) ∧ (Builtin.append_ #[57, 3] 57 #[.slice (some ⟨rb, p, none⟩) i c, .int .i64 ((n : Int) + (m : Int) - (i : Int))]).run Tryd.prog w =
      .ok (.slice (some ⟨w.heap.size, 0, none⟩) (n + m) cap) { w with drawn := k, heap := w.heap.push (.cells ROW 76) } := by
    have hold : ∀ k, (Builtin.firstCells Tryd.t76.size i (.slice (some ⟨rb, p, none⟩) i c)).run Tryd.prog { w with drawn := k } = .ok (cs.extract p (p + i * 6)) { w with drawn := k } := fun k =>
      run_loadCells_row (w := { w with drawn := k }) (off := p) (n := i * 6) hb (by omega)
    have hwk : IntKind.i64.wrap ((n : Int) + (m : Int) - (i : Int)) = ((n + m - i : Nat) : Int) := by rw [hkk, wrap64 (by omega) (by omega)]
    have hsrc : Go.Proofs.YtmmmdmandocbhaaDoor.Den.Src Tryd.prog w (#[57, 3] : Array TypeId)[1]? Tryd.t76 (.int .i64 ((n : Int) + (m : Int) - (i : Int))) (n + m - i) (Builtin.zeroCells (Value.agg #[.int .i64 0, .int .i64 0, .int .i64 0, .int .i64 0, .string (sB []), .bool false]).cells (n + m - i)) :=
      ⟨.inr ⟨3, .i64, .i64, _, _, rfl, Tryd.underlying3, rfl, by rw [hwk]; omega, by rw [hwk, hby]; omega, by rw [hwk, Int.toNat_natCast], hz0, rfl, rfl, by rw [hsz]; decide⟩⟩
    obtain ⟨cap, k, h1, h2⟩ := Go.Proofs.YtmmmdmandocbhaaDoor.Den.run_append_grow (P := Tryd.prog) (ty := 57) (ts := #[57, 3]) (t0 := 57) rfl Tryd.underlying57 Tryd.type76 hz0 hsrc (base := some ⟨rb, p, none⟩) (n := i) (c := c) (by omega) hold (by rw [hby]; decide) (by rw [hby]; decide) (by rw [hby]; omega)
    have e : i + (n + m - i) = n + m := by omega
    rw [e] at h1 h2
    refine ⟨cap, k, _, h1, ?_, fun j hj => ?_, h2⟩
    · rw [Array.size_append, Array.size_append, zeroCells_size, zeroCells_size, Array.size_extract]
      show min (p + i * 6) cs.size - p + (n + m - i) * 6 + (cap - (n + m)) * 6 = cap * 6
      omega
    · rw [Array.getElem?_append_left (by rw [Array.size_append, Array.size_extract]; omega), Array.getElem?_append_left (by rw [Array.size_extract]; omega), Array.getElem?_extract, if_pos (by omega)]
  obtain ⟨cap, kd, ROW, hcap, hRs, hRlow, hap⟩ := hgrow
  obtain ⟨W1, hW1⟩ : ∃ W1 : World, W1 = { w with drawn := kd, heap := w.heap.push (.cells ROW 76) } := ⟨_, rfl⟩
  rw [← hW1] at hap
  have g1 : W1.heap[w.heap.size]? = some (.cells ROW 76 (0, 0)) := by rw [hW1]; simp
  have gx1 : W1.heap[vb]? = some (.cells xs e2 (0, 0)) := by
    rw [hW1]
    show (w.heap.push _)[vb]? = _
    rw [Array.getElem?_push, if_neg (by omega)]; exact hx
  have gb1 : W1.heap[rb]? = some (.cells cs e fr) := by
    rw [hW1]
    show (w.heap.push _)[rb]? = _
    rw [Array.getElem?_push, if_neg (by omega)]; exact hb
  have hcpA : ∀ ty dc, (Builtin.copy_ #[57, 57] ty #[.slice (some ⟨w.heap.size, i * 6, none⟩) (n + m - i) dc, .slice (some ⟨vb, q, none⟩) m mc]).run Tryd.prog W1 = .ok (goInt (m : Nat)) (setO W1 w.heap.size (.cells (overL ROW (i * 6) (xs.extract q (q + m * 6)).toList) 76 (0, 0))) := fun ty dc => by
    have := run_copyRow (P := Tryd.prog) (t1 := 57) (t2 := 57) (ty := ty) (w := W1) (b := w.heap.size) (o := i * 6) (nd := n + m - i) (dc := dc) (sb := vb) (so := q) (ns := m) (sc := mc) (k := m) Tryd.underlying57 Tryd.type76 g1 gx1 (fun j hj => by simp) (by simp only [Nat.min_def]; split <;> omega) (by rw [hsz]; omega) (by rw [hsz]; omega) (by rw [hsz]; exact h1x)
    rw [hsz] at this
    exact this
  obtain ⟨W2, hW2⟩ : ∃ W2, W2 = setO W1 w.heap.size (.cells (overL ROW (i * 6) (xs.extract q (q + m * 6)).toList) 76 (0, 0)) := ⟨_, rfl⟩
  rw [← hW2] at hcpA
  have hl1 : w.heap.size < W1.heap.size := (Array.getElem?_eq_some_iff.1 g1).1
  have g2 : W2.drew.heap[w.heap.size]? = some (.cells (overL ROW (i * 6) (xs.extract q (q + m * 6)).toList) 76 (0, 0)) := by
    rw [hW2]
    show getO (setO W1 w.heap.size _) w.heap.size = _
    rw [get_set, if_pos rfl, if_pos hl1]
  have gb2 : W2.drew.heap[rb]? = some (.cells cs e fr) := by
    rw [hW2]
    show getO (setO W1 w.heap.size _) rb = _
    rw [get_set, if_neg (by omega)]; exact gb1
  have h1c' : ∀ v ∈ (cs.extract (p + i * 6) (p + n * 6)).toList, v.oneCell' = true := by
    intro v hv
    apply h1c v
    obtain ⟨j, hj⟩ := List.mem_iff_getElem?.1 hv
    rw [Array.getElem?_toList, Array.getElem?_extract] at hj
    split at hj
    case isFalse => cases hj
    refine List.mem_iff_getElem?.2 ⟨i * 6 + j, ?_⟩
    rw [Array.getElem?_toList, Array.getElem?_extract, if_pos (by omega), ← hj]
    congr 1; omega
  have hcpB : ∀ ty dc sc, (Builtin.copy_ #[57, 57] ty #[.slice (some ⟨w.heap.size, (i + m) * 6, none⟩) (n + m - (i + m)) dc, .slice (some ⟨rb, p + i * 6, none⟩) (n - i) sc]).run Tryd.prog W2.drew = .ok (goInt (n - i : Nat)) (setO W2.drew w.heap.size (.cells (overL (overL ROW (i * 6) (xs.extract q (q + m * 6)).toList) ((i + m) * 6) (cs.extract (p + i * 6) (p + n * 6)).toList) 76 (0, 0))) := fun ty dc sc => by
    have e1 : p + i * 6 + (n - i) * 6 = p + n * 6 := by omega
    have := run_copyRow (P := Tryd.prog) (t1 := 57) (t2 := 57) (ty := ty) (w := W2.drew) (b := w.heap.size) (o := (i + m) * 6) (nd := n + m - (i + m)) (dc := dc) (sb := rb) (so := p + i * 6) (ns := n - i) (sc := sc) (k := n - i) Tryd.underlying57 Tryd.type76 g2 gb2 (fun j hj => by simp) (by simp only [Nat.min_def]; split <;> omega) (by rw [hsz, overL_size]; omega) (by rw [hsz]; omega) (by rw [hsz, e1]; exact h1c')
    rw [hsz, e1] at this
    exact this
  obtain ⟨W3, hW3⟩ : ∃ W3, W3 = setO W2.drew w.heap.size (.cells (overL (overL ROW (i * 6) (xs.extract q (q + m * 6)).toList) ((i + m) * 6) (cs.extract (p + i * 6) (p + n * 6)).toList) 76 (0, 0)) := ⟨_, rfl⟩
  rw [← hW3] at hcpB
  have hfin : ∃ k C, W3 = { w with drawn := k, heap := w.heap.push (.cells C 76) } ∧ C.size = cap * 6 ∧ ∀ j, j < (n + m) * 6 → C[j]? = (cs.extract p (p + i * 6) ++ xs.extract q (q + m * 6) ++ cs.extract (p + i * 6) (p + n * 6))[j]? := by
    refine ⟨W2.drew.drawn, overL (overL ROW (i * 6) (xs.extract q (q + m * 6)).toList) ((i + m) * 6) (cs.extract (p + i * 6) (p + n * 6)).toList, ?_, ?_, fun j hj => ?_⟩
    · rw [hW3, hW2, hW1]
      unfold setO
      congr 1
      apply Array.ext_getElem?
      intro t
      simp only [World.drew, Array.getElem?_setIfInBounds, Array.getElem?_push, Array.size_setIfInBounds, Array.size_push]
      by_cases ht : w.heap.size = t
      · subst ht; simp
      · rw [if_neg ht, if_neg ht, if_neg (fun e => ht e.symm), if_neg (fun e => ht e.symm)]
    · rw [overL_size, overL_size, hRs]
    · have x1 : (cs.extract p (p + i * 6)).size = i * 6 := by simp only [Array.size_extract]; omega
      have x2 : (xs.extract q (q + m * 6)).size = m * 6 := by simp only [Array.size_extract]; omega
      have x3 : (cs.extract (p + i * 6) (p + n * 6)).size = n * 6 - i * 6 := by simp only [Array.size_extract]; omega
      rw [overL_get, overL_size, Array.length_toList, x3]
      by_cases j1 : j < i * 6
      · rw [if_neg (by omega), overL_get, Array.length_toList, x2, if_neg (by omega), hRlow j j1, Array.getElem?_append_left (by rw [Array.size_append, x1]; omega), Array.getElem?_append_left (by rw [x1]; exact j1), Array.getElem?_extract, if_pos (by omega)]
      · by_cases j2 : j < i * 6 + m * 6
        · rw [if_neg (by omega), overL_get, Array.length_toList, x2, if_pos (by omega), Array.getElem?_append_left (by rw [Array.size_append, x1, x2]; omega), Array.getElem?_append_right (by rw [x1]; omega), x1, Array.getElem?_toList]
        · rw [if_pos (by omega), Array.getElem?_append_right (by rw [Array.size_append, x1, x2]; omega), Array.size_append, x1, x2, Array.getElem?_toList]
          congr 1; omega
  clear hW1 hW2 hW3 g1 gx1 gb1 g2 gb2 hl1 hRlow hRs h1c h1c' h1x hb hx hkk
  have hGi : ¬ (cap = i) := by omega
  have hGim : ¬ (cap = i + m) := by omega
  have hb5 : (i : Int) ≤ (n : Int) + (m : Int) := by omega
  rw [hsz]
  go_enter Tryd.func44, Tryd.ntmps44
  go_wp2_with (first
    | (at_builtin; refine Lib.wpList_append_run _ rfl _ _ _ _ rfl _ _ rfl rfl _ _ hap ?_)
    | (at_builtin; refine wpList_copy_run _ rfl _ _ 57 57 rfl _ _ rfl rfl (hcpA _ _) ?_))
  go_region_law_o (refine step_copy_run rfl _ _ 57 57 rfl (.slice (some ⟨w.heap.size, (i + m) * 6, none⟩) (n + m - (i + m)) (cap - (i + m))) (.slice (some ⟨rb, p + i * 6, none⟩) (n - i) (c - i)) (by simp [Act.eval, Act.put]) (by simp [Act.eval, Act.put]) (hcpB 3 (cap - (i + m)) (c - i)) ?_)
  go_wp2
  go_ret
  obtain ⟨k, C, h1, h2, h3⟩ := hfin
  exact ⟨cap, k, C, rfl, hcap, h1, h2, h3⟩
/-- The functions that are told by rules of their own. -/
noncomputable def sp17 : Sp := fun f => if f = 44 then some (insD Tryd.prog 57) else if f = 37 then some (checkD 66) else if f = 27 then some (strD 66 5) else if f = 24 then some itoaD else none
theorem glob17 : ∃ g, Tryd.prog.globalNamed "internal/strconv.uint64pow10" = some g := Option.isSome_iff_exists.1 (show (Tryd.prog.globalNamed "internal/strconv.uint64pow10").isSome = true by kernel_rfl)
set_option maxRecDepth 100000 in
theorem sp17_ok (hP : Go.Proofs.YtmmmdmandocbhaaDoor.Den.Good Tryd.prog) : SpOk Tryd.prog sp17 := by
  intro f g h
  unfold sp17 at h
  split at h
  · rename_i hf
    injection h with h
    subst hf h
    exact ins_sound hP Tryd.underlying57 Tryd.type76 insEnd insRoom insGrow
  split at h
  · rename_i hf
    injection h with h
    subst hf h
    exact check_sound checkSays
  split at h
  · rename_i hf
    injection h with h
    subst hf h
    exact str_sound strSays
  split at h
  · rename_i hf
    injection h with h
    subst hf h
    obtain ⟨g, hg⟩ := glob17
    exact itoa_sound hg itoaSays
  · cases h
end Go.Proofs.YtmmmdmandocbhaaDoor
end
