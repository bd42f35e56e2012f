/- Helpers of this claim: an evaluator over plain values and its laws. -/
import Derived.Test.YtmmmdmandocbhaaDoorPb
section
set_option linter.unusedVariables false
set_option linter.unusedSimpArgs false
namespace Go.Proofs.YtmmmdmandocbhaaDoor
open Go Go.Proofs.YtmmmdmandocbhaaDoor.Den
theorem plainFl1 (x : Fl) : plain 1 (encF x) = true := by simp [plain, constOk1]
theorem plainFl (x : Fl) : plain deep (encF x) = true := plain_of (d := 1) (plainFl1 x) (by decide)
def tw (x : Fl) : Int := if x.twice = true then 1 else 0
set_option maxRecDepth 100000 in
theorem second64 (H : World) (x : Fl) (Q : Value → World → Prop) : FW X 47 #[encF x] H Q = Q (.int .i64 (tw x)) H := by
  refine FW.aloneEq ?_ Tryd.func47 Tryd.ntmps47 rfl (by simp) ?_ H Q
  · simp only [X, plainFl]; simp [plainFl]
  unfold tw
  cases h : x.twice
  · simp [h]
  · simp [h]
def orI : List Int → Int
  | [] => 0
  | x :: l => if x = 0 then orI l else x
set_option maxRecDepth 100000 in
theorem or66 {H : World} {r : Nat} {a b c : Int} (hr : getO H r = some (.cells #[.int .i64 a, .int .i64 b, .int .i64 c] 3 (0, 0))) (Q : Value → World → Prop) : FW X 49 #[.slice (some ⟨r, 0, none⟩) 3 3] H Q = Q (.int .i64 (orI [a, b, c])) H := by
  refine FW.eqE (by simp [X, sp17_no]) Tryd.func49 Tryd.ntmps49 rfl (by simp) ?_ Q
  have w1 : IntKind.i64.wrap 1 = 1 := by decide
  have w2 : IntKind.i64.wrap 2 = 2 := by decide
  have w3 : IntKind.i64.wrap 3 = 3 := by decide
  simp
  refine CE.round ?_
  by_cases h : a = 0
  · subst h
    simp [hr, w1, orI]
    refine CE.round ?_
    by_cases h2 : b = 0
    · subst h2
      simp [hr, w1, w2, orI]
      refine CE.round ?_
      by_cases h3 : c = 0
      · subst h3
        simp [hr, w3, orI]
        refine CE.round ?_
        simp [hr, orI]
      · simp [hr, h3, orI]
    · simp [hr, h2, orI]
  · simp [hr, h, orI]
set_option maxRecDepth 100000 in
theorem order61 {H : World} {Q : Value → World → Prop} (hq : Q (.func (.func 48) #[] #[p0 H.heap.size]) (pushObj H (.cells #[.func (.func 47) #[] #[]] 97 (0, 0)))) : FW X 43 #[] H Q := by
  refine FW.walk (by simp [X, sp17_no]) Tryd.func43 Tryd.ntmps43 rfl (by simp) ?_
  simp [szO, allocX, Value.nilFunc, Value.cells]
  exact hq
theorem q_f64 : veq (.func (.func 47) #[] #[]) (.func (.func 47) #[] #[]) = true := by simp [veq, veq2, veq1, q_nil]
/-- How two flights stand to one another. -/
def cmpF (x y : Fl) : Int := orI [IntKind.i64.wrap (x.time - y.time), IntKind.i64.wrap (x.id - y.id), IntKind.i64.wrap (tw x - tw y)]
set_option maxRecDepth 100000 in
theorem cmp65 {H : World} {c : Nat} (hc : getO H c = some (.cells #[.func (.func 47) #[] #[]] 97 (0, 0))) (x y : Fl) {Q : Value → World → Prop}
    (hq : ∀ H', Keep H H' → H.heap.size ≤ H'.heap.size → Q (.int .i64 (cmpF x y)) H') : FW X 48 #[encF x, encF y, p0 c] H Q := by
  refine FW.walk (by simp [X, sp17_no]) Tryd.func48 Tryd.ntmps48 rfl (by simp) ?_
  have hcl := getO_lt hc
  have g3 : getO (pushObj (pushObj H (.cells (cellsF x) 76 (0, 0))) (.cells (cellsF y) 76 (0, 0))) H.heap.size = some (.cells (cellsF x) 76 (0, 0)) := by
    rw [get_push, if_neg (by simp), get_push, if_pos rfl]
  have g4 : getO (pushObj (pushObj H (.cells (cellsF x) 76 (0, 0))) (.cells (cellsF y) 76 (0, 0))) (H.heap.size + 1) = some (.cells (cellsF y) 76 (0, 0)) := by
    rw [get_push, if_pos (by simp)]
  have k1 : Keep H (pushObj (pushObj H (.cells (cellsF x) 76 (0, 0))) (.cells (cellsF y) 76 (0, 0))) := fun j o hj => by
    have := getO_lt hj
    rw [get_push, if_neg (by simp; omega), get_push, if_neg (by omega)]; exact hj
  have z1 : (pushObj (pushObj H (.cells (cellsF x) 76 (0, 0))) (.cells (cellsF y) 76 (0, 0))).heap.size = H.heap.size + 2 := by simp
  have hc1 := k1 _ _ hc
  simp [szO]
  generalize hH1 : pushObj (pushObj H (.cells (cellsF x) 76 (0, 0))) (.cells (cellsF y) 76 (0, 0)) = H1 at *
  generalize hm : H.heap.size = m at *
  have hw : ∀ a b c d : Int, getO (pushObj H1 (.cells #[.int .i64 a, .int .i64 b, .int .i64 c] 3 (0, 0))) (m + 2) = some (.cells #[.int .i64 a, .int .i64 b, .int .i64 c] 3 (0, 0)) := fun a b c d => by
    rw [get_push, if_pos (by omega)]
  have hc1n : ¬ c = H1.heap.size := by omega
  have g3n : ¬ m = H1.heap.size := by omega
  have g4n : ¬ m + 1 = H1.heap.size := by omega
  have ho := fun a b c Q => or66 (H := pushObj H1 (.cells #[.int .i64 a, .int .i64 b, .int .i64 c] 3 (0, 0))) (hw a b c 0) Q
  refine WP.drawP [(0, 17), (0, 20), (1, 17), (1, 20), (2, 17), (2, 20), (3, 17), (3, 20), (4, 17), (4, 20), (5, 17), (5, 20), (6, 17), (6, 20), (7, 17), (7, 20), (8, 17), (8, 20), (9, 17), (9, 20), (10, 17), (10, 20), (11, 17), (11, 20), (12, 17), (12, 20), (13, 17), (13, 20), (17, 0), (18, 0)] (by decide +kernel) (by decide +kernel) ?_
  simp [hc1, g3, g4, second64, buildSliceX, inOrder, catCells, szO, z1, ho]
  refine ⟨(Checks.cons rfl rfl rfl ?_ (Checks.cons rfl rfl rfl ?_ (Checks.cons rfl rfl rfl ?_ (Checks.cons rfl rfl rfl ?_ (Checks.cons rfl rfl rfl ?_ (Checks.cons rfl rfl rfl ?_ (Checks.cons rfl rfl rfl ?_ (Checks.cons rfl rfl rfl ?_ (Checks.cons rfl rfl rfl ?_ (Checks.cons rfl rfl rfl ?_ (Checks.cons rfl rfl rfl ?_ (Checks.cons rfl rfl rfl ?_ (Checks.cons rfl rfl rfl ?_ (Checks.cons rfl rfl rfl ?_ (Checks.cons rfl rfl rfl ?_ (Checks.cons rfl rfl rfl ?_ (Checks.cons rfl rfl rfl ?_ (Checks.cons rfl rfl rfl ?_ (Checks.cons rfl rfl rfl ?_ (Checks.cons rfl rfl rfl ?_ (Checks.cons rfl rfl rfl ?_ (Checks.cons rfl rfl rfl ?_ (Checks.cons rfl rfl rfl ?_ (Checks.cons rfl rfl rfl ?_ (Checks.cons rfl rfl rfl ?_ (Checks.cons rfl rfl rfl ?_ (Checks.cons rfl rfl rfl ?_ (Checks.cons rfl rfl rfl ?_ (Checks.cons rfl rfl rfl ?_ (Checks.cons rfl rfl rfl ?_ .nil)))))))))))))))))))))))))))))), ?_⟩
  iterate 30
    · unfold reV
      simp [hc1, g3, g4, q_int, q_ptr, q_agg, q_cons, q_nil, q_bool, q_str, q1_int, q1_bool, q1_str, q_f64, second64, get_push, hc1n, g3n, g4n]
  refine hq _ (k1.trans fun j o hj => ?_) ?_
  · have := getO_lt hj
    rw [get_push, if_neg (by omega)]; exact hj
  · simp; omega
end Go.Proofs.YtmmmdmandocbhaaDoor
end

section
set_option linter.unusedVariables false
set_option linter.unusedSimpArgs false
namespace Go.Proofs.YtmmmdmandocbhaaDoor
open Go Go.Proofs.YtmmmdmandocbhaaDoor.Den
theorem fls_load {H : World} {r : Nat} {pre l : List Fl} (hr : getO H r = some (.cells (flatE encF (pre ++ l)).toArray 76 (1, 0))) {i : Nat} (hi : i < l.length) :
    loadX Tryd.prog 76 (.pointer (some ⟨r, pre.length * 6 + i * 6, none⟩)) H = some (.value (encF l[i]), H) := by
  have hlt : pre.length + i < (pre ++ l).length := by simp; omega
  have h1 := flatE_row encF_size (pre ++ l) hlt
  have h2 := flatE_le encF_size (pre ++ l) hlt
  rw [List.getElem_append_right (by omega)] at h1
  simp only [Nat.add_sub_cancel_left] at h1
  rw [show pre.length * 6 + i * 6 = (pre.length + i) * 6 by omega]
  simp [hr]
  rw [if_pos h2]
  have e : List.take 6 (List.drop ((pre.length + i) * 6) (flatE encF (pre ++ l))) = (encF l[i]).cells.toList := by
    have := congrArg Array.toList h1
    simpa using this
  rw [e]
  rfl
/-- Earlier than. -/
def kLt (x y : Fl) : Prop := x.time < y.time ∨ x.time = y.time ∧ (x.id < y.id ∨ x.id = y.id ∧ tw x < tw y)
instance (x y : Fl) : Decidable (kLt x y) := by unfold kLt; infer_instance
structure FB (x : Fl) : Prop where
  t0 : 0 ≤ x.time
  t1 : x.time ≤ 2 ^ 60
  i0 : 0 ≤ x.id
  i1 : x.id ≤ 2 ^ 60
theorem tw_le (x : Fl) : 0 ≤ tw x ∧ tw x ≤ 1 := by unfold tw; split <;> omega
theorem cmpF_lt {x y : Fl} (hx : FB x) (hy : FB y) : cmpF x y < 0 ↔ kLt x y := by
  obtain ⟨a1, a2, a3, a4⟩ := hx
  obtain ⟨b1, b2, b3, b4⟩ := hy
  have ⟨c1, c2⟩ := tw_le x
  have ⟨d1, d2⟩ := tw_le y
  unfold cmpF kLt
  rw [show IntKind.i64.wrap (x.time - y.time) = x.time - y.time from wrap64' (by omega) (by omega), show IntKind.i64.wrap (x.id - y.id) = x.id - y.id from wrap64' (by omega) (by omega), show IntKind.i64.wrap (tw x - tw y) = tw x - tw y from wrap64' (by omega) (by omega)]
  simp only [orI]
  split
  · split
    · split <;> omega
    · omega
  · omega
theorem kLt_up {a b x : Fl} (h : ¬ kLt b a) (g : ¬ kLt a x) : ¬ kLt b x := by
  unfold kLt at *; omega
theorem kLt_down {a b x : Fl} (h : ¬ kLt b a) (g : kLt b x) : kLt a x := by
  unfold kLt at *; omega
abbrev Sorted (l : List Fl) : Prop := l.Pairwise fun a b => ¬ kLt b a
structure BI (v : Value) (c tb : Nat) (l : List Fl) (x : Fl) (H1 : World) (d : Nat) (e : Env) (H : World) : Prop where
  k : Keep H1 H
  z : H1.heap.size ≤ H.heap.size
  e0 : lk e 0 = v
  e2 : lk e 2 = .func (.func 48) #[] #[p0 c]
  e4 : lk e 4 = p0 tb
  e8 : lk e 8 = .int .i64 l.length
  ij : ∃ i j : Nat, d = j - i ∧ i ≤ j ∧ j ≤ l.length ∧ lk e 9 = .int .i64 i ∧ lk e 10 = .int .i64 j ∧ (∀ k (hk : k < l.length), k < i → kLt l[k] x) ∧ ∀ k (hk : k < l.length), j ≤ k → ¬ kLt l[k] x
set_option maxRecDepth 100000 in
theorem bs60 {H : World} {v : Value} {c : Nat} {l : List Fl} (hv : Fls H v l) (hc : getO H c = some (.cells #[.func (.func 47) #[] #[]] 97 (0, 0))) {x : Fl} (hx : FB x) (hb : ∀ y ∈ l, FB y) (hs : Sorted l) (hl : l.length ≤ 2 ^ 40) {Q : Value → World → Prop}
    (hq : ∀ (i : Nat) (b : Bool) H', i ≤ l.length → (∀ k (hk : k < l.length), k < i → kLt l[k] x) → (∀ k (hk : k < l.length), i ≤ k → ¬ kLt l[k] x) → Keep H H' → H.heap.size ≤ H'.heap.size → Q (.tuple #[.int .i64 i, .bool b]) H') : FW X 42 #[v, encF x, .func (.func 48) #[] #[p0 c]] H Q := by
  refine FW.walk (by simp [X, sp17_no]) Tryd.func42 Tryd.ntmps42 rfl (by simp) ?_
  have hlen := fun H0 => hv.len (H0 := H0)
  have k1 : Keep H (pushObj H (.cells (cellsF x) 76 (0, 0))) := fun j o hj => by
    have := getO_lt hj
    rw [get_push, if_neg (by omega)]; exact hj
  have g4 : getO (pushObj H (.cells (cellsF x) 76 (0, 0))) H.heap.size = some (.cells (cellsF x) 76 (0, 0)) := by rw [get_push, if_pos rfl]
  have z1 : H.heap.size ≤ (pushObj H (.cells (cellsF x) 76 (0, 0))).heap.size := by simp
  have hc1 := k1 _ _ hc
  have hv1 : Fls (pushObj H (.cells (cellsF x) 76 (0, 0))) v l := hv.imp fun _ _ _ _ _ o ho => k1 _ _ ho
  simp [hlen, szO]
  generalize hH1 : pushObj H (.cells (cellsF x) 76 (0, 0)) = H1 at *
  generalize hm : H.heap.size = m at *
  refine CE.inv (BI v c m l x H1) ?_ (d := l.length) ⟨fun _ _ h => h, Nat.le_refl _, by simp, by simp, by simp, by simp, 0, l.length, rfl, Nat.zero_le _, Nat.le_refl _, by simp, by simp, fun k _ h => absurd h (by omega), fun k hk h => absurd h (by omega)⟩
  rintro d e H' ⟨kk, zz, e0, e2, e4, e8, i, j, rfl, hij, hj, e9, e10, lo, hi⟩
  by_cases h : i < j
  · rcases hv1 with ⟨_, rfl⟩ | ⟨r, pre, rfl, hr⟩
    · simp at hj; omega
    have hh : (i + j) / 2 < l.length := by omega
    have hld := fls_load (kk _ _ hr) hh
    have hld4 : loadX Tryd.prog 76 (p0 m) H' = some (.value (encF x), H') := by simp [kk _ _ g4]
    have hw : IntKind.i64.wrap ((i : Int) + j) = (i : Int) + j := wrap64 (by omega) (by omega)
    have hw2 : IntKind.u64.wrap ((i : Int) + j) = (i : Int) + j := by simp [IntKind.wrap, IntKind.bits, IntKind.signed]; omega
    have hfd : ((i : Int) + j).fdiv (2 ^ min 1 IntKind.u64.bits) = (((i + j) / 2 : Nat) : Int) := by
      rw [show (2 : Int) ^ min 1 IntKind.u64.bits = 2 from rfl, Int.fdiv_eq_ediv_of_nonneg _ (by decide)]; omega
    have hw3 : IntKind.i64.wrap (((i + j) / 2 : Nat) : Int) = (((i + j) / 2 : Nat) : Int) := wrap64 (by omega) (by omega)
    have h' : (i : Int) < j := by omega
    generalize hp : (i + j) / 2 = p at *
    simp [e9, e10, h', hw, bX_shr, hw2, hfd, hw3]
    refine WP.draw0 (by decide +kernel) (by decide +kernel) ?_
    have hpi : (p : Int) < l.length := by omega
    have hg := kk _ _ g4
    simp [e0, e2, e4, idxS, hpi, hld, hg]
    refine cmp65 (kk _ _ hc1) l[p] x fun H2 k2 z2 => ?_
    have hi64 : IntKind.i64.wrap ((p : Int) + 1) = ((p + 1 : Nat) : Int) := by rw [wrap64 (by omega) (by omega)]; omega
    have hkl := cmpF_lt (hb _ (List.getElem_mem hh)) hx
    have hs' := List.pairwise_iff_getElem.1 hs
    by_cases hlt : cmpF l[p] x < 0
    · have hk := hkl.1 hlt
      simp [hlt, hi64]
      refine ⟨j - (p + 1), by omega, kk.trans k2, by omega, by simp [e0], by simp [e2], by simp [e4], by simp [e8], p + 1, j, rfl, by omega, hj, by simp, by simp [e10], fun k hk1 hk2 => ?_, hi⟩
      rcases Nat.lt_or_ge k p with h3 | h3
      · exact kLt_down (hs' k p hk1 hh h3) hk
      · have : k = p := by omega
        subst this; exact hk
    · have hk : ¬ kLt l[p] x := fun h => hlt (hkl.2 h)
      simp [hlt]
      refine ⟨p - i, by omega, kk.trans k2, by omega, by simp [e0], by simp [e2], by simp [e4], by simp [e8], i, p, rfl, by omega, by omega, by simp [e9], by simp, lo, fun k hk1 hk2 => ?_⟩
      rcases Nat.lt_or_ge p k with h3 | h3
      · exact kLt_up (hs' p k hh hk1 h3) hk
      · have : k = p := by omega
        subst this; exact hk
  · have hij' : i = j := by omega
    subst hij'
    have hn : ¬ (i : Int) < i := by omega
    simp [e9, e10]
    refine WP.drawP [(0, 12)] (by decide +kernel) (by decide +kernel) ?_
    by_cases hil : i < l.length
    · have hil' : (i : Int) < l.length := by omega
      rcases hv1 with ⟨_, rfl⟩ | ⟨r, pre, rfl, hr⟩
      · simp at hil
      have hld := fls_load (kk _ _ hr) hil
      have hg := kk _ _ g4
      simp [e9, e0, e2, e4, e8, hil, idxS, hld, hg]
      refine cmp65 (kk _ _ hc1) l[i] x fun H2 k2 z2 => ?_
      simp
      refine ⟨Checks.cons rfl rfl rfl ?_ .nil, ?_⟩
      · unfold reV
        simp [e9, q_int]
      exact hq i _ H2 hj lo hi (k1.trans (kk.trans k2)) (by omega)
    · simp [e9, e8, hil]
      refine ⟨Checks.cons rfl rfl rfl ?_ .nil, ?_⟩
      · unfold reV
        simp [e9, q_int]
      exact hq i _ H' hj lo hi (k1.trans kk) (by omega)
end Go.Proofs.YtmmmdmandocbhaaDoor
end

section
set_option linter.unusedVariables false
set_option linter.unusedSimpArgs false
namespace Go.Proofs.YtmmmdmandocbhaaDoor
open Go Go.Proofs.YtmmmdmandocbhaaDoor.Den
def insA (l : List Fl) (i : Nat) (x : Fl) : List Fl := l.take i ++ x :: l.drop i
theorem flat_ext (pre l : List Fl) (i j : Nat) (hij : i ≤ j) (hj : j ≤ l.length) : (flatE encF (pre ++ l)).toArray.extract (pre.length * 6 + i * 6) (pre.length * 6 + j * 6) = (flatE encF ((l.drop i).take (j - i))).toArray := by
  have h1 : flatE encF (pre ++ l) = flatE encF (pre ++ l.take i) ++ (flatE encF ((l.drop i).take (j - i)) ++ flatE encF ((l.drop i).drop (j - i))) := by
    rw [← flatE_append, ← flatE_append, List.take_append_drop, List.append_assoc, List.take_append_drop]
  have h2 : (flatE encF (pre ++ l.take i)).length = pre.length * 6 + i * 6 := by
    rw [flatE_len encF_size]; simp; omega
  have h3 : (flatE encF ((l.drop i).take (j - i))).length = j * 6 - i * 6 := by
    rw [flatE_len encF_size]; simp; omega
  rw [h1]
  apply Array.toList_inj.1
  simp only [List.extract_toArray, List.extract_eq_take_drop]
  rw [List.drop_append_of_le_length (by omega), List.drop_eq_nil_of_le (by omega), List.nil_append, List.take_append_of_le_length (by omega), List.take_of_length_le (by omega)]
theorem insA_len {l : List Fl} {i : Nat} (hi : i ≤ l.length) (x : Fl) : (insA l i x).length = l.length + 1 := by
  simp [insA]; omega
theorem cellsF_one (x : Fl) : (cellsF x).all Value.oneCell' = true := by simp [Value.oneCell']
theorem flat_one (l : List Fl) : (flatE encF l).toArray.all Value.oneCell' = true := by
  rw [Array.all_eq_true']
  intro v hv
  rw [List.mem_toArray] at hv
  unfold flatE at hv
  rw [List.mem_flatMap] at hv
  obtain ⟨w, hw, hv⟩ := hv
  rw [List.mem_map] at hw
  obtain ⟨x, _, rfl⟩ := hw
  have h := cellsF_one x
  rw [Array.all_eq_true'] at h
  exact h v (Array.mem_toList_iff.1 hv)
theorem insD_row {H : World} {r off n vb i : Nat} {cs cx : Array Value} (hr : getO H r = some (.cells cs 76 (1, 0))) (hb : getO H vb = some (.cells cx 76 (0, 0))) (hcs : off + n * 6 = cs.size) (hcx : cx.size = 6) (ho : cs.all Value.oneCell' = true) (hox : cx.all Value.oneCell' = true) (hi : i ≤ n) (hl : n ≤ 2 ^ 20) :
    insD Tryd.prog 57 #[.slice (some ⟨r, off, none⟩) n n, .int .i64 i, .slice (some ⟨vb, 0, none⟩) 1 1] H = some (.slice (some ⟨H.heap.size, 0, none⟩) (n + 1) (n + 1), killObj (pushObj H (.cells (cs.extract off (off + i * 6) ++ cx ++ cs.extract (off + i * 6) (off + n * 6)) 76 (1, 0))) r) := by
  have hx0 : SrcX Tryd.prog 6 (.slice (some ⟨vb, 0, none⟩) 1 1) H 1 cx.toList := SrcX.row (cs := cx.toList) (e := 76) (fr := (0, 0)) (by simpa using hb) (by simpa using hcx)
  have hap : appended Tryd.prog (some 57) Tryd.t76 (.slice (some ⟨vb, 0, none⟩) 1 1) H = some (1, cx) := by
    have := appended_src Tryd.prog (t2 := 57) (inf := Tryd.t76) (es := 6) (by simp) (by simp) hx0
    simpa using this
  have hr' : H.heap[r]? = some (.cells cs 76 (1, 0)) := hr
  have hb' : H.heap[vb]? = some (.cells cx 76 (0, 0)) := hb
  have h40 : n ≤ 2 ^ 40 := by omega
  have hby : (n + 1) * 56 ≤ 2 ^ 40 := by omega
  have hne' : ¬ (n + 1 ≤ n) := by omega
  unfold insD
  by_cases hin : i = n
  · subst hin
    have hload : okRun ((loadCells ⟨r, off, none⟩ (i * 6)).run Tryd.prog H) = some (cs.extract off (off + i * 6), H) := by
      rw [run_loadCells_row hr' (by omega)]
      rfl
    have hg : growsFrom H (some ⟨r, off, none⟩) 76 i 6 = some (some r) := by
      simp only [growsFrom, hr', and_self, if_true, hcs]
    have hz : cs.extract (off + i * 6) (off + i * 6) = #[] := by
      apply Array.toList_inj.1
      simp
    have hlap : lappend Tryd.prog #[57, 57] (.slice (some ⟨r, off, none⟩) i i) (.slice (some ⟨vb, 0, none⟩) 1 1) H = some (.slice (some ⟨H.heap.size, 0, none⟩) (i + 1) (i + 1), killObj (pushObj H (.cells (cs.extract off (off + i * 6) ++ cx) 76 (1, 0))) r) := by
      have h1 : ((#[57, 57] : Array TypeId)[0]?).bind Tryd.prog.underlying = some (.slice 76) := by simp
      have h2 : (#[57, 57] : Array TypeId)[1]? = some 57 := rfl
      unfold lappend
      simp only [h1, h2, info76, hap, if_neg hne', size76, bytes76, zero76, cellsOfD, hload, hg, Option.map_some]
      rw [if_pos ⟨by decide, by decide, by decide, hby⟩]
      simp only [hox]
      rw [if_pos ⟨by decide, trivial⟩]
    simp only [hlap, hz, Array.append_empty]
    simp [h40]
  · have hlt : i < n := by omega
    have hne : ¬ r = vb := fun e => by subst e; rw [hr] at hb; simp at hb
    have hlt' : (i : Int) < n := by omega
    have hni : ¬ (i : Int) = n := by omega
    simp only [Tryd.underlying57, info76, insMid, hr', hb', size76, bytes76, zero76]
    rw [if_pos ⟨by decide, h40, by omega, Nat.le_refl _, by simp⟩, if_neg hni, if_pos hlt']
    simp only [Int.toNat_natCast]
    have hcx6 : cx.extract 0 6 = cx := by rw [← hcx]; exact Array.extract_size
    rw [if_pos]
    · simp [hcx6]
    · refine ⟨trivial, trivial, trivial, hcs, trivial, by omega, hne, by decide, by decide, by decide, hby, ho, hox, by decide⟩
theorem ins_fls {H : World} {v : Value} {l : List Fl} (hv : Fls H v l) {x : Fl} {vb : Nat} (hb : getO H vb = some (.cells (cellsF x) 76 (0, 0))) {i : Nat} (hi : i ≤ l.length) (hl : l.length ≤ 2 ^ 20) :
    ∃ H1, insD Tryd.prog 57 #[v, .int .i64 i, .slice (some ⟨vb, 0, none⟩) 1 1] H = some (.slice (some ⟨H.heap.size, 0, none⟩) (l.length + 1) (l.length + 1), H1) ∧ Fls H1 (.slice (some ⟨H.heap.size, 0, none⟩) (l.length + 1) (l.length + 1)) (insA l i x) ∧
      (∀ j o, getO H j = some o → ApO v j → getO H1 j = some o) ∧ H.heap.size ≤ H1.heap.size := by
  have hbl := getO_lt hb
  have hfin : ∀ H1, getO H1 H.heap.size = some (.cells (flatE encF (insA l i x)).toArray 76 (1, 0)) → Fls H1 (.slice (some ⟨H.heap.size, 0, none⟩) (l.length + 1) (l.length + 1)) (insA l i x) := fun H1 h => by
    refine .inr ⟨H.heap.size, [], ?_, by simpa using h⟩
    rw [insA_len hi]; simp
  have hx0 : SrcX Tryd.prog 6 (.slice (some ⟨vb, 0, none⟩) 1 1) H 1 (cellsF x).toList := SrcX.row (e := 76) (fr := (0, 0)) hb (by simp)
  have hap : appended Tryd.prog (some 57) Tryd.t76 (.slice (some ⟨vb, 0, none⟩) 1 1) H = some (1, cellsF x) := appended_src Tryd.prog (es := 6) (by simp) (by simp) hx0
  rcases hv with ⟨rfl, rfl⟩ | ⟨r, pre, rfl, hr⟩
  · have hi0 : i = 0 := by simpa using hi
    subst hi0
    refine ⟨pushObj H (.cells (cellsF x) 76 (1, 0)), ?_, hfin _ ?_, fun j o hj _ => ?_, by simp⟩
    · simp [insD, lappend, hap, cellsOfD, growsFrom]
    · rw [get_push, if_pos rfl]
      simp [insA, flatE_cons, Value.cells]
    · have := getO_lt hj
      rw [get_push, if_neg (by omega)]; exact hj
  · have hrl := getO_lt hr
    have hcl : (flatE encF (pre ++ l)).length = pre.length * 6 + l.length * 6 := by rw [flatE_len encF_size]; simp; omega
    have hr' : H.heap[r]? = some (.cells (flatE encF (pre ++ l)).toArray 76 (1, 0)) := hr
    have hb' : H.heap[vb]? = some (.cells (cellsF x) 76 (0, 0)) := hb
    have hcont : (flatE encF (pre ++ l)).toArray.extract (pre.length * 6) (pre.length * 6 + i * 6) ++ cellsF x ++ (flatE encF (pre ++ l)).toArray.extract (pre.length * 6 + i * 6) (pre.length * 6 + l.length * 6) = (flatE encF (insA l i x)).toArray := by
      have e1 := flat_ext pre l 0 i (Nat.zero_le _) hi
      have e2 := flat_ext pre l i l.length hi (Nat.le_refl _)
      simp only [Nat.zero_mul, Nat.add_zero, List.drop_zero, Nat.sub_zero] at e1
      have e3 : (l.drop i).take (l.length - i) = l.drop i := List.take_of_length_le (by simp)
      rw [e1, e2, e3]
      simp [insA, flatE_append, flatE_cons, Value.cells]
    refine ⟨killObj (pushObj H (.cells (flatE encF (insA l i x)).toArray 76 (1, 0))) r, ?_, hfin _ ?_, fun j o hj ha => ?_, by simp [killObj]⟩
    · have h := insD_row (off := pre.length * 6) (n := l.length) hr hb (by simp [hcl]) (by simp) (flat_one _) (cellsF_one x) hi hl
      rw [hcont] at h
      exact h
    · rw [kill_set, get_set, if_neg (by omega), get_push, if_pos rfl]
    · have hjr : j ≠ r := ha r _ _ _ rfl
      have := getO_lt hj
      rw [kill_set, get_set, if_neg hjr, get_push, if_neg (by omega)]
      exact hj
end Go.Proofs.YtmmmdmandocbhaaDoor
end
