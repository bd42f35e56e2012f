/- Helpers of this claim: an evaluator over plain values and its laws. -/
import Derived.Test.YtmmmdmandocbhaaMa
section
set_option linter.unusedVariables false
set_option linter.unusedSimpArgs false
namespace Go.Proofs.Ytmmmdmandocbhaa
open Go Go.Proofs.Ytmmmdmandocbhaa.Den
set_option maxRecDepth 100000 in
theorem valid20 (H : World) (l : Lk) (Q : Value → World → Prop) : FW X 20 #[encLk l] H Q = Q (.bool (vLink l)) H := by
  refine FW.aloneEq ?_ Try.func20 Try.ntmps20 rfl (by simp) ?_ H Q
  · simp only [X, plainLk]; simp [plainLk]
  by_cases h0 : 0 ≤ l.delay
  rotate_left
  · simp [vLink, h0]
  by_cases h1 : l.delay ≤ 1000
  rotate_left
  · simp [vLink, h0, h1]
  by_cases h2 : 0 ≤ l.jitter
  rotate_left
  · simp [vLink, h0, h1, h2]
  by_cases h3 : l.jitter ≤ 1000
  rotate_left
  · simp [vLink, h0, h1, h2, h3]
  by_cases h4 : 0 ≤ l.loss
  rotate_left
  · simp [vLink, h0, h1, h2, h3, h4]
  by_cases h5 : l.loss ≤ 100
  rotate_left
  · simp [vLink, h0, h1, h2, h3, h4, h5]
  by_cases h6 : 0 ≤ l.dbl
  rotate_left
  · simp [vLink, h0, h1, h2, h3, h4, h5, h6]
  by_cases h7 : l.dbl ≤ 100
  rotate_left
  · simp [vLink, h0, h1, h2, h3, h4, h5, h6, h7]
  simp [vLink, h0, h1, h2, h3, h4, h5, h6, h7]
section
variable {H : World} {b : Nat} {n : NN} {m : RL} {vn vl vs vd vu : Value}
theorem RSt.hosts2 (st : RSt H b n m vn vl vs vd vu) (h1 : 1 ≤ n.hosts) (h16 : n.hosts ≤ 16) {x y : Int} (hh : hasB n x y) : 0 ≤ x * n.hosts + y ∧ x * n.hosts + y < m.links.length ∧ IntKind.i64.wrap (x * n.hosts) = x * n.hosts ∧ IntKind.i64.wrap (x * n.hosts + y) = x * n.hosts + y := by
  obtain ⟨x0, x1, y0, y1⟩ := hh
  have a1 : 0 ≤ x * n.hosts := Int.mul_nonneg x0 (by omega)
  have a2 : x * n.hosts ≤ (n.hosts - 1) * n.hosts := Int.mul_le_mul_of_nonneg_right (by omega) (by omega)
  have a3 : (n.hosts - 1) * n.hosts = n.hosts * n.hosts - n.hosts := by rw [Int.sub_mul, Int.one_mul]
  have a4 : n.hosts * n.hosts ≤ 16 * 16 := Int.mul_le_mul h16 h16 (by omega) (by omega)
  have := st.ll
  exact ⟨by omega, by omega, wrap64 (by omega) (by omega), wrap64 (by omega) (by omega)⟩
end
set_option maxRecDepth 100000 in
theorem link23 {H : World} {b : Nat} {n : NN} {m : RL} {vn vl vs vd vu : Value} (st : RSt H b n m vn vl vs vd vu) (h1 : 1 ≤ n.hosts) (h16 : n.hosts ≤ 16) (x y : Int) {Q : Value → World → Prop}
    (hq : ∀ H', RSt H' b n m vn vl vs vd vu → FrR H H' b [vn, vl, vs, vd, vu] [vn, vl, vs, vd, vu] → Q (.tuple #[encLk (rLink n x y), .int .i64 (eLink n x y)]) H') : FW X 23 #[p0 b, .int .i64 x, .int .i64 y] H Q := by
  refine FW.walk (by simp [X, sp17_no]) Try.func23 Try.ntmps23 rfl (by simp) ?_
  have st1 := st.push (.cells (encLk ⟨0, 0, 0, 0⟩).cells 32 (0, 0))
  have fr1 : FrR H (pushObj H (.cells (encLk ⟨0, 0, 0, 0⟩).cells 32 (0, 0))) b [vn, vl, vs, vd, vu] [vn, vl, vs, vd, vu] := FrR.push _
  have g7 : getO (pushObj H (.cells (encLk ⟨0, 0, 0, 0⟩).cells 32 (0, 0))) H.heap.size = some (.cells (encLk ⟨0, 0, 0, 0⟩).cells 32 (0, 0)) := by rw [get_push, if_pos rfl]
  have nf := st.fresh (j := H.heap.size) (Nat.le_refl _)
  simp [szO, allocX]
  change RSt (pushObj H (.cells #[.int .i64 0, .int .i64 0, .int .i64 0, .int .i64 0] 32 (0, 0))) b n m vn vl vs vd vu at st1
  change FrR H (pushObj H (.cells #[.int .i64 0, .int .i64 0, .int .i64 0, .int .i64 0] 32 (0, 0))) b _ _ at fr1
  change getO (pushObj H (.cells #[.int .i64 0, .int .i64 0, .int .i64 0, .int .i64 0] 32 (0, 0))) H.heap.size = some (.cells #[.int .i64 0, .int .i64 0, .int .i64 0, .int .i64 0] 32 (0, 0)) at g7
  generalize hH1 : pushObj H (.cells #[.int .i64 0, .int .i64 0, .int .i64 0, .int .i64 0] 32 (0, 0)) = H1 at *
  generalize hm : H.heap.size = k at *
  have hh1 := fun Q => host46 st1.net x Q
  have hh2 := fun Q => host46 st1.net y Q
  have lm := getO_lt g7
  have hn := st1.net
  by_cases hx : 0 ≤ x ∧ x < n.hosts
  rotate_left
  · have hhn : ¬ hasB n x y := fun h => hx ⟨h.1, h.2.1⟩
    have e : eLink n x y = 7 := by unfold eLink; rw [if_pos hhn]
    have e1 : rLink n x y = ⟨0, 0, 0, 0⟩ := by simp [rLink, e]
    rw [e, e1] at hq
    rw [decide_eq_false hx] at hh1
    simp [hh1, g7, buildQ, fillX, Value.cells, overL, lm]
    exact hq _ (st1.setFresh _ nf.1 nf.2) (fr1.setFresh _ (by omega))
  rw [decide_eq_true hx] at hh1
  by_cases hy : 0 ≤ y ∧ y < n.hosts
  rotate_left
  · have hhn : ¬ hasB n x y := fun h => hy ⟨h.2.2.1, h.2.2.2⟩
    have e : eLink n x y = 7 := by unfold eLink; rw [if_pos hhn]
    have e1 : rLink n x y = ⟨0, 0, 0, 0⟩ := by simp [rLink, e]
    rw [e, e1] at hq
    rw [decide_eq_false hy] at hh2
    simp [hh1, hh2, g7, buildQ, fillX, Value.cells, overL, lm]
    exact hq _ (st1.setFresh _ nf.1 nf.2) (fr1.setFresh _ (by omega))
  rw [decide_eq_true hy] at hh2
  have hh : hasB n x y := ⟨hx.1, hx.2, hy.1, hy.2⟩
  have hnn : ¬ ¬ hasB n x y := fun h => h hh
  by_cases hxy : x = y
  · have e : eLink n x y = 10 := by unfold eLink; rw [if_neg hnn, if_pos hxy]
    have e1 : rLink n x y = ⟨0, 0, 0, 0⟩ := by simp [rLink, e]
    rw [e, e1] at hq
    have hxd : decide (x = y) = true := decide_eq_true hxy
    simp [hh1, hh2, hxd, g7, buildQ, fillX, Value.cells, overL, lm]
    exact hq _ (st1.setFresh _ nf.1 nf.2) (fr1.setFresh _ (by omega))
  have e : eLink n x y = 0 := by unfold eLink; rw [if_neg hnn, if_neg hxy]
  have e1 : rLink n x y = lnk n x y := by simp [rLink, e]
  rw [e, e1] at hq
  have hxd : decide (x = y) = false := decide_eq_false hxy
  obtain ⟨i0, i1, w1, w2⟩ := st1.hosts2 h1 h16 hh
  obtain ⟨r, fr, c, hmw, hi, hr, hv⟩ := st1.links.at87 i0 i1
  have hlt : (x * n.hosts + y).toNat < m.links.length := by omega
  have hlk := st1.lk x y hh
  rw [List.getElem?_eq_getElem hlt] at hlk
  injection hlk with hlk
  have c1 := flatE_row encLk_size m.links hlt
  have c2 := flatE_le encLk_size m.links hlt
  rw [hlk] at c1
  simp [hh1, hh2, hxd]
  refine WP.draw0 (by decide +kernel) (by decide +kernel) ?_
  simp [hn, w1, w2, hi, hr, c1, c2, g7, Value.cells, overL, lm]
  exact hq _ (st1.setFresh _ nf.1 nf.2) (fr1.setFresh _ (by omega))
theorem flatE_put {α : Type} {enc : α → Value} {es : Nat} (hs : ∀ x, (enc x).cells.size = es) {xs : List α} {k : Nat} (hk : k < xs.length) (x : α) : overL (flatE enc xs).toArray (k * es) (enc x).cells.toList = (flatE enc (xs.set k x)).toArray := by
  have hle := flatE_le hs xs hk
  have hc : (enc x).cells.toList.length = es := by simp [hs]
  rw [overL_list _ _ _ (by rw [hc]; exact hle)]
  congr 1
  have h1 : flatE enc xs = flatE enc (xs.take k) ++ flatE enc (xs.drop k) := by rw [← flatE_append, List.take_append_drop]
  have h2 : flatE enc xs = flatE enc (xs.take (k + 1)) ++ flatE enc (xs.drop (k + 1)) := by rw [← flatE_append, List.take_append_drop]
  have l1 : (flatE enc (xs.take k)).length = k * es := by rw [flatE_len hs, List.length_take, Nat.min_eq_left (Nat.le_of_lt hk)]
  have l2 : (flatE enc (xs.take (k + 1))).length = k * es + es := by rw [flatE_len hs, List.length_take, Nat.min_eq_left (by omega), Nat.succ_mul]
  have t1 : (flatE enc xs).take (k * es) = flatE enc (xs.take k) := by rw [h1, ← l1, List.take_left]
  have t2 : (flatE enc xs).drop (k * es + (enc x).cells.toList.length) = flatE enc (xs.drop (k + 1)) := by rw [hc, h2, ← l2, List.drop_left]
  rw [t1, t2, List.set_eq_take_append_cons_drop, if_pos hk, flatE_append, flatE_cons, List.append_assoc]
theorem idx_inj {h x y x' y' : Int} (y0 : 0 ≤ y) (y1 : y < h) (y0' : 0 ≤ y') (y1' : y' < h) (e : x * h + y = x' * h + y') : x = x' ∧ y = y' := by
  have e1 : (x * h + y) % h = y := by rw [Int.add_comm, Int.add_mul_emod_self_right, Int.emod_eq_of_lt y0 y1]
  have e2 : (x' * h + y') % h = y' := by rw [Int.add_comm, Int.add_mul_emod_self_right, Int.emod_eq_of_lt y0' y1']
  have hy : y = y' := by rw [← e1, ← e2, e]
  subst hy
  have : x * h = x' * h := by omega
  exact ⟨Int.eq_of_mul_eq_mul_right (by omega) this, rfl⟩
theorem lnk_set {n : NN} (hw : n.links.length = 256) {x y : Int} (h16 : n.hosts ≤ 16) (hh : hasB n x y) (l : Lk) {a c : Int} (hh' : hasB n a c) : lnk { n with links := n.links.set (x.toNat * 16 + y.toNat) l } a c = if a = x ∧ c = y then l else lnk n a c := by
  obtain ⟨x0, x1, y0, y1⟩ := hh
  obtain ⟨a0, a1, c0, c1⟩ := hh'
  unfold lnk
  simp only [List.getD_eq_getElem?_getD, List.getElem?_set]
  by_cases e : a = x ∧ c = y
  · obtain ⟨rfl, rfl⟩ := e
    rw [if_pos rfl, if_pos (by omega), if_pos ⟨rfl, rfl⟩]; rfl
  · rw [if_neg (by omega), if_neg e]
set_option maxRecDepth 100000 in
theorem set22 {H : World} {b : Nat} {n : NN} {m : RL} {vn vl vs vd vu : Value} (st : RSt H b n m vn vl vs vd vu) (hw : n.links.length = 256) (h1 : 1 ≤ n.hosts) (h16 : n.hosts ≤ 16) (x y : Int) (l : Lk) {Q : Value → World → Prop}
    (hq : ∀ H' m', RSt H' b (pSet n x y l) m' vn vl vs vd vu → FrR H H' b [vn, vl, vs, vd, vu] [vn, vl, vs, vd, vu] → Q (.int .i64 (eSet n x y l)) H') : FW X 22 #[p0 b, .int .i64 x, .int .i64 y, encLk l] H Q := by
  refine FW.walk (by simp [X, sp17_no]) Try.func22 Try.ntmps22 rfl (by simp) ?_
  have st1 := st.push (.cells (encLk l).cells 32 (0, 0))
  have fr1 : FrR H (pushObj H (.cells (encLk l).cells 32 (0, 0))) b [vn, vl, vs, vd, vu] [vn, vl, vs, vd, vu] := FrR.push _
  have g7 : getO (pushObj H (.cells (encLk l).cells 32 (0, 0))) H.heap.size = some (.cells (encLk l).cells 32 (0, 0)) := by rw [get_push, if_pos rfl]
  simp [szO, valid20]
  change RSt (pushObj H (.cells #[.int .i64 l.delay, .int .i64 l.jitter, .int .i64 l.loss, .int .i64 l.dbl] 32 (0, 0))) b n m vn vl vs vd vu at st1
  change FrR H (pushObj H (.cells #[.int .i64 l.delay, .int .i64 l.jitter, .int .i64 l.loss, .int .i64 l.dbl] 32 (0, 0))) b _ _ at fr1
  change getO (pushObj H (.cells #[.int .i64 l.delay, .int .i64 l.jitter, .int .i64 l.loss, .int .i64 l.dbl] 32 (0, 0))) H.heap.size = some (.cells #[.int .i64 l.delay, .int .i64 l.jitter, .int .i64 l.loss, .int .i64 l.dbl] 32 (0, 0)) at g7
  generalize hH1 : pushObj H (.cells #[.int .i64 l.delay, .int .i64 l.jitter, .int .i64 l.loss, .int .i64 l.dbl] 32 (0, 0)) = H1 at *
  generalize hm : H.heap.size = k at *
  have hh1 := fun Q => host46 st1.net x Q
  have hh2 := fun Q => host46 st1.net y Q
  have hn := st1.net
  have hnf : ∀ e, eSet n x y l = e → e ≠ 0 → pSet n x y l = n := fun e he h0 => by unfold pSet; rw [if_neg (by omega)]
  cases hvl : vLink l with
  | false =>
    have e : eSet n x y l = 1 := by simp [eSet, hvl]
    rw [hnf _ e (by decide), e] at hq
    simp
    exact hq _ _ st1 fr1
  | true =>
  have hvn : ¬ vLink l = false := by rw [hvl]; simp
  by_cases hx : 0 ≤ x ∧ x < n.hosts
  rotate_left
  · have hhn : ¬ hasB n x y := fun h => hx ⟨h.1, h.2.1⟩
    have e : eSet n x y l = 7 := by unfold eSet; rw [if_neg hvn, if_pos hhn]
    rw [hnf _ e (by decide), e] at hq
    rw [decide_eq_false hx] at hh1
    simp [hh1]
    exact hq _ _ st1 fr1
  rw [decide_eq_true hx] at hh1
  by_cases hy : 0 ≤ y ∧ y < n.hosts
  rotate_left
  · have hhn : ¬ hasB n x y := fun h => hy ⟨h.2.2.1, h.2.2.2⟩
    have e : eSet n x y l = 7 := by unfold eSet; rw [if_neg hvn, if_pos hhn]
    rw [hnf _ e (by decide), e] at hq
    rw [decide_eq_false hy] at hh2
    simp [hh1, hh2]
    exact hq _ _ st1 fr1
  rw [decide_eq_true hy] at hh2
  have hh : hasB n x y := ⟨hx.1, hx.2, hy.1, hy.2⟩
  have hnn : ¬ ¬ hasB n x y := fun h => h hh
  by_cases hxy : x = y
  · have e : eSet n x y l = 10 := by unfold eSet; rw [if_neg hvn, if_neg hnn, if_pos hxy]
    rw [hnf _ e (by decide), e] at hq
    have hxd : decide (x = y) = true := decide_eq_true hxy
    simp [hh1, hh2, hxd]
    exact hq _ _ st1 fr1
  have e : eSet n x y l = 0 := by unfold eSet; rw [if_neg hvn, if_neg hnn, if_neg hxy]
  have e1 : pSet n x y l = { n with links := n.links.set (x.toNat * 16 + y.toNat) l } := by simp [pSet, e]
  rw [e, e1] at hq
  have hxd : decide (x = y) = false := decide_eq_false hxy
  obtain ⟨i0, i1, w1, w2⟩ := st1.hosts2 h1 h16 hh
  obtain ⟨r, fr, c, hmw, hi, hr, hv⟩ := st1.links.at87 i0 i1
  have hlt : (x * n.hosts + y).toNat < m.links.length := by omega
  have c2 := flatE_le encLk_size m.links hlt
  have c3 := flatE_put encLk_size hlt l
  simp [Value.cells] at c3
  have hlr := getO_lt hr
  have hrb : r ≠ b := fun e' => st1.apb vl (by simp) r 0 _ _ hv e'.symm
  have hap : ∀ v ∈ [vn, vs, vd, vu], ApO v r := fun v hv2 => by
    have := st1.pw
    simp only [List.pairwise_cons, List.mem_cons, List.not_mem_nil, or_false, forall_eq_or_imp, forall_eq, false_implies, implies_true, and_true] at this hv2
    obtain ⟨⟨p1, p2, p3, p4⟩, ⟨p5, p6, p7⟩, ⟨p8, p9⟩, p10, _⟩ := this
    rcases hv2 with rfl | rfl | rfl | rfl
    · exact p1.symm _ _ _ _ hv
    · exact p5 _ _ _ _ hv
    · exact p6 _ _ _ _ hv
    · exact p7 _ _ _ _ hv
  have kp : ∀ v ∈ [vn, vs, vd, vu], ∀ r' o' k c, v = .slice (some ⟨r', o', none⟩) k c → ∀ z, getO H1 r' = some z → getO (setO H1 r (.cells (flatE encLk (m.links.set (x * n.hosts + y).toNat l)).toArray 32 fr)) r' = some z := fun v hv2 r' o' k c e' z hz => by
    rw [get_set, if_neg (fun e2 => hap v hv2 _ _ _ _ e' e2.symm)]; exact hz
  have st4 : RSt (setO H1 r (.cells (flatE encLk (m.links.set (x * n.hosts + y).toNat l)).toArray 32 fr)) b { n with links := n.links.set (x.toNat * 16 + y.toNat) l } { m with links := m.links.set (x * n.hosts + y).toNat l } vn vl vs vd vu :=
    ⟨by rw [get_set, if_neg (fun e' => hrb e'.symm)]; exact hn, st1.nums.imp (kp vn (by simp)), .inr ⟨r, c, fr, by rw [List.length_set]; exact hv, by rw [get_set, if_pos rfl, if_pos hlr], hmw⟩, st1.sides.imp (kp vs (by simp)), st1.down.imp (kp vd (by simp)), accw_imp st1.und (kp vu (by simp)),
      by rw [List.length_set]; exact st1.ll, fun a c' hac => by
        have hac' : hasB n a c' := hac
        rw [lnk_set hw h16 hh l hac']
        show (m.links.set (x * n.hosts + y).toNat l)[(a * n.hosts + c').toNat]? = _
        rw [List.getElem?_set]
        obtain ⟨j0, j1, _, _⟩ := st1.hosts2 h1 h16 hac'
        by_cases e' : a = x ∧ c' = y
        · obtain ⟨rfl, rfl⟩ := e'
          rw [if_pos rfl, if_pos hlt, if_pos ⟨rfl, rfl⟩]
        · rw [if_neg e', if_neg (fun e2 => e' (idx_inj hac'.2.2.1 hac'.2.2.2 hy.1 hy.2 (by omega)))]
          exact st1.lk a c' hac', st1.sl, st1.sd, st1.dl, st1.dn, st1.pm, st1.apb, st1.pw⟩
  simp [hh1, hh2, hxd]
  refine WP.draw0 (by decide +kernel) (by decide +kernel) ?_
  simp [hn, w1, w2, hi, hr, c2, c3, hmw, g7, Value.cells]
  exact hq _ _ st4 (fr1.trans (FrR.setRow (v := vl) _ (by simp) hv))
theorem rst_pw {H : World} {b : Nat} {n : NN} {m : RL} {vn vl vs vd vu : Value} (st : RSt H b n m vn vl vs vd vu) : ApV vn vl ∧ ApV vn vs ∧ ApV vn vd ∧ ApV vn vu ∧ ApV vl vs ∧ ApV vl vd ∧ ApV vl vu ∧ ApV vs vd ∧ ApV vs vu ∧ ApV vd vu := by
  have := st.pw
  simp only [List.pairwise_cons, List.mem_cons, List.not_mem_nil, or_false, forall_eq_or_imp, forall_eq, false_implies, implies_true, and_true] at this
  obtain ⟨⟨p1, p2, p3, p4⟩, ⟨p5, p6, p7⟩, ⟨p8, p9⟩, p10, _⟩ := this
  exact ⟨p1, p2, p3, p4, p5, p6, p7, p8, p9, p10⟩
theorem dwn_set {n : NN} (hw : n.down.length = 16) {x : Int} (h16 : n.hosts ≤ 16) (x0 : 0 ≤ x) (x1 : x < n.hosts) (d : Bool) {a : Int} (a0 : 0 ≤ a) (a1 : a < n.hosts) : dwn { n with down := n.down.set x.toNat d } a = if a = x then d else dwn n a := by
  unfold dwn
  simp only [List.getD_eq_getElem?_getD, List.getElem?_set]
  by_cases e : a = x
  · subst e
    rw [if_pos rfl, if_pos (by omega), if_pos rfl]; rfl
  · rw [if_neg (by omega), if_neg e]
set_option maxRecDepth 100000 in
theorem turn33 {H : World} {b : Nat} {n : NN} {m : RL} {vn vl vs vd vu : Value} (st : RSt H b n m vn vl vs vd vu) (hw : n.down.length = 16) (h16 : n.hosts ≤ 16) (x : Int) (d : Bool) {Q : Value → World → Prop}
    (hq : ∀ H' m', RSt H' b (pTurn n x d) m' vn vl vs vd vu → FrR H H' b [vn, vl, vs, vd, vu] [vn, vl, vs, vd, vu] → Q (.int .i64 (eTurn n x d)) H') : FW X 33 #[p0 b, .int .i64 x, .bool d] H Q := by
  refine FW.walk (by simp [X, sp17_no]) Try.func33 Try.ntmps33 rfl (by simp) ?_
  have hh1 := fun Q => host46 st.net x Q
  have hn := st.net
  by_cases hx : 0 ≤ x ∧ x < n.hosts
  rotate_left
  · have e : eTurn n x d = 7 := by unfold eTurn; rw [if_pos hx]
    have e1 : pTurn n x d = n := by simp [pTurn, e]
    rw [e, e1] at hq
    rw [decide_eq_false hx] at hh1
    simp [hh1]
    exact hq _ _ st FrR.refl
  rw [decide_eq_true hx] at hh1
  obtain ⟨x0, x1⟩ := hx
  have hnn : ¬ ¬ (0 ≤ x ∧ x < n.hosts) := fun h => h ⟨x0, x1⟩
  obtain ⟨r, fr, c, hmw, hi, hr, hv⟩ := st.down.at86 x0 (by have := st.dl; omega)
  have hdx := st.dn x x0 x1
  have hlr := getO_lt hr
  by_cases hdd : dwn n x = d
  · have e : eTurn n x d = 9 := by unfold eTurn; rw [if_neg hnn, if_pos hdd]
    have e1 : pTurn n x d = n := by simp [pTurn, e]
    rw [e, e1] at hq
    have hbe : (dwn n x == d) = true := by rw [hdd]; exact beq_self_eq_true d
    simp [hh1, hn, hi, hr, hdx, bX_beql Try.underlying4, hbe, -beq_iff_eq]
    exact hq _ _ st FrR.refl
  have e : eTurn n x d = 0 := by unfold eTurn; rw [if_neg hnn, if_neg hdd]
  have e1 : pTurn n x d = { n with down := n.down.set x.toNat d } := by simp [pTurn, e]
  rw [e, e1] at hq
  have hbe : (dwn n x == d) = false := beq_eq_false_iff_ne.2 hdd
  have hrb : r ≠ b := fun e' => st.apb vd (by simp) r 0 _ _ hv e'.symm
  obtain ⟨p1, p2, p3, p4, p5, p6, p7, p8, p9, p10⟩ := rst_pw st
  have hlt : x.toNat < m.down.length := by have := st.dl; omega
  have kp : ∀ v, ApV vd v → ∀ r' o' k c, v = .slice (some ⟨r', o', none⟩) k c → ∀ z, getO H r' = some z → getO (setO H r (.cells ((m.down.set x.toNat d).map Value.bool).toArray 4 fr)) r' = some z := fun v hv2 r' o' k c e' z hz => by
    rw [get_set, if_neg (fun e2 => hv2 _ _ _ _ hv _ _ _ _ e' e2.symm)]; exact hz
  have st4 : RSt (setO H r (.cells ((m.down.set x.toNat d).map Value.bool).toArray 4 fr)) b { n with down := n.down.set x.toNat d } { m with down := m.down.set x.toNat d } vn vl vs vd vu :=
    ⟨by rw [get_set, if_neg (fun e' => hrb e'.symm)]; exact hn, st.nums.imp (kp vn p3.symm), st.links.imp (kp vl p6.symm), st.sides.imp (kp vs p8.symm), .inr ⟨r, c, fr, by rw [List.length_set]; exact hv, by rw [get_set, if_pos rfl, if_pos hlr], hmw⟩, accw_imp st.und (kp vu p10),
      st.ll, st.lk, st.sl, st.sd, by rw [List.length_set]; exact st.dl, fun a a0 a1 => by
        have a1' : a < n.hosts := a1
        rw [dwn_set hw h16 x0 x1 d a0 a1']
        show (m.down.set x.toNat d)[a.toNat]? = _
        rw [List.getElem?_set]
        by_cases e' : a = x
        · subst e'
          rw [if_pos rfl, if_pos hlt, if_pos rfl]
        · rw [if_neg (by omega), if_neg e']
          exact st.dn a a0 a1', st.pm, st.apb, st.pw⟩
  have hdx' : m.down[x.toNat] = dwn n x := by
    rw [List.getElem?_eq_getElem hlt] at hdx
    injection hdx
  have hlt1 : x.toNat + 1 ≤ m.down.length := hlt
  simp [hh1, hn, hi, hr, hdx', bX_beql Try.underlying4, hbe, hmw, hlt, hlt1]
  simp only [List.map_set] at st4
  exact hq _ _ st4 (FrR.setRow (v := vd) _ (by simp) hv)
set_option maxRecDepth 100000 in
theorem reach36 {H : World} {b : Nat} {n : NN} {m : RL} {vn vl vs vd vu : Value} (st : RSt H b n m vn vl vs vd vu) (x y : Int) (Q : Value → World → Prop) : FW X 36 #[p0 b, .int .i64 x, .int .i64 y] H Q = Q (.tuple #[.bool (rReach n x y), .int .i64 (eReach n x y)]) H := by
  refine FW.eqE (by simp [X, sp17_no]) Try.func36 Try.ntmps36 rfl (by simp) ?_ Q
  have hh1 := fun Q => host46 st.net x Q
  have hh2 := fun Q => host46 st.net y Q
  have hn := st.net
  by_cases hx : 0 ≤ x ∧ x < n.hosts
  rotate_left
  · have hhn : ¬ hasB n x y := fun h => hx ⟨h.1, h.2.1⟩
    have e : eReach n x y = 7 := by simp [eReach, hhn]
    have e1 : rReach n x y = false := by simp [rReach, e]
    rw [decide_eq_false hx] at hh1
    simp [hh1, e, e1]
  rw [decide_eq_true hx] at hh1
  by_cases hy : 0 ≤ y ∧ y < n.hosts
  rotate_left
  · have hhn : ¬ hasB n x y := fun h => hy ⟨h.2.2.1, h.2.2.2⟩
    have e : eReach n x y = 7 := by simp [eReach, hhn]
    have e1 : rReach n x y = false := by simp [rReach, e]
    rw [decide_eq_false hy] at hh2
    simp [hh1, hh2, e, e1]
  rw [decide_eq_true hy] at hh2
  have hh : hasB n x y := ⟨hx.1, hx.2, hy.1, hy.2⟩
  have e : eReach n x y = 0 := by simp [eReach, hh]
  have e1 : rReach n x y = (!dwn n x && !dwn n y && decide (sid n x = sid n y)) := by simp [rReach, e]
  rw [e, e1]
  obtain ⟨r, fr, c, hmw, hi, hr, hv⟩ := st.down.at86 hx.1 (by have := st.dl; omega)
  obtain ⟨r', fr', c', hmw', hi', hr', hv'⟩ := st.down.at86 hy.1 (by have := st.dl; omega)
  obtain ⟨s, fs, cs, hms, si, sr, sv⟩ := st.sides.at29 hx.1 (by have := st.sl; omega)
  obtain ⟨s', fs', cs', hms', si', sr', sv'⟩ := st.sides.at29 hy.1 (by have := st.sl; omega)
  have dx := st.dn x hx.1 hx.2
  have dy := st.dn y hy.1 hy.2
  have sx := st.sd x hx.1 hx.2
  have sy := st.sd y hy.1 hy.2
  simp [hh1, hh2]
  refine WP.draw0 (by decide +kernel) (by decide +kernel) ?_
  cases hdx : dwn n x with
  | true => simp [hn, hi, hr, dx, hdx]
  | false =>
  cases hdy : dwn n y with
  | true => simp [hn, hi, hr, hi', hr', dx, hdx, dy, hdy]
  | false => simp [hn, hi, hr, hi', hr', dx, hdx, dy, hdy, si, sr, si', sr', sx, sy]
end Go.Proofs.Ytmmmdmandocbhaa
end

section
set_option linter.unusedVariables false
set_option linter.unusedSimpArgs false
namespace Go.Proofs.Ytmmmdmandocbhaa
open Go Go.Proofs.Ytmmmdmandocbhaa.Den
/-- A copy of numbers that came in, made by append. -/
theorem app_nil29 {H : World} (o : Option (List Int)) (hl : (o.getD []).length ≤ 2 ^ 20) : ∃ v' H', builtinX Try.prog .append #[29, 29] #[.slice none 0 0, sidesV o] H = some (.value v', H') ∧ RowC 3 H' v' (o.getD []).length ((o.getD []).map (Value.int .i64)) ∧ Keep H H' ∧ H.heap.size ≤ H'.heap.size ∧ ∀ i, i < H.heap.size → ApO v' i := by
  have hx : SrcX Try.prog 1 (sidesV o) H (o.getD []).length ((o.getD []).map (Value.int .i64)) := by
    have h := SrcX.slV (P := Try.prog) (es := 1) (o := o.map fun l => l.map (Value.int .i64)) (H := H)
    cases o with
    | none => exact h
    | some l =>
      simp [List.flatMap_map] at h
      simp only [Option.getD_some]
      rw [List.map_eq_flatMap]
      exact h
  obtain ⟨v', H', h1, h2, h3, h4, h5⟩ := Acc.append Try.prog (t1 := 29) (t2 := 29) (inf := Try.t3) (z := .int .i64 0) (Acc.nil (H := H) (es := 1) (e := 3)) Try.underlying29 (by simp) info3 zero3 rfl rfl (by decide) (by decide) (by decide) hx (by simp) (by simp [Value.oneCell']) (by simp; omega)
  rw [Nat.zero_add, List.nil_append] at h2
  refine ⟨v', H', h1, ?_, fun i o' ho => h3 i o' ho (fun r n c e => by cases e), h4, fun i hi r o' n c e => ?_⟩
  · obtain ⟨g1, ⟨g2, g3⟩ | ⟨r, g2, g3, g4⟩⟩ := h2
    · refine .inl ⟨g2, g3, ?_⟩
      rw [g3] at g1
      exact List.length_eq_zero_iff.1 (by simpa using g1)
    · exact .inr ⟨r, _, _, g2, g4, rfl⟩
  · have ha := h5 i (fun r n c e => by cases e) hi
    rcases h2.2 with ⟨g2, _⟩ | ⟨r2, g2, _, _⟩
    · rw [g2] at e; cases e
    · rw [g2] at e; cases e
      exact ha _ _ _ g2
theorem RowC.one {e : TypeId} {H : World} {v : Value} {k : Nat} {cs : List Value} (h : RowC e H v k cs) : v.cells = #[v] ∧ v.oneCell' = true := by
  rcases h with ⟨rfl, _⟩ | ⟨r, c, fr, rfl, _⟩ <;> exact ⟨rfl, rfl⟩
section
variable {H H1 : World} {b : Nat} {n : NN} {m : RL} {vn vl vs vd vu v' : Value}
/-- New sides. -/
theorem RSt.newSides (st : RSt H1 b n m vn vl vs vd vu) {l sd' : List Int} (hrow : RowC 3 H1 v' l.length (l.map (Value.int .i64))) (hb : ApO v' b) (ha : ∀ v ∈ [vn, vl, vd, vu], ApV v v') (hl : (l.length : Int) = n.hosts) (hs : ∀ x, 0 ≤ x → x < n.hosts → l[x.toNat]? = some (sd'.getD x.toNat 0)) :
    RSt (setO H1 b (netR { n with sides := sd' } vn vl v' vd vu)) b { n with sides := sd' } { m with sides := l } vn vl v' vd vu := by
  have hlb := getO_lt st.net
  obtain ⟨p1, p2, p3, p4, p5, p6, p7, p8, p9, p10⟩ := rst_pw st
  have kp : ∀ v, ApO v b → ∀ r' o' k c, v = .slice (some ⟨r', o', none⟩) k c → ∀ z, getO H1 r' = some z → getO (setO H1 b (netR { n with sides := sd' } vn vl v' vd vu)) r' = some z := fun v hv r' o' k c e z hz => by
    rw [get_set, if_neg (fun e2 => hv _ _ _ _ e e2.symm)]; exact hz
  have ap := st.apb
  simp only [List.mem_cons, List.not_mem_nil, or_false, forall_eq_or_imp, forall_eq] at ap ha
  obtain ⟨a1, a2, a3, a4, a5⟩ := ap
  obtain ⟨q1, q2, q3, q4⟩ := ha
  refine ⟨by rw [get_set, if_pos rfl, if_pos hlb], st.nums.imp (kp _ a1), st.links.imp (kp _ a2), hrow.imp (kp _ hb), st.down.imp (kp _ a4), accw_imp st.und (kp _ a5), st.ll, st.lk, hl, fun x x0 x1 => hs x x0 x1, st.dl, st.dn, st.pm, ?_, ?_⟩
  · simp only [List.mem_cons, List.not_mem_nil, or_false, forall_eq_or_imp, forall_eq]
    exact ⟨a1, a2, hb, a4, a5⟩
  · simp only [List.pairwise_cons, List.mem_cons, List.not_mem_nil, or_false, forall_eq_or_imp, forall_eq, false_implies, implies_true, and_true]
    exact ⟨⟨p1, q1, p3, p4⟩, ⟨q2, p6, p7⟩, ⟨q3.symm, q4.symm⟩, p10, trivial, .nil⟩
/-- A row that is new stands apart from the rows of a network. -/
theorem RSt.apNew (st : RSt H b n m vn vl vs vd vu) (hf : ∀ i, i < H.heap.size → ApO v' i) : ApO v' b ∧ ∀ v ∈ [vn, vl, vs, vd, vu], ApV v v' := by
  refine ⟨hf _ (getO_lt st.net), fun v hv r o k c e => ?_⟩
  refine hf r ?_
  refine Classical.byContradiction fun hc => ?_
  exact (st.fresh (j := r) (by omega)).2 v hv _ _ _ _ e rfl
end
theorem FrR.newV {H H' : World} {b : Nat} {V V' : List Value} {v' : Value} (h : FrR H H' b V V) (hsub : ∀ v ∈ V', v ∈ V ∨ v = v') (hf : ∀ i, i < H.heap.size → ApO v' i) : FrR H H' b V V' :=
  ⟨h.keep, fun j h1 h2 h3 v hv => by
    rcases hsub v hv with hv | rfl
    · exact h.fresh j h1 h2 h3 v hv
    · exact hf j h1, h.size⟩
set_option maxRecDepth 100000 in
theorem heal31 {H : World} {b : Nat} {n : NN} {m : RL} {vn vl vs vd vu : Value} (st : RSt H b n m vn vl vs vd vu) (h1 : 1 ≤ n.hosts) (h16 : n.hosts ≤ 16) {Q : Value → World → Prop}
    (hq : ∀ H' m' vs', RSt H' b (pHeal n) m' vn vl vs' vd vu → FrR H H' b [vn, vl, vs, vd, vu] [vn, vl, vs', vd, vu] → Q (.int .i64 0) H') : FW X 31 #[p0 b] H Q := by
  refine FW.walk (by simp [X, sp17_no]) Try.func31 Try.ntmps31 rfl (by simp) ?_
  have hn := st.net
  have h0 : (0 : Int) ≤ n.hosts := by omega
  have h32 : n.hosts ≤ 4294967296 := by omega
  have hz : ((List.replicate n.hosts.toNat (0 : Int)).map (Value.int .i64)).toArray = Array.replicate n.hosts.toNat (.int .i64 0) := by simp
  have st1 := st.push (.cells (Array.replicate n.hosts.toNat (.int .i64 0)) 3 (0, 0))
  have hrow : RowC 3 (pushObj H (.cells (Array.replicate n.hosts.toNat (.int .i64 0)) 3 (0, 0))) (.slice (some ⟨H.heap.size, 0, none⟩) n.hosts.toNat n.hosts.toNat) (List.replicate n.hosts.toNat (0 : Int)).length ((List.replicate n.hosts.toNat (0 : Int)).map (Value.int .i64)) :=
    .inr ⟨H.heap.size, n.hosts.toNat, (0, 0), by rw [List.length_replicate], by rw [get_push, if_pos rfl, hz], rfl⟩
  obtain ⟨ap1, ap2⟩ := st.apNew (v' := .slice (some ⟨H.heap.size, 0, none⟩) n.hosts.toNat n.hosts.toNat) fun i hi r o k c e => by cases e; omega
  have st2 := st1.newSides (sd' := List.replicate 16 0) hrow ap1 (fun v hv => ap2 v (by simp at hv ⊢; rcases hv with h | h | h | h <;> simp [h])) (by rw [List.length_replicate]; omega) fun x x0 x1 => by
    rw [List.getElem?_replicate, if_pos (by omega), List.getD_eq_getElem?_getD, List.getElem?_replicate, if_pos (by omega)]; rfl
  have hb1 := getO_lt st1.net
  have hn1 := st1.net
  simp [hn, makeSliceX, szO, h0, h32, zerosX, hn1, hb1, overL]
  refine hq _ _ _ st2 (FrR.newV ((FrR.push _).trans (FrR.setB _)) (fun v hv => ?_) (v' := .slice (some ⟨H.heap.size, 0, none⟩) n.hosts.toNat n.hosts.toNat) fun i hi r o k c e => by cases e; omega)
  simp at hv ⊢
  rcases hv with h | h | h | h | h <;> simp [h]
theorem any_take {l : List Int} {p : Int → Bool} {k : Nat} (hk : k < l.length) (h : (l.take k).any p = false) : (l.take (k + 1)).any p = p l[k] := by
  rw [List.take_succ_eq_append_getElem hk, List.any_append, h]; simp
theorem any_at {l : List Int} {p : Int → Bool} {k : Nat} (hk : k < l.length) (h : p l[k] = true) : l.any p = true := List.any_eq_true.2 ⟨_, List.getElem_mem hk, h⟩
set_option maxRecDepth 100000 in
theorem part29 {H : World} {b : Nat} {n : NN} {m : RL} {vn vl vs vd vu : Value} (st : RSt H b n m vn vl vs vd vu) (h1 : 1 ≤ n.hosts) (h16 : n.hosts ≤ 16) (o : Option (List Int)) (hl : (o.getD []).length < 2 ^ 62) {Q : Value → World → Prop}
    (hq : ∀ H' m' vs', RSt H' b (pPart n (o.getD [])) m' vn vl vs' vd vu → FrR H H' b [vn, vl, vs, vd, vu] [vn, vl, vs', vd, vu] → Q (.int .i64 (ePart n (o.getD []))) H') : FW X 29 #[p0 b, sidesV o] H Q := by
  have rd : Rd H (sidesV o) (o.getD []) := Rd.slV
  have hvlen := fun H0 => rd.len H0
  have happ := app_nil29 (H := H) o
  generalize sidesV o = v at *
  generalize o.getD [] = l at *
  refine FW.walk (by simp [X, sp17_no]) Try.func29 Try.ntmps29 rfl (by simp) ?_
  have hn := st.net
  simp [hvlen]
  refine CE.range (m := l.length) (fun k e H' => H' = H ∧ lk e 0 = p0 b ∧ lk e 1 = v ∧ lk e 7 = v ∧ lk e 4 = .int .i64 0 ∧ (l.take k).any (fun x => decide (x < 0)) = false) ?_ (by omega) ?_ ?_ ?_
  · decide
  · simp
  · rintro k e H' hk q1 q2 ⟨rfl, e0, e1, e7, e4, hno⟩
    obtain ⟨a, a1, a2⟩ := rd.get k hk
    have ht := any_take hk hno
    rw [ht]
    by_cases hx : l[k] < 0
    · have e : ePart n l = 7 := by unfold ePart; rw [if_pos (any_at hk (decide_eq_true hx))]
      have e1' : pPart n l = n := by simp [pPart, e]
      rw [e, e1'] at hq
      simp [q1, q2, e7, a1, a2, hx]
      exact hq _ _ _ st FrR.refl
    · simp [q1, q2, e0, e1, e4, e7, a1, a2, hx]
  · rintro e H' q1 q2 ⟨rfl, e0, e1, e7, e4, hno⟩
    rw [List.take_length] at hno
    by_cases hsz : (l.length : Int) = n.hosts
    rotate_left
    · have e : ePart n l = 11 := by simp [ePart, hno, hsz]
      have e1' : pPart n l = n := by simp [pPart, e]
      rw [e, e1'] at hq
      simp [e0, e1, hvlen, hn, hsz]
      exact hq _ _ _ st FrR.refl
    have e : ePart n l = 0 := by simp [ePart, hno, hsz]
    have e1' : pPart n l = { n with sides := l ++ n.sides.drop l.length } := by simp [pPart, e]
    rw [e, e1'] at hq
    obtain ⟨v', H1, ap, hrow, hk, hz, hf⟩ := happ (by omega)
    obtain ⟨ap1, ap2⟩ := st.apNew hf
    have st1 := st.keep hk
    have st2 := st1.newSides (sd' := l ++ n.sides.drop l.length) hrow ap1 (fun v hv => ap2 v (by simp at hv ⊢; rcases hv with h | h | h | h <;> simp [h])) hsz fun x x0 x1 => by
      have hlt : x.toNat < l.length := by omega
      rw [List.getD_eq_getElem?_getD, List.getElem?_append_left hlt, List.getElem?_eq_getElem hlt]; rfl
    have hn1 := st1.net
    have hb1 := getO_lt hn1
    obtain ⟨o1, o2⟩ := hrow.one
    simp [e0, e1, hvlen, hn, hsz, ap, hn1, hb1, overL, o1, o2]
    refine hq _ _ _ st2 (FrR.newV ((FrR.ofKeep hk hz).trans (FrR.setB _)) (fun v hv => ?_) hf)
    simp at hv ⊢
    rcases hv with h | h | h | h | h <;> simp [h]
end Go.Proofs.Ytmmmdmandocbhaa
end
