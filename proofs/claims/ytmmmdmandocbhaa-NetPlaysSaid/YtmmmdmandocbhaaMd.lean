/- Helpers of this claim: an evaluator over plain values and its laws. -/
import Derived.Test.YtmmmdmandocbhaaMb
section
set_option linter.unusedVariables false
set_option linter.unusedSimpArgs false
namespace Go.Proofs.Ytmmmdmandocbhaa.Den
theorem deadN_keep {d : Nat} {H : World} : ∀ (b : Nat) (o : Obj), getO H b = some o → getO (deadN d H) b = some o := fun b o h => by
  have hlt := getO_lt h
  have h : H.heap[b]? = some o := h
  show (deadN d H).heap[b]? = some o
  rw [deadN_get, if_pos hlt]; exact h
theorem deadN_size : ∀ (d : Nat) (H : World), (deadN d H).heap.size = H.heap.size + d
  | 0, H => rfl
  | d + 1, H => by
    unfold deadN
    rw [deadN_size d]
    simp [pushObj]
    omega
end Go.Proofs.Ytmmmdmandocbhaa.Den
namespace Go.Proofs.Ytmmmdmandocbhaa
open Go Go.Proofs.Ytmmmdmandocbhaa.Den
theorem acc_apo {H : World} {v : Value} {es : Nat} {e : TypeId} {n : Nat} {cs : List Value} (h : Acc H v es e n cs) {j : Nat} (ha : Apart v j) : ApO v j := fun r o k c e' => by
  rcases h.2 with ⟨e2, _⟩ | ⟨r2, e2, _, _⟩
  · rw [e2] at e'; cases e'
  · rw [e2] at e'; cases e'; exact ha _ _ _ e2
theorem apo_apart {v : Value} {j : Nat} (h : ApO v j) : Apart v j := fun r n c e => h r 0 n c e
def dLk : Lk := ⟨1, 0, 0, 0⟩
theorem app_lk {H : World} {v : Value} {xs : List Lk} (h : AccE encLk 4 32 H v xs) (hl : xs.length ≤ 2 ^ 10) (x : Lk) : ∃ v' H', builtinX Try.prog .append #[87, 87] #[v, .slice (some ⟨H.heap.size, 0, none⟩) 1 1] (pushObj H (.cells (encLk x).cells 32 (0, 0))) = some (.value v', H') ∧
    AccE encLk 4 32 H' v' (xs ++ [x]) ∧ (∀ i o, getO H i = some o → ApO v i → getO H' i = some o) ∧ H.heap.size ≤ H'.heap.size ∧ (∀ i, ApO v i → i < H.heap.size → ApO v' i) := by
  obtain ⟨v', H', h1, h2, h3, h4, h5⟩ := AccE.add Try.prog (t1 := 87) (t2 := 87) (inf := Try.t32) (z := .agg #[.int .i64 0, .int .i64 0, .int .i64 0, .int .i64 0]) encLk_size (fun x => by simp [Value.cells, Value.oneCell']) h (by simp) (by simp) (by simp) (by simp) rfl rfl (by decide) (by decide) (by decide) (by have : Try.t32.bytes = 32 := rfl; rw [this]; omega) x (fr := (0, 0))
  exact ⟨v', H', h1, h2, fun i o ho ha => h3 i o ho (apo_apart ha), h4, fun i ha hi => acc_apo h2 (h5 i (apo_apart ha) hi)⟩
theorem RowC.lt {e : TypeId} {H : World} {v : Value} {k : Nat} {cs : List Value} (h : RowC e H v k cs) {r o n c : Nat} (hv : v = .slice (some ⟨r, o, none⟩) n c) : r < H.heap.size := by
  rcases h with ⟨e2, _⟩ | ⟨r2, c2, fr2, e2, hr, _⟩
  · rw [e2] at hv; cases hv
  · rw [e2] at hv; cases hv; exact getO_lt hr
theorem acc_rowC {H : World} {v : Value} {es n : Nat} {e : TypeId} {cs : List Value} (h : Acc H v es e n cs) : RowC e H v n cs := by
  obtain ⟨h1, ⟨h2, h3⟩ | ⟨r, h2, h3, h4⟩⟩ := h
  · refine .inl ⟨h2, h3, ?_⟩
    rw [h3, Nat.zero_mul] at h1
    exact List.length_eq_zero_iff.1 h1
  · exact .inr ⟨r, _, _, h2, h4, rfl⟩
/-- While the links are made. -/
structure NwR (H0 : World) (b : Nat) (n : NN) (vn vs vd : Value) (k : Nat) (e : Env) (H : World) : Prop where
  e8 : lk e 8 = p0 b
  ex : ∃ vl, getO H b = some (netR n vn vl vs vd (.slice none 0 0)) ∧ AccE encLk 4 32 H vl (List.replicate k dLk) ∧ ApO vl b ∧ ApV vn vl ∧ ApV vs vl ∧ ApV vd vl ∧ ∀ i, i < H0.heap.size → ApO vl i
  nums : RowC 3 H vn n.nums.length (n.nums.map (Value.int .i64))
  sides : RowC 3 H vs n.hosts.toNat (List.replicate n.hosts.toNat (.int .i64 0))
  down : RowC 4 H vd n.hosts.toNat (List.replicate n.hosts.toNat (.bool false))
  keep : Keep H0 H
  size : H0.heap.size ≤ H.heap.size
set_option maxRecDepth 100000 in
theorem new18 {H : World} (o : Option (List Int)) (hlen : (o.getD []).length < 2 ^ 62) (h : Int) {Q : Value → World → Prop}
    (hq : ∀ H' b m vn vl vs vd, eNew h (o.getD []) = 0 → H.heap.size ≤ b → RSt H' b (netZ h (o.getD []) ⟨1, 0, 0, 0⟩) m vn vl vs vd (.slice none 0 0) → Keep H H' → H.heap.size ≤ H'.heap.size → (∀ v ∈ [vn, vl, vs, vd, .slice none 0 0], ∀ i, i < H.heap.size → ApO v i) → Q (.tuple #[p0 b, .int .i64 0]) H')
    (hz : eNew h (o.getD []) ≠ 0 → Q (.tuple #[.pointer none, .int .i64 (eNew h (o.getD []))]) H) : FW X 18 #[.int .i64 h, sidesV o] H Q := by
  have rd : Rd H (sidesV o) (o.getD []) := Rd.slV
  have hvlen := fun H0 => rd.len H0
  have happ := app_nil29 (H := H) o
  have hvi : srcOk H (sidesV o) = true := by cases o <;> rfl
  generalize sidesV o = v at *
  generalize o.getD [] = l at *
  refine FW.walk (by simp [X, sp17_no]) Try.func18 Try.ntmps18 rfl (by simp) ?_
  by_cases a1 : h < 1
  · have e : eNew h l = 7 := by simp [eNew, a1]
    rw [e] at hz
    simp [a1]
    exact hz (by decide)
  by_cases a2 : 16 < h
  · have e : eNew h l = 7 := by simp [eNew, a2]
    rw [e] at hz
    simp [a1, a2]
    exact hz (by decide)
  simp [a1, a2, hvlen]
  refine CE.range (m := l.length) (fun k e H' => H' = H ∧ lk e 0 = .int .i64 h ∧ lk e 1 = v ∧ lk e 15 = v ∧ lk e 4 = .pointer none ∧ lk e 5 = .int .i64 0 ∧ (l.take k).any (fun x => decide (x < 0)) = false) ?_ (by omega) ?_ ?_ ?_
  · decide
  · simp
  · rintro k e H' hk q1 q2 ⟨rfl, e0, e1, e15, e4, e5, hno⟩
    obtain ⟨a, c1, c2⟩ := rd.get k hk
    have ht := any_take hk hno
    rw [ht]
    by_cases hx : l[k] < 0
    · have e : eNew h l = 7 := by unfold eNew; rw [if_pos (.inr (.inr (any_at hk (decide_eq_true hx))))]
      rw [e] at hz
      simp [q1, q2, e15, c1, c2, hx]
      exact hz (by decide)
    · simp [q1, q2, e0, e1, e4, e5, e15, c1, c2, hx]
  rintro e H' q1 q2 ⟨rfl, e0, e1, e15, e4, e5, hno⟩
  rw [List.take_length] at hno
  by_cases hbig : 10000 < l.length
  · have e : eNew h l = 4 := by unfold eNew; rw [hno, if_neg (by simp; omega), if_pos hbig]
    rw [e] at hz
    have hb' : (10000 : Int) < l.length := by omega
    simp [e1, hvlen, hb']
    exact hz (by decide)
  have he : eNew h l = 0 := by unfold eNew; rw [hno, if_neg (by simp; omega), if_neg hbig]
  rw [he] at hq
  have hb' : ¬ (10000 : Int) < l.length := by omega
  simp [e1, hvlen, hb']
  obtain ⟨vn, H1, ap, hrow, hk, hz1, hf⟩ := happ (by omega)
  obtain ⟨o1, o2⟩ := hrow.one
  have h0 : (0 : Int) ≤ h := by omega
  have h32 : h ≤ 4294967296 := by omega
  refine WP.new (by decide +kernel) (by decide +kernel) ?_
  simp [e0, e1, ap, makeSliceX, szO, h0, h32, zerosX, buildQ, fillX, o1, o2, overL, newOkV, nilSl, hvi]
  have hww : IntKind.i64.wrap (h * h) = h * h := by
    have := Int.mul_le_mul (show h ≤ 16 by omega) (show h ≤ 16 by omega) (by omega) (by decide)
    have := Int.mul_nonneg h0 h0
    exact wrap64 (by omega) (by omega)
  have hnn0 : 0 ≤ h * h := Int.mul_nonneg h0 h0
  have hnn1 : h * h ≤ 16 * 16 := Int.mul_le_mul (by omega) (by omega) (by omega) (by decide)
  generalize hvs : (Value.slice (some ⟨H1.heap.size, 0, none⟩) h.toNat h.toNat) = vs
  generalize hvd : (Value.slice (some ⟨H1.heap.size + 1, 0, none⟩) h.toNat h.toNat) = vd
  have gS : getO (pushObj (pushObj (pushObj H1 (.cells (Array.replicate h.toNat (.int .i64 0)) 3 (0, 0))) (.cells (Array.replicate h.toNat (.bool false)) 4 (0, 0))) (netR (netZ h l dLk) vn (.slice none 0 0) vs vd (.slice none 0 0))) H1.heap.size = some (.cells (Array.replicate h.toNat (.int .i64 0)) 3 (0, 0)) := by
    rw [get_push, if_neg (by simp; omega), get_push, if_neg (by simp), get_push, if_pos rfl]
  have gD : getO (pushObj (pushObj (pushObj H1 (.cells (Array.replicate h.toNat (.int .i64 0)) 3 (0, 0))) (.cells (Array.replicate h.toNat (.bool false)) 4 (0, 0))) (netR (netZ h l dLk) vn (.slice none 0 0) vs vd (.slice none 0 0))) (H1.heap.size + 1) = some (.cells (Array.replicate h.toNat (.bool false)) 4 (0, 0)) := by
    rw [get_push, if_neg (by simp), get_push, if_pos (by simp)]
  have gN : getO (pushObj (pushObj (pushObj H1 (.cells (Array.replicate h.toNat (.int .i64 0)) 3 (0, 0))) (.cells (Array.replicate h.toNat (.bool false)) 4 (0, 0))) (netR (netZ h l dLk) vn (.slice none 0 0) vs vd (.slice none 0 0))) (H1.heap.size + 1 + 1) = some (netR (netZ h l dLk) vn (.slice none 0 0) vs vd (.slice none 0 0)) := by
    rw [get_push, if_pos (by simp)]
  have k3 : Keep H1 (pushObj (pushObj (pushObj H1 (.cells (Array.replicate h.toNat (.int .i64 0)) 3 (0, 0))) (.cells (Array.replicate h.toNat (.bool false)) 4 (0, 0))) (netR (netZ h l dLk) vn (.slice none 0 0) vs vd (.slice none 0 0))) := fun j x hj => by
    have := getO_lt hj
    rw [get_push, if_neg (by simp; omega), get_push, if_neg (by simp; omega), get_push, if_neg (by omega)]; exact hj
  have z3 : (pushObj (pushObj (pushObj H1 (.cells (Array.replicate h.toNat (.int .i64 0)) 3 (0, 0))) (.cells (Array.replicate h.toNat (.bool false)) 4 (0, 0))) (netR (netZ h l dLk) vn (.slice none 0 0) vs vd (.slice none 0 0))).heap.size = H1.heap.size + 3 := by simp
  change getO (pushObj (pushObj (pushObj H1 (.cells (Array.replicate h.toNat (.int .i64 0)) 3 (0, 0))) (.cells (Array.replicate h.toNat (.bool false)) 4 (0, 0))) (.cells #[.int .i64 h, .int .i64 0, vn, .int .i64 0, .slice none 0 0, vs, vd, .slice none 0 0, .int .i64 0, .int .i64 0, .int .i64 0, .int .i64 0] 90 (0, 0))) _ = _ at gS gD gN
  change Keep H1 (pushObj (pushObj (pushObj H1 (.cells (Array.replicate h.toNat (.int .i64 0)) 3 (0, 0))) (.cells (Array.replicate h.toNat (.bool false)) 4 (0, 0))) (.cells #[.int .i64 h, .int .i64 0, vn, .int .i64 0, .slice none 0 0, vs, vd, .slice none 0 0, .int .i64 0, .int .i64 0, .int .i64 0, .int .i64 0] 90 (0, 0))) at k3
  change (pushObj (pushObj (pushObj H1 (.cells (Array.replicate h.toNat (.int .i64 0)) 3 (0, 0))) (.cells (Array.replicate h.toNat (.bool false)) 4 (0, 0))) (.cells #[.int .i64 h, .int .i64 0, vn, .int .i64 0, .slice none 0 0, vs, vd, .slice none 0 0, .int .i64 0, .int .i64 0, .int .i64 0, .int .i64 0] 90 (0, 0))).heap.size = _ at z3
  generalize pushObj (pushObj (pushObj H1 (.cells (Array.replicate h.toNat (.int .i64 0)) 3 (0, 0))) (.cells (Array.replicate h.toNat (.bool false)) 4 (0, 0))) (.cells #[.int .i64 h, .int .i64 0, vn, .int .i64 0, .slice none 0 0, vs, vd, .slice none 0 0, .int .i64 0, .int .i64 0, .int .i64 0, .int .i64 0] 90 (0, 0)) = H2 at *
  have gS := deadN_keep (d := H1.heap.size + 1 + 1 + 1 - H'.heap.size) _ _ gS
  have gD := deadN_keep (d := H1.heap.size + 1 + 1 + 1 - H'.heap.size) _ _ gD
  have gN := deadN_keep (d := H1.heap.size + 1 + 1 + 1 - H'.heap.size) _ _ gN
  have k3 : Keep H1 (deadN (H1.heap.size + 1 + 1 + 1 - H'.heap.size) H2) := fun j x hj => deadN_keep _ _ (k3 _ _ hj)
  have z3' := deadN_size (H1.heap.size + 1 + 1 + 1 - H'.heap.size) H2
  generalize deadN (H1.heap.size + 1 + 1 + 1 - H'.heap.size) H2 = H3 at *
  have apn : ∀ j, H1.heap.size ≤ j → ApO vn j := fun j hj => hrow.ap hj
  have aps : ∀ j, j ≠ H1.heap.size → ApO vs j := fun j hj r o k c e => by rw [← hvs] at e; cases e; exact hj
  have apd : ∀ j, j ≠ H1.heap.size + 1 → ApO vd j := fun j hj r o k c e => by rw [← hvd] at e; cases e; exact hj
  have hnb : H1.heap.size + 1 + 1 < H3.heap.size := getO_lt gN
  generalize hnbe : H1.heap.size + 1 + 1 = nb at *
  have hzT : ((h * h).toNat : Int) = h * h := Int.toNat_of_nonneg hnn0
  have rS : RowC 3 H3 vs h.toNat (List.replicate h.toNat (.int .i64 0)) := .inr ⟨H1.heap.size, h.toNat, (0, 0), hvs.symm, by rw [List.toArray_replicate]; exact gS, rfl⟩
  have rD : RowC 4 H3 vd h.toNat (List.replicate h.toNat (.bool false)) := .inr ⟨H1.heap.size + 1, h.toNat, (0, 0), hvd.symm, by rw [List.toArray_replicate]; exact gD, rfl⟩
  have rN : RowC 3 H3 vn l.length (l.map (Value.int .i64)) := hrow.imp fun r o m c e x hx => k3 _ _ hx
  refine CE.range (m := (h * h).toNat) (fun k e H9 => NwR H' nb (netZ h l dLk) vn vs vd k e H9) ?_ (by omega) ?_ ?_ ?_
  · decide
  · exact ⟨by simp, by simp [hww, hzT], by simp, ⟨.slice none 0 0, gN, .nil, .nil, .nil_r, .nil_r, .nil_r, fun i hi => .nil⟩, rN, rS, rD, fun j x hj => k3 _ _ (hk _ _ hj), by omega⟩
  · rintro k e H9 hkk q1 q2 ⟨e8, ⟨vl, g9, acc, ab, an, as', ad, af⟩, nu, si, dw, kp, sz⟩
    obtain ⟨vl', H10, b1, b2, b3, b4, b5⟩ := app_lk acc (by rw [List.length_replicate]; omega) dLk
    have hb9 := getO_lt g9
    have hN10 := b3 _ _ g9 ab
    have hb10 := getO_lt hN10
    obtain ⟨r, hvl', _⟩ := b2.row (by simp)
    subst hvl'
    have b1' : builtinX Try.prog .append #[87, 87] #[vl, .slice (some { block := H9.heap.size, off := 0 }) 1 1] (pushObj H9 (.cells #[.int .i64 1, .int .i64 0, .int .i64 0, .int .i64 0] 32 (0, 0))) = some (.value (.slice (some ⟨r, 0, none⟩) (List.replicate k dLk ++ [dLk]).length (List.replicate k dLk ++ [dLk]).length), H10) := b1
    have hrep : List.replicate k dLk ++ [dLk] = List.replicate (k + 1) dLk := List.replicate_succ'.symm
    rw [hrep] at b1' b2 b5
    have wk : IntKind.i64.wrap ((k : Int) + 1) = ((k + 1 : Nat) : Int) := by rw [wrap64 (by omega) (by omega)]; omega
    generalize hvl' : (Value.slice (some ⟨r, 0, none⟩) (List.replicate (k + 1) dLk).length (List.replicate (k + 1) dLk).length) = vl' at *
    have hvc : vl'.cells = #[vl'] ∧ vl'.oneCell' = true := by rw [← hvl']; exact ⟨rfl, rfl⟩
    obtain ⟨c1, c2⟩ := hvc
    clear hvl'
    simp [q1, q2, e8, g9, buildQ, fillX, buildSliceX, inOrder, catCells, szO, b1', hN10, hb10, c1, c2, overL, wk]
    have kr : ∀ v, ApO v nb → ApV v vl → ∀ r o m c, v = .slice (some ⟨r, o, none⟩) m c → ∀ x, getO H9 r = some x → getO (setO H10 nb (netR (netZ h l dLk) vn vl' vs vd (.slice none 0 0))) r = some x := fun v h1 h2 r o m c e x hx => by
      rw [get_set, if_neg (fun e' => h1 r o m c e e'.symm)]
      exact b3 _ _ hx (h2 r o m c e)
    have hnbn := apn nb (by omega)
    have hnbs := aps nb (by omega)
    have hnbd := apd nb (by omega)
    refine ⟨by simp [e8], ⟨vl', by rw [get_set, if_pos rfl, if_pos hb10], AccE.set b2 _ (apo_apart (b5 nb ab hb9)), b5 nb ab hb9, fun r o m c e => b5 r (an r o m c e) (nu.lt e), fun r o m c e => b5 r (as' r o m c e) (si.lt e), fun r o m c e => b5 r (ad r o m c e) (dw.lt e), fun i hi => b5 i (af i hi) (by omega)⟩,
      nu.imp (kr vn hnbn an), si.imp (kr vs hnbs as'), dw.imp (kr vd hnbd ad), fun j x hj => ?_, by simp; omega⟩
    have := getO_lt hj
    rw [get_set, if_neg (by omega)]
    exact b3 _ _ (kp _ _ hj) (af j this)
  · rintro e H9 q1 q2 ⟨e8, ⟨vl, g9, acc, ab, an, as', ad, af⟩, nu, si, dw, kp, sz⟩
    simp [e8]
    have hnbn := apn nb (by omega)
    have hnbs := aps nb (by omega)
    have hnbd := apd nb (by omega)
    have hz0 : ((List.replicate h.toNat (0 : Int)).map (Value.int .i64)) = List.replicate h.toNat (.int .i64 0) := List.map_replicate
    have hz1 : ((List.replicate h.toNat false).map Value.bool) = List.replicate h.toNat (.bool false) := List.map_replicate
    have hT : (h.toNat : Int) = h := Int.toNat_of_nonneg h0
    have nlt : ∀ r o m c, vn = .slice (some ⟨r, o, none⟩) m c → r < H1.heap.size := fun r o m c e => hrow.lt e
    refine hq H9 nb ⟨List.replicate (h * h).toNat dLk, List.replicate h.toNat 0, List.replicate h.toNat false, []⟩ vn vl vs vd rfl (by omega)
      ⟨g9, nu, acc_rowC acc, by rw [hz0, List.length_replicate]; exact si, by rw [hz1, List.length_replicate]; exact dw, AccE.nil, by rw [List.length_replicate]; exact hzT, fun x y hxy => ?_, by rw [List.length_replicate]; exact hT, fun x x0 x1 => ?_, by rw [List.length_replicate]; exact hT, fun x x0 x1 => ?_, .refl _, ?_, ?_⟩ kp sz ?_
    · obtain ⟨x0, x1, y0, y1⟩ := hxy
      have x1 : x < h := x1
      have y1 : y < h := y1
      have i1 : x * h ≤ (h - 1) * h := Int.mul_le_mul_of_nonneg_right (by omega) h0
      have i2 : (h - 1) * h = h * h - h := by rw [Int.sub_mul, Int.one_mul]
      have i3 : 0 ≤ x * h := Int.mul_nonneg x0 h0
      show (List.replicate (h * h).toNat dLk)[(x * h + y).toNat]? = _
      rw [List.getElem?_replicate, if_pos (by omega)]
      unfold lnk
      simp only [netZ, List.getD_eq_getElem?_getD, List.getElem?_replicate]
      split <;> rfl
    · have x1 : x < h := x1
      show (List.replicate h.toNat (0 : Int))[x.toNat]? = _
      rw [List.getElem?_replicate, if_pos (by omega)]
      unfold sid
      simp only [netZ, List.getD_eq_getElem?_getD, List.getElem?_replicate]
      split <;> rfl
    · have x1 : x < h := x1
      show (List.replicate h.toNat false)[x.toNat]? = _
      rw [List.getElem?_replicate, if_pos (by omega)]
      unfold dwn
      simp only [netZ, List.getD_eq_getElem?_getD, List.getElem?_replicate]
      split <;> rfl
    · simp only [List.mem_cons, List.not_mem_nil, or_false, forall_eq_or_imp, forall_eq]
      exact ⟨hnbn, ab, hnbs, hnbd, .nil⟩
    · simp only [List.pairwise_cons, List.mem_cons, List.not_mem_nil, or_false, forall_eq_or_imp, forall_eq, false_implies, implies_true, and_true]
      refine ⟨⟨an, fun r o m c e => aps r (by have := nlt r o m c e; omega), fun r o m c e => apd r (by have := nlt r o m c e; omega), .nil_r⟩, ⟨as'.symm, ad.symm, .nil_r⟩, ⟨fun r o m c e => apd r ?_, .nil_r⟩, .nil_r, trivial, .nil⟩
      rw [← hvs] at e; cases e; omega
    · simp only [List.mem_cons, List.not_mem_nil, or_false, forall_eq_or_imp, forall_eq]
      exact ⟨fun i hi => hf i hi, fun i hi => af i hi, fun i hi => aps i (by omega), fun i hi => apd i (by omega), fun i hi => .nil⟩
end Go.Proofs.Ytmmmdmandocbhaa
end

section
set_option linter.unusedVariables false
set_option linter.unusedSimpArgs false
namespace Go.Proofs.Ytmmmdmandocbhaa
open Go Go.Proofs.Ytmmmdmandocbhaa.Den
theorem plainW1 (x : Fl) : plain 1 (encW x) = true := by simp [plain, constOk1]
theorem plainW (x : Fl) : plain deep (encW x) = true := plain_of (d := 1) (plainW1 x) (by decide)
set_option maxRecDepth 100000 in
theorem before63 (H : World) (x y : Fl) (Q : Value → World → Prop) : FW X 63 #[encW x, encW y] H Q = Q (.bool (decide (kLt x y))) H := by
  refine FW.aloneEq ?_ Try.func63 Try.ntmps63 rfl (by simp) ?_ H Q
  · simp only [X, plainW]; simp [plainW]
  have ht : ∀ z : Fl, (if z.twice = true then (1 : Int) else 0) = tw z := fun z => rfl
  by_cases h1 : x.time = y.time
  · have d1 := decide_eq_true h1
    by_cases h2 : x.id = y.id
    · have d2 := decide_eq_true h2
      have e : decide (kLt x y) = decide (tw x < tw y) := decide_eq_decide.2 (by unfold kLt; omega)
      rw [e]
      simp [d1, d2, ht]
    · have d2 := decide_eq_false h2
      have e : decide (kLt x y) = decide (x.id < y.id) := decide_eq_decide.2 (by unfold kLt; omega)
      rw [e]
      simp [d1, d2]
  · have d1 := decide_eq_false h1
    have e : decide (kLt x y) = decide (x.time < y.time) := decide_eq_decide.2 (by unfold kLt; omega)
    rw [e]
    simp [d1]
theorem kLt_irr (x : Fl) : ¬ kLt x x := by unfold kLt; omega
theorem kLt_tr {x y z : Fl} (h : kLt x y) (g : kLt y z) : kLt x z := by unfold kLt at *; omega
theorem accw_get {H : World} {v : Value} {l : List Fl} (h : AccE encW 6 92 H v l) {k : Nat} (hk : k < l.length) : ∃ r : Nat, indexAddrQ Try.prog 88 v (.int .i64 k) = some (.pointer (some ⟨r, k * 6, none⟩)) ∧ loadX Try.prog 92 (.pointer (some ⟨r, k * 6, none⟩)) H = some (.value (encW l[k]), H) ∧ loadX Try.prog 3 (.pointer (some ⟨r, k * 6 + 4, none⟩)) H = some (.value (.int .i64 l[k].time), H) := by
  obtain ⟨r, rfl, hr⟩ := h.row (by omega)
  have h1 := flatE_row encW_size l hk
  have h2 := flatE_le encW_size l hk
  have h3 := flatE_get encW_size l hk (j := 4) (by decide)
  refine ⟨r, by simp [idxS, hk], ?_, ?_⟩
  · simp [hr]
    rw [if_pos h2]
    have e : List.take 6 (List.drop (k * 6) (flatE encW l)) = (encW l[k]).cells.toList := by
      have := congrArg Array.toList h1
      simpa using this
    rw [e]
    rfl
  · simp [hr, h3]
/-- While the first is sought. -/
structure FsI (H0 : World) (b : Nat) (vu : Value) (u : List Fl) (V : List Value) (k : Nat) (e : Env) (H : World) : Prop where
  e0 : lk e 0 = p0 b
  e9 : lk e 9 = vu
  kp : Keep H0 H
  sz : H0.heap.size ≤ H.heap.size
  best : (k = 0 ∧ lk e 3 = .int .i64 (-1)) ∨ ∃ i : Nat, i < k ∧ lk e 3 = .int .i64 i ∧ ∃ hi : i < u.length, ∀ j (hj : j < u.length), j < k → ¬ kLt u[j] u[i]
set_option maxRecDepth 100000 in
theorem first47 {H : World} {b : Nat} {n : NN} {m : RL} {vn vl vs vd vu : Value} (st : RSt H b n m vn vl vs vd vu) (hlu : m.und.length < 2 ^ 40) {Q : Value → World → Prop}
    (h0 : ∀ H', m.und = [] → Keep H H' → H.heap.size ≤ H'.heap.size → Q (.int .i64 (-1)) H')
    (hq : ∀ H' (i : Nat) (hi : i < m.und.length), (∀ j (hj : j < m.und.length), ¬ kLt m.und[j] m.und[i]) → Keep H H' → H.heap.size ≤ H'.heap.size → Q (.int .i64 i) H') : FW X 47 #[p0 b] H Q := by
  refine FW.walk (by simp [X, sp17_no]) Try.func47 Try.ntmps47 rfl (by simp) ?_
  have hn := st.net
  have hlen := fun H0 => accw_len (H0 := H0) st.und
  have hund := st.und
  simp [hn, hlen]
  refine CE.range (m := m.und.length) (fun k e H' => FsI H b vu m.und [vn, vl, vs, vd, vu] k e H') ?_ (by omega) ?_ ?_ ?_
  · decide
  · exact ⟨by simp, by simp, by simp, by simp, fun _ _ h => h, Nat.le_refl _, .inl ⟨rfl, by simp⟩⟩
  · rintro k e H' hk q1 q2 ⟨e0, e9, kp, sz, best⟩
    have st' := st.keep kp
    obtain ⟨r, a1, a2, a3⟩ := accw_get st'.und hk
    have st1 := st'.push (.cells (cellsW m.und[k]) 92 (0, 0))
    have kp1 : Keep H (pushObj H' (.cells (cellsW m.und[k]) 92 (0, 0))) := fun j o hj => by
      have h := kp _ _ hj
      have := getO_lt h
      rw [get_push, if_neg (by omega)]; exact h
    have g5 : getO (pushObj H' (.cells (cellsW m.und[k]) 92 (0, 0))) H'.heap.size = some (.cells (cellsW m.und[k]) 92 (0, 0)) := by rw [get_push, if_pos rfl]
    have sz1 : H.heap.size ≤ (pushObj H' (.cells (cellsW m.und[k]) 92 (0, 0))).heap.size := by simp; omega
    have hn1 := st1.net
    simp [q1, q2, e9, a1, a2, allocX, szO, overL]
    change getO (pushObj H' (.cells #[.int .i64 m.und[k].id, .int .i64 (if m.und[k].twice = true then 1 else 0), .int .i64 m.und[k].frm, .int .i64 m.und[k].to, .int .i64 m.und[k].time, .string (sB m.und[k].body)] 92 (0, 0))) _ = some (.cells #[.int .i64 m.und[k].id, .int .i64 (if m.und[k].twice = true then 1 else 0), .int .i64 m.und[k].frm, .int .i64 m.und[k].to, .int .i64 m.und[k].time, .string (sB m.und[k].body)] 92 (0, 0)) at g5
    change Keep H (pushObj H' (.cells #[.int .i64 m.und[k].id, .int .i64 (if m.und[k].twice = true then 1 else 0), .int .i64 m.und[k].frm, .int .i64 m.und[k].to, .int .i64 m.und[k].time, .string (sB m.und[k].body)] 92 (0, 0))) at kp1
    change H.heap.size ≤ (pushObj H' (.cells #[.int .i64 m.und[k].id, .int .i64 (if m.und[k].twice = true then 1 else 0), .int .i64 m.und[k].frm, .int .i64 m.und[k].to, .int .i64 m.und[k].time, .string (sB m.und[k].body)] 92 (0, 0))).heap.size at sz1
    change getO (pushObj H' (.cells #[.int .i64 m.und[k].id, .int .i64 (if m.und[k].twice = true then 1 else 0), .int .i64 m.und[k].frm, .int .i64 m.und[k].to, .int .i64 m.und[k].time, .string (sB m.und[k].body)] 92 (0, 0))) b = _ at hn1
    change RSt (pushObj H' (.cells #[.int .i64 m.und[k].id, .int .i64 (if m.und[k].twice = true then 1 else 0), .int .i64 m.und[k].frm, .int .i64 m.und[k].to, .int .i64 m.und[k].time, .string (sB m.und[k].body)] 92 (0, 0))) b n m vn vl vs vd vu at st1
    generalize hH1 : pushObj H' (.cells #[.int .i64 m.und[k].id, .int .i64 (if m.und[k].twice = true then 1 else 0), .int .i64 m.und[k].frm, .int .i64 m.und[k].to, .int .i64 m.und[k].time, .string (sB m.und[k].body)] 92 (0, 0)) = H1 at *
    refine WP.draw0 (by decide +kernel) (by decide +kernel) ?_
    rcases best with ⟨rfl, e3⟩ | ⟨i, hik, e3, hi, hmin⟩
    · simp [e3]
      exact ⟨q1, q2, by simp [e0], by simp [e9], kp1, sz1, .inr ⟨0, by omega, by simp, hk, fun j hj hj1 => by
        have : j = 0 := by omega
        subst this; exact kLt_irr _⟩⟩
    · have hi0 : ¬ (i : Int) < 0 := by omega
      obtain ⟨r', b1, b2, b3⟩ := accw_get st1.und hi
      have bf := fun Q => before63 H1 m.und[k] m.und[i] Q
      by_cases hlt : kLt m.und[k] m.und[i]
      · have hd := decide_eq_true hlt
        simp [e3, e0, hi0, g5, hn1, b1, b2]
        refine (bf _).mpr ?_
        simp [hd]
        exact ⟨q1, q2, by simp [e0], by simp [e9], kp1, sz1, .inr ⟨k, by omega, by simp, hk, fun j hj hj1 h => by
          by_cases ej : j = k
          · subst ej; exact kLt_irr _ h
          · exact hmin j hj (by omega) (kLt_tr h hlt)⟩⟩
      · have hd := decide_eq_false hlt
        simp [e3, e0, hi0, g5, hn1, b1, b2]
        refine (bf _).mpr ?_
        simp [hd]
        exact ⟨q1, q2, by simp [e0], by simp [e9], kp1, sz1, .inr ⟨i, by omega, by simp [e3], hi, fun j hj hj1 => by
          by_cases ej : j = k
          · subst ej; exact hlt
          · exact hmin j hj (by omega)⟩⟩
  · rintro e H' q1 q2 ⟨e0, e9, kp, sz, best⟩
    rcases best with ⟨h, e3⟩ | ⟨i, hik, e3, hi, hmin⟩
    · simp [e3]
      exact h0 _ (List.length_eq_zero_iff.1 h) kp sz
    · simp [e3]
      exact hq _ i hi (fun j hj => hmin j hj hj) kp sz
end Go.Proofs.Ytmmmdmandocbhaa
end

section
set_option linter.unusedVariables false
set_option linter.unusedSimpArgs false
namespace Go.Proofs.Ytmmmdmandocbhaa
open Go Go.Proofs.Ytmmmdmandocbhaa.Den
theorem min_head {fl u : List Fl} (so : Sorted fl) (pw : fl.Pairwise before) (pm : u.Perm fl) {i : Nat} (hi : i < u.length) (hmin : ∀ j (hj : j < u.length), ¬ kLt u[j] u[i]) : ∃ rest, fl = u[i] :: rest := by
  cases fl with
  | nil =>
    have := pm.length_eq ▸ hi
    simp at this
  | cons f rest =>
    have hmem : u[i] ∈ f :: rest := pm.subset (List.getElem_mem hi)
    rcases List.mem_cons.1 hmem with h | h
    · exact ⟨rest, by rw [h]⟩
    · exfalso
      have h1 := (List.pairwise_cons.1 so).1 _ h
      have h2 := (List.pairwise_cons.1 pw).1 _ h
      obtain ⟨j, hj, hf⟩ := List.getElem_of_mem (pm.symm.subset (List.mem_cons_self (a := f) (l := rest)))
      have h3 := hmin j hj
      rw [hf] at h3
      have hid : f.id = u[i].id := by unfold kLt at h1 h3; omega
      obtain ⟨t1, t2⟩ := h2 hid
      have e1 : tw f = 0 := by unfold tw; rw [t1]; rfl
      have e2 : tw u[i] = 1 := by unfold tw; rw [t2]; rfl
      unfold kLt at h1 h3
      omega
set_option maxRecDepth 100000 in
theorem next25 {H : World} {b : Nat} {n : NN} {m : RL} {vn vl vs vd vu : Value} (st : RSt H b n m vn vl vs vd vu) {T : Nat} (iv : Inv n T) (pw : n.fl.Pairwise before) {Q : Value → World → Prop}
    (hq : ∀ H', RSt H' b n m vn vl vs vd vu → Keep H H' → H.heap.size ≤ H'.heap.size → Q (.tuple #[.int .i64 (tNext n), .int .i64 (eNext n)]) H') : FW X 25 #[p0 b] H Q := by
  refine FW.walk (by simp [X, sp17_no]) Try.func25 Try.ntmps25 rfl (by simp) ?_
  have hlu : m.und.length < 2 ^ 40 := by rw [st.pm.length_eq]; have := iv.ok.len; omega
  simp
  refine first47 st hlu (fun H1 hnil k1 z1 => ?_) (fun H1 i hi hmin k1 z1 => ?_)
  · have hfl : n.fl = [] := by have := st.pm; rw [hnil] at this; exact List.nil_perm.1 this
    have e1 : tNext n = 0 := by unfold tNext; rw [hfl]
    have e2 : eNext n = 8 := by unfold eNext; rw [hfl]
    rw [e1, e2] at hq
    simp
    exact hq _ (st.keep k1) k1 z1
  · obtain ⟨rest, hfl⟩ := min_head iv.ok.so pw st.pm hi hmin
    have e1 : tNext n = m.und[i].time := by unfold tNext; rw [hfl]
    have e2 : eNext n = 0 := by unfold eNext; rw [hfl]
    rw [e1, e2] at hq
    have st1 := st.keep k1
    obtain ⟨r, a1, a2, a3⟩ := accw_get st1.und hi
    have hn := st1.net
    have hi0 : ¬ (i : Int) < 0 := by omega
    simp [hi0, hn, a1, a3]
    exact hq _ st1 k1 z1
/-! ### Pass -/
/-- What was passed so far. -/
def pR (n : NN) (time : Int) (k : Nat) : NN := pK { n with now := time } n.fl k
theorem arrv_now (n : NN) (t : Int) (f : Fl) : arrv { n with now := t } f = arrv n f := rfl
structure PsI (H0 : World) (b : Nat) (n : NN) (time : Int) (ml : List Lk) (ms : List Int) (md : List Bool) (vn vl vs vd vu0 : Value) (d : Nat) (e : Env) (H : World) : Prop where
  e0 : lk e 0 = p0 b
  e1 : lk e 1 = .int .i64 time
  ex : ∃ (k : Nat) (u : List Fl) (vu vo : Value), d = n.fl.length - k ∧ k ≤ n.fl.length ∧ RSt H b (pR n time k) ⟨ml, ms, md, u⟩ vn vl vs vd vu ∧ lk e 6 = vo ∧ AccP H vo ((n.fl.take k).filter (arrv n)) ∧ (∀ j, j < H0.heap.size → ApO vo j) ∧ ApV vo vu ∧ (∀ j (hj : j < n.fl.length), j < k → n.fl[j].time ≤ time) ∧
    (∀ j o, getO H0 j = some o → j ≠ b → getO H j = some o) ∧ H0.heap.size ≤ H.heap.size ∧ (vu = vu0 ∨ ∀ j, j < H0.heap.size → ApO vu j)
theorem app_pk {H : World} {v : Value} {xs : List Fl} (h : AccP H v xs) (hl : xs.length ≤ 2 ^ 20) (x : Fl) : ∃ v' H', builtinX Try.prog .append #[30, 30] #[v, .slice (some ⟨H.heap.size, 0, none⟩) 1 1] (pushObj H (.cells (cellsP x) 41 (0, 0))) = some (.value v', H') ∧
    AccP H' v' (xs ++ [x]) ∧ (∀ i o, getO H i = some o → ApO v i → getO H' i = some o) ∧ H.heap.size ≤ H'.heap.size ∧ (∀ i, ApO v i → i < H.heap.size → ApO v' i) := by
  obtain ⟨v', H', h1, h2, h3, h4, h5⟩ := AccE.add Try.prog (t1 := 30) (t2 := 30) (inf := Try.t41) (z := .agg #[.int .i64 0, .int .i64 0, .int .i64 0, .int .i64 0, .string (sB [])]) encP_size encP_one h (by simp) (by simp) (by simp) (by simp) rfl rfl (by decide) (by decide) (by decide) (by have : Try.t41.bytes = 48 := rfl; rw [this]; omega) x (fr := (0, 0))
  exact ⟨v', H', h1, h2, fun i o ho ha => h3 i o ho (apo_apart ha), h4, fun i ha hi => acc_apo h2 (h5 i (apo_apart ha) hi)⟩
theorem app_w {H : World} {v : Value} {xs : List Fl} (h : AccE encW 6 92 H v xs) (hl : xs.length ≤ 2 ^ 20) (x : Fl) : ∃ v' H', builtinX Try.prog .append #[88, 88] #[v, .slice (some ⟨H.heap.size, 0, none⟩) 1 1] (pushObj H (.cells (cellsW x) 92 (0, 0))) = some (.value v', H') ∧
    AccE encW 6 92 H' v' (xs ++ [x]) ∧ (∀ i o, getO H i = some o → ApO v i → getO H' i = some o) ∧ H.heap.size ≤ H'.heap.size ∧ (∀ i, ApO v i → i < H.heap.size → ApO v' i) := by
  obtain ⟨v', H', h1, h2, h3, h4, h5⟩ := AccE.add Try.prog (t1 := 88) (t2 := 88) (inf := Try.t92) (z := .agg #[.int .i64 0, .int .i64 0, .int .i64 0, .int .i64 0, .int .i64 0, .string (sB [])]) encW_size encW_one h (by simp) (by simp) (by simp) (by simp) rfl rfl (by decide) (by decide) (by decide) (by have : Try.t92.bytes = 56 := rfl; rw [this]; omega) x (fr := (0, 0))
  exact ⟨v', H', h1, h2, fun i o ho ha => h3 i o ho (apo_apart ha), h4, fun i ha hi => acc_apo h2 (h5 i (apo_apart ha) hi)⟩
/-- All but one, so far. -/
def lf (u : List Fl) (i j : Nat) : List Fl := u.take (min i j) ++ (u.drop (i + 1)).take (j - (i + 1))
theorem lf_0 (u : List Fl) (i : Nat) : lf u i 0 = [] := by simp [lf]
theorem lf_eq {u : List Fl} {i : Nat} : lf u i (i + 1) = lf u i i := by simp [lf]
theorem lf_ne {u : List Fl} {i j : Nat} (hj : j < u.length) (h : j ≠ i) : lf u i (j + 1) = lf u i j ++ [u[j]] := by
  unfold lf
  by_cases hlt : j < i
  · rw [Nat.min_eq_right (by omega), Nat.min_eq_right (by omega), show j + 1 - (i + 1) = 0 by omega, show j - (i + 1) = 0 by omega]
    rw [List.take_succ_eq_append_getElem hj, List.take_zero, List.append_nil, List.append_nil]
  · rw [Nat.min_eq_left (by omega), Nat.min_eq_left (by omega), show j + 1 - (i + 1) = (j - (i + 1)) + 1 by omega, List.append_assoc]
    congr 1
    have hd : j - (i + 1) < (u.drop (i + 1)).length := by rw [List.length_drop]; omega
    rw [List.take_succ_eq_append_getElem hd, List.getElem_drop]
    congr 2
    congr 1
    omega
theorem lf_len (u : List Fl) (i : Nat) (hi : i < u.length) : lf u i u.length = u.take i ++ u.drop (i + 1) := by
  unfold lf
  rw [Nat.min_eq_left (by omega)]
  congr 1
  exact List.take_of_length_le (by rw [List.length_drop]; exact Nat.le_refl _)
theorem lf_le (u : List Fl) (i j : Nat) : (lf u i j).length ≤ u.length + u.length := by
  unfold lf
  rw [List.length_append, List.length_take, List.length_take, List.length_drop]
  omega
theorem lf_perm {u rest : List Fl} {i : Nat} (hi : i < u.length) (h : u.Perm (u[i] :: rest)) : (lf u i u.length).Perm rest := by
  rw [lf_len u i hi]
  have h1 : u.Perm (u[i] :: (u.take i ++ u.drop (i + 1))) := by
    conv => lhs; rw [← List.take_append_drop i u, List.drop_eq_getElem_cons hi]
    exact List.perm_middle
  exact (List.perm_cons _).1 (h1.symm.trans h)
section
variable {H H1 : World} {b : Nat} {n : NN} {m : RL} {vn vl vs vd vu v' : Value}
/-- New ones under way. -/
theorem RSt.newUnd (st : RSt H1 b n m vn vl vs vd vu) {u fl' : List Fl} (hrow : AccE encW 6 92 H1 v' u) (hb : ApO v' b) (ha : ∀ v ∈ [vn, vl, vs, vd], ApV v v') (hp : u.Perm fl') :
    RSt (setO H1 b (netR { n with fl := fl' } vn vl vs vd v')) b { n with fl := fl' } { m with und := u } vn vl vs vd v' := by
  have hlb := getO_lt st.net
  obtain ⟨p1, p2, p3, p4, p5, p6, p7, p8, p9, p10⟩ := rst_pw st
  have kp : ∀ v, ApO v b → ∀ r' o' k c, v = .slice (some ⟨r', o', none⟩) k c → ∀ z, getO H1 r' = some z → getO (setO H1 b (netR { n with fl := fl' } vn vl vs vd v')) r' = some z := fun v hv r' o' k c e z hz => by
    rw [get_set, if_neg (fun e2 => hv _ _ _ _ e e2.symm)]; exact hz
  have ap := st.apb
  simp only [List.mem_cons, List.not_mem_nil, or_false, forall_eq_or_imp, forall_eq] at ap ha
  obtain ⟨a1, a2, a3, a4, a5⟩ := ap
  obtain ⟨q1, q2, q3, q4⟩ := ha
  refine ⟨by rw [get_set, if_pos rfl, if_pos hlb], st.nums.imp (kp _ a1), st.links.imp (kp _ a2), st.sides.imp (kp _ a3), st.down.imp (kp _ a4), accw_imp hrow (kp _ hb), st.ll, st.lk, st.sl, st.sd, st.dl, st.dn, hp, ?_, ?_⟩
  · simp only [List.mem_cons, List.not_mem_nil, or_false, forall_eq_or_imp, forall_eq]
    exact ⟨a1, a2, a3, a4, hb⟩
  · simp only [List.pairwise_cons, List.mem_cons, List.not_mem_nil, or_false, forall_eq_or_imp, forall_eq, false_implies, implies_true, and_true]
    exact ⟨⟨p1, p2, p3, q1⟩, ⟨p5, p6, q2⟩, ⟨p8, q3⟩, q4, trivial, .nil⟩
theorem RSt.row_lt (st : RSt H b n m vn vl vs vd vu) {v : Value} (hv : v ∈ [vn, vl, vs, vd, vu]) {r o k c : Nat} (e : v = .slice (some ⟨r, o, none⟩) k c) : r < H.heap.size := by
  refine Classical.byContradiction fun hc => ?_
  exact (st.fresh (j := r) (by omega)).2 v hv _ _ _ _ e rfl
end
end Go.Proofs.Ytmmmdmandocbhaa
end
