/- Helpers of this claim: an evaluator over plain values and its laws. -/
import Derived.Test.YtmmmdmandocbhaaDoorPi
section
set_option linter.unusedVariables false
set_option linter.unusedSimpArgs false
namespace Go.Proofs.YtmmmdmandocbhaaDoor
open Go Go.Proofs.YtmmmdmandocbhaaDoor.Den
theorem fls_time {H : World} {r : Nat} {pre l : List Fl} (hr : getO H r = some (.cells (flatE encF (pre ++ l)).toArray 76 (1, 0))) {i j : Nat} (hi : i < l.length) (hj : j < 6) :
    (flatE encF (pre ++ l))[pre.length * 6 + i * 6 + j]? = (cellsF l[i])[j]? := by
  have hlt : pre.length + i < (pre ++ l).length := by simp; omega
  have h1 := flatE_get encF_size (pre ++ l) hlt hj
  rw [List.getElem_append_right (by omega)] at h1
  simp only [Nat.add_sub_cancel_left] at h1
  rw [show pre.length * 6 + i * 6 + j = (pre.length + i) * 6 + j by omega, h1]
  rfl
/-- The first flight is cut off. -/
theorem fls_tail {H : World} {v : Value} {f : Fl} {l : List Fl} (h : Fls H v (f :: l)) : ∃ r o, v = .slice (some ⟨r, o, none⟩) (l.length + 1) (l.length + 1) ∧ sliceX Tryd.prog 57 v (some (.int .i64 1)) none none H = some (.value (.slice (some ⟨r, o + 6, none⟩) l.length l.length), H) ∧ Fls H (.slice (some ⟨r, o + 6, none⟩) l.length l.length) l ∧
    indexAddrQ Tryd.prog 57 v (.int .i64 0) = some (.pointer (some ⟨r, o, none⟩)) ∧ loadX Tryd.prog 76 (.pointer (some ⟨r, o, none⟩)) H = some (.value (encF f), H) ∧ loadX Tryd.prog 3 (.pointer (some ⟨r, o + 3, none⟩)) H = some (.value (.int .i64 f.time), H) := by
  rcases h with ⟨_, h⟩ | ⟨r, pre, rfl, hr⟩
  · cases h
  · refine ⟨r, pre.length * 6, by simp, ?_, ?_, ?_, ?_, ?_⟩
    · have hl : (flatE encF (pre ++ f :: l)).length = pre.length * 6 + (l.length + 1) * 6 := by rw [flatE_len encF_size]; simp; omega
      have := slice_heap Tryd.prog (t := 57) (e := 76) (r := r) (o := pre.length * 6) (n := l.length + 1) (c := l.length + 1) (l := 1) (h := l.length + 1) (lo := some (.int .i64 1)) (hi := none) (fr := (1, 0)) (inf := Tryd.t76) (H := H) Tryd.underlying57 info76 hr rfl (by omega) (by simp [vBound]) (by simp [vBound]; omega)
      simpa using this
    · refine .inr ⟨r, pre ++ [f], by simp [Nat.add_mul], ?_⟩
      rw [List.append_assoc]; exact hr
    · simp [idxS]
    · have := fls_load hr (i := 0) (by simp)
      simpa using this
    · have := fls_time hr (i := 0) (j := 3) (by simp) (by decide)
      simp at this
      simp [hr, this]
theorem NSt.cut {H : World} {b : Nat} {n : NN} {vn : Value} {r o m c o2 m2 c2 : Nat} {l : List Fl} (st : NSt H b n vn (.slice (some ⟨r, o, none⟩) m c)) (hf : Fls H (.slice (some ⟨r, o2, none⟩) m2 c2) l) :
    NSt (setO H b (netO { n with fl := l } vn (.slice (some ⟨r, o2, none⟩) m2 c2))) b { n with fl := l } vn (.slice (some ⟨r, o2, none⟩) m2 c2) := by
  have hb := getO_lt st.net
  have hrb : b ≠ r := st.apf _ _ _ _ rfl
  have ap : ∀ j, ApO (.slice (some ⟨r, o, none⟩) m c) j → ApO (.slice (some ⟨r, o2, none⟩) m2 c2) j := fun j h r' o' n' c' e => by cases e; exact h _ _ _ _ rfl
  refine ⟨by rw [get_set, if_pos rfl, if_pos hb], ⟨st.wf.links, st.wf.sides, st.wf.down⟩, st.nums.imp fun r o m c e x hx => ?_, hf.imp fun r' o m c e x hx => ?_, st.apn, ap _ st.apf, fun r o m c e => ap _ (st.apx _ _ _ _ e)⟩
  · rw [get_set, if_neg (fun e' => st.apn _ _ _ _ e e'.symm)]; exact hx
  · cases e
    rw [get_set, if_neg (fun e' => hrb e'.symm)]; exact hx
@[simp] theorem stepY {n : Nat} {dsts : List (Option Tmp)} {l : List Oper} {e : Env} {d : Option Tmp} {K : Env → World → Prop} {r : Nat} {args : Array Value} {H : World} : stepX X n dsts l e d (callX Tryd.prog (.func (.yield r) #[] #[]) args H) K = yieldW X r args H fun v H2 => OX X n dsts l (putE e d v) H2 K := stepX_yield'
structure DI (b c1 c2 y : Nat) (fl : List Fl) (time : Int) (S : Nat → World → Prop) (d : Nat) (e : Env) (H : World) : Prop where
  e0 : lk e 0 = .func (.yield y) #[] #[]
  e1 : lk e 1 = p0 c1
  e2 : lk e 2 = p0 c2
  k : ∃ k, d = fl.length - k ∧ k ≤ fl.length ∧ S k H ∧ ∀ j (hj : j < fl.length), j < k → fl[j].time ≤ time
set_option maxRecDepth 100000 in
theorem due58 {H : World} {b c1 c2 y : Nat} {time : Int} {vn : Value} {fl : List Fl} (S : Nat → World → Prop)
    (hstep : ∀ k Hx, S k Hx → ∃ n vf, NSt Hx b n vn vf ∧ n.fl = fl.drop k ∧ getO Hx c1 = some (.cells #[p0 b] 26 (0, 0)) ∧ getO Hx c2 = some (.cells #[.int .i64 time] 3 (0, 0)) ∧
      ∀ Hy vf' (hk : k < fl.length), fl[k].time ≤ time → NSt Hy b { n with fl := fl.drop (k + 1) } vn vf' → FrN Hx Hy b vf vf' → Hy.heap.size = Hx.heap.size + 1 → (∀ j, ApO vf j → ApO vf' j) → yieldW X y #[encF fl[k]] Hy fun v Hz => v = .bool true ∧ S (k + 1) Hz)
    {Q : Value → World → Prop} (h0 : S 0 H)
    (hq : ∀ k Hx, k ≤ fl.length → S k Hx → (∀ hk : k < fl.length, ¬ fl[k].time ≤ time) → (∀ j (hj : j < fl.length), j < k → fl[j].time ≤ time) → Q (.tuple #[]) Hx) : FW X 40 #[.func (.yield y) #[] #[], p0 c1, p0 c2] H Q := by
  refine FW.walk (by simp [X, sp17_no]) Tryd.func40 Tryd.ntmps40 rfl (by simp) ?_
  simp
  refine CE.inv (DI b c1 c2 y fl time S) ?_ (d := fl.length) ⟨by simp, by simp, by simp, 0, rfl, Nat.zero_le _, h0, fun j _ h => absurd h (by omega)⟩
  rintro d e Hx ⟨e0, e1, e2, k, rfl, hk, hS, hle⟩
  obtain ⟨n, vf, st, hfl, g1, g2, htk⟩ := hstep k Hx hS
  have hn := st.net
  have c9 := cN_fl (vn := vn) (vf := vf) st.wf
  have hlen := fun H0 => st.fl.len (H0 := H0)
  simp
  refine WP.draw0 (by decide +kernel) (by decide +kernel) ?_
  by_cases hkl : k < fl.length
  rotate_left
  · have hl0 : n.fl.length = 0 := by rw [hfl]; simp; omega
    simp [e0, e1, e2, g1, g2, hn, c9, hlen, hl0]
    exact hq k Hx hk hS (fun h => absurd h hkl) hle
  have hcons : n.fl = fl[k] :: fl.drop (k + 1) := by rw [hfl]; exact List.drop_eq_getElem_cons hkl
  have hfs := st.fl
  rw [hcons] at hfs
  obtain ⟨r, o, rfl, t1, t2, t3, t4, t5⟩ := fls_tail hfs
  generalize hL : fl.drop (k + 1) = L at *
  have hl1 : n.fl.length = L.length + 1 := by rw [hcons]; rfl
  have hpos : 0 < n.fl.length := by omega
  by_cases ht : fl[k].time ≤ time
  rotate_left
  · have htd : decide (fl[k].time ≤ time) = false := decide_eq_false ht
    simp [e0, e1, e2, g1, g2, hn, c9, hpos, t3, t5, htd, hlen]
    exact hq k Hx hk hS (fun _ => ht) hle
  have htd : decide (fl[k].time ≤ time) = true := decide_eq_true ht
  have st1 := st.push (.cells (cellsF fl[k]) 76 (0, 0))
  have fr1 : FrN Hx (pushObj Hx (.cells (cellsF fl[k]) 76 (0, 0))) b (.slice (some ⟨r, o, none⟩) (L.length + 1) (L.length + 1)) (.slice (some ⟨r, o, none⟩) (L.length + 1) (L.length + 1)) := FrN.push _
  have hfs1 := st1.fl
  rw [hcons] at hfs1
  obtain ⟨r', o', e', t1', t2', _, _, _⟩ := fls_tail hfs1
  cases e'
  have gp : ∀ j o, getO Hx j = some o → getO (pushObj Hx (.cells (cellsF fl[k]) 76 (0, 0))) j = some o := fun j o hj => by
    have := getO_lt hj
    rw [get_push, if_neg (by omega)]; exact hj
  have g1' := gp _ _ g1
  have g4 : getO (pushObj Hx (.cells (cellsF fl[k]) 76 (0, 0))) Hx.heap.size = some (.cells (cellsF fl[k]) 76 (0, 0)) := by rw [get_push, if_pos rfl]
  have hz1 : (pushObj Hx (.cells (cellsF fl[k]) 76 (0, 0))).heap.size = Hx.heap.size + 1 := by simp
  have nb : ¬ Hx.heap.size = b := by have := getO_lt hn; omega
  simp [e0, e1, e2, g1, g2, hn, c9, hpos, t3, t4, t5, htd, hlen, allocX, szO, overL, Value.cells]
  generalize hH1 : pushObj Hx (.cells (cellsF fl[k]) 76 (0, 0)) = H1 at *
  generalize hm : Hx.heap.size = m at *
  have hn1 := st1.net
  have lb1 := getO_lt hn1
  have s9 := fun v => sN_fl (vn := vn) (vf := (.slice (some ⟨r, o, none⟩) (L.length + 1) (L.length + 1))) st.wf v
  have hz : 1066 ≤ (cellsN n vn (.slice (some ⟨r, o, none⟩) (L.length + 1) (L.length + 1))).length := cN_le st.wf (by decide)
  have st2 := st1.cut t2'
  have g42 : getO (setO H1 b (netO { n with fl := L } vn (.slice (some ⟨r, o + 6, none⟩) L.length L.length))) m = some (.cells (cellsF fl[k]) 76 (0, 0)) := by rw [get_set, if_neg nb]; exact g4
  have apx : ∀ j, ApO (.slice (some ⟨r, o, none⟩) (L.length + 1) (L.length + 1)) j → ApO (.slice (some ⟨r, o + 6, none⟩) L.length L.length) j := fun j h r' o' n' c' e => by cases e; exact h _ _ _ _ rfl
  have fr2 : FrN Hx (setO H1 b (netO { n with fl := L } vn (.slice (some ⟨r, o + 6, none⟩) L.length L.length))) b (.slice (some ⟨r, o, none⟩) (L.length + 1) (L.length + 1)) (.slice (some ⟨r, o + 6, none⟩) L.length L.length) :=
    ⟨fun j o h1 h2 h3 => by rw [get_set, if_neg h2]; exact fr1.keep j o h1 h2 h3, fun j h1 h2 h3 => apx j h3, by simp [hz1]; omega⟩
  have hy := htk _ _ hkl ht st2 fr2 (by simp [hz1, hm]) apx
  have hHy : setO H1 b (.cells (cellsN n vn (.slice (some ⟨r, o + 6, none⟩) L.length L.length)).toArray 59 (0, 0)) = setO H1 b (netO { n with fl := L } vn (.slice (some ⟨r, o + 6, none⟩) L.length L.length)) := rfl
  refine WP.draw0 (by decide +kernel) (by decide +kernel) ?_
  simp [e0, e1, g1', hn1, c9, t1', lb1, hz, s9, hHy, nb, g4]
  generalize hH2 : setO H1 b (netO { n with fl := L } vn (.slice (some ⟨r, o + 6, none⟩) L.length L.length)) = H2 at *
  refine yieldW.imp hy ?_
  rintro v Hz ⟨rfl, hS'⟩
  simp
  refine ⟨fl.length - (k + 1), by omega, by simp [e0], by simp [e1], by simp [e2], k + 1, rfl, by omega, hS', fun j hj hjk => ?_⟩
  by_cases e : j = k
  · subst e; exact ht
  · exact hle j hj (by omega)
end Go.Proofs.YtmmmdmandocbhaaDoor
end

section
set_option linter.unusedVariables false
set_option linter.unusedSimpArgs false
namespace Go.Proofs.YtmmmdmandocbhaaDoor
open Go Go.Proofs.YtmmmdmandocbhaaDoor.Den
set_option maxRecDepth 100000 in
theorem due42 {H : World} {b : Nat} {time : Int} {Q : Value → World → Prop} (hq : Q (.func (.func 40) #[] #[p0 H.heap.size, p0 (H.heap.size + 1)]) (pushObj (pushObj H (.cells #[p0 b] 26 (0, 0))) (.cells #[.int .i64 time] 3 (0, 0)))) : FW X 28 #[p0 b, .int .i64 time] H Q := by
  refine FW.walk (by simp [X, sp17_no]) Tryd.func28 Tryd.ntmps28 rfl (by simp) ?_
  simp [szO]
  exact hq
/-- Does a flight arrive? -/
def arrv (n : NN) (f : Fl) : Bool := !dwn n f.to && decide (sid n f.frm = sid n f.to)
def pK (n : NN) (fl : List Fl) (k : Nat) : NN := { n with fl := fl.drop k, lost := n.lost + ((fl.take k).countP fun f => !arrv n f : Nat), arr := n.arr + ((fl.take k).countP (arrv n) : Nat) }
abbrev cellsP (x : Fl) : Array Value := #[.int .i64 x.id, .int .i64 x.frm, .int .i64 x.to, .int .i64 x.time, .string (sB x.body)]
abbrev encP (x : Fl) : Value := .agg (cellsP x)
theorem encP_size (x : Fl) : (encP x).cells.size = 5 := rfl
theorem encP_one (x : Fl) : (encP x).cells.all Value.oneCell' = true := by simp [Value.cells, Value.oneCell']
abbrev AccP (H : World) (v : Value) (l : List Fl) : Prop := AccE encP 5 46 H v l
theorem tw_len {α : Type} {p : α → Bool} {l : List α} : ∀ {i : Nat}, i ≤ l.length → (∀ k (hk : k < l.length), k < i → p l[k] = true) → (∀ hk : i < l.length, p l[i] = false) → i = (l.takeWhile p).length := by
  induction l with
  | nil => intro i hi _ _; simpa using hi
  | cons y l ih =>
    intro i hi h1 h2
    cases i with
    | zero =>
      have := h2 (by simp)
      simp at this
      simp [this]
    | succ i =>
      have h0 := h1 0 (by simp) (by omega)
      simp at h0
      have := ih (i := i) (by simpa using hi) (fun k hk hki => by have := h1 (k + 1) (by simpa using hk) (by omega); simpa using this) (fun hk => by have := h2 (by simpa using hk); simpa using this)
      simp [h0, ← this]
theorem pK_lost {n : NN} {fl : List Fl} {k : Nat} (hk : k < fl.length) (h : arrv n fl[k] = false) : { pK n fl k with fl := fl.drop (k + 1), lost := (pK n fl k).lost + 1 } = pK n fl (k + 1) := by
  unfold pK
  rw [List.take_succ_eq_append_getElem hk, List.countP_append, List.countP_append]
  simp [h]
  omega
theorem pK_arr {n : NN} {fl : List Fl} {k : Nat} (hk : k < fl.length) (h : arrv n fl[k] = true) : { pK n fl k with fl := fl.drop (k + 1), arr := (pK n fl k).arr + 1 } = pK n fl (k + 1) := by
  unfold pK
  rw [List.take_succ_eq_append_getElem hk, List.countP_append, List.countP_append]
  simp [h]
  omega
theorem pK_le (n : NN) (fl : List Fl) (k : Nat) : n.lost ≤ (pK n fl k).lost ∧ (pK n fl k).lost ≤ n.lost + fl.length ∧ n.arr ≤ (pK n fl k).arr ∧ (pK n fl k).arr ≤ n.arr + fl.length := by
  have h1 := List.countP_le_length (p := fun f => !arrv n f) (l := fl.take k)
  have h2 := List.countP_le_length (p := arrv n) (l := fl.take k)
  rw [List.length_take] at h1 h2
  unfold pK
  refine ⟨?_, ?_, ?_, ?_⟩ <;> dsimp only <;> omega
theorem NSt.keepR {H H' : World} {b : Nat} {n : NN} {vn vf : Value} (h : NSt H b n vn vf) (hb : ∀ o, getO H b = some o → getO H' b = some o) (hn : ∀ r o m c, vn = .slice (some ⟨r, o, none⟩) m c → ∀ x, getO H r = some x → getO H' r = some x) (hf : ∀ r o m c, vf = .slice (some ⟨r, o, none⟩) m c → ∀ x, getO H r = some x → getO H' r = some x) : NSt H' b n vn vf :=
  ⟨hb _ h.net, h.wf, h.nums.imp hn, h.fl.imp hf, h.apn, h.apf, h.apx⟩
structure PaI (H0 : World) (b : Nat) (n : NN) (vn vf0 : Value) (fl : List Fl) (time : Int) (m : Nat) (k : Nat) (Hx : World) (vf vo : Value) : Prop where
  st : NSt Hx b (pK n fl k) vn vf
  fr : FrN H0 Hx b vf0 vf
  g2 : getO Hx m = some (.cells #[p0 b] 26 (0, 0))
  g6 : getO Hx (m + 1) = some (.cells #[vo] 36 (0, 0))
  g3 : getO Hx (m + 2) = some (.cells #[p0 b] 26 (0, 0))
  g4 : getO Hx (m + 3) = some (.cells #[.int .i64 time] 3 (0, 0))
  acc : AccP Hx vo ((fl.take k).filter (arrv n))
  apv : ∀ j, ApO vf0 j → ApO vf j
  vof : ∀ r o m' c, vo = .slice (some ⟨r, o, none⟩) m' c → m + 6 ≤ r
  size : m + 6 ≤ Hx.heap.size
def pPassOk (n : NN) (time : Int) : Prop := n.now ≤ time ∧ time ≤ 1000000000000
instance (n : NN) (t : Int) : Decidable (pPassOk n t) := by unfold pPassOk; infer_instance
def cntT (fl : List Fl) (time : Int) : Nat := (fl.takeWhile fun f => decide (f.time ≤ time)).length
def pPass (n : NN) (time : Int) : NN := if pPassOk n time then pK { n with now := time } n.fl (cntT n.fl time) else n
def oPass (n : NN) (time : Int) : List Fl := if pPassOk n time then (n.fl.take (cntT n.fl time)).filter (arrv n) else []
def ePass (n : NN) (time : Int) : Int := if pPassOk n time then 0 else 7
set_option maxRecDepth 100000 in
theorem pass9 {H : World} {b : Nat} {n : NN} {vn vf : Value} (st : NSt H b n vn vf) {T : Nat} (iv : Inv n T) (time : Int) {Q : Value → World → Prop}
    (hq : ∀ H' vf' vo, NSt H' b (pPass n time) vn vf' → FrN H H' b vf vf' → AccP H' vo (oPass n time) → (∀ j, j < H.heap.size → ApO vo j) → (∀ j, ApO vf j → ApO vf' j) → Q (.tuple #[vo, .int .i64 (ePass n time)]) H') : FW X 9 #[p0 b, .int .i64 time] H Q := by
  refine FW.walk (by simp [X, sp17_no]) Tryd.func9 Tryd.ntmps9 rfl (by simp) ?_
  have st1 := st.push (.cells #[p0 b] 26 (0, 0))
  have fr1 : FrN H (pushObj H (.cells #[p0 b] 26 (0, 0))) b vf vf := FrN.push _
  have g2 : getO (pushObj H (.cells #[p0 b] 26 (0, 0))) H.heap.size = some (.cells #[p0 b] 26 (0, 0)) := by rw [get_push, if_pos rfl]
  have nf := st.fresh (Nat.le_refl _)
  have z1 : (pushObj H (.cells #[p0 b] 26 (0, 0))).heap.size = H.heap.size + 1 := by simp
  have hn0 := st.net
  have nbm : ¬ b = H.heap.size := fun e => nf.1 e.symm
  simp [szO, hn0, nbm]
  generalize hH1 : pushObj H (.cells #[p0 b] 26 (0, 0)) = H1 at *
  generalize hm : H.heap.size = m at *
  have hn1 := st1.net
  have hb1 := getO_lt hn1
  by_cases hok : pPassOk n time
  rotate_left
  · have e1 : pPass n time = n := if_neg hok
    have e2 : oPass n time = [] := if_neg hok
    have e3 : ePass n time = 7 := if_neg hok
    rw [e1, e2, e3] at hq
    have hfin := hq _ _ (.slice none 0 0) st1 fr1 .nil (fun j _ r o n c e => by cases e) (fun _ h => h)
    by_cases h1 : time < n.now
    · simp [g2, hn1, h1]
      exact hfin
    · have h2 : 1000000000000 < time := by unfold pPassOk at hok; omega
      simp [g2, hn1, h1, h2]
      exact hfin
  have e1 : pPass n time = pK { n with now := time } n.fl (cntT n.fl time) := if_pos hok
  have e2 : oPass n time = (n.fl.take (cntT n.fl time)).filter (arrv n) := if_pos hok
  have e3 : ePass n time = 0 := if_pos hok
  rw [e1, e2, e3] at hq
  have h1 : ¬ time < n.now := by unfold pPassOk at hok; omega
  have h2 : ¬ 1000000000000 < time := by unfold pPassOk at hok; omega
  have z8 : 8 ≤ (cellsN n vn vf).length := cN_le st.wf (by decide)
  have st2 := st1.write { n with now := time } ⟨st.wf.links, st.wf.sides, st.wf.down⟩ rfl rfl
  have fr2 := fr1.trans (FrN.setB (b := b) (vf := vf) (netO { n with now := time } vn vf))
  have nmb : ¬ m = b := nf.1
  have g22 : getO (setO H1 b (netO { n with now := time } vn vf)) m = some (.cells #[p0 b] 26 (0, 0)) := by rw [get_set, if_neg nmb]; exact g2
  have z2 : (setO H1 b (netO { n with now := time } vn vf)).heap.size = m + 1 := by simp [z1]
  simp [g2, hn1, h1, h2, z8, hb1, allocX, szO, nmb, Value.cells, z1]
  generalize hH2 : setO H1 b (netO { n with now := time } vn vf) = H2 at *
  have st3 := st2.push (.cells #[.slice none 0 0] 36 (0, 0))
  have fr3 := fr2.trans (FrN.push (.cells #[.slice none 0 0] 36 (0, 0)))
  have gp : ∀ (H : World) (o' : Obj) (j : Nat) (o : Obj), getO H j = some o → getO (pushObj H o') j = some o := fun H o' j o hj => by
    have := getO_lt hj
    rw [get_push, if_neg (by omega)]; exact hj
  have g23 := gp _ (.cells #[.slice none 0 0] 36 (0, 0)) _ _ g22
  have g63 : getO (pushObj H2 (.cells #[.slice none 0 0] 36 (0, 0))) (m + 1) = some (.cells #[.slice none 0 0] 36 (0, 0)) := by rw [get_push, if_pos z2.symm]
  have z3 : (pushObj H2 (.cells #[.slice none 0 0] 36 (0, 0))).heap.size = m + 2 := by simp [z2]
  generalize hH3 : pushObj H2 (.cells #[.slice none 0 0] 36 (0, 0)) = H3 at *
  refine due42 ?_
  have st4 := (st3.push (.cells #[p0 b] 26 (0, 0))).push (.cells #[.int .i64 time] 3 (0, 0))
  have fr4 := fr3.trans ((FrN.push (.cells #[p0 b] 26 (0, 0))).trans (FrN.push (.cells #[.int .i64 time] 3 (0, 0))))
  have g24 := gp _ (.cells #[.int .i64 time] 3 (0, 0)) _ _ (gp _ (.cells #[p0 b] 26 (0, 0)) _ _ g23)
  have g64 := gp _ (.cells #[.int .i64 time] 3 (0, 0)) _ _ (gp _ (.cells #[p0 b] 26 (0, 0)) _ _ g63)
  have g34 : getO (pushObj (pushObj H3 (.cells #[p0 b] 26 (0, 0))) (.cells #[.int .i64 time] 3 (0, 0))) (m + 2) = some (.cells #[p0 b] 26 (0, 0)) := gp _ _ _ _ (by rw [get_push, if_pos z3.symm])
  have g44 : getO (pushObj (pushObj H3 (.cells #[p0 b] 26 (0, 0))) (.cells #[.int .i64 time] 3 (0, 0))) (m + 3) = some (.cells #[.int .i64 time] 3 (0, 0)) := by rw [get_push, if_pos (by simp [z3])]
  have z4 : (pushObj (pushObj H3 (.cells #[p0 b] 26 (0, 0))) (.cells #[.int .i64 time] 3 (0, 0))).heap.size = m + 4 := by simp [z3]
  rw [z3]
  simp
  generalize hH4 : pushObj (pushObj H3 (.cells #[p0 b] 26 (0, 0))) (.cells #[.int .i64 time] 3 (0, 0)) = H4 at *
  refine CE.rangeFunc (f := 40) (fs := #[]) (cs := #[p0 (m + 2), p0 (m + 3)]) (by simp) (by simp) (by simp) ?_
  intro T hT
  refine FW.inLoop fun l hl2 => ?_
  have d1 : getO (pushObj (pushObj H4 (.deferred (some []))) (.loop l)) (m + 4) = some (.deferred (some [])) := gp _ _ _ _ (by rw [get_push, if_pos z4.symm])
  have d2 : getO (pushObj (pushObj H4 (.deferred (some []))) (.loop l)) (m + 5) = some (.loop l) := by rw [get_push, if_pos (by simp [z4])]
  have st5 := (st4.push (.deferred (some []))).push (.loop l)
  have fr5 := fr4.trans ((FrN.push (.deferred (some []))).trans (FrN.push (.loop l)))
  have g25 := gp _ (.loop l) _ _ (gp _ (.deferred (some [])) _ _ g24)
  have g65 := gp _ (.loop l) _ _ (gp _ (.deferred (some [])) _ _ g64)
  have g35 := gp _ (.loop l) _ _ (gp _ (.deferred (some [])) _ _ g34)
  have g45 := gp _ (.loop l) _ _ (gp _ (.deferred (some [])) _ _ g44)
  have z5 : (pushObj (pushObj H4 (.deferred (some []))) (.loop l)).heap.size = m + 6 := by simp [z4]
  rw [z4]
  generalize hH5 : pushObj (pushObj H4 (.deferred (some []))) (.loop l) = H5 at *
  show FW X 40 #[.func (.yield (m + 5)) #[] #[], p0 (m + 2), p0 (m + 3)] H5 _
  have hpk0 : pK { n with now := time } n.fl 0 = { n with now := time } := by simp [pK]
  refine due58 (b := b) (time := time) (vn := vn) (fl := n.fl) (fun k Hk => (∃ vf' vo, PaI H b { n with now := time } vn vf n.fl time m k Hk vf' vo) ∧ getO Hk (m + 4) = some (.deferred (some [])) ∧ getO Hk (m + 5) = some (.loop l)) ?_ ⟨⟨vf, .slice none 0 0, ⟨by rw [hpk0]; exact st5, fr5, g25, g65, g35, g45, by simpa using AccE.nil, fun _ h => h, fun r o m' c e => (by cases e), by omega⟩⟩, d1, d2⟩ ?_
  · rintro k Hx ⟨⟨vf1, vo, h⟩, h4, h5⟩
    refine ⟨_, vf1, h.st, rfl, h.g3, h.g4, ?_⟩
    intro Hy vf2 hk hle st6 fr6 hsz apx
    have e1 : arrv n n.fl[k] = false → _ := pK_lost (n := { n with now := time }) (fl := n.fl) (k := k) hk
    have e2 : arrv n n.fl[k] = true → _ := pK_arr (n := { n with now := time }) (fl := n.fl) (k := k) hk
    have hpl := pK_le { n with now := time } n.fl k
    change n.lost ≤ ({ pK { n with now := time } n.fl k with fl := n.fl.drop (k + 1) } : NN).lost ∧ ({ pK { n with now := time } n.fl k with fl := n.fl.drop (k + 1) } : NN).lost ≤ n.lost + n.fl.length ∧ n.arr ≤ ({ pK { n with now := time } n.fl k with fl := n.fl.drop (k + 1) } : NN).arr ∧ ({ pK { n with now := time } n.fl k with fl := n.fl.drop (k + 1) } : NN).arr ≤ n.arr + n.fl.length at hpl
    have dn : ∀ a, dwn ({ pK { n with now := time } n.fl k with fl := n.fl.drop (k + 1) } : NN) a = dwn n a := fun _ => rfl
    have sn : ∀ a, sid ({ pK { n with now := time } n.fl k with fl := n.fl.drop (k + 1) } : NN) a = sid n a := fun _ => rfl
    obtain ⟨n6, hn6⟩ : ∃ n6, n6 = ({ pK { n with now := time } n.fl k with fl := n.fl.drop (k + 1) } : NN) := ⟨_, rfl⟩
    rw [← hn6] at st6 hpl dn sn
    have e1' : arrv n n.fl[k] = false → { n6 with lost := n6.lost + 1 } = pK { n with now := time } n.fl (k + 1) := fun h => by rw [hn6]; exact e1 h
    have e2' : arrv n n.fl[k] = true → { n6 with arr := n6.arr + 1 } = pK { n with now := time } n.fl (k + 1) := fun h => by rw [hn6]; exact e2 h
    clear e1 e2
    have fresh : ∀ j, m ≤ j → j ≠ b ∧ ApO vn j ∧ ApO vf1 j := fun j hj => by
      have := st.fresh (i := j) (by omega)
      exact ⟨this.1, this.2.1, h.apv j this.2.2⟩
    have kp : ∀ j o, m ≤ j → getO Hx j = some o → getO Hy j = some o := fun j o hj ho => fr6.keep j o ho (fresh j hj).1 (fresh j hj).2.2
    have y2 := kp _ _ (by omega) h.g2
    have y6 := kp _ _ (by omega) h.g6
    have y3 := kp _ _ (by omega) h.g3
    have y4 := kp _ _ (by omega) h.g4
    have y4' := kp _ _ (by omega) h4
    have y5 := kp _ _ (by omega) h5
    have y5' := y5
    have hrs : l.state = .ready := by rw [hl2]; rfl
    rw [hl2] at y5'
    refine yieldW.one y5' hT (by decide) ?_
    simp [szO, allocX, overL, Value.cells]
    have nL : ¬ m + 5 = Hy.heap.size := by have := getO_lt y5; omega
    refine ⟨l, by rw [if_neg nL]; exact y5, hrs, ?_⟩
    have hat := iv.at' _ (List.getElem_mem hk)
    have hsum := iv.sum
    have hT := iv.T
    have b1 := iv.lost
    have b2 := iv.arr
    have b3 := iv.dbl1
    have b4 := iv.id1
    have b5 := iv.sent
    have hh2 := iv.h2
    have sF := st6.push (.cells (cellsF n.fl[k]) 76 (0, 0))
    have fF : FrN H (pushObj Hy (.cells (cellsF n.fl[k]) 76 (0, 0))) b vf vf2 := (h.fr.trans fr6).trans (FrN.push _)
    have apv2 : ∀ j, ApO vf j → ApO vf2 j := fun j hj => apx j (h.apv j hj)
    have nfL := st.fresh (i := m + 5) (by omega)
    generalize hbz : Obj.loop { l with state := .busy } = bz
    have sB' := sF.setO' (i := m + 5) bz nfL.1 nfL.2.1 (apv2 _ nfL.2.2)
    have fB := fF.setFresh (i := m + 5) bz (by omega)
    have lF : m + 5 < (pushObj Hy (.cells (cellsF n.fl[k]) 76 (0, 0))).heap.size := by simp; have := getO_lt y5; omega
    have zb : (setO (pushObj Hy (.cells (cellsF n.fl[k]) 76 (0, 0))) (m + 5) bz).heap.size = Hy.heap.size + 1 := by simp
    have gz : ∀ j o, j ≠ m + 5 → getO Hy j = some o → getO (setO (pushObj Hy (.cells (cellsF n.fl[k]) 76 (0, 0))) (m + 5) bz) j = some o := fun j o hj ho => by
      rw [get_set, if_neg hj]; exact gp _ _ _ _ ho
    have z2' := gz _ _ (by omega) y2
    have z6' := gz _ _ (by omega) y6
    have z3' := gz _ _ (by omega) y3
    have z4'' := gz _ _ (by omega) y4
    have zD := gz _ _ (by omega) y4'
    have zL : getO (setO (pushObj Hy (.cells (cellsF n.fl[k]) 76 (0, 0))) (m + 5) bz) (m + 5) = some bz := by rw [get_set, if_pos rfl, if_pos lF]
    have zF : getO (setO (pushObj Hy (.cells (cellsF n.fl[k]) 76 (0, 0))) (m + 5) bz) Hy.heap.size = some (.cells (cellsF n.fl[k]) 76 (0, 0)) := by
      rw [get_set, if_neg (fun e => nL e.symm), get_push, if_pos rfl]
    have accz : AccP (setO (pushObj Hy (.cells (cellsF n.fl[k]) 76 (0, 0))) (m + 5) bz) vo ((n.fl.take k).filter (arrv n)) := by
      refine AccE.set (AccE.push ?_ _) _ (fun r n c e => by have := h.vof _ _ _ _ e; omega)
      obtain ⟨a1, a2⟩ := h.acc
      refine ⟨a1, ?_⟩
      rcases a2 with a2 | ⟨r, e, hp, hr⟩
      · exact .inl a2
      · exact .inr ⟨r, e, hp, kp _ _ (by have := h.vof _ _ _ _ e; omega) hr⟩
    generalize hHz : setO (pushObj Hy (.cells (cellsF n.fl[k]) 76 (0, 0))) (m + 5) bz = Hz at *
    generalize hfz : Hy.heap.size = f at *
    have hnz := sB'.net
    have cs1 := cN_sid (vn := vn) (vf := vf2) sB'.wf hat.1 (by omega) rfl
    have cs2 := cN_sid (vn := vn) (vf := vf2) sB'.wf hat.2.2.1 (by omega) rfl
    have cd := cN_dwn (vn := vn) (vf := vf2) sB'.wf hat.2.2.1 (by omega) rfl
    have lbz := getO_lt hnz
    have z3c := cN_le (vn := vn) (vf := vf2) sB'.wf (k := 3) (by decide)
    have f16 : n.fl[k].frm < 16 := by omega
    have t16 : n.fl[k].to < 16 := by omega
    have f0 := hat.1
    have t0 := hat.2.2.1
    rw [sn] at cs1 cs2
    rw [dn] at cd
    have n5m : ¬ m = m + 5 := by omega
    refine WP.draw0 (by decide +kernel) (by decide +kernel) ?_
    have cases3 : (arrv n n.fl[k] = false ∧ (dwn n n.fl[k].to = true ∨ (dwn n n.fl[k].to = false ∧ ¬ sid n n.fl[k].frm = sid n n.fl[k].to))) ∨ (arrv n n.fl[k] = true ∧ dwn n n.fl[k].to = false ∧ sid n n.fl[k].frm = sid n n.fl[k].to) := by
      unfold arrv
      cases dwn n n.fl[k].to <;> by_cases h : sid n n.fl[k].frm = sid n n.fl[k].to <;> simp [h]
    have wl : IntKind.i64.wrap (n6.lost + 1) = n6.lost + 1 := wrap64 (by omega) (by omega)
    have wa : IntKind.i64.wrap (n6.arr + 1) = n6.arr + 1 := wrap64 (by omega) (by omega)
    have hbm : b < m := by have := getO_lt hn0; omega
    have close : ∀ Hf vo' e, NSt Hf b (pK { n with now := time } n.fl (k + 1)) vn vf2 → FrN H Hf b vf vf2 → getO Hf m = some (.cells #[p0 b] 26 (0, 0)) → getO Hf (m + 1) = some (.cells #[vo'] 36 (0, 0)) → getO Hf (m + 2) = some (.cells #[p0 b] 26 (0, 0)) → getO Hf (m + 3) = some (.cells #[.int .i64 time] 3 (0, 0)) →
        AccP Hf vo' ((n.fl.take (k + 1)).filter (arrv n)) → (∀ r o m' c, vo' = .slice (some ⟨r, o, none⟩) m' c → m + 6 ≤ r) → getO Hf (m + 4) = some (.deferred (some [])) → getO Hf (m + 5) = some bz → Hz.heap.size ≤ Hf.heap.size →
        roundE (m + 5) (fun v Hz => v = .bool true ∧ (∃ vf' vo, PaI H b { n with now := time } vn vf n.fl time m (k + 1) Hz vf' vo) ∧ getO Hz (m + 4) = some (.deferred (some [])) ∧ getO Hz (m + 5) = some (.loop l)) .normal e [] Hf := by
      intro Hf vo' e a1 a2 a3 a4 a5 a6 a7 a8 a9 a10 a11
      rw [← hbz] at a10
      refine ⟨_, a10, rfl, ⟨vf2, vo', ⟨a1.setO' _ nfL.1 nfL.2.1 (apv2 _ nfL.2.2), a2.setFresh _ (by omega), ?_, ?_, ?_, ?_, ?_, apv2, a8, ?_⟩⟩, ?_, ?_⟩
      · rw [get_set, if_neg (by omega)]; exact a3
      · rw [get_set, if_neg (by omega)]; exact a4
      · rw [get_set, if_neg (by omega)]; exact a5
      · rw [get_set, if_neg (by omega)]; exact a6
      · exact AccE.set a7 _ (fun r n c e => by have := a8 _ _ _ _ e; omega)
      · have := getO_lt zL; have := h.size; simp; omega
      · rw [get_set, if_neg (by omega)]; exact a9
      · rw [get_set, if_pos rfl, if_pos (getO_lt a10)]
        congr 2
        rw [hl2]; rfl
    rcases cases3 with ⟨har, hc⟩ | ⟨har, hc1, hc2⟩
    · have hfin : ∀ e, roundE (m + 5) (fun v Hz => v = .bool true ∧ (∃ vf' vo, PaI H b { n with now := time } vn vf n.fl time m (k + 1) Hz vf' vo) ∧ getO Hz (m + 4) = some (.deferred (some [])) ∧ getO Hz (m + 5) = some (.loop l)) .normal e [] (setO Hz b (netO { n6 with lost := n6.lost + 1 } vn vf2)) := by
        intro e
        have s2 := sB'.write { n6 with lost := n6.lost + 1 } ⟨sB'.wf.links, sB'.wf.sides, sB'.wf.down⟩ rfl rfl
        have f2 := fB.trans (FrN.setB (b := b) (netO { n6 with lost := n6.lost + 1 } vn vf2))
        have gs : ∀ j o, m ≤ j → getO Hz j = some o → getO (setO Hz b (netO { n6 with lost := n6.lost + 1 } vn vf2)) j = some o := fun j o hj ho => by rw [get_set, if_neg (by omega)]; exact ho
        have hac : AccP (setO Hz b (netO { n6 with lost := n6.lost + 1 } vn vf2)) vo ((n.fl.take (k + 1)).filter (arrv n)) := by
          rw [List.take_succ_eq_append_getElem hk, List.filter_append]
          simp only [List.filter_cons, har, List.filter_nil, List.append_nil]
          simp only [Bool.false_eq_true, if_false, List.append_nil]
          exact AccE.set accz _ (fun r n c e => by have := h.vof _ _ _ _ e; omega)
        rw [e1' har] at s2 f2 gs hac ⊢
        exact close _ vo e s2 f2 (gs _ _ (by omega) z2') (gs _ _ (by omega) z6') (gs _ _ (by omega) z3') (gs _ _ (by omega) z4'') hac h.vof (gs _ _ (by omega) zD) (gs _ _ (by omega) zL) (by simp)
      rcases hc with hc | ⟨hc, hc2⟩
      · simp [z2', zF, hnz, idxP, f0, f16, t0, t16, cd, cs1, cs2, hc, z3c, wl, lbz, fresh]
        exact hfin _
      · simp [z2', zF, hnz, idxP, f0, f16, t0, t16, cd, cs1, cs2, hc, hc2, z3c, wl, lbz, fresh]
        exact hfin _
    · have z2c := cN_le (vn := vn) (vf := vf2) sB'.wf (k := 2) (by decide)
      have s2 := sB'.write { n6 with arr := n6.arr + 1 } ⟨sB'.wf.links, sB'.wf.sides, sB'.wf.down⟩ rfl rfl
      have f2 := fB.trans (FrN.setB (b := b) (netO { n6 with arr := n6.arr + 1 } vn vf2))
      have gs : ∀ j o, m ≤ j → getO Hz j = some o → getO (setO Hz b (netO { n6 with arr := n6.arr + 1 } vn vf2)) j = some o := fun j o hj ho => by rw [get_set, if_neg (by omega)]; exact ho
      have acb : AccP (setO Hz b (netO { n6 with arr := n6.arr + 1 } vn vf2)) vo ((n.fl.take k).filter (arrv n)) := AccE.set accz _ (fun r n c e => by have := h.vof _ _ _ _ e; omega)
      have q2 := gs _ _ (by omega) z2'
      have q6 := gs _ _ (by omega) z6'
      have q3 := gs _ _ (by omega) z3'
      have q4 := gs _ _ (by omega) z4''
      have qD := gs _ _ (by omega) zD
      have qL := gs _ _ (by omega) zL
      have qF := gs _ _ (by have := h.size; omega) zF
      have zq : Hz.heap.size ≤ (setO Hz b (netO { n6 with arr := n6.arr + 1 } vn vf2)).heap.size := by simp
      have nm1 : ¬ m + 1 = b := by omega
      have nfb : ¬ f = b := by have := h.size; omega
      have hlf : ((n.fl.take k).filter (arrv n)).length ≤ n.fl.length := Nat.le_trans (List.length_filter_le _ _) (by rw [List.length_take]; omega)
      obtain ⟨v', H4, i1, i2, i3, i4, i5⟩ := AccE.add Tryd.prog encP_size encP_one (t1 := 36) (t2 := 36) (inf := Tryd.t46) acb Tryd.underlying36 (by simp) info46 zero46 (by simp) (by simp) (by decide) (by simp) (by simp) (by rw [bytes46]; have := iv.ok.len; omega) n.fl[k] (fr := (0, 0))
      have hx2 : (n.fl.take k).filter (arrv n) ++ [n.fl[k]] = (n.fl.take (k + 1)).filter (arrv n) := by
        rw [List.take_succ_eq_append_getElem hk, List.filter_append]
        simp [har]
      rw [hx2] at i2
      simp [z2', zF, hnz, idxP, f0, f16, t0, t16, cd, cs1, cs2, hc1, hc2, z2c, wa, lbz, fresh, nm1, nfb, z6', buildSliceX, inOrder, catCells, szO]
      have hHa : setO Hz b (.cells (cellsN { n6 with arr := n6.arr + 1 } vn vf2).toArray 59 (0, 0)) = setO Hz b (netO { n6 with arr := n6.arr + 1 } vn vf2) := rfl
      rw [hHa]
      have hsz2 : (setO Hz b (netO { n6 with arr := n6.arr + 1 } vn vf2)).heap.size = Hz.heap.size := by simp
      rw [hsz2] at i1
      generalize hHq : setO Hz b (netO { n6 with arr := n6.arr + 1 } vn vf2) = Hq at *
      have i1' : builtinX Tryd.prog .append #[36, 36] #[vo, .slice (some ⟨Hz.heap.size, 0, none⟩) 1 1] (pushObj Hq (.cells #[.int .i64 n.fl[k].id, .int .i64 n.fl[k].frm, .int .i64 n.fl[k].to, .int .i64 n.fl[k].time, .string (sB n.fl[k].body)] 46 (0, 0))) = some (.value v', H4) := i1
      have vap : ∀ j, j < m + 6 → Apart vo j := fun j hj r n c e => by have := h.vof _ _ _ _ e; omega
      have u6 := i3 _ _ q6 (vap _ (by omega))
      have l6 := getO_lt u6
      have o1 : v'.cells = #[v'] ∧ (1 ≤ v'.cells.size) := by
        rcases i2.2 with ⟨e, _⟩ | ⟨r, e, _⟩ <;> rw [e] <;> exact ⟨rfl, Nat.le_refl _⟩
      have hmq : m + 6 ≤ Hq.heap.size := by rw [hsz2]; have := h.size; omega
      have fresh' : ∀ j, m ≤ j → j ≠ b ∧ ApO vn j ∧ ApO vf2 j := fun j hj => by
        have := st.fresh (i := j) (by omega)
        exact ⟨this.1, this.2.1, apv2 j this.2.2⟩
      simp [i1', u6, l6, o1.1, (Acc.one i2).2, overL]
      have s3 : NSt H4 b { n6 with arr := n6.arr + 1 } vn vf2 := s2.keepR (fun o ho => i3 _ _ ho (vap _ (by omega)))
        (fun r o m' c e x hx => i3 _ _ hx fun r' n' c' e' => fun er => (fresh' r' (by have := h.vof _ _ _ _ e'; omega)).2.1 _ _ _ _ e er.symm)
        (fun r o m' c e x hx => i3 _ _ hx fun r' n' c' e' => fun er => (fresh' r' (by have := h.vof _ _ _ _ e'; omega)).2.2 _ _ _ _ e er.symm)
      have f3 : FrN H H4 b vf vf2 := ⟨fun j o h1 h2 h3 => i3 _ _ (f2.keep j o h1 h2 h3) (vap _ (by have := getO_lt h1; omega)), f2.fresh, by have := f2.size; omega⟩
      have nf1 := fresh' (m + 1) (by omega)
      rw [e2' har] at s3
      have ks : ∀ j o, j ≠ m + 1 → j < m + 6 → getO Hq j = some o → getO (setO H4 (m + 1) (.cells #[v'] 36 (0, 0))) j = some o := fun j o h1 h2 h3 => by
        rw [get_set, if_neg h1]; exact i3 _ _ h3 (vap _ h2)
      refine close _ v' _ (s3.setO' _ nf1.1 nf1.2.1 nf1.2.2) (f3.setFresh _ (by omega)) (ks _ _ (by omega) (by omega) q2) (by rw [get_set, if_pos rfl, if_pos l6]) (ks _ _ (by omega) (by omega) q3) (ks _ _ (by omega) (by omega) q4) ?_ ?_ (ks _ _ (by omega) (by omega) qD) (ks _ _ (by omega) (by omega) qL) (by simp; omega)
      · exact AccE.set i2 _ (i5 _ (vap _ (by omega)) (by omega))
      · intro r o m' c e
        rcases Nat.lt_or_ge r (m + 6) with hr | hr
        · exact absurd rfl (i5 r (vap r hr) (by omega) r m' c (by
            rcases i2.2 with ⟨e', _⟩ | ⟨r', e', _⟩
            · rw [e'] at e; cases e
            · rw [e'] at e ⊢; cases e; rfl))
        · exact hr
  · rintro k Hx hk ⟨⟨vf', vo, h⟩, h4, h5⟩ hst hle
    have hcnt : k = cntT n.fl time := tw_len hk (fun j hj hjk => decide_eq_true (hle j hj hjk)) (fun h => decide_eq_false (hst h))
    have hj : l.pending = none := by rw [hl2]; rfl
    have hb' : (l.state == LoopState.busy) = false := by rw [hl2]; rfl
    refine ⟨l, .normal, h5, hb', by rw [hj]; rfl, ?_⟩
    have hd : getO (setO Hx (m + 5) (.loop { l with state := .exhausted })) (m + 4) = some (.deferred (some [])) := by rw [get_set, if_neg (by omega)]; exact h4
    have h6 : getO (setO Hx (m + 5) (.loop { l with state := .exhausted })) (m + 1) = some (.cells #[vo] 36 (0, 0)) := by rw [get_set, if_neg (by omega)]; exact h.g6
    simp [h6]
    rw [endE_mark hd]
    simp
    rw [← hcnt] at hq
    have nfD := st.fresh (i := m + 4) (by omega)
    have nfL := st.fresh (i := m + 5) (by omega)
    refine hq _ vf' vo ((h.st.setO' _ nfL.1 nfL.2.1 (h.apv _ nfL.2.2)).setO' _ nfD.1 nfD.2.1 (h.apv _ nfD.2.2)) ((h.fr.setFresh _ (by omega)).setFresh _ (by omega)) ?_ ?_ h.apv
    · exact AccE.set (AccE.set h.acc _ (fun r n c e => by have := h.vof _ _ _ _ e; omega)) _ (fun r n c e => by have := h.vof _ _ _ _ e; omega)
    · intro j hj r o n c e
      have := h.vof _ _ _ _ e
      omega
end Go.Proofs.YtmmmdmandocbhaaDoor
end
