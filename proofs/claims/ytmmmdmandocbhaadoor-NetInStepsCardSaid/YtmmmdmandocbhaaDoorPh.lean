/- Helpers of this claim: an evaluator over plain values and its laws. -/
import Derived.Test.YtmmmdmandocbhaaDoorPe
section
set_option linter.unusedVariables false
set_option linter.unusedSimpArgs false
namespace Go.Proofs.YtmmmdmandocbhaaDoor
open Go Go.Proofs.YtmmmdmandocbhaaDoor.Den
def pos (l : List Fl) (x : Fl) : Nat := (l.takeWhile fun y => decide (kLt y x)).length
theorem pos_eq {l : List Fl} {x : Fl} : ∀ {i : Nat}, i ≤ l.length → (∀ k (hk : k < l.length), k < i → kLt l[k] x) → (∀ k (hk : k < l.length), i ≤ k → ¬ kLt l[k] x) → i = pos l x := by
  induction l with
  | nil => intro i hi _ _; simpa [pos] using hi
  | cons y l ih =>
    intro i hi h1 h2
    cases i with
    | zero =>
      have := h2 0 (by simp) (Nat.le_refl _)
      simp at this
      simp [pos, this]
    | succ i =>
      have h0 := h1 0 (by simp) (by omega)
      simp at h0
      have := ih (i := i) (by simpa using hi) (fun k hk hki => by have := h1 (k + 1) (by simpa using hk) (by omega); simpa using this) (fun k hk hki => by have := h2 (k + 1) (by simpa using hk) (by omega); simpa using this)
      unfold pos at this ⊢
      simp [h0, ← this]
def putF (l : List Fl) (x : Fl) : List Fl := insA l (pos l x) x
def pPut (n : NN) (x : Fl) : NN := { n with fl := putF n.fl x }
theorem pos_le (l : List Fl) (x : Fl) : pos l x ≤ l.length := (List.takeWhile_prefix _).length_le
theorem NSt.put {H H1 : World} {b : Nat} {n : NN} {vn vf v' : Value} (st : NSt H b n vn vf) {l : List Fl} (hf : Fls H1 v' l) (hk : ∀ j o, getO H j = some o → ApO vf j → getO H1 j = some o) (hr : ∃ n c, v' = .slice (some ⟨H.heap.size, 0, none⟩) n c) :
    NSt (setO H1 b (netO { n with fl := l } vn v')) b { n with fl := l } vn v' := by
  obtain ⟨m, c, rfl⟩ := hr
  have hb := getO_lt st.net
  have hnb := hk _ _ st.net st.apf
  have hb1 := getO_lt hnb
  have ap : ∀ j, j < H.heap.size → ApO (.slice (some ⟨H.heap.size, 0, none⟩) m c) j := fun j hj r o n c e => by cases e; omega
  refine ⟨by rw [get_set, if_pos rfl, if_pos hb1], ⟨st.wf.links, st.wf.sides, st.wf.down⟩, ?_, hf.imp fun r o m c e x hx => ?_, st.apn, ap _ hb, fun r o m c e => ?_⟩
  · rcases st.nums with h | ⟨r, c, fr, e, h⟩
    · exact .inl h
    · refine .inr ⟨r, c, fr, e, ?_⟩
      rw [get_set, if_neg (fun e' => st.apn _ _ _ _ e e'.symm)]
      exact hk _ _ h (st.apx _ _ _ _ e)
  · cases e
    rw [get_set, if_neg (by omega)]; exact hx
  · rcases st.nums with h | ⟨r', c', fr, e', h⟩
    · rw [h.1] at e; cases e
    · rw [e'] at e; cases e
      exact ap _ (getO_lt h)
theorem q_slice (a : Option Addr) (n c : Nat) : veq (.slice a n c) (.slice a n c) = true := by simp [veq, veq2, veq1]
theorem Fls.q {H : World} {v : Value} {l : List Fl} (h : Fls H v l) : veq v v = true := by
  rcases h with ⟨rfl, _⟩ | ⟨r, pre, rfl, _⟩ <;> exact q_slice _ _ _
structure FlOk (n : NN) : Prop where
  fb : ∀ y ∈ n.fl, FB y
  so : Sorted n.fl
  len : n.fl.length ≤ 2 ^ 20
set_option maxRecDepth 100000 in
theorem put44 {H : World} {b : Nat} {n : NN} {vn vf : Value} (st : NSt H b n vn vf) (ok : FlOk n) {x : Fl} (hx : FB x) {Q : Value → World → Prop}
    (hq : ∀ H' vf', NSt H' b (pPut n x) vn vf' → FrN H H' b vf vf' → Q (.tuple #[]) H') : FW X 31 #[p0 b, encF x] H Q := by
  refine FW.walk (by simp [X, sp17_no]) Tryd.func31 Tryd.ntmps31 rfl (by simp) ?_
  have st1 := st.push (.cells (cellsF x) 76 (0, 0))
  have fr1 : FrN H (pushObj H (.cells (cellsF x) 76 (0, 0))) b vf vf := FrN.push _
  have g3 : getO (pushObj H (.cells (cellsF x) 76 (0, 0))) H.heap.size = some (.cells (cellsF x) 76 (0, 0)) := by rw [get_push, if_pos rfl]
  have nf := st.fresh (Nat.le_refl _)
  simp [szO]
  generalize hH1 : pushObj H (.cells (cellsF x) 76 (0, 0)) = H1 at *
  generalize hm : H.heap.size = m at *
  refine WP.drawP [(0, 6), (1, 6), (2, 6), (3, 6), (4, 6)] (by decide +kernel) (by decide +kernel) ?_
  have hn1 := st1.net
  have c9 := cN_fl (vn := vn) (vf := vf) st1.wf
  have q_vf := st1.fl.q
  simp [hn1, c9, g3]
  refine order61 ?_
  have st2 := st1.push (.cells #[.func (.func 47) #[] #[]] 97 (0, 0))
  have fr2 : FrN H (pushObj H1 (.cells #[.func (.func 47) #[] #[]] 97 (0, 0))) b vf vf := fr1.trans (FrN.push _)
  have gc : getO (pushObj H1 (.cells #[.func (.func 47) #[] #[]] 97 (0, 0))) H1.heap.size = some (.cells #[.func (.func 47) #[] #[]] 97 (0, 0)) := by rw [get_push, if_pos rfl]
  have k2 : Keep H1 (pushObj H1 (.cells #[.func (.func 47) #[] #[]] 97 (0, 0))) := fun j o hj => by
    have := getO_lt hj
    rw [get_push, if_neg (by omega)]; exact hj
  simp
  generalize hH2 : pushObj H1 (.cells #[.func (.func 47) #[] #[]] 97 (0, 0)) = H2 at *
  have hn2 := st2.net
  have g32 := k2 _ _ g3
  refine bs60 st2.fl gc hx ok.fb ok.so (by have := ok.len; omega) fun i bo H3 hi lo hi2 k3 z3 => ?_
  have hpos : i = pos n.fl x := pos_eq hi lo hi2
  have st3 := st2.keep k3
  have fr3 : FrN H H3 b vf vf := fr2.trans (FrN.ofKeep k3 z3)
  have hn3 := st3.net
  have g33 := k3 _ _ (k2 _ _ g3)
  simp
  refine ⟨Checks.cons rfl rfl rfl ?_ (Checks.cons rfl rfl rfl ?_ (Checks.cons rfl rfl rfl ?_ (Checks.cons rfl rfl rfl ?_ (Checks.cons rfl rfl rfl ?_ .nil)))), ?_⟩
  iterate 5
    · unfold reV
      simp [hn1, hn2, hn3, c9, g3, g32, q_int, q_ptr, q_vf, q_agg, q_cons, q_nil, q1_int, q1_bool, q1_str]
  refine WP.drawP [(0, 8), (0, 9), (1, 8), (2, 8), (3, 8), (4, 8), (5, 8)] (by decide +kernel) (by decide +kernel) ?_
  simp [hn3, c9, g33, buildSliceX, inOrder, catCells, szO]
  have st4 := st3.push (.cells (cellsF x) 76 (0, 0))
  have fr4 : FrN H (pushObj H3 (.cells (cellsF x) 76 (0, 0))) b vf vf := fr3.trans (FrN.push _)
  have gv : getO (pushObj H3 (.cells (cellsF x) 76 (0, 0))) H3.heap.size = some (.cells (cellsF x) 76 (0, 0)) := by rw [get_push, if_pos rfl]
  have k4 : Keep H3 (pushObj H3 (.cells (cellsF x) 76 (0, 0))) := fun j o hj => by
    have := getO_lt hj
    rw [get_push, if_neg (by omega)]; exact hj
  have g34 := k4 _ _ g33
  have apv := fr3.fresh
  have z13 : H1.heap.size ≤ H3.heap.size := by
    have : H1.heap.size ≤ H2.heap.size := by rw [← hH2]; simp
    omega
  have lm : m < H1.heap.size := getO_lt g3
  generalize hH4 : pushObj H3 (.cells (cellsF x) 76 (0, 0)) = H4 at *
  obtain ⟨H5, i1, i2, i3, i4⟩ := ins_fls st4.fl gv hi ok.len
  have hn4 := st4.net
  have hn5 := i3 _ _ hn4 st4.apf
  have hb5 := getO_lt hn5
  have g35 := i3 _ _ g34 nf.2.2
  have hz : 1066 ≤ (cellsN n vn vf).length := cN_le st.wf (by decide)
  have s9 := fun v => sN_fl (vn := vn) (vf := vf) st.wf v
  refine FW.special (g := insD Tryd.prog 57) (by simp [X]) (by simp [X, sp17]) i1 ?_
  simp [hn5, hz, s9, hb5]
  refine ⟨Checks.cons rfl rfl rfl ?_ (Checks.cons rfl rfl rfl ?_ (Checks.cons rfl rfl rfl ?_ (Checks.cons rfl rfl rfl ?_ (Checks.cons rfl rfl rfl ?_ (Checks.cons rfl rfl rfl ?_ (Checks.cons rfl rfl rfl ?_ .nil)))))), ?_⟩
  iterate 7
    · unfold reV
      simp [hn3, hn4, hn5, c9, q_int, q_ptr, q_vf]
  rw [hpos] at i2
  have st5 := st4.put i2 i3 ⟨_, _, rfl⟩
  refine hq _ _ st5 (fr4.trans ⟨fun j o h1 h2 h3 => ?_, fun j h1 h2 h3 => ?_, by simpa using i4⟩)
  · rw [get_set, if_neg h2]; exact i3 _ _ h1 h3
  · intro r o n c e; cases e; omega
end Go.Proofs.YtmmmdmandocbhaaDoor
end
