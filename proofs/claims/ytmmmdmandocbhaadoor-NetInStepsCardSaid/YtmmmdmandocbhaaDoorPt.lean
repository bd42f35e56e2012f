/- Helpers of this claim: an evaluator over plain values and its laws. -/
import Derived.Test.YtmmmdmandocbhaaDoorNa
section
set_option linter.unusedVariables false
set_option linter.unusedSimpArgs false
namespace Go.Proofs.YtmmmdmandocbhaaDoor
open Go Go.Proofs.YtmmmdmandocbhaaDoor.Den
/-! ### the plain law of NetPlain -/
structure PlainN (n : NN) : Prop where
  lk : ∀ a b, lnk n a b = ⟨1, 0, 0, 0⟩
  sd : ∀ a, sid n a = 0
  dn : ∀ a, dwn n a = false
  lost : n.lost = 0
  dbl : n.dbl = 0
  fl : ∀ f ∈ n.fl, f.time ≤ n.now + 1 ∧ f.twice = false ∧ n.now ≤ f.time
theorem getD_repl {α : Type} (x : α) (m i : Nat) : (List.replicate m x).getD i x = x := by
  rw [List.getD_eq_getElem?_getD, List.getElem?_replicate]
  split <;> rfl
theorem plain_new (h : Int) (l : List Int) : PlainN (netZ h l ⟨1, 0, 0, 0⟩) where
  lk := fun a b => getD_repl _ _ _
  sd := fun a => getD_repl _ _ _
  dn := fun a => getD_repl _ _ _
  lost := rfl
  dbl := rfl
  fl := fun f hf => (List.not_mem_nil hf).elim
theorem plain_arrv {n : NN} (h : PlainN n) (f : Fl) : arrv n f = true := by
  unfold arrv
  rw [h.dn, h.sd, h.sd]; rfl
theorem tw_all {α : Type} {p : α → Bool} {l : List α} (h : ∀ x ∈ l, p x = true) : (l.takeWhile p).length = l.length := by
  induction l with
  | nil => rfl
  | cons x l ih =>
    rw [List.takeWhile_cons, if_pos (h x (List.mem_cons_self ..)), List.length_cons, ih fun y hy => h y (List.mem_cons_of_mem _ hy), List.length_cons]
/-- A plain network that lets a time go by. -/
theorem plain_pass {n : NN} {T : Nat} (iv : Inv n T) (h : PlainN n) {t : Int} (h1 : n.now + 1 ≤ t) (h2 : t ≤ 1000000000000) :
    ePass n t = 0 ∧ oPass n t = n.fl ∧ PlainN (pPass n t) ∧ (pPass n t).fl = [] ∧ (pPass n t).now = t ∧ (pPass n t).arr = n.arr + n.fl.length ∧ (pPass n t).hosts = n.hosts := by
  have hok : pPassOk n t := ⟨by omega, h2⟩
  have hc : cntT n.fl t = n.fl.length := tw_all fun f hf => decide_eq_true (by have := h.fl f hf; omega)
  have e : pPass n t = pK { n with now := t } n.fl n.fl.length := by unfold pPass; rw [if_pos hok, hc]
  have ha : ∀ f, arrv { n with now := t } f = true := fun f => plain_arrv h f
  have hl : (n.fl.take n.fl.length).countP (fun f => !arrv { n with now := t } f) = 0 := by
    rw [List.countP_eq_zero]; intro f _; simp [ha]
  have har : (n.fl.take n.fl.length).countP (arrv { n with now := t }) = n.fl.length := by
    rw [List.take_length, List.countP_eq_length]; intro f _; exact ha f
  refine ⟨if_pos hok, ?_, ?_, ?_, ?_, ?_, ?_⟩
  · unfold oPass
    rw [if_pos hok, hc, List.take_length, List.filter_eq_self]
    intro f _; exact plain_arrv h f
  · rw [e]
    refine ⟨h.lk, h.sd, h.dn, ?_, h.dbl, fun f hf => ?_⟩
    · show n.lost + (((n.fl.take n.fl.length).countP fun f => !arrv { n with now := t } f : Nat) : Int) = 0
      rw [hl, h.lost]; rfl
    · have hf' : f ∈ n.fl.drop n.fl.length := hf
      rw [List.drop_length] at hf'
      exact (List.not_mem_nil hf').elim
  · rw [e]; exact List.drop_length
  · rw [e]; rfl
  · rw [e]
    show n.arr + (((n.fl.take n.fl.length).countP (arrv { n with now := t }) : Nat) : Int) = _
    rw [har]
  · rw [e]; rfl
def sentF (n : NN) (a b : Int) (body : List UInt8) : Fl := ⟨n.next, a, b, if a = b then n.now else n.now + 1, body, false⟩
/-- A plain network that sends. -/
theorem plain_send {n : NN} {T : Nat} (iv : Inv n T) (h : PlainN n) {a b : Int} {body : List UInt8} (hb : body.length ≤ 100) (hh : hasB n a b) (hf : n.fl.length < 10000) :
    eSend n a b body = 0 ∧ iSend n a b body = n.next ∧ PlainN (pSend n a b body) ∧ (pSend n a b body).fl = putF n.fl (sentF n a b body) ∧ (pSend n a b body).now = n.now ∧ (pSend n a b body).arr = n.arr ∧ (pSend n a b body).hosts = n.hosts ∧ (pSend n a b body).next = n.next + 1 := by
  have he : eSend n a b body = 0 := by simp [eSend, hh, h.dn, show ¬ 65536 < body.length by omega, show ¬ 10000 ≤ n.fl.length by omega]
  have hi : iSend n a b body = n.next := by simp [iSend, he]
  have hp : pSend n a b body = pTake n a b body := by simp [pSend, he]
  obtain ⟨u, hu⟩ := pNum_snd (pSent n)
  have hk := pNum_fst (n := pSent n) iv.nums
  have ht : ∃ u, pTake n a b body = { pPut (pSent n) (sentF n a b body) with used := u } := by
    by_cases hab : a = b
    · refine ⟨n.used, ?_⟩
      unfold pTake
      rw [if_pos hab]
      have : newF n a b body = sentF n a b body := by simp [newF, sentF, hab]
      rw [this]; rfl
    · refine ⟨u, ?_⟩
      unfold pTake
      have hm : 0 ≤ (pNum (pSent n)).1.tmod 100 := Int.tmod_nonneg _ hk.1
      have hm2 : 0 ≤ ((pNum (pSent n)).1.tdiv 100).tmod 100 := Int.tmod_nonneg _ (Int.tdiv_nonneg hk.1 (by decide))
      rw [if_neg hab, h.lk, if_neg, if_neg (by show ¬ _ < (0 : Int); omega), hu]
      · have : late (newF n a b body) ⟨1, 0, 0, 0⟩ (pNum (pSent n)).1 = sentF n a b body := by
          simp [late, newF, sentF, hab]
        rw [this]; rfl
      · rw [h.sd, h.sd]
        rintro (h1 | h1)
        · exact h1 rfl
        · have : (pNum (pSent n)).1.tmod 100 < 0 := h1
          omega
  obtain ⟨u2, e⟩ := ht
  refine ⟨he, hi, ?_, ?_, ?_, ?_, ?_, ?_⟩
  · rw [hp, e]
    refine ⟨h.lk, h.sd, h.dn, h.lost, h.dbl, fun f hf => ?_⟩
    rcases putF_mem.1 (show f ∈ putF n.fl (sentF n a b body) from hf) with rfl | hf
    · show (if a = b then n.now else n.now + 1) ≤ n.now + 1 ∧ false = false ∧ n.now ≤ (if a = b then n.now else n.now + 1)
      split <;> refine ⟨by omega, rfl, by omega⟩
    · exact h.fl f hf
  all_goals (rw [hp, e]; rfl)
/-- Put in by its time, from the end, is put among the flights. -/
theorem want_ins {n : NN} {T : Nat} (iv : Inv n T) (h : PlainN n) {got : List Fl} (hg : ∀ f ∈ got, f.time ≤ n.now) {a b : Int} {body : List UInt8} {i : Nat} (hi : i ≤ (got ++ n.fl).length)
    (h1 : ∀ j (hj : j < (got ++ n.fl).length), j + 1 = i → (got ++ n.fl)[j].time ≤ (sentF n a b body).time) (h2 : ∀ j (hj : j < (got ++ n.fl).length), i ≤ j → (sentF n a b body).time < (got ++ n.fl)[j].time) :
    (got ++ n.fl).take i ++ sentF n a b body :: (got ++ n.fl).drop i = got ++ putF n.fl (sentF n a b body) := by
  have hnow : n.now ≤ (sentF n a b body).time := by
    show n.now ≤ (if a = b then n.now else n.now + 1)
    split <;> omega
  have hid : (sentF n a b body).id = n.next := rfl
  generalize sentF n a b body = x at *
  rw [List.length_append] at hi
  have hgi : got.length ≤ i := by
    refine Classical.byContradiction fun hc => ?_
    have hlt : i < got.length := by omega
    have := h2 i (by simp; omega) (Nat.le_refl _)
    rw [List.getElem_append_left hlt] at this
    have := hg _ (List.getElem_mem hlt)
    omega
  have hs := List.pairwise_iff_getElem.1 iv.ok.so
  have hk : i - got.length = pos n.fl x := by
    refine pos_eq (by omega) (fun m hm hmk => ?_) (fun m hm hmk => ?_)
    · have hp := h1 (i - 1) (by simp; omega) (by omega)
      rw [List.getElem_append_right (by omega)] at hp
      have hid2 := (iv.at' _ (List.getElem_mem hm)).2.2.2.2
      have hle : n.fl[m].time ≤ n.fl[i - 1 - got.length].time := by
        rcases Nat.lt_or_ge m (i - 1 - got.length) with h3 | h3
        · have := hs m (i - 1 - got.length) hm (by omega) h3
          unfold kLt at this
          omega
        · have : m = i - 1 - got.length := by omega
          subst this; exact Int.le_refl _
      unfold kLt
      omega
    · have hp := h2 (got.length + m) (by simp; omega) (by omega)
      rw [List.getElem_append_right (by omega)] at hp
      simp only [Nat.add_sub_cancel_left] at hp
      unfold kLt
      omega
  rw [List.take_append, List.drop_append, List.take_of_length_le hgi, List.drop_eq_nil_of_le hgi, List.nil_append, List.append_assoc, hk]
  rfl
end Go.Proofs.YtmmmdmandocbhaaDoor
end

section
set_option linter.unusedVariables false
set_option linter.unusedSimpArgs false
namespace Go.Proofs.YtmmmdmandocbhaaDoor
open Go Go.Proofs.YtmmmdmandocbhaaDoor.Den
theorem srcx_part {P : Program} {H : World} {es r o n c : Nat} {cs : List Value} {e : TypeId} {fr : Nat × Nat} (h : getO H r = some (.cells cs.toArray e fr)) (hn : o + n * es ≤ cs.length) : SrcX P es (.slice (some ⟨r, o, none⟩) n c) H n ((cs.drop o).take (n * es)) := by
  unfold SrcX
  simp only [cellsOfD]
  have := run_loadCells_row (P := P) (off := o) (n := n * es) (show H.heap[r]? = _ from h) (by simpa using hn)
  rw [this]
  simp only [okRun, Option.map_some]
  congr 2
  apply Array.toList_inj.1
  simp
theorem flatP_take (l : List Fl) (i : Nat) : (flatE encP l).take (i * 5) = flatE encP (l.take i) := by
  rcases Nat.lt_or_ge i l.length with hi | hi
  · have h : flatE encP l = flatE encP (l.take i) ++ flatE encP (l.drop i) := by rw [← flatE_append, List.take_append_drop]
    have hl : (flatE encP (l.take i)).length = i * 5 := by rw [flatE_len encP_size, List.length_take]; congr 1; omega
    rw [h, List.take_append_of_le_length (by omega), List.take_of_length_le (by omega)]
  · rw [List.take_of_length_le hi, List.take_of_length_le (by rw [flatE_len encP_size]; exact Nat.mul_le_mul_right _ hi)]
theorem flatP_drop (l : List Fl) (i : Nat) : (flatE encP l).drop (i * 5) = flatE encP (l.drop i) := by
  rcases Nat.lt_or_ge i l.length with hi | hi
  · have h : flatE encP l = flatE encP (l.take i) ++ flatE encP (l.drop i) := by rw [← flatE_append, List.take_append_drop]
    have hl : (flatE encP (l.take i)).length = i * 5 := by rw [flatE_len encP_size, List.length_take]; congr 1; omega
    rw [h, List.drop_append_of_le_length (by omega), List.drop_eq_nil_of_le (by omega), List.nil_append]
  · rw [List.drop_eq_nil_of_le hi, List.drop_eq_nil_of_le (by rw [flatE_len encP_size]; exact Nat.mul_le_mul_right _ hi)]; rfl
theorem srcx_all {H : World} {w : Value} {ys : List Fl} (h : AccP H w ys) : SrcX Tryd.prog 5 w H ys.length (flatE encP ys) := by
  rcases h.2 with ⟨rfl, h0⟩ | ⟨r, rfl, _, hr⟩
  · have : ys = [] := List.length_eq_zero_iff.1 h0
    subst this
    rfl
  · exact SrcX.row hr (flatE_len encP_size ys)
theorem cut_to {H : World} {w : Value} {ys : List Fl} (h : AccP H w ys) {i : Nat} (hi : i ≤ ys.length) : ∃ w1, sliceX Tryd.prog 36 w none (some (.int .i64 i)) none H = some (.value w1, H) ∧ SrcX Tryd.prog 5 w1 H (ys.take i).length (flatE encP (ys.take i)) := by
  rcases h.2 with ⟨rfl, h0⟩ | ⟨r, rfl, _, hr⟩
  · have : ys = [] := List.length_eq_zero_iff.1 h0
    subst this
    have : i = 0 := by simpa using hi
    subst this
    refine ⟨.slice none 0 0, ?_, rfl⟩
    have hb : (Instr.sliceBounds true 0 0 none (some (.int .i64 0)) none).run Tryd.prog H = .ok (0, 0, 0) H := by simp [Instr.sliceBounds, sliceBound_ok (k := .i64) (v := 0) (y := 0) _ (Int.le_refl _) (Int.le_refl _)]
    simp [sliceX, vSliceOp, lslice, hb, baseOk, okRun]
  · have hl := flatE_len encP_size ys
    have e := slice_heap Tryd.prog (t := 36) (e := 46) (r := r) (o := 0) (n := ys.length) (c := ys.length) (l := 0) (h := i) (lo := none) (hi := some (.int .i64 i)) (fr := (1, 0)) (inf := Tryd.t46) (H := H) Tryd.underlying36 info46 hr rfl (by omega) (by simp [vBound]; omega) (by simp [vBound])
    refine ⟨_, e, ?_⟩
    have s := srcx_part (P := Tryd.prog) (es := 5) (o := 0 + 0 * Tryd.t46.size) (n := i - 0) (c := ys.length - 0) hr (by simp; rw [hl]; exact Nat.mul_le_mul_right _ hi)
    rw [show (ys.take i).length = i - 0 by rw [List.length_take]; omega, ← flatP_take]
    simpa using s
theorem cut_from {H : World} {w : Value} {ys : List Fl} (h : AccP H w ys) {i : Nat} (hi : i ≤ ys.length) : ∃ w1, sliceX Tryd.prog 36 w (some (.int .i64 i)) none none H = some (.value w1, H) ∧ SrcX Tryd.prog 5 w1 H (ys.drop i).length (flatE encP (ys.drop i)) := by
  rcases h.2 with ⟨rfl, h0⟩ | ⟨r, rfl, _, hr⟩
  · have : ys = [] := List.length_eq_zero_iff.1 h0
    subst this
    have : i = 0 := by simpa using hi
    subst this
    refine ⟨.slice none 0 0, ?_, rfl⟩
    have hb : (Instr.sliceBounds true 0 0 (some (.int .i64 0)) none none).run Tryd.prog H = .ok (0, 0, 0) H := by simp [Instr.sliceBounds, sliceBound_ok (k := .i64) (v := 0) (y := 0) _ (Int.le_refl _) (Int.le_refl _)]
    simp [sliceX, vSliceOp, lslice, hb, baseOk, okRun]
  · have hl := flatE_len encP_size ys
    have e := slice_heap Tryd.prog (t := 36) (e := 46) (r := r) (o := 0) (n := ys.length) (c := ys.length) (l := i) (h := ys.length) (lo := some (.int .i64 i)) (hi := none) (fr := (1, 0)) (inf := Tryd.t46) (H := H) Tryd.underlying36 info46 hr rfl (by omega) (by simp [vBound]) (by simp [vBound]; omega)
    refine ⟨_, e, ?_⟩
    have s := srcx_part (P := Tryd.prog) (es := 5) (o := 0 + i * 5) (n := ys.length - i) (c := ys.length - i) hr (by rw [hl, Nat.zero_add, ← Nat.add_mul]; exact Nat.mul_le_mul_right _ (by omega))
    rw [Nat.zero_add, flatP_drop, List.take_of_length_le (by rw [flatE_len encP_size, List.length_drop]; exact Nat.le_refl _)] at s
    rw [show (ys.drop i).length = ys.length - i from List.length_drop]
    simpa using s
/-- Packets are appended. -/
theorem accp_app {H : World} {v src : Value} {xs ys : List Fl} (h : AccP H v xs) (hs : SrcX Tryd.prog 5 src H ys.length (flatE encP ys)) (hl : xs.length + ys.length ≤ 2 ^ 20) :
    ∃ v' H', builtinX Tryd.prog .append #[36, 36] #[v, src] H = some (.value v', H') ∧ AccP H' v' (xs ++ ys) ∧ (∀ i o, getO H i = some o → Apart v i → getO H' i = some o) ∧ H.heap.size ≤ H'.heap.size ∧ (∀ i, Apart v i → i < H.heap.size → Apart v' i) := by
  have hone : (flatE encP ys).all Value.oneCell' = true := by
    rw [List.all_eq_true]
    intro v hv
    unfold flatE at hv
    rw [List.mem_flatMap] at hv
    obtain ⟨w, hw, hv⟩ := hv
    rw [List.mem_map] at hw
    obtain ⟨x, _, rfl⟩ := hw
    have h := encP_one x
    rw [Array.all_eq_true'] at h
    exact h v (Array.mem_toList_iff.1 hv)
  obtain ⟨v', H', h1, h2, h3, h4, h5⟩ := Acc.append Tryd.prog (t1 := 36) (t2 := 36) (inf := Tryd.t46) h Tryd.underlying36 (by simp) info46 zero46 (by simp) (by simp) (by decide) (by simp) (by simp) hs (flatE_len encP_size ys) hone (by rw [bytes46]; omega)
  refine ⟨v', H', h1, ?_, h3, h4, h5⟩
  unfold AccP AccE
  rw [flatE_append, List.length_append]
  exact h2
end Go.Proofs.YtmmmdmandocbhaaDoor
end

section
set_option linter.unusedVariables false
set_option linter.unusedSimpArgs false
namespace Go.Proofs.YtmmmdmandocbhaaDoor
open Go Go.Proofs.YtmmmdmandocbhaaDoor.Den
/-- A row of packets stands apart from a network. -/
structure Sp3 (v : Value) (b : Nat) (vn vf : Value) : Prop where
  b : Apart v b
  n : ∀ r o m c, vn = .slice (some ⟨r, o, none⟩) m c → Apart v r
  f : ∀ r o m c, vf = .slice (some ⟨r, o, none⟩) m c → Apart v r
theorem Sp3.nil {b : Nat} {vn vf : Value} : Sp3 (.slice none 0 0) b vn vf := ⟨fun r n c e => by (cases e), fun _ _ _ _ _ r n c e => by (cases e), fun _ _ _ _ _ r n c e => by (cases e)⟩
section
variable {H H' : World} {b T : Nat} {n : NN} {vn vf vf' v v' w : Value} {xs ys : List Fl}
theorem Sp3.row (s : Sp3 v b vn vf) {r m c : Nat} (e : v = .slice (some ⟨r, 0, none⟩) m c) : r ≠ b ∧ ApO vn r ∧ ApO vf r :=
  ⟨fun h => s.b r m c e h.symm, fun r' o' m' c' e' h => s.n r' o' m' c' e' r m c e h.symm, fun r' o' m' c' e' h => s.f r' o' m' c' e' r m c e h.symm⟩
theorem accp_fr (h : AccP H v xs) (f : FrN H H' b vf vf') (s : Sp3 v b vn vf) : AccP H' v xs ∧ Sp3 v b vn vf' := by
  obtain ⟨h1, h2⟩ := h
  rcases h2 with ⟨rfl, h0⟩ | ⟨r, rfl, hp, hr⟩
  · exact ⟨⟨h1, .inl ⟨rfl, h0⟩⟩, .nil⟩
  · obtain ⟨a1, a2, a3⟩ := s.row rfl
    refine ⟨⟨h1, .inr ⟨r, rfl, hp, f.keep _ _ hr a1 a3⟩⟩, s.b, s.n, fun r' o m c e r2 n2 c2 e2 => ?_⟩
    cases e2
    exact fun h => f.fresh r (getO_lt hr) a1 a3 _ _ _ _ e h.symm
/-- What appending to one row leaves. -/
structure App (H H' : World) (v v' : Value) : Prop where
  keep : ∀ i o, getO H i = some o → Apart v i → getO H' i = some o
  size : H.heap.size ≤ H'.heap.size
  fresh : ∀ i, Apart v i → i < H.heap.size → Apart v' i
theorem App.nst (a : App H H' v v') (st : NSt H b n vn vf) (s : Sp3 v b vn vf) : NSt H' b n vn vf ∧ Sp3 v' b vn vf := by
  refine ⟨st.keepR (fun o h => a.keep _ _ h s.b) (fun r o m c e x hx => a.keep _ _ hx (s.n _ _ _ _ e)) (fun r o m c e x hx => a.keep _ _ hx (s.f _ _ _ _ e)), a.fresh _ s.b (getO_lt st.net), fun r o m c e => ?_, fun r o m c e => ?_⟩
  · rcases st.nums with ⟨e2, _⟩ | ⟨r', c', fr, e2, hr⟩
    · rw [e2] at e; cases e
    · rw [e2] at e; cases e
      exact a.fresh _ (s.n _ _ _ _ e2) (getO_lt hr)
  · rcases st.fl with ⟨e2, _⟩ | ⟨r', pre, e2, hr⟩
    · rw [e2] at e; cases e
    · rw [e2] at e; cases e
      exact a.fresh _ (s.f _ _ _ _ e2) (getO_lt hr)
/-- Two rows of packets stand apart. -/
def Two (v w : Value) : Prop := ∀ r n c, v = .slice (some ⟨r, 0, none⟩) n c → Apart w r
theorem Two.nil_l : Two (.slice none 0 0) w := fun r n c e => by cases e
theorem Two.nil_r : Two v (.slice none 0 0) := fun _ _ _ _ r n c e => by cases e
theorem Two.symm (h : Two v w) : Two w v := fun r n c e r' n' c' e' h' => h _ _ _ e' _ _ _ e h'.symm
theorem App.acc (a : App H H' v v') (hw : AccP H w ys) (t : Two w v) : AccP H' w ys ∧ Two w v' := by
  obtain ⟨h1, h2⟩ := hw
  rcases h2 with ⟨rfl, h0⟩ | ⟨r, rfl, hp, hr⟩
  · exact ⟨⟨h1, .inl ⟨rfl, h0⟩⟩, .nil_l⟩
  · refine ⟨⟨h1, .inr ⟨r, rfl, hp, a.keep _ _ hr (t _ _ _ rfl)⟩⟩, fun r' n' c' e => ?_⟩
    cases e
    exact a.fresh _ (t _ _ _ rfl) (getO_lt hr)
/-- A row that is new stands apart from what was there. -/
theorem Sp3.new (st : NSt H b n vn vf) (h : ∀ j, j < H.heap.size → ApO v j) (hf : ∀ j, ApO vf j → ApO vf' j) : Sp3 v b vn vf' := by
  have ap : ∀ j, j < H.heap.size → Apart v j := fun j hj r n c e => h j hj r 0 n c e
  refine ⟨ap _ (getO_lt st.net), fun r o m' c e => ?_, fun r o m' c e r2 n2 c2 e2 h2 => ?_⟩
  · rcases st.nums with ⟨e2, _⟩ | ⟨r', c', fr, e2, hr⟩
    · rw [e2] at e; cases e
    · rw [e2] at e; cases e; exact ap _ (getO_lt hr)
  · have hr2 : H.heap.size ≤ r2 := by
      refine Classical.byContradiction fun hc => ?_
      exact ap r2 (by omega) _ _ _ e2 rfl
    exact hf r2 (st.fresh hr2).2.2 _ _ _ _ e h2.symm
end
/-- The state of the law's loop. -/
structure LI (hosts : Int) (k : Nat) (H : World) (b : Nat) (n : NN) (vn vf vw vg : Value) (got : List Fl) : Prop where
  st : NSt H b n vn vf
  iv : Inv n k
  pl : PlainN n
  now : n.now ≤ k
  hosts : n.hosts = hosts
  w : AccP H vw (got ++ n.fl)
  g : AccP H vg got
  gt : ∀ f ∈ got, f.time ≤ n.now
  arr : n.arr = got.length
  len : got.length + n.fl.length ≤ k
  sw : Sp3 vw b vn vf
  sg : Sp3 vg b vn vf
  two : Two vw vg
end Go.Proofs.YtmmmdmandocbhaaDoor
end
