/- Helpers of this claim: an evaluator over plain values and its laws. -/
import Derived.Test.YtjecafhbhcjoaaaQi
section
set_option linter.unusedVariables false
set_option linter.unusedSimpArgs false
namespace Go.Proofs.Ytjecafhbhcjoaaa
open Go Go.Proofs.Ytjecafhbhcjoaaa.Den
/-! ### the reference's post -/
structure RP where
  order : Int
  room : Int
  pause : Int
  now : Int
  l : List Lt
  wdr : Int
abbrev refO (q : RP) (v : Value) : Obj := .cells #[.int .i64 q.order, .int .i64 q.room, .int .i64 q.pause, .int .i64 q.now, v, .int .i64 q.wdr] 95 (0, 0)
abbrev encX (x : Lt) : Value := .agg (cellsL x)
theorem encX_size (x : Lt) : (encX x).cells.size = 12 := rfl
theorem encX_one (x : Lt) : (encX x).cells.all Value.oneCell' = true := by simp
abbrev flatX (l : List Lt) : List Value := flatE encX l
structure RSt (H : World) (rb : Nat) (q : RP) (v : Value) : Prop where
  hp : getO H rb = some (refO q v)
  acc : AccE encX 12 100 H v q.l
  apv : Apart v rb
structure FrR (H H' : World) (rb : Nat) (v v' : Value) : Prop where
  keep : ∀ j o, getO H j = some o → j ≠ rb → Apart v j → getO H' j = some o
  fresh : ∀ j, j < H.heap.size → j ≠ rb → Apart v j → Apart v' j
  size : H.heap.size ≤ H'.heap.size
section
variable {H H' H2 : World} {rb : Nat} {q q' : RP} {v v' v2 : Value}
theorem FrR.refl : FrR H H rb v v := ⟨fun _ _ h _ _ => h, fun _ _ _ h => h, Nat.le_refl _⟩
theorem FrR.trans (h : FrR H H' rb v v') (g : FrR H' H2 rb v' v2) : FrR H H2 rb v v2 :=
  ⟨fun j o h1 h2 h3 => g.keep j o (h.keep j o h1 h2 h3) h2 (h.fresh j (getO_lt h1) h2 h3), fun j h1 h2 h3 => g.fresh j (Nat.lt_of_lt_of_le h1 h.size) h2 (h.fresh j h1 h2 h3), Nat.le_trans h.size g.size⟩
theorem FrR.push (o : Obj) : FrR H (pushObj H o) rb v v := ⟨fun j o' h1 _ _ => by have := getO_lt h1; rw [get_push, if_neg (by omega)]; exact h1, fun _ _ _ h => h, by simp⟩
theorem FrR.setP (o : Obj) : FrR H (setO H rb o) rb v v := ⟨fun j o' h1 h2 _ => by rw [get_set, if_neg h2]; exact h1, fun _ _ _ h => h, by simp⟩
theorem FrR.setFresh (h : FrR H H' rb v v') {i : Nat} (o : Obj) (hi : H.heap.size ≤ i) : FrR H (setO H' i o) rb v v' :=
  ⟨fun j o' h1 h2 h3 => by have := getO_lt h1; rw [get_set, if_neg (by omega)]; exact h.keep j o' h1 h2 h3, h.fresh, by rw [size_set]; exact h.size⟩
theorem FrR.setRow {r n c : Nat} (o : Obj) (hv : v = .slice (some ⟨r, 0, none⟩) n c) : FrR H (setO H r o) rb v v := ⟨fun j o' h1 _ h3 => by rw [get_set, if_neg (h3 _ _ _ hv)]; exact h1, fun _ _ _ h => h, by simp⟩
theorem RSt.push (st : RSt H rb q v) (o : Obj) : RSt (pushObj H o) rb q v := ⟨by have := getO_lt st.hp; rw [get_push, if_neg (by omega)]; exact st.hp, st.acc.push o, st.apv⟩
theorem RSt.setOther (st : RSt H rb q v) {i : Nat} (o : Obj) (h1 : i ≠ rb) (h2 : Apart v i) : RSt (setO H i o) rb q v := ⟨by rw [get_set, if_neg h1.symm]; exact st.hp, st.acc.set o h2, st.apv⟩
theorem RSt.fresh (st : RSt H rb q v) {i : Nat} (hi : H.heap.size ≤ i) : i ≠ rb ∧ Apart v i := ⟨fun e => by have := getO_lt st.hp; omega, Acc.fresh st.acc hi⟩
theorem RSt.setP (st : RSt H rb q v) (ha : q'.l = q.l) : RSt (setO H rb (refO q' v)) rb q' v := ⟨by rw [get_set, if_pos rfl, if_pos (getO_lt st.hp)], by rw [ha]; exact st.acc.set _ st.apv, st.apv⟩
theorem RSt.len (st : RSt H rb q v) {H0 : World} : builtinX Try.prog .len #[93] #[v] H0 = some (.value (.int .i64 q.l.length), H0) := Acc.len st.acc (by simp)
theorem RSt.at (st : RSt H rb q v) {k : Nat} (hk : k < q.l.length) : ∃ r, v = .slice (some ⟨r, 0, none⟩) q.l.length q.l.length ∧ getO H r = some (.cells (flatX q.l).toArray 100 (1, 0)) ∧ k * 12 + 12 ≤ (flatX q.l).length ∧ (flatX q.l).toArray.extract (k * 12) (k * 12 + 12) = cellsL q.l[k] ∧ ¬ rb = r ∧ ¬ r = rb ∧ r < H.heap.size := by
  obtain ⟨r, h1, h2⟩ := st.acc.row (by omega)
  exact ⟨r, h1, h2, flatE_le encX_size _ hk, flatE_row encX_size _ hk, fun e => st.apv r _ _ h1 e, fun e => st.apv r _ _ h1 e.symm, getO_lt h2⟩
theorem RSt.setL (st : RSt H rb q v) {r n c : Nat} (hv : v = .slice (some ⟨r, 0, none⟩) n c) (k : Nat) (x : Lt) : RSt (setO H r (.cells (flatX (q.l.set k x)).toArray 100 (1, 0))) rb { q with l := q.l.set k x } v :=
  ⟨by rw [get_set, if_neg (fun e => st.apv r _ _ hv e)]; exact st.hp, st.acc.setRow encX_size hv (by simp), st.apv⟩
end
theorem flatX_get {l : List Lt} {k : Nat} (hk : k < l.length) {x : Lt} (hx : l[k] = x) : (flatX l)[k * 12 + 7]? = some (.int .i64 x.st) ∧ (flatX l)[k * 12 + 8]? = some (.int .i64 x.tried) ∧ (flatX l)[k * 12 + 2]? = some (.int .i64 x.tries) ∧ (flatX l)[k * 12 + 6]? = some (.int .i64 x.num) ∧ (flatX l)[k * 12 + 11]? = some (.bool x.told) ∧ (flatX l)[k * 12 + 3]? = some (.bool x.back) ∧ (flatX l)[k * 12 + 10]? = some (.string (sB x.reply)) := by
  subst hx
  refine ⟨?_, ?_, ?_, ?_, ?_, ?_, ?_⟩ <;> rw [flatE_get encX_size _ hk (by decide)] <;> rfl
theorem set_st {l : List Lt} {k : Nat} (hk : k < l.length) {x : Lt} (hx : l[k] = x) (n : Int) : (flatX l).set (k * 12 + 7) (.int .i64 n) = flatX (l.set k { x with st := n }) := flatE_set encX_size l hk (by decide) (by rw [hx]; rfl)
theorem set_tried {l : List Lt} {k : Nat} (hk : k < l.length) {x : Lt} (hx : l[k] = x) (n : Int) : (flatX l).set (k * 12 + 8) (.int .i64 n) = flatX (l.set k { x with tried := n }) := flatE_set encX_size l hk (by decide) (by rw [hx]; rfl)
theorem set_frm {l : List Lt} {k : Nat} (hk : k < l.length) {x : Lt} (hx : l[k] = x) (n : Int) : (flatX l).set (k * 12 + 9) (.int .i64 n) = flatX (l.set k { x with frm := n }) := flatE_set encX_size l hk (by decide) (by rw [hx]; rfl)
theorem set_reply {l : List Lt} {k : Nat} (hk : k < l.length) {x : Lt} (hx : l[k] = x) (s : List UInt8) : (flatX l).set (k * 12 + 10) (.string (sB s)) = flatX (l.set k { x with reply := s }) := flatE_set encX_size l hk (by decide) (by rw [hx]; rfl)
theorem set_told {l : List Lt} {k : Nat} (hk : k < l.length) {x : Lt} (hx : l[k] = x) (b : Bool) : (flatX l).set (k * 12 + 11) (.bool b) = flatX (l.set k { x with told := b }) := flatE_set encX_size l hk (by decide) (by rw [hx]; rfl)
theorem plainX (x : Lt) : plain deep (encX x) = true := plain_of (d := 1) (by simp [plain, constOk1]) (by decide)
theorem over68 (x : Lt) (now : Int) (H : World) (Q : Value → World → Prop) : FW X 68 #[encX x, .int .i64 now] H Q = Q (.bool (overL' x now)) H := by
  refine FW.aloneEq ?_ Try.func68 Try.ntmps68 rfl (by simp) ?_ H Q
  · have := plainX x
    simp [X, this, plainDI]
  unfold overL'
  by_cases h0 : 0 < x.unt <;> simp [szO, h0]
set_option maxRecDepth 100000 in
theorem Valid56 (x : Le) (H : World) (Q : Value → World → Prop) : FW X 56 #[encL x] H Q = Q (.bool (validW x)) H := by
  refine FW.aloneEq ?_ Try.func56 Try.ntmps56 rfl (by simp) ?_ H Q
  · simp [X, plainL]
  unfold validW
  simp [szO]
  have e1 : ((x.body.length : Int) ≤ 1000) = (x.body.length ≤ 1000) := by apply propext; omega
  have e2 : ((x.target.length : Int) ≤ 1000) = (x.target.length ≤ 1000) := by apply propext; omega
  by_cases h1 : x.pri < 0
  · simp [h1, show ¬ 0 ≤ x.pri by omega]
  have h1 : 0 ≤ x.pri := by omega
  by_cases h2 : 100 < x.pri
  · simp [h1, show ¬ x.pri ≤ 100 by omega]
  have h2 : x.pri ≤ 100 := by omega
  by_cases h3 : x.unt < 0
  · simp [h1, h2, show ¬ 0 ≤ x.unt by omega]
  have h3 : 0 ≤ x.unt := by omega
  by_cases h4 : 1000000000000 < x.unt
  · simp [h1, h2, h3, show ¬ x.unt ≤ 1000000000000 by omega]
  have h4 : x.unt ≤ 1000000000000 := by omega
  by_cases h5 : x.tries < 1
  · simp [h1, h2, h3, h4, show ¬ 1 ≤ x.tries by omega]
  have h5 : 1 ≤ x.tries := by omega
  by_cases h6 : 20 < x.tries
  · simp [h1, h2, h3, h4, h5, show ¬ x.tries ≤ 20 by omega]
  have h6 : x.tries ≤ 20 := by omega
  by_cases h7 : x.body.length ≤ 1000
  · simp [h1, h2, h3, h4, h5, h6, e1, e2, h7]
  · simp [h1, h2, h3, h4, h5, h6, e1, e2, h7]
theorem New22 (H : World) (o r q : Int) (Q : Value → World → Prop) : FW X 22 #[.int .i64 o, .int .i64 r, .int .i64 q] H Q =
    if okNew o r q = true then Q (.tuple #[p0 H.heap.size, .int .i64 0]) (pushObj H (refO ⟨o, r, q, 0, [], 0⟩ (.slice none 0 0))) else Q (.tuple #[.pointer none, .int .i64 7]) H := by
  unfold okNew
  by_cases h : (decide (1 ≤ o) && decide (o ≤ 4) && (decide (1 ≤ r) && decide (r ≤ 200)) && (decide (0 ≤ q) && decide (q ≤ 10000))) = true
  · rw [if_pos h]
    refine FW.eqE (by simp [X]) Try.func22 Try.ntmps22 rfl (by simp) ?_ Q
    simp at h
    obtain ⟨⟨⟨h1, h2⟩, h3, h4⟩, h5, h6⟩ := h
    simp [show ¬ o < 1 by omega, show ¬ 4 < o by omega, show ¬ r < 1 by omega, show ¬ 200 < r by omega, show ¬ q < 0 by omega, show ¬ 10000 < q by omega, buildQ, fillX, szO]
  · rw [if_neg h]
    refine FW.eqE (by simp [X]) Try.func22 Try.ntmps22 rfl (by simp) ?_ Q
    by_cases h1 : o < 1
    · simp [h1]
    by_cases h2 : 4 < o
    · simp [h1, h2]
    by_cases h3 : r < 1
    · simp [h1, h2, h3]
    by_cases h4 : 200 < r
    · simp [h1, h2, h3, h4]
    by_cases h5 : q < 0
    · simp [h1, h2, h3, h4, h5]
    by_cases h6 : 10000 < q
    · simp [h1, h2, h3, h4, h5, h6]
    · exfalso
      apply h
      simp
      omega
end Go.Proofs.Ytjecafhbhcjoaaa
end
