/- Helpers of this claim: an evaluator over plain values and its laws. -/
import Derived.Test.YtmmmdmandocbhaaPb
section
set_option linter.unusedVariables false
set_option linter.unusedSimpArgs false
namespace Go.Proofs.Ytmmmdmandocbhaa.Den
def idxP (P : Program) (t : TypeId) (a : Addr) (i : Int) : Option Value :=
  match P.underlying t with
  | some (.array n e) => match P.info? e with
    | some inf => if 0 ≤ i ∧ i < n then some (.pointer (some (a.add (i.toNat * inf.size)))) else none
    | none => none
  | _ => none
@[simp] theorem indexAddrQ_ptr {P : Program} {t : TypeId} (a : Addr) (k : IntKind) (i : Int) : indexAddrQ P t (.pointer (some a)) (.int k i) = idxP P t a i := by
  unfold indexAddrQ
  simp only [vIndexAddr]
  rfl
end Go.Proofs.Ytmmmdmandocbhaa.Den
namespace Go.Proofs.Ytmmmdmandocbhaa
open Go Go.Proofs.Ytmmmdmandocbhaa.Den
/-- A slice value stands in no row of this number. -/
def ApO (v : Value) (i : Nat) : Prop := ∀ r o n c, v = .slice (some ⟨r, o, none⟩) n c → i ≠ r
def Nums (H : World) (v : Value) (l : List Int) : Prop := (v = .slice none 0 0 ∧ l = []) ∨ ∃ r c fr, v = .slice (some ⟨r, 0, none⟩) l.length c ∧ getO H r = some (.cells (l.map (Value.int .i64)).toArray 3 fr)
def Fls (H : World) (v : Value) (l : List Fl) : Prop := (v = .slice none 0 0 ∧ l = []) ∨ ∃ r pre, v = .slice (some ⟨r, pre.length * 6, none⟩) l.length l.length ∧ getO H r = some (.cells (flatE encF (pre ++ l)).toArray 83 (1, 0))
structure NSt (H : World) (b : Nat) (n : NN) (vn vf : Value) : Prop where
  net : getO H b = some (netO n vn vf)
  wf : WF n
  nums : Nums H vn n.nums
  fl : Fls H vf n.fl
  apn : ApO vn b
  apf : ApO vf b
  apx : ∀ r o m c, vn = .slice (some ⟨r, o, none⟩) m c → ApO vf r
structure FrN (H H' : World) (b : Nat) (vf vf' : Value) : Prop where
  keep : ∀ j o, getO H j = some o → j ≠ b → ApO vf j → getO H' j = some o
  fresh : ∀ j, j < H.heap.size → j ≠ b → ApO vf j → ApO vf' j
  size : H.heap.size ≤ H'.heap.size
section
variable {H H' H2 : World} {b : Nat} {n n' : NN} {vn vf vf' v2 : Value}
theorem FrN.refl : FrN H H b vf vf := ⟨fun _ _ h _ _ => h, fun _ _ _ h1 => h1, Nat.le_refl _⟩
theorem FrN.trans (h : FrN H H' b vf vf') (g : FrN H' H2 b vf' v2) : FrN H H2 b vf v2 :=
  ⟨fun j o h1 h2 h3 => g.keep j o (h.keep j o h1 h2 h3) h2 (h.fresh j (getO_lt h1) h2 h3),
   fun j h1 h2 h3 => g.fresh j (Nat.lt_of_lt_of_le h1 h.size) h2 (h.fresh j h1 h2 h3), Nat.le_trans h.size g.size⟩
theorem FrN.push (o : Obj) : FrN H (pushObj H o) b vf vf := ⟨fun j o' h1 _ _ => by have := getO_lt h1; rw [get_push, if_neg (by omega)]; exact h1, fun _ _ _ h1 => h1, by simp⟩
theorem FrN.setB (o : Obj) : FrN H (setO H b o) b vf vf := ⟨fun j o' h1 h2 _ => by rw [get_set, if_neg h2]; exact h1, fun _ _ _ h1 => h1, by simp⟩
theorem FrN.setFresh (h : FrN H H' b vf vf') {i : Nat} (o : Obj) (hi : H.heap.size ≤ i) : FrN H (setO H' i o) b vf vf' :=
  ⟨fun j o' h1 h2 h3 => by have := getO_lt h1; rw [get_set, if_neg (by omega)]; exact h.keep j o' h1 h2 h3, h.fresh, by simpa using h.size⟩
theorem FrN.ofKeep (hk : Keep H H') (hs : H.heap.size ≤ H'.heap.size) : FrN H H' b vf vf := ⟨fun j o h _ _ => hk _ _ h, fun _ _ _ h => h, hs⟩
theorem Nums.imp {l : List Int} (h : Nums H vn l) (hk : ∀ r o m c, vn = .slice (some ⟨r, o, none⟩) m c → ∀ x, getO H r = some x → getO H' r = some x) : Nums H' vn l := by
  rcases h with h | ⟨r, c, fr, rfl, h⟩
  · exact .inl h
  · exact .inr ⟨r, c, fr, rfl, hk _ _ _ _ rfl _ h⟩
theorem Fls.imp {l : List Fl} (h : Fls H vf l) (hk : ∀ r o m c, vf = .slice (some ⟨r, o, none⟩) m c → ∀ x, getO H r = some x → getO H' r = some x) : Fls H' vf l := by
  rcases h with h | ⟨r, pre, rfl, h⟩
  · exact .inl h
  · exact .inr ⟨r, pre, rfl, hk _ _ _ _ rfl _ h⟩
theorem NSt.keep (h : NSt H b n vn vf) (hk : Keep H H') : NSt H' b n vn vf :=
  ⟨hk _ _ h.net, h.wf, h.nums.imp fun _ _ _ _ _ x hx => hk _ _ hx, h.fl.imp fun _ _ _ _ _ x hx => hk _ _ hx, h.apn, h.apf, h.apx⟩
theorem NSt.push (h : NSt H b n vn vf) (o : Obj) : NSt (pushObj H o) b n vn vf := h.keep fun j x hj => by have := getO_lt hj; rw [get_push, if_neg (by omega)]; exact hj
/-- The network's own cells are written. -/
theorem NSt.write (h : NSt H b n vn vf) (n' : NN) (hw : WF n') (h1 : n'.nums = n.nums) (h2 : n'.fl = n.fl) : NSt (setO H b (netO n' vn vf)) b n' vn vf := by
  have hb := getO_lt h.net
  refine ⟨by simp [hb], hw, h1 ▸ h.nums.imp fun r o m c e x hx => ?_, h2 ▸ h.fl.imp fun r o m c e x hx => ?_, h.apn, h.apf, h.apx⟩
  · rw [get_set, if_neg (fun e' => h.apn _ _ _ _ e e'.symm)]; exact hx
  · rw [get_set, if_neg (fun e' => h.apf _ _ _ _ e e'.symm)]; exact hx
theorem NSt.setO' (h : NSt H b n vn vf) {i : Nat} (o : Obj) (hb : i ≠ b) (hn : ApO vn i) (hf : ApO vf i) : NSt (setO H i o) b n vn vf := by
  refine ⟨by rw [get_set, if_neg (fun e => hb e.symm)]; exact h.net, h.wf, h.nums.imp fun r o m c e x hx => ?_, h.fl.imp fun r o m c e x hx => ?_, h.apn, h.apf, h.apx⟩
  · rw [get_set, if_neg (fun e' => hn _ _ _ _ e e'.symm)]; exact hx
  · rw [get_set, if_neg (fun e' => hf _ _ _ _ e e'.symm)]; exact hx
/-- What is beyond the memory is no row of a network. -/
theorem NSt.fresh (h : NSt H b n vn vf) {i : Nat} (hi : H.heap.size ≤ i) : i ≠ b ∧ ApO vn i ∧ ApO vf i := by
  have hb := getO_lt h.net
  refine ⟨by omega, fun r o m c e => ?_, fun r o m c e => ?_⟩
  · rcases h.nums with ⟨e2, _⟩ | ⟨r', c', fr, e2, hr⟩
    · rw [e2] at e; cases e
    · rw [e2] at e; cases e; have := getO_lt hr; omega
  · rcases h.fl with ⟨e2, _⟩ | ⟨r', pre, e2, hr⟩
    · rw [e2] at e; cases e
    · rw [e2] at e; cases e; have := getO_lt hr; omega
end
theorem cN_le {n : NN} {vn vf : Value} (h : WF n) {k : Nat} (hk : k ≤ 1066) : k ≤ (cellsN n vn vf).length := by rw [cN_size h]; exact hk
theorem Nums.len {H H0 : World} {v : Value} {l : List Int} (h : Nums H v l) : builtinX Try.prog .len #[29] #[v] H0 = some (.value (.int .i64 l.length), H0) := by
  rcases h with ⟨rfl, rfl⟩ | ⟨r, c, fr, rfl, h⟩ <;> simp
theorem Fls.len {H H0 : World} {v : Value} {l : List Fl} (h : Fls H v l) : builtinX Try.prog .len #[76] #[v] H0 = some (.value (.int .i64 l.length), H0) := by
  rcases h with ⟨rfl, rfl⟩ | ⟨r, c, rfl, h⟩ <;> simp
@[simp] theorem nptr_nil (b : Nat) {x y : Operand} {H : World} : binX Try.prog .eql 25 x y (p0 b) (.pointer none) H = some (.value (.bool false), H) := (bX_ptr_nil Try.underlying25).1
@[simp] theorem nptr_nil2 {x y : Operand} {H : World} : binX Try.prog .eql 25 x y (.pointer none) (.pointer none) H = some (.value (.bool true), H) := bX_ptr_nil2 Try.underlying25
set_option maxRecDepth 100000 in
theorem now10 {H : World} {b : Nat} {n : NN} {vn vf : Value} (st : NSt H b n vn vf) {Q : Value → World → Prop} (hq : Q (.int .i64 n.now) H) : FW X 10 #[p0 b] H Q := by
  refine FW.walk (by simp [X, sp17_no]) Try.func10 Try.ntmps10 rfl (by simp) ?_
  have h := st.net
  simp [h]
  exact hq
set_option maxRecDepth 100000 in
theorem counts12 {H : World} {b : Nat} {n : NN} {vn vf : Value} (st : NSt H b n vn vf) {Q : Value → World → Prop} (hq : Q (.tuple #[.int .i64 n.sent, .int .i64 n.arr, .int .i64 n.lost, .int .i64 n.dbl]) H) : FW X 12 #[p0 b] H Q := by
  refine FW.walk (by simp [X, sp17_no]) Try.func12 Try.ntmps12 rfl (by simp) ?_
  have h := st.net
  simp
  refine WP.draw0 (by decide +kernel) (by decide +kernel) ?_
  simp [h]
  exact hq
set_option maxRecDepth 100000 in
theorem under14 {H : World} {b : Nat} {n : NN} {vn vf : Value} (st : NSt H b n vn vf) {Q : Value → World → Prop} (hq : Q (.int .i64 n.fl.length) H) : FW X 14 #[p0 b] H Q := by
  refine FW.walk (by simp [X, sp17_no]) Try.func14 Try.ntmps14 rfl (by simp) ?_
  have h := st.net
  have hl := fun H0 => st.fl.len (H0 := H0)
  have h2 := cN_fl (vn := vn) (vf := vf) st.wf
  simp [h, h2, hl]
  exact hq
end Go.Proofs.Ytmmmdmandocbhaa
end
