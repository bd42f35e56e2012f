/- Helpers of this claim: an evaluator over plain values and its laws. -/
import Derived.Test.YtmmmdmandocbhaaDoorIns
import Derived.KernelRfl
section
set_option linter.unusedVariables false
set_option linter.unusedSimpArgs false
namespace Go.Proofs.YtmmmdmandocbhaaDoor
open Go Go.Proofs.YtmmmdmandocbhaaDoor.Den
noncomputable def X : Cx := ⟨Tryd.prog, fun f => [4, 5, 29, 16, 35, 47].contains f, sp17⟩
@[simp] theorem XP : X.P = Tryd.prog := rfl
theorem sp17_no {f : Nat} (h : ¬ f = 44) (h1 : ¬ f = 37 := by decide) (h2 : ¬ f = 27 := by decide) (h3 : ¬ f = 24 := by decide) : sp17 f = none := by unfold sp17; rw [if_neg h, if_neg h1, if_neg h2, if_neg h3]
abbrev p0 (b : Nat) : Value := .pointer (some ⟨b, 0, none⟩)
/-- A link. -/
structure Lk where
  delay : Int
  jitter : Int
  loss : Int
  dbl : Int
abbrev encLk (x : Lk) : Value := .agg #[.int .i64 x.delay, .int .i64 x.jitter, .int .i64 x.loss, .int .i64 x.dbl]
theorem encLk_size (x : Lk) : (encLk x).cells.size = 4 := rfl
/-- A packet on its way. -/
structure Fl where
  id : Int
  frm : Int
  to : Int
  time : Int
  body : List UInt8
  twice : Bool
abbrev cellsF (x : Fl) : Array Value := #[.int .i64 x.id, .int .i64 x.frm, .int .i64 x.to, .int .i64 x.time, .string (sB x.body), .bool x.twice]
abbrev encF (x : Fl) : Value := .agg (cellsF x)
theorem encF_size (x : Fl) : (encF x).cells.size = 6 := rfl
/-- A network. -/
structure NN where
  sent : Int
  arr : Int
  lost : Int
  dbl : Int
  hosts : Int
  used : Int
  now : Int
  next : Int
  nums : List Int
  links : List Lk
  sides : List Int
  down : List Bool
  fl : List Fl
def cellsN (n : NN) (vn vf : Value) : List Value := [.int .i64 n.sent, .int .i64 n.arr, .int .i64 n.lost, .int .i64 n.dbl, .int .i64 n.hosts, vn, .int .i64 n.used, .int .i64 n.now, .int .i64 n.next] ++ (flatE encLk n.links ++ (n.sides.map (Value.int .i64) ++ (n.down.map Value.bool ++ [vf])))
abbrev netO (n : NN) (vn vf : Value) : Obj := .cells (cellsN n vn vf).toArray 59 (0, 0)
structure WF (n : NN) : Prop where
  links : n.links.length = 256
  sides : n.sides.length = 16
  down : n.down.length = 16
section
variable {n : NN} {vn vf : Value}
theorem cN_size (h : WF n) : (cellsN n vn vf).length = 1066 := by
  have := flatE_len encLk_size n.links
  simp [cellsN, this, h.links, h.sides, h.down]
@[simp] theorem cN0 : (cellsN n vn vf)[0]? = some (.int .i64 n.sent) := _root_.id rfl
@[simp] theorem cN1 : (cellsN n vn vf)[1]? = some (.int .i64 n.arr) := _root_.id rfl
@[simp] theorem cN2 : (cellsN n vn vf)[2]? = some (.int .i64 n.lost) := _root_.id rfl
@[simp] theorem cN3 : (cellsN n vn vf)[3]? = some (.int .i64 n.dbl) := _root_.id rfl
@[simp] theorem cN4 : (cellsN n vn vf)[4]? = some (.int .i64 n.hosts) := _root_.id rfl
@[simp] theorem cN5 : (cellsN n vn vf)[5]? = some vn := _root_.id rfl
@[simp] theorem cN6 : (cellsN n vn vf)[6]? = some (.int .i64 n.used) := _root_.id rfl
@[simp] theorem cN7 : (cellsN n vn vf)[7]? = some (.int .i64 n.now) := _root_.id rfl
@[simp] theorem cN8 : (cellsN n vn vf)[8]? = some (.int .i64 n.next) := _root_.id rfl
@[simp] theorem sN0 (x : Int) : (cellsN n vn vf).set 0 (.int .i64 x) = cellsN { n with sent := x } vn vf := _root_.id rfl
@[simp] theorem sN1 (x : Int) : (cellsN n vn vf).set 1 (.int .i64 x) = cellsN { n with arr := x } vn vf := _root_.id rfl
@[simp] theorem sN2 (x : Int) : (cellsN n vn vf).set 2 (.int .i64 x) = cellsN { n with lost := x } vn vf := _root_.id rfl
@[simp] theorem sN3 (x : Int) : (cellsN n vn vf).set 3 (.int .i64 x) = cellsN { n with dbl := x } vn vf := _root_.id rfl
@[simp] theorem sN6 (x : Int) : (cellsN n vn vf).set 6 (.int .i64 x) = cellsN { n with used := x } vn vf := _root_.id rfl
@[simp] theorem sN7 (x : Int) : (cellsN n vn vf).set 7 (.int .i64 x) = cellsN { n with now := x } vn vf := _root_.id rfl
@[simp] theorem sN8 (x : Int) : (cellsN n vn vf).set 8 (.int .i64 x) = cellsN { n with next := x } vn vf := _root_.id rfl
theorem cN_tail (k : Nat) : (cellsN n vn vf)[9 + k]? = (flatE encLk n.links ++ (n.sides.map (Value.int .i64) ++ (n.down.map Value.bool ++ [vf])))[k]? := by
  unfold cellsN
  rw [List.getElem?_append_right (by simp)]
  congr 1
  simp
theorem cN_fl (h : WF n) : (cellsN n vn vf)[1065]? = some vf := by
  have := flatE_len encLk_size n.links
  rw [show 1065 = 9 + 1056 from rfl, cN_tail, List.getElem?_append_right (by simp [this, h.links]), List.getElem?_append_right (by simp [this, h.links, h.sides]), List.getElem?_append_right (by simp [this, h.links, h.sides, h.down])]
  simp [this, h.links, h.sides, h.down]
theorem sN_fl (h : WF n) (v : Value) : (cellsN n vn vf).set 1065 v = cellsN n vn v := by
  have := flatE_len encLk_size n.links
  unfold cellsN
  rw [List.set_append_right _ _ (by simp), List.set_append_right _ _ (by simp [this, h.links]), List.set_append_right _ _ (by simp [this, h.links, h.sides]), List.set_append_right _ _ (by simp [this, h.links, h.sides, h.down])]
  simp [this, h.links, h.sides, h.down]
theorem cN_side (h : WF n) {i : Nat} (hi : i < 16) : (cellsN n vn vf)[1033 + i]? = some (.int .i64 (n.sides[i]'(by rw [h.sides]; exact hi))) := by
  have := flatE_len encLk_size n.links
  rw [show 1033 + i = 9 + (1024 + i) by omega, cN_tail, List.getElem?_append_right (by simp [this, h.links]), List.getElem?_append_left (by simp [this, h.links, h.sides, hi])]
  simp [this, h.links, List.getElem?_eq_getElem (by rw [h.sides]; exact hi : i < n.sides.length)]
theorem cN_down (h : WF n) {i : Nat} (hi : i < 16) : (cellsN n vn vf)[1049 + i]? = some (.bool (n.down[i]'(by rw [h.down]; exact hi))) := by
  have := flatE_len encLk_size n.links
  rw [show 1049 + i = 9 + (1040 + i) by omega, cN_tail, List.getElem?_append_right (by simp [this, h.links]; omega), List.getElem?_append_right (by simp [this, h.links, h.sides]; omega), List.getElem?_append_left (by simp [this, h.links, h.sides, h.down]; omega)]
  simp [this, h.links, h.sides]
  rw [show 1040 + i - 1024 - 16 = i by omega, List.getElem?_eq_getElem (by rw [h.down]; exact hi : i < n.down.length)]
theorem sN_down (h : WF n) {i : Nat} (hi : i < 16) (b : Bool) : (cellsN n vn vf).set (1049 + i) (.bool b) = cellsN { n with down := n.down.set i b } vn vf := by
  have := flatE_len encLk_size n.links
  unfold cellsN
  rw [List.set_append_right _ _ (by simp; omega), List.set_append_right _ _ (by simp [this, h.links]; omega), List.set_append_right _ _ (by simp [this, h.links, h.sides]; omega), List.set_append_left _ _ (by simp [this, h.links, h.sides, h.down]; omega)]
  simp [this, h.links, h.sides]
  rw [show 1049 + i - 9 - 1024 - 16 = i by omega]
theorem cN_link (h : WF n) {k j : Nat} (hk : k < 256) (hj : j < 4) : (cellsN n vn vf)[9 + k * 4 + j]? = (encLk (n.links[k]'(by rw [h.links]; exact hk))).cells[j]? := by
  have := flatE_len encLk_size n.links
  rw [show 9 + k * 4 + j = 9 + (k * 4 + j) by omega, cN_tail, List.getElem?_append_left (by simp [this, h.links]; omega), flatE_get encLk_size _ (by rw [h.links]; exact hk) hj]
theorem sN_link (h : WF n) {k j : Nat} (hk : k < 256) (hj : j < 4) {c : Value} {x : Lk} (hx : (encLk x).cells = (encLk (n.links[k]'(by rw [h.links]; exact hk))).cells.setIfInBounds j c) : (cellsN n vn vf).set (9 + k * 4 + j) c = cellsN { n with links := n.links.set k x } vn vf := by
  have := flatE_len encLk_size n.links
  unfold cellsN
  rw [List.set_append_right _ _ (by simp; omega), List.set_append_left _ _ (by simp [this, h.links]; omega)]
  simp only [List.length_cons, List.length_nil]
  rw [show 9 + k * 4 + j - (0 + 1 + 1 + 1 + 1 + 1 + 1 + 1 + 1 + 1) = k * 4 + j by omega, flatE_set encLk_size _ (by rw [h.links]; exact hk) hj hx]
end
end Go.Proofs.YtmmmdmandocbhaaDoor
end

section
set_option linter.unusedVariables false
set_option linter.unusedSimpArgs false
namespace Go.Proofs.YtmmmdmandocbhaaDoor.Den
def idxP (P : Program) (t : TypeId) (a : Addr) (i : Int) : Option Value :=
  match P.underlying t with
  | some (.array n e) => match P.info? e with
    | some inf => if 0 ≤ i ∧ i < n then some (.pointer (some (a.add (i.toNat * inf.size)))) else none
    | none => none
  | _ => none
@[simp] theorem indexAddrQ_ptr {P : Program} {t : TypeId} (a : Addr) (k : IntKind) (i : Int) : indexAddrQ P t (.pointer (some a)) (.int k i) = idxP P t a i := by
  unfold indexAddrQ
  simp only [vIndexAddr]
  rfl
end Go.Proofs.YtmmmdmandocbhaaDoor.Den
namespace Go.Proofs.YtmmmdmandocbhaaDoor
open Go Go.Proofs.YtmmmdmandocbhaaDoor.Den
/-- A slice value stands in no row of this number. -/
def ApO (v : Value) (i : Nat) : Prop := ∀ r o n c, v = .slice (some ⟨r, o, none⟩) n c → i ≠ r
def Nums (H : World) (v : Value) (l : List Int) : Prop := (v = .slice none 0 0 ∧ l = []) ∨ ∃ r c fr, v = .slice (some ⟨r, 0, none⟩) l.length c ∧ getO H r = some (.cells (l.map (Value.int .i64)).toArray 3 fr)
def Fls (H : World) (v : Value) (l : List Fl) : Prop := (v = .slice none 0 0 ∧ l = []) ∨ ∃ r pre, v = .slice (some ⟨r, pre.length * 6, none⟩) l.length l.length ∧ getO H r = some (.cells (flatE encF (pre ++ l)).toArray 76 (1, 0))
structure NSt (H : World) (b : Nat) (n : NN) (vn vf : Value) : Prop where
  net : getO H b = some (netO n vn vf)
  wf : WF n
  nums : Nums H vn n.nums
  fl : Fls H vf n.fl
  apn : ApO vn b
  apf : ApO vf b
  apx : ∀ r o m c, vn = .slice (some ⟨r, o, none⟩) m c → ApO vf r
structure FrN (H H' : World) (b : Nat) (vf vf' : Value) : Prop where
  keep : ∀ j o, getO H j = some o → j ≠ b → ApO vf j → getO H' j = some o
  fresh : ∀ j, j < H.heap.size → j ≠ b → ApO vf j → ApO vf' j
  size : H.heap.size ≤ H'.heap.size
section
variable {H H' H2 : World} {b : Nat} {n n' : NN} {vn vf vf' v2 : Value}
theorem FrN.refl : FrN H H b vf vf := ⟨fun _ _ h _ _ => h, fun _ _ _ h1 => h1, Nat.le_refl _⟩
theorem FrN.trans (h : FrN H H' b vf vf') (g : FrN H' H2 b vf' v2) : FrN H H2 b vf v2 :=
  ⟨fun j o h1 h2 h3 => g.keep j o (h.keep j o h1 h2 h3) h2 (h.fresh j (getO_lt h1) h2 h3),
   fun j h1 h2 h3 => g.fresh j (Nat.lt_of_lt_of_le h1 h.size) h2 (h.fresh j h1 h2 h3), Nat.le_trans h.size g.size⟩
theorem FrN.push (o : Obj) : FrN H (pushObj H o) b vf vf := ⟨fun j o' h1 _ _ => by have := getO_lt h1; rw [get_push, if_neg (by omega)]; exact h1, fun _ _ _ h1 => h1, by simp⟩
theorem FrN.setB (o : Obj) : FrN H (setO H b o) b vf vf := ⟨fun j o' h1 h2 _ => by rw [get_set, if_neg h2]; exact h1, fun _ _ _ h1 => h1, by simp⟩
theorem FrN.setFresh (h : FrN H H' b vf vf') {i : Nat} (o : Obj) (hi : H.heap.size ≤ i) : FrN H (setO H' i o) b vf vf' :=
  ⟨fun j o' h1 h2 h3 => by have := getO_lt h1; rw [get_set, if_neg (by omega)]; exact h.keep j o' h1 h2 h3, h.fresh, by simpa using h.size⟩
theorem FrN.ofKeep (hk : Keep H H') (hs : H.heap.size ≤ H'.heap.size) : FrN H H' b vf vf := ⟨fun j o h _ _ => hk _ _ h, fun _ _ _ h => h, hs⟩
theorem Nums.imp {l : List Int} (h : Nums H vn l) (hk : ∀ r o m c, vn = .slice (some ⟨r, o, none⟩) m c → ∀ x, getO H r = some x → getO H' r = some x) : Nums H' vn l := by
  rcases h with h | ⟨r, c, fr, rfl, h⟩
  · exact .inl h
  · exact .inr ⟨r, c, fr, rfl, hk _ _ _ _ rfl _ h⟩
theorem Fls.imp {l : List Fl} (h : Fls H vf l) (hk : ∀ r o m c, vf = .slice (some ⟨r, o, none⟩) m c → ∀ x, getO H r = some x → getO H' r = some x) : Fls H' vf l := by
  rcases h with h | ⟨r, pre, rfl, h⟩
  · exact .inl h
  · exact .inr ⟨r, pre, rfl, hk _ _ _ _ rfl _ h⟩
theorem NSt.keep (h : NSt H b n vn vf) (hk : Keep H H') : NSt H' b n vn vf :=
  ⟨hk _ _ h.net, h.wf, h.nums.imp fun _ _ _ _ _ x hx => hk _ _ hx, h.fl.imp fun _ _ _ _ _ x hx => hk _ _ hx, h.apn, h.apf, h.apx⟩
theorem NSt.push (h : NSt H b n vn vf) (o : Obj) : NSt (pushObj H o) b n vn vf := h.keep fun j x hj => by have := getO_lt hj; rw [get_push, if_neg (by omega)]; exact hj
/-- The network's own cells are written. -/
theorem NSt.write (h : NSt H b n vn vf) (n' : NN) (hw : WF n') (h1 : n'.nums = n.nums) (h2 : n'.fl = n.fl) : NSt (setO H b (netO n' vn vf)) b n' vn vf := by
  have hb := getO_lt h.net
  refine ⟨by simp [hb], hw, h1 ▸ h.nums.imp fun r o m c e x hx => ?_, h2 ▸ h.fl.imp fun r o m c e x hx => ?_, h.apn, h.apf, h.apx⟩
  · rw [get_set, if_neg (fun e' => h.apn _ _ _ _ e e'.symm)]; exact hx
  · rw [get_set, if_neg (fun e' => h.apf _ _ _ _ e e'.symm)]; exact hx
theorem NSt.setO' (h : NSt H b n vn vf) {i : Nat} (o : Obj) (hb : i ≠ b) (hn : ApO vn i) (hf : ApO vf i) : NSt (setO H i o) b n vn vf := by
  refine ⟨by rw [get_set, if_neg (fun e => hb e.symm)]; exact h.net, h.wf, h.nums.imp fun r o m c e x hx => ?_, h.fl.imp fun r o m c e x hx => ?_, h.apn, h.apf, h.apx⟩
  · rw [get_set, if_neg (fun e' => hn _ _ _ _ e e'.symm)]; exact hx
  · rw [get_set, if_neg (fun e' => hf _ _ _ _ e e'.symm)]; exact hx
/-- What is beyond the memory is no row of a network. -/
theorem NSt.fresh (h : NSt H b n vn vf) {i : Nat} (hi : H.heap.size ≤ i) : i ≠ b ∧ ApO vn i ∧ ApO vf i := by
  have hb := getO_lt h.net
  refine ⟨by omega, fun r o m c e => ?_, fun r o m c e => ?_⟩
  · rcases h.nums with ⟨e2, _⟩ | ⟨r', c', fr, e2, hr⟩
    · rw [e2] at e; cases e
    · rw [e2] at e; cases e; have := getO_lt hr; omega
  · rcases h.fl with ⟨e2, _⟩ | ⟨r', pre, e2, hr⟩
    · rw [e2] at e; cases e
    · rw [e2] at e; cases e; have := getO_lt hr; omega
end
theorem cN_le {n : NN} {vn vf : Value} (h : WF n) {k : Nat} (hk : k ≤ 1066) : k ≤ (cellsN n vn vf).length := by rw [cN_size h]; exact hk
theorem Nums.len {H H0 : World} {v : Value} {l : List Int} (h : Nums H v l) : builtinX Tryd.prog .len #[22] #[v] H0 = some (.value (.int .i64 l.length), H0) := by
  rcases h with ⟨rfl, rfl⟩ | ⟨r, c, fr, rfl, h⟩ <;> simp
theorem Fls.len {H H0 : World} {v : Value} {l : List Fl} (h : Fls H v l) : builtinX Tryd.prog .len #[57] #[v] H0 = some (.value (.int .i64 l.length), H0) := by
  rcases h with ⟨rfl, rfl⟩ | ⟨r, c, rfl, h⟩ <;> simp
@[simp] theorem nptr_nil (b : Nat) {x y : Operand} {H : World} : binX Tryd.prog .eql 26 x y (p0 b) (.pointer none) H = some (.value (.bool false), H) := (bX_ptr_nil Tryd.underlying26).1
@[simp] theorem nptr_nil2 {x y : Operand} {H : World} : binX Tryd.prog .eql 26 x y (.pointer none) (.pointer none) H = some (.value (.bool true), H) := bX_ptr_nil2 Tryd.underlying26
set_option maxRecDepth 100000 in
theorem now10 {H : World} {b : Nat} {n : NN} {vn vf : Value} (st : NSt H b n vn vf) {Q : Value → World → Prop} (hq : Q (.int .i64 n.now) H) : FW X 14 #[p0 b] H Q := by
  refine FW.walk (by simp [X, sp17_no]) Tryd.func14 Tryd.ntmps14 rfl (by simp) ?_
  have h := st.net
  simp [h]
  exact hq
end Go.Proofs.YtmmmdmandocbhaaDoor
end

section
set_option linter.unusedVariables false
set_option linter.unusedSimpArgs false
namespace Go.Proofs.YtmmmdmandocbhaaDoor
open Go Go.Proofs.YtmmmdmandocbhaaDoor.Den
/-- The next number, and the network behind it. -/
def pNum (n : NN) : Int × NN := match n.nums[n.used.toNat]? with
  | some k => (k, { n with used := n.used + 1 })
  | none => (0, n)
structure Used (n : NN) : Prop where
  lo : 0 ≤ n.used
  hi : n.used ≤ n.nums.length
  len : n.nums.length ≤ 10010
set_option maxRecDepth 100000 in
theorem number45 {H : World} {b : Nat} {n : NN} {vn vf : Value} (st : NSt H b n vn vf) (hu : Used n) {Q : Value → World → Prop}
    (hq : ∀ H', NSt H' b (pNum n).2 vn vf → FrN H H' b vf vf → Q (.int .i64 (pNum n).1) H') : FW X 32 #[p0 b] H Q := by
  refine FW.walk (by simp [X, sp17_no]) Tryd.func32 Tryd.ntmps32 rfl (by simp) ?_
  have h := st.net
  have hl := fun H0 => st.nums.len (H0 := H0)
  obtain ⟨l1, l2, l3⟩ := hu
  simp
  refine WP.draw0 (by decide +kernel) (by decide +kernel) ?_
  by_cases he : n.used = n.nums.length
  · have e : n.nums[n.used.toNat]? = none := by rw [List.getElem?_eq_none]; omega
    have hp : pNum n = (0, n) := by unfold pNum; rw [e]
    rw [hp] at hq
    simp [h, hl, he]
    exact hq _ st FrN.refl
  · have hlt : n.used.toNat < n.nums.length := by omega
    have e : n.nums[n.used.toNat]? = some n.nums[n.used.toNat] := List.getElem?_eq_getElem hlt
    have hp : pNum n = (n.nums[n.used.toNat], { n with used := n.used + 1 }) := by unfold pNum; rw [e]
    rw [hp] at hq
    have hw : IntKind.i64.wrap (n.used + 1) = n.used + 1 := wrap64 (by omega) (by omega)
    have hw2 : IntKind.i64.wrap n.used = n.used := wrap64 (by omega) (by omega)
    have st2 := st.write { n with used := n.used + 1 } ⟨st.wf.links, st.wf.sides, st.wf.down⟩ rfl rfl
    have hb := getO_lt h
    have hz : 7 ≤ (cellsN n vn vf).length := cN_le st.wf (by decide)
    simp [h, hl, he, hb, hw, hz]
    have g2 := st2.net
    generalize hH2 : setO H b (netO { n with used := n.used + 1 } vn vf) = H2 at *
    refine WP.draw0 (by decide +kernel) (by decide +kernel) ?_
    rcases st2.nums with ⟨_, h0⟩ | ⟨r, c, fr, rfl, hr⟩
    · simp at h0; rw [h0] at hlt; simp at hlt
    simp at hr
    have hlt2 : n.used < n.nums.length := by omega
    simp [g2, hw2, idxS, l1, hlt2, hr, e]
    refine hq _ st2 ?_
    rw [← hH2]; exact FrN.setB _
theorem new40 (H : World) (i : Int) (Q : Value → World → Prop) : FW X 16 #[.int .i64 i] H Q = Q (.bool (decide (i < 0))) H := by
  refine FW.aloneEq ?_ Tryd.func16 Tryd.ntmps16 rfl (by simp) ?_ H Q
  · simp [X, plainDI]
  simp
theorem plainLk1 (x : Lk) : plain 1 (encLk x) = true := by simp [plain, constOk1]
theorem plainLk (x : Lk) : plain deep (encLk x) = true := plain_of (d := 1) (plainLk1 x) (by decide)
def vLink (l : Lk) : Bool := decide (0 ≤ l.delay ∧ l.delay ≤ 1000 ∧ 0 ≤ l.jitter ∧ l.jitter ≤ 1000 ∧ 0 ≤ l.loss ∧ l.loss ≤ 100 ∧ 0 ≤ l.dbl ∧ l.dbl ≤ 100)
set_option maxRecDepth 100000 in
theorem valid19 (H : World) (l : Lk) (Q : Value → World → Prop) : FW X 29 #[encLk l] H Q = Q (.bool (vLink l)) H := by
  refine FW.aloneEq ?_ Tryd.func29 Tryd.ntmps29 rfl (by simp) ?_ H Q
  · simp only [X, plainLk]; simp [plainLk]
  by_cases h0 : 0 ≤ l.delay
  rotate_left
  · simp [vLink, h0]
  by_cases h1 : l.delay ≤ 1000
  rotate_left
  · simp [vLink, h0, h1]
  by_cases h2 : 0 ≤ l.jitter
  rotate_left
  · simp [vLink, h0, h1, h2]
  by_cases h3 : l.jitter ≤ 1000
  rotate_left
  · simp [vLink, h0, h1, h2, h3]
  by_cases h4 : 0 ≤ l.loss
  rotate_left
  · simp [vLink, h0, h1, h2, h3, h4]
  by_cases h5 : l.loss ≤ 100
  rotate_left
  · simp [vLink, h0, h1, h2, h3, h4, h5]
  by_cases h6 : 0 ≤ l.dbl
  rotate_left
  · simp [vLink, h0, h1, h2, h3, h4, h5, h6]
  by_cases h7 : l.dbl ≤ 100
  rotate_left
  · simp [vLink, h0, h1, h2, h3, h4, h5, h6, h7]
  simp [vLink, h0, h1, h2, h3, h4, h5, h6, h7]
set_option maxRecDepth 100000 in
theorem has59 {H : World} {b c : Nat} {n : NN} {vn vf : Value} (hn : getO H b = some (netO n vn vf)) (hc : getO H c = some (.cells #[p0 b] 26 (0, 0))) (i : Int) (Q : Value → World → Prop) : FW X 41 #[.int .i64 i, p0 c] H Q = Q (.bool (decide (i < 0 ∨ n.hosts ≤ i))) H := by
  refine FW.eqE (by simp [X, sp17_no]) Tryd.func41 Tryd.ntmps41 rfl (by simp) ?_ Q
  by_cases h : i < 0
  · simp [hc, hn, h]
  · by_cases h2 : n.hosts ≤ i
    · simp [hc, hn, h, h2]
    · simp [hc, hn, h, h2]
/-- A row of numbers that can be read. -/
structure Rd (H : World) (v : Value) (l : List Int) : Prop where
  len : ∀ H0, builtinX Tryd.prog .len #[22] #[v] H0 = some (.value (.int .i64 l.length), H0)
  get : ∀ i (h : i < l.length), ∃ a, indexAddrQ Tryd.prog 22 v (.int .i64 i) = some a ∧ loadX Tryd.prog 3 a H = some (.value (.int .i64 l[i]), H)
theorem Rd.row {H : World} {r c : Nat} {l : List Int} {e : TypeId} {fr : Nat × Nat} (h : getO H r = some (.cells (l.map (Value.int .i64)).toArray e fr)) : Rd H (.slice (some ⟨r, 0, none⟩) l.length c) l :=
  ⟨fun H0 => by simp, fun i hi => ⟨.pointer (some ⟨r, i, none⟩), by simp [idxS, hi], by simp [h, hi]⟩⟩
theorem Rd.slV {H : World} {o : Option (List Int)} : Rd H (slV 1 (o.map fun l => l.map (Value.int .i64))) (o.getD []) :=
  ⟨fun H0 => by cases o <;> simp, fun i hi => by
    cases o with
    | none => simp at hi
    | some l => simp at hi; exact ⟨rf #[.int .i64 l[i]], by simp [idxV, hi, Value.cells], by simp⟩⟩
def idxF (p : Int → Bool) (l : List Int) : Int := match l.findIdx? p with
  | some i => i
  | none => -1
theorem findIdx_none {p : Int → Bool} {l : List Int} (h : ∀ k (hk : k < l.length), p l[k] = false) : l.findIdx? p = none := by
  rw [List.findIdx?_eq_none_iff]
  intro x hx
  obtain ⟨k, hk, rfl⟩ := List.getElem_of_mem hx
  exact h k hk
theorem any_of_none {p : Int → Bool} {l : List Int} (h : ∀ k (hk : k < l.length), p l[k] = false) : l.any p = false := by
  rw [List.any_eq_false]
  intro x hx
  obtain ⟨k, hk, rfl⟩ := List.getElem_of_mem hx
  rw [h k hk]; simp
set_option maxRecDepth 100000 in
theorem index57 {H : World} {v : Value} {l : List Int} (hv : Rd H v l) (hl : l.length < 2 ^ 62) {g : Nat} {cs : List Value} {p : Int → Bool} (hg : isFn Tryd.prog g = true) (hf : ∀ x Q, FW X g (#[.int .i64 x] ++ cs.toArray) H Q = Q (.bool (p x)) H) {Q : Value → World → Prop}
    (hq : ∀ i : Int, (decide (0 ≤ i)) = l.any p → Q (.int .i64 i) H) : FW X 34 #[v, .func (.func g) #[] cs.toArray] H Q := by
  refine FW.walk (by simp [X, sp17_no]) Tryd.func34 Tryd.ntmps34 rfl (by simp) ?_
  have hlen := hv.len
  simp [hlen]
  refine CE.range (m := l.length) (fun k e H' => H' = H ∧ lk e 0 = v ∧ lk e 1 = .func (.func g) #[] cs.toArray ∧ ∀ j (hj : j < l.length), j < k → p l[j] = false) ?_ (by omega) ?_ ?_ ?_
  · decide
  · simp
  · rintro k e H' hk q1 q2 ⟨rfl, e0, e1, hno⟩
    obtain ⟨a, a1, a2⟩ := hv.get k hk
    have hf1 := fun Q => hf l[k] Q
    simp at hf1
    cases hp : p l[k] with
    | true =>
      simp [q1, q2, e0, e1, a1, a2, hf1, hp, hg]
      refine hq _ ?_
      simp
      exact ⟨_, List.getElem_mem hk, hp⟩
    | false =>
      simp [q1, q2, e0, e1, a1, a2, hf1, hp, hg]
      intro j hj hjk
      by_cases e : j = k
      · subst e; exact hp
      · exact hno j hj (by omega)
  · rintro e H' q1 q2 ⟨rfl, e0, e1, hno⟩
    simp
    refine hq _ ?_
    rw [any_of_none fun k hk => hno k hk hk]; decide
theorem contains39 {H : World} {v : Value} {l : List Int} (hv : Rd H v l) (hl : l.length < 2 ^ 62) {g : Nat} {cs : List Value} {p : Int → Bool} (hg : isFn Tryd.prog g = true) (hf : ∀ x Q, FW X g (#[.int .i64 x] ++ cs.toArray) H Q = Q (.bool (p x)) H) {Q : Value → World → Prop}
    (hq : Q (.bool (l.any p)) H) : FW X 15 #[v, .func (.func g) #[] cs.toArray] H Q := by
  refine FW.walk (by simp [X, sp17_no]) Tryd.func15 Tryd.ntmps15 rfl (by simp) ?_
  simp
  refine index57 hv hl hg hf fun i hi => ?_
  simp [hi]
  exact hq
theorem has43 {H : World} {b r : Nat} {n : NN} {vn vf : Value} (hn : getO H b = some (netO n vn vf)) {i j : Int} {e : TypeId} {fr : Nat × Nat} (hr : getO H r = some (.cells #[.int .i64 i, .int .i64 j] e fr)) {Q : Value → World → Prop}
    (hq : Q (.bool (decide (0 ≤ i ∧ i < n.hosts ∧ 0 ≤ j ∧ j < n.hosts))) (pushObj H (.cells #[p0 b] 26 (0, 0)))) : FW X 30 #[p0 b, .slice (some ⟨r, 0, none⟩) 2 2] H Q := by
  refine FW.walk (by simp [X, sp17_no]) Tryd.func30 Tryd.ntmps30 rfl (by simp) ?_
  have hrl := getO_lt hr
  have hbl := getO_lt hn
  simp
  refine contains39 (l := [i, j]) (cs := [p0 (szO H)]) (p := fun x => decide (x < 0 ∨ n.hosts ≤ x)) (Rd.row (e := e) (fr := fr) ?_) (by simp) (by simp) (fun x Q => has59 (b := b) (n := n) (vn := vn) (vf := vf) ?_ ?_ x Q) ?_
  · simp; rw [if_neg (by omega)]; exact hr
  · rw [get_push, if_neg (by omega)]; exact hn
  · simp
  have e : ([i, j].any fun x => decide (x < 0 ∨ n.hosts ≤ x)) = !decide (0 ≤ i ∧ i < n.hosts ∧ 0 ≤ j ∧ j < n.hosts) := by
    rw [Bool.eq_iff_iff]; simp; omega
  rw [e]
  generalize decide (0 ≤ i ∧ i < n.hosts ∧ 0 ≤ j ∧ j < n.hosts) = d at *
  simp
  exact hq
end Go.Proofs.YtmmmdmandocbhaaDoor
end
