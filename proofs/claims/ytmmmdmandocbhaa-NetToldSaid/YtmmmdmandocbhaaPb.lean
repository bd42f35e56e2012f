/- Helpers of this claim: an evaluator over plain values and its laws. -/
import Derived.Test.YtmmmdmandocbhaaIns
import Derived.KernelRfl
section
set_option linter.unusedVariables false
set_option linter.unusedSimpArgs false
namespace Go.Proofs.Ytmmmdmandocbhaa
open Go Go.Proofs.Ytmmmdmandocbhaa.Den
noncomputable def X : Cx := ⟨Try.prog, fun f => [6, 7, 19, 20, 40, 48, 63, 64].contains f, sp17⟩
@[simp] theorem XP : X.P = Try.prog := rfl
theorem sp17_no {f : Nat} (h : ¬ f = 62) : sp17 f = none := by unfold sp17; rw [if_neg h]
abbrev p0 (b : Nat) : Value := .pointer (some ⟨b, 0, none⟩)
/-- A link. -/
structure Lk where
  delay : Int
  jitter : Int
  loss : Int
  dbl : Int
abbrev encLk (x : Lk) : Value := .agg #[.int .i64 x.delay, .int .i64 x.jitter, .int .i64 x.loss, .int .i64 x.dbl]
theorem encLk_size (x : Lk) : (encLk x).cells.size = 4 := rfl
/-- A packet on its way. -/
structure Fl where
  id : Int
  frm : Int
  to : Int
  time : Int
  body : List UInt8
  twice : Bool
abbrev cellsF (x : Fl) : Array Value := #[.int .i64 x.id, .int .i64 x.frm, .int .i64 x.to, .int .i64 x.time, .string (sB x.body), .bool x.twice]
abbrev encF (x : Fl) : Value := .agg (cellsF x)
theorem encF_size (x : Fl) : (encF x).cells.size = 6 := rfl
/-- A network. -/
structure NN where
  sent : Int
  arr : Int
  lost : Int
  dbl : Int
  hosts : Int
  used : Int
  now : Int
  next : Int
  nums : List Int
  links : List Lk
  sides : List Int
  down : List Bool
  fl : List Fl
def cellsN (n : NN) (vn vf : Value) : List Value := [.int .i64 n.sent, .int .i64 n.arr, .int .i64 n.lost, .int .i64 n.dbl, .int .i64 n.hosts, vn, .int .i64 n.used, .int .i64 n.now, .int .i64 n.next] ++ (flatE encLk n.links ++ (n.sides.map (Value.int .i64) ++ (n.down.map Value.bool ++ [vf])))
abbrev netO (n : NN) (vn vf : Value) : Obj := .cells (cellsN n vn vf).toArray 78 (0, 0)
structure WF (n : NN) : Prop where
  links : n.links.length = 256
  sides : n.sides.length = 16
  down : n.down.length = 16
section
variable {n : NN} {vn vf : Value}
theorem cN_size (h : WF n) : (cellsN n vn vf).length = 1066 := by
  have := flatE_len encLk_size n.links
  simp [cellsN, this, h.links, h.sides, h.down]
@[simp] theorem cN0 : (cellsN n vn vf)[0]? = some (.int .i64 n.sent) := _root_.id rfl
@[simp] theorem cN1 : (cellsN n vn vf)[1]? = some (.int .i64 n.arr) := _root_.id rfl
@[simp] theorem cN2 : (cellsN n vn vf)[2]? = some (.int .i64 n.lost) := _root_.id rfl
@[simp] theorem cN3 : (cellsN n vn vf)[3]? = some (.int .i64 n.dbl) := _root_.id rfl
@[simp] theorem cN4 : (cellsN n vn vf)[4]? = some (.int .i64 n.hosts) := _root_.id rfl
@[simp] theorem cN5 : (cellsN n vn vf)[5]? = some vn := _root_.id rfl
@[simp] theorem cN6 : (cellsN n vn vf)[6]? = some (.int .i64 n.used) := _root_.id rfl
@[simp] theorem cN7 : (cellsN n vn vf)[7]? = some (.int .i64 n.now) := _root_.id rfl
@[simp] theorem cN8 : (cellsN n vn vf)[8]? = some (.int .i64 n.next) := _root_.id rfl
@[simp] theorem sN0 (x : Int) : (cellsN n vn vf).set 0 (.int .i64 x) = cellsN { n with sent := x } vn vf := _root_.id rfl
@[simp] theorem sN1 (x : Int) : (cellsN n vn vf).set 1 (.int .i64 x) = cellsN { n with arr := x } vn vf := _root_.id rfl
@[simp] theorem sN2 (x : Int) : (cellsN n vn vf).set 2 (.int .i64 x) = cellsN { n with lost := x } vn vf := _root_.id rfl
@[simp] theorem sN3 (x : Int) : (cellsN n vn vf).set 3 (.int .i64 x) = cellsN { n with dbl := x } vn vf := _root_.id rfl
@[simp] theorem sN6 (x : Int) : (cellsN n vn vf).set 6 (.int .i64 x) = cellsN { n with used := x } vn vf := _root_.id rfl
@[simp] theorem sN7 (x : Int) : (cellsN n vn vf).set 7 (.int .i64 x) = cellsN { n with now := x } vn vf := _root_.id rfl
@[simp] theorem sN8 (x : Int) : (cellsN n vn vf).set 8 (.int .i64 x) = cellsN { n with next := x } vn vf := _root_.id rfl
theorem cN_tail (k : Nat) : (cellsN n vn vf)[9 + k]? = (flatE encLk n.links ++ (n.sides.map (Value.int .i64) ++ (n.down.map Value.bool ++ [vf])))[k]? := by
  unfold cellsN
  rw [List.getElem?_append_right (by simp)]
  congr 1
  simp
theorem cN_fl (h : WF n) : (cellsN n vn vf)[1065]? = some vf := by
  have := flatE_len encLk_size n.links
  rw [show 1065 = 9 + 1056 from rfl, cN_tail, List.getElem?_append_right (by simp [this, h.links]), List.getElem?_append_right (by simp [this, h.links, h.sides]), List.getElem?_append_right (by simp [this, h.links, h.sides, h.down])]
  simp [this, h.links, h.sides, h.down]
theorem sN_fl (h : WF n) (v : Value) : (cellsN n vn vf).set 1065 v = cellsN n vn v := by
  have := flatE_len encLk_size n.links
  unfold cellsN
  rw [List.set_append_right _ _ (by simp), List.set_append_right _ _ (by simp [this, h.links]), List.set_append_right _ _ (by simp [this, h.links, h.sides]), List.set_append_right _ _ (by simp [this, h.links, h.sides, h.down])]
  simp [this, h.links, h.sides, h.down]
theorem cN_side (h : WF n) {i : Nat} (hi : i < 16) : (cellsN n vn vf)[1033 + i]? = some (.int .i64 (n.sides[i]'(by rw [h.sides]; exact hi))) := by
  have := flatE_len encLk_size n.links
  rw [show 1033 + i = 9 + (1024 + i) by omega, cN_tail, List.getElem?_append_right (by simp [this, h.links]), List.getElem?_append_left (by simp [this, h.links, h.sides, hi])]
  simp [this, h.links, List.getElem?_eq_getElem (by rw [h.sides]; exact hi : i < n.sides.length)]
theorem cN_down (h : WF n) {i : Nat} (hi : i < 16) : (cellsN n vn vf)[1049 + i]? = some (.bool (n.down[i]'(by rw [h.down]; exact hi))) := by
  have := flatE_len encLk_size n.links
  rw [show 1049 + i = 9 + (1040 + i) by omega, cN_tail, List.getElem?_append_right (by simp [this, h.links]; omega), List.getElem?_append_right (by simp [this, h.links, h.sides]; omega), List.getElem?_append_left (by simp [this, h.links, h.sides, h.down]; omega)]
  simp [this, h.links, h.sides]
  rw [show 1040 + i - 1024 - 16 = i by omega, List.getElem?_eq_getElem (by rw [h.down]; exact hi : i < n.down.length)]
theorem sN_down (h : WF n) {i : Nat} (hi : i < 16) (b : Bool) : (cellsN n vn vf).set (1049 + i) (.bool b) = cellsN { n with down := n.down.set i b } vn vf := by
  have := flatE_len encLk_size n.links
  unfold cellsN
  rw [List.set_append_right _ _ (by simp; omega), List.set_append_right _ _ (by simp [this, h.links]; omega), List.set_append_right _ _ (by simp [this, h.links, h.sides]; omega), List.set_append_left _ _ (by simp [this, h.links, h.sides, h.down]; omega)]
  simp [this, h.links, h.sides]
  rw [show 1049 + i - 9 - 1024 - 16 = i by omega]
theorem cN_link (h : WF n) {k j : Nat} (hk : k < 256) (hj : j < 4) : (cellsN n vn vf)[9 + k * 4 + j]? = (encLk (n.links[k]'(by rw [h.links]; exact hk))).cells[j]? := by
  have := flatE_len encLk_size n.links
  rw [show 9 + k * 4 + j = 9 + (k * 4 + j) by omega, cN_tail, List.getElem?_append_left (by simp [this, h.links]; omega), flatE_get encLk_size _ (by rw [h.links]; exact hk) hj]
theorem sN_link (h : WF n) {k j : Nat} (hk : k < 256) (hj : j < 4) {c : Value} {x : Lk} (hx : (encLk x).cells = (encLk (n.links[k]'(by rw [h.links]; exact hk))).cells.setIfInBounds j c) : (cellsN n vn vf).set (9 + k * 4 + j) c = cellsN { n with links := n.links.set k x } vn vf := by
  have := flatE_len encLk_size n.links
  unfold cellsN
  rw [List.set_append_right _ _ (by simp; omega), List.set_append_left _ _ (by simp [this, h.links]; omega)]
  simp only [List.length_cons, List.length_nil]
  rw [show 9 + k * 4 + j - (0 + 1 + 1 + 1 + 1 + 1 + 1 + 1 + 1 + 1) = k * 4 + j by omega, flatE_set encLk_size _ (by rw [h.links]; exact hk) hj hx]
end
end Go.Proofs.Ytmmmdmandocbhaa
end
