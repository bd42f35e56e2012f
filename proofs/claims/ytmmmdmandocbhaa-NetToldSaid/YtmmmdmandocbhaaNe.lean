/- Helpers of this claim: an evaluator over plain values and its laws. -/
import Derived.Test.YtmmmdmandocbhaaNd
section
set_option linter.unusedVariables false
set_option linter.unusedSimpArgs false
namespace Go.Proofs.Ytmmmdmandocbhaa
open Go Go.Proofs.Ytmmmdmandocbhaa.Den
abbrev kI : Int → Value := fun n => .int .i64 n
abbrev zP : Value := .agg #[.int .i64 0, .int .i64 0, .int .i64 0, .int .i64 0, .string (sB [])]
/-- The state of F4's loop. -/
structure TD (R : List Fl) (T : Nat) (H : World) (b : Nat) (n : NN) (vn vf : Value) (ms mc : Nat) (S C : List (Int × Value)) (c : Int → Int) (tw la : Int) : Prop where
  st : NSt H b n vn vf
  iv : Inv n T
  hS : MapIs kI H ms S
  hC : MapIs kI H mc C
  cc : ∀ i, (lookM i C).getD (.int .i64 0) = .int .i64 (c i)
  told : Told R n.next n.dbl S c tw
  la : la ≤ n.now
  sc : ms ≠ mc
  sb : ms ≠ b
  cb : mc ≠ b
  sn : ApO vn ms
  cn : ApO vn mc
  sf : ApO vf ms
  cf : ApO vf mc
section
variable {R : List Fl} {T : Nat} {H H' : World} {b : Nat} {n n' : NN} {vn vf vf' : Value} {ms mc : Nat} {S C : List (Int × Value)} {c : Int → Int} {tw la : Int}
theorem TD.push (h : TD R T H b n vn vf ms mc S C c tw la) (o : Obj) : TD R T (pushObj H o) b n vn vf ms mc S C c tw la :=
  { h with st := h.st.push o, hS := h.hS.push o, hC := h.hC.push o }
/-- The network goes on. -/
theorem TD.net {R' : List Fl} {T' : Nat} (h : TD R T H b n vn vf ms mc S C c tw la) (st : NSt H' b n' vn vf') (fr : FrN H H' b vf vf') (iv : Inv n' T') (told : Told R' n'.next n'.dbl S c tw) (hla : la ≤ n'.now) : TD R' T' H' b n' vn vf' ms mc S C c tw la :=
  ⟨st, iv, h.hS.keep fun o ho => fr.keep _ _ ho h.sb h.sf, h.hC.keep fun o ho => fr.keep _ _ ho h.cb h.cf, h.cc, told, hla, h.sc, h.sb, h.cb, h.sn, h.cn, fr.fresh _ h.hS.lt h.sb h.sf, fr.fresh _ h.hC.lt h.cb h.cf⟩
theorem TD.putS {R' : List Fl} (h : TD R T H b n vn vf ms mc S C c tw la) {o : Obj} {S' : List (Int × Value)} (hm : MapIs kI (setO H ms o) ms S') (told : Told R' n.next n.dbl S' c tw) : TD R' T (setO H ms o) b n vn vf ms mc S' C c tw la :=
  { h with st := h.st.setO' o h.sb h.sn h.sf, hS := hm, hC := h.hC.set o (fun e => h.sc e.symm), told := told }
theorem TD.putC {R' : List Fl} {c' : Int → Int} {tw' la' : Int} {C' : List (Int × Value)} (h : TD R T H b n vn vf ms mc S C c tw la) {o : Obj} (hm : MapIs kI (setO H mc o) mc C') (cc : ∀ i, (lookM i C').getD (.int .i64 0) = .int .i64 (c' i)) (told : Told R' n.next n.dbl S c' tw') (hla : la' ≤ n.now) : TD R' T (setO H mc o) b n vn vf ms mc S C' c' tw' la' :=
  { h with st := h.st.setO' o h.cb h.cn h.cf, hS := h.hS.set o h.sc, hC := hm, cc := cc, told := told, la := hla }
theorem TD.fresh (h : TD R T H b n vn vf ms mc S C c tw la) {i : Nat} (o : Obj) (hi : i ≠ b) (hn : ApO vn i) (hf : ApO vf i) (h1 : i ≠ ms) (h2 : i ≠ mc) : TD R T (setO H i o) b n vn vf ms mc S C c tw la :=
  { h with st := h.st.setO' o hi hn hf, hS := h.hS.set o (fun e => h1 e.symm), hC := h.hC.set o (fun e => h2 e.symm) }
theorem cc_put {i : Int} {x : Int} (h : ∀ i, (lookM i C).getD (.int .i64 0) = .int .i64 (c i)) (hx : x = c i + 1) : ∀ j, (lookM j (putM i (.int .i64 x) C)).getD (.int .i64 0) = .int .i64 (cBump c i j) := fun j => by
  rw [lookM_put]
  unfold cBump
  by_cases e : j = i
  · rw [if_pos e, if_pos e, e, hx]; rfl
  · rw [if_neg e, if_neg e]; exact h j
theorem lookS (h : MapIs kI H ms S) (i : Int) (ok : Bool) : lookupD Try.prog 46 (.map (some ms)) (.int .i64 i) ok H = some (if ok then .tuple #[(lookM i S).getD zP, .bool (lookM i S).isSome] else (lookM i S).getD zP) :=
  map_look (P := Try.prog) (t := 46) Try.underlying46 Try.underlying3 (keyInt .i64) (z := zP) (by simp) h i ok
theorem lookC (h : MapIs kI H mc C) (cc : ∀ i, (lookM i C).getD (.int .i64 0) = .int .i64 (c i)) (i : Int) : lookupD Try.prog 47 (.map (some mc)) (.int .i64 i) false H = some (.int .i64 (c i)) := by
  rw [map_look (P := Try.prog) (t := 47) Try.underlying47 Try.underlying3 (keyInt .i64) (z := .int .i64 0) (by simp) h i false, cc i]; rfl
theorem putS (h : MapIs kI H ms S) (i : Int) (v : Value) : ∃ o, mapUpdateD Try.prog 46 (.map (some ms)) (.int .i64 i) v H = some (setO H ms o) ∧ MapIs kI (setO H ms o) ms (putM i v S) :=
  map_put (P := Try.prog) (t := 46) Try.underlying46 Try.underlying3 (keyInt .i64) h i v
theorem putC (h : MapIs kI H mc C) (i : Int) (v : Value) : ∃ o, mapUpdateD Try.prog 47 (.map (some mc)) (.int .i64 i) v H = some (setO H mc o) ∧ MapIs kI (setO H mc o) mc (putM i v C) :=
  map_put (P := Try.prog) (t := 47) Try.underlying47 Try.underlying3 (keyInt .i64) h i v
end
end Go.Proofs.Ytmmmdmandocbhaa
end
