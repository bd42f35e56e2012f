/- Proved: for every input of the law FragWeaves the call returns true and each argument reads afterwards as it read before; conditions: those of the given row alone. -/
import Derived.Test.YtlpoejkleopdoaaCh
import Derived.Test.YtlpoejkleopdoaaRows
import Derived.WalkKit
import Derived.ProofKit
import Derived.OpenShut
import Derived.ShutString
import Derived.ChangeOld
import Derived.Below
import Derived.KernelRfl
section
set_option linter.unusedVariables false
set_option linter.unusedSimpArgs false
namespace Go.Proofs.Ytlpoejkleopdoaa
open Go Go.Proofs.Ytlpoejkleopdoaa.Den
open Go.ChangeShapes Go.WideShapes Go.ChangeAt Go.RowKit
open Go.ChangeMaps (open_string shut_string)
theorem own : ownKnob Try.prog.godebug = none := by kernel_rfl
theorem laidOut : laidOutB Try.prog = true := by kernel_rfl
theorem good : Go.Proofs.Ytlpoejkleopdoaa.Den.Good Try.prog := Go.Proofs.Ytlpoejkleopdoaa.Den.Good.of (by kernel_rfl) (by kernel_rfl)
theorem arel2 {ι : Emb} {a b a' b' : Value} (h1 : VRel ι a a') (h2 : VRel ι b b') : ARel ι #[a, b] #[a', b'] := by
  refine ⟨rfl, fun k v v' hv hv' => ?_⟩
  match k with
  | 0 => simp at hv hv'; subst hv hv'; exact h1
  | 1 => simp at hv hv'; subst hv hv'; exact h2
  | k + 2 => simp at hv
theorem empty_given : ∀ (i : Nat) (o : Obj), World0.heap[i]? = some o → live o = true → given o = true := fun i o h => by simp [World0] at h
theorem lawW {f : FuncId} {args args' : Array Value} {W : World} (h : FW X f args World0 fun v _ => v = .bool true) (ha : ARel (pins W) args args') : Calls Try.prog f args' W fun e w' => e = .returned (.bool true) ∧ RowKit.Below W.heap.size W w' := by
  obtain ⟨k, v, H1, h1, rfl⟩ := h.run
  exact law_of_run good h1 (pins_rel W) ha empty_given
set_option maxRecDepth 100000 in
theorem lifted (os : Os) (started : os.Started) (H : Type) (enc : TypeId × Value → H) :
    ReturnsInHanded {} Try.checked os 3 .any (Rows.fragWeavesSpec.pre6 enc Try.prog Try.f3 Rows.fragWeavesRow.domain false) (Rows.fragWeavesSpec.post enc Try.prog Try.f3 false true false false) := by
  refine returnsInHanded_of_change (C := Try.checked) own started (by kernel_rfl) Try.func3
    (ChangeSpec.witness6 (enc := enc) (C := Try.checked) false ⟨#[], #[.slice none 0 0, .slice none 0 0], []⟩ 8 (by kernel_rfl) (by kernel_rfl) (by kernel_rfl) (by kernel_rfl)) ?_
  intro W base args ds gs before hval0 hW hcnd _
  have hval : ∀ (j : Nat) t v, Try.f3.params[j]? = some t → args[j]? = some v → Value.okWide Try.prog W .any base t v := hval0
  have hW' := hW
  obtain ⟨p, q, hA0, hV, rfl, hfz, hnd⟩ := hW
  have hA : DataW.TrodAll enc Try.prog W 0 (fun _ => true) true Try.f3.params.toList args.toList ds p := hA0
  rw [Try.params3] at hA hval
  obtain ⟨v0, vs0, d0, ds0, p0, q0, hargs, rfl, rfl, h0, r0⟩ := trodAll_cons hA
  obtain ⟨v1, vs1, d1, ds1, p1, q1, rfl, rfl, rfl, h1, r1⟩ := trodAll_cons r0
  obtain ⟨rfl, rfl, rfl⟩ := trodAll_nil r1
  obtain rfl : args = #[v0, v1] := by cases args; simp_all
  obtain ⟨rfl, rfl⟩ := trodVars_none hV
  have k0 := h0
  have lt0 : ∀ x ∈ p0, x.block < W.heap.size := by obtain ⟨m, hm⟩ := k0; exact DataW.trod_lt m _ _ _ hm
  have k1 := h1
  have lt1 : ∀ x ∈ p1, x.block < W.heap.size := by obtain ⟨m, hm⟩ := k1; exact DataW.trod_lt m _ _ _ hm
  obtain ⟨c0, t0, e0⟩ := start_arg (d := 4) (by kernel_rfl) (hval 0 22 v0 rfl rfl) h0
  obtain ⟨c1, t1, e1⟩ := start_arg (d := 2) (by kernel_rfl) (hval 1 23 v1 rfl rfl) h1
  obtain ⟨l, hl, hl2, hl3⟩ := in_L c0 t0
  obtain ⟨turns, ht, ht2⟩ := in_I c1 t1
  rw [hl] at e0
  rw [ht] at e1
  have walk := lawW (FW.imp (Weaves3 l turns (Nat.lt_succ_of_le hl2) (fun x hx => Nat.lt_succ_of_le (hl3 x hx)) (Nat.lt_succ_of_le ht2) World0) fun v H h => h.1) (arel2 e0 e1)
  clear hA0 hval0
  refine walk.mono fun e W' ⟨he, bel⟩ => ?_
  subst he
  exact ⟨_, rfl, _, _, _, [], _, [], hW', trodAll_mk1 (shut_bool Try.underlying4 _), (trodAll_cons_mk (Below.trod laidOut (by kernel_rfl) (of_decide_eq_true (by kernel_rfl)) k0 bel lt0) (trodAll_cons_mk (Below.trod laidOut (by kernel_rfl) (of_decide_eq_true (by kernel_rfl)) k1 bel lt1) trodAll_mk0)), rfl, bel.frame _, fun h => by cases h⟩

theorem over : Rows.fragWeavesRow.holds Try.pinned (OpenSpec.ofChange Rows.fragWeavesSpec) :=
  OpenClaim.holds_of_wide 3 Try.f3 rfl rfl rfl rfl rfl rfl rfl ⟨rfl, rfl, rfl, rfl, rfl⟩ rfl rfl rfl rfl rfl (by kernel_rfl) Try.func3 (by kernel_rfl)
    (of_decide_eq_true (by kernel_rfl)) (by unfold Func.isWrapper; first | (rw [if_pos (by decide +kernel)]; kernel_rfl) | (rw [if_neg (by decide +kernel)]; exact ⟨rfl, rfl⟩))
    (fun os started H enc _ => lifted os started H enc)
/-- The statement. -/
theorem proved : Rows.FragWeavesSaid := over
#print axioms proved
end Go.Proofs.Ytlpoejkleopdoaa
end
