/- Proved: for every input of the law NetPlays the call returns true and each argument reads afterwards as it read before; conditions: those of the given row alone. -/
import Derived.Test.YtmmmdmandocbhaaMk
import Derived.Test.YtmmmdmandocbhaaRows
import Derived.WalkKit
import Derived.ProofKit
import Derived.OpenShut
import Derived.ShutString
import Derived.ChangeOld
import Derived.Below
import Derived.KernelRfl
section
set_option linter.unusedVariables false
set_option linter.unusedSimpArgs false
namespace Go.Proofs.Ytmmmdmandocbhaa.nplays
open Go Go.Proofs.Ytmmmdmandocbhaa.Den
open Go.ChangeShapes Go.WideShapes Go.ChangeAt Go.RowKit
open Go.ChangeMaps (open_string shut_string)
theorem own : ownKnob Try.prog.godebug = none := by kernel_rfl
theorem laidOut : laidOutB Try.prog = true := by kernel_rfl
theorem good : Go.Proofs.Ytmmmdmandocbhaa.Den.Good Try.prog := Go.Proofs.Ytmmmdmandocbhaa.Den.Good.ofL (by kernel_rfl) (by kernel_rfl)
theorem empty_given : ∀ (i : Nat) (o : Obj), World0.heap[i]? = some o → live o = true → given o = true := fun i o h => by simp [World0] at h
theorem lawW {f : FuncId} {args args' : Array Value} {W : World} (h : FW X f args World0 fun v _ => v = .bool true) (ha : ARel (pins W) args args') : Calls Try.prog f args' W fun e w' => e = .returned (.bool true) ∧ RowKit.Below W.heap.size W w' := by
  obtain ⟨k, v, H1, h1, rfl⟩ := h.run
  exact law_of_run good (sp17_ok good) h1 (pins_rel W) ha empty_given
theorem arel {ι : Emb} {a0 a1 a2 b0 b1 b2 : Value} (h0 : VRel ι a0 b0) (h1 : VRel ι a1 b1) (h2 : VRel ι a2 b2) : ARel ι #[a0, a1, a2] #[b0, b1, b2] := by
  refine ⟨rfl, fun k v v' hv hv' => ?_⟩
  match k with
  | 0 => simp at hv hv'; subst hv hv'; exact h0
  | 1 => simp at hv hv'; subst hv hv'; exact h1
  | 2 => simp at hv hv'; subst hv hv'; exact h2
  | k + 3 => simp at hv
set_option maxRecDepth 100000 in
theorem lifted (os : Os) (started : os.Started) (H : Type) (enc : TypeId × Value → H) :
    ReturnsInHanded {} Try.checked os 5 .any (Rows.netPlaysSpec.pre6 enc Try.prog Try.f5 Rows.netPlaysRow.domain false) (Rows.netPlaysSpec.post enc Try.prog Try.f5 false true false false) := by
  refine returnsInHanded_of_change_sized (C := Try.checked) own started (by kernel_rfl) Try.func5
    (ChangeSpec.witness6 (enc := enc) (C := Try.checked) false ⟨#[], #[.int .i64 0, .slice none 0 0, .slice none 0 0], []⟩ 8 (by kernel_rfl) (by kernel_rfl) (by kernel_rfl) (by kernel_rfl)) ?_
  intro W base args ds gs before hval0 hW hcnd hsz _
  have hval : ∀ (j : Nat) t v, Try.f5.params[j]? = some t → args[j]? = some v → Value.okWide Try.prog W .any base t v := hval0
  have hW' := hW
  obtain ⟨p, q, hA0, hV, rfl, hfz, hnd⟩ := hW
  have hA : DataW.TrodAll enc Try.prog W 0 (fun _ => true) true Try.f5.params.toList args.toList ds p := hA0
  rw [Try.params5] at hA hval
  obtain ⟨v0, vs0, d0, ds0, p0, q0, hargs, rfl, rfl, h0, r0⟩ := trodAll_cons hA
  obtain ⟨v1, vs1, d1, ds1, p1, q1, rfl, rfl, rfl, h1, r1⟩ := trodAll_cons r0
  obtain ⟨v2, vs2, d2, ds2, p2, q2, rfl, rfl, rfl, h2, r2⟩ := trodAll_cons r1
  obtain ⟨rfl, rfl, rfl⟩ := trodAll_nil r2
  obtain rfl : args = #[v0, v1, v2] := by cases args; simp_all
  obtain ⟨rfl, rfl⟩ := trodVars_none hV
  have k0 := h0
  have lt0 : ∀ x ∈ p0, x.block < W.heap.size := by obtain ⟨m, hm⟩ := k0; exact DataW.trod_lt m _ _ _ hm
  have k1 := h1
  have lt1 : ∀ x ∈ p1, x.block < W.heap.size := by obtain ⟨m, hm⟩ := k1; exact DataW.trod_lt m _ _ _ hm
  have k2 := h2
  have lt2 : ∀ x ∈ p2, x.block < W.heap.size := by obtain ⟨m, hm⟩ := k2; exact DataW.trod_lt m _ _ _ hm
  obtain ⟨c0, t0, e0⟩ := start_argB (B := reachBytes) (d := 1) (by kernel_rfl) (hval 0 3 v0 rfl rfl) h0 (.inr fun n hn => by
    have := List.all_eq_true.1 hsz n (DataW.weights_mem_each (j := 0) (t := 3) (d := d0) rfl rfl n hn)
    simpa using this)
  obtain ⟨n0, w0, _, _⟩ := in_int (k := .i64) Try.underlying3 t0
  rw [w0] at e0
  obtain ⟨c1, t1, e1⟩ := start_argB (B := reachBytes) (d := 2) (by kernel_rfl) (hval 1 29 v1 rfl rfl) h1 (.inr fun n hn => by
    have := List.all_eq_true.1 hsz n (DataW.weights_mem_each (j := 1) (t := 29) (d := d1) rfl rfl n hn)
    simpa using this)
  obtain ⟨o1, w1, l1, s1⟩ := in_ints c1 t1
  rw [w1] at e1
  obtain ⟨c2, t2, e2⟩ := start_argB (B := reachBytes) (d := 4) (by kernel_rfl) (hval 2 22 v2 rfl rfl) h2 (.inr fun n hn => by
    have := List.all_eq_true.1 hsz n (DataW.weights_mem_each (j := 2) (t := 22) (d := d2) rfl rfl n hn)
    simpa using this)
  obtain ⟨l, w2, l2, s2⟩ := in_Acts c2 t2
  rw [w2] at e2
  have walk := lawW (plays5 l1 s1 l2 fun _ => rfl) (arel e0 e1 e2)
  clear hA0 hval0 hsz
  refine walk.mono fun e W' ⟨he, bel⟩ => ?_
  subst he
  exact ⟨_, rfl, _, _, _, [], _, [], hW', trodAll_mk1 (shut_bool Try.underlying4 _), (trodAll_cons_mk (Below.trod laidOut (by kernel_rfl) (of_decide_eq_true (by kernel_rfl)) k0 bel lt0) (trodAll_cons_mk (Below.trod laidOut (by kernel_rfl) (of_decide_eq_true (by kernel_rfl)) k1 bel lt1) (trodAll_cons_mk (Below.trod laidOut (by kernel_rfl) (of_decide_eq_true (by kernel_rfl)) k2 bel lt2) trodAll_mk0))), rfl, bel.frame _, fun h => by cases h⟩

theorem over : Rows.netPlaysRow.holds Try.pinned (OpenSpec.ofChange Rows.netPlaysSpec) :=
  OpenClaim.holds_of_wide 5 Try.f5 rfl rfl rfl rfl rfl rfl rfl ⟨rfl, rfl, rfl, rfl, rfl⟩ rfl rfl rfl rfl rfl (by kernel_rfl) Try.func5 (by kernel_rfl)
    (of_decide_eq_true (by kernel_rfl)) (by unfold Func.isWrapper; first | (rw [if_pos (by decide +kernel)]; kernel_rfl) | (rw [if_neg (by decide +kernel)]; exact ⟨rfl, rfl⟩))
    (fun os started H enc _ => lifted os started H enc)
/-- The statement. -/
theorem proved : Rows.NetPlaysSaid := over
#print axioms proved
end Go.Proofs.Ytmmmdmandocbhaa.nplays
end
