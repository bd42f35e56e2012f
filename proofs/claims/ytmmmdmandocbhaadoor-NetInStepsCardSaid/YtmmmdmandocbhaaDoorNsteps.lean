/- Proved: for every input of the law NetInSteps the call returns true and each argument reads afterwards as it read before, the tied card; conditions: those of the given row and its card alone. -/
import Derived.Test.YtmmmdmandocbhaaDoorTe
import Derived.Test.YtmmmdmandocbhaaDoorRows
import Derived.WalkKit
import Derived.ProofKit
import Derived.OpenShut
import Derived.ShutString
import Derived.ChangeOld
import Derived.Below
import Derived.KernelRfl
import Derived.Test.YtmmmdmandocbhaaDoorTie
import Derived.Test.YtmmmdmandocbhaaDoorCards
import Derived.LaidMore
import Derived.Lay
import Derived.SevenTiedAt
import Derived.Stop.Joined
section
set_option linter.unusedVariables false
set_option linter.unusedSimpArgs false
namespace Go.Proofs.YtmmmdmandocbhaaDoor.nsteps
open Go Go.Proofs.YtmmmdmandocbhaaDoor.Den
open Go.ChangeShapes Go.WideShapes Go.ChangeAt Go.RowKit
open Go.ChangeMaps (open_string shut_string)
theorem own : ownKnob Tryd.prog.godebug = none := by kernel_rfl
theorem laidOut : laidOutB Tryd.prog = true := by kernel_rfl
theorem good : Go.Proofs.YtmmmdmandocbhaaDoor.Den.Good Tryd.prog := Go.Proofs.YtmmmdmandocbhaaDoor.Den.Good.ofL (by kernel_rfl) (by kernel_rfl)
theorem empty_given : ∀ (i : Nat) (o : Obj), World0.heap[i]? = some o → live o = true → given o = true := fun i o h => by simp [World0] at h
theorem lawW {f : FuncId} {args args' : Array Value} {W : World} (h : FW X f args World0 fun v _ => v = .bool true) (ha : ARel (pins W) args args') (ht : TabsOk Tryd.prog W) : Calls Tryd.prog f args' W fun e w' => e = .returned (.bool true) ∧ RowKit.Below W.heap.size W w' := by
  obtain ⟨k, v, H1, h1, rfl⟩ := h.run
  exact law_of_run good (sp17_ok good) h1 (pins_rel W ht) ha empty_given
set_option maxRecDepth 100000 in
/-- What the row lists gives the tables. -/
theorem tabs_of_laid {W : World} (h : laidMetH Tryd.prog Rows.netInStepsRow.laid W) : TabsOk Tryd.prog W := by
  rw [MakeChecks.laidMetH_plain _ _ _ (by kernel_rfl)] at h
  obtain ⟨ps, ⟨g0, t0, cs0, f0, p0, q0, hg0, ht0, hv0, hd0, ⟨g1, t1, cs1, f1, p1, q1, hg1, ht1, hv1, hd1, ⟨g2, t2, cs2, f2, p2, q2, hg2, ht2, hv2, hd2, _, _⟩, _⟩, _⟩, _, _⟩ := h
  intro name cs g hn hg
  unfold tabOf at hn
  split at hn
  case isFalse => cases hn
  rename_i e
  subst e
  injection hn with hn
  subst hn
  obtain rfl := Option.some.inj (hg.symm.trans hg2)
  have hty : (Tryd.prog.globals[g]?).map (·.type) = some 109 := by
    obtain rfl := Option.some.inj (hg.symm.trans (show Tryd.prog.globalNamed "internal/strconv.uint64pow10" = some 0 by kernel_rfl))
    kernel_rfl
  obtain rfl := Option.some.inj (hty.symm.trans ht2)
  have hc := Lib.cells_of_tab (zs := Lib.pow10Tab) (k := .u64) Tryd.underlying109 Tryd.underlying12 (by kernel_rfl) (by kernel_rfl) (show _ = some (Lib.tabData .u64 Lib.pow10Tab, p2) from hd2)
  have hv := hv2
  simp only [World.var?, hg, Option.bind_some] at hv
  unfold cellsAt
  split at hv
  · rename_i cs' _ _ hb
    injection hv with hv
    subst hv
    simp only [hb]
    congr 1
    apply Array.toList_inj.1
    rw [hc]
  · cases hv
theorem arel {ι : Emb} {a0 a1 a2 a3 b0 b1 b2 b3 : Value} (h0 : VRel ι a0 b0) (h1 : VRel ι a1 b1) (h2 : VRel ι a2 b2) (h3 : VRel ι a3 b3) : ARel ι #[a0, a1, a2, a3] #[b0, b1, b2, b3] := by
  refine ⟨rfl, fun k v v' hv hv' => ?_⟩
  match k with
  | 0 => simp at hv hv'; subst hv hv'; exact h0
  | 1 => simp at hv hv'; subst hv hv'; exact h1
  | 2 => simp at hv hv'; subst hv hv'; exact h2
  | 3 => simp at hv hv'; subst hv hv'; exact h3
  | k + 4 => simp at hv
set_option maxRecDepth 100000 in
theorem lifted (os : Os) (started : os.Started) (H : Type) (enc : TypeId × Value → H) :
    ReturnsInHanded {} Tryd.checked os 3 .any (fun w args => (Rows.netInStepsSpec.pre enc Tryd.prog Tryd.f3 Rows.netInStepsRow.domain false w args ∧ laidMetH Tryd.prog Rows.netInStepsRow.laid w) ∧ sizedMet enc Tryd.prog Tryd.f3 (OpenSpec.ofChange Rows.netInStepsSpec) false w args)
      (Rows.netInStepsSpec.post enc Tryd.prog Tryd.f3 false true false false) := by
  refine returnsInHanded_of_change_and (C := Tryd.checked) (X := fun w _ => laidMetH Tryd.prog Rows.netInStepsRow.laid w) (fun _ _ _ hh h => h.of_heap hh) own started (by kernel_rfl) Tryd.func3
    (ChangeSpec.witness_shaped (enc := enc) (C := Tryd.checked) (os := os) (X := fun w _ => laidMetH Tryd.prog Rows.netInStepsRow.laid w) false (World.laidAll Tryd.prog os Rows.netInStepsRow.laid) #[.int .i64 0, .slice none 0 0, .slice none 0 0, .slice none 0 0] 8 (World.laidAll_os _ _ _)
      (World.shaped_of_ZipB (by kernel_rfl) (by kernel_rfl)) (by kernel_rfl) (by kernel_rfl) (by kernel_rfl)
      (by rw [MakeChecks.laidMetH_plain _ _ _ (by kernel_rfl)]; exact laidMet_laidAll _ (by kernel_rfl) (by kernel_rfl))) ?_
  intro W base args ds gs before hval0 hW hcnd hsz hL _

  have hval : ∀ (j : Nat) t v, Tryd.f3.params[j]? = some t → args[j]? = some v → Value.okWide Tryd.prog W .any base t v := hval0
  have hW' := hW
  obtain ⟨p, q, hA0, hV, rfl, hfz, hnd⟩ := hW
  have hA : DataW.TrodAll enc Tryd.prog W 0 (fun _ => true) true Tryd.f3.params.toList args.toList ds p := hA0
  rw [Tryd.params3] at hA hval
  obtain ⟨v0, vs0, d0, ds0, p0, q0, hargs, rfl, rfl, h0, r0⟩ := trodAll_cons hA
  obtain ⟨v1, vs1, d1, ds1, p1, q1, rfl, rfl, rfl, h1, r1⟩ := trodAll_cons r0
  obtain ⟨v2, vs2, d2, ds2, p2, q2, rfl, rfl, rfl, h2, r2⟩ := trodAll_cons r1
  obtain ⟨v3, vs3, d3, ds3, p3, q3, rfl, rfl, rfl, h3, r3⟩ := trodAll_cons r2
  obtain ⟨rfl, rfl, rfl⟩ := trodAll_nil r3
  obtain rfl : args = #[v0, v1, v2, v3] := by cases args; simp_all
  obtain ⟨rfl, rfl⟩ := trodVars_none hV
  have k0 := h0
  have lt0 : ∀ x ∈ p0, x.block < W.heap.size := by obtain ⟨m, hm⟩ := k0; exact DataW.trod_lt m _ _ _ hm
  have k1 := h1
  have lt1 : ∀ x ∈ p1, x.block < W.heap.size := by obtain ⟨m, hm⟩ := k1; exact DataW.trod_lt m _ _ _ hm
  have k2 := h2
  have lt2 : ∀ x ∈ p2, x.block < W.heap.size := by obtain ⟨m, hm⟩ := k2; exact DataW.trod_lt m _ _ _ hm
  have k3 := h3
  have lt3 : ∀ x ∈ p3, x.block < W.heap.size := by obtain ⟨m, hm⟩ := k3; exact DataW.trod_lt m _ _ _ hm
  obtain ⟨c0, t0, e0⟩ := start_argB (B := reachBytes) (d := 1) (by kernel_rfl) (hval 0 3 v0 rfl rfl) h0 (.inr fun n hn => by
    have := List.all_eq_true.1 hsz n (DataW.weights_mem_each (j := 0) (t := 3) (d := d0) rfl rfl n hn)
    simpa using this)
  obtain ⟨n0, w0, _, _⟩ := in_int (k := .i64) Tryd.underlying3 t0
  rw [w0] at e0
  obtain ⟨c1, t1, e1⟩ := start_argB (B := reachBytes) (d := 2) (by kernel_rfl) (hval 1 22 v1 rfl rfl) h1 (.inr fun n hn => by
    have := List.all_eq_true.1 hsz n (DataW.weights_mem_each (j := 1) (t := 22) (d := d1) rfl rfl n hn)
    simpa using this)
  obtain ⟨o1, w1, l1, s1⟩ := in_ints c1 t1
  rw [w1] at e1
  obtain ⟨c2, t2, e2⟩ := start_argB (B := reachBytes) (d := 4) (by kernel_rfl) (hval 2 23 v2 rfl rfl) h2 (.inr fun n hn => by
    have := List.all_eq_true.1 hsz n (DataW.weights_mem_each (j := 2) (t := 23) (d := d2) rfl rfl n hn)
    simpa using this)
  obtain ⟨l, w2, l2, s2⟩ := in_Acts c2 t2
  rw [w2] at e2
  obtain ⟨c3, t3, e3⟩ := start_argB (B := reachBytes) (d := 2) (by kernel_rfl) (hval 3 22 v3 rfl rfl) h3 (.inr fun n hn => by
    have := List.all_eq_true.1 hsz n (DataW.weights_mem_each (j := 3) (t := 22) (d := d3) rfl rfl n hn)
    simpa using this)
  obtain ⟨o3, w3, l3, s3⟩ := in_ints c3 t3
  rw [w3] at e3
  have walk := lawW (steps3 l1 s1 l2 s2 l3 fun _ => rfl) (arel e0 e1 e2 e3) (tabs_of_laid hL)
  clear hA0 hval0 hsz
  refine walk.mono fun e W' ⟨he, bel⟩ => ?_
  subst he
  exact ⟨_, rfl, _, _, _, [], _, [], hW', trodAll_mk1 (shut_bool Tryd.underlying4 _), (trodAll_cons_mk (Below.trod laidOut (by kernel_rfl) (of_decide_eq_true (by kernel_rfl)) k0 bel lt0) (trodAll_cons_mk (Below.trod laidOut (by kernel_rfl) (of_decide_eq_true (by kernel_rfl)) k1 bel lt1) (trodAll_cons_mk (Below.trod laidOut (by kernel_rfl) (of_decide_eq_true (by kernel_rfl)) k2 bel lt2) (trodAll_cons_mk (Below.trod laidOut (by kernel_rfl) (of_decide_eq_true (by kernel_rfl)) k3 bel lt3) trodAll_mk0)))), rfl, bel.frame _, fun h => by cases h⟩

theorem over : Rows.netInStepsRow.holds Tryd.pinned (OpenSpec.ofChange Rows.netInStepsSpec) :=
  OpenClaim.holds_of_wide 3 Tryd.f3 rfl rfl rfl rfl rfl rfl rfl ⟨rfl, rfl, rfl, rfl, rfl⟩ rfl rfl rfl rfl rfl (by kernel_rfl) Tryd.func3 (by kernel_rfl)
    (of_decide_eq_true (by kernel_rfl)) (by unfold Func.isWrapper; first | (rw [if_pos (by decide +kernel)]; kernel_rfl) | (rw [if_neg (by decide +kernel)]; exact ⟨rfl, rfl⟩))
    (fun os started H enc _ => lifted os started H enc)
/-- The statement. -/
theorem proved : Rows.NetInStepsCardSaid :=
  Claim7.holds_tied_plain_at .later [] [.data, .data, .data] true (true, "4c0169c9c9f6ac7e3006724424b0708b44a8fa7e28dbe8b7419814c6264a33d5") false over (fun _ h => by cases h) (by kernel_rfl) (fun _ h => by cases h) netInSteps_row_tie rfl ⟨rfl, rfl⟩ (by kernel_rfl) rfl
    (fun f fn hf hfn => by
      obtain rfl : f = 3 := Option.some.inj ((show Tryd.prog.funcNamed Rows.netInStepsRow.func = some 3 by kernel_rfl).symm.trans hf) |>.symm
      obtain rfl : fn = Tryd.f3 := (Option.some.inj (Tryd.func3.symm.trans hfn)).symm
      exact ⟨by kernel_rfl, fun j t ht => by
        rw [Tryd.params3] at ht
        have hm : t ∈ [3, 22, 23, 22] := by simpa using Array.mem_of_getElem? ht
        have hall : ([3, 22, 23, 22].all fun u => !Tryd.prog.wantsStandIn u) = true := by kernel_rfl
        exact (show Tryd.prog.wantsStandIn t = false by simpa using List.all_eq_true.1 hall t hm)⟩)
    (by kernel_rfl)
#print axioms proved
end Go.Proofs.YtmmmdmandocbhaaDoor.nsteps
end
