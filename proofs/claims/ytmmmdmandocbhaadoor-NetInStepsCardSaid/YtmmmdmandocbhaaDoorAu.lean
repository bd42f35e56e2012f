/- Helpers of this claim: an evaluator over plain values and its laws. -/
import Derived.Test.YtmmmdmandocbhaaDoorAt
section
/- Cuts of a fixed array in the heap; copies out of a plain slice value. -/
set_option linter.unusedVariables false
set_option linter.unusedSimpArgs false
namespace Go.Proofs.YtmmmdmandocbhaaDoor.Den
theorem slice_arr (P : Program) {t e : TypeId} {n r o : Nat} {inf : TypeInfo} {cs : Array Value} {et : TypeId} {H : World} (hu : P.underlying t = some (.array n e)) (hi : P.info? e = some inf) (hr : getO H r = some (.cells cs et (0, 0))) :
    sliceX P t (.pointer (some ⟨r, o, none⟩)) none none none H = some (.value (.slice (some ⟨r, o, none⟩) n n), H) := by
  unfold sliceX
  have hv : vSliceOp P t (.pointer (some ⟨r, o, none⟩)) none none none = none := rfl
  rw [hv]
  have hr' : H.heap[r]? = some (.cells cs et (0, 0)) := hr
  have hex : exactRow H r = true := by unfold exactRow; rw [hr']; rfl
  simp only [lslice, hu, hi, hex, if_true, Option.map_some]
theorem copy_vs (P : Program) {t1 t2 e : TypeId} {r o n c es : Nat} {cs : Array Value} {et : TypeId} {fr : Nat × Nat} {inf : TypeInfo} {x : Option (List Value)} {H : World} (hu : P.underlying t1 = some (.slice e)) (hi : P.info? e = some inf) (hs : inf.size = es) (hr : getO H r = some (.cells cs et fr)) (hfr : mayW fr = true)
    (hn : (x.getD []).length ≤ n) (hb : o + ((x.getD []).flatMap fun v => v.cells.toList).length ≤ cs.size) (h1 : ((x.getD []).flatMap fun v => v.cells.toList).all Value.oneCell' = true) (hx : x.isSome = true) :
    builtinX P .copy #[t1, t2] #[.slice (some ⟨r, o, none⟩) n c, slV es x] H = some (.value (.int .i64 (x.getD []).length), setO H r (.cells (overL cs o ((x.getD []).flatMap fun v => v.cells.toList)) et fr)) := by
  cases x with
  | none => cases hx
  | some l =>
  have hc : cellsOfD P es (slV es (some l)) H = some (l.length, (l.flatMap fun v => v.cells.toList).toArray) := SrcX.slV (P := P) (es := es) (o := some l) (H := H)
  have hst := run_overL (P := P) hfr (l.flatMap fun v => v.cells.toList) 0 o cs H hr (by simpa using hb) (fun v hv => List.all_eq_true.1 h1 v hv)
  rw [Nat.add_zero] at hst
  have hn' : l.length ≤ n := hn
  have hu' : ((#[t1, t2] : Array TypeId)[0]?).bind P.underlying = some (.slice e) := hu
  show (builtinD P .copy #[t1, t2] #[.slice (some ⟨r, o, none⟩) n c, slV es (some l)] H).map _ = _
  have hd : builtinD P .copy #[t1, t2] #[.slice (some ⟨r, o, none⟩) n c, slV es (some l)] H = copyV P #[t1, t2] (.slice (some ⟨r, o, none⟩) n c) (slV es (some l)) H := rfl
  rw [hd]
  unfold copyV
  simp only [hu', hi, hs, hc, if_pos hn', hst, okRun, Option.map_some, Option.getD_some]
  rfl
end Go.Proofs.YtmmmdmandocbhaaDoor.Den
end
