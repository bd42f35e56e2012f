/- Helpers of this claim: an evaluator over plain values and its laws. -/
import Derived.Test.YtmmmdmandocbhaaDoorSh
import Derived.Test.YtmmmdmandocbhaaDoorProg
import Derived.Shelf.RegionOpenPlain
import Derived.Shelf.Strings.Builder1
import Derived.WalkKit
import Derived.Lib.Walk
import Derived.Lib.SliceRun
import Derived.Laws.Externs
import Derived.Laws.NewBlocks
import Derived.KernelRfl
section
/- strings.Builder and strconv.Itoa at this cut: what the rules of their own ask. -/
set_option linter.unusedVariables false
set_option linter.unusedSimpArgs false
namespace Go.Proofs.YtmmmdmandocbhaaDoor
open Go Go.Proofs.YtmmmdmandocbhaaDoor.Den Go.Proofs
open Go.Shelf Go.RowKit Go.Lib
theorem itoaSays : ItoaSays Tryd.prog 24 := fun n w h0 h1 ht => Tryd.strconv_Itoa n h0 h1 w ht
theorem mixed17 : Tryd.prog.follows Departure.mixedOrders = true := by kernel_rfl
set_option maxHeartbeats 4000000 in
set_option maxRecDepth 100000 in
theorem strNil (b : Nat) (p : Value) (w : World) (hbk : w.heap[b]? = some (.cells #[p, .slice none 0 0] 66 (0, 0))) : Calls Tryd.prog 27 #[.pointer (some ⟨b, 0, none⟩)] w fun e w' => e = .returned (.string ⟨#[]⟩) ∧ ∃ k, w' = w.drewN k := by
  have u66 := run_underlying Tryd.underlying66
  have u64 := run_underlying Tryd.underlying64
  have u3 := run_underlying Tryd.underlying3
  have u9 := run_underlying Tryd.underlying9
  have u86 := run_underlying Tryd.underlying86
  have hUS : (Builtin.unsafeString_ #[86, 3] 9 #[.pointer none, .int .i64 0]).run Tryd.prog w.drew = .ok (.string .empty) w.drew := Lib.run_unsafeString_none w.drew _ _ _ none
  have c1 : w.drew.cell? ⟨b, 1, none⟩ = some (.slice none 0 0) := by
    have : w.drew.heap[b]? = some (.cells #[p, .slice none 0 0] 66 (0, 0)) := hbk
    rw [Lib.cell_of_heap this]; rfl
  have hSD : (Builtin.unsafeSliceData_ #[64] 86 #[.slice none 0 0]).run Tryd.prog w.drew = .ok (.pointer none) w.drew := rfl
  have mixed : Tryd.prog.follows Departure.mixedOrders = true := mixed17
  go_enter Tryd.func27, Tryd.ntmps27
  go_wp2
  go_region_o
  all_goals (go_wp2; go_ret; exact ⟨rfl, 1, rfl⟩)
set_option maxHeartbeats 4000000 in
set_option maxRecDepth 100000 in
theorem strRow (b : Nat) (p : Value) (g off cap : Nat) (cur : Array Value) (fr : Nat × Nat) (l : List UInt8) (w : World) (hbk : w.heap[b]? = some (.cells #[p, .slice (some ⟨g, off, none⟩) l.length cap] 66 (0, 0))) (h0 : l ≠ []) (hcap : l.length ≤ cap) (h47 : l.length ≤ 2 ^ 47)
    (hg : w.heap[g]? = some (.cells cur 5 fr)) (hsz : off + l.length ≤ cur.size) (hcur : ∀ (j : Nat) (x : UInt8), l[j]? = some x → cur[off + j]? = some (.int .u8 x.toNat)) :
    Calls Tryd.prog 27 #[.pointer (some ⟨b, 0, none⟩)] w fun e w' => e = .returned (.string ⟨l.toArray⟩) ∧ ∃ k, w' = (w.drewN k).freeze ⟨g, off, none⟩ l.length := by
  have u66 := run_underlying Tryd.underlying66
  have u64 := run_underlying Tryd.underlying64
  have u3 := run_underlying Tryd.underlying3
  have u9 := run_underlying Tryd.underlying9
  have u86 := run_underlying Tryd.underlying86
  have hl : l.length ≠ 0 := by simpa using h0
  have hgd : w.drew.heap[g]? = some (.cells cur 5 fr) := hg
  have hUS : (Builtin.unsafeString_ #[86, 3] 9 #[.pointer (some ⟨g, off, none⟩), .int .i64 l.length]).run Tryd.prog w.drew = .ok (.string ⟨l.toArray⟩) (w.drew.freeze ⟨g, off, none⟩ l.length) :=
    run_unsafeString_off w.drew 86 3 9 5 Tryd.underlying86 (by kernel_rfl) g off cur.size (by simp [World.shape?, hgd]) l h0 hsz (by omega) fun j x hx => by
      have h1 := hcur j x hx
      have h2 : (⟨g, off, none⟩ : Addr).add j = ⟨g, off + j, none⟩ := by
        unfold Addr.add
        by_cases hj : j = 0
        · subst hj; simp
        · simp [hj]
      rw [h2, Lib.cell_of_heap hgd]
      exact h1
  have c1 : w.drew.cell? ⟨b, 1, none⟩ = some (.slice (some ⟨g, off, none⟩) l.length cap) := by
    have : w.drew.heap[b]? = some (.cells #[p, .slice (some ⟨g, off, none⟩) l.length cap] 66 (0, 0)) := hbk
    rw [Lib.cell_of_heap this]; rfl
  have hSD : (Builtin.unsafeSliceData_ #[64] 86 #[.slice (some ⟨g, off, none⟩) l.length cap]).run Tryd.prog w.drew = .ok (.pointer (some ⟨g, off, none⟩)) w.drew := Lib.run_unsafeSliceData_row _ _ _ _ _ _ (by omega)
  have mixed : Tryd.prog.follows Departure.mixedOrders = true := mixed17
  go_enter Tryd.func27, Tryd.ntmps27
  go_wp2
  go_region_o
  all_goals (go_wp2; go_ret; exact ⟨rfl, 1, rfl⟩)
theorem strSays : StrSays Tryd.prog 27 66 5 := ⟨strNil, strRow⟩
set_option maxHeartbeats 4000000 in
set_option maxRecDepth 100000 in
theorem checkUsed (b : Nat) (w : World) (h0 : w.cell? ⟨b, 0, none⟩ = some (.pointer (some ⟨b, 0, none⟩))) : Calls Tryd.prog 37 #[.pointer (some ⟨b, 0, none⟩)] w fun e w' => e = .returned (.tuple #[]) ∧ w' = w := by
  have u66 := run_underlying Tryd.underlying66
  have u63 := run_underlying Tryd.underlying63
  have u4 := run_underlying Tryd.underlying4
  have u93 := run_underlying Tryd.underlying93
  have mixed : Tryd.prog.follows Departure.mixedOrders = true := mixed17
  go_enter Tryd.func37, Tryd.ntmps37
  go_wp2
  rw [Lib.run_neq_ptr_same w _ Tryd.underlying63 Tryd.type66]
  go_wp2
  go_end0
  exact ⟨rfl, rfl⟩
set_option maxHeartbeats 4000000 in
set_option maxRecDepth 100000 in
theorem checkFresh (b : Nat) (w : World) (h0 : w.cell? ⟨b, 0, none⟩ = some (.pointer none)) (hsh : w.shape? b = some (66, 2)) (hfz : w.frozen? ⟨b, 0, none⟩ = false) :
    Calls Tryd.prog 37 #[.pointer (some ⟨b, 0, none⟩)] w fun e w' => e = .returned (.tuple #[]) ∧ w' = w.setCell ⟨b, 0, none⟩ (.pointer (some ⟨b, 0, none⟩)) := by
  have u66 := run_underlying Tryd.underlying66
  have u63 := run_underlying Tryd.underlying63
  have u4 := run_underlying Tryd.underlying4
  have u93 := run_underlying Tryd.underlying93
  have mixed : Tryd.prog.follows Departure.mixedOrders = true := mixed17
  go_enter Tryd.func37, Tryd.ntmps37
  go_wp2
  rw [Lib.run_to_unsafe w ⟨b, 0, none⟩ Tryd.underlying63 Tryd.underlying93 Tryd.type66 (by decide) hsh (Nat.zero_lt_succ 1)]
  simp only [Result.andThen]
  rw [Oper.upon_value]
  go_wp2
  rw [run_callFunc_extern Tryd.func45 (by kernel_rfl) (by kernel_rfl) (by kernel_rfl) (e := Extern.AbiNoEscape.same) (by kernel_rfl)]
  rw [Lib.run_noEscape]
  simp only [Result.andThen]
  rw [Oper.upon_value]
  go_wp2
  rw [Lib.run_from_unsafe w ⟨b, 0, none⟩ Tryd.underlying93 Tryd.underlying63 Tryd.type66 hsh (by kernel_rfl)]
  simp only [Result.andThen]
  rw [Oper.upon_value]
  go_wp2
  go_end0
  exact ⟨rfl, rfl⟩
theorem checkSays : CheckSays Tryd.prog 37 66 := ⟨checkFresh, checkUsed⟩
end Go.Proofs.YtmmmdmandocbhaaDoor
end
