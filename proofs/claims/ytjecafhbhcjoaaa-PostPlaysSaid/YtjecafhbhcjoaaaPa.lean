/- Helpers of this claim: an evaluator over plain values and its laws. -/
import Derived.Test.YtjecafhbhcjoaaaS
import Derived.KernelRfl
section
set_option linter.unusedVariables false
set_option linter.unusedSimpArgs false
namespace Go.Proofs.Ytjecafhbhcjoaaa
open Go Go.Proofs.Ytjecafhbhcjoaaa.Den
noncomputable def X : Cx := ⟨Try.prog, fun f => [7, 8, 9, 10, 11, 12, 24, 29, 30, 31, 32, 33, 34, 42, 51, 56, 59, 68].contains f⟩
@[simp] theorem XP : X.P = Try.prog := rfl
theorem awake_run : ((Go.Proofs.Ytjecafhbhcjoaaa.Den.run X.P X.al 60 7 #[] World0).map fun r => match r.1 with | .bool b => b | _ => false) = some true := by kernel_rfl
theorem awake_eq (H : World) (Q : Value → World → Prop) : FW X 7 #[] H Q = Q (.bool true) H := by
  have h := awake_run
  simp only [Option.map_eq_some_iff] at h
  obtain ⟨⟨v, H0⟩, h1, h2⟩ := h
  cases v <;> simp at h2
  subst h2
  exact fw_ofRunAlone (by simp [X]) h1 H Q
abbrev ints (o : Option (List Int)) : Value := slV 1 (o.map (List.map (Value.int .i64)))
theorem plainI (o : Option (List Int)) : plain deep (ints o) = true := plain_of (d := 1) (plain_slMap (fun n => plain_int 0 _ n) o) (by decide)
theorem getD_mapI (o : Option (List Int)) : (o.map (List.map (Value.int .i64))).getD [] = (o.getD []).map (Value.int .i64) := by cases o <;> rfl
end Go.Proofs.Ytjecafhbhcjoaaa
end
