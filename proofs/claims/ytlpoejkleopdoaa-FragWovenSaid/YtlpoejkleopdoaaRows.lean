/-
  No cell of these rows narrows 'for every input' (looked for: loops, veiled, ifaces, maps, wideKeys, modest, calm, conditions, laid).
  DERIVED. THE GIVEN ROWS OF THIS SEAT. 5 by the template 'for every input the law returns true; each argument reads behind the call as it read before'; 0 by the template 'total and deterministic' (their statements: YtlpoejkleopdoaaTotals.lean).
  GIVEN WITH THE SEED: the statements are not yours to turn. If you find one false, say at which input.
  Laid BY PROGRAM, IN A SANDBOX (cutbox-rows.mjs): the forced cells as the released guide's own fill.sh prints them over the translation 25a5bccd07cd0b04… (all of the seat's roots in one cut). By AI agents, Wed Nov 11 2026. No macro, syntax, notation, axiom, sorry.
-/
import Derived.Test.YtlpoejkleopdoaaChecked
import GoSem.Claim
import GoSem.ClaimJoined
import GoSem.ClaimMapViews
import Derived.JoinedTies
import Derived.KernelRfl
namespace Go.Proofs.Ytlpoejkleopdoaa
/- THE CELL 'sum', in the pinned program and in every row, IS THE sha256 OF THE DUMP (.gsa) THAT YtlpoejkleopdoaaProg.lean LOADS. Nothing in Lean hashes anything: it is a label: what it is worth is what the hold of that sum in a sandbox is worth. -/
noncomputable def Try.pinned : Pinned := { name := "ytlpoejkleopdoaa", sum := "25a5bccd07cd0b041f3aabacd2c4b03aa8479080fb41eab74f6c5ed712e0d3ae", checked := Try.checked }
namespace Rows
def none {H : Type} : Left H := { results := [], args := [] }

/-- 'intermedelaw15.FragWeaves': WHATEVER THE INPUT: true; the input reads as it did. -/
def fragWeavesSpec : ChangeSpec := { name := "fragWeaves", fn := fun _ => fun
  | [d1, d2] => { results := [.lit (.bool true)], args := [d1, d2] }
  | _ => none }
def fragWeavesRow : OpenClaim := { program := "ytlpoejkleopdoaa", sum := "25a5bccd07cd0b041f3aabacd2c4b03aa8479080fb41eab74f6c5ed712e0d3ae", func := "intermede/intermedelaw15.FragWeaves", spec := "fragWeaves", unfollowed := true, recurses := true, apart := false }
def FragWeavesSaid : Prop := fragWeavesRow.holds Try.pinned (OpenSpec.ofChange fragWeavesSpec)

/-- ITS FALSE NEIGHBOUR: 'it returns false'. Refute it at one input. -/
def fragWeavesWrong : ChangeSpec := { name := "fragWeaves", fn := fun _ => fun
  | [d1, d2] => { results := [.lit (.bool false)], args := [d1, d2] }
  | _ => none }
def FragWeavesWrongFalsely : Prop := fragWeavesRow.holds Try.pinned (OpenSpec.ofChange fragWeavesWrong)

/-- 'intermedelaw15.FragJoins': WHATEVER THE INPUT: true; the input reads as it did. -/
def fragJoinsSpec : ChangeSpec := { name := "fragJoins", fn := fun _ => fun
  | [d1, d2] => { results := [.lit (.bool true)], args := [d1, d2] }
  | _ => none }
def fragJoinsRow : OpenClaim := { program := "ytlpoejkleopdoaa", sum := "25a5bccd07cd0b041f3aabacd2c4b03aa8479080fb41eab74f6c5ed712e0d3ae", func := "intermede/intermedelaw15.FragJoins", spec := "fragJoins", unfollowed := true, recurses := true, apart := false }
def FragJoinsSaid : Prop := fragJoinsRow.holds Try.pinned (OpenSpec.ofChange fragJoinsSpec)

/-- ITS FALSE NEIGHBOUR: 'it returns false'. Refute it at one input. -/
def fragJoinsWrong : ChangeSpec := { name := "fragJoins", fn := fun _ => fun
  | [d1, d2] => { results := [.lit (.bool false)], args := [d1, d2] }
  | _ => none }
def FragJoinsWrongFalsely : Prop := fragJoinsRow.holds Try.pinned (OpenSpec.ofChange fragJoinsWrong)

/-- 'intermedelaw15.FragCuts': WHATEVER THE INPUT: true; the input reads as it did. -/
def fragCutsSpec : ChangeSpec := { name := "fragCuts", fn := fun _ => fun
  | [d1, d2, d3, d4, d5] => { results := [.lit (.bool true)], args := [d1, d2, d3, d4, d5] }
  | _ => none }
def fragCutsRow : OpenClaim := { program := "ytlpoejkleopdoaa", sum := "25a5bccd07cd0b041f3aabacd2c4b03aa8479080fb41eab74f6c5ed712e0d3ae", func := "intermede/intermedelaw15.FragCuts", spec := "fragCuts", unfollowed := true, recurses := true, apart := false }
def FragCutsSaid : Prop := fragCutsRow.holds Try.pinned (OpenSpec.ofChange fragCutsSpec)

/-- ITS FALSE NEIGHBOUR: 'it returns false'. Refute it at one input. -/
def fragCutsWrong : ChangeSpec := { name := "fragCuts", fn := fun _ => fun
  | [d1, d2, d3, d4, d5] => { results := [.lit (.bool false)], args := [d1, d2, d3, d4, d5] }
  | _ => none }
def FragCutsWrongFalsely : Prop := fragCutsRow.holds Try.pinned (OpenSpec.ofChange fragCutsWrong)

/-- 'intermedelaw15.FragAll': WHATEVER THE INPUT: true; the input reads as it did. -/
def fragAllSpec : ChangeSpec := { name := "fragAll", fn := fun _ => fun
  | [d1, d2, d3] => { results := [.lit (.bool true)], args := [d1, d2, d3] }
  | _ => none }
def fragAllRow : OpenClaim := { program := "ytlpoejkleopdoaa", sum := "25a5bccd07cd0b041f3aabacd2c4b03aa8479080fb41eab74f6c5ed712e0d3ae", func := "intermede/intermedelaw15.FragAll", spec := "fragAll", unfollowed := true, recurses := true, apart := false }
def FragAllSaid : Prop := fragAllRow.holds Try.pinned (OpenSpec.ofChange fragAllSpec)

/-- ITS FALSE NEIGHBOUR: 'it returns false'. Refute it at one input. -/
def fragAllWrong : ChangeSpec := { name := "fragAll", fn := fun _ => fun
  | [d1, d2, d3] => { results := [.lit (.bool false)], args := [d1, d2, d3] }
  | _ => none }
def FragAllWrongFalsely : Prop := fragAllRow.holds Try.pinned (OpenSpec.ofChange fragAllWrong)

/-- 'intermedelaw15.FragWoven': WHATEVER THE INPUT: true; the input reads as it did. -/
def fragWovenSpec : ChangeSpec := { name := "fragWoven", fn := fun _ => fun
  | [d1, d2, d3] => { results := [.lit (.bool true)], args := [d1, d2, d3] }
  | _ => none }
def fragWovenRow : OpenClaim := { program := "ytlpoejkleopdoaa", sum := "25a5bccd07cd0b041f3aabacd2c4b03aa8479080fb41eab74f6c5ed712e0d3ae", func := "intermede/intermedelaw15.FragWoven", spec := "fragWoven", unfollowed := true, recurses := true, apart := false }
def FragWovenSaid : Prop := fragWovenRow.holds Try.pinned (OpenSpec.ofChange fragWovenSpec)

/-- ITS FALSE NEIGHBOUR: 'it returns false'. Refute it at one input. -/
def fragWovenWrong : ChangeSpec := { name := "fragWoven", fn := fun _ => fun
  | [d1, d2, d3] => { results := [.lit (.bool false)], args := [d1, d2, d3] }
  | _ => none }
def FragWovenWrongFalsely : Prop := fragWovenRow.holds Try.pinned (OpenSpec.ofChange fragWovenWrong)

/- THE SECOND FORM. 'bulk': how many values and letters a reading holds, each counted each time it is reached (what is shared counts as often as it is met; a slice's spare places count too). A statement '..UptoSaid' is the law's where the arguments, and the package variables that the reading takes, are together of bulk at most 1048576: NARROWER than '..Said'. Prove '..Said' where nothing that the law and all that it calls make is longer than what came in: it says more and counts as full. Else prove '..UptoSaid'. A law counts once. -/
mutual
def uptoBulk {H : Type} : DataW H → Nat
  | .lit (.string bytes) => bytes.length + 1
  | .lit _ => 1
  | .nil => 1
  | .ptr d => uptoBulk d + 1
  | .slice elems spare => uptoBulkAll elems + uptoBulkAll spare + 1
  | .agg parts => uptoBulkAll parts + 1
  | .iface _ d => uptoBulk d + 1
  | .map entries => uptoBulkEntries entries + 1
  | .held _ => 1
def uptoBulkAll {H : Type} : List (DataW H) → Nat
  | [] => 0
  | d :: r => uptoBulk d + uptoBulkAll r
def uptoBulkEntries {H : Type} : List (Lit × DataW H) → Nat
  | [] => 0
  | x :: r => uptoBulkEntry x + uptoBulkEntries r
def uptoBulkEntry {H : Type} : Lit × DataW H → Nat
  | (.string bytes, d) => bytes.length + uptoBulk d + 1
  | (_, d) => uptoBulk d + 1
 end
def uptoSmall : (H : Type) → List (DataW H) → Bool := fun _ ds => decide (uptoBulkAll ds ≤ 1048576)
def OpenSpec.upto (s : _root_.Go.ChangeSpec) : _root_.Go.OpenSpec := { _root_.Go.OpenSpec.ofChange s with cond := some uptoSmall }

/-- 'intermedelaw15.FragWeaves', WHERE WHAT IT READS IS OF BULK AT MOST 1048576: true; the input reads as it did. -/
def fragWeavesUptoRow : OpenClaim := { program := "ytlpoejkleopdoaa", sum := "25a5bccd07cd0b041f3aabacd2c4b03aa8479080fb41eab74f6c5ed712e0d3ae", func := "intermede/intermedelaw15.FragWeaves", spec := "fragWeaves", unfollowed := true, recurses := true, apart := false, narrowed := true }
def FragWeavesUptoSaid : Prop := fragWeavesUptoRow.holds Try.pinned (OpenSpec.upto fragWeavesSpec)

/-- 'intermedelaw15.FragJoins', WHERE WHAT IT READS IS OF BULK AT MOST 1048576: true; the input reads as it did. -/
def fragJoinsUptoRow : OpenClaim := { program := "ytlpoejkleopdoaa", sum := "25a5bccd07cd0b041f3aabacd2c4b03aa8479080fb41eab74f6c5ed712e0d3ae", func := "intermede/intermedelaw15.FragJoins", spec := "fragJoins", unfollowed := true, recurses := true, apart := false, narrowed := true }
def FragJoinsUptoSaid : Prop := fragJoinsUptoRow.holds Try.pinned (OpenSpec.upto fragJoinsSpec)

/-- 'intermedelaw15.FragCuts', WHERE WHAT IT READS IS OF BULK AT MOST 1048576: true; the input reads as it did. -/
def fragCutsUptoRow : OpenClaim := { program := "ytlpoejkleopdoaa", sum := "25a5bccd07cd0b041f3aabacd2c4b03aa8479080fb41eab74f6c5ed712e0d3ae", func := "intermede/intermedelaw15.FragCuts", spec := "fragCuts", unfollowed := true, recurses := true, apart := false, narrowed := true }
def FragCutsUptoSaid : Prop := fragCutsUptoRow.holds Try.pinned (OpenSpec.upto fragCutsSpec)

/-- 'intermedelaw15.FragAll', WHERE WHAT IT READS IS OF BULK AT MOST 1048576: true; the input reads as it did. -/
def fragAllUptoRow : OpenClaim := { program := "ytlpoejkleopdoaa", sum := "25a5bccd07cd0b041f3aabacd2c4b03aa8479080fb41eab74f6c5ed712e0d3ae", func := "intermede/intermedelaw15.FragAll", spec := "fragAll", unfollowed := true, recurses := true, apart := false, narrowed := true }
def FragAllUptoSaid : Prop := fragAllUptoRow.holds Try.pinned (OpenSpec.upto fragAllSpec)

/-- 'intermedelaw15.FragWoven', WHERE WHAT IT READS IS OF BULK AT MOST 1048576: true; the input reads as it did. -/
def fragWovenUptoRow : OpenClaim := { program := "ytlpoejkleopdoaa", sum := "25a5bccd07cd0b041f3aabacd2c4b03aa8479080fb41eab74f6c5ed712e0d3ae", func := "intermede/intermedelaw15.FragWoven", spec := "fragWoven", unfollowed := true, recurses := true, apart := false, narrowed := true }
def FragWovenUptoSaid : Prop := fragWovenUptoRow.holds Try.pinned (OpenSpec.upto fragWovenSpec)

end Rows
end Go.Proofs.Ytlpoejkleopdoaa
