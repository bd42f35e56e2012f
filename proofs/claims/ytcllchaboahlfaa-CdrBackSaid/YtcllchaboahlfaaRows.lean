/-
  No cell of these rows narrows 'for every input' (looked for: loops, veiled, ifaces, maps, wideKeys, modest, calm, conditions, laid).
  DERIVED. THE GIVEN ROWS OF THIS SEAT. 6 by the template 'for every input the law returns true; each argument reads behind the call as it read before'; 0 by the template 'total and deterministic' (their statements: YtcllchaboahlfaaTotals.lean).
  GIVEN WITH THE SEED: the statements are not yours to turn. If you find one false, say at which input.
  Laid BY PROGRAM, IN A SANDBOX (cutbox-rows.mjs): the forced cells as the released guide's own fill.sh prints them over the translation ca6bcc694c83fdbb… (all of the seat's roots in one cut). By AI agents, Wed Nov 11 2026. No macro, syntax, notation, axiom, sorry.
-/
import Derived.Test.YtcllchaboahlfaaChecked
import GoSem.Claim
import GoSem.ClaimJoined
import GoSem.ClaimMapViews
import Derived.JoinedTies
import Derived.KernelRfl
namespace Go.Proofs.Ytcllchaboahlfaa
/- THE CELL 'sum', in the pinned program and in every row, IS THE sha256 OF THE DUMP (.gsa) THAT YtcllchaboahlfaaProg.lean LOADS. Nothing in Lean hashes anything: it is a label: what it is worth is what the hold of that sum in a sandbox is worth. -/
noncomputable def Try.pinned : Pinned := { name := "ytcllchaboahlfaa", sum := "ca6bcc694c83fdbb3226cec4cd9c28a0f789aa6bd2d3ad2200fc7ffbaaa48840", checked := Try.checked }
namespace Rows
def none {H : Type} : Left H := { results := [], args := [] }

/-- 'intermedelaw01.CdrWrites': WHATEVER THE INPUT: true; the input reads as it did. -/
def cdrWritesSpec : ChangeSpec := { name := "cdrWrites", fn := fun _ => fun
  | [d1, d2, d3] => { results := [.lit (.bool true)], args := [d1, d2, d3] }
  | _ => none }
def cdrWritesRow : OpenClaim := { program := "ytcllchaboahlfaa", sum := "ca6bcc694c83fdbb3226cec4cd9c28a0f789aa6bd2d3ad2200fc7ffbaaa48840", func := "intermede/intermedelaw01.CdrWrites", spec := "cdrWrites", inPlace := ["internal/bytealg.IndexByteString"], unfollowed := true, recurses := true, apart := false }
def CdrWritesSaid : Prop := cdrWritesRow.holds Try.pinned (OpenSpec.ofChange cdrWritesSpec)

/-- ITS FALSE NEIGHBOUR: 'it returns false'. Refute it at one input. -/
def cdrWritesWrong : ChangeSpec := { name := "cdrWrites", fn := fun _ => fun
  | [d1, d2, d3] => { results := [.lit (.bool false)], args := [d1, d2, d3] }
  | _ => none }
def CdrWritesWrongFalsely : Prop := cdrWritesRow.holds Try.pinned (OpenSpec.ofChange cdrWritesWrong)

/-- 'intermedelaw01.CdrPads': WHATEVER THE INPUT: true; the input reads as it did. -/
def cdrPadsSpec : ChangeSpec := { name := "cdrPads", fn := fun _ => fun
  | [d1, d2, d3] => { results := [.lit (.bool true)], args := [d1, d2, d3] }
  | _ => none }
def cdrPadsRow : OpenClaim := { program := "ytcllchaboahlfaa", sum := "ca6bcc694c83fdbb3226cec4cd9c28a0f789aa6bd2d3ad2200fc7ffbaaa48840", func := "intermede/intermedelaw01.CdrPads", spec := "cdrPads", inPlace := ["internal/bytealg.IndexByteString"], unfollowed := true, recurses := true, apart := false }
def CdrPadsSaid : Prop := cdrPadsRow.holds Try.pinned (OpenSpec.ofChange cdrPadsSpec)

/-- ITS FALSE NEIGHBOUR: 'it returns false'. Refute it at one input. -/
def cdrPadsWrong : ChangeSpec := { name := "cdrPads", fn := fun _ => fun
  | [d1, d2, d3] => { results := [.lit (.bool false)], args := [d1, d2, d3] }
  | _ => none }
def CdrPadsWrongFalsely : Prop := cdrPadsRow.holds Try.pinned (OpenSpec.ofChange cdrPadsWrong)

/-- 'intermedelaw01.CdrOrders': WHATEVER THE INPUT: true; the input reads as it did. -/
def cdrOrdersSpec : ChangeSpec := { name := "cdrOrders", fn := fun _ => fun
  | [d1, d2, d3] => { results := [.lit (.bool true)], args := [d1, d2, d3] }
  | _ => none }
def cdrOrdersRow : OpenClaim := { program := "ytcllchaboahlfaa", sum := "ca6bcc694c83fdbb3226cec4cd9c28a0f789aa6bd2d3ad2200fc7ffbaaa48840", func := "intermede/intermedelaw01.CdrOrders", spec := "cdrOrders", inPlace := ["internal/bytealg.IndexByteString"], unfollowed := true, recurses := true, apart := false }
def CdrOrdersSaid : Prop := cdrOrdersRow.holds Try.pinned (OpenSpec.ofChange cdrOrdersSpec)

/-- ITS FALSE NEIGHBOUR: 'it returns false'. Refute it at one input. -/
def cdrOrdersWrong : ChangeSpec := { name := "cdrOrders", fn := fun _ => fun
  | [d1, d2, d3] => { results := [.lit (.bool false)], args := [d1, d2, d3] }
  | _ => none }
def CdrOrdersWrongFalsely : Prop := cdrOrdersRow.holds Try.pinned (OpenSpec.ofChange cdrOrdersWrong)

/-- 'intermedelaw01.CdrReads': WHATEVER THE INPUT: true; the input reads as it did. -/
def cdrReadsSpec : ChangeSpec := { name := "cdrReads", fn := fun _ => fun
  | [d1, d2, d3, d4] => { results := [.lit (.bool true)], args := [d1, d2, d3, d4] }
  | _ => none }
def cdrReadsRow : OpenClaim := { program := "ytcllchaboahlfaa", sum := "ca6bcc694c83fdbb3226cec4cd9c28a0f789aa6bd2d3ad2200fc7ffbaaa48840", func := "intermede/intermedelaw01.CdrReads", spec := "cdrReads", inPlace := ["internal/bytealg.IndexByteString"], unfollowed := true, recurses := true, apart := false }
def CdrReadsSaid : Prop := cdrReadsRow.holds Try.pinned (OpenSpec.ofChange cdrReadsSpec)

/-- ITS FALSE NEIGHBOUR: 'it returns false'. Refute it at one input. -/
def cdrReadsWrong : ChangeSpec := { name := "cdrReads", fn := fun _ => fun
  | [d1, d2, d3, d4] => { results := [.lit (.bool false)], args := [d1, d2, d3, d4] }
  | _ => none }
def CdrReadsWrongFalsely : Prop := cdrReadsRow.holds Try.pinned (OpenSpec.ofChange cdrReadsWrong)

/-- 'intermedelaw01.CdrFirst': WHATEVER THE INPUT: true; the input reads as it did. -/
def cdrFirstSpec : ChangeSpec := { name := "cdrFirst", fn := fun _ => fun
  | [d1, d2, d3, d4] => { results := [.lit (.bool true)], args := [d1, d2, d3, d4] }
  | _ => none }
def cdrFirstRow : OpenClaim := { program := "ytcllchaboahlfaa", sum := "ca6bcc694c83fdbb3226cec4cd9c28a0f789aa6bd2d3ad2200fc7ffbaaa48840", func := "intermede/intermedelaw01.CdrFirst", spec := "cdrFirst", inPlace := ["internal/bytealg.IndexByteString"], unfollowed := true, recurses := true, apart := false }
def CdrFirstSaid : Prop := cdrFirstRow.holds Try.pinned (OpenSpec.ofChange cdrFirstSpec)

/-- ITS FALSE NEIGHBOUR: 'it returns false'. Refute it at one input. -/
def cdrFirstWrong : ChangeSpec := { name := "cdrFirst", fn := fun _ => fun
  | [d1, d2, d3, d4] => { results := [.lit (.bool false)], args := [d1, d2, d3, d4] }
  | _ => none }
def CdrFirstWrongFalsely : Prop := cdrFirstRow.holds Try.pinned (OpenSpec.ofChange cdrFirstWrong)

/-- 'intermedelaw01.CdrBack': WHATEVER THE INPUT: true; the input reads as it did. -/
def cdrBackSpec : ChangeSpec := { name := "cdrBack", fn := fun _ => fun
  | [d1, d2, d3] => { results := [.lit (.bool true)], args := [d1, d2, d3] }
  | _ => none }
def cdrBackRow : OpenClaim := { program := "ytcllchaboahlfaa", sum := "ca6bcc694c83fdbb3226cec4cd9c28a0f789aa6bd2d3ad2200fc7ffbaaa48840", func := "intermede/intermedelaw01.CdrBack", spec := "cdrBack", inPlace := ["internal/bytealg.IndexByteString"], unfollowed := true, recurses := true, apart := false }
def CdrBackSaid : Prop := cdrBackRow.holds Try.pinned (OpenSpec.ofChange cdrBackSpec)

/-- ITS FALSE NEIGHBOUR: 'it returns false'. Refute it at one input. -/
def cdrBackWrong : ChangeSpec := { name := "cdrBack", fn := fun _ => fun
  | [d1, d2, d3] => { results := [.lit (.bool false)], args := [d1, d2, d3] }
  | _ => none }
def CdrBackWrongFalsely : Prop := cdrBackRow.holds Try.pinned (OpenSpec.ofChange cdrBackWrong)

/- THE SECOND FORM. 'bulk': how many values and letters a reading holds, each counted each time it is reached (what is shared counts as often as it is met; a slice's spare places count too). A statement '..UptoSaid' is the law's where the arguments, and the package variables that the reading takes, are together of bulk at most 1048576: NARROWER than '..Said'. Prove '..Said' where nothing that the law and all that it calls make is longer than what came in: it says more and counts as full. Else prove '..UptoSaid'. A law counts once. -/
mutual
def uptoBulk {H : Type} : DataW H → Nat
  | .lit (.string bytes) => bytes.length + 1
  | .lit _ => 1
  | .nil => 1
  | .ptr d => uptoBulk d + 1
  | .slice elems spare => uptoBulkAll elems + uptoBulkAll spare + 1
  | .agg parts => uptoBulkAll parts + 1
  | .iface _ d => uptoBulk d + 1
  | .map entries => uptoBulkEntries entries + 1
  | .held _ => 1
def uptoBulkAll {H : Type} : List (DataW H) → Nat
  | [] => 0
  | d :: r => uptoBulk d + uptoBulkAll r
def uptoBulkEntries {H : Type} : List (Lit × DataW H) → Nat
  | [] => 0
  | x :: r => uptoBulkEntry x + uptoBulkEntries r
def uptoBulkEntry {H : Type} : Lit × DataW H → Nat
  | (.string bytes, d) => bytes.length + uptoBulk d + 1
  | (_, d) => uptoBulk d + 1
 end
def uptoSmall : (H : Type) → List (DataW H) → Bool := fun _ ds => decide (uptoBulkAll ds ≤ 1048576)
def OpenSpec.upto (s : _root_.Go.ChangeSpec) : _root_.Go.OpenSpec := { _root_.Go.OpenSpec.ofChange s with cond := some uptoSmall }

/-- 'intermedelaw01.CdrWrites', WHERE WHAT IT READS IS OF BULK AT MOST 1048576: true; the input reads as it did. -/
def cdrWritesUptoRow : OpenClaim := { program := "ytcllchaboahlfaa", sum := "ca6bcc694c83fdbb3226cec4cd9c28a0f789aa6bd2d3ad2200fc7ffbaaa48840", func := "intermede/intermedelaw01.CdrWrites", spec := "cdrWrites", inPlace := ["internal/bytealg.IndexByteString"], unfollowed := true, recurses := true, apart := false, narrowed := true }
def CdrWritesUptoSaid : Prop := cdrWritesUptoRow.holds Try.pinned (OpenSpec.upto cdrWritesSpec)

/-- 'intermedelaw01.CdrPads', WHERE WHAT IT READS IS OF BULK AT MOST 1048576: true; the input reads as it did. -/
def cdrPadsUptoRow : OpenClaim := { program := "ytcllchaboahlfaa", sum := "ca6bcc694c83fdbb3226cec4cd9c28a0f789aa6bd2d3ad2200fc7ffbaaa48840", func := "intermede/intermedelaw01.CdrPads", spec := "cdrPads", inPlace := ["internal/bytealg.IndexByteString"], unfollowed := true, recurses := true, apart := false, narrowed := true }
def CdrPadsUptoSaid : Prop := cdrPadsUptoRow.holds Try.pinned (OpenSpec.upto cdrPadsSpec)

/-- 'intermedelaw01.CdrOrders', WHERE WHAT IT READS IS OF BULK AT MOST 1048576: true; the input reads as it did. -/
def cdrOrdersUptoRow : OpenClaim := { program := "ytcllchaboahlfaa", sum := "ca6bcc694c83fdbb3226cec4cd9c28a0f789aa6bd2d3ad2200fc7ffbaaa48840", func := "intermede/intermedelaw01.CdrOrders", spec := "cdrOrders", inPlace := ["internal/bytealg.IndexByteString"], unfollowed := true, recurses := true, apart := false, narrowed := true }
def CdrOrdersUptoSaid : Prop := cdrOrdersUptoRow.holds Try.pinned (OpenSpec.upto cdrOrdersSpec)

/-- 'intermedelaw01.CdrReads', WHERE WHAT IT READS IS OF BULK AT MOST 1048576: true; the input reads as it did. -/
def cdrReadsUptoRow : OpenClaim := { program := "ytcllchaboahlfaa", sum := "ca6bcc694c83fdbb3226cec4cd9c28a0f789aa6bd2d3ad2200fc7ffbaaa48840", func := "intermede/intermedelaw01.CdrReads", spec := "cdrReads", inPlace := ["internal/bytealg.IndexByteString"], unfollowed := true, recurses := true, apart := false, narrowed := true }
def CdrReadsUptoSaid : Prop := cdrReadsUptoRow.holds Try.pinned (OpenSpec.upto cdrReadsSpec)

/-- 'intermedelaw01.CdrFirst', WHERE WHAT IT READS IS OF BULK AT MOST 1048576: true; the input reads as it did. -/
def cdrFirstUptoRow : OpenClaim := { program := "ytcllchaboahlfaa", sum := "ca6bcc694c83fdbb3226cec4cd9c28a0f789aa6bd2d3ad2200fc7ffbaaa48840", func := "intermede/intermedelaw01.CdrFirst", spec := "cdrFirst", inPlace := ["internal/bytealg.IndexByteString"], unfollowed := true, recurses := true, apart := false, narrowed := true }
def CdrFirstUptoSaid : Prop := cdrFirstUptoRow.holds Try.pinned (OpenSpec.upto cdrFirstSpec)

/-- 'intermedelaw01.CdrBack', WHERE WHAT IT READS IS OF BULK AT MOST 1048576: true; the input reads as it did. -/
def cdrBackUptoRow : OpenClaim := { program := "ytcllchaboahlfaa", sum := "ca6bcc694c83fdbb3226cec4cd9c28a0f789aa6bd2d3ad2200fc7ffbaaa48840", func := "intermede/intermedelaw01.CdrBack", spec := "cdrBack", inPlace := ["internal/bytealg.IndexByteString"], unfollowed := true, recurses := true, apart := false, narrowed := true }
def CdrBackUptoSaid : Prop := cdrBackUptoRow.holds Try.pinned (OpenSpec.upto cdrBackSpec)

end Rows
end Go.Proofs.Ytcllchaboahlfaa
