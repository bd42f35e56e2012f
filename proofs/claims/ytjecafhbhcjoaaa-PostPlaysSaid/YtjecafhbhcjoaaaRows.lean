/-
  No cell of these rows narrows 'for every input' (looked for: loops, veiled, ifaces, maps, wideKeys, modest, calm, conditions, laid).
  DERIVED. THE GIVEN ROWS OF THIS SEAT. 4 by the template 'for every input the law returns true; each argument reads behind the call as it read before'; 0 by the template 'total and deterministic' (their statements: YtjecafhbhcjoaaaTotals.lean).
  GIVEN WITH THE SEED: the statements are not yours to turn. If you find one false, say at which input.
  Laid BY PROGRAM, IN A SANDBOX (cutbox-rows.mjs): the forced cells as the released guide's own fill.sh prints them over the translation 94c2385711a955e3… (all of the seat's roots in one cut). By AI agents, Wed Nov 11 2026. No macro, syntax, notation, axiom, sorry.
-/
import Derived.Test.YtjecafhbhcjoaaaChecked
import GoSem.Claim
import GoSem.ClaimJoined
import GoSem.ClaimMapViews
import Derived.JoinedTies
import Derived.KernelRfl
namespace Go.Proofs.Ytjecafhbhcjoaaa
/- THE CELL 'sum', in the pinned program and in every row, IS THE sha256 OF THE DUMP (.gsa) THAT YtjecafhbhcjoaaaProg.lean LOADS. Nothing in Lean hashes anything: it is a label: what it is worth is what the hold of that sum in a sandbox is worth. -/
noncomputable def Try.pinned : Pinned := { name := "ytjecafhbhcjoaaa", sum := "94c2385711a955e3887171504eb17ac66b31b949ec521acd8f10498d1cb1b6f1", checked := Try.checked }
namespace Rows
def none {H : Type} : Left H := { results := [], args := [] }

/-- 'intermedelaw22.PostReturns': WHATEVER THE INPUT: true; the input reads as it did. -/
def postReturnsSpec : ChangeSpec := { name := "postReturns", fn := fun _ => fun
  | [d1, d2] => { results := [.lit (.bool true)], args := [d1, d2] }
  | _ => none }
def postReturnsRow : OpenClaim := { program := "ytjecafhbhcjoaaa", sum := "94c2385711a955e3887171504eb17ac66b31b949ec521acd8f10498d1cb1b6f1", func := "intermede/intermedelaw22.PostReturns", spec := "postReturns", unfollowed := true, recurses := true, apart := false }
def PostReturnsSaid : Prop := postReturnsRow.holds Try.pinned (OpenSpec.ofChange postReturnsSpec)

/-- ITS FALSE NEIGHBOUR: 'it returns false'. Refute it at one input. -/
def postReturnsWrong : ChangeSpec := { name := "postReturns", fn := fun _ => fun
  | [d1, d2] => { results := [.lit (.bool false)], args := [d1, d2] }
  | _ => none }
def PostReturnsWrongFalsely : Prop := postReturnsRow.holds Try.pinned (OpenSpec.ofChange postReturnsWrong)

/-- 'intermedelaw22.PostOnce': WHATEVER THE INPUT: true; the input reads as it did. -/
def postOnceSpec : ChangeSpec := { name := "postOnce", fn := fun _ => fun
  | [d1, d2, d3, d4] => { results := [.lit (.bool true)], args := [d1, d2, d3, d4] }
  | _ => none }
def postOnceRow : OpenClaim := { program := "ytjecafhbhcjoaaa", sum := "94c2385711a955e3887171504eb17ac66b31b949ec521acd8f10498d1cb1b6f1", func := "intermede/intermedelaw22.PostOnce", spec := "postOnce", unfollowed := true, recurses := true, apart := false }
def PostOnceSaid : Prop := postOnceRow.holds Try.pinned (OpenSpec.ofChange postOnceSpec)

/-- ITS FALSE NEIGHBOUR: 'it returns false'. Refute it at one input. -/
def postOnceWrong : ChangeSpec := { name := "postOnce", fn := fun _ => fun
  | [d1, d2, d3, d4] => { results := [.lit (.bool false)], args := [d1, d2, d3, d4] }
  | _ => none }
def PostOnceWrongFalsely : Prop := postOnceRow.holds Try.pinned (OpenSpec.ofChange postOnceWrong)

/-- 'intermedelaw22.PostPlays': WHATEVER THE INPUT: true; the input reads as it did. -/
def postPlaysSpec : ChangeSpec := { name := "postPlays", fn := fun _ => fun
  | [d1, d2, d3, d4] => { results := [.lit (.bool true)], args := [d1, d2, d3, d4] }
  | _ => none }
def postPlaysRow : OpenClaim := { program := "ytjecafhbhcjoaaa", sum := "94c2385711a955e3887171504eb17ac66b31b949ec521acd8f10498d1cb1b6f1", func := "intermede/intermedelaw22.PostPlays", spec := "postPlays", unfollowed := true, recurses := true, apart := false }
def PostPlaysSaid : Prop := postPlaysRow.holds Try.pinned (OpenSpec.ofChange postPlaysSpec)

/-- ITS FALSE NEIGHBOUR: 'it returns false'. Refute it at one input. -/
def postPlaysWrong : ChangeSpec := { name := "postPlays", fn := fun _ => fun
  | [d1, d2, d3, d4] => { results := [.lit (.bool false)], args := [d1, d2, d3, d4] }
  | _ => none }
def PostPlaysWrongFalsely : Prop := postPlaysRow.holds Try.pinned (OpenSpec.ofChange postPlaysWrong)

/-- 'intermedelaw22.PostHands': WHATEVER THE INPUT: true; the input reads as it did. -/
def postHandsSpec : ChangeSpec := { name := "postHands", fn := fun _ => fun
  | [d1, d2, d3, d4, d5, d6, d7, d8] => { results := [.lit (.bool true)], args := [d1, d2, d3, d4, d5, d6, d7, d8] }
  | _ => none }
def postHandsRow : OpenClaim := { program := "ytjecafhbhcjoaaa", sum := "94c2385711a955e3887171504eb17ac66b31b949ec521acd8f10498d1cb1b6f1", func := "intermede/intermedelaw22.PostHands", spec := "postHands", unfollowed := true, recurses := true, apart := false }
def PostHandsSaid : Prop := postHandsRow.holds Try.pinned (OpenSpec.ofChange postHandsSpec)

/-- ITS FALSE NEIGHBOUR: 'it returns false'. Refute it at one input. -/
def postHandsWrong : ChangeSpec := { name := "postHands", fn := fun _ => fun
  | [d1, d2, d3, d4, d5, d6, d7, d8] => { results := [.lit (.bool false)], args := [d1, d2, d3, d4, d5, d6, d7, d8] }
  | _ => none }
def PostHandsWrongFalsely : Prop := postHandsRow.holds Try.pinned (OpenSpec.ofChange postHandsWrong)

/- THE SECOND FORM. 'bulk': how many values and letters a reading holds, each counted each time it is reached (what is shared counts as often as it is met; a slice's spare places count too). A statement '..UptoSaid' is the law's where the arguments, and the package variables that the reading takes, are together of bulk at most 1048576: NARROWER than '..Said'. Prove '..Said' where nothing that the law and all that it calls make is longer than what came in: it says more and counts as full. Else prove '..UptoSaid'. A law counts once. -/
mutual
def uptoBulk {H : Type} : DataW H → Nat
  | .lit (.string bytes) => bytes.length + 1
  | .lit _ => 1
  | .nil => 1
  | .ptr d => uptoBulk d + 1
  | .slice elems spare => uptoBulkAll elems + uptoBulkAll spare + 1
  | .agg parts => uptoBulkAll parts + 1
  | .iface _ d => uptoBulk d + 1
  | .map entries => uptoBulkEntries entries + 1
  | .held _ => 1
def uptoBulkAll {H : Type} : List (DataW H) → Nat
  | [] => 0
  | d :: r => uptoBulk d + uptoBulkAll r
def uptoBulkEntries {H : Type} : List (Lit × DataW H) → Nat
  | [] => 0
  | x :: r => uptoBulkEntry x + uptoBulkEntries r
def uptoBulkEntry {H : Type} : Lit × DataW H → Nat
  | (.string bytes, d) => bytes.length + uptoBulk d + 1
  | (_, d) => uptoBulk d + 1
 end
def uptoSmall : (H : Type) → List (DataW H) → Bool := fun _ ds => decide (uptoBulkAll ds ≤ 1048576)
def OpenSpec.upto (s : _root_.Go.ChangeSpec) : _root_.Go.OpenSpec := { _root_.Go.OpenSpec.ofChange s with cond := some uptoSmall }

/-- 'intermedelaw22.PostReturns', WHERE WHAT IT READS IS OF BULK AT MOST 1048576: true; the input reads as it did. -/
def postReturnsUptoRow : OpenClaim := { program := "ytjecafhbhcjoaaa", sum := "94c2385711a955e3887171504eb17ac66b31b949ec521acd8f10498d1cb1b6f1", func := "intermede/intermedelaw22.PostReturns", spec := "postReturns", unfollowed := true, recurses := true, apart := false, narrowed := true }
def PostReturnsUptoSaid : Prop := postReturnsUptoRow.holds Try.pinned (OpenSpec.upto postReturnsSpec)

/-- 'intermedelaw22.PostOnce', WHERE WHAT IT READS IS OF BULK AT MOST 1048576: true; the input reads as it did. -/
def postOnceUptoRow : OpenClaim := { program := "ytjecafhbhcjoaaa", sum := "94c2385711a955e3887171504eb17ac66b31b949ec521acd8f10498d1cb1b6f1", func := "intermede/intermedelaw22.PostOnce", spec := "postOnce", unfollowed := true, recurses := true, apart := false, narrowed := true }
def PostOnceUptoSaid : Prop := postOnceUptoRow.holds Try.pinned (OpenSpec.upto postOnceSpec)

/-- 'intermedelaw22.PostPlays', WHERE WHAT IT READS IS OF BULK AT MOST 1048576: true; the input reads as it did. -/
def postPlaysUptoRow : OpenClaim := { program := "ytjecafhbhcjoaaa", sum := "94c2385711a955e3887171504eb17ac66b31b949ec521acd8f10498d1cb1b6f1", func := "intermede/intermedelaw22.PostPlays", spec := "postPlays", unfollowed := true, recurses := true, apart := false, narrowed := true }
def PostPlaysUptoSaid : Prop := postPlaysUptoRow.holds Try.pinned (OpenSpec.upto postPlaysSpec)

/-- 'intermedelaw22.PostHands', WHERE WHAT IT READS IS OF BULK AT MOST 1048576: true; the input reads as it did. -/
def postHandsUptoRow : OpenClaim := { program := "ytjecafhbhcjoaaa", sum := "94c2385711a955e3887171504eb17ac66b31b949ec521acd8f10498d1cb1b6f1", func := "intermede/intermedelaw22.PostHands", spec := "postHands", unfollowed := true, recurses := true, apart := false, narrowed := true }
def PostHandsUptoSaid : Prop := postHandsUptoRow.holds Try.pinned (OpenSpec.upto postHandsSpec)

end Rows
end Go.Proofs.Ytjecafhbhcjoaaa
