/-
  DERIVED. GIVEN WITH THE SEED: THE CARDS: each row of YtmmmdmandocbhaaDoorRows.lean that lists a variable, with what it lists TIED to the program's text (the seventh form; the later family's looks); each row that meets fmt, with fmt's text TOLD by the authors' own Lean function (tested against real Go, not proved from fmt's source: count such statements apart). THE CARD IS WHAT COUNTS. Prove the row's statement (the work); the ties are given (YtmmmdmandocbhaaDoorTie.lean); close each card by the builder's one call (the guide's Derived/Test/ToyasCard.lean, 'card_holds'). Laid BY PROGRAM, IN A SANDBOX (cutbox-door.mjs). By AI agents, Wed Nov 11 2026. No macro, syntax, notation, axiom, sorry.
-/
import Derived.Test.YtmmmdmandocbhaaDoorRows
import GoSem.ClaimSeven
namespace Go.Proofs.YtmmmdmandocbhaaDoor
namespace Rows

/-- THE TIED CARD OF 'intermedelaw17.NetInSteps'. -/
def netInStepsCard : Claim7 := { stood := { row := netInStepsRow, standIns := [], harness := (true, "4c0169c9c9f6ac7e3006724424b0708b44a8fa7e28dbe8b7419814c6264a33d5"), looks := false }, kinds := [], alts := [], laidByText := true, laidKinds := [.data, .data, .data], laidTests := true, laidLooks := .later }
def NetInStepsCardSaid : Prop := Claim7.holds Tryd.pinned (.plain (OpenSpec.ofChange netInStepsSpec)) netInStepsCard

/-- THE SECOND FORM's CARD OF 'intermedelaw17.NetInSteps'. -/
def netInStepsUptoCard : Claim7 := { stood := { row := netInStepsUptoRow, standIns := [], harness := (true, "4c0169c9c9f6ac7e3006724424b0708b44a8fa7e28dbe8b7419814c6264a33d5"), looks := false }, kinds := [], alts := [], laidByText := true, laidKinds := [.data, .data, .data], laidTests := true, laidLooks := .later }
def NetInStepsUptoCardSaid : Prop := Claim7.holds Tryd.pinned (.plain (OpenSpec.upto netInStepsSpec)) netInStepsUptoCard
end Rows
end Go.Proofs.YtmmmdmandocbhaaDoor
