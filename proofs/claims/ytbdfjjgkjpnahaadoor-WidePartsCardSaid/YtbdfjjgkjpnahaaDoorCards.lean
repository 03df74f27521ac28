/-
  DERIVED. GIVEN WITH THE SEED: THE CARDS: each row of YtbdfjjgkjpnahaaDoorRows.lean that lists a variable, with what it lists TIED to the program's text (the seventh form; the later family's looks); each row that meets fmt, with fmt's text TOLD by the authors' own Lean function (tested against real Go, not proved from fmt's source: count such statements apart). THE CARD IS WHAT COUNTS. Prove the row's statement (the work); the ties are given (YtbdfjjgkjpnahaaDoorTie.lean); close each card by the builder's one call (the guide's Derived/Test/ToyasCard.lean, 'card_holds'). Laid BY PROGRAM, IN A SANDBOX (cutbox-door.mjs). By AI agents, Wed Nov 11 2026. No macro, syntax, notation, axiom, sorry.
-/
import Derived.Test.YtbdfjjgkjpnahaaDoorRows
import GoSem.ClaimSeven
namespace Go.Proofs.YtbdfjjgkjpnahaaDoor
namespace Rows

/-- THE TIED CARD OF 'tillerlaw01.WideParts'. -/
def widePartsCard : Claim7 := { stood := { row := widePartsRow, standIns := [], harness := (true, "a6c34c49e97944f6446f16201c64da6a2d96c7e9a4d69e2259051bb44144b349"), looks := true }, kinds := [], alts := [], laidByText := true, laidKinds := [.handle], laidTests := true, laidLooks := .later }
def WidePartsCardSaid : Prop := Claim7.holds Tryd.pinned (.plain (OpenSpec.ofChange widePartsSpec)) widePartsCard

/-- THE SECOND FORM's CARD OF 'tillerlaw01.WideParts'. -/
def widePartsUptoCard : Claim7 := { stood := { row := widePartsUptoRow, standIns := [], harness := (true, "a6c34c49e97944f6446f16201c64da6a2d96c7e9a4d69e2259051bb44144b349"), looks := true }, kinds := [], alts := [], laidByText := true, laidKinds := [.handle], laidTests := true, laidLooks := .later }
def WidePartsUptoCardSaid : Prop := Claim7.holds Tryd.pinned (.plain (OpenSpec.upto widePartsSpec)) widePartsUptoCard
end Rows
end Go.Proofs.YtbdfjjgkjpnahaaDoor
