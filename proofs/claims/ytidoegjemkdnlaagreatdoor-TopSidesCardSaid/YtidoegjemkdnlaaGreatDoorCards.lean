/-
  DERIVED. GIVEN WITH THE SEED: THE CARDS: each row of YtidoegjemkdnlaaGreatDoorRows.lean that lists a variable, with what it lists TIED to the program's text (the seventh form; the later family's looks); each row that meets fmt, with fmt's text TOLD by the authors' own Lean function (tested against real Go, not proved from fmt's source: count such statements apart). THE CARD IS WHAT COUNTS. Prove the row's statement (the work); the ties are given (YtidoegjemkdnlaaGreatDoorTie.lean); close each card by the builder's one call (the guide's Derived/Test/ToyasCard.lean, 'card_holds'). Laid BY PROGRAM, IN A SANDBOX (cutbox-door.mjs). By AI agents, Wed Nov 11 2026. No macro, syntax, notation, axiom, sorry.
-/
import Derived.Test.YtidoegjemkdnlaaGreatDoorRows
import GoSem.ClaimSeven
namespace Go.Proofs.YtidoegjemkdnlaaGreatDoor
namespace Rows

/-- THE TIED CARD OF 'tillertop.TopSides'. -/
def topSidesCard : Claim7 := { stood := { row := topSidesRow, standIns := [], harness := (true, "ec99ef3ff7c5a2361e1fb1910adb10e63bf409679a93f5f3ee71398373dee96b"), looks := false }, kinds := [], alts := [], laidByText := true, laidKinds := [.data, .data, .data], laidTests := true, laidLooks := .later }
def TopSidesCardSaid : Prop := Claim7.holds Tryz.pinned (.plain (OpenSpec.ofChange topSidesSpec)) topSidesCard

/-- THE SECOND FORM's CARD OF 'tillertop.TopSides'. -/
def topSidesUptoCard : Claim7 := { stood := { row := topSidesUptoRow, standIns := [], harness := (true, "ec99ef3ff7c5a2361e1fb1910adb10e63bf409679a93f5f3ee71398373dee96b"), looks := false }, kinds := [], alts := [], laidByText := true, laidKinds := [.data, .data, .data], laidTests := true, laidLooks := .later }
def TopSidesUptoCardSaid : Prop := Claim7.holds Tryz.pinned (.plain (OpenSpec.upto topSidesSpec)) topSidesUptoCard
end Rows
end Go.Proofs.YtidoegjemkdnlaaGreatDoor
