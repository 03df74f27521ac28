/-
  DERIVED. GIVEN WITH THE SEED: THE CARDS: each row of YtnpcejiijhgkjaaDoorRows.lean that lists a variable, with what it lists TIED to the program's text (the seventh form; the later family's looks); each row that meets fmt, with fmt's text TOLD by the authors' own Lean function (tested against real Go, not proved from fmt's source: count such statements apart). THE CARD IS WHAT COUNTS. Prove the row's statement (the work); the ties are given (YtnpcejiijhgkjaaDoorTie.lean); close each card by the builder's one call (the guide's Derived/Test/ToyasCard.lean, 'card_holds'). Laid BY PROGRAM, IN A SANDBOX (cutbox-door.mjs). By AI agents, Wed Nov 11 2026. No macro, syntax, notation, axiom, sorry.
-/
import Derived.Test.YtnpcejiijhgkjaaDoorRows
import GoSem.ClaimSeven
namespace Go.Proofs.YtnpcejiijhgkjaaDoor
namespace Rows

/-- THE TIED CARD OF 'tillerlaw03.PatHex'. -/
def patHexCard : Claim7 := { stood := { row := patHexRow, standIns := [], harness := (true, "e1237891e65c88b0abf8230ad319c6d205c916cf8ff2951b2699894c8c25ad90"), looks := true }, kinds := [], alts := [], laidByText := true, laidKinds := [.data, .data, .data, .handle], laidTests := true, laidLooks := .later }
def PatHexCardSaid : Prop := Claim7.holds Tryd.pinned (.plain (OpenSpec.ofChange patHexSpec)) patHexCard

/-- THE TIED CARD OF 'tillerlaw03.PatMakes'. -/
def patMakesCard : Claim7 := { stood := { row := patMakesRow, standIns := [], harness := (true, "e1237891e65c88b0abf8230ad319c6d205c916cf8ff2951b2699894c8c25ad90"), looks := true }, kinds := [], alts := [], laidByText := true, laidKinds := [.data, .data, .data, .handle], laidTests := true, laidLooks := .later }
def PatMakesCardSaid : Prop := Claim7.holds Tryd.pinned (.plain (OpenSpec.ofChange patMakesSpec)) patMakesCard

/-- THE SECOND FORM's CARD OF 'tillerlaw03.PatHex'. -/
def patHexUptoCard : Claim7 := { stood := { row := patHexUptoRow, standIns := [], harness := (true, "e1237891e65c88b0abf8230ad319c6d205c916cf8ff2951b2699894c8c25ad90"), looks := true }, kinds := [], alts := [], laidByText := true, laidKinds := [.data, .data, .data, .handle], laidTests := true, laidLooks := .later }
def PatHexUptoCardSaid : Prop := Claim7.holds Tryd.pinned (.plain (OpenSpec.upto patHexSpec)) patHexUptoCard

/-- THE SECOND FORM's CARD OF 'tillerlaw03.PatMakes'. -/
def patMakesUptoCard : Claim7 := { stood := { row := patMakesUptoRow, standIns := [], harness := (true, "e1237891e65c88b0abf8230ad319c6d205c916cf8ff2951b2699894c8c25ad90"), looks := true }, kinds := [], alts := [], laidByText := true, laidKinds := [.data, .data, .data, .handle], laidTests := true, laidLooks := .later }
def PatMakesUptoCardSaid : Prop := Claim7.holds Tryd.pinned (.plain (OpenSpec.upto patMakesSpec)) patMakesUptoCard
end Rows
end Go.Proofs.YtnpcejiijhgkjaaDoor
