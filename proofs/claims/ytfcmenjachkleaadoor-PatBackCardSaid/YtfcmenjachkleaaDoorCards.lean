/-
  DERIVED. GIVEN WITH THE SEED: THE CARDS: each row of YtfcmenjachkleaaDoorRows.lean that lists a variable, with what it lists TIED to the program's text (the seventh form; the later family's looks); each row that meets fmt, with fmt's text TOLD by the authors' own Lean function (tested against real Go, not proved from fmt's source: count such statements apart). THE CARD IS WHAT COUNTS. Prove the row's statement (the work); the ties are given (YtfcmenjachkleaaDoorTie.lean); close each card by the builder's one call (the guide's Derived/Test/ToyasCard.lean, 'card_holds'). Laid BY PROGRAM, IN A SANDBOX (cutbox-door.mjs). By AI agents, Wed Nov 11 2026. No macro, syntax, notation, axiom, sorry.
-/
import Derived.Test.YtfcmenjachkleaaDoorRows
import GoSem.ClaimSeven
namespace Go.Proofs.YtfcmenjachkleaaDoor
namespace Rows

/-- THE TIED CARD OF 'tillerlaw03.PatTakes'. -/
def patTakesCard : Claim7 := { stood := { row := patTakesRow, standIns := [], harness := (true, "a85766e52f6e52510ebbfdf49080940b75aaac28cb9354c54ce19e4b42c2c3dd"), looks := false }, kinds := [], alts := [], laidByText := true, laidKinds := [.data, .data, .data], laidTests := true, laidLooks := .later }
def PatTakesCardSaid : Prop := Claim7.holds Tryd.pinned (.plain (OpenSpec.ofChange patTakesSpec)) patTakesCard

/-- THE TIED CARD OF 'tillerlaw03.PatSigns'. -/
def patSignsCard : Claim7 := { stood := { row := patSignsRow, standIns := [], harness := (true, "a85766e52f6e52510ebbfdf49080940b75aaac28cb9354c54ce19e4b42c2c3dd"), looks := false }, kinds := [], alts := [], laidByText := true, laidKinds := [.data, .data, .data], laidTests := true, laidLooks := .later }
def PatSignsCardSaid : Prop := Claim7.holds Tryd.pinned (.plain (OpenSpec.ofChange patSignsSpec)) patSignsCard

/-- THE TIED CARD OF 'tillerlaw03.PatClasses'. -/
def patClassesCard : Claim7 := { stood := { row := patClassesRow, standIns := [], harness := (true, "a85766e52f6e52510ebbfdf49080940b75aaac28cb9354c54ce19e4b42c2c3dd"), looks := false }, kinds := [], alts := [], laidByText := true, laidKinds := [.data, .data, .data], laidTests := true, laidLooks := .later }
def PatClassesCardSaid : Prop := Claim7.holds Tryd.pinned (.plain (OpenSpec.ofChange patClassesSpec)) patClassesCard

/-- THE TIED CARD OF 'tillerlaw03.PatBack'. -/
def patBackCard : Claim7 := { stood := { row := patBackRow, standIns := [], harness := (true, "a85766e52f6e52510ebbfdf49080940b75aaac28cb9354c54ce19e4b42c2c3dd"), looks := false }, kinds := [], alts := [], laidByText := true, laidKinds := [.data, .data, .data], laidTests := true, laidLooks := .later }
def PatBackCardSaid : Prop := Claim7.holds Tryd.pinned (.plain (OpenSpec.ofChange patBackSpec)) patBackCard

/-- THE SECOND FORM's CARD OF 'tillerlaw03.PatTakes'. -/
def patTakesUptoCard : Claim7 := { stood := { row := patTakesUptoRow, standIns := [], harness := (true, "a85766e52f6e52510ebbfdf49080940b75aaac28cb9354c54ce19e4b42c2c3dd"), looks := false }, kinds := [], alts := [], laidByText := true, laidKinds := [.data, .data, .data], laidTests := true, laidLooks := .later }
def PatTakesUptoCardSaid : Prop := Claim7.holds Tryd.pinned (.plain (OpenSpec.upto patTakesSpec)) patTakesUptoCard

/-- THE SECOND FORM's CARD OF 'tillerlaw03.PatSigns'. -/
def patSignsUptoCard : Claim7 := { stood := { row := patSignsUptoRow, standIns := [], harness := (true, "a85766e52f6e52510ebbfdf49080940b75aaac28cb9354c54ce19e4b42c2c3dd"), looks := false }, kinds := [], alts := [], laidByText := true, laidKinds := [.data, .data, .data], laidTests := true, laidLooks := .later }
def PatSignsUptoCardSaid : Prop := Claim7.holds Tryd.pinned (.plain (OpenSpec.upto patSignsSpec)) patSignsUptoCard

/-- THE SECOND FORM's CARD OF 'tillerlaw03.PatClasses'. -/
def patClassesUptoCard : Claim7 := { stood := { row := patClassesUptoRow, standIns := [], harness := (true, "a85766e52f6e52510ebbfdf49080940b75aaac28cb9354c54ce19e4b42c2c3dd"), looks := false }, kinds := [], alts := [], laidByText := true, laidKinds := [.data, .data, .data], laidTests := true, laidLooks := .later }
def PatClassesUptoCardSaid : Prop := Claim7.holds Tryd.pinned (.plain (OpenSpec.upto patClassesSpec)) patClassesUptoCard

/-- THE SECOND FORM's CARD OF 'tillerlaw03.PatBack'. -/
def patBackUptoCard : Claim7 := { stood := { row := patBackUptoRow, standIns := [], harness := (true, "a85766e52f6e52510ebbfdf49080940b75aaac28cb9354c54ce19e4b42c2c3dd"), looks := false }, kinds := [], alts := [], laidByText := true, laidKinds := [.data, .data, .data], laidTests := true, laidLooks := .later }
def PatBackUptoCardSaid : Prop := Claim7.holds Tryd.pinned (.plain (OpenSpec.upto patBackSpec)) patBackUptoCard
end Rows
end Go.Proofs.YtfcmenjachkleaaDoor
