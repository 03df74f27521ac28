/-
  DERIVED. GIVEN WITH THE SEED: THE CARDS: each row of YtopcajgknbmbcaaGreatDoorRows.lean that lists a variable, with what it lists TIED to the program's text (the seventh form; the later family's looks); each row that meets fmt, with fmt's text TOLD by the authors' own Lean function (tested against real Go, not proved from fmt's source: count such statements apart). THE CARD IS WHAT COUNTS. Prove the row's statement (the work); the ties are given (YtopcajgknbmbcaaGreatDoorTie.lean); close each card by the builder's one call (the guide's Derived/Test/ToyasCard.lean, 'card_holds'). Laid BY PROGRAM, IN A SANDBOX (cutbox-door.mjs). By AI agents, Wed Nov 11 2026. No macro, syntax, notation, axiom, sorry.
-/
import Derived.Test.YtopcajgknbmbcaaGreatDoorRows
import GoSem.ClaimSeven
namespace Go.Proofs.YtopcajgknbmbcaaGreatDoor
namespace Rows

/-- THE TIED CARD OF 'tillertop.TopRests'. -/
def topRestsCard : Claim7 := { stood := { row := topRestsRow, standIns := [], harness := (true, "1efc4111e95f9b4e9b21f1b5b94b27b2f42eeb073d11cb079aacedf2480d9c36"), looks := false }, kinds := [], alts := [], laidByText := true, laidKinds := [.data, .data, .data], laidTests := true, laidLooks := .later }
def TopRestsCardSaid : Prop := Claim7.holds Tryz.pinned (.plain (OpenSpec.ofChange topRestsSpec)) topRestsCard

/-- THE TIED CARD OF 'tillertop.TopWholes'. -/
def topWholesCard : Claim7 := { stood := { row := topWholesRow, standIns := [], harness := (true, "1efc4111e95f9b4e9b21f1b5b94b27b2f42eeb073d11cb079aacedf2480d9c36"), looks := false }, kinds := [], alts := [], laidByText := true, laidKinds := [.data, .data, .data], laidTests := true, laidLooks := .later }
def TopWholesCardSaid : Prop := Claim7.holds Tryz.pinned (.plain (OpenSpec.ofChange topWholesSpec)) topWholesCard

/-- THE SECOND FORM's CARD OF 'tillertop.TopRests'. -/
def topRestsUptoCard : Claim7 := { stood := { row := topRestsUptoRow, standIns := [], harness := (true, "1efc4111e95f9b4e9b21f1b5b94b27b2f42eeb073d11cb079aacedf2480d9c36"), looks := false }, kinds := [], alts := [], laidByText := true, laidKinds := [.data, .data, .data], laidTests := true, laidLooks := .later }
def TopRestsUptoCardSaid : Prop := Claim7.holds Tryz.pinned (.plain (OpenSpec.upto topRestsSpec)) topRestsUptoCard

/-- THE SECOND FORM's CARD OF 'tillertop.TopWholes'. -/
def topWholesUptoCard : Claim7 := { stood := { row := topWholesUptoRow, standIns := [], harness := (true, "1efc4111e95f9b4e9b21f1b5b94b27b2f42eeb073d11cb079aacedf2480d9c36"), looks := false }, kinds := [], alts := [], laidByText := true, laidKinds := [.data, .data, .data], laidTests := true, laidLooks := .later }
def TopWholesUptoCardSaid : Prop := Claim7.holds Tryz.pinned (.plain (OpenSpec.upto topWholesSpec)) topWholesUptoCard
end Rows
end Go.Proofs.YtopcajgknbmbcaaGreatDoor
