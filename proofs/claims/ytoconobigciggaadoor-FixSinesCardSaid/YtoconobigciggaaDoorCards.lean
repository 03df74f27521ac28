/-
  DERIVED. GIVEN WITH THE SEED: THE CARDS: each row of YtoconobigciggaaDoorRows.lean that lists a variable, with what it lists TIED to the program's text (the seventh form; the later family's looks); each row that meets fmt, with fmt's text TOLD by the authors' own Lean function (tested against real Go, not proved from fmt's source: count such statements apart). THE CARD IS WHAT COUNTS. Prove the row's statement (the work); the ties are given (YtoconobigciggaaDoorTie.lean); close each card by the builder's one call (the guide's Derived/Test/ToyasCard.lean, 'card_holds'). Laid BY PROGRAM, IN A SANDBOX (cutbox-door.mjs). By AI agents, Wed Nov 11 2026. No macro, syntax, notation, axiom, sorry.
-/
import Derived.Test.YtoconobigciggaaDoorRows
import GoSem.ClaimSeven
namespace Go.Proofs.YtoconobigciggaaDoor
namespace Rows

/-- THE TIED CARD OF 'tillerlaw15.FixOf'. -/
def fixOfCard : Claim7 := { stood := { row := fixOfRow, standIns := [], harness := (true, "360953642fbcabb6ad39e70c243f5bc86d0650b2b8cb5df850d52f2d7521d1bd"), looks := true }, kinds := [], alts := [], laidByText := true, laidKinds := [.handle], laidTests := true, laidLooks := .later }
def FixOfCardSaid : Prop := Claim7.holds Tryd.pinned (.plain (OpenSpec.ofChange fixOfSpec)) fixOfCard

/-- THE TIED CARD OF 'tillerlaw15.FixHalves'. -/
def fixHalvesCard : Claim7 := { stood := { row := fixHalvesRow, standIns := [], harness := (true, "360953642fbcabb6ad39e70c243f5bc86d0650b2b8cb5df850d52f2d7521d1bd"), looks := true }, kinds := [], alts := [], laidByText := true, laidKinds := [.handle], laidTests := true, laidLooks := .later }
def FixHalvesCardSaid : Prop := Claim7.holds Tryd.pinned (.plain (OpenSpec.ofChange fixHalvesSpec)) fixHalvesCard

/-- THE TIED CARD OF 'tillerlaw15.FixSines'. -/
def fixSinesCard : Claim7 := { stood := { row := fixSinesRow, standIns := [], harness := (true, "360953642fbcabb6ad39e70c243f5bc86d0650b2b8cb5df850d52f2d7521d1bd"), looks := true }, kinds := [], alts := [], laidByText := true, laidKinds := [.handle], laidTests := true, laidLooks := .later }
def FixSinesCardSaid : Prop := Claim7.holds Tryd.pinned (.plain (OpenSpec.ofChange fixSinesSpec)) fixSinesCard

/-- THE SECOND FORM's CARD OF 'tillerlaw15.FixOf'. -/
def fixOfUptoCard : Claim7 := { stood := { row := fixOfUptoRow, standIns := [], harness := (true, "360953642fbcabb6ad39e70c243f5bc86d0650b2b8cb5df850d52f2d7521d1bd"), looks := true }, kinds := [], alts := [], laidByText := true, laidKinds := [.handle], laidTests := true, laidLooks := .later }
def FixOfUptoCardSaid : Prop := Claim7.holds Tryd.pinned (.plain (OpenSpec.upto fixOfSpec)) fixOfUptoCard

/-- THE SECOND FORM's CARD OF 'tillerlaw15.FixHalves'. -/
def fixHalvesUptoCard : Claim7 := { stood := { row := fixHalvesUptoRow, standIns := [], harness := (true, "360953642fbcabb6ad39e70c243f5bc86d0650b2b8cb5df850d52f2d7521d1bd"), looks := true }, kinds := [], alts := [], laidByText := true, laidKinds := [.handle], laidTests := true, laidLooks := .later }
def FixHalvesUptoCardSaid : Prop := Claim7.holds Tryd.pinned (.plain (OpenSpec.upto fixHalvesSpec)) fixHalvesUptoCard

/-- THE SECOND FORM's CARD OF 'tillerlaw15.FixSines'. -/
def fixSinesUptoCard : Claim7 := { stood := { row := fixSinesUptoRow, standIns := [], harness := (true, "360953642fbcabb6ad39e70c243f5bc86d0650b2b8cb5df850d52f2d7521d1bd"), looks := true }, kinds := [], alts := [], laidByText := true, laidKinds := [.handle], laidTests := true, laidLooks := .later }
def FixSinesUptoCardSaid : Prop := Claim7.holds Tryd.pinned (.plain (OpenSpec.upto fixSinesSpec)) fixSinesUptoCard
end Rows
end Go.Proofs.YtoconobigciggaaDoor
