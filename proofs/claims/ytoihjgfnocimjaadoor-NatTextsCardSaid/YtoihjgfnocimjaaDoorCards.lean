/-
  DERIVED. GIVEN WITH THE SEED: THE CARDS: each row of YtoihjgfnocimjaaDoorRows.lean that lists a variable, with what it lists TIED to the program's text (the seventh form; the later family's looks); each row that meets fmt, with fmt's text TOLD by the authors' own Lean function (tested against real Go, not proved from fmt's source: count such statements apart). THE CARD IS WHAT COUNTS. Prove the row's statement (the work); the ties are given (YtoihjgfnocimjaaDoorTie.lean); close each card by the builder's one call (the guide's Derived/Test/ToyasCard.lean, 'card_holds'). Laid BY PROGRAM, IN A SANDBOX (cutbox-door.mjs). By AI agents, Wed Nov 11 2026. No macro, syntax, notation, axiom, sorry.
-/
import Derived.Test.YtoihjgfnocimjaaDoorRows
import GoSem.ClaimSeven
namespace Go.Proofs.YtoihjgfnocimjaaDoor
namespace Rows

/-- THE TIED CARD OF 'tillerlaw02.NatMuls'. -/
def natMulsCard : Claim7 := { stood := { row := natMulsRow, standIns := [], harness := (true, "83baf1d718aa9bd8ea30bdec06085f9e93009664eb0e4793735371527ba29168"), looks := true }, kinds := [], alts := [], laidByText := true, laidKinds := [.handle], laidTests := true, laidLooks := .later }
def NatMulsCardSaid : Prop := Claim7.holds Tryd.pinned (.plain (OpenSpec.ofChange natMulsSpec)) natMulsCard

/-- THE TIED CARD OF 'tillerlaw02.NatPowers'. -/
def natPowersCard : Claim7 := { stood := { row := natPowersRow, standIns := [], harness := (true, "83baf1d718aa9bd8ea30bdec06085f9e93009664eb0e4793735371527ba29168"), looks := true }, kinds := [], alts := [], laidByText := true, laidKinds := [.handle], laidTests := true, laidLooks := .later }
def NatPowersCardSaid : Prop := Claim7.holds Tryd.pinned (.plain (OpenSpec.ofChange natPowersSpec)) natPowersCard

/-- THE TIED CARD OF 'tillerlaw02.NatTexts'. -/
def natTextsCard : Claim7 := { stood := { row := natTextsRow, standIns := [], harness := (true, "83baf1d718aa9bd8ea30bdec06085f9e93009664eb0e4793735371527ba29168"), looks := true }, kinds := [], alts := [], laidByText := true, laidKinds := [.handle], laidTests := true, laidLooks := .later }
def NatTextsCardSaid : Prop := Claim7.holds Tryd.pinned (.plain (OpenSpec.ofChange natTextsSpec)) natTextsCard

/-- THE TIED CARD OF 'tillerlaw02.NatLong'. -/
def natLongCard : Claim7 := { stood := { row := natLongRow, standIns := [], harness := (true, "83baf1d718aa9bd8ea30bdec06085f9e93009664eb0e4793735371527ba29168"), looks := true }, kinds := [], alts := [], laidByText := true, laidKinds := [.handle], laidTests := true, laidLooks := .later }
def NatLongCardSaid : Prop := Claim7.holds Tryd.pinned (.plain (OpenSpec.ofChange natLongSpec)) natLongCard

/-- THE TIED CARD OF 'tillerlaw02.NatSums'. -/
def natSumsCard : Claim7 := { stood := { row := natSumsRow, standIns := [], harness := (true, "83baf1d718aa9bd8ea30bdec06085f9e93009664eb0e4793735371527ba29168"), looks := true }, kinds := [], alts := [], laidByText := true, laidKinds := [.handle], laidTests := true, laidLooks := .later }
def NatSumsCardSaid : Prop := Claim7.holds Tryd.pinned (.plain (OpenSpec.ofChange natSumsSpec)) natSumsCard

/-- THE TIED CARD OF 'tillerlaw02.NatParts'. -/
def natPartsCard : Claim7 := { stood := { row := natPartsRow, standIns := [], harness := (true, "83baf1d718aa9bd8ea30bdec06085f9e93009664eb0e4793735371527ba29168"), looks := true }, kinds := [], alts := [], laidByText := true, laidKinds := [.handle], laidTests := true, laidLooks := .later }
def NatPartsCardSaid : Prop := Claim7.holds Tryd.pinned (.plain (OpenSpec.ofChange natPartsSpec)) natPartsCard

/-- THE SECOND FORM's CARD OF 'tillerlaw02.NatMuls'. -/
def natMulsUptoCard : Claim7 := { stood := { row := natMulsUptoRow, standIns := [], harness := (true, "83baf1d718aa9bd8ea30bdec06085f9e93009664eb0e4793735371527ba29168"), looks := true }, kinds := [], alts := [], laidByText := true, laidKinds := [.handle], laidTests := true, laidLooks := .later }
def NatMulsUptoCardSaid : Prop := Claim7.holds Tryd.pinned (.plain (OpenSpec.upto natMulsSpec)) natMulsUptoCard

/-- THE SECOND FORM's CARD OF 'tillerlaw02.NatPowers'. -/
def natPowersUptoCard : Claim7 := { stood := { row := natPowersUptoRow, standIns := [], harness := (true, "83baf1d718aa9bd8ea30bdec06085f9e93009664eb0e4793735371527ba29168"), looks := true }, kinds := [], alts := [], laidByText := true, laidKinds := [.handle], laidTests := true, laidLooks := .later }
def NatPowersUptoCardSaid : Prop := Claim7.holds Tryd.pinned (.plain (OpenSpec.upto natPowersSpec)) natPowersUptoCard

/-- THE SECOND FORM's CARD OF 'tillerlaw02.NatTexts'. -/
def natTextsUptoCard : Claim7 := { stood := { row := natTextsUptoRow, standIns := [], harness := (true, "83baf1d718aa9bd8ea30bdec06085f9e93009664eb0e4793735371527ba29168"), looks := true }, kinds := [], alts := [], laidByText := true, laidKinds := [.handle], laidTests := true, laidLooks := .later }
def NatTextsUptoCardSaid : Prop := Claim7.holds Tryd.pinned (.plain (OpenSpec.upto natTextsSpec)) natTextsUptoCard

/-- THE SECOND FORM's CARD OF 'tillerlaw02.NatLong'. -/
def natLongUptoCard : Claim7 := { stood := { row := natLongUptoRow, standIns := [], harness := (true, "83baf1d718aa9bd8ea30bdec06085f9e93009664eb0e4793735371527ba29168"), looks := true }, kinds := [], alts := [], laidByText := true, laidKinds := [.handle], laidTests := true, laidLooks := .later }
def NatLongUptoCardSaid : Prop := Claim7.holds Tryd.pinned (.plain (OpenSpec.upto natLongSpec)) natLongUptoCard

/-- THE SECOND FORM's CARD OF 'tillerlaw02.NatSums'. -/
def natSumsUptoCard : Claim7 := { stood := { row := natSumsUptoRow, standIns := [], harness := (true, "83baf1d718aa9bd8ea30bdec06085f9e93009664eb0e4793735371527ba29168"), looks := true }, kinds := [], alts := [], laidByText := true, laidKinds := [.handle], laidTests := true, laidLooks := .later }
def NatSumsUptoCardSaid : Prop := Claim7.holds Tryd.pinned (.plain (OpenSpec.upto natSumsSpec)) natSumsUptoCard

/-- THE SECOND FORM's CARD OF 'tillerlaw02.NatParts'. -/
def natPartsUptoCard : Claim7 := { stood := { row := natPartsUptoRow, standIns := [], harness := (true, "83baf1d718aa9bd8ea30bdec06085f9e93009664eb0e4793735371527ba29168"), looks := true }, kinds := [], alts := [], laidByText := true, laidKinds := [.handle], laidTests := true, laidLooks := .later }
def NatPartsUptoCardSaid : Prop := Claim7.holds Tryd.pinned (.plain (OpenSpec.upto natPartsSpec)) natPartsUptoCard
end Rows
end Go.Proofs.YtoihjgfnocimjaaDoor
