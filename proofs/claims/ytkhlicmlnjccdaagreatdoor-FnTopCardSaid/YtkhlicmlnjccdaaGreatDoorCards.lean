/-
  DERIVED. GIVEN WITH THE SEED: THE CARDS: each row of YtkhlicmlnjccdaaGreatDoorRows.lean that lists a variable, with what it lists TIED to the program's text (the seventh form; the later family's looks); each row that meets fmt, with fmt's text TOLD by the authors' own Lean function (tested against real Go, not proved from fmt's source: count such statements apart). THE CARD IS WHAT COUNTS. Prove the row's statement (the work); the ties are given (YtkhlicmlnjccdaaGreatDoorTie.lean); close each card by the builder's one call (the guide's Derived/Test/ToyasCard.lean, 'card_holds'). Laid BY PROGRAM, IN A SANDBOX (cutbox-door.mjs). By AI agents, Wed Nov 11 2026. No macro, syntax, notation, axiom, sorry.
-/
import Derived.Test.YtkhlicmlnjccdaaGreatDoorRows
import GoSem.ClaimSeven
namespace Go.Proofs.YtkhlicmlnjccdaaGreatDoor
namespace Rows

/-- THE TIED CARD OF 'laws.FnTop'. -/
def fnTopCard : Claim7 := { stood := { row := fnTopRow, standIns := [], harness := (true, "9cd04208558572f7e6d695c41d501f453ae28e52f399707e5f825154f619b881"), looks := false }, kinds := [], alts := [], laidByText := true, laidKinds := [.data, .data, .data, .data, .data, .data, .pinned], laidTests := true, laidLooks := .later }
def FnTopCardSaid : Prop := Claim7.holds Tryz.pinned (.plain (OpenSpec.ofChange fnTopSpec)) fnTopCard

/-- THE TIED CARD OF 'laws.FnExactLoad'. -/
def fnExactLoadCard : Claim7 := { stood := { row := fnExactLoadRow, standIns := [], harness := (true, "9cd04208558572f7e6d695c41d501f453ae28e52f399707e5f825154f619b881"), looks := false }, kinds := [], alts := [], laidByText := true, laidKinds := [.data, .pinned], laidTests := true, laidLooks := .later }
def FnExactLoadCardSaid : Prop := Claim7.holds Tryz.pinned (.plain (OpenSpec.ofChange fnExactLoadSpec)) fnExactLoadCard

/-- THE TIED CARD OF 'laws.FnExactAnswer'. -/
def fnExactAnswerCard : Claim7 := { stood := { row := fnExactAnswerRow, standIns := [], harness := (true, "9cd04208558572f7e6d695c41d501f453ae28e52f399707e5f825154f619b881"), looks := false }, kinds := [], alts := [], laidByText := true, laidKinds := [.data, .data, .data, .data, .data, .data, .pinned], laidTests := true, laidLooks := .later }
def FnExactAnswerCardSaid : Prop := Claim7.holds Tryz.pinned (.plain (OpenSpec.ofChange fnExactAnswerSpec)) fnExactAnswerCard

/-- THE TIED CARD OF 'laws.FnSpoilt'. -/
def fnSpoiltCard : Claim7 := { stood := { row := fnSpoiltRow, standIns := [], harness := (true, "9cd04208558572f7e6d695c41d501f453ae28e52f399707e5f825154f619b881"), looks := false }, kinds := [], alts := [], laidByText := true, laidKinds := [.data, .data, .data, .data, .data, .data, .pinned], laidTests := true, laidLooks := .later }
def FnSpoiltCardSaid : Prop := Claim7.holds Tryz.pinned (.plain (OpenSpec.ofChange fnSpoiltSpec)) fnSpoiltCard

/-- THE SECOND FORM's CARD OF 'laws.FnTop'. -/
def fnTopUptoCard : Claim7 := { stood := { row := fnTopUptoRow, standIns := [], harness := (true, "9cd04208558572f7e6d695c41d501f453ae28e52f399707e5f825154f619b881"), looks := false }, kinds := [], alts := [], laidByText := true, laidKinds := [.data, .data, .data, .data, .data, .data, .pinned], laidTests := true, laidLooks := .later }
def FnTopUptoCardSaid : Prop := Claim7.holds Tryz.pinned (.plain (OpenSpec.upto fnTopSpec)) fnTopUptoCard

/-- THE SECOND FORM's CARD OF 'laws.FnExactLoad'. -/
def fnExactLoadUptoCard : Claim7 := { stood := { row := fnExactLoadUptoRow, standIns := [], harness := (true, "9cd04208558572f7e6d695c41d501f453ae28e52f399707e5f825154f619b881"), looks := false }, kinds := [], alts := [], laidByText := true, laidKinds := [.data, .pinned], laidTests := true, laidLooks := .later }
def FnExactLoadUptoCardSaid : Prop := Claim7.holds Tryz.pinned (.plain (OpenSpec.upto fnExactLoadSpec)) fnExactLoadUptoCard

/-- THE SECOND FORM's CARD OF 'laws.FnExactAnswer'. -/
def fnExactAnswerUptoCard : Claim7 := { stood := { row := fnExactAnswerUptoRow, standIns := [], harness := (true, "9cd04208558572f7e6d695c41d501f453ae28e52f399707e5f825154f619b881"), looks := false }, kinds := [], alts := [], laidByText := true, laidKinds := [.data, .data, .data, .data, .data, .data, .pinned], laidTests := true, laidLooks := .later }
def FnExactAnswerUptoCardSaid : Prop := Claim7.holds Tryz.pinned (.plain (OpenSpec.upto fnExactAnswerSpec)) fnExactAnswerUptoCard

/-- THE SECOND FORM's CARD OF 'laws.FnSpoilt'. -/
def fnSpoiltUptoCard : Claim7 := { stood := { row := fnSpoiltUptoRow, standIns := [], harness := (true, "9cd04208558572f7e6d695c41d501f453ae28e52f399707e5f825154f619b881"), looks := false }, kinds := [], alts := [], laidByText := true, laidKinds := [.data, .data, .data, .data, .data, .data, .pinned], laidTests := true, laidLooks := .later }
def FnSpoiltUptoCardSaid : Prop := Claim7.holds Tryz.pinned (.plain (OpenSpec.upto fnSpoiltSpec)) fnSpoiltUptoCard
end Rows
end Go.Proofs.YtkhlicmlnjccdaaGreatDoor
