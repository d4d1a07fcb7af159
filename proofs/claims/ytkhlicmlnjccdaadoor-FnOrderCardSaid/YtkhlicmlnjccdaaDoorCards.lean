/-
  DERIVED. GIVEN WITH THE SEED: THE CARDS: each row of YtkhlicmlnjccdaaDoorRows.lean that lists a variable, with what it lists TIED to the program's text (the seventh form; the later family's looks); each row that meets fmt, with fmt's text TOLD by the authors' own Lean function (tested against real Go, not proved from fmt's source: count such statements apart). THE CARD IS WHAT COUNTS. Prove the row's statement (the work); the ties are given (YtkhlicmlnjccdaaDoorTie.lean); close each card by the builder's one call (the guide's Derived/Test/ToyasCard.lean, 'card_holds'). Laid BY PROGRAM, IN A SANDBOX (cutbox-door.mjs). By AI agents, Wed Nov 11 2026. No macro, syntax, notation, axiom, sorry.
-/
import Derived.Test.YtkhlicmlnjccdaaDoorRows
import GoSem.ClaimSeven
namespace Go.Proofs.YtkhlicmlnjccdaaDoor
namespace Rows

/-- THE TIED CARD OF 'laws.FnExactClean'. -/
def fnExactCleanCard : Claim7 := { stood := { row := fnExactCleanRow, standIns := [], harness := (true, "2ccd3fc1803cd16ee7c20e55ae7f89b0b88e2cf6bda8ff192394331770ef9475"), looks := false }, kinds := [], alts := [], laidByText := true, laidKinds := [.data, .pinned], laidTests := true, laidLooks := .later }
def FnExactCleanCardSaid : Prop := Claim7.holds Tryd.pinned (.plain (OpenSpec.ofChange fnExactCleanSpec)) fnExactCleanCard

/-- THE TIED CARD OF 'laws.FnExactWithin'. -/
def fnExactWithinCard : Claim7 := { stood := { row := fnExactWithinRow, standIns := [], harness := (true, "2ccd3fc1803cd16ee7c20e55ae7f89b0b88e2cf6bda8ff192394331770ef9475"), looks := false }, kinds := [], alts := [], laidByText := true, laidKinds := [.data, .pinned], laidTests := true, laidLooks := .later }
def FnExactWithinCardSaid : Prop := Claim7.holds Tryd.pinned (.plain (OpenSpec.ofChange fnExactWithinSpec)) fnExactWithinCard

/-- THE TIED CARD OF 'laws.FnExactTries'. -/
def fnExactTriesCard : Claim7 := { stood := { row := fnExactTriesRow, standIns := [], harness := (true, "2ccd3fc1803cd16ee7c20e55ae7f89b0b88e2cf6bda8ff192394331770ef9475"), looks := false }, kinds := [], alts := [], laidByText := true, laidKinds := [.data, .pinned], laidTests := true, laidLooks := .later }
def FnExactTriesCardSaid : Prop := Claim7.holds Tryd.pinned (.plain (OpenSpec.ofChange fnExactTriesSpec)) fnExactTriesCard

/-- THE TIED CARD OF 'laws.FnFan'. -/
def fnFanCard : Claim7 := { stood := { row := fnFanRow, standIns := [], harness := (true, "2ccd3fc1803cd16ee7c20e55ae7f89b0b88e2cf6bda8ff192394331770ef9475"), looks := false }, kinds := [], alts := [], laidByText := true, laidKinds := [.data, .pinned], laidTests := true, laidLooks := .later }
def FnFanCardSaid : Prop := Claim7.holds Tryd.pinned (.plain (OpenSpec.ofChange fnFanSpec)) fnFanCard

/-- THE TIED CARD OF 'laws.FnDeep'. -/
def fnDeepCard : Claim7 := { stood := { row := fnDeepRow, standIns := [], harness := (true, "2ccd3fc1803cd16ee7c20e55ae7f89b0b88e2cf6bda8ff192394331770ef9475"), looks := false }, kinds := [], alts := [], laidByText := true, laidKinds := [.data, .pinned], laidTests := true, laidLooks := .later }
def FnDeepCardSaid : Prop := Claim7.holds Tryd.pinned (.plain (OpenSpec.ofChange fnDeepSpec)) fnDeepCard

/-- THE TIED CARD OF 'laws.FnNames'. -/
def fnNamesCard : Claim7 := { stood := { row := fnNamesRow, standIns := [], harness := (true, "2ccd3fc1803cd16ee7c20e55ae7f89b0b88e2cf6bda8ff192394331770ef9475"), looks := false }, kinds := [], alts := [], laidByText := true, laidKinds := [.data, .pinned], laidTests := true, laidLooks := .later }
def FnNamesCardSaid : Prop := Claim7.holds Tryd.pinned (.plain (OpenSpec.ofChange fnNamesSpec)) fnNamesCard

/-- THE TIED CARD OF 'laws.FnChain'. -/
def fnChainCard : Claim7 := { stood := { row := fnChainRow, standIns := [], harness := (true, "2ccd3fc1803cd16ee7c20e55ae7f89b0b88e2cf6bda8ff192394331770ef9475"), looks := false }, kinds := [], alts := [], laidByText := true, laidKinds := [.data, .pinned], laidTests := true, laidLooks := .later }
def FnChainCardSaid : Prop := Claim7.holds Tryd.pinned (.plain (OpenSpec.ofChange fnChainSpec)) fnChainCard

/-- THE TIED CARD OF 'laws.FnExactWorldOk'. -/
def fnExactWorldOkCard : Claim7 := { stood := { row := fnExactWorldOkRow, standIns := [], harness := (true, "2ccd3fc1803cd16ee7c20e55ae7f89b0b88e2cf6bda8ff192394331770ef9475"), looks := false }, kinds := [], alts := [], laidByText := true, laidKinds := [.data, .pinned], laidTests := true, laidLooks := .later }
def FnExactWorldOkCardSaid : Prop := Claim7.holds Tryd.pinned (.plain (OpenSpec.ofChange fnExactWorldOkSpec)) fnExactWorldOkCard

/-- THE TIED CARD OF 'laws.FnOrder'. -/
def fnOrderCard : Claim7 := { stood := { row := fnOrderRow, standIns := [], harness := (true, "2ccd3fc1803cd16ee7c20e55ae7f89b0b88e2cf6bda8ff192394331770ef9475"), looks := false }, kinds := [], alts := [], laidByText := true, laidKinds := [.data, .pinned], laidTests := true, laidLooks := .later }
def FnOrderCardSaid : Prop := Claim7.holds Tryd.pinned (.plain (OpenSpec.ofChange fnOrderSpec)) fnOrderCard

/-- THE TIED CARD OF 'laws.FnExactEdges'. -/
def fnExactEdgesCard : Claim7 := { stood := { row := fnExactEdgesRow, standIns := [], harness := (true, "2ccd3fc1803cd16ee7c20e55ae7f89b0b88e2cf6bda8ff192394331770ef9475"), looks := false }, kinds := [], alts := [], laidByText := true, laidKinds := [.data, .pinned], laidTests := true, laidLooks := .later }
def FnExactEdgesCardSaid : Prop := Claim7.holds Tryd.pinned (.plain (OpenSpec.ofChange fnExactEdgesSpec)) fnExactEdgesCard

/-- THE TIED CARD OF 'laws.FnExactOrder'. -/
def fnExactOrderCard : Claim7 := { stood := { row := fnExactOrderRow, standIns := [], harness := (true, "2ccd3fc1803cd16ee7c20e55ae7f89b0b88e2cf6bda8ff192394331770ef9475"), looks := false }, kinds := [], alts := [], laidByText := true, laidKinds := [.data, .pinned], laidTests := true, laidLooks := .later }
def FnExactOrderCardSaid : Prop := Claim7.holds Tryd.pinned (.plain (OpenSpec.ofChange fnExactOrderSpec)) fnExactOrderCard

/-- THE TIED CARD OF 'laws.FnExactShortestRing'. -/
def fnExactShortestRingCard : Claim7 := { stood := { row := fnExactShortestRingRow, standIns := [], harness := (true, "2ccd3fc1803cd16ee7c20e55ae7f89b0b88e2cf6bda8ff192394331770ef9475"), looks := false }, kinds := [], alts := [], laidByText := true, laidKinds := [.data, .pinned], laidTests := true, laidLooks := .later }
def FnExactShortestRingCardSaid : Prop := Claim7.holds Tryd.pinned (.plain (OpenSpec.ofChange fnExactShortestRingSpec)) fnExactShortestRingCard

/-- THE TIED CARD OF 'laws.FnHidden'. -/
def fnHiddenCard : Claim7 := { stood := { row := fnHiddenRow, standIns := [], harness := (true, "2ccd3fc1803cd16ee7c20e55ae7f89b0b88e2cf6bda8ff192394331770ef9475"), looks := false }, kinds := [], alts := [], laidByText := true, laidKinds := [.data, .pinned], laidTests := true, laidLooks := .later }
def FnHiddenCardSaid : Prop := Claim7.holds Tryd.pinned (.plain (OpenSpec.ofChange fnHiddenSpec)) fnHiddenCard

/-- THE TIED CARD OF 'laws.FnOnce'. -/
def fnOnceCard : Claim7 := { stood := { row := fnOnceRow, standIns := [], harness := (true, "2ccd3fc1803cd16ee7c20e55ae7f89b0b88e2cf6bda8ff192394331770ef9475"), looks := false }, kinds := [], alts := [], laidByText := true, laidKinds := [.data, .pinned], laidTests := true, laidLooks := .later }
def FnOnceCardSaid : Prop := Claim7.holds Tryd.pinned (.plain (OpenSpec.ofChange fnOnceSpec)) fnOnceCard

/-- THE SECOND FORM's CARD OF 'laws.FnExactClean'. -/
def fnExactCleanUptoCard : Claim7 := { stood := { row := fnExactCleanUptoRow, standIns := [], harness := (true, "2ccd3fc1803cd16ee7c20e55ae7f89b0b88e2cf6bda8ff192394331770ef9475"), looks := false }, kinds := [], alts := [], laidByText := true, laidKinds := [.data, .pinned], laidTests := true, laidLooks := .later }
def FnExactCleanUptoCardSaid : Prop := Claim7.holds Tryd.pinned (.plain (OpenSpec.upto fnExactCleanSpec)) fnExactCleanUptoCard

/-- THE SECOND FORM's CARD OF 'laws.FnExactWithin'. -/
def fnExactWithinUptoCard : Claim7 := { stood := { row := fnExactWithinUptoRow, standIns := [], harness := (true, "2ccd3fc1803cd16ee7c20e55ae7f89b0b88e2cf6bda8ff192394331770ef9475"), looks := false }, kinds := [], alts := [], laidByText := true, laidKinds := [.data, .pinned], laidTests := true, laidLooks := .later }
def FnExactWithinUptoCardSaid : Prop := Claim7.holds Tryd.pinned (.plain (OpenSpec.upto fnExactWithinSpec)) fnExactWithinUptoCard

/-- THE SECOND FORM's CARD OF 'laws.FnExactTries'. -/
def fnExactTriesUptoCard : Claim7 := { stood := { row := fnExactTriesUptoRow, standIns := [], harness := (true, "2ccd3fc1803cd16ee7c20e55ae7f89b0b88e2cf6bda8ff192394331770ef9475"), looks := false }, kinds := [], alts := [], laidByText := true, laidKinds := [.data, .pinned], laidTests := true, laidLooks := .later }
def FnExactTriesUptoCardSaid : Prop := Claim7.holds Tryd.pinned (.plain (OpenSpec.upto fnExactTriesSpec)) fnExactTriesUptoCard

/-- THE SECOND FORM's CARD OF 'laws.FnFan'. -/
def fnFanUptoCard : Claim7 := { stood := { row := fnFanUptoRow, standIns := [], harness := (true, "2ccd3fc1803cd16ee7c20e55ae7f89b0b88e2cf6bda8ff192394331770ef9475"), looks := false }, kinds := [], alts := [], laidByText := true, laidKinds := [.data, .pinned], laidTests := true, laidLooks := .later }
def FnFanUptoCardSaid : Prop := Claim7.holds Tryd.pinned (.plain (OpenSpec.upto fnFanSpec)) fnFanUptoCard

/-- THE SECOND FORM's CARD OF 'laws.FnDeep'. -/
def fnDeepUptoCard : Claim7 := { stood := { row := fnDeepUptoRow, standIns := [], harness := (true, "2ccd3fc1803cd16ee7c20e55ae7f89b0b88e2cf6bda8ff192394331770ef9475"), looks := false }, kinds := [], alts := [], laidByText := true, laidKinds := [.data, .pinned], laidTests := true, laidLooks := .later }
def FnDeepUptoCardSaid : Prop := Claim7.holds Tryd.pinned (.plain (OpenSpec.upto fnDeepSpec)) fnDeepUptoCard

/-- THE SECOND FORM's CARD OF 'laws.FnNames'. -/
def fnNamesUptoCard : Claim7 := { stood := { row := fnNamesUptoRow, standIns := [], harness := (true, "2ccd3fc1803cd16ee7c20e55ae7f89b0b88e2cf6bda8ff192394331770ef9475"), looks := false }, kinds := [], alts := [], laidByText := true, laidKinds := [.data, .pinned], laidTests := true, laidLooks := .later }
def FnNamesUptoCardSaid : Prop := Claim7.holds Tryd.pinned (.plain (OpenSpec.upto fnNamesSpec)) fnNamesUptoCard

/-- THE SECOND FORM's CARD OF 'laws.FnChain'. -/
def fnChainUptoCard : Claim7 := { stood := { row := fnChainUptoRow, standIns := [], harness := (true, "2ccd3fc1803cd16ee7c20e55ae7f89b0b88e2cf6bda8ff192394331770ef9475"), looks := false }, kinds := [], alts := [], laidByText := true, laidKinds := [.data, .pinned], laidTests := true, laidLooks := .later }
def FnChainUptoCardSaid : Prop := Claim7.holds Tryd.pinned (.plain (OpenSpec.upto fnChainSpec)) fnChainUptoCard

/-- THE SECOND FORM's CARD OF 'laws.FnExactWorldOk'. -/
def fnExactWorldOkUptoCard : Claim7 := { stood := { row := fnExactWorldOkUptoRow, standIns := [], harness := (true, "2ccd3fc1803cd16ee7c20e55ae7f89b0b88e2cf6bda8ff192394331770ef9475"), looks := false }, kinds := [], alts := [], laidByText := true, laidKinds := [.data, .pinned], laidTests := true, laidLooks := .later }
def FnExactWorldOkUptoCardSaid : Prop := Claim7.holds Tryd.pinned (.plain (OpenSpec.upto fnExactWorldOkSpec)) fnExactWorldOkUptoCard

/-- THE SECOND FORM's CARD OF 'laws.FnOrder'. -/
def fnOrderUptoCard : Claim7 := { stood := { row := fnOrderUptoRow, standIns := [], harness := (true, "2ccd3fc1803cd16ee7c20e55ae7f89b0b88e2cf6bda8ff192394331770ef9475"), looks := false }, kinds := [], alts := [], laidByText := true, laidKinds := [.data, .pinned], laidTests := true, laidLooks := .later }
def FnOrderUptoCardSaid : Prop := Claim7.holds Tryd.pinned (.plain (OpenSpec.upto fnOrderSpec)) fnOrderUptoCard

/-- THE SECOND FORM's CARD OF 'laws.FnExactEdges'. -/
def fnExactEdgesUptoCard : Claim7 := { stood := { row := fnExactEdgesUptoRow, standIns := [], harness := (true, "2ccd3fc1803cd16ee7c20e55ae7f89b0b88e2cf6bda8ff192394331770ef9475"), looks := false }, kinds := [], alts := [], laidByText := true, laidKinds := [.data, .pinned], laidTests := true, laidLooks := .later }
def FnExactEdgesUptoCardSaid : Prop := Claim7.holds Tryd.pinned (.plain (OpenSpec.upto fnExactEdgesSpec)) fnExactEdgesUptoCard

/-- THE SECOND FORM's CARD OF 'laws.FnExactOrder'. -/
def fnExactOrderUptoCard : Claim7 := { stood := { row := fnExactOrderUptoRow, standIns := [], harness := (true, "2ccd3fc1803cd16ee7c20e55ae7f89b0b88e2cf6bda8ff192394331770ef9475"), looks := false }, kinds := [], alts := [], laidByText := true, laidKinds := [.data, .pinned], laidTests := true, laidLooks := .later }
def FnExactOrderUptoCardSaid : Prop := Claim7.holds Tryd.pinned (.plain (OpenSpec.upto fnExactOrderSpec)) fnExactOrderUptoCard

/-- THE SECOND FORM's CARD OF 'laws.FnExactShortestRing'. -/
def fnExactShortestRingUptoCard : Claim7 := { stood := { row := fnExactShortestRingUptoRow, standIns := [], harness := (true, "2ccd3fc1803cd16ee7c20e55ae7f89b0b88e2cf6bda8ff192394331770ef9475"), looks := false }, kinds := [], alts := [], laidByText := true, laidKinds := [.data, .pinned], laidTests := true, laidLooks := .later }
def FnExactShortestRingUptoCardSaid : Prop := Claim7.holds Tryd.pinned (.plain (OpenSpec.upto fnExactShortestRingSpec)) fnExactShortestRingUptoCard

/-- THE SECOND FORM's CARD OF 'laws.FnHidden'. -/
def fnHiddenUptoCard : Claim7 := { stood := { row := fnHiddenUptoRow, standIns := [], harness := (true, "2ccd3fc1803cd16ee7c20e55ae7f89b0b88e2cf6bda8ff192394331770ef9475"), looks := false }, kinds := [], alts := [], laidByText := true, laidKinds := [.data, .pinned], laidTests := true, laidLooks := .later }
def FnHiddenUptoCardSaid : Prop := Claim7.holds Tryd.pinned (.plain (OpenSpec.upto fnHiddenSpec)) fnHiddenUptoCard

/-- THE SECOND FORM's CARD OF 'laws.FnOnce'. -/
def fnOnceUptoCard : Claim7 := { stood := { row := fnOnceUptoRow, standIns := [], harness := (true, "2ccd3fc1803cd16ee7c20e55ae7f89b0b88e2cf6bda8ff192394331770ef9475"), looks := false }, kinds := [], alts := [], laidByText := true, laidKinds := [.data, .pinned], laidTests := true, laidLooks := .later }
def FnOnceUptoCardSaid : Prop := Claim7.holds Tryd.pinned (.plain (OpenSpec.upto fnOnceSpec)) fnOnceUptoCard
end Rows
end Go.Proofs.YtkhlicmlnjccdaaDoor
