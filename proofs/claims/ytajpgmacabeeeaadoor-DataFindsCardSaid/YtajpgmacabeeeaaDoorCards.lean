/-
  DERIVED. GIVEN WITH THE SEED: THE CARDS: each row of YtajpgmacabeeeaaDoorRows.lean that lists a variable, with what it lists TIED to the program's text (the seventh form; the later family's looks); each row that meets fmt, with fmt's text TOLD by the authors' own Lean function (tested against real Go, not proved from fmt's source: count such statements apart). THE CARD IS WHAT COUNTS. Prove the row's statement (the work); the ties are given (YtajpgmacabeeeaaDoorTie.lean); close each card by the builder's one call (the guide's Derived/Test/ToyasCard.lean, 'card_holds'). Laid BY PROGRAM, IN A SANDBOX (cutbox-door.mjs). By AI agents, Wed Nov 11 2026. No macro, syntax, notation, axiom, sorry.
-/
import Derived.Test.YtajpgmacabeeeaaDoorRows
import GoSem.ClaimSeven
namespace Go.Proofs.YtajpgmacabeeeaaDoor
namespace Rows

/-- THE TIED CARD OF 'configlanglaw09.DataChecks'. -/
def dataChecksCard : Claim7 := { stood := { row := dataChecksRow, standIns := [], harness := (true, "37964b30e5e0500affd543214bfad4b0a7c3665bfae02e917c7f2f53268876cc"), looks := false }, kinds := [], alts := [], laidByText := true, laidKinds := [.data, .data, .data], laidTests := true, laidLooks := .later }
def DataChecksCardSaid : Prop := Claim7.holds Tryd.pinned (.plain (OpenSpec.ofChange dataChecksSpec)) dataChecksCard

/-- THE TIED CARD OF 'configlanglaw09.DataMakes'. -/
def dataMakesCard : Claim7 := { stood := { row := dataMakesRow, standIns := [], harness := (true, "37964b30e5e0500affd543214bfad4b0a7c3665bfae02e917c7f2f53268876cc"), looks := false }, kinds := [], alts := [], laidByText := true, laidKinds := [.data, .data, .data], laidTests := true, laidLooks := .later }
def DataMakesCardSaid : Prop := Claim7.holds Tryd.pinned (.plain (OpenSpec.ofChange dataMakesSpec)) dataMakesCard

/-- THE TIED CARD OF 'configlanglaw09.DataCounts'. -/
def dataCountsCard : Claim7 := { stood := { row := dataCountsRow, standIns := [], harness := (true, "37964b30e5e0500affd543214bfad4b0a7c3665bfae02e917c7f2f53268876cc"), looks := false }, kinds := [], alts := [], laidByText := true, laidKinds := [.data, .data, .data], laidTests := true, laidLooks := .later }
def DataCountsCardSaid : Prop := Claim7.holds Tryd.pinned (.plain (OpenSpec.ofChange dataCountsSpec)) dataCountsCard

/-- THE TIED CARD OF 'configlanglaw09.DataCompares'. -/
def dataComparesCard : Claim7 := { stood := { row := dataComparesRow, standIns := [], harness := (true, "37964b30e5e0500affd543214bfad4b0a7c3665bfae02e917c7f2f53268876cc"), looks := false }, kinds := [], alts := [], laidByText := true, laidKinds := [.data, .data, .data], laidTests := true, laidLooks := .later }
def DataComparesCardSaid : Prop := Claim7.holds Tryd.pinned (.plain (OpenSpec.ofChange dataComparesSpec)) dataComparesCard

/-- THE TIED CARD OF 'configlanglaw09.DataGets'. -/
def dataGetsCard : Claim7 := { stood := { row := dataGetsRow, standIns := [], harness := (true, "37964b30e5e0500affd543214bfad4b0a7c3665bfae02e917c7f2f53268876cc"), looks := false }, kinds := [], alts := [], laidByText := true, laidKinds := [.data, .data, .data], laidTests := true, laidLooks := .later }
def DataGetsCardSaid : Prop := Claim7.holds Tryd.pinned (.plain (OpenSpec.ofChange dataGetsSpec)) dataGetsCard

/-- THE TIED CARD OF 'configlanglaw09.DataLeaves'. -/
def dataLeavesCard : Claim7 := { stood := { row := dataLeavesRow, standIns := [], harness := (true, "37964b30e5e0500affd543214bfad4b0a7c3665bfae02e917c7f2f53268876cc"), looks := false }, kinds := [], alts := [], laidByText := true, laidKinds := [.data, .data, .data], laidTests := true, laidLooks := .later }
def DataLeavesCardSaid : Prop := Claim7.holds Tryd.pinned (.plain (OpenSpec.ofChange dataLeavesSpec)) dataLeavesCard

/-- THE TIED CARD OF 'configlanglaw09.DataTexts'. -/
def dataTextsCard : Claim7 := { stood := { row := dataTextsRow, standIns := [], harness := (true, "37964b30e5e0500affd543214bfad4b0a7c3665bfae02e917c7f2f53268876cc"), looks := false }, kinds := [], alts := [], laidByText := true, laidKinds := [.data, .data, .data], laidTests := true, laidLooks := .later }
def DataTextsCardSaid : Prop := Claim7.holds Tryd.pinned (.plain (OpenSpec.ofChange dataTextsSpec)) dataTextsCard

/-- THE TIED CARD OF 'configlanglaw09.DataOrders'. -/
def dataOrdersCard : Claim7 := { stood := { row := dataOrdersRow, standIns := [], harness := (true, "37964b30e5e0500affd543214bfad4b0a7c3665bfae02e917c7f2f53268876cc"), looks := false }, kinds := [], alts := [], laidByText := true, laidKinds := [.data, .data, .data], laidTests := true, laidLooks := .later }
def DataOrdersCardSaid : Prop := Claim7.holds Tryd.pinned (.plain (OpenSpec.ofChange dataOrdersSpec)) dataOrdersCard

/-- THE TIED CARD OF 'configlanglaw09.DataDistinct'. -/
def dataDistinctCard : Claim7 := { stood := { row := dataDistinctRow, standIns := [], harness := (true, "37964b30e5e0500affd543214bfad4b0a7c3665bfae02e917c7f2f53268876cc"), looks := false }, kinds := [], alts := [], laidByText := true, laidKinds := [.data, .data, .data], laidTests := true, laidLooks := .later }
def DataDistinctCardSaid : Prop := Claim7.holds Tryd.pinned (.plain (OpenSpec.ofChange dataDistinctSpec)) dataDistinctCard

/-- THE TIED CARD OF 'configlanglaw09.DataFinds'. -/
def dataFindsCard : Claim7 := { stood := { row := dataFindsRow, standIns := [], harness := (true, "37964b30e5e0500affd543214bfad4b0a7c3665bfae02e917c7f2f53268876cc"), looks := false }, kinds := [], alts := [], laidByText := true, laidKinds := [.data, .data, .data], laidTests := true, laidLooks := .later }
def DataFindsCardSaid : Prop := Claim7.holds Tryd.pinned (.plain (OpenSpec.ofChange dataFindsSpec)) dataFindsCard

/-- THE SECOND FORM's CARD OF 'configlanglaw09.DataChecks'. -/
def dataChecksUptoCard : Claim7 := { stood := { row := dataChecksUptoRow, standIns := [], harness := (true, "37964b30e5e0500affd543214bfad4b0a7c3665bfae02e917c7f2f53268876cc"), looks := false }, kinds := [], alts := [], laidByText := true, laidKinds := [.data, .data, .data], laidTests := true, laidLooks := .later }
def DataChecksUptoCardSaid : Prop := Claim7.holds Tryd.pinned (.plain (OpenSpec.upto dataChecksSpec)) dataChecksUptoCard

/-- THE SECOND FORM's CARD OF 'configlanglaw09.DataMakes'. -/
def dataMakesUptoCard : Claim7 := { stood := { row := dataMakesUptoRow, standIns := [], harness := (true, "37964b30e5e0500affd543214bfad4b0a7c3665bfae02e917c7f2f53268876cc"), looks := false }, kinds := [], alts := [], laidByText := true, laidKinds := [.data, .data, .data], laidTests := true, laidLooks := .later }
def DataMakesUptoCardSaid : Prop := Claim7.holds Tryd.pinned (.plain (OpenSpec.upto dataMakesSpec)) dataMakesUptoCard

/-- THE SECOND FORM's CARD OF 'configlanglaw09.DataCounts'. -/
def dataCountsUptoCard : Claim7 := { stood := { row := dataCountsUptoRow, standIns := [], harness := (true, "37964b30e5e0500affd543214bfad4b0a7c3665bfae02e917c7f2f53268876cc"), looks := false }, kinds := [], alts := [], laidByText := true, laidKinds := [.data, .data, .data], laidTests := true, laidLooks := .later }
def DataCountsUptoCardSaid : Prop := Claim7.holds Tryd.pinned (.plain (OpenSpec.upto dataCountsSpec)) dataCountsUptoCard

/-- THE SECOND FORM's CARD OF 'configlanglaw09.DataCompares'. -/
def dataComparesUptoCard : Claim7 := { stood := { row := dataComparesUptoRow, standIns := [], harness := (true, "37964b30e5e0500affd543214bfad4b0a7c3665bfae02e917c7f2f53268876cc"), looks := false }, kinds := [], alts := [], laidByText := true, laidKinds := [.data, .data, .data], laidTests := true, laidLooks := .later }
def DataComparesUptoCardSaid : Prop := Claim7.holds Tryd.pinned (.plain (OpenSpec.upto dataComparesSpec)) dataComparesUptoCard

/-- THE SECOND FORM's CARD OF 'configlanglaw09.DataGets'. -/
def dataGetsUptoCard : Claim7 := { stood := { row := dataGetsUptoRow, standIns := [], harness := (true, "37964b30e5e0500affd543214bfad4b0a7c3665bfae02e917c7f2f53268876cc"), looks := false }, kinds := [], alts := [], laidByText := true, laidKinds := [.data, .data, .data], laidTests := true, laidLooks := .later }
def DataGetsUptoCardSaid : Prop := Claim7.holds Tryd.pinned (.plain (OpenSpec.upto dataGetsSpec)) dataGetsUptoCard

/-- THE SECOND FORM's CARD OF 'configlanglaw09.DataLeaves'. -/
def dataLeavesUptoCard : Claim7 := { stood := { row := dataLeavesUptoRow, standIns := [], harness := (true, "37964b30e5e0500affd543214bfad4b0a7c3665bfae02e917c7f2f53268876cc"), looks := false }, kinds := [], alts := [], laidByText := true, laidKinds := [.data, .data, .data], laidTests := true, laidLooks := .later }
def DataLeavesUptoCardSaid : Prop := Claim7.holds Tryd.pinned (.plain (OpenSpec.upto dataLeavesSpec)) dataLeavesUptoCard

/-- THE SECOND FORM's CARD OF 'configlanglaw09.DataTexts'. -/
def dataTextsUptoCard : Claim7 := { stood := { row := dataTextsUptoRow, standIns := [], harness := (true, "37964b30e5e0500affd543214bfad4b0a7c3665bfae02e917c7f2f53268876cc"), looks := false }, kinds := [], alts := [], laidByText := true, laidKinds := [.data, .data, .data], laidTests := true, laidLooks := .later }
def DataTextsUptoCardSaid : Prop := Claim7.holds Tryd.pinned (.plain (OpenSpec.upto dataTextsSpec)) dataTextsUptoCard

/-- THE SECOND FORM's CARD OF 'configlanglaw09.DataOrders'. -/
def dataOrdersUptoCard : Claim7 := { stood := { row := dataOrdersUptoRow, standIns := [], harness := (true, "37964b30e5e0500affd543214bfad4b0a7c3665bfae02e917c7f2f53268876cc"), looks := false }, kinds := [], alts := [], laidByText := true, laidKinds := [.data, .data, .data], laidTests := true, laidLooks := .later }
def DataOrdersUptoCardSaid : Prop := Claim7.holds Tryd.pinned (.plain (OpenSpec.upto dataOrdersSpec)) dataOrdersUptoCard

/-- THE SECOND FORM's CARD OF 'configlanglaw09.DataDistinct'. -/
def dataDistinctUptoCard : Claim7 := { stood := { row := dataDistinctUptoRow, standIns := [], harness := (true, "37964b30e5e0500affd543214bfad4b0a7c3665bfae02e917c7f2f53268876cc"), looks := false }, kinds := [], alts := [], laidByText := true, laidKinds := [.data, .data, .data], laidTests := true, laidLooks := .later }
def DataDistinctUptoCardSaid : Prop := Claim7.holds Tryd.pinned (.plain (OpenSpec.upto dataDistinctSpec)) dataDistinctUptoCard

/-- THE SECOND FORM's CARD OF 'configlanglaw09.DataFinds'. -/
def dataFindsUptoCard : Claim7 := { stood := { row := dataFindsUptoRow, standIns := [], harness := (true, "37964b30e5e0500affd543214bfad4b0a7c3665bfae02e917c7f2f53268876cc"), looks := false }, kinds := [], alts := [], laidByText := true, laidKinds := [.data, .data, .data], laidTests := true, laidLooks := .later }
def DataFindsUptoCardSaid : Prop := Claim7.holds Tryd.pinned (.plain (OpenSpec.upto dataFindsSpec)) dataFindsUptoCard
end Rows
end Go.Proofs.YtajpgmacabeeeaaDoor
