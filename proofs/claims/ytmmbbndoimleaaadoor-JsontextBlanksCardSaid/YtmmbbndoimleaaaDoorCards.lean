/-
  DERIVED. GIVEN WITH THE SEED: THE CARDS: each row of YtmmbbndoimleaaaDoorRows.lean that lists a variable, with what it lists TIED to the program's text (the seventh form; the later family's looks); each row that meets fmt, with fmt's text TOLD by the authors' own Lean function (tested against real Go, not proved from fmt's source: count such statements apart). THE CARD IS WHAT COUNTS. Prove the row's statement (the work); the ties are given (YtmmbbndoimleaaaDoorTie.lean); close each card by the builder's one call (the guide's Derived/Test/ToyasCard.lean, 'card_holds'). Laid BY PROGRAM, IN A SANDBOX (cutbox-door.mjs). By AI agents, Wed Nov 11 2026. No macro, syntax, notation, axiom, sorry.
-/
import Derived.Test.YtmmbbndoimleaaaDoorRows
import GoSem.ClaimSeven
namespace Go.Proofs.YtmmbbndoimleaaaDoor
namespace Rows

/-- THE TIED CARD OF 'configlanglaw37.JsontextDepth'. -/
def jsontextDepthCard : Claim7 := { stood := { row := jsontextDepthRow, standIns := [], harness := (true, "1d2ff2316b09c07f09eeb5e7507ba74ce249da75ad8595eb4efd0b42a3dd8e59"), looks := true }, kinds := [], alts := [], laidByText := true, laidKinds := [.data, .data, .data], laidTests := true, laidLooks := .later }
def JsontextDepthCardSaid : Prop := Claim7.holds Tryd.pinned (.plain (OpenSpec.ofChange jsontextDepthSpec)) jsontextDepthCard

/-- THE TIED CARD OF 'configlanglaw37.JsontextSizes'. -/
def jsontextSizesCard : Claim7 := { stood := { row := jsontextSizesRow, standIns := [], harness := (true, "1d2ff2316b09c07f09eeb5e7507ba74ce249da75ad8595eb4efd0b42a3dd8e59"), looks := true }, kinds := [], alts := [], laidByText := true, laidKinds := [.data, .data, .data], laidTests := true, laidLooks := .later }
def JsontextSizesCardSaid : Prop := Claim7.holds Tryd.pinned (.plain (OpenSpec.ofChange jsontextSizesSpec)) jsontextSizesCard

/-- THE TIED CARD OF 'configlanglaw37.JsontextBlanks'. -/
def jsontextBlanksCard : Claim7 := { stood := { row := jsontextBlanksRow, standIns := [], harness := (true, "1d2ff2316b09c07f09eeb5e7507ba74ce249da75ad8595eb4efd0b42a3dd8e59"), looks := true }, kinds := [], alts := [], laidByText := true, laidKinds := [.data, .data, .data], laidTests := true, laidLooks := .later }
def JsontextBlanksCardSaid : Prop := Claim7.holds Tryd.pinned (.plain (OpenSpec.ofChange jsontextBlanksSpec)) jsontextBlanksCard

/-- THE TIED CARD OF 'configlanglaw37.JsontextStrings'. -/
def jsontextStringsCard : Claim7 := { stood := { row := jsontextStringsRow, standIns := [], harness := (true, "1d2ff2316b09c07f09eeb5e7507ba74ce249da75ad8595eb4efd0b42a3dd8e59"), looks := true }, kinds := [], alts := [], laidByText := true, laidKinds := [.data, .data, .data], laidTests := true, laidLooks := .later }
def JsontextStringsCardSaid : Prop := Claim7.holds Tryd.pinned (.plain (OpenSpec.ofChange jsontextStringsSpec)) jsontextStringsCard

/-- THE SECOND FORM's CARD OF 'configlanglaw37.JsontextDepth'. -/
def jsontextDepthUptoCard : Claim7 := { stood := { row := jsontextDepthUptoRow, standIns := [], harness := (true, "1d2ff2316b09c07f09eeb5e7507ba74ce249da75ad8595eb4efd0b42a3dd8e59"), looks := true }, kinds := [], alts := [], laidByText := true, laidKinds := [.data, .data, .data], laidTests := true, laidLooks := .later }
def JsontextDepthUptoCardSaid : Prop := Claim7.holds Tryd.pinned (.plain (OpenSpec.upto jsontextDepthSpec)) jsontextDepthUptoCard

/-- THE SECOND FORM's CARD OF 'configlanglaw37.JsontextSizes'. -/
def jsontextSizesUptoCard : Claim7 := { stood := { row := jsontextSizesUptoRow, standIns := [], harness := (true, "1d2ff2316b09c07f09eeb5e7507ba74ce249da75ad8595eb4efd0b42a3dd8e59"), looks := true }, kinds := [], alts := [], laidByText := true, laidKinds := [.data, .data, .data], laidTests := true, laidLooks := .later }
def JsontextSizesUptoCardSaid : Prop := Claim7.holds Tryd.pinned (.plain (OpenSpec.upto jsontextSizesSpec)) jsontextSizesUptoCard

/-- THE SECOND FORM's CARD OF 'configlanglaw37.JsontextBlanks'. -/
def jsontextBlanksUptoCard : Claim7 := { stood := { row := jsontextBlanksUptoRow, standIns := [], harness := (true, "1d2ff2316b09c07f09eeb5e7507ba74ce249da75ad8595eb4efd0b42a3dd8e59"), looks := true }, kinds := [], alts := [], laidByText := true, laidKinds := [.data, .data, .data], laidTests := true, laidLooks := .later }
def JsontextBlanksUptoCardSaid : Prop := Claim7.holds Tryd.pinned (.plain (OpenSpec.upto jsontextBlanksSpec)) jsontextBlanksUptoCard

/-- THE SECOND FORM's CARD OF 'configlanglaw37.JsontextStrings'. -/
def jsontextStringsUptoCard : Claim7 := { stood := { row := jsontextStringsUptoRow, standIns := [], harness := (true, "1d2ff2316b09c07f09eeb5e7507ba74ce249da75ad8595eb4efd0b42a3dd8e59"), looks := true }, kinds := [], alts := [], laidByText := true, laidKinds := [.data, .data, .data], laidTests := true, laidLooks := .later }
def JsontextStringsUptoCardSaid : Prop := Claim7.holds Tryd.pinned (.plain (OpenSpec.upto jsontextStringsSpec)) jsontextStringsUptoCard
end Rows
end Go.Proofs.YtmmbbndoimleaaaDoor
