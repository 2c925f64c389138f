/-
  DERIVED. GIVEN WITH THE SEED: THE CARDS: each row of YtmmbbndoimleaaaGreatDoorRows.lean that lists a variable, with what it lists TIED to the program's text (the seventh form; the later family's looks); each row that meets fmt, with fmt's text TOLD by the authors' own Lean function (tested against real Go, not proved from fmt's source: count such statements apart). THE CARD IS WHAT COUNTS. Prove the row's statement (the work); the ties are given (YtmmbbndoimleaaaGreatDoorTie.lean); close each card by the builder's one call (the guide's Derived/Test/ToyasCard.lean, 'card_holds'). Laid BY PROGRAM, IN A SANDBOX (cutbox-door.mjs). By AI agents, Wed Nov 11 2026. No macro, syntax, notation, axiom, sorry.
-/
import Derived.Test.YtmmbbndoimleaaaGreatDoorRows
import GoSem.ClaimSeven
namespace Go.Proofs.YtmmbbndoimleaaaGreatDoor
namespace Rows

/-- THE TIED CARD OF 'configlanglaw37.JsontextTexts'. -/
def jsontextTextsCard : Claim7 := { stood := { row := jsontextTextsRow, standIns := [], harness := (true, "0606dae7a117319200715a8e6c18bd9e46a5ef48bc1a1e96ccd4128d1b8a5a95"), looks := true }, kinds := [], alts := [], laidByText := true, laidKinds := [.data, .data, .data], laidTests := true, laidLooks := .later }
def JsontextTextsCardSaid : Prop := Claim7.holds Tryz.pinned (.plain (OpenSpec.ofChange jsontextTextsSpec)) jsontextTextsCard

/-- THE TIED CARD OF 'configlanglaw37.JsontextParses'. -/
def jsontextParsesCard : Claim7 := { stood := { row := jsontextParsesRow, standIns := [], harness := (true, "0606dae7a117319200715a8e6c18bd9e46a5ef48bc1a1e96ccd4128d1b8a5a95"), looks := true }, kinds := [], alts := [], laidByText := true, laidKinds := [.data, .data, .data], laidTests := true, laidLooks := .later }
def JsontextParsesCardSaid : Prop := Claim7.holds Tryz.pinned (.plain (OpenSpec.ofChange jsontextParsesSpec)) jsontextParsesCard

/-- THE TIED CARD OF 'configlanglaw37.JsontextRoundTrip'. -/
def jsontextRoundTripCard : Claim7 := { stood := { row := jsontextRoundTripRow, standIns := [], harness := (true, "0606dae7a117319200715a8e6c18bd9e46a5ef48bc1a1e96ccd4128d1b8a5a95"), looks := true }, kinds := [], alts := [], laidByText := true, laidKinds := [.data, .data, .data], laidTests := true, laidLooks := .later }
def JsontextRoundTripCardSaid : Prop := Claim7.holds Tryz.pinned (.plain (OpenSpec.ofChange jsontextRoundTripSpec)) jsontextRoundTripCard

/-- THE TIED CARD OF 'configlanglaw37.JsontextDiffers'. -/
def jsontextDiffersCard : Claim7 := { stood := { row := jsontextDiffersRow, standIns := [], harness := (true, "0606dae7a117319200715a8e6c18bd9e46a5ef48bc1a1e96ccd4128d1b8a5a95"), looks := true }, kinds := [], alts := [], laidByText := true, laidKinds := [.data, .data, .data], laidTests := true, laidLooks := .later }
def JsontextDiffersCardSaid : Prop := Claim7.holds Tryz.pinned (.plain (OpenSpec.ofChange jsontextDiffersSpec)) jsontextDiffersCard

/-- THE SECOND FORM's CARD OF 'configlanglaw37.JsontextTexts'. -/
def jsontextTextsUptoCard : Claim7 := { stood := { row := jsontextTextsUptoRow, standIns := [], harness := (true, "0606dae7a117319200715a8e6c18bd9e46a5ef48bc1a1e96ccd4128d1b8a5a95"), looks := true }, kinds := [], alts := [], laidByText := true, laidKinds := [.data, .data, .data], laidTests := true, laidLooks := .later }
def JsontextTextsUptoCardSaid : Prop := Claim7.holds Tryz.pinned (.plain (OpenSpec.upto jsontextTextsSpec)) jsontextTextsUptoCard

/-- THE SECOND FORM's CARD OF 'configlanglaw37.JsontextParses'. -/
def jsontextParsesUptoCard : Claim7 := { stood := { row := jsontextParsesUptoRow, standIns := [], harness := (true, "0606dae7a117319200715a8e6c18bd9e46a5ef48bc1a1e96ccd4128d1b8a5a95"), looks := true }, kinds := [], alts := [], laidByText := true, laidKinds := [.data, .data, .data], laidTests := true, laidLooks := .later }
def JsontextParsesUptoCardSaid : Prop := Claim7.holds Tryz.pinned (.plain (OpenSpec.upto jsontextParsesSpec)) jsontextParsesUptoCard

/-- THE SECOND FORM's CARD OF 'configlanglaw37.JsontextRoundTrip'. -/
def jsontextRoundTripUptoCard : Claim7 := { stood := { row := jsontextRoundTripUptoRow, standIns := [], harness := (true, "0606dae7a117319200715a8e6c18bd9e46a5ef48bc1a1e96ccd4128d1b8a5a95"), looks := true }, kinds := [], alts := [], laidByText := true, laidKinds := [.data, .data, .data], laidTests := true, laidLooks := .later }
def JsontextRoundTripUptoCardSaid : Prop := Claim7.holds Tryz.pinned (.plain (OpenSpec.upto jsontextRoundTripSpec)) jsontextRoundTripUptoCard

/-- THE SECOND FORM's CARD OF 'configlanglaw37.JsontextDiffers'. -/
def jsontextDiffersUptoCard : Claim7 := { stood := { row := jsontextDiffersUptoRow, standIns := [], harness := (true, "0606dae7a117319200715a8e6c18bd9e46a5ef48bc1a1e96ccd4128d1b8a5a95"), looks := true }, kinds := [], alts := [], laidByText := true, laidKinds := [.data, .data, .data], laidTests := true, laidLooks := .later }
def JsontextDiffersUptoCardSaid : Prop := Claim7.holds Tryz.pinned (.plain (OpenSpec.upto jsontextDiffersSpec)) jsontextDiffersUptoCard
end Rows
end Go.Proofs.YtmmbbndoimleaaaGreatDoor
