/-
  DERIVED. GIVEN WITH THE SEED: THE CARDS: each row of YtpmgccjhflcoiaaDoorRows.lean that lists a variable, with what it lists TIED to the program's text (the seventh form; the later family's looks); each row that meets fmt, with fmt's text TOLD by the authors' own Lean function (tested against real Go, not proved from fmt's source: count such statements apart). THE CARD IS WHAT COUNTS. Prove the row's statement (the work); the ties are given (YtpmgccjhflcoiaaDoorTie.lean); close each card by the builder's one call (the guide's Derived/Test/ToyasCard.lean, 'card_holds'). Laid BY PROGRAM, IN A SANDBOX (cutbox-door.mjs). By AI agents, Wed Nov 11 2026. No macro, syntax, notation, axiom, sorry.
-/
import Derived.Test.YtpmgccjhflcoiaaDoorRows
import GoSem.ClaimSeven
namespace Go.Proofs.YtpmgccjhflcoiaaDoor
namespace Rows

/-- THE TIED CARD OF 'souffleurlaw02.EditApplies'. -/
def editAppliesCard : Claim7 := { stood := { row := editAppliesRow, standIns := [], harness := (true, "c00d0c0d685e83880440061070ba27ec12ab9668d54e6d6d3aa46a04a6933929"), looks := false }, kinds := [], alts := [], laidByText := true, laidKinds := [.data, .pinned], laidTests := true, laidLooks := .later }
def EditAppliesCardSaid : Prop := Claim7.holds Tryd.pinned (.plain (OpenSpec.ofChange editAppliesSpec)) editAppliesCard

/-- THE TIED CARD OF 'souffleurlaw01.UtfSigns'. -/
def utfSignsCard : Claim7 := { stood := { row := utfSignsRow, standIns := [], harness := (true, "c00d0c0d685e83880440061070ba27ec12ab9668d54e6d6d3aa46a04a6933929"), looks := false }, kinds := [], alts := [], laidByText := true, laidKinds := [.data, .data, .data, .data, .pinned], laidTests := true, laidLooks := .later }
def UtfSignsCardSaid : Prop := Claim7.holds Tryd.pinned (.plain (OpenSpec.ofChange utfSignsSpec)) utfSignsCard

/-- THE TIED CARD OF 'souffleurlaw02.EditLines'. -/
def editLinesCard : Claim7 := { stood := { row := editLinesRow, standIns := [], harness := (true, "c00d0c0d685e83880440061070ba27ec12ab9668d54e6d6d3aa46a04a6933929"), looks := false }, kinds := [], alts := [], laidByText := true, laidKinds := [.data, .pinned], laidTests := true, laidLooks := .later }
def EditLinesCardSaid : Prop := Claim7.holds Tryd.pinned (.plain (OpenSpec.ofChange editLinesSpec)) editLinesCard

/-- THE TIED CARD OF 'souffleurlaw02.EditPlaces'. -/
def editPlacesCard : Claim7 := { stood := { row := editPlacesRow, standIns := [], harness := (true, "c00d0c0d685e83880440061070ba27ec12ab9668d54e6d6d3aa46a04a6933929"), looks := false }, kinds := [], alts := [], laidByText := true, laidKinds := [.data, .pinned], laidTests := true, laidLooks := .later }
def EditPlacesCardSaid : Prop := Claim7.holds Tryd.pinned (.plain (OpenSpec.ofChange editPlacesSpec)) editPlacesCard

/-- THE TIED CARD OF 'souffleurlaw02.EditDiffs'. -/
def editDiffsCard : Claim7 := { stood := { row := editDiffsRow, standIns := [], harness := (true, "c00d0c0d685e83880440061070ba27ec12ab9668d54e6d6d3aa46a04a6933929"), looks := false }, kinds := [], alts := [], laidByText := true, laidKinds := [.data, .pinned], laidTests := true, laidLooks := .later }
def EditDiffsCardSaid : Prop := Claim7.holds Tryd.pinned (.plain (OpenSpec.ofChange editDiffsSpec)) editDiffsCard

/-- THE TIED CARD OF 'souffleurlaw01.UtfJoins'. -/
def utfJoinsCard : Claim7 := { stood := { row := utfJoinsRow, standIns := [], harness := (true, "c00d0c0d685e83880440061070ba27ec12ab9668d54e6d6d3aa46a04a6933929"), looks := false }, kinds := [], alts := [], laidByText := true, laidKinds := [.data, .data, .data, .data, .pinned], laidTests := true, laidLooks := .later }
def UtfJoinsCardSaid : Prop := Claim7.holds Tryd.pinned (.plain (OpenSpec.ofChange utfJoinsSpec)) utfJoinsCard

/-- THE TIED CARD OF 'souffleurlaw02.EditBack'. -/
def editBackCard : Claim7 := { stood := { row := editBackRow, standIns := [], harness := (true, "c00d0c0d685e83880440061070ba27ec12ab9668d54e6d6d3aa46a04a6933929"), looks := false }, kinds := [], alts := [], laidByText := true, laidKinds := [.data, .pinned], laidTests := true, laidLooks := .later }
def EditBackCardSaid : Prop := Claim7.holds Tryd.pinned (.plain (OpenSpec.ofChange editBackSpec)) editBackCard

/-- THE TIED CARD OF 'souffleurlaw02.EditCommutes'. -/
def editCommutesCard : Claim7 := { stood := { row := editCommutesRow, standIns := [], harness := (true, "c00d0c0d685e83880440061070ba27ec12ab9668d54e6d6d3aa46a04a6933929"), looks := false }, kinds := [], alts := [], laidByText := true, laidKinds := [.data, .pinned], laidTests := true, laidLooks := .later }
def EditCommutesCardSaid : Prop := Claim7.holds Tryd.pinned (.plain (OpenSpec.ofChange editCommutesSpec)) editCommutesCard

/-- THE TIED CARD OF 'souffleurlaw01.UtfShown'. -/
def utfShownCard : Claim7 := { stood := { row := utfShownRow, standIns := [], harness := (true, "c00d0c0d685e83880440061070ba27ec12ab9668d54e6d6d3aa46a04a6933929"), looks := false }, kinds := [], alts := [], laidByText := true, laidKinds := [.data, .data, .data, .data, .pinned], laidTests := true, laidLooks := .later }
def UtfShownCardSaid : Prop := Claim7.holds Tryd.pinned (.plain (OpenSpec.ofChange utfShownSpec)) utfShownCard

/-- THE TIED CARD OF 'souffleurlaw01.UtfItems'. -/
def utfItemsCard : Claim7 := { stood := { row := utfItemsRow, standIns := [], harness := (true, "c00d0c0d685e83880440061070ba27ec12ab9668d54e6d6d3aa46a04a6933929"), looks := false }, kinds := [], alts := [], laidByText := true, laidKinds := [.data, .data, .data, .data, .pinned], laidTests := true, laidLooks := .later }
def UtfItemsCardSaid : Prop := Claim7.holds Tryd.pinned (.plain (OpenSpec.ofChange utfItemsSpec)) utfItemsCard

/-- THE TIED CARD OF 'souffleurlaw01.UtfBack'. -/
def utfBackCard : Claim7 := { stood := { row := utfBackRow, standIns := [], harness := (true, "c00d0c0d685e83880440061070ba27ec12ab9668d54e6d6d3aa46a04a6933929"), looks := false }, kinds := [], alts := [], laidByText := true, laidKinds := [.data, .data, .data, .data, .pinned], laidTests := true, laidLooks := .later }
def UtfBackCardSaid : Prop := Claim7.holds Tryd.pinned (.plain (OpenSpec.ofChange utfBackSpec)) utfBackCard

/-- THE SECOND FORM's CARD OF 'souffleurlaw02.EditApplies'. -/
def editAppliesUptoCard : Claim7 := { stood := { row := editAppliesUptoRow, standIns := [], harness := (true, "c00d0c0d685e83880440061070ba27ec12ab9668d54e6d6d3aa46a04a6933929"), looks := false }, kinds := [], alts := [], laidByText := true, laidKinds := [.data, .pinned], laidTests := true, laidLooks := .later }
def EditAppliesUptoCardSaid : Prop := Claim7.holds Tryd.pinned (.plain (OpenSpec.upto editAppliesSpec)) editAppliesUptoCard

/-- THE SECOND FORM's CARD OF 'souffleurlaw01.UtfSigns'. -/
def utfSignsUptoCard : Claim7 := { stood := { row := utfSignsUptoRow, standIns := [], harness := (true, "c00d0c0d685e83880440061070ba27ec12ab9668d54e6d6d3aa46a04a6933929"), looks := false }, kinds := [], alts := [], laidByText := true, laidKinds := [.data, .data, .data, .data, .pinned], laidTests := true, laidLooks := .later }
def UtfSignsUptoCardSaid : Prop := Claim7.holds Tryd.pinned (.plain (OpenSpec.upto utfSignsSpec)) utfSignsUptoCard

/-- THE SECOND FORM's CARD OF 'souffleurlaw02.EditLines'. -/
def editLinesUptoCard : Claim7 := { stood := { row := editLinesUptoRow, standIns := [], harness := (true, "c00d0c0d685e83880440061070ba27ec12ab9668d54e6d6d3aa46a04a6933929"), looks := false }, kinds := [], alts := [], laidByText := true, laidKinds := [.data, .pinned], laidTests := true, laidLooks := .later }
def EditLinesUptoCardSaid : Prop := Claim7.holds Tryd.pinned (.plain (OpenSpec.upto editLinesSpec)) editLinesUptoCard

/-- THE SECOND FORM's CARD OF 'souffleurlaw02.EditPlaces'. -/
def editPlacesUptoCard : Claim7 := { stood := { row := editPlacesUptoRow, standIns := [], harness := (true, "c00d0c0d685e83880440061070ba27ec12ab9668d54e6d6d3aa46a04a6933929"), looks := false }, kinds := [], alts := [], laidByText := true, laidKinds := [.data, .pinned], laidTests := true, laidLooks := .later }
def EditPlacesUptoCardSaid : Prop := Claim7.holds Tryd.pinned (.plain (OpenSpec.upto editPlacesSpec)) editPlacesUptoCard

/-- THE SECOND FORM's CARD OF 'souffleurlaw02.EditDiffs'. -/
def editDiffsUptoCard : Claim7 := { stood := { row := editDiffsUptoRow, standIns := [], harness := (true, "c00d0c0d685e83880440061070ba27ec12ab9668d54e6d6d3aa46a04a6933929"), looks := false }, kinds := [], alts := [], laidByText := true, laidKinds := [.data, .pinned], laidTests := true, laidLooks := .later }
def EditDiffsUptoCardSaid : Prop := Claim7.holds Tryd.pinned (.plain (OpenSpec.upto editDiffsSpec)) editDiffsUptoCard

/-- THE SECOND FORM's CARD OF 'souffleurlaw01.UtfJoins'. -/
def utfJoinsUptoCard : Claim7 := { stood := { row := utfJoinsUptoRow, standIns := [], harness := (true, "c00d0c0d685e83880440061070ba27ec12ab9668d54e6d6d3aa46a04a6933929"), looks := false }, kinds := [], alts := [], laidByText := true, laidKinds := [.data, .data, .data, .data, .pinned], laidTests := true, laidLooks := .later }
def UtfJoinsUptoCardSaid : Prop := Claim7.holds Tryd.pinned (.plain (OpenSpec.upto utfJoinsSpec)) utfJoinsUptoCard

/-- THE SECOND FORM's CARD OF 'souffleurlaw02.EditBack'. -/
def editBackUptoCard : Claim7 := { stood := { row := editBackUptoRow, standIns := [], harness := (true, "c00d0c0d685e83880440061070ba27ec12ab9668d54e6d6d3aa46a04a6933929"), looks := false }, kinds := [], alts := [], laidByText := true, laidKinds := [.data, .pinned], laidTests := true, laidLooks := .later }
def EditBackUptoCardSaid : Prop := Claim7.holds Tryd.pinned (.plain (OpenSpec.upto editBackSpec)) editBackUptoCard

/-- THE SECOND FORM's CARD OF 'souffleurlaw02.EditCommutes'. -/
def editCommutesUptoCard : Claim7 := { stood := { row := editCommutesUptoRow, standIns := [], harness := (true, "c00d0c0d685e83880440061070ba27ec12ab9668d54e6d6d3aa46a04a6933929"), looks := false }, kinds := [], alts := [], laidByText := true, laidKinds := [.data, .pinned], laidTests := true, laidLooks := .later }
def EditCommutesUptoCardSaid : Prop := Claim7.holds Tryd.pinned (.plain (OpenSpec.upto editCommutesSpec)) editCommutesUptoCard

/-- THE SECOND FORM's CARD OF 'souffleurlaw01.UtfShown'. -/
def utfShownUptoCard : Claim7 := { stood := { row := utfShownUptoRow, standIns := [], harness := (true, "c00d0c0d685e83880440061070ba27ec12ab9668d54e6d6d3aa46a04a6933929"), looks := false }, kinds := [], alts := [], laidByText := true, laidKinds := [.data, .data, .data, .data, .pinned], laidTests := true, laidLooks := .later }
def UtfShownUptoCardSaid : Prop := Claim7.holds Tryd.pinned (.plain (OpenSpec.upto utfShownSpec)) utfShownUptoCard

/-- THE SECOND FORM's CARD OF 'souffleurlaw01.UtfItems'. -/
def utfItemsUptoCard : Claim7 := { stood := { row := utfItemsUptoRow, standIns := [], harness := (true, "c00d0c0d685e83880440061070ba27ec12ab9668d54e6d6d3aa46a04a6933929"), looks := false }, kinds := [], alts := [], laidByText := true, laidKinds := [.data, .data, .data, .data, .pinned], laidTests := true, laidLooks := .later }
def UtfItemsUptoCardSaid : Prop := Claim7.holds Tryd.pinned (.plain (OpenSpec.upto utfItemsSpec)) utfItemsUptoCard

/-- THE SECOND FORM's CARD OF 'souffleurlaw01.UtfBack'. -/
def utfBackUptoCard : Claim7 := { stood := { row := utfBackUptoRow, standIns := [], harness := (true, "c00d0c0d685e83880440061070ba27ec12ab9668d54e6d6d3aa46a04a6933929"), looks := false }, kinds := [], alts := [], laidByText := true, laidKinds := [.data, .data, .data, .data, .pinned], laidTests := true, laidLooks := .later }
def UtfBackUptoCardSaid : Prop := Claim7.holds Tryd.pinned (.plain (OpenSpec.upto utfBackSpec)) utfBackUptoCard
end Rows
end Go.Proofs.YtpmgccjhflcoiaaDoor
