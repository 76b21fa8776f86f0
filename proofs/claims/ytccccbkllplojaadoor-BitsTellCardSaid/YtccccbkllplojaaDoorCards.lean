/-
  DERIVED. GIVEN WITH THE SEED: THE CARDS: each row of YtccccbkllplojaaDoorRows.lean that lists a variable, with what it lists TIED to the program's text (the seventh form; the later family's looks); each row that meets fmt, with fmt's text TOLD by the authors' own Lean function (tested against real Go, not proved from fmt's source: count such statements apart). THE CARD IS WHAT COUNTS. Prove the row's statement (the work); the ties are given (YtccccbkllplojaaDoorTie.lean); close each card by the builder's one call (the guide's Derived/Test/ToyasCard.lean, 'card_holds'). Laid BY PROGRAM, IN A SANDBOX (cutbox-door.mjs). By AI agents, Wed Nov 11 2026. No macro, syntax, notation, axiom, sorry.
-/
import Derived.Test.YtccccbkllplojaaDoorRows
import GoSem.ClaimSeven
namespace Go.Proofs.YtccccbkllplojaaDoor
namespace Rows

/-- THE TIED CARD OF 'souffleurlaw09.BitsWalk'. -/
def bitsWalkCard : Claim7 := { stood := { row := bitsWalkRow, standIns := [], harness := (true, "728f4733a1dd992fe650fed2f24b7f5c7e161f9fc50123cb5f265cac9722bd94"), looks := false }, kinds := [], alts := [], laidByText := true, laidKinds := [.data], laidTests := true, laidLooks := .later }
def BitsWalkCardSaid : Prop := Claim7.holds Tryd.pinned (.plain (OpenSpec.ofChange bitsWalkSpec)) bitsWalkCard

/-- THE TIED CARD OF 'souffleurlaw09.BitsTell'. -/
def bitsTellCard : Claim7 := { stood := { row := bitsTellRow, standIns := [], harness := (true, "728f4733a1dd992fe650fed2f24b7f5c7e161f9fc50123cb5f265cac9722bd94"), looks := false }, kinds := [], alts := [], laidByText := true, laidKinds := [.data], laidTests := true, laidLooks := .later }
def BitsTellCardSaid : Prop := Claim7.holds Tryd.pinned (.plain (OpenSpec.ofChange bitsTellSpec)) bitsTellCard

/-- THE TIED CARD OF 'souffleurlaw09.BitsMake'. -/
def bitsMakeCard : Claim7 := { stood := { row := bitsMakeRow, standIns := [], harness := (true, "728f4733a1dd992fe650fed2f24b7f5c7e161f9fc50123cb5f265cac9722bd94"), looks := false }, kinds := [], alts := [], laidByText := true, laidKinds := [.data], laidTests := true, laidLooks := .later }
def BitsMakeCardSaid : Prop := Claim7.holds Tryd.pinned (.plain (OpenSpec.ofChange bitsMakeSpec)) bitsMakeCard

/-- THE TIED CARD OF 'souffleurlaw09.BitsLaws'. -/
def bitsLawsCard : Claim7 := { stood := { row := bitsLawsRow, standIns := [], harness := (true, "728f4733a1dd992fe650fed2f24b7f5c7e161f9fc50123cb5f265cac9722bd94"), looks := false }, kinds := [], alts := [], laidByText := true, laidKinds := [.data], laidTests := true, laidLooks := .later }
def BitsLawsCardSaid : Prop := Claim7.holds Tryd.pinned (.plain (OpenSpec.ofChange bitsLawsSpec)) bitsLawsCard

/-- THE SECOND FORM's CARD OF 'souffleurlaw09.BitsWalk'. -/
def bitsWalkUptoCard : Claim7 := { stood := { row := bitsWalkUptoRow, standIns := [], harness := (true, "728f4733a1dd992fe650fed2f24b7f5c7e161f9fc50123cb5f265cac9722bd94"), looks := false }, kinds := [], alts := [], laidByText := true, laidKinds := [.data], laidTests := true, laidLooks := .later }
def BitsWalkUptoCardSaid : Prop := Claim7.holds Tryd.pinned (.plain (OpenSpec.upto bitsWalkSpec)) bitsWalkUptoCard

/-- THE SECOND FORM's CARD OF 'souffleurlaw09.BitsTell'. -/
def bitsTellUptoCard : Claim7 := { stood := { row := bitsTellUptoRow, standIns := [], harness := (true, "728f4733a1dd992fe650fed2f24b7f5c7e161f9fc50123cb5f265cac9722bd94"), looks := false }, kinds := [], alts := [], laidByText := true, laidKinds := [.data], laidTests := true, laidLooks := .later }
def BitsTellUptoCardSaid : Prop := Claim7.holds Tryd.pinned (.plain (OpenSpec.upto bitsTellSpec)) bitsTellUptoCard

/-- THE SECOND FORM's CARD OF 'souffleurlaw09.BitsMake'. -/
def bitsMakeUptoCard : Claim7 := { stood := { row := bitsMakeUptoRow, standIns := [], harness := (true, "728f4733a1dd992fe650fed2f24b7f5c7e161f9fc50123cb5f265cac9722bd94"), looks := false }, kinds := [], alts := [], laidByText := true, laidKinds := [.data], laidTests := true, laidLooks := .later }
def BitsMakeUptoCardSaid : Prop := Claim7.holds Tryd.pinned (.plain (OpenSpec.upto bitsMakeSpec)) bitsMakeUptoCard

/-- THE SECOND FORM's CARD OF 'souffleurlaw09.BitsLaws'. -/
def bitsLawsUptoCard : Claim7 := { stood := { row := bitsLawsUptoRow, standIns := [], harness := (true, "728f4733a1dd992fe650fed2f24b7f5c7e161f9fc50123cb5f265cac9722bd94"), looks := false }, kinds := [], alts := [], laidByText := true, laidKinds := [.data], laidTests := true, laidLooks := .later }
def BitsLawsUptoCardSaid : Prop := Claim7.holds Tryd.pinned (.plain (OpenSpec.upto bitsLawsSpec)) bitsLawsUptoCard
end Rows
end Go.Proofs.YtccccbkllplojaaDoor
