/-
  DERIVED. GIVEN WITH THE SEED: THE CARDS: each row of YtccblhpfjlgmbaaGreatDoorRows.lean that lists a variable, with what it lists TIED to the program's text (the seventh form; the later family's looks); each row that meets fmt, with fmt's text TOLD by the authors' own Lean function (tested against real Go, not proved from fmt's source: count such statements apart). THE CARD IS WHAT COUNTS. Prove the row's statement (the work); the ties are given (YtccblhpfjlgmbaaGreatDoorTie.lean); close each card by the builder's one call (the guide's Derived/Test/ToyasCard.lean, 'card_holds'). Laid BY PROGRAM, IN A SANDBOX (cutbox-door.mjs). By AI agents, Wed Nov 11 2026. No macro, syntax, notation, axiom, sorry.
-/
import Derived.Test.YtccblhpfjlgmbaaGreatDoorRows
import GoSem.ClaimSeven
namespace Go.Proofs.YtccblhpfjlgmbaaGreatDoor
namespace Rows

/-- THE TIED CARD OF 'rflaw12.FairTells'. -/
def fairTellsCard : Claim7 := { stood := { row := fairTellsRow, standIns := [], harness := (true, "f58106ee8146cf1bed0308a3d4f7308a90407db05ece7984a20b29e08be9485c"), looks := true }, kinds := [], alts := [], laidByText := true, laidKinds := [.data, .data, .data, .data, .sentinel, .sentinel, .pinned], laidTests := true, laidLooks := .later }
def FairTellsCardSaid : Prop := Claim7.holds Tryz.pinned (.plain (OpenSpec.ofChange fairTellsSpec)) fairTellsCard

/-- THE TIED CARD OF 'rflaw12.FairEnds'. -/
def fairEndsCard : Claim7 := { stood := { row := fairEndsRow, standIns := [], harness := (true, "f58106ee8146cf1bed0308a3d4f7308a90407db05ece7984a20b29e08be9485c"), looks := true }, kinds := [], alts := [], laidByText := true, laidKinds := [.data, .data, .data, .data, .sentinel, .sentinel, .pinned], laidTests := true, laidLooks := .later }
def FairEndsCardSaid : Prop := Claim7.holds Tryz.pinned (.plain (OpenSpec.ofChange fairEndsSpec)) fairEndsCard

/-- THE TIED CARD OF 'rflaw12.FairDone'. -/
def fairDoneCard : Claim7 := { stood := { row := fairDoneRow, standIns := [], harness := (true, "f58106ee8146cf1bed0308a3d4f7308a90407db05ece7984a20b29e08be9485c"), looks := true }, kinds := [], alts := [], laidByText := true, laidKinds := [.data, .data, .data, .data, .sentinel, .sentinel, .pinned], laidTests := true, laidLooks := .later }
def FairDoneCardSaid : Prop := Claim7.holds Tryz.pinned (.plain (OpenSpec.ofChange fairDoneSpec)) fairDoneCard

/-- THE TIED CARD OF 'rflaw12.FairSame'. -/
def fairSameCard : Claim7 := { stood := { row := fairSameRow, standIns := [], harness := (true, "f58106ee8146cf1bed0308a3d4f7308a90407db05ece7984a20b29e08be9485c"), looks := true }, kinds := [], alts := [], laidByText := true, laidKinds := [.data, .data, .data, .data, .sentinel, .sentinel, .pinned], laidTests := true, laidLooks := .later }
def FairSameCardSaid : Prop := Claim7.holds Tryz.pinned (.plain (OpenSpec.ofChange fairSameSpec)) fairSameCard

/-- THE SECOND FORM's CARD OF 'rflaw12.FairTells'. -/
def fairTellsUptoCard : Claim7 := { stood := { row := fairTellsUptoRow, standIns := [], harness := (true, "f58106ee8146cf1bed0308a3d4f7308a90407db05ece7984a20b29e08be9485c"), looks := true }, kinds := [], alts := [], laidByText := true, laidKinds := [.data, .data, .data, .data, .sentinel, .sentinel, .pinned], laidTests := true, laidLooks := .later }
def FairTellsUptoCardSaid : Prop := Claim7.holds Tryz.pinned (.plain (OpenSpec.upto fairTellsSpec)) fairTellsUptoCard

/-- THE SECOND FORM's CARD OF 'rflaw12.FairEnds'. -/
def fairEndsUptoCard : Claim7 := { stood := { row := fairEndsUptoRow, standIns := [], harness := (true, "f58106ee8146cf1bed0308a3d4f7308a90407db05ece7984a20b29e08be9485c"), looks := true }, kinds := [], alts := [], laidByText := true, laidKinds := [.data, .data, .data, .data, .sentinel, .sentinel, .pinned], laidTests := true, laidLooks := .later }
def FairEndsUptoCardSaid : Prop := Claim7.holds Tryz.pinned (.plain (OpenSpec.upto fairEndsSpec)) fairEndsUptoCard

/-- THE SECOND FORM's CARD OF 'rflaw12.FairDone'. -/
def fairDoneUptoCard : Claim7 := { stood := { row := fairDoneUptoRow, standIns := [], harness := (true, "f58106ee8146cf1bed0308a3d4f7308a90407db05ece7984a20b29e08be9485c"), looks := true }, kinds := [], alts := [], laidByText := true, laidKinds := [.data, .data, .data, .data, .sentinel, .sentinel, .pinned], laidTests := true, laidLooks := .later }
def FairDoneUptoCardSaid : Prop := Claim7.holds Tryz.pinned (.plain (OpenSpec.upto fairDoneSpec)) fairDoneUptoCard

/-- THE SECOND FORM's CARD OF 'rflaw12.FairSame'. -/
def fairSameUptoCard : Claim7 := { stood := { row := fairSameUptoRow, standIns := [], harness := (true, "f58106ee8146cf1bed0308a3d4f7308a90407db05ece7984a20b29e08be9485c"), looks := true }, kinds := [], alts := [], laidByText := true, laidKinds := [.data, .data, .data, .data, .sentinel, .sentinel, .pinned], laidTests := true, laidLooks := .later }
def FairSameUptoCardSaid : Prop := Claim7.holds Tryz.pinned (.plain (OpenSpec.upto fairSameSpec)) fairSameUptoCard
end Rows
end Go.Proofs.YtccblhpfjlgmbaaGreatDoor
