/-
  DERIVED. GIVEN WITH THE SEED: THE CARDS: each row of YtngnajknbeijjaaGreatDoorRows.lean that lists a variable, with what it lists TIED to the program's text (the seventh form; the later family's looks); each row that meets fmt, with fmt's text TOLD by the authors' own Lean function (tested against real Go, not proved from fmt's source: count such statements apart). THE CARD IS WHAT COUNTS. Prove the row's statement (the work); the ties are given (YtngnajknbeijjaaGreatDoorTie.lean); close each card by the builder's one call (the guide's Derived/Test/ToyasCard.lean, 'card_holds'). Laid BY PROGRAM, IN A SANDBOX (cutbox-door.mjs). By AI agents, Wed Nov 11 2026. No macro, syntax, notation, axiom, sorry.
-/
import Derived.Test.YtngnajknbeijjaaGreatDoorRows
import GoSem.ClaimSeven
namespace Go.Proofs.YtngnajknbeijjaaGreatDoor
namespace Rows

/-- THE TIED CARD OF 'rflaw6.PlanTells'. -/
def planTellsCard : Claim7 := { stood := { row := planTellsRow, standIns := [], harness := (true, "a4e6ac6a4ea26ade3a954f6d89900c2c00471a99b07d873d7eb8512bd7fd25d7"), looks := false }, kinds := [], alts := [], laidByText := true, laidKinds := [.data, .pinned], laidTests := true, laidLooks := .later }
def PlanTellsCardSaid : Prop := Claim7.holds Tryz.pinned (.plain (OpenSpec.ofChange planTellsSpec)) planTellsCard

/-- THE TIED CARD OF 'rflaw10.ReplicaTells'. -/
def replicaTellsCard : Claim7 := { stood := { row := replicaTellsRow, standIns := [], harness := (true, "a4e6ac6a4ea26ade3a954f6d89900c2c00471a99b07d873d7eb8512bd7fd25d7"), looks := false }, kinds := [], alts := [], laidByText := true, laidKinds := [.data, .pinned], laidTests := true, laidLooks := .later }
def ReplicaTellsCardSaid : Prop := Claim7.holds Tryz.pinned (.plain (OpenSpec.ofChange replicaTellsSpec)) replicaTellsCard

/-- THE SECOND FORM's CARD OF 'rflaw6.PlanTells'. -/
def planTellsUptoCard : Claim7 := { stood := { row := planTellsUptoRow, standIns := [], harness := (true, "a4e6ac6a4ea26ade3a954f6d89900c2c00471a99b07d873d7eb8512bd7fd25d7"), looks := false }, kinds := [], alts := [], laidByText := true, laidKinds := [.data, .pinned], laidTests := true, laidLooks := .later }
def PlanTellsUptoCardSaid : Prop := Claim7.holds Tryz.pinned (.plain (OpenSpec.upto planTellsSpec)) planTellsUptoCard

/-- THE SECOND FORM's CARD OF 'rflaw10.ReplicaTells'. -/
def replicaTellsUptoCard : Claim7 := { stood := { row := replicaTellsUptoRow, standIns := [], harness := (true, "a4e6ac6a4ea26ade3a954f6d89900c2c00471a99b07d873d7eb8512bd7fd25d7"), looks := false }, kinds := [], alts := [], laidByText := true, laidKinds := [.data, .pinned], laidTests := true, laidLooks := .later }
def ReplicaTellsUptoCardSaid : Prop := Claim7.holds Tryz.pinned (.plain (OpenSpec.upto replicaTellsSpec)) replicaTellsUptoCard
end Rows
end Go.Proofs.YtngnajknbeijjaaGreatDoor
