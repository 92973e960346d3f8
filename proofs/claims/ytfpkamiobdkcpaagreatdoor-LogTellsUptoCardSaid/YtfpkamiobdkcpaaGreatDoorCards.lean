/-
  DERIVED. GIVEN WITH THE SEED: THE CARDS: each row of YtfpkamiobdkcpaaGreatDoorRows.lean that lists a variable, with what it lists TIED to the program's text (the seventh form; the later family's looks); each row that meets fmt, with fmt's text TOLD by the authors' own Lean function (tested against real Go, not proved from fmt's source: count such statements apart). THE CARD IS WHAT COUNTS. Prove the row's statement (the work); the ties are given (YtfpkamiobdkcpaaGreatDoorTie.lean); close each card by the builder's one call (the guide's Derived/Test/ToyasCard.lean, 'card_holds'). Laid BY PROGRAM, IN A SANDBOX (cutbox-door.mjs). By AI agents, Wed Nov 11 2026. No macro, syntax, notation, axiom, sorry.
-/
import Derived.Test.YtfpkamiobdkcpaaGreatDoorRows
import GoSem.ClaimSeven
namespace Go.Proofs.YtfpkamiobdkcpaaGreatDoor
namespace Rows

/-- THE TIED CARD OF 'rflaw6.PlanTells'. -/
def planTellsCard : Claim7 := { stood := { row := planTellsRow, standIns := [], harness := (true, "98d2c8c9656d822546af721de1ce62a36f72c6c7b474d2d6ab29dfd1b9fcd6cd"), looks := true }, kinds := [], alts := [], laidByText := true, laidKinds := [.data, .pinned], laidTests := true, laidLooks := .later }
def PlanTellsCardSaid : Prop := Claim7.holds Tryz.pinned (.plain (OpenSpec.ofChange planTellsSpec)) planTellsCard

/-- THE TIED CARD OF 'rflaw10.ReplicaTells'. -/
def replicaTellsCard : Claim7 := { stood := { row := replicaTellsRow, standIns := [], harness := (true, "98d2c8c9656d822546af721de1ce62a36f72c6c7b474d2d6ab29dfd1b9fcd6cd"), looks := true }, kinds := [], alts := [], laidByText := true, laidKinds := [.data, .pinned], laidTests := true, laidLooks := .later }
def ReplicaTellsCardSaid : Prop := Claim7.holds Tryz.pinned (.plain (OpenSpec.ofChange replicaTellsSpec)) replicaTellsCard

/-- THE TIED CARD OF 'rflaw9.LogTells'. -/
def logTellsCard : Claim7 := { stood := { row := logTellsRow, standIns := [], harness := (true, "98d2c8c9656d822546af721de1ce62a36f72c6c7b474d2d6ab29dfd1b9fcd6cd"), looks := true }, kinds := [], alts := [], laidByText := true, laidKinds := [.data, .data, .data, .data, .sentinel, .sentinel, .pinned], laidTests := true, laidLooks := .later }
def LogTellsCardSaid : Prop := Claim7.holds Tryz.pinned (.plain (OpenSpec.ofChange logTellsSpec)) logTellsCard

/-- THE TIED CARD OF 'rflaw6.PlanAhead'. -/
def planAheadCard : Claim7 := { stood := { row := planAheadRow, standIns := [], harness := (true, "98d2c8c9656d822546af721de1ce62a36f72c6c7b474d2d6ab29dfd1b9fcd6cd"), looks := true }, kinds := [], alts := [], laidByText := true, laidKinds := [.data, .data, .data, .data, .sentinel, .sentinel, .pinned], laidTests := true, laidLooks := .later }
def PlanAheadCardSaid : Prop := Claim7.holds Tryz.pinned (.plain (OpenSpec.ofChange planAheadSpec)) planAheadCard

/-- THE TIED CARD OF 'rflaw6.PlanBack'. -/
def planBackCard : Claim7 := { stood := { row := planBackRow, standIns := [], harness := (true, "98d2c8c9656d822546af721de1ce62a36f72c6c7b474d2d6ab29dfd1b9fcd6cd"), looks := true }, kinds := [], alts := [], laidByText := true, laidKinds := [.data, .data, .data, .data, .sentinel, .sentinel, .pinned], laidTests := true, laidLooks := .later }
def PlanBackCardSaid : Prop := Claim7.holds Tryz.pinned (.plain (OpenSpec.ofChange planBackSpec)) planBackCard

/-- THE TIED CARD OF 'rflaw10.ReplicaTwice'. -/
def replicaTwiceCard : Claim7 := { stood := { row := replicaTwiceRow, standIns := [], harness := (true, "98d2c8c9656d822546af721de1ce62a36f72c6c7b474d2d6ab29dfd1b9fcd6cd"), looks := true }, kinds := [], alts := [], laidByText := true, laidKinds := [.data, .data, .data, .data, .sentinel, .sentinel, .pinned], laidTests := true, laidLooks := .later }
def ReplicaTwiceCardSaid : Prop := Claim7.holds Tryz.pinned (.plain (OpenSpec.ofChange replicaTwiceSpec)) replicaTwiceCard

/-- THE TIED CARD OF 'rflaw11.ClusterTells'. -/
def clusterTellsCard : Claim7 := { stood := { row := clusterTellsRow, standIns := [], harness := (true, "98d2c8c9656d822546af721de1ce62a36f72c6c7b474d2d6ab29dfd1b9fcd6cd"), looks := true }, kinds := [], alts := [], laidByText := true, laidKinds := [.data, .data, .data, .data, .sentinel, .sentinel, .pinned], laidTests := true, laidLooks := .later }
def ClusterTellsCardSaid : Prop := Claim7.holds Tryz.pinned (.plain (OpenSpec.ofChange clusterTellsSpec)) clusterTellsCard

/-- THE SECOND FORM's CARD OF 'rflaw6.PlanTells'. -/
def planTellsUptoCard : Claim7 := { stood := { row := planTellsUptoRow, standIns := [], harness := (true, "98d2c8c9656d822546af721de1ce62a36f72c6c7b474d2d6ab29dfd1b9fcd6cd"), looks := true }, kinds := [], alts := [], laidByText := true, laidKinds := [.data, .pinned], laidTests := true, laidLooks := .later }
def PlanTellsUptoCardSaid : Prop := Claim7.holds Tryz.pinned (.plain (OpenSpec.upto planTellsSpec)) planTellsUptoCard

/-- THE SECOND FORM's CARD OF 'rflaw10.ReplicaTells'. -/
def replicaTellsUptoCard : Claim7 := { stood := { row := replicaTellsUptoRow, standIns := [], harness := (true, "98d2c8c9656d822546af721de1ce62a36f72c6c7b474d2d6ab29dfd1b9fcd6cd"), looks := true }, kinds := [], alts := [], laidByText := true, laidKinds := [.data, .pinned], laidTests := true, laidLooks := .later }
def ReplicaTellsUptoCardSaid : Prop := Claim7.holds Tryz.pinned (.plain (OpenSpec.upto replicaTellsSpec)) replicaTellsUptoCard

/-- THE SECOND FORM's CARD OF 'rflaw9.LogTells'. -/
def logTellsUptoCard : Claim7 := { stood := { row := logTellsUptoRow, standIns := [], harness := (true, "98d2c8c9656d822546af721de1ce62a36f72c6c7b474d2d6ab29dfd1b9fcd6cd"), looks := true }, kinds := [], alts := [], laidByText := true, laidKinds := [.data, .data, .data, .data, .sentinel, .sentinel, .pinned], laidTests := true, laidLooks := .later }
def LogTellsUptoCardSaid : Prop := Claim7.holds Tryz.pinned (.plain (OpenSpec.upto logTellsSpec)) logTellsUptoCard

/-- THE SECOND FORM's CARD OF 'rflaw6.PlanAhead'. -/
def planAheadUptoCard : Claim7 := { stood := { row := planAheadUptoRow, standIns := [], harness := (true, "98d2c8c9656d822546af721de1ce62a36f72c6c7b474d2d6ab29dfd1b9fcd6cd"), looks := true }, kinds := [], alts := [], laidByText := true, laidKinds := [.data, .data, .data, .data, .sentinel, .sentinel, .pinned], laidTests := true, laidLooks := .later }
def PlanAheadUptoCardSaid : Prop := Claim7.holds Tryz.pinned (.plain (OpenSpec.upto planAheadSpec)) planAheadUptoCard

/-- THE SECOND FORM's CARD OF 'rflaw6.PlanBack'. -/
def planBackUptoCard : Claim7 := { stood := { row := planBackUptoRow, standIns := [], harness := (true, "98d2c8c9656d822546af721de1ce62a36f72c6c7b474d2d6ab29dfd1b9fcd6cd"), looks := true }, kinds := [], alts := [], laidByText := true, laidKinds := [.data, .data, .data, .data, .sentinel, .sentinel, .pinned], laidTests := true, laidLooks := .later }
def PlanBackUptoCardSaid : Prop := Claim7.holds Tryz.pinned (.plain (OpenSpec.upto planBackSpec)) planBackUptoCard

/-- THE SECOND FORM's CARD OF 'rflaw10.ReplicaTwice'. -/
def replicaTwiceUptoCard : Claim7 := { stood := { row := replicaTwiceUptoRow, standIns := [], harness := (true, "98d2c8c9656d822546af721de1ce62a36f72c6c7b474d2d6ab29dfd1b9fcd6cd"), looks := true }, kinds := [], alts := [], laidByText := true, laidKinds := [.data, .data, .data, .data, .sentinel, .sentinel, .pinned], laidTests := true, laidLooks := .later }
def ReplicaTwiceUptoCardSaid : Prop := Claim7.holds Tryz.pinned (.plain (OpenSpec.upto replicaTwiceSpec)) replicaTwiceUptoCard

/-- THE SECOND FORM's CARD OF 'rflaw11.ClusterTells'. -/
def clusterTellsUptoCard : Claim7 := { stood := { row := clusterTellsUptoRow, standIns := [], harness := (true, "98d2c8c9656d822546af721de1ce62a36f72c6c7b474d2d6ab29dfd1b9fcd6cd"), looks := true }, kinds := [], alts := [], laidByText := true, laidKinds := [.data, .data, .data, .data, .sentinel, .sentinel, .pinned], laidTests := true, laidLooks := .later }
def ClusterTellsUptoCardSaid : Prop := Claim7.holds Tryz.pinned (.plain (OpenSpec.upto clusterTellsSpec)) clusterTellsUptoCard
end Rows
end Go.Proofs.YtfpkamiobdkcpaaGreatDoor
