/-
  DERIVED. GIVEN WITH THE SEED: THE CARDS: each row of YtkolabpmmddgiaaGreatDoorRows.lean that lists a variable, with what it lists TIED to the program's text (the seventh form; the later family's looks); each row that meets fmt, with fmt's text TOLD by the authors' own Lean function (tested against real Go, not proved from fmt's source: count such statements apart). THE CARD IS WHAT COUNTS. Prove the row's statement (the work); the ties are given (YtkolabpmmddgiaaGreatDoorTie.lean); close each card by the builder's one call (the guide's Derived/Test/ToyasCard.lean, 'card_holds'). Laid BY PROGRAM, IN A SANDBOX (cutbox-door.mjs). By AI agents, Wed Nov 11 2026. No macro, syntax, notation, axiom, sorry.
-/
import Derived.Test.YtkolabpmmddgiaaGreatDoorRows
import GoSem.ClaimSeven
namespace Go.Proofs.YtkolabpmmddgiaaGreatDoor
namespace Rows

/-- THE TIED CARD OF 'rflaw9.LogTurns'. -/
def logTurnsCard : Claim7 := { stood := { row := logTurnsRow, standIns := [], harness := (true, "9a1ad330eac555cccd0844d31ca94cc5ed9f473fab571f717cd4707f58400c42"), looks := true }, kinds := [], alts := [], laidByText := true, laidKinds := [.data, .data, .data, .data, .sentinel, .sentinel, .pinned], laidTests := true, laidLooks := .later }
def LogTurnsCardSaid : Prop := Claim7.holds Tryz.pinned (.plain (OpenSpec.ofChange logTurnsSpec)) logTurnsCard

/-- THE TIED CARD OF 'rflaw10.ReplicaOrder'. -/
def replicaOrderCard : Claim7 := { stood := { row := replicaOrderRow, standIns := [], harness := (true, "9a1ad330eac555cccd0844d31ca94cc5ed9f473fab571f717cd4707f58400c42"), looks := true }, kinds := [], alts := [], laidByText := true, laidKinds := [.data, .data, .data, .data, .sentinel, .sentinel, .pinned], laidTests := true, laidLooks := .later }
def ReplicaOrderCardSaid : Prop := Claim7.holds Tryz.pinned (.plain (OpenSpec.ofChange replicaOrderSpec)) replicaOrderCard

/-- THE TIED CARD OF 'rflaw10.ReplicaClear'. -/
def replicaClearCard : Claim7 := { stood := { row := replicaClearRow, standIns := [], harness := (true, "9a1ad330eac555cccd0844d31ca94cc5ed9f473fab571f717cd4707f58400c42"), looks := true }, kinds := [], alts := [], laidByText := true, laidKinds := [.data, .data, .data, .data, .sentinel, .sentinel, .pinned], laidTests := true, laidLooks := .later }
def ReplicaClearCardSaid : Prop := Claim7.holds Tryz.pinned (.plain (OpenSpec.ofChange replicaClearSpec)) replicaClearCard

/-- THE TIED CARD OF 'rflaw11.ClusterLog'. -/
def clusterLogCard : Claim7 := { stood := { row := clusterLogRow, standIns := [], harness := (true, "9a1ad330eac555cccd0844d31ca94cc5ed9f473fab571f717cd4707f58400c42"), looks := true }, kinds := [], alts := [], laidByText := true, laidKinds := [.data, .data, .data, .data, .sentinel, .sentinel, .pinned], laidTests := true, laidLooks := .later }
def ClusterLogCardSaid : Prop := Claim7.holds Tryz.pinned (.plain (OpenSpec.ofChange clusterLogSpec)) clusterLogCard

/-- THE TIED CARD OF 'rflaw11.ClusterSees'. -/
def clusterSeesCard : Claim7 := { stood := { row := clusterSeesRow, standIns := [], harness := (true, "9a1ad330eac555cccd0844d31ca94cc5ed9f473fab571f717cd4707f58400c42"), looks := true }, kinds := [], alts := [], laidByText := true, laidKinds := [.data, .data, .data, .data, .sentinel, .sentinel, .pinned], laidTests := true, laidLooks := .later }
def ClusterSeesCardSaid : Prop := Claim7.holds Tryz.pinned (.plain (OpenSpec.ofChange clusterSeesSpec)) clusterSeesCard

/-- THE SECOND FORM's CARD OF 'rflaw9.LogTurns'. -/
def logTurnsUptoCard : Claim7 := { stood := { row := logTurnsUptoRow, standIns := [], harness := (true, "9a1ad330eac555cccd0844d31ca94cc5ed9f473fab571f717cd4707f58400c42"), looks := true }, kinds := [], alts := [], laidByText := true, laidKinds := [.data, .data, .data, .data, .sentinel, .sentinel, .pinned], laidTests := true, laidLooks := .later }
def LogTurnsUptoCardSaid : Prop := Claim7.holds Tryz.pinned (.plain (OpenSpec.upto logTurnsSpec)) logTurnsUptoCard

/-- THE SECOND FORM's CARD OF 'rflaw10.ReplicaOrder'. -/
def replicaOrderUptoCard : Claim7 := { stood := { row := replicaOrderUptoRow, standIns := [], harness := (true, "9a1ad330eac555cccd0844d31ca94cc5ed9f473fab571f717cd4707f58400c42"), looks := true }, kinds := [], alts := [], laidByText := true, laidKinds := [.data, .data, .data, .data, .sentinel, .sentinel, .pinned], laidTests := true, laidLooks := .later }
def ReplicaOrderUptoCardSaid : Prop := Claim7.holds Tryz.pinned (.plain (OpenSpec.upto replicaOrderSpec)) replicaOrderUptoCard

/-- THE SECOND FORM's CARD OF 'rflaw10.ReplicaClear'. -/
def replicaClearUptoCard : Claim7 := { stood := { row := replicaClearUptoRow, standIns := [], harness := (true, "9a1ad330eac555cccd0844d31ca94cc5ed9f473fab571f717cd4707f58400c42"), looks := true }, kinds := [], alts := [], laidByText := true, laidKinds := [.data, .data, .data, .data, .sentinel, .sentinel, .pinned], laidTests := true, laidLooks := .later }
def ReplicaClearUptoCardSaid : Prop := Claim7.holds Tryz.pinned (.plain (OpenSpec.upto replicaClearSpec)) replicaClearUptoCard

/-- THE SECOND FORM's CARD OF 'rflaw11.ClusterLog'. -/
def clusterLogUptoCard : Claim7 := { stood := { row := clusterLogUptoRow, standIns := [], harness := (true, "9a1ad330eac555cccd0844d31ca94cc5ed9f473fab571f717cd4707f58400c42"), looks := true }, kinds := [], alts := [], laidByText := true, laidKinds := [.data, .data, .data, .data, .sentinel, .sentinel, .pinned], laidTests := true, laidLooks := .later }
def ClusterLogUptoCardSaid : Prop := Claim7.holds Tryz.pinned (.plain (OpenSpec.upto clusterLogSpec)) clusterLogUptoCard

/-- THE SECOND FORM's CARD OF 'rflaw11.ClusterSees'. -/
def clusterSeesUptoCard : Claim7 := { stood := { row := clusterSeesUptoRow, standIns := [], harness := (true, "9a1ad330eac555cccd0844d31ca94cc5ed9f473fab571f717cd4707f58400c42"), looks := true }, kinds := [], alts := [], laidByText := true, laidKinds := [.data, .data, .data, .data, .sentinel, .sentinel, .pinned], laidTests := true, laidLooks := .later }
def ClusterSeesUptoCardSaid : Prop := Claim7.holds Tryz.pinned (.plain (OpenSpec.upto clusterSeesSpec)) clusterSeesUptoCard
end Rows
end Go.Proofs.YtkolabpmmddgiaaGreatDoor
