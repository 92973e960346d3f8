/-
  DERIVED. GIVEN WITH THE SEED: THE CARDS: each row of YtmnociojijpdmaaGreatDoorRows.lean that lists a variable, with what it lists TIED to the program's text (the seventh form; the later family's looks); each row that meets fmt, with fmt's text TOLD by the authors' own Lean function (tested against real Go, not proved from fmt's source: count such statements apart). THE CARD IS WHAT COUNTS. Prove the row's statement (the work); the ties are given (YtmnociojijpdmaaGreatDoorTie.lean); close each card by the builder's one call (the guide's Derived/Test/ToyasCard.lean, 'card_holds'). Laid BY PROGRAM, IN A SANDBOX (cutbox-door.mjs). By AI agents, Wed Nov 11 2026. No macro, syntax, notation, axiom, sorry.
-/
import Derived.Test.YtmnociojijpdmaaGreatDoorRows
import GoSem.ClaimSeven
namespace Go.Proofs.YtmnociojijpdmaaGreatDoor
namespace Rows

/-- THE TIED CARD OF 'rflaw10.ReplicaTells'. -/
def replicaTellsCard : Claim7 := { stood := { row := replicaTellsRow, standIns := [], harness := (true, "fbfff83257e4ef91be71e0396224ec2d84d4495647dfa1f585750149ac6c52c5"), looks := true }, kinds := [], alts := [], laidByText := true, laidKinds := [.data, .pinned], laidTests := true, laidLooks := .later }
def ReplicaTellsCardSaid : Prop := Claim7.holds Tryz.pinned (.plain (OpenSpec.ofChange replicaTellsSpec)) replicaTellsCard

/-- THE TIED CARD OF 'rflaw9.LogTells'. -/
def logTellsCard : Claim7 := { stood := { row := logTellsRow, standIns := [], harness := (true, "fbfff83257e4ef91be71e0396224ec2d84d4495647dfa1f585750149ac6c52c5"), looks := true }, kinds := [], alts := [], laidByText := true, laidKinds := [.data, .data, .data, .data, .sentinel, .sentinel, .pinned], laidTests := true, laidLooks := .later }
def LogTellsCardSaid : Prop := Claim7.holds Tryz.pinned (.plain (OpenSpec.ofChange logTellsSpec)) logTellsCard

/-- THE TIED CARD OF 'rflaw9.LogTurns'. -/
def logTurnsCard : Claim7 := { stood := { row := logTurnsRow, standIns := [], harness := (true, "fbfff83257e4ef91be71e0396224ec2d84d4495647dfa1f585750149ac6c52c5"), looks := true }, kinds := [], alts := [], laidByText := true, laidKinds := [.data, .data, .data, .data, .sentinel, .sentinel, .pinned], laidTests := true, laidLooks := .later }
def LogTurnsCardSaid : Prop := Claim7.holds Tryz.pinned (.plain (OpenSpec.ofChange logTurnsSpec)) logTurnsCard

/-- THE TIED CARD OF 'rflaw9.LogByte'. -/
def logByteCard : Claim7 := { stood := { row := logByteRow, standIns := [], harness := (true, "fbfff83257e4ef91be71e0396224ec2d84d4495647dfa1f585750149ac6c52c5"), looks := true }, kinds := [], alts := [], laidByText := true, laidKinds := [.data, .data, .data, .data, .sentinel, .sentinel, .pinned], laidTests := true, laidLooks := .later }
def LogByteCardSaid : Prop := Claim7.holds Tryz.pinned (.plain (OpenSpec.ofChange logByteSpec)) logByteCard

/-- THE TIED CARD OF 'rflaw10.ReplicaOrder'. -/
def replicaOrderCard : Claim7 := { stood := { row := replicaOrderRow, standIns := [], harness := (true, "fbfff83257e4ef91be71e0396224ec2d84d4495647dfa1f585750149ac6c52c5"), looks := true }, kinds := [], alts := [], laidByText := true, laidKinds := [.data, .data, .data, .data, .sentinel, .sentinel, .pinned], laidTests := true, laidLooks := .later }
def ReplicaOrderCardSaid : Prop := Claim7.holds Tryz.pinned (.plain (OpenSpec.ofChange replicaOrderSpec)) replicaOrderCard

/-- THE TIED CARD OF 'rflaw10.ReplicaClear'. -/
def replicaClearCard : Claim7 := { stood := { row := replicaClearRow, standIns := [], harness := (true, "fbfff83257e4ef91be71e0396224ec2d84d4495647dfa1f585750149ac6c52c5"), looks := true }, kinds := [], alts := [], laidByText := true, laidKinds := [.data, .data, .data, .data, .sentinel, .sentinel, .pinned], laidTests := true, laidLooks := .later }
def ReplicaClearCardSaid : Prop := Claim7.holds Tryz.pinned (.plain (OpenSpec.ofChange replicaClearSpec)) replicaClearCard

/-- THE TIED CARD OF 'rflaw10.ReplicaTwice'. -/
def replicaTwiceCard : Claim7 := { stood := { row := replicaTwiceRow, standIns := [], harness := (true, "fbfff83257e4ef91be71e0396224ec2d84d4495647dfa1f585750149ac6c52c5"), looks := true }, kinds := [], alts := [], laidByText := true, laidKinds := [.data, .data, .data, .data, .sentinel, .sentinel, .pinned], laidTests := true, laidLooks := .later }
def ReplicaTwiceCardSaid : Prop := Claim7.holds Tryz.pinned (.plain (OpenSpec.ofChange replicaTwiceSpec)) replicaTwiceCard

/-- THE SECOND FORM's CARD OF 'rflaw10.ReplicaTells'. -/
def replicaTellsUptoCard : Claim7 := { stood := { row := replicaTellsUptoRow, standIns := [], harness := (true, "fbfff83257e4ef91be71e0396224ec2d84d4495647dfa1f585750149ac6c52c5"), looks := true }, kinds := [], alts := [], laidByText := true, laidKinds := [.data, .pinned], laidTests := true, laidLooks := .later }
def ReplicaTellsUptoCardSaid : Prop := Claim7.holds Tryz.pinned (.plain (OpenSpec.upto replicaTellsSpec)) replicaTellsUptoCard

/-- THE SECOND FORM's CARD OF 'rflaw9.LogTells'. -/
def logTellsUptoCard : Claim7 := { stood := { row := logTellsUptoRow, standIns := [], harness := (true, "fbfff83257e4ef91be71e0396224ec2d84d4495647dfa1f585750149ac6c52c5"), looks := true }, kinds := [], alts := [], laidByText := true, laidKinds := [.data, .data, .data, .data, .sentinel, .sentinel, .pinned], laidTests := true, laidLooks := .later }
def LogTellsUptoCardSaid : Prop := Claim7.holds Tryz.pinned (.plain (OpenSpec.upto logTellsSpec)) logTellsUptoCard

/-- THE SECOND FORM's CARD OF 'rflaw9.LogTurns'. -/
def logTurnsUptoCard : Claim7 := { stood := { row := logTurnsUptoRow, standIns := [], harness := (true, "fbfff83257e4ef91be71e0396224ec2d84d4495647dfa1f585750149ac6c52c5"), looks := true }, kinds := [], alts := [], laidByText := true, laidKinds := [.data, .data, .data, .data, .sentinel, .sentinel, .pinned], laidTests := true, laidLooks := .later }
def LogTurnsUptoCardSaid : Prop := Claim7.holds Tryz.pinned (.plain (OpenSpec.upto logTurnsSpec)) logTurnsUptoCard

/-- THE SECOND FORM's CARD OF 'rflaw9.LogByte'. -/
def logByteUptoCard : Claim7 := { stood := { row := logByteUptoRow, standIns := [], harness := (true, "fbfff83257e4ef91be71e0396224ec2d84d4495647dfa1f585750149ac6c52c5"), looks := true }, kinds := [], alts := [], laidByText := true, laidKinds := [.data, .data, .data, .data, .sentinel, .sentinel, .pinned], laidTests := true, laidLooks := .later }
def LogByteUptoCardSaid : Prop := Claim7.holds Tryz.pinned (.plain (OpenSpec.upto logByteSpec)) logByteUptoCard

/-- THE SECOND FORM's CARD OF 'rflaw10.ReplicaOrder'. -/
def replicaOrderUptoCard : Claim7 := { stood := { row := replicaOrderUptoRow, standIns := [], harness := (true, "fbfff83257e4ef91be71e0396224ec2d84d4495647dfa1f585750149ac6c52c5"), looks := true }, kinds := [], alts := [], laidByText := true, laidKinds := [.data, .data, .data, .data, .sentinel, .sentinel, .pinned], laidTests := true, laidLooks := .later }
def ReplicaOrderUptoCardSaid : Prop := Claim7.holds Tryz.pinned (.plain (OpenSpec.upto replicaOrderSpec)) replicaOrderUptoCard

/-- THE SECOND FORM's CARD OF 'rflaw10.ReplicaClear'. -/
def replicaClearUptoCard : Claim7 := { stood := { row := replicaClearUptoRow, standIns := [], harness := (true, "fbfff83257e4ef91be71e0396224ec2d84d4495647dfa1f585750149ac6c52c5"), looks := true }, kinds := [], alts := [], laidByText := true, laidKinds := [.data, .data, .data, .data, .sentinel, .sentinel, .pinned], laidTests := true, laidLooks := .later }
def ReplicaClearUptoCardSaid : Prop := Claim7.holds Tryz.pinned (.plain (OpenSpec.upto replicaClearSpec)) replicaClearUptoCard

/-- THE SECOND FORM's CARD OF 'rflaw10.ReplicaTwice'. -/
def replicaTwiceUptoCard : Claim7 := { stood := { row := replicaTwiceUptoRow, standIns := [], harness := (true, "fbfff83257e4ef91be71e0396224ec2d84d4495647dfa1f585750149ac6c52c5"), looks := true }, kinds := [], alts := [], laidByText := true, laidKinds := [.data, .data, .data, .data, .sentinel, .sentinel, .pinned], laidTests := true, laidLooks := .later }
def ReplicaTwiceUptoCardSaid : Prop := Claim7.holds Tryz.pinned (.plain (OpenSpec.upto replicaTwiceSpec)) replicaTwiceUptoCard
end Rows
end Go.Proofs.YtmnociojijpdmaaGreatDoor
