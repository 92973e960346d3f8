/-
  DERIVED. GIVEN WITH THE SEED: THE CARDS: each row of YtccblhpfjlgmbabGreatDoorRows.lean that lists a variable, with what it lists TIED to the program's text (the seventh form; the later family's looks); each row that meets fmt, with fmt's text TOLD by the authors' own Lean function (tested against real Go, not proved from fmt's source: count such statements apart). THE CARD IS WHAT COUNTS. Prove the row's statement (the work); the ties are given (YtccblhpfjlgmbabGreatDoorTie.lean); close each card by the builder's one call (the guide's Derived/Test/ToyasCard.lean, 'card_holds'). Laid BY PROGRAM, IN A SANDBOX (cutbox-door.mjs). By AI agents, Wed Nov 11 2026. No macro, syntax, notation, axiom, sorry.
-/
import Derived.Test.YtccblhpfjlgmbabGreatDoorRows
import GoSem.ClaimSeven
namespace Go.Proofs.YtccblhpfjlgmbabGreatDoor
namespace Rows

/-- THE TIED CARD OF 'rftop.TopPay'. -/
def topPayCard : Claim7 := { stood := { row := topPayRow, standIns := [], harness := (true, "8b1a17f8ee2c9516632f8e58f9a625a65f394334975105d8a696e5c662172172"), looks := true }, kinds := [], alts := [], laidByText := true, laidKinds := [.data, .data, .data, .data, .sentinel, .sentinel, .pinned], laidTests := true, laidLooks := .later }
def TopPayCardSaid : Prop := Claim7.holds Tryz.pinned (.plain (OpenSpec.ofChange topPaySpec)) topPayCard

/-- THE TIED CARD OF 'rftop.TopBatch'. -/
def topBatchCard : Claim7 := { stood := { row := topBatchRow, standIns := [], harness := (true, "8b1a17f8ee2c9516632f8e58f9a625a65f394334975105d8a696e5c662172172"), looks := true }, kinds := [], alts := [], laidByText := true, laidKinds := [.data, .data, .data, .data, .sentinel, .sentinel, .pinned], laidTests := true, laidLooks := .later }
def TopBatchCardSaid : Prop := Claim7.holds Tryz.pinned (.plain (OpenSpec.ofChange topBatchSpec)) topBatchCard

/-- THE TIED CARD OF 'rftop.TopCount'. -/
def topCountCard : Claim7 := { stood := { row := topCountRow, standIns := [], harness := (true, "8b1a17f8ee2c9516632f8e58f9a625a65f394334975105d8a696e5c662172172"), looks := true }, kinds := [], alts := [], laidByText := true, laidKinds := [.data, .data, .data, .data, .sentinel, .sentinel, .pinned], laidTests := true, laidLooks := .later }
def TopCountCardSaid : Prop := Claim7.holds Tryz.pinned (.plain (OpenSpec.ofChange topCountSpec)) topCountCard

/-- THE TIED CARD OF 'rftop.TopReads'. -/
def topReadsCard : Claim7 := { stood := { row := topReadsRow, standIns := [], harness := (true, "8b1a17f8ee2c9516632f8e58f9a625a65f394334975105d8a696e5c662172172"), looks := true }, kinds := [], alts := [], laidByText := true, laidKinds := [.data, .data, .data, .data, .sentinel, .sentinel, .pinned], laidTests := true, laidLooks := .later }
def TopReadsCardSaid : Prop := Claim7.holds Tryz.pinned (.plain (OpenSpec.ofChange topReadsSpec)) topReadsCard

/-- THE SECOND FORM's CARD OF 'rftop.TopPay'. -/
def topPayUptoCard : Claim7 := { stood := { row := topPayUptoRow, standIns := [], harness := (true, "8b1a17f8ee2c9516632f8e58f9a625a65f394334975105d8a696e5c662172172"), looks := true }, kinds := [], alts := [], laidByText := true, laidKinds := [.data, .data, .data, .data, .sentinel, .sentinel, .pinned], laidTests := true, laidLooks := .later }
def TopPayUptoCardSaid : Prop := Claim7.holds Tryz.pinned (.plain (OpenSpec.upto topPaySpec)) topPayUptoCard

/-- THE SECOND FORM's CARD OF 'rftop.TopBatch'. -/
def topBatchUptoCard : Claim7 := { stood := { row := topBatchUptoRow, standIns := [], harness := (true, "8b1a17f8ee2c9516632f8e58f9a625a65f394334975105d8a696e5c662172172"), looks := true }, kinds := [], alts := [], laidByText := true, laidKinds := [.data, .data, .data, .data, .sentinel, .sentinel, .pinned], laidTests := true, laidLooks := .later }
def TopBatchUptoCardSaid : Prop := Claim7.holds Tryz.pinned (.plain (OpenSpec.upto topBatchSpec)) topBatchUptoCard

/-- THE SECOND FORM's CARD OF 'rftop.TopCount'. -/
def topCountUptoCard : Claim7 := { stood := { row := topCountUptoRow, standIns := [], harness := (true, "8b1a17f8ee2c9516632f8e58f9a625a65f394334975105d8a696e5c662172172"), looks := true }, kinds := [], alts := [], laidByText := true, laidKinds := [.data, .data, .data, .data, .sentinel, .sentinel, .pinned], laidTests := true, laidLooks := .later }
def TopCountUptoCardSaid : Prop := Claim7.holds Tryz.pinned (.plain (OpenSpec.upto topCountSpec)) topCountUptoCard

/-- THE SECOND FORM's CARD OF 'rftop.TopReads'. -/
def topReadsUptoCard : Claim7 := { stood := { row := topReadsUptoRow, standIns := [], harness := (true, "8b1a17f8ee2c9516632f8e58f9a625a65f394334975105d8a696e5c662172172"), looks := true }, kinds := [], alts := [], laidByText := true, laidKinds := [.data, .data, .data, .data, .sentinel, .sentinel, .pinned], laidTests := true, laidLooks := .later }
def TopReadsUptoCardSaid : Prop := Claim7.holds Tryz.pinned (.plain (OpenSpec.upto topReadsSpec)) topReadsUptoCard
end Rows
end Go.Proofs.YtccblhpfjlgmbabGreatDoor
