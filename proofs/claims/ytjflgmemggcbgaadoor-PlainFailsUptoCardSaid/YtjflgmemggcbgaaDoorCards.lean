/-
  DERIVED. GIVEN WITH THE SEED: THE CARDS: each row of YtjflgmemggcbgaaDoorRows.lean that lists a variable, with what it lists TIED to the program's text (the seventh form; the later family's looks); each row that meets fmt, with fmt's text TOLD by the authors' own Lean function (tested against real Go, not proved from fmt's source: count such statements apart). THE CARD IS WHAT COUNTS. Prove the row's statement (the work); the ties are given (YtjflgmemggcbgaaDoorTie.lean); close each card by the builder's one call (the guide's Derived/Test/ToyasCard.lean, 'card_holds'). Laid BY PROGRAM, IN A SANDBOX (cutbox-door.mjs). By AI agents, Wed Nov 11 2026. No macro, syntax, notation, axiom, sorry.
-/
import Derived.Test.YtjflgmemggcbgaaDoorRows
import GoSem.ClaimSeven
namespace Go.Proofs.YtjflgmemggcbgaaDoor
namespace Rows

/-- THE TIED CARD OF 'rflaw4.PlainFails'. -/
def plainFailsCard : Claim7 := { stood := { row := plainFailsRow, standIns := [], harness := (true, "6b931e934111d20e3f6a97d6a42031a96fe9d8e919394442320af7e3fded01d9"), looks := true }, kinds := [], alts := [], laidByText := true, laidKinds := [.data, .data, .data, .sentinel, .sentinel], laidTests := true, laidLooks := .later }
def PlainFailsCardSaid : Prop := Claim7.holds Tryd.pinned (.plain (OpenSpec.ofChange plainFailsSpec)) plainFailsCard

/-- THE TIED CARD OF 'rflaw4.PlainApart'. -/
def plainApartCard : Claim7 := { stood := { row := plainApartRow, standIns := [], harness := (true, "6b931e934111d20e3f6a97d6a42031a96fe9d8e919394442320af7e3fded01d9"), looks := true }, kinds := [], alts := [], laidByText := true, laidKinds := [.data, .data, .data, .sentinel, .sentinel], laidTests := true, laidLooks := .later }
def PlainApartCardSaid : Prop := Claim7.holds Tryd.pinned (.plain (OpenSpec.ofChange plainApartSpec)) plainApartCard

/-- THE SECOND FORM's CARD OF 'rflaw4.PlainFails'. -/
def plainFailsUptoCard : Claim7 := { stood := { row := plainFailsUptoRow, standIns := [], harness := (true, "6b931e934111d20e3f6a97d6a42031a96fe9d8e919394442320af7e3fded01d9"), looks := true }, kinds := [], alts := [], laidByText := true, laidKinds := [.data, .data, .data, .sentinel, .sentinel], laidTests := true, laidLooks := .later }
def PlainFailsUptoCardSaid : Prop := Claim7.holds Tryd.pinned (.plain (OpenSpec.upto plainFailsSpec)) plainFailsUptoCard

/-- THE SECOND FORM's CARD OF 'rflaw4.PlainApart'. -/
def plainApartUptoCard : Claim7 := { stood := { row := plainApartUptoRow, standIns := [], harness := (true, "6b931e934111d20e3f6a97d6a42031a96fe9d8e919394442320af7e3fded01d9"), looks := true }, kinds := [], alts := [], laidByText := true, laidKinds := [.data, .data, .data, .sentinel, .sentinel], laidTests := true, laidLooks := .later }
def PlainApartUptoCardSaid : Prop := Claim7.holds Tryd.pinned (.plain (OpenSpec.upto plainApartSpec)) plainApartUptoCard
end Rows
end Go.Proofs.YtjflgmemggcbgaaDoor
