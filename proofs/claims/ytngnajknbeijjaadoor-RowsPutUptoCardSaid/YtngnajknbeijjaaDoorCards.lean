/-
  DERIVED. GIVEN WITH THE SEED: THE CARDS: each row of YtngnajknbeijjaaDoorRows.lean that lists a variable, with what it lists TIED to the program's text (the seventh form; the later family's looks); each row that meets fmt, with fmt's text TOLD by the authors' own Lean function (tested against real Go, not proved from fmt's source: count such statements apart). THE CARD IS WHAT COUNTS. Prove the row's statement (the work); the ties are given (YtngnajknbeijjaaDoorTie.lean); close each card by the builder's one call (the guide's Derived/Test/ToyasCard.lean, 'card_holds'). Laid BY PROGRAM, IN A SANDBOX (cutbox-door.mjs). By AI agents, Wed Nov 11 2026. No macro, syntax, notation, axiom, sorry.
-/
import Derived.Test.YtngnajknbeijjaaDoorRows
import GoSem.ClaimSeven
namespace Go.Proofs.YtngnajknbeijjaaDoor
namespace Rows

/-- THE TIED CARD OF 'rflaw1.RowsTells'. -/
def rowsTellsCard : Claim7 := { stood := { row := rowsTellsRow, standIns := [], harness := (true, "0cef3a55fb8083eb3e9302e81fdd3de52c15e78bee700062791a9cc6d8c33baf"), looks := false }, kinds := [], alts := [], laidByText := true, laidKinds := [.data, .pinned], laidTests := true, laidLooks := .later }
def RowsTellsCardSaid : Prop := Claim7.holds Tryd.pinned (.plain (OpenSpec.ofChange rowsTellsSpec)) rowsTellsCard

/-- THE TIED CARD OF 'rflaw1.RowsApart'. -/
def rowsApartCard : Claim7 := { stood := { row := rowsApartRow, standIns := [], harness := (true, "0cef3a55fb8083eb3e9302e81fdd3de52c15e78bee700062791a9cc6d8c33baf"), looks := false }, kinds := [], alts := [], laidByText := true, laidKinds := [.data, .pinned], laidTests := true, laidLooks := .later }
def RowsApartCardSaid : Prop := Claim7.holds Tryd.pinned (.plain (OpenSpec.ofChange rowsApartSpec)) rowsApartCard

/-- THE TIED CARD OF 'rflaw1.RowsPut'. -/
def rowsPutCard : Claim7 := { stood := { row := rowsPutRow, standIns := [], harness := (true, "0cef3a55fb8083eb3e9302e81fdd3de52c15e78bee700062791a9cc6d8c33baf"), looks := false }, kinds := [], alts := [], laidByText := true, laidKinds := [.data, .pinned], laidTests := true, laidLooks := .later }
def RowsPutCardSaid : Prop := Claim7.holds Tryd.pinned (.plain (OpenSpec.ofChange rowsPutSpec)) rowsPutCard

/-- THE SECOND FORM's CARD OF 'rflaw1.RowsTells'. -/
def rowsTellsUptoCard : Claim7 := { stood := { row := rowsTellsUptoRow, standIns := [], harness := (true, "0cef3a55fb8083eb3e9302e81fdd3de52c15e78bee700062791a9cc6d8c33baf"), looks := false }, kinds := [], alts := [], laidByText := true, laidKinds := [.data, .pinned], laidTests := true, laidLooks := .later }
def RowsTellsUptoCardSaid : Prop := Claim7.holds Tryd.pinned (.plain (OpenSpec.upto rowsTellsSpec)) rowsTellsUptoCard

/-- THE SECOND FORM's CARD OF 'rflaw1.RowsApart'. -/
def rowsApartUptoCard : Claim7 := { stood := { row := rowsApartUptoRow, standIns := [], harness := (true, "0cef3a55fb8083eb3e9302e81fdd3de52c15e78bee700062791a9cc6d8c33baf"), looks := false }, kinds := [], alts := [], laidByText := true, laidKinds := [.data, .pinned], laidTests := true, laidLooks := .later }
def RowsApartUptoCardSaid : Prop := Claim7.holds Tryd.pinned (.plain (OpenSpec.upto rowsApartSpec)) rowsApartUptoCard

/-- THE SECOND FORM's CARD OF 'rflaw1.RowsPut'. -/
def rowsPutUptoCard : Claim7 := { stood := { row := rowsPutUptoRow, standIns := [], harness := (true, "0cef3a55fb8083eb3e9302e81fdd3de52c15e78bee700062791a9cc6d8c33baf"), looks := false }, kinds := [], alts := [], laidByText := true, laidKinds := [.data, .pinned], laidTests := true, laidLooks := .later }
def RowsPutUptoCardSaid : Prop := Claim7.holds Tryd.pinned (.plain (OpenSpec.upto rowsPutSpec)) rowsPutUptoCard
end Rows
end Go.Proofs.YtngnajknbeijjaaDoor
