/-
  DERIVED. GIVEN WITH THE SEED: THE CARDS: each row of YtgiaplfdpncglaaDoorRows.lean that lists a variable, with what it lists TIED to the program's text (the seventh form; the later family's looks); each row that meets fmt, with fmt's text TOLD by the authors' own Lean function (tested against real Go, not proved from fmt's source: count such statements apart). THE CARD IS WHAT COUNTS. Prove the row's statement (the work); the ties are given (YtgiaplfdpncglaaDoorTie.lean); close each card by the builder's one call (the guide's Derived/Test/ToyasCard.lean, 'card_holds'). Laid BY PROGRAM, IN A SANDBOX (cutbox-door.mjs). By AI agents, Wed Nov 11 2026. No macro, syntax, notation, axiom, sorry.
-/
import Derived.Test.YtgiaplfdpncglaaDoorRows
import GoSem.ClaimSeven
namespace Go.Proofs.YtgiaplfdpncglaaDoor
namespace Rows

/-- THE TIED CARD OF 'rflaw4.PlainApart'. -/
def plainApartCard : Claim7 := { stood := { row := plainApartRow, standIns := [], harness := (true, "8d1c00778fb334ca95995296705f5d9cf5cccb76f6aa51438d3eea1e327d36cd"), looks := true }, kinds := [], alts := [], laidByText := true, laidKinds := [.data, .data, .data, .sentinel, .sentinel], laidTests := true, laidLooks := .later }
def PlainApartCardSaid : Prop := Claim7.holds Tryd.pinned (.plain (OpenSpec.ofChange plainApartSpec)) plainApartCard

/-- THE SECOND FORM's CARD OF 'rflaw4.PlainApart'. -/
def plainApartUptoCard : Claim7 := { stood := { row := plainApartUptoRow, standIns := [], harness := (true, "8d1c00778fb334ca95995296705f5d9cf5cccb76f6aa51438d3eea1e327d36cd"), looks := true }, kinds := [], alts := [], laidByText := true, laidKinds := [.data, .data, .data, .sentinel, .sentinel], laidTests := true, laidLooks := .later }
def PlainApartUptoCardSaid : Prop := Claim7.holds Tryd.pinned (.plain (OpenSpec.upto plainApartSpec)) plainApartUptoCard
end Rows
end Go.Proofs.YtgiaplfdpncglaaDoor
