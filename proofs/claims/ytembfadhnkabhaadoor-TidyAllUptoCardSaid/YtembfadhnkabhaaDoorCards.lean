/-
  DERIVED. GIVEN WITH THE SEED: THE CARDS: each row of YtembfadhnkabhaaDoorRows.lean that lists a variable, with what it lists TIED to the program's text (the seventh form; the later family's looks); each row that meets fmt, with fmt's text TOLD by the authors' own Lean function (tested against real Go, not proved from fmt's source: count such statements apart). THE CARD IS WHAT COUNTS. Prove the row's statement (the work); the ties are given (YtembfadhnkabhaaDoorTie.lean); close each card by the builder's one call (the guide's Derived/Test/ToyasCard.lean, 'card_holds'). Laid BY PROGRAM, IN A SANDBOX (cutbox-door.mjs). By AI agents, Wed Nov 11 2026. No macro, syntax, notation, axiom, sorry.
-/
import Derived.Test.YtembfadhnkabhaaDoorRows
import GoSem.ClaimSeven
namespace Go.Proofs.YtembfadhnkabhaaDoor
namespace Rows

/-- THE TIED CARD OF 'rflaw8.TidySame'. -/
def tidySameCard : Claim7 := { stood := { row := tidySameRow, standIns := [], harness := (true, "7831fc3bfbd37295dd99413b09ab1e3dc157dcbb62e014e4cd8005859d3c4808"), looks := true }, kinds := [], alts := [], laidByText := true, laidKinds := [.data, .data, .data, .sentinel, .sentinel], laidTests := true, laidLooks := .later }
def TidySameCardSaid : Prop := Claim7.holds Tryd.pinned (.plain (OpenSpec.ofChange tidySameSpec)) tidySameCard

/-- THE TIED CARD OF 'rflaw8.TidyAll'. -/
def tidyAllCard : Claim7 := { stood := { row := tidyAllRow, standIns := [], harness := (true, "7831fc3bfbd37295dd99413b09ab1e3dc157dcbb62e014e4cd8005859d3c4808"), looks := true }, kinds := [], alts := [], laidByText := true, laidKinds := [.data, .data, .data, .sentinel, .sentinel], laidTests := true, laidLooks := .later }
def TidyAllCardSaid : Prop := Claim7.holds Tryd.pinned (.plain (OpenSpec.ofChange tidyAllSpec)) tidyAllCard

/-- THE SECOND FORM's CARD OF 'rflaw8.TidySame'. -/
def tidySameUptoCard : Claim7 := { stood := { row := tidySameUptoRow, standIns := [], harness := (true, "7831fc3bfbd37295dd99413b09ab1e3dc157dcbb62e014e4cd8005859d3c4808"), looks := true }, kinds := [], alts := [], laidByText := true, laidKinds := [.data, .data, .data, .sentinel, .sentinel], laidTests := true, laidLooks := .later }
def TidySameUptoCardSaid : Prop := Claim7.holds Tryd.pinned (.plain (OpenSpec.upto tidySameSpec)) tidySameUptoCard

/-- THE SECOND FORM's CARD OF 'rflaw8.TidyAll'. -/
def tidyAllUptoCard : Claim7 := { stood := { row := tidyAllUptoRow, standIns := [], harness := (true, "7831fc3bfbd37295dd99413b09ab1e3dc157dcbb62e014e4cd8005859d3c4808"), looks := true }, kinds := [], alts := [], laidByText := true, laidKinds := [.data, .data, .data, .sentinel, .sentinel], laidTests := true, laidLooks := .later }
def TidyAllUptoCardSaid : Prop := Claim7.holds Tryd.pinned (.plain (OpenSpec.upto tidyAllSpec)) tidyAllUptoCard
end Rows
end Go.Proofs.YtembfadhnkabhaaDoor
