/-
  DERIVED. GIVEN WITH THE SEED: THE CARDS: each row of YtembfadhnkabhaaGreatDoorRows.lean that lists a variable, with what it lists TIED to the program's text (the seventh form; the later family's looks); each row that meets fmt, with fmt's text TOLD by the authors' own Lean function (tested against real Go, not proved from fmt's source: count such statements apart). THE CARD IS WHAT COUNTS. Prove the row's statement (the work); the ties are given (YtembfadhnkabhaaGreatDoorTie.lean); close each card by the builder's one call (the guide's Derived/Test/ToyasCard.lean, 'card_holds'). Laid BY PROGRAM, IN A SANDBOX (cutbox-door.mjs). By AI agents, Wed Nov 11 2026. No macro, syntax, notation, axiom, sorry.
-/
import Derived.Test.YtembfadhnkabhaaGreatDoorRows
import GoSem.ClaimSeven
namespace Go.Proofs.YtembfadhnkabhaaGreatDoor
namespace Rows

/-- THE TIED CARD OF 'rflaw7.RunSame'. -/
def runSameCard : Claim7 := { stood := { row := runSameRow, standIns := [], harness := (true, "fd84efe8fd706afacef784c10cf32f0d4135d541b25b67aa5c31e731ec97ff93"), looks := true }, kinds := [], alts := [], laidByText := true, laidKinds := [.data, .data, .data, .sentinel, .sentinel], laidTests := true, laidLooks := .later }
def RunSameCardSaid : Prop := Claim7.holds Tryz.pinned (.plain (OpenSpec.ofChange runSameSpec)) runSameCard

/-- THE TIED CARD OF 'rflaw7.RunEach'. -/
def runEachCard : Claim7 := { stood := { row := runEachRow, standIns := [], harness := (true, "fd84efe8fd706afacef784c10cf32f0d4135d541b25b67aa5c31e731ec97ff93"), looks := true }, kinds := [], alts := [], laidByText := true, laidKinds := [.data, .data, .data, .sentinel, .sentinel], laidTests := true, laidLooks := .later }
def RunEachCardSaid : Prop := Claim7.holds Tryz.pinned (.plain (OpenSpec.ofChange runEachSpec)) runEachCard

/-- THE TIED CARD OF 'rflaw7.RunMore'. -/
def runMoreCard : Claim7 := { stood := { row := runMoreRow, standIns := [], harness := (true, "fd84efe8fd706afacef784c10cf32f0d4135d541b25b67aa5c31e731ec97ff93"), looks := true }, kinds := [], alts := [], laidByText := true, laidKinds := [.data, .data, .data, .sentinel, .sentinel], laidTests := true, laidLooks := .later }
def RunMoreCardSaid : Prop := Claim7.holds Tryz.pinned (.plain (OpenSpec.ofChange runMoreSpec)) runMoreCard

/-- THE TIED CARD OF 'rflaw6.PlanAhead'. -/
def planAheadCard : Claim7 := { stood := { row := planAheadRow, standIns := [], harness := (true, "fd84efe8fd706afacef784c10cf32f0d4135d541b25b67aa5c31e731ec97ff93"), looks := true }, kinds := [], alts := [], laidByText := true, laidKinds := [.data, .data, .data, .data, .sentinel, .sentinel, .pinned], laidTests := true, laidLooks := .later }
def PlanAheadCardSaid : Prop := Claim7.holds Tryz.pinned (.plain (OpenSpec.ofChange planAheadSpec)) planAheadCard

/-- THE TIED CARD OF 'rflaw6.PlanBack'. -/
def planBackCard : Claim7 := { stood := { row := planBackRow, standIns := [], harness := (true, "fd84efe8fd706afacef784c10cf32f0d4135d541b25b67aa5c31e731ec97ff93"), looks := true }, kinds := [], alts := [], laidByText := true, laidKinds := [.data, .data, .data, .data, .sentinel, .sentinel, .pinned], laidTests := true, laidLooks := .later }
def PlanBackCardSaid : Prop := Claim7.holds Tryz.pinned (.plain (OpenSpec.ofChange planBackSpec)) planBackCard

/-- THE SECOND FORM's CARD OF 'rflaw7.RunSame'. -/
def runSameUptoCard : Claim7 := { stood := { row := runSameUptoRow, standIns := [], harness := (true, "fd84efe8fd706afacef784c10cf32f0d4135d541b25b67aa5c31e731ec97ff93"), looks := true }, kinds := [], alts := [], laidByText := true, laidKinds := [.data, .data, .data, .sentinel, .sentinel], laidTests := true, laidLooks := .later }
def RunSameUptoCardSaid : Prop := Claim7.holds Tryz.pinned (.plain (OpenSpec.upto runSameSpec)) runSameUptoCard

/-- THE SECOND FORM's CARD OF 'rflaw7.RunEach'. -/
def runEachUptoCard : Claim7 := { stood := { row := runEachUptoRow, standIns := [], harness := (true, "fd84efe8fd706afacef784c10cf32f0d4135d541b25b67aa5c31e731ec97ff93"), looks := true }, kinds := [], alts := [], laidByText := true, laidKinds := [.data, .data, .data, .sentinel, .sentinel], laidTests := true, laidLooks := .later }
def RunEachUptoCardSaid : Prop := Claim7.holds Tryz.pinned (.plain (OpenSpec.upto runEachSpec)) runEachUptoCard

/-- THE SECOND FORM's CARD OF 'rflaw7.RunMore'. -/
def runMoreUptoCard : Claim7 := { stood := { row := runMoreUptoRow, standIns := [], harness := (true, "fd84efe8fd706afacef784c10cf32f0d4135d541b25b67aa5c31e731ec97ff93"), looks := true }, kinds := [], alts := [], laidByText := true, laidKinds := [.data, .data, .data, .sentinel, .sentinel], laidTests := true, laidLooks := .later }
def RunMoreUptoCardSaid : Prop := Claim7.holds Tryz.pinned (.plain (OpenSpec.upto runMoreSpec)) runMoreUptoCard

/-- THE SECOND FORM's CARD OF 'rflaw6.PlanAhead'. -/
def planAheadUptoCard : Claim7 := { stood := { row := planAheadUptoRow, standIns := [], harness := (true, "fd84efe8fd706afacef784c10cf32f0d4135d541b25b67aa5c31e731ec97ff93"), looks := true }, kinds := [], alts := [], laidByText := true, laidKinds := [.data, .data, .data, .data, .sentinel, .sentinel, .pinned], laidTests := true, laidLooks := .later }
def PlanAheadUptoCardSaid : Prop := Claim7.holds Tryz.pinned (.plain (OpenSpec.upto planAheadSpec)) planAheadUptoCard

/-- THE SECOND FORM's CARD OF 'rflaw6.PlanBack'. -/
def planBackUptoCard : Claim7 := { stood := { row := planBackUptoRow, standIns := [], harness := (true, "fd84efe8fd706afacef784c10cf32f0d4135d541b25b67aa5c31e731ec97ff93"), looks := true }, kinds := [], alts := [], laidByText := true, laidKinds := [.data, .data, .data, .data, .sentinel, .sentinel, .pinned], laidTests := true, laidLooks := .later }
def PlanBackUptoCardSaid : Prop := Claim7.holds Tryz.pinned (.plain (OpenSpec.upto planBackSpec)) planBackUptoCard
end Rows
end Go.Proofs.YtembfadhnkabhaaGreatDoor
