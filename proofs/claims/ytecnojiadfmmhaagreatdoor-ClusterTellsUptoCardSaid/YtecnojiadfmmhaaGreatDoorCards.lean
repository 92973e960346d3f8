/-
  DERIVED. GIVEN WITH THE SEED: THE CARDS: each row of YtecnojiadfmmhaaGreatDoorRows.lean that lists a variable, with what it lists TIED to the program's text (the seventh form; the later family's looks); each row that meets fmt, with fmt's text TOLD by the authors' own Lean function (tested against real Go, not proved from fmt's source: count such statements apart). THE CARD IS WHAT COUNTS. Prove the row's statement (the work); the ties are given (YtecnojiadfmmhaaGreatDoorTie.lean); close each card by the builder's one call (the guide's Derived/Test/ToyasCard.lean, 'card_holds'). Laid BY PROGRAM, IN A SANDBOX (cutbox-door.mjs). By AI agents, Wed Nov 11 2026. No macro, syntax, notation, axiom, sorry.
-/
import Derived.Test.YtecnojiadfmmhaaGreatDoorRows
import GoSem.ClaimSeven
namespace Go.Proofs.YtecnojiadfmmhaaGreatDoor
namespace Rows

/-- THE TIED CARD OF 'rflaw11.ClusterTells'. -/
def clusterTellsCard : Claim7 := { stood := { row := clusterTellsRow, standIns := [], harness := (true, "a770161774885fe1bb33eed9476e01caaa36c2123930b466905cec1a66864d30"), looks := true }, kinds := [], alts := [], laidByText := true, laidKinds := [.data, .data, .data, .data, .sentinel, .sentinel, .pinned], laidTests := true, laidLooks := .later }
def ClusterTellsCardSaid : Prop := Claim7.holds Tryz.pinned (.plain (OpenSpec.ofChange clusterTellsSpec)) clusterTellsCard

/-- THE TIED CARD OF 'rflaw11.ClusterLog'. -/
def clusterLogCard : Claim7 := { stood := { row := clusterLogRow, standIns := [], harness := (true, "a770161774885fe1bb33eed9476e01caaa36c2123930b466905cec1a66864d30"), looks := true }, kinds := [], alts := [], laidByText := true, laidKinds := [.data, .data, .data, .data, .sentinel, .sentinel, .pinned], laidTests := true, laidLooks := .later }
def ClusterLogCardSaid : Prop := Claim7.holds Tryz.pinned (.plain (OpenSpec.ofChange clusterLogSpec)) clusterLogCard

/-- THE TIED CARD OF 'rflaw11.ClusterSees'. -/
def clusterSeesCard : Claim7 := { stood := { row := clusterSeesRow, standIns := [], harness := (true, "a770161774885fe1bb33eed9476e01caaa36c2123930b466905cec1a66864d30"), looks := true }, kinds := [], alts := [], laidByText := true, laidKinds := [.data, .data, .data, .data, .sentinel, .sentinel, .pinned], laidTests := true, laidLooks := .later }
def ClusterSeesCardSaid : Prop := Claim7.holds Tryz.pinned (.plain (OpenSpec.ofChange clusterSeesSpec)) clusterSeesCard

/-- THE SECOND FORM's CARD OF 'rflaw11.ClusterTells'. -/
def clusterTellsUptoCard : Claim7 := { stood := { row := clusterTellsUptoRow, standIns := [], harness := (true, "a770161774885fe1bb33eed9476e01caaa36c2123930b466905cec1a66864d30"), looks := true }, kinds := [], alts := [], laidByText := true, laidKinds := [.data, .data, .data, .data, .sentinel, .sentinel, .pinned], laidTests := true, laidLooks := .later }
def ClusterTellsUptoCardSaid : Prop := Claim7.holds Tryz.pinned (.plain (OpenSpec.upto clusterTellsSpec)) clusterTellsUptoCard

/-- THE SECOND FORM's CARD OF 'rflaw11.ClusterLog'. -/
def clusterLogUptoCard : Claim7 := { stood := { row := clusterLogUptoRow, standIns := [], harness := (true, "a770161774885fe1bb33eed9476e01caaa36c2123930b466905cec1a66864d30"), looks := true }, kinds := [], alts := [], laidByText := true, laidKinds := [.data, .data, .data, .data, .sentinel, .sentinel, .pinned], laidTests := true, laidLooks := .later }
def ClusterLogUptoCardSaid : Prop := Claim7.holds Tryz.pinned (.plain (OpenSpec.upto clusterLogSpec)) clusterLogUptoCard

/-- THE SECOND FORM's CARD OF 'rflaw11.ClusterSees'. -/
def clusterSeesUptoCard : Claim7 := { stood := { row := clusterSeesUptoRow, standIns := [], harness := (true, "a770161774885fe1bb33eed9476e01caaa36c2123930b466905cec1a66864d30"), looks := true }, kinds := [], alts := [], laidByText := true, laidKinds := [.data, .data, .data, .data, .sentinel, .sentinel, .pinned], laidTests := true, laidLooks := .later }
def ClusterSeesUptoCardSaid : Prop := Claim7.holds Tryz.pinned (.plain (OpenSpec.upto clusterSeesSpec)) clusterSeesUptoCard
end Rows
end Go.Proofs.YtecnojiadfmmhaaGreatDoor
