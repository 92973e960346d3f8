/-
  No cell of these rows narrows 'for every input' (looked for: loops, veiled, ifaces, maps, wideKeys, modest, calm, conditions, laid).
  DERIVED. THE GIVEN ROWS OF THIS SEAT. 4 by the template 'for every input the law returns true; each argument reads behind the call as it read before'; 0 by the template 'total and deterministic' (their statements: YtfpkamiobdkcpaaTotals.lean).
  GIVEN WITH THE SEED: the statements are not yours to turn. If you find one false, say at which input.
  Laid BY PROGRAM, IN A SANDBOX (cutbox-rows.mjs): the forced cells as the released guide's own fill.sh prints them over the translation 4d2cc8a058766d57… (all of the seat's roots in one cut). By AI agents, Wed Nov 11 2026. No macro, syntax, notation, axiom, sorry.
-/
import Derived.Test.YtfpkamiobdkcpaaChecked
import GoSem.Claim
import GoSem.ClaimJoined
import GoSem.ClaimMapViews
import Derived.JoinedTies
import Derived.KernelRfl
namespace Go.Proofs.Ytfpkamiobdkcpaa
/- THE CELL 'sum', in the pinned program and in every row, IS THE sha256 OF THE DUMP (.gsa) THAT YtfpkamiobdkcpaaProg.lean LOADS. Nothing in Lean hashes anything: it is a label: what it is worth is what the hold of that sum in a sandbox is worth. -/
noncomputable def Try.pinned : Pinned := { name := "ytfpkamiobdkcpaa", sum := "4d2cc8a058766d5740ae222d83244213b5fb6b1631c1dc086c6261c3e593e003", checked := Try.checked }
namespace Rows
def none {H : Type} : Left H := { results := [], args := [] }

/-- 'rflaw5.ChainTells': WHATEVER THE INPUT: true; the input reads as it did. -/
def chainTellsSpec : ChangeSpec := { name := "chainTells", fn := fun _ => fun
  | [d1, d2, d3, d4, d5] => { results := [.lit (.bool true)], args := [d1, d2, d3, d4, d5] }
  | _ => none }
def chainTellsRow : OpenClaim := { program := "ytfpkamiobdkcpaa", sum := "4d2cc8a058766d5740ae222d83244213b5fb6b1631c1dc086c6261c3e593e003", func := "rankandfile/rflaw5.ChainTells", spec := "chainTells", inPlace := ["internal/bytealg.abigen_runtime_cmpstring", "slices.overlaps[rankandfile/api.Chain]"], unfollowed := true, recurses := true, apart := false }
def ChainTellsSaid : Prop := chainTellsRow.holds Try.pinned (OpenSpec.ofChange chainTellsSpec)

/-- ITS FALSE NEIGHBOUR: 'it returns false'. Refute it at one input. -/
def chainTellsWrong : ChangeSpec := { name := "chainTells", fn := fun _ => fun
  | [d1, d2, d3, d4, d5] => { results := [.lit (.bool false)], args := [d1, d2, d3, d4, d5] }
  | _ => none }
def ChainTellsWrongFalsely : Prop := chainTellsRow.holds Try.pinned (OpenSpec.ofChange chainTellsWrong)

/-- 'rflaw5.ChainAhead': WHATEVER THE INPUT: true; the input reads as it did. -/
def chainAheadSpec : ChangeSpec := { name := "chainAhead", fn := fun _ => fun
  | [d1, d2, d3, d4, d5, d6] => { results := [.lit (.bool true)], args := [d1, d2, d3, d4, d5, d6] }
  | _ => none }
def chainAheadRow : OpenClaim := { program := "ytfpkamiobdkcpaa", sum := "4d2cc8a058766d5740ae222d83244213b5fb6b1631c1dc086c6261c3e593e003", func := "rankandfile/rflaw5.ChainAhead", spec := "chainAhead", inPlace := ["internal/bytealg.abigen_runtime_cmpstring", "slices.overlaps[rankandfile/api.Chain]"], unfollowed := true, recurses := true, apart := false }
def ChainAheadSaid : Prop := chainAheadRow.holds Try.pinned (OpenSpec.ofChange chainAheadSpec)

/-- ITS FALSE NEIGHBOUR: 'it returns false'. Refute it at one input. -/
def chainAheadWrong : ChangeSpec := { name := "chainAhead", fn := fun _ => fun
  | [d1, d2, d3, d4, d5, d6] => { results := [.lit (.bool false)], args := [d1, d2, d3, d4, d5, d6] }
  | _ => none }
def ChainAheadWrongFalsely : Prop := chainAheadRow.holds Try.pinned (OpenSpec.ofChange chainAheadWrong)

/-- 'rflaw5.ChainClear': WHATEVER THE INPUT: true; the input reads as it did. -/
def chainClearSpec : ChangeSpec := { name := "chainClear", fn := fun _ => fun
  | [d1, d2, d3, d4] => { results := [.lit (.bool true)], args := [d1, d2, d3, d4] }
  | _ => none }
def chainClearRow : OpenClaim := { program := "ytfpkamiobdkcpaa", sum := "4d2cc8a058766d5740ae222d83244213b5fb6b1631c1dc086c6261c3e593e003", func := "rankandfile/rflaw5.ChainClear", spec := "chainClear", inPlace := ["internal/bytealg.abigen_runtime_cmpstring", "slices.overlaps[rankandfile/api.Chain]"], unfollowed := true, recurses := true, apart := false }
def ChainClearSaid : Prop := chainClearRow.holds Try.pinned (OpenSpec.ofChange chainClearSpec)

/-- ITS FALSE NEIGHBOUR: 'it returns false'. Refute it at one input. -/
def chainClearWrong : ChangeSpec := { name := "chainClear", fn := fun _ => fun
  | [d1, d2, d3, d4] => { results := [.lit (.bool false)], args := [d1, d2, d3, d4] }
  | _ => none }
def ChainClearWrongFalsely : Prop := chainClearRow.holds Try.pinned (OpenSpec.ofChange chainClearWrong)

/-- 'rflaw4.PlainTells': WHATEVER THE INPUT: true; the input reads as it did. -/
def plainTellsSpec : ChangeSpec := { name := "plainTells", fn := fun _ => fun
  | [d1, d2] => { results := [.lit (.bool true)], args := [d1, d2] }
  | _ => none }
def plainTellsRow : OpenClaim := { program := "ytfpkamiobdkcpaa", sum := "4d2cc8a058766d5740ae222d83244213b5fb6b1631c1dc086c6261c3e593e003", func := "rankandfile/rflaw4.PlainTells", spec := "plainTells", inPlace := ["internal/bytealg.abigen_runtime_cmpstring", "slices.overlaps[rankandfile/api.Pair]"], unfollowed := true, recurses := true, apart := false }
def PlainTellsSaid : Prop := plainTellsRow.holds Try.pinned (OpenSpec.ofChange plainTellsSpec)

/-- ITS FALSE NEIGHBOUR: 'it returns false'. Refute it at one input. -/
def plainTellsWrong : ChangeSpec := { name := "plainTells", fn := fun _ => fun
  | [d1, d2] => { results := [.lit (.bool false)], args := [d1, d2] }
  | _ => none }
def PlainTellsWrongFalsely : Prop := plainTellsRow.holds Try.pinned (OpenSpec.ofChange plainTellsWrong)

/- THE SECOND FORM. 'bulk': how many values and letters a reading holds, each counted each time it is reached (what is shared counts as often as it is met; a slice's spare places count too). A statement '..UptoSaid' is the law's where the arguments, and the package variables that the reading takes, are together of bulk at most 1048576: NARROWER than '..Said'. Prove '..Said' where nothing that the law and all that it calls make is longer than what came in: it says more and counts as full. Else prove '..UptoSaid'. A law counts once. -/
mutual
def uptoBulk {H : Type} : DataW H → Nat
  | .lit (.string bytes) => bytes.length + 1
  | .lit _ => 1
  | .nil => 1
  | .ptr d => uptoBulk d + 1
  | .slice elems spare => uptoBulkAll elems + uptoBulkAll spare + 1
  | .agg parts => uptoBulkAll parts + 1
  | .iface _ d => uptoBulk d + 1
  | .map entries => uptoBulkEntries entries + 1
  | .held _ => 1
def uptoBulkAll {H : Type} : List (DataW H) → Nat
  | [] => 0
  | d :: r => uptoBulk d + uptoBulkAll r
def uptoBulkEntries {H : Type} : List (Lit × DataW H) → Nat
  | [] => 0
  | x :: r => uptoBulkEntry x + uptoBulkEntries r
def uptoBulkEntry {H : Type} : Lit × DataW H → Nat
  | (.string bytes, d) => bytes.length + uptoBulk d + 1
  | (_, d) => uptoBulk d + 1
 end
def uptoSmall : (H : Type) → List (DataW H) → Bool := fun _ ds => decide (uptoBulkAll ds ≤ 1048576)
def OpenSpec.upto (s : _root_.Go.ChangeSpec) : _root_.Go.OpenSpec := { _root_.Go.OpenSpec.ofChange s with cond := some uptoSmall }

/-- 'rflaw5.ChainTells', WHERE WHAT IT READS IS OF BULK AT MOST 1048576: true; the input reads as it did. -/
def chainTellsUptoRow : OpenClaim := { program := "ytfpkamiobdkcpaa", sum := "4d2cc8a058766d5740ae222d83244213b5fb6b1631c1dc086c6261c3e593e003", func := "rankandfile/rflaw5.ChainTells", spec := "chainTells", inPlace := ["internal/bytealg.abigen_runtime_cmpstring", "slices.overlaps[rankandfile/api.Chain]"], unfollowed := true, recurses := true, apart := false, narrowed := true }
def ChainTellsUptoSaid : Prop := chainTellsUptoRow.holds Try.pinned (OpenSpec.upto chainTellsSpec)

/-- 'rflaw5.ChainAhead', WHERE WHAT IT READS IS OF BULK AT MOST 1048576: true; the input reads as it did. -/
def chainAheadUptoRow : OpenClaim := { program := "ytfpkamiobdkcpaa", sum := "4d2cc8a058766d5740ae222d83244213b5fb6b1631c1dc086c6261c3e593e003", func := "rankandfile/rflaw5.ChainAhead", spec := "chainAhead", inPlace := ["internal/bytealg.abigen_runtime_cmpstring", "slices.overlaps[rankandfile/api.Chain]"], unfollowed := true, recurses := true, apart := false, narrowed := true }
def ChainAheadUptoSaid : Prop := chainAheadUptoRow.holds Try.pinned (OpenSpec.upto chainAheadSpec)

/-- 'rflaw5.ChainClear', WHERE WHAT IT READS IS OF BULK AT MOST 1048576: true; the input reads as it did. -/
def chainClearUptoRow : OpenClaim := { program := "ytfpkamiobdkcpaa", sum := "4d2cc8a058766d5740ae222d83244213b5fb6b1631c1dc086c6261c3e593e003", func := "rankandfile/rflaw5.ChainClear", spec := "chainClear", inPlace := ["internal/bytealg.abigen_runtime_cmpstring", "slices.overlaps[rankandfile/api.Chain]"], unfollowed := true, recurses := true, apart := false, narrowed := true }
def ChainClearUptoSaid : Prop := chainClearUptoRow.holds Try.pinned (OpenSpec.upto chainClearSpec)

/-- 'rflaw4.PlainTells', WHERE WHAT IT READS IS OF BULK AT MOST 1048576: true; the input reads as it did. -/
def plainTellsUptoRow : OpenClaim := { program := "ytfpkamiobdkcpaa", sum := "4d2cc8a058766d5740ae222d83244213b5fb6b1631c1dc086c6261c3e593e003", func := "rankandfile/rflaw4.PlainTells", spec := "plainTells", inPlace := ["internal/bytealg.abigen_runtime_cmpstring", "slices.overlaps[rankandfile/api.Pair]"], unfollowed := true, recurses := true, apart := false, narrowed := true }
def PlainTellsUptoSaid : Prop := plainTellsUptoRow.holds Try.pinned (OpenSpec.upto plainTellsSpec)

end Rows
end Go.Proofs.Ytfpkamiobdkcpaa
