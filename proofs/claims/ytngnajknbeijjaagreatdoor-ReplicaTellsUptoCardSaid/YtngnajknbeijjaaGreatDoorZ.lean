/-
  'rflaw10.ReplicaTells' answers true, whatever it is called with, where what came in is of bulk at most 1048576; no other conditions.
-/
import Derived.Test.YtngnajknbeijjaaGreatDoorK5
import Derived.Test.YtngnajknbeijjaaGreatDoorCards
import Derived.Test.YtngnajknbeijjaaGreatDoorTie
import Derived.Deep.DeepHandedRow
import Derived.Lib.LaidTab
namespace Go.Proofs.YtngnajknbeijjaaGreatDoor.replicaTells
open Go.AX Go.RF Go.RowKit Go.ChangeShapes Go.WideShapes

theorem own : ownKnob Tryz.prog.godebug = none := by kernel_rfl

theorem law (xs : List D) (m : Nat) (hm : m ≤ 1048576) (h : FitsPs [.one (.sl shEntry), .one (.sl [i64s]), .st shEntry, .one i64s] m xs) : FnOk Tryz.prog 4 (xs.map Arg.d) (.one (dbool true)) := by
  obtain ⟨d0, r0, rfl, h0, h⟩ := fits_one h
  obtain ⟨d1, r1, rfl, h1, h⟩ := fits_one h
  obtain ⟨d2, r2, rfl, h2, h⟩ := fits_st h
  obtain ⟨d3, r3, rfl, h3, h⟩ := fits_one h
  obtain rfl := fits_nil h
  obtain ⟨x0, rfl, g0a, g0b⟩ := dec_entries h0
  obtain ⟨x1, rfl, g1a, g1b⟩ := dec_ints h1
  obtain ⟨x2, rfl, g2a⟩ := dec_entry _ _ h2
  obtain ⟨x3, rfl, g3a⟩ := dec_int h3
  exact ok_ReplicaTells x0 x1 x2 x3 (by omega) (fun e he => (g0b e he).sm hm) (by omega) (g2a.sm hm)

/-- A world for the witness: the settled one, the listed variables holding what their text lays. -/
noncomputable def gA : Nat := (Tryz.prog.globals.findIdx? (·.name == "unicode/utf8.acceptRanges")).getD 0
def cellsA : List Value := (([128, 191, 160, 191, 128, 159, 144, 191, 128, 143] ++ List.replicate 22 0 : List Int)).map fun n => .int .u8 n
noncomputable def gF : Nat := (Tryz.prog.globals.findIdx? (·.name == "unicode/utf8.first")).getD 0
def cellsF : List Value := ((List.replicate 128 240 ++ List.replicate 66 241 ++ List.replicate 30 2 ++ [19] ++ List.replicate 12 3 ++ [35] ++ List.replicate 2 3 ++ [52] ++ List.replicate 3 4 ++ [68] ++ List.replicate 11 241 : List Int)).map fun n => .int .u8 n
def lay (cs : List Value) : Obj → Obj
  | .cells _ t frozen => .cells cs.toArray t frozen
  | o => o
noncomputable def base (os : Os) : World := World.holding Tryz.prog os ⟨#[], #[], []⟩
noncomputable def laidWorld (os : Os) : World :=
  { base os with heap := (((base os).heap.modify gA (lay cellsA)).modify gF (lay cellsF)) }
theorem gl (W : World) (hl : laidMetH Tryz.prog Rows.replicaTellsUptoRow.laid W) (hs : W.ShapedOpen Tryz.prog) : Gl Tryz.prog W := by
  have h : laidMet Tryz.prog Rows.replicaTellsUptoRow.laid W := by
    have e : (Rows.replicaTellsUptoRow.laid.filter fun x => x.2.handleName?.isSome) = [] := by kernel_rfl
    unfold laidMetH at hl
    rw [e] at hl
    exact hl
  exact ⟨gl_none (by kernel_rfl), gl_none (by kernel_rfl), gl_none (by kernel_rfl), (let ⟨_, hm⟩ := Go.Proofs.cell_of_shapedOpen_int (zero := #[.int .i64 0]) (t := 3) hs (of_decide_eq_true (by kernel_rfl)) (by kernel_rfl) rfl (by kernel_rfl) (by kernel_rfl) Tryz.underlying3; gl_int (g := (Tryz.prog.globals.findIdx? (·.name == "internal/bytealg.MaxLen")).getD 0) (by kernel_rfl) hm)⟩
set_option maxRecDepth 100000 in
theorem laid_met (os : Os) : laidMet Tryz.prog Rows.replicaTellsUptoRow.laid ((laidWorld os).forCall (fun _ _ => 0) ⟨#[], #[.slice none 0 0, .slice none 0 0, .agg #[.int .i64 0, .slice none 0 0], .int .i64 0], []⟩).memory :=
  laidMet_of_run' 8 (by kernel_rfl) (by kernel_rfl)
theorem reads (os : Os) {H : Type} (enc : TypeId × Value → H) : ∃ places, DataW.whole enc Tryz.prog ((laidWorld os).forCall (fun _ _ => 0) ⟨#[], #[.slice none 0 0, .slice none 0 0, .agg #[.int .i64 0, .slice none 0 0], .int .i64 0], []⟩).memory Tryz.f4.params.toList Rows.replicaTellsSpec.vars false #[.slice none 0 0, .slice none 0 0, .agg #[.int .i64 0, .slice none 0 0], .int .i64 0].toList 8 = some ([.nil, .nil, .agg [.lit (.int .i64 0), .nil], .lit (.int .i64 0)], [], places) :=
  ⟨[], by kernel_rfl⟩

set_option maxRecDepth 100000 in
theorem lifted (os : Os) (started : os.Started) (H : Type) (enc : TypeId × Value → H) (F : Stop.Interp) :
    ReturnsInHanded {} Tryz.checked os 4 .any ((Rows.OpenSpec.upto Rows.replicaTellsSpec).preRow enc Tryz.prog Tryz.f4 Rows.replicaTellsUptoRow.domain false Rows.replicaTellsUptoRow.laid) (((Rows.OpenSpec.upto Rows.replicaTellsSpec).at F).post enc Tryz.prog Tryz.f4 false true false false) := by
  obtain ⟨places, hx⟩ := reads os enc
  refine returnsInHanded_of_row (C := Tryz.checked) (s := Rows.OpenSpec.upto Rows.replicaTellsSpec) own started (by kernel_rfl) Tryz.func4
    (witness_row_at (enc := enc) (C := Tryz.checked) false (laidWorld os) #[.slice none 0 0, .slice none 0 0, .agg #[.int .i64 0, .slice none 0 0], .int .i64 0] rfl (by kernel_rfl) (by kernel_rfl) (by kernel_rfl)
      (OpenSpec.preRow_of_cond 8 hx (by kernel_rfl) (fun k hk => by cases hk; kernel_rfl) (by kernel_rfl) (laid_met os))) ?_
  intro W base args ds gs before hval hW _ hcond _ hlaid hshp _
  refine law_contract (parB_ok (by kernel_rfl)) (by kernel_rfl) (by kernel_rfl) rfl (by kernel_rfl) Tryz.underlying4 (fun es hl => ?_) law W base args ds gs before hval hW (hcond _ rfl) (gl W hlaid hshp)
  rw [Tryz.params4] at hl
  match es, hl with
  | [_, _, _, _], _ => rfl

theorem said : Rows.ReplicaTellsUptoSaid :=
  OpenClaim.holds_of_cond 4 Tryz.f4 rfl rfl rfl rfl rfl rfl rfl ⟨rfl, rfl, rfl, rfl, rfl⟩ rfl rfl rfl rfl rfl (by kernel_rfl) Tryz.func4 (by kernel_rfl)
    (of_decide_eq_true (by kernel_rfl)) (by unfold Func.isWrapper; first | (rw [if_pos (by decide +kernel)]; kernel_rfl) | (rw [if_neg (by decide +kernel)]; exact ⟨rfl, rfl⟩))
    (fun os started H enc _ F => by rw [OpenClaim.pre_eq_preRow]; exact lifted os started H enc F)
theorem plain (f : FuncId) (fn : Func) (hf : Tryz.pinned.checked.prog.funcNamed "rankandfile/rflaw10.ReplicaTells" = some f) (hfn : Tryz.pinned.checked.prog.funcs[f]? = some fn) :
    false = Tryz.pinned.checked.prog.looks [] ∧ ∀ (j : Nat) t, fn.params[j]? = some t → Tryz.pinned.checked.prog.wantsStandIn t = false := by
  obtain rfl : f = 4 := Option.some.inj ((show Tryz.prog.funcNamed "rankandfile/rflaw10.ReplicaTells" = some 4 by kernel_rfl).symm.trans hf) |>.symm
  obtain rfl : fn = Tryz.f4 := (Option.some.inj (Tryz.func4.symm.trans hfn)).symm
  refine ⟨by kernel_rfl, fun j t ht => ?_⟩
  have h : (Tryz.f4.params.toList.all fun t => !Tryz.prog.wantsStandIn t) = true := by kernel_rfl
  have := List.all_eq_true.1 h t (Array.mem_toList_iff.2 (Array.mem_of_getElem? ht))
  exact (show Tryz.prog.wantsStandIn t = false by simpa using this)
theorem proved : Rows.ReplicaTellsUptoCardSaid :=
  Claim7.holds_tied_plain_at .later [] _ _ _ _ said (fun _ h => by cases h) (by kernel_rfl) (fun _ h => by cases h) replicaTellsUpto_row_tie rfl ⟨rfl, rfl⟩ (by kernel_rfl) rfl plain (by kernel_rfl)
end Go.Proofs.YtngnajknbeijjaaGreatDoor.replicaTells
