/-
  'rflaw2.DeedNamed' answers true, whatever it is called with, where what came in is of bulk at most 1048576; no other conditions.
-/
import Derived.Test.YtjgbmdonhabmiaaDoorK3
import Derived.Test.YtjgbmdonhabmiaaDoorCards
import Derived.Test.YtjgbmdonhabmiaaDoorTie
import Derived.Deep.DeepHandedRow
import Derived.Lib.LaidTab
namespace Go.Proofs.YtjgbmdonhabmiaaDoor.deedNamed
open Go.AX Go.RF Go.RowKit Go.ChangeShapes Go.WideShapes

theorem own : ownKnob Tryd.prog.godebug = none := by kernel_rfl

theorem law (xs : List D) (m : Nat) (hm : m ≤ 1048576) (h : FitsPs [.st shDeed, .one (.sl shPair), .one .str, .one i64s] m xs) : FnOk Tryd.prog 4 (xs.map Arg.d) (.one (dbool true)) := by
  obtain ⟨d0, r0, rfl, h0, h⟩ := fits_st h
  obtain ⟨d1, r1, rfl, h1, h⟩ := fits_one h
  obtain ⟨d2, r2, rfl, h2, h⟩ := fits_one h
  obtain ⟨d3, r3, rfl, h3, h⟩ := fits_one h
  obtain rfl := fits_nil h
  obtain ⟨x0, rfl, g0a⟩ := dec_deed _ _ h0
  obtain ⟨x1, rfl, g1a, g1b⟩ := dec_rows h1
  obtain ⟨x2, rfl, g2a⟩ := dec_str h2
  obtain ⟨x3, rfl, g3a⟩ := dec_int h3
  exact ok_DeedNamed x0 x1 x2 x3 (g0a.sm hm) (by omega) (fun q hq => by have := (g1b q hq).1; omega)

/-- A world for the witness: the settled one, the listed variables holding what their text lays. -/
def cellsA : List Value := (([128, 191, 160, 191, 128, 159, 144, 191, 128, 143] ++ List.replicate 22 0 : List Int)).map fun n => .int .u8 n
def cellsF : List Value := ((List.replicate 128 240 ++ List.replicate 66 241 ++ List.replicate 30 2 ++ [19] ++ List.replicate 12 3 ++ [35] ++ List.replicate 2 3 ++ [52] ++ List.replicate 3 4 ++ [68] ++ List.replicate 11 241 : List Int)).map fun n => .int .u8 n
noncomputable def gA : Nat := (Tryd.prog.globals.findIdx? (·.name == "unicode/utf8.acceptRanges")).getD 0
noncomputable def gF : Nat := (Tryd.prog.globals.findIdx? (·.name == "unicode/utf8.first")).getD 0
def lay (cs : List Value) : Obj → Obj
  | .cells _ t frozen => .cells cs.toArray t frozen
  | o => o
noncomputable def laidWorld (os : Os) : World :=
  { World.holding Tryd.prog os ⟨#[], #[], []⟩ with heap := ((World.holding Tryd.prog os ⟨#[], #[], []⟩).heap.modify gA (lay cellsA)).modify gF (lay cellsF) }
set_option maxRecDepth 100000 in
theorem laid_met (os : Os) : laidMet Tryd.prog Rows.deedNamedUptoRow.laid ((laidWorld os).forCall (fun _ _ => 0) ⟨#[], #[.agg #[.slice none 0 0, .slice none 0 0, .slice none 0 0], .slice none 0 0, .string .empty, .int .i64 0], []⟩).memory :=
  laidMet_of_run' 8 (by kernel_rfl) (by kernel_rfl)
theorem reads (os : Os) {H : Type} (enc : TypeId × Value → H) : ∃ places, DataW.whole enc Tryd.prog ((laidWorld os).forCall (fun _ _ => 0) ⟨#[], #[.agg #[.slice none 0 0, .slice none 0 0, .slice none 0 0], .slice none 0 0, .string .empty, .int .i64 0], []⟩).memory Tryd.f4.params.toList Rows.deedNamedSpec.vars false #[.agg #[.slice none 0 0, .slice none 0 0, .slice none 0 0], .slice none 0 0, .string .empty, .int .i64 0].toList 8 = some ([.agg [.nil, .nil, .nil], .nil, .lit (.string []), .lit (.int .i64 0)], [], places) :=
  ⟨[], by kernel_rfl⟩

set_option maxRecDepth 100000 in
theorem lifted (os : Os) (started : os.Started) (H : Type) (enc : TypeId × Value → H) (F : Stop.Interp) :
    ReturnsInHanded {} Tryd.checked os 4 .any ((Rows.OpenSpec.upto Rows.deedNamedSpec).preRow enc Tryd.prog Tryd.f4 Rows.deedNamedUptoRow.domain false Rows.deedNamedUptoRow.laid) (((Rows.OpenSpec.upto Rows.deedNamedSpec).at F).post enc Tryd.prog Tryd.f4 false true false false) := by
  obtain ⟨places, hx⟩ := reads os enc
  refine returnsInHanded_of_row (C := Tryd.checked) (s := Rows.OpenSpec.upto Rows.deedNamedSpec) own started (by kernel_rfl) Tryd.func4
    (witness_row_at (enc := enc) (C := Tryd.checked) false (laidWorld os) #[.agg #[.slice none 0 0, .slice none 0 0, .slice none 0 0], .slice none 0 0, .string .empty, .int .i64 0] rfl (by kernel_rfl) (by kernel_rfl) (by kernel_rfl)
      (OpenSpec.preRow_of_cond 8 hx (by kernel_rfl) (fun k hk => by cases hk; kernel_rfl) (by kernel_rfl) (laid_met os))) ?_
  intro W base args ds gs before hval hW _ hcond _ _ _ _
  refine law_contract (parB_ok (by kernel_rfl)) (by kernel_rfl) (by kernel_rfl) rfl (by kernel_rfl) Tryd.underlying4 (fun es hl => ?_) law W base args ds gs before hval hW (hcond _ rfl)
  rw [Tryd.params4] at hl
  match es, hl with
  | [_, _, _, _], _ => rfl

theorem said : Rows.DeedNamedUptoSaid :=
  OpenClaim.holds_of_cond 4 Tryd.f4 rfl rfl rfl rfl rfl rfl rfl ⟨rfl, rfl, rfl, rfl, rfl⟩ rfl rfl rfl rfl rfl (by kernel_rfl) Tryd.func4 (by kernel_rfl)
    (of_decide_eq_true (by kernel_rfl)) (by unfold Func.isWrapper; first | (rw [if_pos (by decide +kernel)]; kernel_rfl) | (rw [if_neg (by decide +kernel)]; exact ⟨rfl, rfl⟩))
    (fun os started H enc _ F => by rw [OpenClaim.pre_eq_preRow]; exact lifted os started H enc F)
theorem plain (f : FuncId) (fn : Func) (hf : Tryd.pinned.checked.prog.funcNamed "rankandfile/rflaw2.DeedNamed" = some f) (hfn : Tryd.pinned.checked.prog.funcs[f]? = some fn) :
    false = Tryd.pinned.checked.prog.looks [] ∧ ∀ (j : Nat) t, fn.params[j]? = some t → Tryd.pinned.checked.prog.wantsStandIn t = false := by
  obtain rfl : f = 4 := Option.some.inj ((show Tryd.prog.funcNamed "rankandfile/rflaw2.DeedNamed" = some 4 by kernel_rfl).symm.trans hf) |>.symm
  obtain rfl : fn = Tryd.f4 := (Option.some.inj (Tryd.func4.symm.trans hfn)).symm
  refine ⟨by kernel_rfl, fun j t ht => ?_⟩
  have h : (Tryd.f4.params.toList.all fun t => !Tryd.prog.wantsStandIn t) = true := by kernel_rfl
  have := List.all_eq_true.1 h t (Array.mem_toList_iff.2 (Array.mem_of_getElem? ht))
  exact (show Tryd.prog.wantsStandIn t = false by simpa using this)
theorem proved : Rows.DeedNamedUptoCardSaid :=
  Claim7.holds_tied_plain_at .later [] _ _ _ _ said (fun _ h => by cases h) (by kernel_rfl) (fun _ h => by cases h) deedNamedUpto_row_tie rfl ⟨rfl, rfl⟩ (by kernel_rfl) rfl plain (by kernel_rfl)
end Go.Proofs.YtjgbmdonhabmiaaDoor.deedNamed
