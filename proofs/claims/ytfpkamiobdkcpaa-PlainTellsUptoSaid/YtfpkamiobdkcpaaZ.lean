/-
  'rflaw4.PlainTells' answers true, whatever it is called with, where what came in is of bulk at most 1048576; no other conditions.
-/
import Derived.Test.YtfpkamiobdkcpaaK4
import Derived.Deep.DeepHandedRow
import Derived.Lib.LaidTab
namespace Go.Proofs.Ytfpkamiobdkcpaa.plainTells
open Go.AX Go.RF Go.RowKit Go.ChangeShapes Go.WideShapes

theorem own : ownKnob Try.prog.godebug = none := by kernel_rfl

theorem law (xs : List D) (m : Nat) (hm : m ≤ 1048576) (h : FitsPs [.one (.sl shPair), .one (.sl shDeed)] m xs) : FnOk Try.prog 6 (xs.map Arg.d) (.one (dbool true)) := by
  obtain ⟨d0, r0, rfl, h0, h⟩ := fits_one h
  obtain ⟨d1, r1, rfl, h1, h⟩ := fits_one h
  obtain rfl := fits_nil h
  obtain ⟨x0, rfl, g0a, g0b⟩ := dec_rows h0
  obtain ⟨x1, rfl, g1a, g1b⟩ := dec_deeds h1
  exact ok_PlainTells x0 x1 (by omega) (fun q hq => by have := (g0b q hq).1; omega) (by omega) (fun d hd => (g1b d hd).sm hm)

/-- A world for the witness: the settled one, the listed variables holding what their text lays. -/
def lay (cs : List Value) : Obj → Obj
  | .cells _ t frozen => .cells cs.toArray t frozen
  | o => o
noncomputable def base (os : Os) : World := World.holding Try.prog os ⟨#[], #[], []⟩
noncomputable def laidWorld (os : Os) : World :=
  { base os with heap := (base os).heap }
theorem gl (W : World) (hl : laidMetH Try.prog Rows.plainTellsUptoRow.laid W) (hs : W.ShapedOpen Try.prog) : Gl Try.prog W := by
  have h : laidMet Try.prog Rows.plainTellsUptoRow.laid W := by
    have e : (Rows.plainTellsUptoRow.laid.filter fun x => x.2.handleName?.isSome) = [] := by kernel_rfl
    unfold laidMetH at hl
    rw [e] at hl
    exact hl
  exact ⟨gl_none (by kernel_rfl), gl_none (by kernel_rfl), gl_none (by kernel_rfl), (let ⟨_, hm⟩ := Go.Proofs.cell_of_shapedOpen_int (zero := #[.int .i64 0]) (t := 3) hs (of_decide_eq_true (by kernel_rfl)) (by kernel_rfl) rfl (by kernel_rfl) (by kernel_rfl) Try.underlying3; gl_int (g := (Try.prog.globals.findIdx? (·.name == "internal/bytealg.MaxLen")).getD 0) (by kernel_rfl) hm)⟩
set_option maxRecDepth 100000 in
theorem laid_met (os : Os) : laidMet Try.prog Rows.plainTellsUptoRow.laid ((laidWorld os).forCall (fun _ _ => 0) ⟨#[], #[.slice none 0 0, .slice none 0 0], []⟩).memory :=
  laidMet_of_run' 8 (by kernel_rfl) (by kernel_rfl)
theorem reads (os : Os) {H : Type} (enc : TypeId × Value → H) : ∃ places, DataW.whole enc Try.prog ((laidWorld os).forCall (fun _ _ => 0) ⟨#[], #[.slice none 0 0, .slice none 0 0], []⟩).memory Try.f6.params.toList Rows.plainTellsSpec.vars false #[.slice none 0 0, .slice none 0 0].toList 8 = some ([.nil, .nil], [], places) :=
  ⟨[], by kernel_rfl⟩

set_option maxRecDepth 100000 in
theorem lifted (os : Os) (started : os.Started) (H : Type) (enc : TypeId × Value → H) (F : Stop.Interp) :
    ReturnsInHanded {} Try.checked os 6 .any ((Rows.OpenSpec.upto Rows.plainTellsSpec).preRow enc Try.prog Try.f6 Rows.plainTellsUptoRow.domain false Rows.plainTellsUptoRow.laid) (((Rows.OpenSpec.upto Rows.plainTellsSpec).at F).post enc Try.prog Try.f6 false true false false) := by
  obtain ⟨places, hx⟩ := reads os enc
  refine returnsInHanded_of_row (C := Try.checked) (s := Rows.OpenSpec.upto Rows.plainTellsSpec) own started (by kernel_rfl) Try.func6
    (witness_row_at (enc := enc) (C := Try.checked) false (laidWorld os) #[.slice none 0 0, .slice none 0 0] rfl (by kernel_rfl) (by kernel_rfl) (by kernel_rfl)
      (OpenSpec.preRow_of_cond 8 hx (by kernel_rfl) (fun k hk => by cases hk; kernel_rfl) (by kernel_rfl) (laid_met os))) ?_
  intro W base args ds gs before hval hW _ hcond _ hlaid hshp _
  refine law_contract (parB_ok (by kernel_rfl)) (by kernel_rfl) (by kernel_rfl) rfl (by kernel_rfl) Try.underlying4 (fun es hl => ?_) law W base args ds gs before hval hW (hcond _ rfl) (gl W hlaid hshp)
  rw [Try.params6] at hl
  match es, hl with
  | [_, _], _ => rfl

theorem proved : Rows.PlainTellsUptoSaid :=
  OpenClaim.holds_of_cond 6 Try.f6 rfl rfl rfl rfl rfl rfl rfl ⟨rfl, rfl, rfl, rfl, rfl⟩ rfl rfl rfl rfl rfl (by kernel_rfl) Try.func6 (by kernel_rfl)
    (of_decide_eq_true (by kernel_rfl)) (by unfold Func.isWrapper; first | (rw [if_pos (by decide +kernel)]; kernel_rfl) | (rw [if_neg (by decide +kernel)]; exact ⟨rfl, rfl⟩))
    (fun os started H enc _ F => by rw [OpenClaim.pre_eq_preRow]; exact lifted os started H enc F)
end Go.Proofs.Ytfpkamiobdkcpaa.plainTells
