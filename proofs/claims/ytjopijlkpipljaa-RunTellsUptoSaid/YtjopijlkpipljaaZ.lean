/-
  'rflaw7.RunTells' answers true, whatever it is called with, where what came in is of bulk at most 1048576; no other conditions.
-/
import Derived.Test.YtjopijlkpipljaaK6
namespace Go.Proofs.Ytjopijlkpipljaa.runTells
open Go.AX Go.RF Go.RowKit Go.ChangeShapes Go.WideShapes

theorem own : ownKnob Try.prog.godebug = none := by kernel_rfl

theorem law (xs : List D) (m : Nat) (hm : m ≤ 1048576) (h : FitsPs [.one (.sl shPair), .one (.sl [.sl shDeed]), .one (.sl [i64s]), .one i64s] m xs) : FnOk Try.prog 3 (xs.map Arg.d) (.one (dbool true)) := by
  obtain ⟨d0, r0, rfl, h0, h⟩ := fits_one h
  obtain ⟨d1, r1, rfl, h1, h⟩ := fits_one h
  obtain ⟨d2, r2, rfl, h2, h⟩ := fits_one h
  obtain ⟨d3, r3, rfl, h3, h⟩ := fits_one h
  obtain rfl := fits_nil h
  obtain ⟨x0, rfl, g0a, g0b⟩ := dec_rows h0
  obtain ⟨x1, rfl, g1a, g1b, g1c⟩ := dec_batches h1
  obtain ⟨x2, rfl, g2a, g2b⟩ := dec_ints h2
  obtain ⟨x3, rfl, g3a⟩ := dec_int h3
  exact ok_RunTells x0 x1 x2 x3 (by omega) (fun q hq => by have := (g0b q hq).1; omega) (fun b hb => ⟨by have := (g1c b hb).1; omega, fun d hd => ((g1c b hb).2 d hd).sm hm⟩) (by omega) (by rw [sumLen_eq]; omega) (by omega)

set_option maxRecDepth 100000 in
theorem lifted (os : Os) (started : os.Started) (H : Type) (enc : TypeId × Value → H) (F : Stop.Interp) :
    ReturnsInHanded {} Try.checked os 3 .any ((Rows.OpenSpec.upto Rows.runTellsSpec).pre6 enc Try.prog Try.f3 Rows.runTellsUptoRow.domain false) (((Rows.OpenSpec.upto Rows.runTellsSpec).at F).post enc Try.prog Try.f3 false true false false) := by
  refine returnsInHanded_of_cond (C := Try.checked) (s := Rows.OpenSpec.upto Rows.runTellsSpec) (k := Rows.uptoSmall) rfl own started (by kernel_rfl) Try.func3
    (OpenSpec.witness (enc := enc) (C := Try.checked) (s := Rows.OpenSpec.upto Rows.runTellsSpec) (k := Rows.uptoSmall) rfl false ⟨#[], #[.slice none 0 0, .slice none 0 0, .slice none 0 0, .int .i64 0], []⟩ 8 (by kernel_rfl) (by kernel_rfl) (by kernel_rfl)
      (x := ([.nil, .nil, .nil, .lit (.int .i64 0)], [], [])) (by kernel_rfl) rfl (by kernel_rfl)) ?_
  intro W base args ds gs before hval hW hcnd hk _
  refine law_contract (parB_ok (by kernel_rfl)) (by kernel_rfl) (by kernel_rfl) rfl (by kernel_rfl) Try.underlying4 (fun es hl => ?_) law W base args ds gs before hval hW hk
  rw [Try.params3] at hl
  match es, hl with
  | [_, _, _, _], _ => rfl

theorem proved : Rows.RunTellsUptoSaid :=
  OpenClaim.holds_of_cond 3 Try.f3 rfl rfl rfl rfl rfl rfl rfl ⟨rfl, rfl, rfl, rfl, rfl⟩ rfl rfl rfl rfl rfl (by kernel_rfl) Try.func3 (by kernel_rfl)
    (of_decide_eq_true (by kernel_rfl)) (by unfold Func.isWrapper; first | (rw [if_pos (by decide +kernel)]; kernel_rfl) | (rw [if_neg (by decide +kernel)]; exact ⟨rfl, rfl⟩))
    (fun os started H enc _ F => lifted os started H enc F)
end Go.Proofs.Ytjopijlkpipljaa.runTells
