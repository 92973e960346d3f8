/-
  'rflaw5.ChainClear' answers true, whatever it is called with, where what came in is of bulk at most 1048576; no other conditions.
-/
import Derived.Test.YtnhnnkljlglhbaaK5
namespace Go.Proofs.Ytnhnnkljlglhbaa.chainClear
open Go.AX Go.RF Go.RowKit Go.ChangeShapes Go.WideShapes

theorem own : ownKnob Try.prog.godebug = none := by kernel_rfl

theorem law (xs : List D) (m : Nat) (hm : m ≤ 1048576) (h : FitsPs [.one (.sl shChain), .one i64s, .one .str, .one i64s] m xs) : FnOk Try.prog 5 (xs.map Arg.d) (.one (dbool true)) := by
  obtain ⟨d0, r0, rfl, h0, h⟩ := fits_one h
  obtain ⟨d1, r1, rfl, h1, h⟩ := fits_one h
  obtain ⟨d2, r2, rfl, h2, h⟩ := fits_one h
  obtain ⟨d3, r3, rfl, h3, h⟩ := fits_one h
  obtain rfl := fits_nil h
  obtain ⟨x0, rfl, g0a, g0b⟩ := dec_chains h0
  obtain ⟨x1, rfl, g1a⟩ := dec_int h1
  obtain ⟨x2, rfl, g2a⟩ := dec_str h2
  obtain ⟨x3, rfl, g3a⟩ := dec_int h3
  exact ok_ChainClear x0 x1 x2 x3 (by omega) (fun c hc => ⟨by have := (g0b c hc).1; omega, by have := (g0b c hc).2.1; omega⟩) (by omega)

set_option maxRecDepth 100000 in
theorem lifted (os : Os) (started : os.Started) (H : Type) (enc : TypeId × Value → H) (F : Stop.Interp) :
    ReturnsInHanded {} Try.checked os 5 .any ((Rows.OpenSpec.upto Rows.chainClearSpec).pre6 enc Try.prog Try.f5 Rows.chainClearUptoRow.domain false) (((Rows.OpenSpec.upto Rows.chainClearSpec).at F).post enc Try.prog Try.f5 false true false false) := by
  refine returnsInHanded_of_cond (C := Try.checked) (s := Rows.OpenSpec.upto Rows.chainClearSpec) (k := Rows.uptoSmall) rfl own started (by kernel_rfl) Try.func5
    (OpenSpec.witness (enc := enc) (C := Try.checked) (s := Rows.OpenSpec.upto Rows.chainClearSpec) (k := Rows.uptoSmall) rfl false ⟨#[], #[.slice none 0 0, .int .i64 0, .string .empty, .int .i64 0], []⟩ 8 (by kernel_rfl) (by kernel_rfl) (by kernel_rfl)
      (x := ([.nil, .lit (.int .i64 0), .lit (.string []), .lit (.int .i64 0)], [], [])) (by kernel_rfl) rfl (by kernel_rfl)) ?_
  intro W base args ds gs before hval hW hcnd hk _
  refine law_contract (parB_ok (by kernel_rfl)) (by kernel_rfl) (by kernel_rfl) rfl (by kernel_rfl) Try.underlying4 (fun es hl => ?_) law W base args ds gs before hval hW hk
  rw [Try.params5] at hl
  match es, hl with
  | [_, _, _, _], _ => rfl

theorem proved : Rows.ChainClearUptoSaid :=
  OpenClaim.holds_of_cond 5 Try.f5 rfl rfl rfl rfl rfl rfl rfl ⟨rfl, rfl, rfl, rfl, rfl⟩ rfl rfl rfl rfl rfl (by kernel_rfl) Try.func5 (by kernel_rfl)
    (of_decide_eq_true (by kernel_rfl)) (by unfold Func.isWrapper; first | (rw [if_pos (by decide +kernel)]; kernel_rfl) | (rw [if_neg (by decide +kernel)]; exact ⟨rfl, rfl⟩))
    (fun os started H enc _ F => lifted os started H enc F)
end Go.Proofs.Ytnhnnkljlglhbaa.chainClear
