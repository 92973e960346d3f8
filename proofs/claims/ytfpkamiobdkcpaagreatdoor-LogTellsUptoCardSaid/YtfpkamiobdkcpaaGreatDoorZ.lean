/-
  'rflaw9.LogTells' answers true, whatever it is called with, where what came in is of bulk at most 1048576; no other conditions.
-/
import Derived.Test.YtfpkamiobdkcpaaGreatDoorK7
import Derived.Test.YtfpkamiobdkcpaaGreatDoorCards
import Derived.Test.YtfpkamiobdkcpaaGreatDoorTie
import Derived.Deep.DeepHandedRow
import Derived.Lib.LaidTab
namespace Go.Proofs.YtfpkamiobdkcpaaGreatDoor.logTells
open Go.AX Go.RF Go.RowKit Go.ChangeShapes Go.WideShapes

theorem own : ownKnob Tryz.prog.godebug = none := by kernel_rfl

theorem law (xs : List D) (m : Nat) (hm : m ≤ 1048576) (h : FitsPs [.st shEntry, .one (.sl shEntry), .one (.sl [u8s])] m xs) : FnOk Tryz.prog 5 (xs.map Arg.d) (.one (dbool true)) := by
  obtain ⟨d0, r0, rfl, h0, h⟩ := fits_st h
  obtain ⟨d1, r1, rfl, h1, h⟩ := fits_one h
  obtain ⟨d2, r2, rfl, h2, h⟩ := fits_one h
  obtain rfl := fits_nil h
  obtain ⟨x0, rfl, g0a⟩ := dec_entry _ _ h0
  obtain ⟨x1, rfl, g1a, g1b⟩ := dec_entries h1
  obtain ⟨x2, rfl, g2a⟩ := dec_bytes h2
  exact ok_LogTells x0 x1 x2 (g0a.sm hm) (by omega) (fun e he => (g1b e he).sm hm) (by omega)

/-- A world for the witness: the settled one, the listed variables holding what their text lays. -/
noncomputable def g3 : Nat := (Tryz.prog.globals.findIdx? (·.name == "math/bits.deBruijn32tab")).getD 0
def cells3 : List Value := (([0, 1, 28, 2, 29, 14, 24, 3, 30, 22, 20, 15, 25, 17, 4, 8, 31, 27, 13, 23, 21, 19, 16, 7, 26, 12, 18, 6, 11, 5, 10, 9] : List Int)).map fun n => .int .u8 n
noncomputable def g6 : Nat := (Tryz.prog.globals.findIdx? (·.name == "math/bits.deBruijn64tab")).getD 0
def cells6 : List Value := (([0, 1, 56, 2, 57, 49, 28, 3, 61, 58, 42, 50, 38, 29, 17, 4, 62, 47, 59, 36, 45, 43, 51, 22, 53, 39, 33, 30, 24, 18, 12, 5, 63, 55, 48, 27, 60, 41, 37, 16, 46, 35, 44, 21, 52, 32, 23, 11, 54, 26, 40, 15, 34, 20, 31, 10, 25, 14, 19, 9, 13, 8, 7, 6] : List Int)).map fun n => .int .u8 n
noncomputable def gP : Nat := (Tryz.prog.globals.findIdx? (·.name == "internal/strconv.uint64pow10")).getD 0
def cellsP : List Value := (((List.range 20).map fun k => (10 : Int) ^ k : List Int)).map fun n => .int .u64 n
noncomputable def gA : Nat := (Tryz.prog.globals.findIdx? (·.name == "unicode/utf8.acceptRanges")).getD 0
def cellsA : List Value := (([128, 191, 160, 191, 128, 159, 144, 191, 128, 143] ++ List.replicate 22 0 : List Int)).map fun n => .int .u8 n
noncomputable def gR : Nat := (Tryz.prog.globals.findIdx? (·.name == "strconv.ErrRange")).getD 0
noncomputable def gS : Nat := (Tryz.prog.globals.findIdx? (·.name == "strconv.ErrSyntax")).getD 0
noncomputable def gF : Nat := (Tryz.prog.globals.findIdx? (·.name == "unicode/utf8.first")).getD 0
def cellsF : List Value := ((List.replicate 128 240 ++ List.replicate 66 241 ++ List.replicate 30 2 ++ [19] ++ List.replicate 12 3 ++ [35] ++ List.replicate 2 3 ++ [52] ++ List.replicate 3 4 ++ [68] ++ List.replicate 11 241 : List Int)).map fun n => .int .u8 n
def lay (cs : List Value) : Obj → Obj
  | .cells _ t frozen => .cells cs.toArray t frozen
  | o => o
noncomputable def base (os : Os) : World := World.holding Tryz.prog os ⟨#[], #[], []⟩
noncomputable def laidWorld (os : Os) : World :=
  { base os with heap := ((((((((base os).heap.modify g3 (lay cells3)).modify g6 (lay cells6)).modify gP (lay cellsP)).modify gA (lay cellsA)).modify gR (lay [.iface 276 (.pointer (some ⟨(base os).heap.size + 0, 0, none⟩))])).modify gS (lay [.iface 276 (.pointer (some ⟨(base os).heap.size + 1, 0, none⟩))])).modify gF (lay cellsF)) ++ #[.cells #[.string ⟨([118, 97, 108, 117, 101, 32, 111, 117, 116, 32, 111, 102, 32, 114, 97, 110, 103, 101] : List UInt8).toArray⟩] 278 (0, 0), .cells #[.string ⟨([105, 110, 118, 97, 108, 105, 100, 32, 115, 121, 110, 116, 97, 120] : List UInt8).toArray⟩] 278 (0, 0)] }
theorem gl (W : World) (hl : laidMetH Tryz.prog Rows.logTellsUptoRow.laid W) (hs : W.ShapedOpen Tryz.prog) : Gl Tryz.prog W := by
  have h : laidMet Tryz.prog Rows.logTellsUptoRow.laid W := by
    have e : (Rows.logTellsUptoRow.laid.filter fun x => x.2.handleName?.isSome) = [] := by kernel_rfl
    unfold laidMetH at hl
    rw [e] at hl
    exact hl
  exact ⟨gl_tab (laid := Rows.logTellsUptoRow.laid) (k := .u64) (zs := Go.Lib.pow10Tab) (g := (Tryz.prog.globals.findIdx? (·.name == "internal/strconv.uint64pow10")).getD 0) (t := 260) (e := 198) (m := 20) 2 rfl (by kernel_rfl) (by kernel_rfl) Tryz.underlying260 Tryz.underlying198 (by kernel_rfl) (by kernel_rfl) h, gl_iface (laid := Rows.logTellsUptoRow.laid) (g := (Tryz.prog.globals.findIdx? (·.name == "strconv.ErrSyntax")).getD 0) (ti := 211) 5 rfl (by kernel_rfl) (by kernel_rfl) Tryz.underlying211 h, gl_iface (laid := Rows.logTellsUptoRow.laid) (g := (Tryz.prog.globals.findIdx? (·.name == "strconv.ErrRange")).getD 0) (ti := 211) 4 rfl (by kernel_rfl) (by kernel_rfl) Tryz.underlying211 h, (let ⟨_, hm⟩ := Go.Proofs.cell_of_shapedOpen_int (zero := #[.int .i64 0]) (t := 3) hs (of_decide_eq_true (by kernel_rfl)) (by kernel_rfl) rfl (by kernel_rfl) (by kernel_rfl) Tryz.underlying3; gl_int (g := (Tryz.prog.globals.findIdx? (·.name == "internal/bytealg.MaxLen")).getD 0) (by kernel_rfl) hm)⟩
set_option maxRecDepth 100000 in
theorem laid_met (os : Os) : laidMet Tryz.prog Rows.logTellsUptoRow.laid ((laidWorld os).forCall (fun _ _ => 0) ⟨#[], #[.agg #[.int .i64 0, .slice none 0 0], .slice none 0 0, .slice none 0 0], []⟩).memory :=
  laidMet_of_run' 8 (by kernel_rfl) (by kernel_rfl)
theorem reads (os : Os) {H : Type} (enc : TypeId × Value → H) : ∃ places, DataW.whole enc Tryz.prog ((laidWorld os).forCall (fun _ _ => 0) ⟨#[], #[.agg #[.int .i64 0, .slice none 0 0], .slice none 0 0, .slice none 0 0], []⟩).memory Tryz.f5.params.toList Rows.logTellsSpec.vars false #[.agg #[.int .i64 0, .slice none 0 0], .slice none 0 0, .slice none 0 0].toList 8 = some ([.agg [.lit (.int .i64 0), .nil], .nil, .nil], [], places) :=
  ⟨[], by kernel_rfl⟩

set_option maxRecDepth 100000 in
theorem lifted (os : Os) (started : os.Started) (H : Type) (enc : TypeId × Value → H) (F : Stop.Interp) :
    ReturnsInHanded {} Tryz.checked os 5 .any ((Rows.OpenSpec.upto Rows.logTellsSpec).preRow enc Tryz.prog Tryz.f5 Rows.logTellsUptoRow.domain false Rows.logTellsUptoRow.laid) (((Rows.OpenSpec.upto Rows.logTellsSpec).at F).post enc Tryz.prog Tryz.f5 false true false false) := by
  obtain ⟨places, hx⟩ := reads os enc
  refine returnsInHanded_of_row (C := Tryz.checked) (s := Rows.OpenSpec.upto Rows.logTellsSpec) own started (by kernel_rfl) Tryz.func5
    (witness_row_at (enc := enc) (C := Tryz.checked) false (laidWorld os) #[.agg #[.int .i64 0, .slice none 0 0], .slice none 0 0, .slice none 0 0] rfl (by kernel_rfl) (by kernel_rfl) (by kernel_rfl)
      (OpenSpec.preRow_of_cond 8 hx (by kernel_rfl) (fun k hk => by cases hk; kernel_rfl) (by kernel_rfl) (laid_met os))) ?_
  intro W base args ds gs before hval hW _ hcond _ hlaid hshp _
  refine law_contract (parB_ok (by kernel_rfl)) (by kernel_rfl) (by kernel_rfl) rfl (by kernel_rfl) Tryz.underlying4 (fun es hl => ?_) law W base args ds gs before hval hW (hcond _ rfl) (gl W hlaid hshp)
  rw [Tryz.params5] at hl
  match es, hl with
  | [_, _, _], _ => rfl

theorem said : Rows.LogTellsUptoSaid :=
  OpenClaim.holds_of_cond 5 Tryz.f5 rfl rfl rfl rfl rfl rfl rfl ⟨rfl, rfl, rfl, rfl, rfl⟩ rfl rfl rfl rfl rfl (by kernel_rfl) Tryz.func5 (by kernel_rfl)
    (of_decide_eq_true (by kernel_rfl)) (by unfold Func.isWrapper; first | (rw [if_pos (by decide +kernel)]; kernel_rfl) | (rw [if_neg (by decide +kernel)]; exact ⟨rfl, rfl⟩))
    (fun os started H enc _ F => by rw [OpenClaim.pre_eq_preRow]; exact lifted os started H enc F)
theorem plain (f : FuncId) (fn : Func) (hf : Tryz.pinned.checked.prog.funcNamed "rankandfile/rflaw9.LogTells" = some f) (hfn : Tryz.pinned.checked.prog.funcs[f]? = some fn) :
    true = Tryz.pinned.checked.prog.looks [] ∧ ∀ (j : Nat) t, fn.params[j]? = some t → Tryz.pinned.checked.prog.wantsStandIn t = false := by
  obtain rfl : f = 5 := Option.some.inj ((show Tryz.prog.funcNamed "rankandfile/rflaw9.LogTells" = some 5 by kernel_rfl).symm.trans hf) |>.symm
  obtain rfl : fn = Tryz.f5 := (Option.some.inj (Tryz.func5.symm.trans hfn)).symm
  refine ⟨by kernel_rfl, fun j t ht => ?_⟩
  have h : (Tryz.f5.params.toList.all fun t => !Tryz.prog.wantsStandIn t) = true := by kernel_rfl
  have := List.all_eq_true.1 h t (Array.mem_toList_iff.2 (Array.mem_of_getElem? ht))
  exact (show Tryz.prog.wantsStandIn t = false by simpa using this)
theorem proved : Rows.LogTellsUptoCardSaid :=
  Claim7.holds_tied_plain_at .later [] _ _ _ _ said (fun _ h => by cases h) (by kernel_rfl) (fun _ h => by cases h) logTellsUpto_row_tie rfl ⟨rfl, rfl⟩ (by kernel_rfl) rfl plain (by kernel_rfl)
end Go.Proofs.YtfpkamiobdkcpaaGreatDoor.logTells
