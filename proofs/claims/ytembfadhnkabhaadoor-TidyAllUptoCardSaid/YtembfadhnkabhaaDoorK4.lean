/-
  Part 4 of what the claim leans on: G1 G3 G4 P1 P2 P3 AxFam2 AxPin4 AxPin5 AxFnD Rn Sh G2 R2 P4 P5 AxNews R5 AxBld P6 G5 G6 G17 P7 P9 P10.
-/
import Derived.Test.YtembfadhnkabhaaDoorK3
import Derived.MapKept
import Derived.Shelf.Small.Strs
import Derived.Test.YtembfadhnkabhaaDoorProg
import Derived.Lib.SlTrimSet
import Derived.RangeFuncNested
import Derived.RangeFuncLeaves
import Derived.Shelf.Abstract
import Derived.WalkKit
import Derived.OwnWalkIn
import Derived.TacticsInMore
import Derived.LoopNIn
import Derived.LoopIn

/-! G1 -/
/-
  Contracts of the library's Clone: what comes back is the caller's own.
-/
namespace Go.Proofs.YtembfadhnkabhaaDoor
open Go.AX Go.RF

set_option maxRecDepth 100000
set_option maxHeartbeats 4000000

theorem new_clone_version (rows : List (List D)) (hl : rows.length ≤ 536870912) : FnNew Tryd.prog 52 [.d (.sl 4 rows)] 68 4 rows := by
  refine fnNew_of tbl_ok mixed_ok Tryd.func52 rfl (by kernel_rfl) rfl rfl fun w0 own0 => ?_
  cases rows with
  | nil =>
    refine CW.empty 0 rfl fun p cp => ?_
    cases p with
    | none =>
      repeat (first | ((with_reducible apply s1); exact rfl) | (with_reducible first | apply CW.seq | apply CW.block | apply CW.region | apply CW.draw | apply CW.skip | apply CW.exit | apply CW.ret | apply q_then | apply q_then_exit | apply q_then_ret | apply q_block | apply q_block_ret | apply q_block_hit | apply q_ret | apply q_end | apply q_loop_exit | apply q_loop_ret | apply q_loopT_exit | apply q_loopT_ret | apply RW.nil) | ((with_reducible apply s3); exact rfl; exact by_k) | ((with_reducible apply s2); exact rfl; exact by_k) | ((with_reducible apply s4); exact rfl) | ((with_reducible apply s5); (first | exact by_oa); exact by_g) | ((with_reducible apply CW.cond_t); exact rfl; exact by_ks) | ((with_reducible apply CW.cond_f); exact rfl; exact by_ks) | ((with_reducible apply q_block_miss); exact rfl) | (refine And.intro (show chk [] [] _ _ = true by kernel_rfl) ?_))
      exact RetNew.nil rfl rfl
    | some ad =>
      repeat (first | (with_reducible apply stop_reg 3) | ((with_reducible apply s1); exact rfl) | (with_reducible first | apply CW.seq | apply CW.block | apply CW.region | apply CW.draw | apply CW.skip | apply CW.exit | apply CW.ret | apply q_then | apply q_then_exit | apply q_then_ret | apply q_block | apply q_block_ret | apply q_block_hit | apply q_ret | apply q_end | apply q_loop_exit | apply q_loop_ret | apply q_loopT_exit | apply q_loopT_ret | apply RW.nil) | ((with_reducible apply s3); exact rfl; exact by_k) | ((with_reducible apply s2); exact rfl; exact by_k) | ((with_reducible apply s4); exact rfl) | ((with_reducible apply s5); (first | exact by_oa); exact by_g) | ((with_reducible apply CW.cond_t); exact rfl; exact by_ks) | ((with_reducible apply CW.cond_f); exact rfl; exact by_ks) | ((with_reducible apply q_block_miss); exact rfl) | (refine And.intro (show chk [] [] _ _ = true by kernel_rfl) ?_))
      refine Stop.go (CW.stut (stut_nilv (i := 0) (k := 4)) ⟨rfl, trivial⟩ ?_)
      repeat (first | ((with_reducible apply s1); exact rfl) | (with_reducible first | apply CW.seq | apply CW.block | apply CW.region | apply CW.draw | apply CW.skip | apply CW.exit | apply CW.ret | apply q_then | apply q_then_exit | apply q_then_ret | apply q_block | apply q_block_ret | apply q_block_hit | apply q_ret | apply q_end | apply q_loop_exit | apply q_loop_ret | apply q_loopT_exit | apply q_loopT_ret | apply RW.nil) | ((with_reducible apply s3); exact rfl; exact by_k) | ((with_reducible apply s2); exact rfl; exact by_k) | ((with_reducible apply s4); exact rfl) | ((with_reducible apply s5); (first | exact by_oa); exact by_g) | ((with_reducible apply CW.cond_t); exact rfl; exact by_ks) | ((with_reducible apply CW.cond_f); exact rfl; exact by_ks) | ((with_reducible apply q_block_miss); exact rfl) | (refine And.intro (show chk [] [] _ _ = true by kernel_rfl) ?_))
      exact RetNew.own rfl rfl rfl
  | cons r rows =>
    have hl2 : rows.length ≤ 536870911 := by simp at hl; omega
    repeat (first | ((with_reducible apply s1); exact rfl) | (with_reducible first | apply CW.seq | apply CW.block | apply CW.region | apply CW.draw | apply CW.skip | apply CW.exit | apply CW.ret | apply q_then | apply q_then_exit | apply q_then_ret | apply q_block | apply q_block_ret | apply q_block_hit | apply q_ret | apply q_end | apply q_loop_exit | apply q_loop_ret | apply q_loopT_exit | apply q_loopT_ret | apply RW.nil) | ((with_reducible apply s3); exact rfl; exact by_k) | ((with_reducible apply s2); exact rfl; exact by_k) | ((with_reducible apply s4); exact rfl) | ((with_reducible apply s5); (first | exact by_oa); exact by_g) | ((with_reducible apply CW.cond_t); exact rfl; exact by_ks) | ((with_reducible apply CW.cond_f); exact rfl; exact by_ks) | ((with_reducible apply q_block_miss); exact rfl) | (refine And.intro (show chk [] [] _ _ = true by kernel_rfl) ?_))
    exact RetNew.own rfl rfl (by simp)
theorem ok_clone_version (rows : List (List D)) (hl : rows.length ≤ 536870912) : FnOk Tryd.prog 52 [.d (.sl 4 rows)] (.one (.sl 4 rows)) := (new_clone_version rows hl).ok

theorem new_clone_int (rows : List (List D)) (hl : rows.length ≤ 536870912) : FnNew Tryd.prog 40 [.d (.sl 1 rows)] 3 1 rows := by
  refine fnNew_of tbl_ok mixed_ok Tryd.func40 rfl (by kernel_rfl) rfl rfl fun w0 own0 => ?_
  cases rows with
  | nil =>
    refine CW.empty 0 rfl fun p cp => ?_
    cases p with
    | none =>
      repeat (first | ((with_reducible apply s1); exact rfl) | (with_reducible first | apply CW.seq | apply CW.block | apply CW.region | apply CW.draw | apply CW.skip | apply CW.exit | apply CW.ret | apply q_then | apply q_then_exit | apply q_then_ret | apply q_block | apply q_block_ret | apply q_block_hit | apply q_ret | apply q_end | apply q_loop_exit | apply q_loop_ret | apply q_loopT_exit | apply q_loopT_ret | apply RW.nil) | ((with_reducible apply s3); exact rfl; exact by_k) | ((with_reducible apply s2); exact rfl; exact by_k) | ((with_reducible apply s4); exact rfl) | ((with_reducible apply s5); (first | exact by_oa); exact by_g) | ((with_reducible apply CW.cond_t); exact rfl; exact by_ks) | ((with_reducible apply CW.cond_f); exact rfl; exact by_ks) | ((with_reducible apply q_block_miss); exact rfl) | (refine And.intro (show chk [] [] _ _ = true by kernel_rfl) ?_))
      exact RetNew.nil rfl rfl
    | some ad =>
      repeat (first | (with_reducible apply stop_reg 3) | ((with_reducible apply s1); exact rfl) | (with_reducible first | apply CW.seq | apply CW.block | apply CW.region | apply CW.draw | apply CW.skip | apply CW.exit | apply CW.ret | apply q_then | apply q_then_exit | apply q_then_ret | apply q_block | apply q_block_ret | apply q_block_hit | apply q_ret | apply q_end | apply q_loop_exit | apply q_loop_ret | apply q_loopT_exit | apply q_loopT_ret | apply RW.nil) | ((with_reducible apply s3); exact rfl; exact by_k) | ((with_reducible apply s2); exact rfl; exact by_k) | ((with_reducible apply s4); exact rfl) | ((with_reducible apply s5); (first | exact by_oa); exact by_g) | ((with_reducible apply CW.cond_t); exact rfl; exact by_ks) | ((with_reducible apply CW.cond_f); exact rfl; exact by_ks) | ((with_reducible apply q_block_miss); exact rfl) | (refine And.intro (show chk [] [] _ _ = true by kernel_rfl) ?_))
      refine Stop.go (CW.stut (stut_nilv (i := 0) (k := 1)) ⟨rfl, trivial⟩ ?_)
      repeat (first | ((with_reducible apply s1); exact rfl) | (with_reducible first | apply CW.seq | apply CW.block | apply CW.region | apply CW.draw | apply CW.skip | apply CW.exit | apply CW.ret | apply q_then | apply q_then_exit | apply q_then_ret | apply q_block | apply q_block_ret | apply q_block_hit | apply q_ret | apply q_end | apply q_loop_exit | apply q_loop_ret | apply q_loopT_exit | apply q_loopT_ret | apply RW.nil) | ((with_reducible apply s3); exact rfl; exact by_k) | ((with_reducible apply s2); exact rfl; exact by_k) | ((with_reducible apply s4); exact rfl) | ((with_reducible apply s5); (first | exact by_oa); exact by_g) | ((with_reducible apply CW.cond_t); exact rfl; exact by_ks) | ((with_reducible apply CW.cond_f); exact rfl; exact by_ks) | ((with_reducible apply q_block_miss); exact rfl) | (refine And.intro (show chk [] [] _ _ = true by kernel_rfl) ?_))
      exact RetNew.own rfl rfl rfl
  | cons r rows =>
    have hl2 : rows.length ≤ 536870911 := by simp at hl; omega
    repeat (first | ((with_reducible apply s1); exact rfl) | (with_reducible first | apply CW.seq | apply CW.block | apply CW.region | apply CW.draw | apply CW.skip | apply CW.exit | apply CW.ret | apply q_then | apply q_then_exit | apply q_then_ret | apply q_block | apply q_block_ret | apply q_block_hit | apply q_ret | apply q_end | apply q_loop_exit | apply q_loop_ret | apply q_loopT_exit | apply q_loopT_ret | apply RW.nil) | ((with_reducible apply s3); exact rfl; exact by_k) | ((with_reducible apply s2); exact rfl; exact by_k) | ((with_reducible apply s4); exact rfl) | ((with_reducible apply s5); (first | exact by_oa); exact by_g) | ((with_reducible apply CW.cond_t); exact rfl; exact by_ks) | ((with_reducible apply CW.cond_f); exact rfl; exact by_ks) | ((with_reducible apply q_block_miss); exact rfl) | (refine And.intro (show chk [] [] _ _ = true by kernel_rfl) ?_))
    exact RetNew.own rfl rfl (by simp)
theorem ok_clone_int (rows : List (List D)) (hl : rows.length ≤ 536870912) : FnOk Tryd.prog 40 [.d (.sl 1 rows)] (.one (.sl 1 rows)) := (new_clone_int rows hl).ok

theorem new_clone_done (rows : List (List D)) (hl : rows.length ≤ 536870912) : FnNew Tryd.prog 41 [.d (.sl 5 rows)] 64 5 rows := by
  refine fnNew_of tbl_ok mixed_ok Tryd.func41 rfl (by kernel_rfl) rfl rfl fun w0 own0 => ?_
  cases rows with
  | nil =>
    refine CW.empty 0 rfl fun p cp => ?_
    cases p with
    | none =>
      repeat (first | ((with_reducible apply s1); exact rfl) | (with_reducible first | apply CW.seq | apply CW.block | apply CW.region | apply CW.draw | apply CW.skip | apply CW.exit | apply CW.ret | apply q_then | apply q_then_exit | apply q_then_ret | apply q_block | apply q_block_ret | apply q_block_hit | apply q_ret | apply q_end | apply q_loop_exit | apply q_loop_ret | apply q_loopT_exit | apply q_loopT_ret | apply RW.nil) | ((with_reducible apply s3); exact rfl; exact by_k) | ((with_reducible apply s2); exact rfl; exact by_k) | ((with_reducible apply s4); exact rfl) | ((with_reducible apply s5); (first | exact by_oa); exact by_g) | ((with_reducible apply CW.cond_t); exact rfl; exact by_ks) | ((with_reducible apply CW.cond_f); exact rfl; exact by_ks) | ((with_reducible apply q_block_miss); exact rfl) | (refine And.intro (show chk [] [] _ _ = true by kernel_rfl) ?_))
      exact RetNew.nil rfl rfl
    | some ad =>
      repeat (first | (with_reducible apply stop_reg 3) | ((with_reducible apply s1); exact rfl) | (with_reducible first | apply CW.seq | apply CW.block | apply CW.region | apply CW.draw | apply CW.skip | apply CW.exit | apply CW.ret | apply q_then | apply q_then_exit | apply q_then_ret | apply q_block | apply q_block_ret | apply q_block_hit | apply q_ret | apply q_end | apply q_loop_exit | apply q_loop_ret | apply q_loopT_exit | apply q_loopT_ret | apply RW.nil) | ((with_reducible apply s3); exact rfl; exact by_k) | ((with_reducible apply s2); exact rfl; exact by_k) | ((with_reducible apply s4); exact rfl) | ((with_reducible apply s5); (first | exact by_oa); exact by_g) | ((with_reducible apply CW.cond_t); exact rfl; exact by_ks) | ((with_reducible apply CW.cond_f); exact rfl; exact by_ks) | ((with_reducible apply q_block_miss); exact rfl) | (refine And.intro (show chk [] [] _ _ = true by kernel_rfl) ?_))
      refine Stop.go (CW.stut (stut_nilv (i := 0) (k := 5)) ⟨rfl, trivial⟩ ?_)
      repeat (first | ((with_reducible apply s1); exact rfl) | (with_reducible first | apply CW.seq | apply CW.block | apply CW.region | apply CW.draw | apply CW.skip | apply CW.exit | apply CW.ret | apply q_then | apply q_then_exit | apply q_then_ret | apply q_block | apply q_block_ret | apply q_block_hit | apply q_ret | apply q_end | apply q_loop_exit | apply q_loop_ret | apply q_loopT_exit | apply q_loopT_ret | apply RW.nil) | ((with_reducible apply s3); exact rfl; exact by_k) | ((with_reducible apply s2); exact rfl; exact by_k) | ((with_reducible apply s4); exact rfl) | ((with_reducible apply s5); (first | exact by_oa); exact by_g) | ((with_reducible apply CW.cond_t); exact rfl; exact by_ks) | ((with_reducible apply CW.cond_f); exact rfl; exact by_ks) | ((with_reducible apply q_block_miss); exact rfl) | (refine And.intro (show chk [] [] _ _ = true by kernel_rfl) ?_))
      exact RetNew.own rfl rfl rfl
  | cons r rows =>
    have hl2 : rows.length ≤ 536870911 := by simp at hl; omega
    repeat (first | ((with_reducible apply s1); exact rfl) | (with_reducible first | apply CW.seq | apply CW.block | apply CW.region | apply CW.draw | apply CW.skip | apply CW.exit | apply CW.ret | apply q_then | apply q_then_exit | apply q_then_ret | apply q_block | apply q_block_ret | apply q_block_hit | apply q_ret | apply q_end | apply q_loop_exit | apply q_loop_ret | apply q_loopT_exit | apply q_loopT_ret | apply RW.nil) | ((with_reducible apply s3); exact rfl; exact by_k) | ((with_reducible apply s2); exact rfl; exact by_k) | ((with_reducible apply s4); exact rfl) | ((with_reducible apply s5); (first | exact by_oa); exact by_g) | ((with_reducible apply CW.cond_t); exact rfl; exact by_ks) | ((with_reducible apply CW.cond_f); exact rfl; exact by_ks) | ((with_reducible apply q_block_miss); exact rfl) | (refine And.intro (show chk [] [] _ _ = true by kernel_rfl) ?_))
    exact RetNew.own rfl rfl (by simp)
theorem ok_clone_done (rows : List (List D)) (hl : rows.length ≤ 536870912) : FnOk Tryd.prog 41 [.d (.sl 5 rows)] (.one (.sl 5 rows)) := (new_clone_done rows hl).ok

theorem new_clone_str (rows : List (List D)) (hl : rows.length ≤ 536870912) : FnNew Tryd.prog 53 [.d (.sl 1 rows)] 9 1 rows := by
  refine fnNew_of tbl_ok mixed_ok Tryd.func53 rfl (by kernel_rfl) rfl rfl fun w0 own0 => ?_
  cases rows with
  | nil =>
    refine CW.empty 0 rfl fun p cp => ?_
    cases p with
    | none =>
      repeat (first | ((with_reducible apply s1); exact rfl) | (with_reducible first | apply CW.seq | apply CW.block | apply CW.region | apply CW.draw | apply CW.skip | apply CW.exit | apply CW.ret | apply q_then | apply q_then_exit | apply q_then_ret | apply q_block | apply q_block_ret | apply q_block_hit | apply q_ret | apply q_end | apply q_loop_exit | apply q_loop_ret | apply q_loopT_exit | apply q_loopT_ret | apply RW.nil) | ((with_reducible apply s3); exact rfl; exact by_k) | ((with_reducible apply s2); exact rfl; exact by_k) | ((with_reducible apply s4); exact rfl) | ((with_reducible apply s5); (first | exact by_oa); exact by_g) | ((with_reducible apply CW.cond_t); exact rfl; exact by_ks) | ((with_reducible apply CW.cond_f); exact rfl; exact by_ks) | ((with_reducible apply q_block_miss); exact rfl) | (refine And.intro (show chk [] [] _ _ = true by kernel_rfl) ?_))
      exact RetNew.nil rfl rfl
    | some ad =>
      repeat (first | (with_reducible apply stop_reg 3) | ((with_reducible apply s1); exact rfl) | (with_reducible first | apply CW.seq | apply CW.block | apply CW.region | apply CW.draw | apply CW.skip | apply CW.exit | apply CW.ret | apply q_then | apply q_then_exit | apply q_then_ret | apply q_block | apply q_block_ret | apply q_block_hit | apply q_ret | apply q_end | apply q_loop_exit | apply q_loop_ret | apply q_loopT_exit | apply q_loopT_ret | apply RW.nil) | ((with_reducible apply s3); exact rfl; exact by_k) | ((with_reducible apply s2); exact rfl; exact by_k) | ((with_reducible apply s4); exact rfl) | ((with_reducible apply s5); (first | exact by_oa); exact by_g) | ((with_reducible apply CW.cond_t); exact rfl; exact by_ks) | ((with_reducible apply CW.cond_f); exact rfl; exact by_ks) | ((with_reducible apply q_block_miss); exact rfl) | (refine And.intro (show chk [] [] _ _ = true by kernel_rfl) ?_))
      refine Stop.go (CW.stut (stut_nilv (i := 0) (k := 1)) ⟨rfl, trivial⟩ ?_)
      repeat (first | ((with_reducible apply s1); exact rfl) | (with_reducible first | apply CW.seq | apply CW.block | apply CW.region | apply CW.draw | apply CW.skip | apply CW.exit | apply CW.ret | apply q_then | apply q_then_exit | apply q_then_ret | apply q_block | apply q_block_ret | apply q_block_hit | apply q_ret | apply q_end | apply q_loop_exit | apply q_loop_ret | apply q_loopT_exit | apply q_loopT_ret | apply RW.nil) | ((with_reducible apply s3); exact rfl; exact by_k) | ((with_reducible apply s2); exact rfl; exact by_k) | ((with_reducible apply s4); exact rfl) | ((with_reducible apply s5); (first | exact by_oa); exact by_g) | ((with_reducible apply CW.cond_t); exact rfl; exact by_ks) | ((with_reducible apply CW.cond_f); exact rfl; exact by_ks) | ((with_reducible apply q_block_miss); exact rfl) | (refine And.intro (show chk [] [] _ _ = true by kernel_rfl) ?_))
      exact RetNew.own rfl rfl rfl
  | cons r rows =>
    have hl2 : rows.length ≤ 536870911 := by simp at hl; omega
    repeat (first | ((with_reducible apply s1); exact rfl) | (with_reducible first | apply CW.seq | apply CW.block | apply CW.region | apply CW.draw | apply CW.skip | apply CW.exit | apply CW.ret | apply q_then | apply q_then_exit | apply q_then_ret | apply q_block | apply q_block_ret | apply q_block_hit | apply q_ret | apply q_end | apply q_loop_exit | apply q_loop_ret | apply q_loopT_exit | apply q_loopT_ret | apply RW.nil) | ((with_reducible apply s3); exact rfl; exact by_k) | ((with_reducible apply s2); exact rfl; exact by_k) | ((with_reducible apply s4); exact rfl) | ((with_reducible apply s5); (first | exact by_oa); exact by_g) | ((with_reducible apply CW.cond_t); exact rfl; exact by_ks) | ((with_reducible apply CW.cond_f); exact rfl; exact by_ks) | ((with_reducible apply q_block_miss); exact rfl) | (refine And.intro (show chk [] [] _ _ = true by kernel_rfl) ?_))
    exact RetNew.own rfl rfl (by simp)
theorem ok_clone_str (rows : List (List D)) (hl : rows.length ≤ 536870912) : FnOk Tryd.prog 53 [.d (.sl 1 rows)] (.one (.sl 1 rows)) := (new_clone_str rows hl).ok

theorem new_clone_ins (rows : List (List D)) (hl : rows.length ≤ 536870912) : FnNew Tryd.prog 54 [.d (.sl 5 rows)] 86 5 rows := by
  refine fnNew_of tbl_ok mixed_ok Tryd.func54 rfl (by kernel_rfl) rfl rfl fun w0 own0 => ?_
  cases rows with
  | nil =>
    refine CW.empty 0 rfl fun p cp => ?_
    cases p with
    | none =>
      repeat (first | ((with_reducible apply s1); exact rfl) | (with_reducible first | apply CW.seq | apply CW.block | apply CW.region | apply CW.draw | apply CW.skip | apply CW.exit | apply CW.ret | apply q_then | apply q_then_exit | apply q_then_ret | apply q_block | apply q_block_ret | apply q_block_hit | apply q_ret | apply q_end | apply q_loop_exit | apply q_loop_ret | apply q_loopT_exit | apply q_loopT_ret | apply RW.nil) | ((with_reducible apply s3); exact rfl; exact by_k) | ((with_reducible apply s2); exact rfl; exact by_k) | ((with_reducible apply s4); exact rfl) | ((with_reducible apply s5); (first | exact by_oa); exact by_g) | ((with_reducible apply CW.cond_t); exact rfl; exact by_ks) | ((with_reducible apply CW.cond_f); exact rfl; exact by_ks) | ((with_reducible apply q_block_miss); exact rfl) | (refine And.intro (show chk [] [] _ _ = true by kernel_rfl) ?_))
      exact RetNew.nil rfl rfl
    | some ad =>
      repeat (first | (with_reducible apply stop_reg 3) | ((with_reducible apply s1); exact rfl) | (with_reducible first | apply CW.seq | apply CW.block | apply CW.region | apply CW.draw | apply CW.skip | apply CW.exit | apply CW.ret | apply q_then | apply q_then_exit | apply q_then_ret | apply q_block | apply q_block_ret | apply q_block_hit | apply q_ret | apply q_end | apply q_loop_exit | apply q_loop_ret | apply q_loopT_exit | apply q_loopT_ret | apply RW.nil) | ((with_reducible apply s3); exact rfl; exact by_k) | ((with_reducible apply s2); exact rfl; exact by_k) | ((with_reducible apply s4); exact rfl) | ((with_reducible apply s5); (first | exact by_oa); exact by_g) | ((with_reducible apply CW.cond_t); exact rfl; exact by_ks) | ((with_reducible apply CW.cond_f); exact rfl; exact by_ks) | ((with_reducible apply q_block_miss); exact rfl) | (refine And.intro (show chk [] [] _ _ = true by kernel_rfl) ?_))
      refine Stop.go (CW.stut (stut_nilv (i := 0) (k := 5)) ⟨rfl, trivial⟩ ?_)
      repeat (first | ((with_reducible apply s1); exact rfl) | (with_reducible first | apply CW.seq | apply CW.block | apply CW.region | apply CW.draw | apply CW.skip | apply CW.exit | apply CW.ret | apply q_then | apply q_then_exit | apply q_then_ret | apply q_block | apply q_block_ret | apply q_block_hit | apply q_ret | apply q_end | apply q_loop_exit | apply q_loop_ret | apply q_loopT_exit | apply q_loopT_ret | apply RW.nil) | ((with_reducible apply s3); exact rfl; exact by_k) | ((with_reducible apply s2); exact rfl; exact by_k) | ((with_reducible apply s4); exact rfl) | ((with_reducible apply s5); (first | exact by_oa); exact by_g) | ((with_reducible apply CW.cond_t); exact rfl; exact by_ks) | ((with_reducible apply CW.cond_f); exact rfl; exact by_ks) | ((with_reducible apply q_block_miss); exact rfl) | (refine And.intro (show chk [] [] _ _ = true by kernel_rfl) ?_))
      exact RetNew.own rfl rfl rfl
  | cons r rows =>
    have hl2 : rows.length ≤ 536870911 := by simp at hl; omega
    repeat (first | ((with_reducible apply s1); exact rfl) | (with_reducible first | apply CW.seq | apply CW.block | apply CW.region | apply CW.draw | apply CW.skip | apply CW.exit | apply CW.ret | apply q_then | apply q_then_exit | apply q_then_ret | apply q_block | apply q_block_ret | apply q_block_hit | apply q_ret | apply q_end | apply q_loop_exit | apply q_loop_ret | apply q_loopT_exit | apply q_loopT_ret | apply RW.nil) | ((with_reducible apply s3); exact rfl; exact by_k) | ((with_reducible apply s2); exact rfl; exact by_k) | ((with_reducible apply s4); exact rfl) | ((with_reducible apply s5); (first | exact by_oa); exact by_g) | ((with_reducible apply CW.cond_t); exact rfl; exact by_ks) | ((with_reducible apply CW.cond_f); exact rfl; exact by_ks) | ((with_reducible apply q_block_miss); exact rfl) | (refine And.intro (show chk [] [] _ _ = true by kernel_rfl) ?_))
    exact RetNew.own rfl rfl (by simp)
theorem ok_clone_ins (rows : List (List D)) (hl : rows.length ≤ 536870912) : FnOk Tryd.prog 54 [.d (.sl 5 rows)] (.one (.sl 5 rows)) := (new_clone_ins rows hl).ok

end Go.Proofs.YtembfadhnkabhaaDoor

/-! G3 -/
/-
  Contracts of the program's copies, and of what it counts in engines.
-/
namespace Go.Proofs.YtembfadhnkabhaaDoor
open Go.AX Go.RF

set_option maxRecDepth 100000
set_option maxHeartbeats 4000000

theorem ok_chainOwn (l : List Chain) (hl : l.length ≤ 268435456) (hv : ∀ c ∈ l, c.vs.length ≤ 268435456) : FnOk Tryd.prog 39 [.d (encChains l)] (.one (encChains l)) := by
  refine fnOk_of tbl_ok mixed_ok Tryd.func39 rfl (by kernel_rfl) rfl rfl fun w0 own0 => ?_
  repeat (first | ((with_reducible apply s1); exact rfl) | (with_reducible first | apply CW.seq | apply CW.block | apply CW.region | apply CW.draw | apply CW.skip | apply CW.exit | apply CW.ret | apply q_then | apply q_then_exit | apply q_then_ret | apply q_block | apply q_block_ret | apply q_block_hit | apply q_ret | apply q_end | apply q_loop_exit | apply q_loop_ret | apply q_loopT_exit | apply q_loopT_ret | apply RW.nil) | ((with_reducible apply s3); exact rfl; exact by_k) | ((with_reducible apply s2); exact rfl; exact by_k) | ((with_reducible apply s4); exact rfl) | ((with_reducible apply s5); (first | exact by_oa); exact by_g) | ((with_reducible apply CW.cond_t); exact rfl; exact by_ks) | ((with_reducible apply CW.cond_f); exact rfl; exact by_ks) | ((with_reducible apply q_block_miss); exact rfl) | (refine And.intro (show chk [] [] _ _ = true by kernel_rfl) ?_))
  refine CW.stut (stut_promote (i := 3) 59 2) ⟨rfl, rfl, trivial⟩ ?_
  refine CW.loopT (fun i : Nat => [sd 6 (encChains l), sd 7 (dint l.length), sd 8 (dint i), so 3 0 i, oa 0 59 2 ((l.take i).map Chain.enc), nxt 1]) (fun i => i ≤ l.length) (fun i => l.length - i) 0 (by omega) ?_ ?_
  ·
    exact by_less
  · rintro i hi
    rcases drop_case hi with ⟨h1, h2⟩ | ⟨c, h1, h2, h3⟩
    ·
      repeat (first | ((with_reducible apply s1); exact rfl) | (with_reducible first | apply CW.seq | apply CW.block | apply CW.region | apply CW.draw | apply CW.skip | apply CW.exit | apply CW.ret | apply q_then | apply q_then_exit | apply q_then_ret | apply q_block | apply q_block_ret | apply q_block_hit | apply q_ret | apply q_end | apply q_loop_exit | apply q_loop_ret | apply q_loopT_exit | apply q_loopT_ret | apply RW.nil) | ((with_reducible apply s3); exact rfl; exact by_k) | ((with_reducible apply s2); exact rfl; exact by_k) | ((with_reducible apply s4); exact rfl) | ((with_reducible apply s5); (first | exact by_oa); exact by_g) | ((with_reducible apply CW.cond_t); exact rfl; exact by_ks) | ((with_reducible apply CW.cond_f); exact rfl; exact by_ks) | ((with_reducible apply q_block_miss); exact rfl) | (refine And.intro (show chk [] [] _ _ = true by kernel_rfl) ?_))
      exact .one (.tmp rfl (.one (.own rfl (by simp; omega) (dle_eq (by rw [h2, List.take_length]; rfl)))))
    · have h4 : (l.take i).map Chain.enc ++ [c.enc] = (l.take (i + 1)).map Chain.enc := by rw [List.take_add_one, h2]; simp
      have hcv := hv c (List.mem_of_getElem? h2)
      have hc := ok_clone_version (c.vs.map Version.enc) (by simp; omega)
      repeat (first | ((with_reducible apply s1); exact rfl) | (with_reducible first | apply CW.seq | apply CW.block | apply CW.region | apply CW.draw | apply CW.skip | apply CW.exit | apply CW.ret | apply q_then | apply q_then_exit | apply q_then_ret | apply q_block | apply q_block_ret | apply q_block_hit | apply q_ret | apply q_end | apply q_loop_exit | apply q_loop_ret | apply q_loopT_exit | apply q_loopT_ret | apply RW.nil) | ((with_reducible apply s3); exact rfl; exact by_k) | ((with_reducible apply s2); exact rfl; exact by_k) | ((with_reducible apply s4); exact rfl) | ((with_reducible apply s5); (first | (focus ((with_reducible apply a_call); exact hc; exact rfl; (repeat (first | exact SubsE.nil | (apply SubsE.cons; exact rfl; (first | exact .d (.refl _) | exact .d (.nil _) | exact .agg rfl (.refl _) | exact .pd | exact .ptr rfl); (first | exact trivial | exact ⟨rfl, trivial⟩)))); done)) | exact by_oa); exact by_g) | ((with_reducible apply CW.cond_t); exact rfl; exact by_ks) | ((with_reducible apply CW.cond_f); exact rfl; exact by_ks) | ((with_reducible apply q_block_miss); exact rfl) | (refine And.intro (show chk [] [] _ _ = true by kernel_rfl) ?_))
      refine q_loopT (i + 1) (by omega) (by omega) ?_
      exact by_less

theorem ok_deedOwn (d : Deed) (hs : d.Sm) : FnOk Tryd.prog 42 [.d (.agg d.enc)] (.one (.agg d.enc)) := by
  refine fnOk_of tbl_ok mixed_ok Tryd.func42 rfl (by kernel_rfl) rfl rfl fun w0 own0 => ?_
  have h1 := hs.r
  have h2 := hs.w
  have h3 := hs.c
  have c1 := ok_clone_str (d.reads.map encStr1) (by simp; omega)
  have c2 := ok_clone_str (d.writes.map encStr1) (by simp; omega)
  have c3 := ok_clone_ins (d.code.map Ins.enc) (by simp; omega)
  repeat (first | ((with_reducible apply s1); exact rfl) | (with_reducible first | apply CW.seq | apply CW.block | apply CW.region | apply CW.draw | apply CW.skip | apply CW.exit | apply CW.ret | apply q_then | apply q_then_exit | apply q_then_ret | apply q_block | apply q_block_ret | apply q_block_hit | apply q_ret | apply q_end | apply q_loop_exit | apply q_loop_ret | apply q_loopT_exit | apply q_loopT_ret | apply RW.nil) | ((with_reducible apply s3); exact rfl; exact by_k) | ((with_reducible apply s2); exact rfl; exact by_k) | ((with_reducible apply s4); exact rfl) | ((with_reducible apply s5); (first | (focus ((with_reducible apply a_call); exact c1; exact rfl; (repeat (first | exact SubsE.nil | (apply SubsE.cons; exact rfl; (first | exact .d (.refl _) | exact .d (.nil _) | exact .agg rfl (.refl _) | exact .pd | exact .ptr rfl); (first | exact trivial | exact ⟨rfl, trivial⟩)))); done)) | (focus ((with_reducible apply a_call); exact c2; exact rfl; (repeat (first | exact SubsE.nil | (apply SubsE.cons; exact rfl; (first | exact .d (.refl _) | exact .d (.nil _) | exact .agg rfl (.refl _) | exact .pd | exact .ptr rfl); (first | exact trivial | exact ⟨rfl, trivial⟩)))); done)) | (focus ((with_reducible apply a_call); exact c3; exact rfl; (repeat (first | exact SubsE.nil | (apply SubsE.cons; exact rfl; (first | exact .d (.refl _) | exact .d (.nil _) | exact .agg rfl (.refl _) | exact .pd | exact .ptr rfl); (first | exact trivial | exact ⟨rfl, trivial⟩)))); done)) | exact by_oa); exact by_g) | ((with_reducible apply CW.cond_t); exact rfl; exact by_ks) | ((with_reducible apply CW.cond_f); exact rfl; exact by_ks) | ((with_reducible apply q_block_miss); exact rfl) | (refine And.intro (show chk [] [] _ _ = true by kernel_rfl) ?_))
  exact .one (.cell rfl rfl rfl rfl (.aggd (ds := d.enc) rfl (.refl _)))

theorem ok_planOwn (e : Engine) (hs : e.Sm) : FnOk Tryd.prog 23 [.d (.agg e.enc)] (.one (.agg e.enc)) := by
  refine fnOk_of tbl_ok mixed_ok Tryd.func23 rfl (by kernel_rfl) rfl rfl fun w0 own0 => ?_
  have h1 := hs.c
  have h2 := hs.s
  have h3 := hs.n
  have h4 := hs.d
  have c1 := ok_chainOwn e.chains (by omega) (fun c hc => by have := hs.v c hc; omega)
  have c2 := ok_clone_int (e.state.map encInt1) (by simp; omega)
  have c3 := ok_clone_done (e.ends.map Done.enc) (by simp; omega)
  repeat (first | ((with_reducible apply s1); exact rfl) | (with_reducible first | apply CW.seq | apply CW.block | apply CW.region | apply CW.draw | apply CW.skip | apply CW.exit | apply CW.ret | apply q_then | apply q_then_exit | apply q_then_ret | apply q_block | apply q_block_ret | apply q_block_hit | apply q_ret | apply q_end | apply q_loop_exit | apply q_loop_ret | apply q_loopT_exit | apply q_loopT_ret | apply RW.nil) | ((with_reducible apply s3); exact rfl; exact by_k) | ((with_reducible apply s2); exact rfl; exact by_k) | ((with_reducible apply s4); exact rfl) | ((with_reducible apply s5); (first | (focus ((with_reducible apply a_call); exact c1; exact rfl; (repeat (first | exact SubsE.nil | (apply SubsE.cons; exact rfl; (first | exact .d (.refl _) | exact .d (.nil _) | exact .agg rfl (.refl _) | exact .pd | exact .ptr rfl); (first | exact trivial | exact ⟨rfl, trivial⟩)))); done)) | (focus ((with_reducible apply a_call); exact c2; exact rfl; (repeat (first | exact SubsE.nil | (apply SubsE.cons; exact rfl; (first | exact .d (.refl _) | exact .d (.nil _) | exact .agg rfl (.refl _) | exact .pd | exact .ptr rfl); (first | exact trivial | exact ⟨rfl, trivial⟩)))); done)) | (focus ((with_reducible apply a_call); exact c3; exact rfl; (repeat (first | exact SubsE.nil | (apply SubsE.cons; exact rfl; (first | exact .d (.refl _) | exact .d (.nil _) | exact .agg rfl (.refl _) | exact .pd | exact .ptr rfl); (first | exact trivial | exact ⟨rfl, trivial⟩)))); done)) | exact by_oa); exact by_g) | ((with_reducible apply CW.cond_t); exact rfl; exact by_ks) | ((with_reducible apply CW.cond_f); exact rfl; exact by_ks) | ((with_reducible apply q_block_miss); exact rfl) | (refine And.intro (show chk [] [] _ _ = true by kernel_rfl) ?_))
  refine CW.stut (stut_promote_cell (id := 2) (j := 1) 51 3 rfl) ⟨rfl, rfl, trivial⟩ ?_
  refine CW.loopT (fun i : Nat => [sp 2 1, ob 1 noE.enc0, sp 3 2, (.o 2, .ob (.box [.d (encChains e.chains), .own 3 i, .d (encInts e.state), .d (encEnds e.ends), .d (dint e.base)])), sd 19 (encDeeds e.deeds), sd 20 (dint e.deeds.length), sd 21 (dint i),
      oa 3 51 3 ((e.deeds.take i).map Deed.enc), nxt 4]) (fun i => i ≤ e.deeds.length) (fun i => e.deeds.length - i) 0 (by omega) ?_ ?_
  ·
    exact by_less
  · rintro i hi
    rcases drop_case hi with ⟨h5, h6⟩ | ⟨d, h5, h6, h7⟩
    · have h8 : (e.deeds.take i).map Deed.enc = e.deeds.map Deed.enc := by rw [h6, List.take_length]
      repeat (first | (with_reducible apply stop_reg 7) | ((with_reducible apply s1); exact rfl) | (with_reducible first | apply CW.seq | apply CW.block | apply CW.region | apply CW.draw | apply CW.skip | apply CW.exit | apply CW.ret | apply q_then | apply q_then_exit | apply q_then_ret | apply q_block | apply q_block_ret | apply q_block_hit | apply q_ret | apply q_end | apply q_loop_exit | apply q_loop_ret | apply q_loopT_exit | apply q_loopT_ret | apply RW.nil) | ((with_reducible apply s3); exact rfl; exact by_k) | ((with_reducible apply s2); exact rfl; exact by_k) | ((with_reducible apply s4); exact rfl) | ((with_reducible apply s5); (first | exact by_oa); exact by_g) | ((with_reducible apply CW.cond_t); exact rfl; exact by_ks) | ((with_reducible apply CW.cond_f); exact rfl; exact by_ks) | ((with_reducible apply q_block_miss); exact rfl) | (refine And.intro (show chk [] [] _ _ = true by kernel_rfl) ?_))
      refine Stop.go (CW.stut (stut_freeze_cell (id := 2) (j := 1) (i := 3) rfl (by simp; omega)) ⟨rfl, rfl, trivial⟩ ?_)
      repeat (first | ((with_reducible apply s1); exact rfl) | (with_reducible first | apply CW.seq | apply CW.block | apply CW.region | apply CW.draw | apply CW.skip | apply CW.exit | apply CW.ret | apply q_then | apply q_then_exit | apply q_then_ret | apply q_block | apply q_block_ret | apply q_block_hit | apply q_ret | apply q_end | apply q_loop_exit | apply q_loop_ret | apply q_loopT_exit | apply q_loopT_ret | apply RW.nil) | ((with_reducible apply s3); exact rfl; exact by_k) | ((with_reducible apply s2); exact rfl; exact by_k) | ((with_reducible apply s4); exact rfl) | ((with_reducible apply s5); (first | exact by_oa); exact by_g) | ((with_reducible apply CW.cond_t); exact rfl; exact by_ks) | ((with_reducible apply CW.cond_f); exact rfl; exact by_ks) | ((with_reducible apply q_block_miss); exact rfl) | (refine And.intro (show chk [] [] _ _ = true by kernel_rfl) ?_))
      exact .one (.cell rfl rfl rfl rfl (.aggd (ds := [encChains e.chains, .sl 3 ((e.deeds.take i).map Deed.enc), encInts e.state, encEnds e.ends, dint e.base]) rfl (dle_eq (by rw [h8]; rfl))))
    · have h8 : (e.deeds.take i).map Deed.enc ++ [d.enc] = (e.deeds.take (i + 1)).map Deed.enc := by rw [List.take_add_one, h6]; simp
      have hd := ok_deedOwn d (hs.dd d (List.mem_of_getElem? h6))
      repeat (first | ((with_reducible apply s1); exact rfl) | (with_reducible first | apply CW.seq | apply CW.block | apply CW.region | apply CW.draw | apply CW.skip | apply CW.exit | apply CW.ret | apply q_then | apply q_then_exit | apply q_then_ret | apply q_block | apply q_block_ret | apply q_block_hit | apply q_ret | apply q_end | apply q_loop_exit | apply q_loop_ret | apply q_loopT_exit | apply q_loopT_ret | apply RW.nil) | ((with_reducible apply s3); exact rfl; exact by_k) | ((with_reducible apply s2); exact rfl; exact by_k) | ((with_reducible apply s4); exact rfl) | ((with_reducible apply s5); (first | (focus ((with_reducible apply a_call); exact hd; exact rfl; (repeat (first | exact SubsE.nil | (apply SubsE.cons; exact rfl; (first | exact .d (.refl _) | exact .d (.nil _) | exact .agg rfl (.refl _) | exact .pd | exact .ptr rfl); (first | exact trivial | exact ⟨rfl, trivial⟩)))); done)) | exact by_oa); exact by_g) | ((with_reducible apply CW.cond_t); exact rfl; exact by_ks) | ((with_reducible apply CW.cond_f); exact rfl; exact by_ks) | ((with_reducible apply q_block_miss); exact rfl) | (refine And.intro (show chk [] [] _ _ = true by kernel_rfl) ?_))
      refine q_loopT (i + 1) (by omega) (by omega) ?_
      exact by_less

end Go.Proofs.YtembfadhnkabhaaDoor

/-! G4 -/
/-
  Contracts of the program's Clear of chains, Of, Size, Mark.
-/
namespace Go.Proofs.YtembfadhnkabhaaDoor
open Go.AX Go.RF

set_option maxRecDepth 100000
set_option maxHeartbeats 8000000

def lastGo (b : Int) : Nat → Int → List Version → Int
  | _, la, [] => la
  | k, la, v :: r => lastGo b (k + 1) (if v.by_ < b then (k : Int) else la) r
def keepB (la : Int) (k : Nat) (v : Version) : Bool := decide (la ≤ k) && !(decide ((k : Int) = la) && (v.made && !v.has))
def keepGo (la : Int) : Nat → List Version → List Version
  | _, [] => []
  | k, v :: r => if keepB la k v = true then v :: keepGo la (k + 1) r else keepGo la (k + 1) r
def pclrV (b : Int) (l : List Version) : List Version := keepGo (lastGo b 0 (-1) l) 0 l
def pclear (b : Int) : List Chain → List Chain
  | [] => []
  | c :: r => if pclrV b c.vs = [] then pclear b r else ⟨c.key, pclrV b c.vs⟩ :: pclear b r

theorem ok_pclear (l : List Chain) (b : Int) (hl : l.length ≤ 268435456) (hv : ∀ c ∈ l, c.vs.length ≤ 268435456) : FnOk Tryd.prog 24 [.d (encChains l), .d (dint b)] (.one (encChains (pclear b l))) := by
  refine fnOk_of tbl_ok mixed_ok Tryd.func24 rfl (by kernel_rfl) rfl rfl fun w0 own0 => ?_
  repeat (first | ((with_reducible apply s1); exact rfl) | (with_reducible first | apply CW.seq | apply CW.block | apply CW.region | apply CW.draw | apply CW.skip | apply CW.exit | apply CW.ret | apply q_then | apply q_then_exit | apply q_then_ret | apply q_block | apply q_block_ret | apply q_block_hit | apply q_ret | apply q_end | apply q_loop_exit | apply q_loop_ret | apply q_loopT_exit | apply q_loopT_ret | apply RW.nil) | ((with_reducible apply s3); exact rfl; exact by_k) | ((with_reducible apply s2); exact rfl; exact by_k) | ((with_reducible apply s4); exact rfl) | ((with_reducible apply s5); (first | exact by_oa); exact by_g) | ((with_reducible apply CW.cond_t); exact rfl; exact by_ks) | ((with_reducible apply CW.cond_f); exact rfl; exact by_ks) | ((with_reducible apply q_block_miss); exact rfl) | (refine And.intro (show chk [] [] _ _ = true by kernel_rfl) ?_))
  refine CW.stut (stut_promote (i := 5) 59 2) ⟨rfl, rfl, trivial⟩ ?_
  refine CW.loopT (fun t : Nat × List Chain => [sd 1 (dint b), so 5 0 t.2.length, oa 0 59 2 (t.2.map Chain.enc), sd 14 (encChains l), sd 15 (dint l.length), sd 16 (dint t.1), nxt 1])
    (fun t => t.1 ≤ l.length ∧ t.2.length ≤ t.1 ∧ t.2 ++ pclear b (l.drop t.1) = pclear b l) (fun t => l.length - t.1) (0, []) ⟨by omega, by simp, rfl⟩ ?_ ?_
  ·
    exact by_less
  · rintro ⟨i, out⟩ ⟨hi, ho, hI⟩
    dsimp only at hi ho hI ⊢
    rcases drop_case hi with ⟨h1, h2⟩ | ⟨c, h1, h2, h3⟩
    · rw [h1, pclear, List.append_nil] at hI
      repeat (first | ((with_reducible apply s1); exact rfl) | (with_reducible first | apply CW.seq | apply CW.block | apply CW.region | apply CW.draw | apply CW.skip | apply CW.exit | apply CW.ret | apply q_then | apply q_then_exit | apply q_then_ret | apply q_block | apply q_block_ret | apply q_block_hit | apply q_ret | apply q_end | apply q_loop_exit | apply q_loop_ret | apply q_loopT_exit | apply q_loopT_ret | apply RW.nil) | ((with_reducible apply s3); exact rfl; exact by_k) | ((with_reducible apply s2); exact rfl; exact by_k) | ((with_reducible apply s4); exact rfl) | ((with_reducible apply s5); (first | exact by_oa); exact by_g) | ((with_reducible apply CW.cond_t); exact rfl; exact by_ks) | ((with_reducible apply CW.cond_f); exact rfl; exact by_ks) | ((with_reducible apply q_block_miss); exact rfl) | (refine And.intro (show chk [] [] _ _ = true by kernel_rfl) ?_))
      rw [← hI]
      exact .one (.tmp rfl (.one (.own rfl (by simp) (.refl _))))
    · rw [h1, pclear] at hI
      have hcv := hv c (List.mem_of_getElem? h2)
      repeat (first | ((with_reducible apply s1); exact rfl) | (with_reducible first | apply CW.seq | apply CW.block | apply CW.region | apply CW.draw | apply CW.skip | apply CW.exit | apply CW.ret | apply q_then | apply q_then_exit | apply q_then_ret | apply q_block | apply q_block_ret | apply q_block_hit | apply q_ret | apply q_end | apply q_loop_exit | apply q_loop_ret | apply q_loopT_exit | apply q_loopT_ret | apply RW.nil) | ((with_reducible apply s3); exact rfl; exact by_k) | ((with_reducible apply s2); exact rfl; exact by_k) | ((with_reducible apply s4); exact rfl) | ((with_reducible apply s5); (first | exact by_oa); exact by_g) | ((with_reducible apply CW.cond_t); exact rfl; exact by_ks) | ((with_reducible apply CW.cond_f); exact rfl; exact by_ks) | ((with_reducible apply q_block_miss); exact rfl) | (refine And.intro (show chk [] [] _ _ = true by kernel_rfl) ?_))
      refine CW.loopT (fun t : Nat × Int => [sd 1 (dint b), so 5 0 out.length, oa 0 59 2 (out.map Chain.enc), sd 14 (encChains l), sd 15 (dint l.length), sd 16 (dint i), sp 7 1, ob 1 c.enc, sd 8 (dint t.2), sd 21 (encVs c.vs), sd 22 (dint c.vs.length), sd 23 (dint t.1), nxt 2])
        (fun t => t.1 ≤ c.vs.length ∧ lastGo b t.1 t.2 (c.vs.drop t.1) = lastGo b 0 (-1) c.vs) (fun t => c.vs.length - t.1) (0, -1) ⟨by omega, rfl⟩ ?_ ?_
      ·
        exact by_less
      · rintro ⟨j, la⟩ ⟨hj, hJ⟩
        dsimp only at hj hJ ⊢
        rcases drop_case hj with ⟨h5, h6⟩ | ⟨x, h5, h6, h7⟩
        · rw [h5, lastGo] at hJ
          rw [pclrV, ← hJ] at hI
          clear hJ h5
          repeat (first | ((with_reducible apply s1); exact rfl) | (with_reducible first | apply CW.seq | apply CW.block | apply CW.region | apply CW.draw | apply CW.skip | apply CW.exit | apply CW.ret | apply q_then | apply q_then_exit | apply q_then_ret | apply q_block | apply q_block_ret | apply q_block_hit | apply q_ret | apply q_end | apply q_loop_exit | apply q_loop_ret | apply q_loopT_exit | apply q_loopT_ret | apply RW.nil) | ((with_reducible apply s3); exact rfl; exact by_k) | ((with_reducible apply s2); exact rfl; exact by_k) | ((with_reducible apply s4); exact rfl) | ((with_reducible apply s5); (first | exact by_oa); exact by_g) | ((with_reducible apply CW.cond_t); exact rfl; exact by_ks) | ((with_reducible apply CW.cond_f); exact rfl; exact by_ks) | ((with_reducible apply q_block_miss); exact rfl) | (refine And.intro (show chk [] [] _ _ = true by kernel_rfl) ?_))
          refine CW.stut (stut_promote (i := 11) 68 4) ⟨rfl, rfl, trivial⟩ ?_
          refine CW.loopT (fun t : Nat × List Version => [sd 1 (dint b), so 5 0 out.length, oa 0 59 2 (out.map Chain.enc), sd 14 (encChains l), sd 15 (dint l.length), sd 16 (dint i), sp 7 1, ob 1 c.enc, sd 8 (dint la), so 11 2 t.2.length, oa 2 68 4 (t.2.map Version.enc), sd 35 (encVs c.vs), sd 36 (dint c.vs.length), sd 37 (dint t.1), nxt 3])
            (fun t => t.1 ≤ c.vs.length ∧ t.2.length ≤ t.1 ∧ t.2 ++ keepGo la t.1 (c.vs.drop t.1) = keepGo la 0 c.vs) (fun t => c.vs.length - t.1) (0, []) ⟨by omega, by simp, rfl⟩ ?_ ?_
          ·
            exact by_less
          · rintro ⟨k, vs⟩ ⟨hk, hvs, hK⟩
            dsimp only at hk hvs hK ⊢
            rcases drop_case hk with ⟨g1, g2⟩ | ⟨x, g1, g2, g3⟩
            · rw [g1, keepGo, List.append_nil] at hK
              rw [← hK] at hI
              repeat (first | (with_reducible apply stop_reg 19) | ((with_reducible apply s1); exact rfl) | (with_reducible first | apply CW.seq | apply CW.block | apply CW.region | apply CW.draw | apply CW.skip | apply CW.exit | apply CW.ret | apply q_then | apply q_then_exit | apply q_then_ret | apply q_block | apply q_block_ret | apply q_block_hit | apply q_ret | apply q_end | apply q_loop_exit | apply q_loop_ret | apply q_loopT_exit | apply q_loopT_ret | apply RW.nil) | ((with_reducible apply s3); exact rfl; exact by_k) | ((with_reducible apply s2); exact rfl; exact by_k) | ((with_reducible apply s4); exact rfl) | ((with_reducible apply s5); (first | exact by_oa); exact by_g) | ((with_reducible apply CW.cond_t); exact rfl; exact by_ks) | ((with_reducible apply CW.cond_f); exact rfl; exact by_ks) | ((with_reducible apply q_block_miss); exact rfl) | (refine And.intro (show chk [] [] _ _ = true by kernel_rfl) ?_))
              refine Stop.go (CW.stut (stut_freeze (i := 11) (id := 2) (by simp)) ⟨rfl, rfl, trivial⟩ ?_)
              cases vs with
              | nil =>
                rw [if_pos rfl] at hI
                repeat (first | ((with_reducible apply s1); exact rfl) | (with_reducible first | apply CW.seq | apply CW.block | apply CW.region | apply CW.draw | apply CW.skip | apply CW.exit | apply CW.ret | apply q_then | apply q_then_exit | apply q_then_ret | apply q_block | apply q_block_ret | apply q_block_hit | apply q_ret | apply q_end | apply q_loop_exit | apply q_loop_ret | apply q_loopT_exit | apply q_loopT_ret | apply RW.nil) | ((with_reducible apply s3); exact rfl; exact by_k) | ((with_reducible apply s2); exact rfl; exact by_k) | ((with_reducible apply s4); exact rfl) | ((with_reducible apply s5); (first | exact by_oa); exact by_g) | ((with_reducible apply CW.cond_t); exact rfl; exact by_ks) | ((with_reducible apply CW.cond_f); exact rfl; exact by_ks) | ((with_reducible apply q_block_miss); exact rfl) | (refine And.intro (show chk [] [] _ _ = true by kernel_rfl) ?_))
                refine q_loopT (i + 1, out) ⟨by dsimp only; omega, by dsimp only; omega, hI⟩ (by dsimp only; omega) ?_
                exact by_less
              | cons v0 vs =>
                rw [if_neg (by simp)] at hI
                repeat (first | ((with_reducible apply s1); exact rfl) | (with_reducible first | apply CW.seq | apply CW.block | apply CW.region | apply CW.draw | apply CW.skip | apply CW.exit | apply CW.ret | apply q_then | apply q_then_exit | apply q_then_ret | apply q_block | apply q_block_ret | apply q_block_hit | apply q_ret | apply q_end | apply q_loop_exit | apply q_loop_ret | apply q_loopT_exit | apply q_loopT_ret | apply RW.nil) | ((with_reducible apply s3); exact rfl; exact by_k) | ((with_reducible apply s2); exact rfl; exact by_k) | ((with_reducible apply s4); exact rfl) | ((with_reducible apply s5); (first | exact by_oa); exact by_g) | ((with_reducible apply CW.cond_t); exact rfl; exact by_ks) | ((with_reducible apply CW.cond_f); exact rfl; exact by_ks) | ((with_reducible apply q_block_miss); exact rfl) | (refine And.intro (show chk [] [] _ _ = true by kernel_rfl) ?_))
                refine q_loopT (i + 1, out ++ [⟨c.key, v0 :: vs⟩]) ⟨by dsimp only; omega, by dsimp only; simp; omega, by rw [← hI]; simp⟩ (by dsimp only; omega) ?_
                exact by_less
            · rw [g1, keepGo] at hK
              obtain ⟨xb, xm, xh, xn⟩ := x
              have hyes : keepB la k ⟨xb, xm, xh, xn⟩ = true → (vs ++ [⟨xb, xm, xh, xn⟩]) ++ keepGo la (k + 1) (c.vs.drop (k + 1)) = keepGo la 0 c.vs := fun e => by
                rw [if_pos e] at hK; rw [← hK]; simp
              have hno : keepB la k ⟨xb, xm, xh, xn⟩ = false → vs ++ keepGo la (k + 1) (c.vs.drop (k + 1)) = keepGo la 0 c.vs := fun e => by
                rw [if_neg (by rw [e]; simp)] at hK; exact hK
              clear hK
              by_cases e1 : la ≤ (k : Int)
              · by_cases e2 : (k : Int) = la
                · cases xm
                  ·
                    repeat (first | ((with_reducible apply s1); exact rfl) | (with_reducible first | apply CW.seq | apply CW.block | apply CW.region | apply CW.draw | apply CW.skip | apply CW.exit | apply CW.ret | apply q_then | apply q_then_exit | apply q_then_ret | apply q_block | apply q_block_ret | apply q_block_hit | apply q_ret | apply q_end | apply q_loop_exit | apply q_loop_ret | apply q_loopT_exit | apply q_loopT_ret | apply RW.nil) | ((with_reducible apply s3); exact rfl; exact by_k) | ((with_reducible apply s2); exact rfl; exact by_k) | ((with_reducible apply s4); exact rfl) | ((with_reducible apply s5); (first | exact by_oa); exact by_g) | ((with_reducible apply CW.cond_t); exact rfl; exact by_ks) | ((with_reducible apply CW.cond_f); exact rfl; exact by_ks) | ((with_reducible apply q_block_miss); exact rfl) | (refine And.intro (show chk [] [] _ _ = true by kernel_rfl) ?_))
                    refine q_loopT (k + 1, vs ++ [⟨xb, false, xh, xn⟩]) ⟨by dsimp only; omega, by dsimp only; simp; omega, hyes (by simp [keepB, e1])⟩ (by dsimp only; omega) ?_
                    exact by_less
                  · cases xh
                    ·
                      repeat (first | ((with_reducible apply s1); exact rfl) | (with_reducible first | apply CW.seq | apply CW.block | apply CW.region | apply CW.draw | apply CW.skip | apply CW.exit | apply CW.ret | apply q_then | apply q_then_exit | apply q_then_ret | apply q_block | apply q_block_ret | apply q_block_hit | apply q_ret | apply q_end | apply q_loop_exit | apply q_loop_ret | apply q_loopT_exit | apply q_loopT_ret | apply RW.nil) | ((with_reducible apply s3); exact rfl; exact by_k) | ((with_reducible apply s2); exact rfl; exact by_k) | ((with_reducible apply s4); exact rfl) | ((with_reducible apply s5); (first | exact by_oa); exact by_g) | ((with_reducible apply CW.cond_t); exact rfl; exact by_ks) | ((with_reducible apply CW.cond_f); exact rfl; exact by_ks) | ((with_reducible apply q_block_miss); exact rfl) | (refine And.intro (show chk [] [] _ _ = true by kernel_rfl) ?_))
                      refine q_loopT (k + 1, vs) ⟨by dsimp only; omega, by dsimp only; omega, hno (by simp [keepB, e2])⟩ (by dsimp only; omega) ?_
                      exact by_less
                    ·
                      repeat (first | ((with_reducible apply s1); exact rfl) | (with_reducible first | apply CW.seq | apply CW.block | apply CW.region | apply CW.draw | apply CW.skip | apply CW.exit | apply CW.ret | apply q_then | apply q_then_exit | apply q_then_ret | apply q_block | apply q_block_ret | apply q_block_hit | apply q_ret | apply q_end | apply q_loop_exit | apply q_loop_ret | apply q_loopT_exit | apply q_loopT_ret | apply RW.nil) | ((with_reducible apply s3); exact rfl; exact by_k) | ((with_reducible apply s2); exact rfl; exact by_k) | ((with_reducible apply s4); exact rfl) | ((with_reducible apply s5); (first | exact by_oa); exact by_g) | ((with_reducible apply CW.cond_t); exact rfl; exact by_ks) | ((with_reducible apply CW.cond_f); exact rfl; exact by_ks) | ((with_reducible apply q_block_miss); exact rfl) | (refine And.intro (show chk [] [] _ _ = true by kernel_rfl) ?_))
                      refine q_loopT (k + 1, vs ++ [⟨xb, true, true, xn⟩]) ⟨by dsimp only; omega, by dsimp only; simp; omega, hyes (by simp [keepB, e1])⟩ (by dsimp only; omega) ?_
                      exact by_less
                ·
                  repeat (first | ((with_reducible apply s1); exact rfl) | (with_reducible first | apply CW.seq | apply CW.block | apply CW.region | apply CW.draw | apply CW.skip | apply CW.exit | apply CW.ret | apply q_then | apply q_then_exit | apply q_then_ret | apply q_block | apply q_block_ret | apply q_block_hit | apply q_ret | apply q_end | apply q_loop_exit | apply q_loop_ret | apply q_loopT_exit | apply q_loopT_ret | apply RW.nil) | ((with_reducible apply s3); exact rfl; exact by_k) | ((with_reducible apply s2); exact rfl; exact by_k) | ((with_reducible apply s4); exact rfl) | ((with_reducible apply s5); (first | exact by_oa); exact by_g) | ((with_reducible apply CW.cond_t); exact rfl; exact by_ks) | ((with_reducible apply CW.cond_f); exact rfl; exact by_ks) | ((with_reducible apply q_block_miss); exact rfl) | (refine And.intro (show chk [] [] _ _ = true by kernel_rfl) ?_))
                  refine q_loopT (k + 1, vs ++ [⟨xb, xm, xh, xn⟩]) ⟨by dsimp only; omega, by dsimp only; simp; omega, hyes (by simp [keepB, e1, e2])⟩ (by dsimp only; omega) ?_
                  exact by_less
              ·
                repeat (first | ((with_reducible apply s1); exact rfl) | (with_reducible first | apply CW.seq | apply CW.block | apply CW.region | apply CW.draw | apply CW.skip | apply CW.exit | apply CW.ret | apply q_then | apply q_then_exit | apply q_then_ret | apply q_block | apply q_block_ret | apply q_block_hit | apply q_ret | apply q_end | apply q_loop_exit | apply q_loop_ret | apply q_loopT_exit | apply q_loopT_ret | apply RW.nil) | ((with_reducible apply s3); exact rfl; exact by_k) | ((with_reducible apply s2); exact rfl; exact by_k) | ((with_reducible apply s4); exact rfl) | ((with_reducible apply s5); (first | exact by_oa); exact by_g) | ((with_reducible apply CW.cond_t); exact rfl; exact by_ks) | ((with_reducible apply CW.cond_f); exact rfl; exact by_ks) | ((with_reducible apply q_block_miss); exact rfl) | (refine And.intro (show chk [] [] _ _ = true by kernel_rfl) ?_))
                refine q_loopT (k + 1, vs) ⟨by dsimp only; omega, by dsimp only; omega, hno (by simp [keepB, e1])⟩ (by dsimp only; omega) ?_
                exact by_less
        · rw [h5, lastGo] at hJ
          by_cases h8 : x.by_ < b
          · rw [if_pos h8] at hJ
            repeat (first | ((with_reducible apply s1); exact rfl) | (with_reducible first | apply CW.seq | apply CW.block | apply CW.region | apply CW.draw | apply CW.skip | apply CW.exit | apply CW.ret | apply q_then | apply q_then_exit | apply q_then_ret | apply q_block | apply q_block_ret | apply q_block_hit | apply q_ret | apply q_end | apply q_loop_exit | apply q_loop_ret | apply q_loopT_exit | apply q_loopT_ret | apply RW.nil) | ((with_reducible apply s3); exact rfl; exact by_k) | ((with_reducible apply s2); exact rfl; exact by_k) | ((with_reducible apply s4); exact rfl) | ((with_reducible apply s5); (first | exact by_oa); exact by_g) | ((with_reducible apply CW.cond_t); exact rfl; exact by_ks) | ((with_reducible apply CW.cond_f); exact rfl; exact by_ks) | ((with_reducible apply q_block_miss); exact rfl) | (refine And.intro (show chk [] [] _ _ = true by kernel_rfl) ?_))
            refine q_loopT (j + 1, (j : Int)) ⟨by dsimp only; omega, hJ⟩ (by dsimp only; omega) ?_
            exact by_less
          · rw [if_neg h8] at hJ
            repeat (first | ((with_reducible apply s1); exact rfl) | (with_reducible first | apply CW.seq | apply CW.block | apply CW.region | apply CW.draw | apply CW.skip | apply CW.exit | apply CW.ret | apply q_then | apply q_then_exit | apply q_then_ret | apply q_block | apply q_block_ret | apply q_block_hit | apply q_ret | apply q_end | apply q_loop_exit | apply q_loop_ret | apply q_loopT_exit | apply q_loopT_ret | apply RW.nil) | ((with_reducible apply s3); exact rfl; exact by_k) | ((with_reducible apply s2); exact rfl; exact by_k) | ((with_reducible apply s4); exact rfl) | ((with_reducible apply s5); (first | exact by_oa); exact by_g) | ((with_reducible apply CW.cond_t); exact rfl; exact by_ks) | ((with_reducible apply CW.cond_f); exact rfl; exact by_ks) | ((with_reducible apply q_block_miss); exact rfl) | (refine And.intro (show chk [] [] _ _ = true by kernel_rfl) ?_))
            refine q_loopT (j + 1, la) ⟨by dsimp only; omega, hJ⟩ (by dsimp only; omega) ?_
            exact by_less

def sizeGo : Int → List Chain → Int
  | n, [] => n
  | n, c :: r => sizeGo (n + c.vs.length) r

theorem ok_size (e : Engine) (hs : e.Sm) : FnOk Tryd.prog 11 [.d (.agg e.enc)] (.one (dint (sizeGo 0 e.chains))) := by
  refine fnOk_of tbl_ok mixed_ok Tryd.func11 rfl (by kernel_rfl) rfl rfl fun w0 own0 => ?_
  have hc := hs.c
  repeat (first | ((with_reducible apply s1); exact rfl) | (with_reducible first | apply CW.seq | apply CW.block | apply CW.region | apply CW.draw | apply CW.skip | apply CW.exit | apply CW.ret | apply q_then | apply q_then_exit | apply q_then_ret | apply q_block | apply q_block_ret | apply q_block_hit | apply q_ret | apply q_end | apply q_loop_exit | apply q_loop_ret | apply q_loopT_exit | apply q_loopT_ret | apply RW.nil) | ((with_reducible apply s3); exact rfl; exact by_k) | ((with_reducible apply s2); exact rfl; exact by_k) | ((with_reducible apply s4); exact rfl) | ((with_reducible apply s5); (first | exact by_oa); exact by_g) | ((with_reducible apply CW.cond_t); exact rfl; exact by_ks) | ((with_reducible apply CW.cond_f); exact rfl; exact by_ks) | ((with_reducible apply q_block_miss); exact rfl) | (refine And.intro (show chk [] [] _ _ = true by kernel_rfl) ?_))
  refine CW.loopT (fun t : Nat × Int => [sd 3 (dint t.2), sd 7 (encChains e.chains), sd 8 (dint e.chains.length), sd 9 (dint t.1), nxt 1])
    (fun t => t.1 ≤ e.chains.length ∧ (0 ≤ t.2 ∧ t.2 ≤ 134217728 * t.1) ∧ sizeGo t.2 (e.chains.drop t.1) = sizeGo 0 e.chains) (fun t => e.chains.length - t.1) (0, 0) ⟨by omega, by simp, rfl⟩ ?_ ?_
  ·
    exact by_less
  · rintro ⟨i, n⟩ ⟨hi, hn, hI⟩
    dsimp only at hi hn hI ⊢
    rcases drop_case hi with ⟨h1, h2⟩ | ⟨c, h1, h2, h3⟩
    · rw [h1] at hI
      simp only [sizeGo] at hI
      repeat (first | ((with_reducible apply s1); exact rfl) | (with_reducible first | apply CW.seq | apply CW.block | apply CW.region | apply CW.draw | apply CW.skip | apply CW.exit | apply CW.ret | apply q_then | apply q_then_exit | apply q_then_ret | apply q_block | apply q_block_ret | apply q_block_hit | apply q_ret | apply q_end | apply q_loop_exit | apply q_loop_ret | apply q_loopT_exit | apply q_loopT_ret | apply RW.nil) | ((with_reducible apply s3); exact rfl; exact by_k) | ((with_reducible apply s2); exact rfl; exact by_k) | ((with_reducible apply s4); exact rfl) | ((with_reducible apply s5); (first | exact by_oa); exact by_g) | ((with_reducible apply CW.cond_t); exact rfl; exact by_ks) | ((with_reducible apply CW.cond_f); exact rfl; exact by_ks) | ((with_reducible apply q_block_miss); exact rfl) | (refine And.intro (show chk [] [] _ _ = true by kernel_rfl) ?_))
      exact .one (.tmp rfl (.one (.d (dle_int hI))))
    · rw [h1] at hI
      simp only [sizeGo] at hI
      have hv := hs.v c (List.mem_of_getElem? h2)
      repeat (first | ((with_reducible apply s1); exact rfl) | (with_reducible first | apply CW.seq | apply CW.block | apply CW.region | apply CW.draw | apply CW.skip | apply CW.exit | apply CW.ret | apply q_then | apply q_then_exit | apply q_then_ret | apply q_block | apply q_block_ret | apply q_block_hit | apply q_ret | apply q_end | apply q_loop_exit | apply q_loop_ret | apply q_loopT_exit | apply q_loopT_ret | apply RW.nil) | ((with_reducible apply s3); exact rfl; exact by_k) | ((with_reducible apply s2); exact rfl; exact by_k) | ((with_reducible apply s4); exact rfl) | ((with_reducible apply s5); (first | exact by_oa); exact by_g) | ((with_reducible apply CW.cond_t); exact rfl; exact by_ks) | ((with_reducible apply CW.cond_f); exact rfl; exact by_ks) | ((with_reducible apply q_block_miss); exact rfl) | (refine And.intro (show chk [] [] _ _ = true by kernel_rfl) ?_))
      refine q_loopT (i + 1, n + c.vs.length) ⟨by dsimp only; omega, by dsimp only; omega, hI⟩ (by dsimp only; omega) ?_
      exact by_less

theorem ok_tmark (e : Engine) (hs : e.state.length ≤ 134217728) : FnOk Tryd.prog 9 [.d (.agg e.enc)] (.one (dint (markN e.state))) := by
  refine fnOk_of tbl_ok mixed_ok Tryd.func9 rfl (by kernel_rfl) rfl rfl fun w0 own0 => ?_
  repeat (first | ((with_reducible apply s1); exact rfl) | (with_reducible first | apply CW.seq | apply CW.block | apply CW.region | apply CW.draw | apply CW.skip | apply CW.exit | apply CW.ret | apply q_then | apply q_then_exit | apply q_then_ret | apply q_block | apply q_block_ret | apply q_block_hit | apply q_ret | apply q_end | apply q_loop_exit | apply q_loop_ret | apply q_loopT_exit | apply q_loopT_ret | apply RW.nil) | ((with_reducible apply s3); exact rfl; exact by_k) | ((with_reducible apply s2); exact rfl; exact by_k) | ((with_reducible apply s4); exact rfl) | ((with_reducible apply s5); (first | exact by_oa); exact by_g) | ((with_reducible apply CW.cond_t); exact rfl; exact by_ks) | ((with_reducible apply CW.cond_f); exact rfl; exact by_ks) | ((with_reducible apply q_block_miss); exact rfl) | (refine And.intro (show chk [] [] _ _ = true by kernel_rfl) ?_))
  refine CW.loopT (fun i : Nat => [sp 1 0, ob 0 e.enc, sd 6 (encInts e.state), sd 7 (dint e.state.length), sd 8 (dint i), nxt 1]) (fun i => i ≤ e.state.length ∧ i + markN (e.state.drop i) = markN e.state) (fun i => e.state.length - i) 0 ⟨by omega, by simp⟩ ?_ ?_
  ·
    exact by_less
  · rintro i ⟨hi, hI⟩
    rcases drop_case hi with ⟨h1, h2⟩ | ⟨s, h1, h2, h3⟩
    · rw [h1] at hI
      simp only [markN] at hI
      repeat (first | ((with_reducible apply s1); exact rfl) | (with_reducible first | apply CW.seq | apply CW.block | apply CW.region | apply CW.draw | apply CW.skip | apply CW.exit | apply CW.ret | apply q_then | apply q_then_exit | apply q_then_ret | apply q_block | apply q_block_ret | apply q_block_hit | apply q_ret | apply q_end | apply q_loop_exit | apply q_loop_ret | apply q_loopT_exit | apply q_loopT_ret | apply RW.nil) | ((with_reducible apply s3); exact rfl; exact by_k) | ((with_reducible apply s2); exact rfl; exact by_k) | ((with_reducible apply s4); exact rfl) | ((with_reducible apply s5); (first | exact by_oa); exact by_g) | ((with_reducible apply CW.cond_t); exact rfl; exact by_ks) | ((with_reducible apply CW.cond_f); exact rfl; exact by_ks) | ((with_reducible apply q_block_miss); exact rfl) | (refine And.intro (show chk [] [] _ _ = true by kernel_rfl) ?_))
      exact .one (.tmp rfl (.one (.d (dle_int (by simp; omega)))))
    · rw [h1] at hI
      simp only [markN] at hI
      by_cases h4 : s = 1
      · rw [if_pos h4] at hI
        repeat (first | ((with_reducible apply s1); exact rfl) | (with_reducible first | apply CW.seq | apply CW.block | apply CW.region | apply CW.draw | apply CW.skip | apply CW.exit | apply CW.ret | apply q_then | apply q_then_exit | apply q_then_ret | apply q_block | apply q_block_ret | apply q_block_hit | apply q_ret | apply q_end | apply q_loop_exit | apply q_loop_ret | apply q_loopT_exit | apply q_loopT_ret | apply RW.nil) | ((with_reducible apply s3); exact rfl; exact by_k) | ((with_reducible apply s2); exact rfl; exact by_k) | ((with_reducible apply s4); exact rfl) | ((with_reducible apply s5); (first | exact by_oa); exact by_g) | ((with_reducible apply CW.cond_t); exact rfl; exact by_ks) | ((with_reducible apply CW.cond_f); exact rfl; exact by_ks) | ((with_reducible apply q_block_miss); exact rfl) | (refine And.intro (show chk [] [] _ _ = true by kernel_rfl) ?_))
        refine q_loopT (i + 1) ⟨by omega, by omega⟩ (by omega) ?_
        exact by_less
      · rw [if_neg h4] at hI
        repeat (first | ((with_reducible apply s1); exact rfl) | (with_reducible first | apply CW.seq | apply CW.block | apply CW.region | apply CW.draw | apply CW.skip | apply CW.exit | apply CW.ret | apply q_then | apply q_then_exit | apply q_then_ret | apply q_block | apply q_block_ret | apply q_block_hit | apply q_ret | apply q_end | apply q_loop_exit | apply q_loop_ret | apply q_loopT_exit | apply q_loopT_ret | apply RW.nil) | ((with_reducible apply s3); exact rfl; exact by_k) | ((with_reducible apply s2); exact rfl; exact by_k) | ((with_reducible apply s4); exact rfl) | ((with_reducible apply s5); (first | exact by_oa); exact by_g) | ((with_reducible apply CW.cond_t); exact rfl; exact by_ks) | ((with_reducible apply CW.cond_f); exact rfl; exact by_ks) | ((with_reducible apply q_block_miss); exact rfl) | (refine And.intro (show chk [] [] _ _ = true by kernel_rfl) ?_))
        exact .one (.tmp rfl (.one (.d (dle_int (by omega)))))

end Go.Proofs.YtembfadhnkabhaaDoor

/-! P1 -/
/-
  Engines as they are built have chains in order, and versions in order: plain facts; what forgetting comes to.
-/
namespace Go.Proofs.YtembfadhnkabhaaDoor
open Go.AX Go.RF

def VSrt (l : List Version) : Prop := l.Pairwise fun a b => a.by_ < b.by_
theorem VSrt.cons {v : Version} {l : List Version} : VSrt (v :: l) ↔ (∀ w ∈ l, v.by_ < w.by_) ∧ VSrt l := List.pairwise_cons

theorem lastGo_ge {b : Int} : ∀ {l : List Version} {k : Nat} {la : Int}, (∀ v ∈ l, b ≤ v.by_) → lastGo b k la l = la
  | [], k, la, _ => rfl
  | v :: l, k, la, h => by
    have := h v (List.mem_cons_self ..)
    simp only [lastGo]
    rw [if_neg (by omega)]
    exact lastGo_ge fun w hw => h w (List.mem_cons_of_mem _ hw)
theorem lastGo_le {b : Int} : ∀ (l : List Version) {k : Nat} {la : Int}, la < k → la ≤ lastGo b k la l
  | [], k, la, _ => Int.le_refl _
  | v :: l, k, la, h => by
    simp only [lastGo]
    split
    · have := lastGo_le (b := b) l (k := k + 1) (la := (k : Int)) (by omega); omega
    · exact lastGo_le l (by omega)
theorem keepGo_all : ∀ {l : List Version} {k : Nat} {la : Int}, la < k → keepGo la k l = l
  | [], k, la, _ => rfl
  | v :: l, k, la, h => by
    simp only [keepGo]
    rw [if_pos (by simp [keepB]; omega), keepGo_all (by omega)]
theorem clrV_all {b : Int} : ∀ {l : List Version}, (∀ v ∈ l, b ≤ v.by_) → clrV b l = l
  | [], _ => rfl
  | v :: l, h => by
    have := h v (List.mem_cons_self ..)
    simp only [clrV]
    rw [if_neg (by simp [old]; omega), clrV_all fun w hw => h w (List.mem_cons_of_mem _ hw)]
theorem pclr_go {b : Int} : ∀ {l : List Version} {k : Nat} {la : Int}, VSrt l → la < k → keepGo (lastGo b k la l) k l = clrV b l
  | [], k, la, _, _ => rfl
  | v :: l, k, la, hs, hk => by
    obtain ⟨h1, h2⟩ := VSrt.cons.1 hs
    by_cases hv : v.by_ < b
    · cases l with
      | nil =>
        simp only [lastGo, if_pos hv, keepGo, clrV]
        cases hm : v.made <;> cases hh : v.has <;> simp [keepB, old, later, hv, hm, hh]
      | cons w l =>
        have ih := pclr_go (b := b) (l := w :: l) (k := k + 1) (la := (k : Int)) h2 (by omega)
        have hl : lastGo b k la (v :: w :: l) = lastGo b (k + 1) k (w :: l) := by rw [lastGo, if_pos hv]
        rw [hl]
        by_cases hw : w.by_ < b
        · have h3 : (k : Int) < lastGo b (k + 1) k (w :: l) := by
            rw [lastGo, if_pos hw]
            have := lastGo_le (b := b) l (k := k + 1 + 1) (la := ((k + 1 : Nat) : Int)) (by omega)
            omega
          rw [keepGo, if_neg (by simp [keepB]; omega), ih, clrV.eq_2 b v (w :: l), if_pos (by simp [old, later, hv, hw])]
        · have hge : ∀ x ∈ w :: l, b ≤ x.by_ := fun x hx => by
            rcases List.mem_cons.1 hx with rfl | hx
            · omega
            · have := (VSrt.cons.1 h2).1 x hx; omega
          rw [lastGo_ge hge, keepGo, keepGo_all (by omega), clrV.eq_2 b v (w :: l), clrV_all hge]
          cases hm : v.made <;> cases hh : v.has <;> simp [keepB, old, later, hv, hw, hm, hh]
    · have hge : ∀ x ∈ v :: l, b ≤ x.by_ := fun x hx => by
        rcases List.mem_cons.1 hx with rfl | hx
        · omega
        · have := h1 x hx; omega
      rw [lastGo_ge hge, keepGo_all hk, clrV_all hge]
theorem pclrV_eq {b : Int} {l : List Version} (hs : VSrt l) : pclrV b l = clrV b l := pclr_go hs (by omega)
theorem pclear_eq {b : Int} : ∀ {l : List Chain}, (∀ c ∈ l, VSrt c.vs) → pclear b l = clear b l
  | [], _ => rfl
  | c :: l, h => by
    simp only [pclear, clear]
    rw [pclrV_eq (h c (List.mem_cons_self ..)), pclear_eq fun d hd => h d (List.mem_cons_of_mem _ hd)]

theorem allB_refl {α : Type} {f : α → α → Bool} (hf : ∀ a, f a a = true) : ∀ l : List α, allB f l l = true
  | [] => rfl
  | a :: l => by simp [allB, hf, allB_refl hf l]
/-! ### Rows that are right -/
theorem wrongRowsGo_srt : ∀ {l : List Pair} {i : Nat} {last : Str}, wrongRowsGo (i + 1) last l = 0 → (∀ p ∈ l, slt last p.key = true ∧ key p.key = true ∧ nOk p.n) ∧ Srt Pair.key l
  | [], i, last, _ => ⟨by simp, List.Pairwise.nil⟩
  | p :: l, i, last, h => by
    simp only [wrongRowsGo] at h
    by_cases h1 : key p.key = false
    · rw [if_pos h1] at h; simp at h
    rw [if_neg h1] at h
    by_cases h2 : 0 < i + 1 ∧ sle p.key last = true
    · rw [if_pos h2] at h; simp at h
    rw [if_neg h2] at h
    by_cases h3 : 1073741824 < p.n ∨ p.n < -1073741824
    · rw [if_pos h3] at h; simp at h
    rw [if_neg h3] at h
    obtain ⟨h4, h5⟩ := wrongRowsGo_srt h
    have h6 : slt last p.key = true := by
      have h7 : ¬ sle p.key last = true := fun e => h2 ⟨by omega, e⟩
      simp only [sle, Bool.or_eq_true, decide_eq_true_eq, not_or] at h7
      rcases slt_tri last p.key with h | h | h
      · exact h
      · exact absurd h.symm h7.2
      · exact absurd h h7.1
    refine ⟨fun q hq => ?_, List.pairwise_cons.2 ⟨fun q hq => (h4 q hq).1, h5⟩⟩
    rcases List.mem_cons.1 hq with rfl | hq
    · exact ⟨h6, by simpa using h1, by unfold nOk; omega⟩
    · exact ⟨slt_trans h6 (h4 q hq).1, (h4 q hq).2⟩
theorem wrongRows_srt {l : List Pair} (h : wrongRows l = 0) : Srt Pair.key l ∧ (∀ p ∈ l, key p.key = true) ∧ rowsOk l := by
  cases l with
  | nil => exact ⟨List.Pairwise.nil, by simp, by simp [rowsOk]⟩
  | cons p l =>
    simp only [wrongRows, wrongRowsGo] at h
    by_cases h1 : key p.key = false
    · rw [if_pos h1] at h; simp at h
    rw [if_neg h1, if_neg (by simp)] at h
    by_cases h3 : 1073741824 < p.n ∨ p.n < -1073741824
    · rw [if_pos h3] at h; simp at h
    rw [if_neg h3] at h
    obtain ⟨h4, h5⟩ := wrongRowsGo_srt h
    refine ⟨List.pairwise_cons.2 ⟨fun q hq => (h4 q hq).1, h5⟩, fun q hq => ?_, fun q hq => ?_⟩
    · rcases List.mem_cons.1 hq with rfl | hq
      · simpa using h1
      · exact (h4 q hq).2.1
    · rcases List.mem_cons.1 hq with rfl | hq
      · unfold nOk; omega
      · exact (h4 q hq).2.2

/-! ### A version more, in order -/
def newV (b : Int) : Version := ⟨b, false, false, 0⟩
def addS (k : Str) (b : Int) : List Chain → List Chain
  | [] => [⟨k, [newV b]⟩]
  | c :: r => if c.key = k then ⟨c.key, c.vs ++ [newV b]⟩ :: r else if slt c.key k = true then c :: addS k b r else ⟨k, [newV b]⟩ :: c :: r
theorem addGo_done {k : Str} {b : Int} : ∀ {l out : List Chain}, (∀ c ∈ l, c.key ≠ k) → addGo k b true out l = out ++ l
  | [], out, _ => by simp [addGo]
  | c :: l, out, h => by
    simp only [addGo]
    rw [if_neg (h c (List.mem_cons_self ..))]
    simp only [Bool.not_true, Bool.false_and, Bool.true_or]
    rw [addGo_done fun d hd => h d (List.mem_cons_of_mem _ hd)]
    simp
theorem addGo_srt {k : Str} {b : Int} : ∀ {l out : List Chain}, Srt Chain.key l → addGo k b false out l = out ++ addS k b l
  | [], out, _ => by simp [addGo, addS, newV]
  | c :: l, out, hs => by
    obtain ⟨h1, h2⟩ := List.pairwise_cons.1 hs
    simp only [addGo, addS]
    by_cases hk : c.key = k
    · rw [if_pos hk, if_pos hk]
      simp only [hk, slt_irrefl, decide_true, Bool.or_true, Bool.not_true, Bool.and_false]
      rw [addGo_done fun d hd => ?_]
      · simp [newV]
      · have := h1 d hd
        rw [hk] at this
        exact fun e => slt_ne this e.symm
    · rw [if_neg hk, if_neg hk]
      cases hl : slt c.key k with
      | true =>
        simp only [Bool.true_or, Bool.not_true, Bool.and_false, Bool.or_false]
        rw [addGo_srt h2]
        simp
      | false =>
        simp only [hk, decide_false, Bool.or_false, Bool.not_false, Bool.and_true, Bool.false_or]
        rw [addGo_done fun d hd => ?_]
        · simp [newV]
        · have h3 := h1 d hd
          intro e
          rcases slt_tri c.key k with h | h | h
          · rw [hl] at h; cases h
          · exact hk h
          · rw [e] at h3
            have := slt_trans h h3
            rw [slt_irrefl] at this; cases this
theorem addC_srt {k : Str} {b : Int} {l : List Chain} (hs : Srt Chain.key l) : addC l k b = addS k b l := by
  unfold addC
  rw [addGo_srt hs]
  rfl
theorem addS_mem {k : Str} {b : Int} : ∀ {l : List Chain} {c : Chain}, c ∈ addS k b l → c ∈ l ∨ c = ⟨k, [newV b]⟩ ∨ ∃ c0 ∈ l, c0.key = k ∧ c = ⟨k, c0.vs ++ [newV b]⟩
  | [], c, h => by simp [addS] at h; exact .inr (.inl h)
  | x :: l, c, h => by
    simp only [addS] at h
    by_cases hk : x.key = k
    · rw [if_pos hk] at h
      rcases List.mem_cons.1 h with rfl | h
      · exact .inr (.inr ⟨x, List.mem_cons_self .., hk, by rw [hk]⟩)
      · exact .inl (List.mem_cons_of_mem _ h)
    · rw [if_neg hk] at h
      split at h
      · rcases List.mem_cons.1 h with rfl | h
        · exact .inl (List.mem_cons_self ..)
        · rcases addS_mem h with h | h | ⟨c0, h0, h⟩
          · exact .inl (List.mem_cons_of_mem _ h)
          · exact .inr (.inl h)
          · exact .inr (.inr ⟨c0, List.mem_cons_of_mem _ h0, h⟩)
      · rcases List.mem_cons.1 h with rfl | h
        · exact .inr (.inl rfl)
        · exact .inl h
theorem addS_srt {k : Str} {b : Int} : ∀ {l : List Chain}, Srt Chain.key l → Srt Chain.key (addS k b l)
  | [], _ => List.pairwise_singleton ..
  | c :: l, hs => by
    obtain ⟨h1, h2⟩ := List.pairwise_cons.1 hs
    simp only [addS]
    by_cases hk : c.key = k
    · rw [if_pos hk]; exact List.pairwise_cons.2 ⟨h1, h2⟩
    · rw [if_neg hk]
      cases hl : slt c.key k with
      | true =>
        rw [if_pos rfl]
        refine List.pairwise_cons.2 ⟨fun d hd => ?_, addS_srt h2⟩
        rcases addS_mem hd with h | rfl | ⟨c0, h0, h3, rfl⟩
        · exact h1 d h
        · exact hl
        · exact hl
      | false =>
        rw [if_neg (by simp)]
        have hkc : slt k c.key = true := by
          rcases slt_tri c.key k with h | h | h
          · rw [hl] at h; cases h
          · exact absurd h hk
          · exact h
        refine List.pairwise_cons.2 ⟨fun d hd => ?_, hs⟩
        rcases List.mem_cons.1 hd with rfl | hd
        · exact hkc
        · exact slt_trans hkc (h1 d hd)

/-! ### Engines -/
structure SInv (e : Engine) : Prop where
  k : Srt Chain.key e.chains
  v : ∀ c ∈ e.chains, VSrt c.vs
  b : ∀ c ∈ e.chains, ∀ v ∈ c.vs, v.by_ < e.base + e.deeds.length

theorem newE_srt {r : List Pair} (h : Srt Pair.key r) : SInv (newE r) := by
  refine ⟨List.pairwise_map.2 h, fun c hc => ?_, fun c hc v hv => ?_⟩
  · obtain ⟨p, _, rfl⟩ := List.mem_map.1 hc
    exact List.pairwise_singleton ..
  · obtain ⟨p, _, rfl⟩ := List.mem_map.1 hc
    simp [rowChain] at hv
    subst hv
    simp [newE]

theorem isIn_false {s : Str} : ∀ {l : List Str}, isIn l s = false → s ∉ l
  | [], _, h => by simp at h
  | x :: l, h, hm => by
    simp only [isIn] at h
    by_cases hx : x = s
    · rw [if_pos hx] at h; cases h
    · rw [if_neg hx] at h
      rcases List.mem_cons.1 hm with rfl | hm
      · exact hx rfl
      · exact isIn_false h hm
theorem keysGo_nodup {l : List Str} : ∀ {r : List Str} {i : Nat}, l.drop i = r → (l.take i).Nodup → keysGo l i r = 0 → l.Nodup ∧ ∀ k ∈ r, key k = true
  | [], i, hr, hn, _ => by
    have : l.length ≤ i := by simpa using hr
    rw [List.take_of_length_le this] at hn
    exact ⟨hn, by simp⟩
  | k :: r, i, hr, hn, h => by
    simp only [keysGo] at h
    by_cases h1 : key k = false
    · rw [if_pos h1] at h; simp at h
    rw [if_neg h1] at h
    by_cases h2 : isIn (l.take i) k = true
    · rw [if_pos h2] at h; simp at h
    rw [if_neg h2] at h
    have hk : l[i]? = some k := by
      have : (l.drop i)[0]? = some k := by rw [hr]; rfl
      simpa using this
    have h3 : l.take (i + 1) = l.take i ++ [k] := by rw [List.take_add_one, hk]; rfl
    have hni : k ∉ l.take i := isIn_false (by simpa using h2)
    have := keysGo_nodup (l := l) (r := r) (i := i + 1) (by rw [← List.drop_drop, hr]; rfl) (by
      rw [h3]
      refine List.nodup_append.2 ⟨hn, by simp, fun a ha b hb => ?_⟩
      simp at hb; subst hb
      exact fun e => hni (e ▸ ha)) h
    exact ⟨this.1, fun x hx => by
      rcases List.mem_cons.1 hx with rfl | hx
      · simpa using h1
      · exact this.2 x hx⟩
theorem keysWrong_nodup {l : List Str} (h : keysWrong l = 0) : l.Nodup ∧ (∀ k ∈ l, key k = true) ∧ l.length ≤ 5 := by
  unfold keysWrong at h
  by_cases h1 : 5 < l.length
  · rw [if_pos h1] at h; simp at h
  · rw [if_neg h1] at h
    have := keysGo_nodup (l := l) (r := l) (i := 0) rfl (by simp) h
    exact ⟨this.1, this.2, by omega⟩
theorem wrong_keys {d : Deed} (h : wrongDeed d = 0) : d.reads.Nodup ∧ d.writes.Nodup := by
  unfold wrongDeed at h
  by_cases h0 : lsGo [d.reads, d.writes] = 0
  · simp only [lsGo] at h0
    by_cases h1 : keysWrong d.reads = 0
    · rw [if_pos h1] at h0
      by_cases h2 : keysWrong d.writes = 0
      · exact ⟨(keysWrong_nodup h1).1, (keysWrong_nodup h2).1⟩
      · rw [if_neg h2] at h0; exact absurd h0 h2
    · rw [if_neg h1] at h0; exact absurd h0 h1
  · rw [if_neg h0] at h; exact absurd h h0

theorem addKeys_srt {b : Int} : ∀ {ks : List Str} {l : List Chain}, ks.Nodup → Srt Chain.key l → (∀ c ∈ l, VSrt c.vs ∧ (∀ v ∈ c.vs, v.by_ ≤ b) ∧ (c.key ∈ ks → ∀ v ∈ c.vs, v.by_ < b)) →
    Srt Chain.key (addKeys b l ks) ∧ ∀ c ∈ addKeys b l ks, VSrt c.vs ∧ ∀ v ∈ c.vs, v.by_ ≤ b
  | [], l, _, hs, h => ⟨hs, fun c hc => ⟨(h c hc).1, (h c hc).2.1⟩⟩
  | k :: ks, l, hn, hs, h => by
    obtain ⟨hk, hn⟩ := List.nodup_cons.1 hn
    simp only [addKeys]
    rw [addC_srt hs]
    refine addKeys_srt hn (addS_srt hs) fun c hc => ?_
    rcases addS_mem hc with h0 | rfl | ⟨c0, h0, h1, rfl⟩
    · obtain ⟨h1, h2, h3⟩ := h c h0
      exact ⟨h1, h2, fun hm => h3 (List.mem_cons_of_mem _ hm)⟩
    · exact ⟨List.pairwise_singleton .., fun v hv => by simp at hv; subst hv; exact Int.le_refl _, fun hm => absurd hm hk⟩
    · obtain ⟨h2, h3, h4⟩ := h c0 h0
      have h5 := h4 (by rw [h1]; exact List.mem_cons_self ..)
      refine ⟨List.pairwise_append.2 ⟨h2, List.pairwise_singleton .., fun a ha x hx => ?_⟩, fun v hv => ?_, fun hm => absurd hm hk⟩
      · simp at hx; subst hx; exact h5 a ha
      · rcases List.mem_append.1 hv with hv | hv
        · exact h3 v hv
        · simp at hv; subst hv; exact Int.le_refl _
theorem SInv.add1 {e : Engine} (h : SInv e) {d : Deed} (hw : d.writes.Nodup) : SInv (add1 e d) := by
  have := addKeys_srt (b := e.base + e.deeds.length) hw h.k fun c hc => ⟨h.v c hc, fun v hv => by have := h.b c hc v hv; omega, fun _ v hv => h.b c hc v hv⟩
  refine ⟨this.1, fun c hc => (this.2 c hc).1, fun c hc v hv => ?_⟩
  have := (this.2 c hc).2 v hv
  show v.by_ < e.base + ((e.deeds ++ [d]).length : Nat)
  rw [List.length_append]
  simp only [List.length_singleton]
  omega
theorem SInv.addAll : ∀ {l : List Deed} {e : Engine}, SInv e → (∀ d ∈ l, d.writes.Nodup) → SInv (addAll e l)
  | [], e, h, _ => h
  | d :: l, e, h, hl => by
    simp only [RF.addAll]
    exact SInv.addAll (h.add1 (hl d (List.mem_cons_self ..))) fun x hx => hl x (List.mem_cons_of_mem _ hx)
theorem SInv.addE {e : Engine} (h : SInv e) {l : List Deed} (hw : (addE e l).2 = 0) : SInv (addE e l).1 := by
  unfold RF.addE at hw ⊢
  by_cases h0 : wrongs l = 0
  · rw [if_pos h0]
    exact h.addAll fun d hd => (wrong_keys (wrongs_mem h0 d hd)).2
  · rw [if_neg h0] at hw; exact absurd hw h0

/-- Chains whose keys, and whose versions' deeds, are others' in turn. -/
theorem set_srt {l : List Chain} {k : Str} {v : Version} {N : Int} (hs : Srt Chain.key l) (hv : ∀ c ∈ l, VSrt c.vs ∧ ∀ w ∈ c.vs, w.by_ < N) :
    Srt Chain.key (setChains l k v) ∧ ∀ c ∈ setChains l k v, VSrt c.vs ∧ ∀ w ∈ c.vs, w.by_ < N := by
  have hb : ∀ (h : Bool) (w : Version), (setV h v w).by_ = w.by_ := fun h w => by
    unfold setV
    split
    · next hh => exact hh.2.symm
    · rfl
  refine ⟨List.pairwise_map.2 hs, fun c hc => ?_⟩
  obtain ⟨c0, h0, rfl⟩ := List.mem_map.1 hc
  obtain ⟨h1, h2⟩ := hv c0 h0
  refine ⟨List.pairwise_map.2 (h1.imp fun hab => by rw [hb, hb]; exact hab), fun w hw => ?_⟩
  obtain ⟨w0, hw0, rfl⟩ := List.mem_map.1 hw
  rw [hb]; exact h2 w0 hw0
theorem goSets_srt {r : List Pair} {b N : Int} : ∀ {ks : List Str} {l : List Chain}, Srt Chain.key l → (∀ c ∈ l, VSrt c.vs ∧ ∀ w ∈ c.vs, w.by_ < N) →
    Srt Chain.key (goSets r b l ks) ∧ ∀ c ∈ goSets r b l ks, VSrt c.vs ∧ ∀ w ∈ c.vs, w.by_ < N
  | [], l, hs, hv => ⟨hs, hv⟩
  | k :: ks, l, hs, hv => by
    simp only [goSets]
    have := set_srt (k := k) (v := ⟨b, true, (RF.get r k).2, (RF.get r k).1⟩) hs hv
    exact goSets_srt this.1 this.2
theorem SInv.goNew {e : Engine} (h : SInv e) (A : Nat) (d : Deed) : SInv (goNew e A d) := by
  have := goSets_srt (r := (goDone e A d).1) (b := e.base + A) (ks := d.writes) (N := e.base + e.deeds.length) h.k fun c hc => ⟨h.v c hc, h.b c hc⟩
  exact ⟨this.1, fun c hc => (this.2 c hc).1, fun c hc => (this.2 c hc).2⟩
theorem SInv.goE {e : Engine} (h : SInv e) (at_ : Int) : SInv (goE e at_).1 := by
  unfold Proofs.YtembfadhnkabhaaDoor.goE
  split
  · exact h
  unfold goAt
  cases hA : e.deeds[at_.toNat]? with
  | none => exact h
  | some d =>
    dsimp only
    split
    · exact h
    split
    · exact h.goNew _ _
    · exact h
theorem clrV_sublist {b : Int} : ∀ l : List Version, (clrV b l).Sublist l
  | [] => List.Sublist.slnil
  | v :: l => by
    simp only [clrV]
    split
    · exact (clrV_sublist l).cons _
    · exact (clrV_sublist l).cons_cons _
theorem clear_srt {b : Int} : ∀ {l : List Chain}, Srt Chain.key l → Srt Chain.key (clear b l)
  | [], _ => List.Pairwise.nil
  | c :: l, hs => by
    obtain ⟨h1, h2⟩ := List.pairwise_cons.1 hs
    simp only [clear]
    split
    · exact clear_srt h2
    · refine List.pairwise_cons.2 ⟨fun d hd => ?_, clear_srt h2⟩
      obtain ⟨c0, h0, rfl⟩ := clear_mem hd
      exact h1 c0 h0
theorem SInv.clearE {e : Engine} (h : SInv e) : SInv (clearE e) := by
  have hm := markN_le e.state
  refine ⟨clear_srt h.k, fun c hc => ?_, fun c hc v hv => ?_⟩
  · obtain ⟨c0, h0, rfl⟩ := clear_mem hc
    exact List.Pairwise.sublist (clrV_sublist _) (h.v c0 h0)
  · obtain ⟨c0, h0, rfl⟩ := clear_mem hc
    have := h.b c0 h0 v (clrV_sub hv)
    simp only [RF.clearE, List.length_drop]
    omega
theorem SInv.pickE {e : Engine} (h : SInv e) (n : Int) : SInv (pickE e n) := by
  unfold Proofs.YtembfadhnkabhaaDoor.pickE
  split
  · exact h.clearE
  split
  · exact h
  split
  · exact h.goE _
  · exact h
theorem SInv.batchE {e : Engine} (h : SInv e) (b : List Deed) : SInv (batchE e b) := by
  unfold Proofs.YtembfadhnkabhaaDoor.batchE
  split
  · next hw => exact h.addE hw
  · exact h
theorem SInv.pickGo : ∀ {k : Nat} {e : Engine} {p : List Int}, SInv e → SInv (pickGo k e p).1
  | 0, e, p, h => h
  | k + 1, e, [], h => h
  | k + 1, e, n :: p, h => by
    simp only [Proofs.YtembfadhnkabhaaDoor.pickGo]
    exact SInv.pickGo (h.pickE n)
theorem SInv.buildGo : ∀ {bs : List (List Deed)} {e : Engine} {p : List Int}, SInv e → SInv (buildGo e bs p)
  | [], e, p, h => h
  | b :: bs, e, p, h => by
    simp only [Proofs.YtembfadhnkabhaaDoor.buildGo]
    exact SInv.buildGo ((h.batchE b).pickGo)
end Go.Proofs.YtembfadhnkabhaaDoor

/-! P2 -/
/-
  Right chains: in order; rows made into chains, and read again. Plain facts.
-/
namespace Go.Proofs.YtembfadhnkabhaaDoor
open Go.AX Go.RF

/-! ### Rows made into chains -/
theorem before_row {r : List Pair} (h : Srt Pair.key r) {p : Pair} (hp : p ∈ r) {b : Int} (hb : -1 < b) : before (r.map rowChain) p.key b = ⟨-1, true, true, p.n⟩ := by
  obtain ⟨i, hi⟩ := List.getElem?_of_mem hp
  unfold before
  have hil := (List.getElem?_eq_some_iff.1 hi).1
  have hsp : r = r.take i ++ p :: r.drop (i + 1) := by
    have h1 := List.take_append_drop i r
    rw [List.drop_eq_getElem_cons hil, (List.getElem?_eq_some_iff.1 hi).2] at h1
    exact h1.symm
  have hne : ∀ q ∈ r.take i ++ r.drop (i + 1), q.key ≠ p.key := by
    intro q hq
    rcases List.mem_append.1 hq with hq | hq
    · obtain ⟨j, hj⟩ := List.getElem?_of_mem hq
      rw [List.getElem?_take] at hj
      split at hj
      · exact h.ne hj hi (by omega)
      · cases hj
    · obtain ⟨j, hj⟩ := List.getElem?_of_mem hq
      rw [List.getElem?_drop] at hj
      exact h.ne hj hi (by omega)
  have n1 : ∀ out, beforeGo p.key b out ((r.take i).map rowChain) = out := fun out => beforeGo_none fun c hc => by
    obtain ⟨q, hq, rfl⟩ := List.mem_map.1 hc
    exact hne q (List.mem_append_left _ hq)
  have n2 : ∀ out, beforeGo p.key b out ((r.drop (i + 1)).map rowChain) = out := fun out => beforeGo_none fun c hc => by
    obtain ⟨q, hq, rfl⟩ := List.mem_map.1 hc
    exact hne q (List.mem_append_right _ hq)
  rw [hsp, List.map_append, beforeGo_append, n1, List.map_cons]
  simp only [beforeGo]
  rw [n2]
  simp [rowChain, bvs, hb]
end Go.Proofs.YtembfadhnkabhaaDoor

/-! P3 -/
/-
  A version more, set, forgotten: what is seen. Plain facts.
-/
namespace Go.Proofs.YtembfadhnkabhaaDoor
open Go.AX Go.RF

/-! ### Ahead of it, and of other keys: nothing seen -/
theorem before_addS {k k' : Str} {b b' : Int} (h : k = k' → b ≤ b') : ∀ {l : List Chain} {out : Version}, beforeGo k b out (addS k' b' l) = beforeGo k b out l
  | [], out => by
    simp only [addS, beforeGo, bvs, newV]
    by_cases hk : k' = k
    · have := h hk.symm
      simp; omega
    · simp [hk]
  | c :: l, out => by
    simp only [addS]
    by_cases hk : c.key = k'
    · rw [if_pos hk]
      simp only [beforeGo, bvs_append, bvs, newV]
      by_cases hc : c.key = k
      · have := h (by rw [← hc, hk])
        rw [if_neg (by simp; omega)]
      · simp [hc]
    · rw [if_neg hk]
      split
      · simp only [beforeGo]
        exact before_addS h
      · have h1 : bvs (decide (k' = k)) b out [newV b'] = out := by
          simp only [bvs]
          by_cases hc : k' = k
          · have := h hc.symm
            have h2 : ¬ (newV b').by_ < b := by show ¬ b' < b; omega
            rw [decide_eq_false h2]; simp
          · simp [hc]
        show beforeGo k b (bvs (decide (k' = k)) b out [newV b']) (c :: l) = _
        rw [h1]
/-! ### Behind it: it is seen -/
theorem ne_tail {c : Chain} {l : List Chain} (hs : Srt Chain.key (c :: l)) {k : Str} (h : slt k c.key = true ∨ c.key = k) : ∀ d ∈ l, d.key ≠ k := by
  intro d hd e
  have h1 := (List.pairwise_cons.1 hs).1 d hd
  rw [e] at h1
  rcases h with h | h
  · have := slt_trans h h1; rw [slt_irrefl] at this; cases this
  · rw [h, slt_irrefl] at h1; cases h1
theorem slt_flip {a b : Str} (h : ¬ slt a b = true) (hn : a ≠ b) : slt b a = true := by
  rcases slt_tri a b with h1 | h1 | h1
  · exact absurd h1 h
  · exact absurd h1 hn
  · exact h1
theorem behind_set {k : Str} {b b' : Int} {v : Version} (hv : v.by_ = b') (hb : b' < b) : ∀ {l : List Chain} {out : Version}, Srt Chain.key l → beforeGo k b out (setChains (addS k b' l) k v) = v
  | [], out, _ => by
    simp [addS, setChains, setC, setV, newV, beforeGo, bvs, hv, hb]
  | c :: l, out, hs => by
    simp only [addS]
    by_cases hk : c.key = k
    · rw [if_pos hk]
      have hn := ne_tail hs (.inr hk)
      have h0 : ∀ o, beforeGo k b o (setChains l k v) = o := fun o => beforeGo_none fun d hd => by
        obtain ⟨d0, h1, rfl⟩ := List.mem_map.1 hd
        exact hn d0 h1
      show beforeGo k b (bvs (decide (c.key = k)) b out ((c.vs ++ [newV b']).map (setV (decide (c.key = k)) v))) (setChains l k v) = v
      rw [h0, List.map_append, bvs_append]
      simp [hk, setV, newV, bvs, hv, hb]
    · rw [if_neg hk]
      split
      · show beforeGo k b _ (setChains (addS k b' l) k v) = v
        exact behind_set hv hb (List.pairwise_cons.1 hs).2
      · next h2 =>
        have hn := ne_tail hs (.inl (slt_flip h2 hk))
        have h0 : ∀ o, beforeGo k b o (setChains (c :: l) k v) = o := fun o => beforeGo_none fun d hd => by
          obtain ⟨d0, h1, rfl⟩ := List.mem_map.1 hd
          rcases List.mem_cons.1 h1 with rfl | h1
          · exact hk
          · exact hn d0 h1
        show beforeGo k b (bvs (decide (k = k)) b out ([newV b'].map (setV (decide (k = k)) v))) (setChains (c :: l) k v) = v
        rw [h0]
        simp [setV, newV, bvs, hv, hb]
theorem behind_add {k : Str} {b b' : Int} (hb : b' < b) {l : List Chain} {out : Version} (hs : Srt Chain.key l) : beforeGo k b out (addS k b' l) = newV b' := by
  have h := behind_set (k := k) (v := newV b') (b' := b') rfl hb (l := l) (out := out) hs
  have h1 : ∀ w : Version, ∀ hit, w.by_ = b' → setV hit (newV b') w = w ∨ setV hit (newV b') w = newV b' := fun w hit _ => by
    unfold setV; split
    · exact .inr rfl
    · exact .inl rfl
  clear h1 h
  revert out
  induction l with
  | nil => intro out; simp [addS, beforeGo, bvs, newV, hb]
  | cons c l ih =>
    intro out
    simp only [addS]
    by_cases hk : c.key = k
    · rw [if_pos hk]
      have hn := ne_tail hs (.inr hk)
      simp only [beforeGo]
      rw [beforeGo_none hn, bvs_append]
      simp [hk, newV, bvs, hb]
    · rw [if_neg hk]
      split
      · simp only [beforeGo]
        exact ih (List.pairwise_cons.1 hs).2
      · next h2 =>
        have hn := ne_tail hs (.inl (slt_flip h2 hk))
        have h0 : ∀ o, beforeGo k b o (c :: l) = o := fun o => beforeGo_none fun d hd => by
          rcases List.mem_cons.1 hd with rfl | h1
          · exact hk
          · exact hn d h1
        show beforeGo k b (bvs (decide (k = k)) b out [newV b']) (c :: l) = _
        rw [h0]
        simp [newV, bvs, hb]

/-! ### What is old, forgotten -/
theorem clrV_ge {b : Int} : ∀ {l : List Version}, (∀ v ∈ l, b ≤ v.by_) → clrV b l = l
  | [], _ => rfl
  | v :: l, h => by
    have := h v (List.mem_cons_self ..)
    have h1 : decide (v.by_ < b) = false := by simp; omega
    simp only [clrV]
    rw [if_neg (by simp [old, h1]), clrV_ge fun w hw => h w (List.mem_cons_of_mem _ hw)]
theorem seen_clr2 {b at_ : Int} (hba : b ≤ at_) : ∀ {l : List Version} {out : Version}, VSrt l →
    bvs true at_ out (clrV b l) = bvs true at_ out l ∨ ((bvs true at_ out l).made = true ∧ (bvs true at_ out l).has = false ∧ bvs true at_ out (clrV b l) = out ∧ (bvs true at_ out l).by_ < b)
  | [], out, _ => .inl rfl
  | v :: l, out, hs => by
    obtain ⟨h1, h2⟩ := VSrt.cons.1 hs
    by_cases hva : v.by_ < at_
    · have hge : b ≤ v.by_ → clrV b l = l := fun h => clrV_ge fun w hw => by have := h1 w hw; omega
      by_cases hlt : later b l = true
      · cases l with
        | nil => simp [later] at hlt
        | cons w l' =>
          have hw : w.by_ < b := by simpa [later] using hlt
          have hvb : v.by_ < b := by have := h1 w (List.mem_cons_self ..); omega
          have hold : old b (w :: l') v = true := by simp [old, later, hw, hvb]
          have ih := seen_clr2 hba (out := out) h2
          have hsame : bvs true at_ v (w :: l') = bvs true at_ out (w :: l') := by
            simp only [bvs]
            rw [if_pos (by simp; omega), if_pos (by simp; omega)]
          have h5 : clrV b (v :: w :: l') = clrV b (w :: l') := by rw [clrV, if_pos hold]
          rw [h5]
          have h4 : bvs true at_ out (v :: w :: l') = bvs true at_ (if (true && decide (v.by_ < at_)) = true then v else out) (w :: l') := rfl
          rw [if_pos (by simp; omega)] at h4
          rw [h4, hsame]
          exact ih
      · have hl : ∀ w ∈ l, b ≤ w.by_ := by
          cases l with
          | nil => simp
          | cons w l' =>
            have hw : ¬ w.by_ < b := by simpa [later] using hlt
            intro x hx
            rcases List.mem_cons.1 hx with rfl | hx
            · omega
            · have := (VSrt.cons.1 h2).1 x hx; omega
        have hl0 : later b l = false := by simpa using hlt
        have hc := clrV_ge hl
        simp only [clrV]
        rw [hc]
        by_cases hold : old b l v = true
        · rw [if_pos hold]
          have h3 : v.made = true ∧ v.has = false ∧ v.by_ < b := by
            simp [old, hl0] at hold
            exact ⟨hold.2.1, hold.2.2, hold.1⟩
          have h4 : bvs true at_ out (v :: l) = bvs true at_ v l := by simp only [bvs]; rw [if_pos (by simp; omega)]
          rw [h4]
          cases l with
          | nil => exact .inr ⟨h3.1, h3.2.1, rfl, h3.2.2⟩
          | cons w l' =>
            by_cases hw : w.by_ < at_
            · left
              simp only [bvs]
              rw [if_pos (by simp; omega), if_pos (by simp; omega)]
            · have h5 : ∀ x ∈ w :: l', at_ ≤ x.by_ := fun x hx => by
                rcases List.mem_cons.1 hx with rfl | hx
                · omega
                · have := (VSrt.cons.1 h2).1 x hx; omega
              rw [bvs_ge h5, bvs_ge h5]
              exact .inr ⟨h3.1, h3.2.1, rfl, h3.2.2⟩
        · rw [if_neg hold]
          exact .inl rfl
    · have h3 : ∀ x ∈ v :: l, at_ ≤ x.by_ := fun x hx => by
        rcases List.mem_cons.1 hx with rfl | hx
        · omega
        · have := h1 x hx; omega
      rw [clrV_ge fun x hx => by have := h3 x hx; omega]
      exact .inl rfl
theorem seen_clear2 {b at_ : Int} {k : Str} (hba : b ≤ at_) : ∀ {l : List Chain} {out : Version}, Srt Chain.key l → (∀ c ∈ l, VSrt c.vs) →
    beforeGo k at_ out (clear b l) = beforeGo k at_ out l ∨ ((beforeGo k at_ out l).made = true ∧ (beforeGo k at_ out l).has = false ∧ beforeGo k at_ out (clear b l) = out ∧ (beforeGo k at_ out l).by_ < b)
  | [], out, _, _ => .inl rfl
  | c :: l, out, hs, hv => by
    have h2 := (List.pairwise_cons.1 hs).2
    by_cases hk : c.key = k
    · have hn := ne_tail hs (.inr hk)
      have n1 : ∀ o, beforeGo k at_ o l = o := fun o => beforeGo_none hn
      have n2 : ∀ o, beforeGo k at_ o (clear b l) = o := fun o => beforeGo_none fun d hd => by
        obtain ⟨d0, h0, rfl⟩ := clear_mem hd
        exact hn d0 h0
      have h3 : beforeGo k at_ out (c :: l) = bvs true at_ out c.vs := by
        simp only [beforeGo]; rw [n1]; simp [hk]
      have h4 : beforeGo k at_ out (clear b (c :: l)) = bvs true at_ out (clrV b c.vs) := by
        simp only [clear]
        split
        · next h => rw [n2, h]; rfl
        · simp only [beforeGo]; rw [n2]; simp [hk]
      rw [h3, h4]
      exact seen_clr2 hba (hv c (List.mem_cons_self ..))
    · have h3 : beforeGo k at_ out (c :: l) = beforeGo k at_ out l := by
        simp only [beforeGo]; simp [hk, bvs_false]
      have h4 : beforeGo k at_ out (clear b (c :: l)) = beforeGo k at_ out (clear b l) := by
        simp only [clear]
        split
        · rfl
        · simp only [beforeGo]; simp [hk, bvs_false]
      rw [h3, h4]
      exact seen_clear2 hba h2 fun d hd => hv d (List.mem_cons_of_mem _ hd)

/-! ### Right chains stay right -/
theorem clear_mem' {b : Int} : ∀ {l : List Chain} {c : Chain}, c ∈ clear b l → ∃ c0 ∈ l, c = ⟨c0.key, clrV b c0.vs⟩ ∧ clrV b c0.vs ≠ []
  | [], c, h => by simp [clear] at h
  | x :: l, c, h => by
    simp only [clear] at h
    split at h
    · obtain ⟨c0, h0, h1⟩ := clear_mem' h
      exact ⟨c0, List.mem_cons_of_mem _ h0, h1⟩
    · next hn =>
      rcases List.mem_cons.1 h with rfl | h
      · exact ⟨x, List.mem_cons_self .., rfl, hn⟩
      · obtain ⟨c0, h0, h1⟩ := clear_mem' h
        exact ⟨c0, List.mem_cons_of_mem _ h0, h1⟩
/-! ### How many versions -/
end Go.Proofs.YtembfadhnkabhaaDoor

/-! AxFam2 -/
/-
  The same, for a walk.
-/
namespace Go.AX
open Go.RowKit

variable {cx : Cx} {σ σ' : St} {a a' : Act} {w w' : World} {ops : Array Oper} {Q : Exit → St → Prop}
variable {ty : TypeId} {pos : String} {af : Array Edge} {gd : Option (Nat × Bool)} {d nx : Nat} {g : Nat → Value}

theorem Run.append : ∀ {t1 t2 : List Tr} {σ : St}, Run t1 σ → Run t2 (fin t1 σ) → Run (t1 ++ t2) σ ∧ fin (t1 ++ t2) σ = fin t2 (fin t1 σ)
  | [], t2, σ, _, h => ⟨h, rfl⟩
  | t :: t1, t2, σ, h1, h2 => by
    obtain ⟨h3, h4⟩ := Run.append h1.2 h2
    exact ⟨⟨h1.1, h3⟩, h4⟩

end Go.AX

/-! AxPin4 -/
/-
  Stutters between a region's operations; facts out of a state; a slice whose handle is known, read and written in place.
-/
namespace Go.AX
open Go.RowKit

variable {cx : Cx} {g : Nat → Value} {σ σ' : St} {a : Act} {w w' : World} {nx : Nat} {c : Code} {Q : Exit → St → Prop}
variable {ty : TypeId} {pos : String} {af : Array Edge} {gd : Option (Nat × Bool)} {d : Nat}
variable {ops : Array Oper} {rest : List Oper} {o : Oper}

theorem SW.s1 {rd wr : List (Key × Val)} (ha : autA cx σ o = some ⟨rd, wr⟩) (h : SW cx ops Q rest (wr ++ σ)) : SW cx ops Q (o :: rest) σ := by
  obtain ⟨dst, op, ty, pos, af, gd⟩ := o
  cases gd with
  | some p => cases ha
  | none =>
    simp only [autA] at ha
    split at ha
    · next hd => 
      obtain ⟨h1, h2⟩ := trA_ok (cx := cx) (ty := ty) (pos := pos) (af := af) (gd := none) hd ha
      exact SW.step rfl ⟨h1, h2⟩ h
    · cases ha
theorem SW.s5 {rd wr : List (Key × Val)} (ho : OA cx σ o ⟨rd, wr⟩) (hg : o.guard = none) (h : SW cx ops Q rest (wr ++ σ)) : SW cx ops Q (o :: rest) σ := SW.step hg ho h
theorem SW.nil (h : Q .normal σ) : SW cx ops Q [] σ := fun a w hs => wpList_nil ⟨σ, hs, h⟩
theorem SW.stut {t : Tr} {l : List Oper} (hs : Stut cx t) (ha : App σ t.rd) (h : SW cx ops Q l (t.wr ++ σ)) : SW cx ops Q l σ := fun a w hsim => h a w (hs σ a w hsim ha)
end Go.AX

/-! AxPin5 -/
/-
  A slice's length where its handle is known; a slice of ours within another's element, told as data there.
-/
namespace Go.AX
open Go.RowKit

variable {cx : Cx} {g : Nat → Value} {σ σ' : St} {a : Act} {w w' : World} {nx : Nat} {c : Code} {Q : Exit → St → Prop}
variable {ty : TypeId} {pos : String} {af : Array Edge} {gd : Option (Nat × Bool)} {d : Nat}

theorem SimG.drop (hG : SimG cx σ a w g nx) (id : Nat) : SimG cx ((.o id, .none) :: σ) a w g nx := by
  have hl := Less.drop ⟨g, nx, hG⟩ id
  have hlat : Later cx g g σ ((.o id, .none) :: σ) w w nx := by
    refine ⟨Ext.refl _ _, Below.refl _ _, fun b hb => ?_, fun j o' _ h => ⟨o', hl.o _ _ h, ?_⟩⟩
    · rcases hb with hb | ⟨j, o, h5, h6⟩
      · exact .inl (.inl hb)
      · exact .inl (.inr ⟨j, o, hl.o _ _ h5, h6⟩)
    · cases o' <;> simp [ObLe]
  exact hG.next hlat ((get_cons_ne (by simp)).trans hG.hnx) (Nat.le_refl _) hG.size hG.defers (Below.refl _ _) (fun j av hj => .inl ⟨hl.s _ _ hj, rfl⟩) (fun j o hj => .inl ⟨hl.o _ _ hj, rfl, fun _ _ => rfl⟩)
    (fun j j' o o' b h1 h2 => hG.sep j j' o o' b (hl.o _ _ h1) (hl.o _ _ h2))

end Go.AX

/-! AxFnD -/
/-
  Pointers, maps and closures told as data; closures made and called.
-/
namespace Go.AX
open Go.RowKit

variable {cx : Cx} {g : Nat → Value} {σ σ' : St} {a : Act} {w w' : World} {nx : Nat}
variable {ty : TypeId} {pos : String} {af : Array Edge} {gd : Option (Nat × Bool)} {d : Nat}

/-! ### As data -/
/-- A pointer to cells that stay. -/
def refP (ds : List D) (w : World) (own : Nat → Prop) (v : Value) : Prop := ∃ ad : Addr, v = .pointer (some ad) ∧ ¬ own ad.block ∧ ad.block < w.heap.size ∧ RdCells w own ad ds
def refD (ds : List D) : D := .x (refP ds)
/-- A map that stays. -/
def mapP (M : List (List UInt8 × Value)) (w : World) (own : Nat → Prop) (v : Value) : Prop := ∃ b es clock, v = .map (some b) ∧ ¬ own b ∧ b < w.heap.size ∧ w.heap[b]? = some (.map es clock) ∧ MapIs es M
def mapD (M : List (List UInt8 × Value)) : D := .x (mapP M)
theorem rd_x {own : Nat → Prop} {v : Value} {p : World → (Nat → Prop) → Value → Prop} (h : Rd w own v (.x p)) : p w own v := by
  generalize hD : D.x p = D0 at h
  cases h with
  | v => cases hD
  | sl => cases hD
  | agg => cases hD
  | nil => cases hD
  | x p v h1 hst hp => cases hD; exact hp
/-! ### A pointer to cells that stay -/
/-! ### Closures -/
/-- What is captured, as a function's arguments. -/
inductive Caps : List D → List Arg → Prop
  | nil : Caps [] []
  | ref {cs ds : List D} {zs : List Arg} (h : Caps ds zs) : Caps (refD cs :: ds) (.pd cs :: zs)
  | d {x : D} {ds : List D} {zs : List Arg} (h : Caps ds zs) : Caps (x :: ds) (.d x :: zs)
theorem Caps.ok {own : Nat → Prop} {ds : List D} {zs : List Arg} (h : Caps ds zs) : ∀ {vs : List Value}, vs.length = ds.length → (∀ (j : Nat) (x : D) (c : Value), ds[j]? = some x → vs[j]? = some c → Rd w own c x) → ArgsOk w own vs zs := by
  induction h with
  | nil =>
    intro vs hl _
    obtain rfl : vs = [] := List.eq_nil_of_length_eq_zero hl
    trivial
  | @ref cs ds zs h ih =>
    intro vs hl hr
    cases vs with
    | nil => simp at hl
    | cons v vs =>
      obtain ⟨ad, h1, _, h2, h3⟩ := rd_x (hr 0 _ v rfl rfl)
      exact ⟨⟨ad, h1, h2, h3⟩, ih (by simpa using hl) fun j x c hj hc => hr (j + 1) x c (by simpa using hj) (by simpa using hc)⟩
  | @d x ds zs h ih =>
    intro vs hl hr
    cases vs with
    | nil => simp at hl
    | cons v vs => exact ⟨hr 0 _ v rfl rfl, ih (by simpa using hl) fun j x c hj hc => hr (j + 1) x c (by simpa using hj) (by simpa using hc)⟩
/-- The same, where a map of ours lies in a captured box: told as data to who is called. -/
inductive CapsM (x0 : Value) (M : List (List UInt8 × Value)) : List D → List Arg → Prop
  | nil : CapsM x0 M [] []
  | map {ds : List D} {zs : List Arg} (h : CapsM x0 M ds zs) : CapsM x0 M (refD [.v x0] :: ds) (.pd [mapD M] :: zs)
  | ref {cs ds : List D} {zs : List Arg} (h : CapsM x0 M ds zs) : CapsM x0 M (refD cs :: ds) (.pd cs :: zs)
theorem CapsM.ok {own own' : Nat → Prop} {x0 : Value} {M : List (List UInt8 × Value)} (ho : ∀ b, own' b → own b) (hm : Rd w own' x0 (mapD M)) {ds : List D} {zs : List Arg} (h : CapsM x0 M ds zs) :
    ∀ {vs : List Value}, vs.length = ds.length → (∀ (j : Nat) (x : D) (c : Value), ds[j]? = some x → vs[j]? = some c → Rd w own c x) → ArgsOk w own' vs zs := by
  induction h with
  | nil =>
    intro vs hl _
    obtain rfl : vs = [] := List.eq_nil_of_length_eq_zero hl
    trivial
  | @map ds zs h ih =>
    intro vs hl hr
    cases vs with
    | nil => simp at hl
    | cons v vs =>
      obtain ⟨ad, h1, _, h2, h3⟩ := rd_x (hr 0 _ v rfl rfl)
      refine ⟨⟨ad, h1, h2, fun j z hz => ?_⟩, ih (by simpa using hl) fun j x c hj hc => hr (j + 1) x c (by simpa using hj) (by simpa using hc)⟩
      cases j with
      | zero =>
        simp at hz; subst hz
        obtain ⟨u, h4, h5, h6⟩ := h3 0 _ rfl
        rw [rd_v h6] at h4 h5
        exact ⟨x0, h4, h5, hm⟩
      | succ j => simp at hz
  | @ref cs ds zs h ih =>
    intro vs hl hr
    cases vs with
    | nil => simp at hl
    | cons v vs =>
      obtain ⟨ad, h1, _, h2, h3⟩ := rd_x (hr 0 _ v rfl rfl)
      exact ⟨⟨ad, h1, h2, fun j z hz => by obtain ⟨u, h4, h5, h6⟩ := h3 j z hz; exact ⟨u, h4, h5, h6.less ho⟩⟩, ih (by simpa using hl) fun j x c hj hc => hr (j + 1) x c (by simpa using hj) (by simpa using hc)⟩
/-! ### Maps of ours -/
end Go.AX

/-! Rn -/
/-
  What the program's Run of a deed computes, on data.
-/
namespace Go.RF
open Go.AX

abbrev Mk := List (Str × (Bool × Int))
def mG : Mk → Str → Option (Bool × Int)
  | [], _ => none
  | (s, c) :: r, k => if s = k then some c else mG r k
def mS : Mk → Str → Bool × Int → Mk
  | [], k, c => [(k, c)]
  | (s, u) :: r, k, c => if s = k then (s, c) :: r else (s, u) :: mS r k c
theorem mG_mS (m : Mk) (k k' : Str) (c : Bool × Int) : mG (mS m k c) k' = if k = k' then some c else mG m k' := by
  induction m with
  | nil => simp [mS, mG]
  | cons p m ih =>
    obtain ⟨s, u⟩ := p
    simp only [mS]
    by_cases hs : s = k
    · rw [if_pos hs]
      simp only [mG]
      by_cases h : k = k'
      · simp [hs, h]
      · rw [if_neg (by rw [hs]; exact h), if_neg h, if_neg (by rw [hs]; exact h)]
    · rw [if_neg hs]
      simp only [mG, ih]
      by_cases h : s = k'
      · rw [if_pos h, if_neg (fun e => hs (by rw [h, e])), if_pos h]
      · rw [if_neg h, if_neg h]

def seeM (view : Str → Int × Bool) (m : Mk) (k : Str) : Int := match mG m k with
  | some c => c.2
  | none => (view k).1

/-- A deed's instructions, one by one: what keys have been given, the registers. -/
def runGo (view : Str → Int × Bool) : Int → Mk → Done → List Ins → Mk × Done
  | _, m, e, [] => (m, e)
  | sk, m, e, i :: r =>
    if 0 < sk then runGo view (sk - 1) m e r
    else if i.kind = 1 then runGo view sk m (rset e i.a.toNat (seeM view m i.key)) r
    else if i.kind = 2 then runGo view sk m (rset e i.a.toNat i.n) r
    else if i.kind = 3 then runGo view sk m (rset e i.a.toNat (round (rget e i.a.toNat + rget e i.b.toNat))) r
    else if i.kind = 4 then runGo view sk m (rset e i.a.toNat (round (rget e i.a.toNat - rget e i.b.toNat))) r
    else if i.kind = 5 then runGo view sk m (rset e i.a.toNat (round (rget e i.a.toNat * rget e i.b.toNat))) r
    else if i.kind = 6 then runGo view sk (mS m i.key (true, rget e i.a.toNat)) e r
    else if i.kind = 7 then runGo view sk (mS m i.key (false, 0)) e r
    else if i.kind = 8 then runGo view (if rget e i.a.toNat < 1 then i.n else sk) m e r
    else if rget e i.a.toNat < 0 then (m, bustE e) else runGo view sk m e r
def chg (m : Mk) : List Str → List (Str × (Bool × Int))
  | [] => []
  | k :: r => match mG m k with
    | some c => (k, c) :: chg m r
    | none => chg m r
def runM (view : Str → Int × Bool) (d : Deed) : Mk × Done := runGo view 0 [] done0 d.code
def runC (view : Str → Int × Bool) (d : Deed) : List (Str × (Bool × Int)) := if (runM view d).2.failed = true then [] else chg (runM view d).1 d.writes
end Go.RF

/-! Sh -/
/-
  The library's comparison of texts, at this program's numbers.
-/
namespace Go.Proofs
open Go.Shelf Go.RowKit
def Tryd.lays106_ren : Go.Shelf.Ren := ⟨fun | 106 => 61 | 213 => 66 | 265 => 73 | n => n, fun | 9 => 9 | 3 => 3 | n => n, fun | n => n⟩
theorem Tryd.lays106 : Go.Proofs.Lays.n106 Tryd.prog Tryd.lays106_ren := {
  mixed := by kernel_rfl
  f106 := Tryd.func61.trans (congrArg some (by kernel_rfl))
  f213 := Tryd.func66.trans (congrArg some (by kernel_rfl))
  f265 := Tryd.func73.trans (congrArg some (by kernel_rfl))
  t3 := Tryd.underlying3
  a3 := Tryd.isAgg3
  z3 := Tryd.sizeOf3
  v3 := Tryd.zeroValue3
  t9 := Tryd.underlying9
  a9 := Tryd.isAgg9
  z9 := Tryd.sizeOf9
  v9 := Tryd.zeroValue9 }
theorem Tryd.strings_Compare (a b : ByteArray) (w : World) :
    Calls Tryd.prog 61 #[.string a, .string b] w fun e w' => e = .returned (.int .i64 (Lib.compareBytes a.data.toList b.data.toList)) ∧ w' = w := Any.strings_Compare Tryd.lays106 a b w
end Go.Proofs

/-! G2 -/
/-
  Contracts of the program's find in chains: texts held against each other, and the library's search by halves.
-/
namespace Go.Proofs.YtembfadhnkabhaaDoor
open Go.AX Go.RF Go.RowKit

set_option maxRecDepth 100000
set_option maxHeartbeats 4000000

def cmpT (a b : Str) : Int := if slt a b = true then -1 else if a = b then 0 else 1

theorem compare_eq : ∀ (a b : Str), Lib.compareBytes a b = cmpT a b
  | [], [] => by simp [Lib.compareBytes, cmpT, bl_nil]
  | [], b :: r => by simp [Lib.compareBytes, cmpT, bl_nil_cons]
  | a :: l, [] => by simp [Lib.compareBytes, cmpT, bl_nil]
  | a :: l, b :: r => by
    simp only [Lib.compareBytes, cmpT, bl_cons]
    by_cases h1 : a < b
    · simp [h1]
    · by_cases h2 : b < a
      · have h3 : ¬ a = b := fun h => by subst h; exact h1 h2
        simp [h1, h2, h3]
      · have h3 : a = b := UInt8.le_antisymm (UInt8.not_lt.1 h2) (UInt8.not_lt.1 h1)
        subst h3
        rw [compare_eq l r]
        simp [h1, cmpT]
theorem cmpT_lt {a b : Str} : cmpT a b < 0 ↔ slt a b = true := by
  unfold cmpT
  split
  · next h => simp [h]
  · next h => split <;> simp [h]
theorem cmpT_zero {a b : Str} : cmpT a b = 0 ↔ a = b := by
  unfold cmpT
  split
  · next h =>
    constructor
    · intro h0; simp at h0
    · intro h0; subst h0; rw [slt_irrefl] at h; cases h
  · split <;> simp_all

theorem ok_compare (a b : Str) : FnOk Tryd.prog 61 [.d (dstr a), .d (dstr b)] (.one (dint (cmpT a b))) := by
  refine ⟨⟨_, Tryd.func61, rfl, rfl⟩, fun w own vs hown ha => ?_⟩
  match vs, ha with
  | [x, y], ⟨h1, h2, _⟩ =>
    obtain rfl : x = str a := rd_v h1
    obtain rfl : y = str b := rd_v h2
    refine (Tryd.strings_Compare ⟨a.toArray⟩ ⟨b.toArray⟩ w).mono fun e w' he => ?_
    obtain ⟨rfl, rfl⟩ := he
    exact ⟨_, rfl, Below.refl _ _, by rw [← compare_eq]; exact Rd.v _⟩

theorem ok_find1 (c : Chain) (k : Str) : FnOk Tryd.prog 60 [.d (.agg c.enc), .d (dstr k)] (.one (dint (cmpT c.key k))) := by
  refine fnOk_of tbl_ok mixed_ok Tryd.func60 rfl (by kernel_rfl) rfl rfl fun w0 own0 => ?_
  have hc := ok_compare c.key k
  repeat (first | ((with_reducible apply s1); exact rfl) | (with_reducible first | apply CW.seq | apply CW.block | apply CW.region | apply CW.draw | apply CW.skip | apply CW.exit | apply CW.ret | apply q_then | apply q_then_exit | apply q_then_ret | apply q_block | apply q_block_ret | apply q_block_hit | apply q_ret | apply q_end | apply q_loop_exit | apply q_loop_ret | apply q_loopT_exit | apply q_loopT_ret | apply RW.nil) | ((with_reducible apply s3); exact rfl; exact by_k) | ((with_reducible apply s2); exact rfl; exact by_k) | ((with_reducible apply s4); exact rfl) | ((with_reducible apply s5); (first | (focus ((with_reducible apply a_call); exact hc; exact rfl; (repeat (first | exact SubsE.nil | (apply SubsE.cons; exact rfl; (first | exact .d (.refl _) | exact .d (.nil _) | exact .agg rfl (.refl _) | exact .pd | exact .ptr rfl); (first | exact trivial | exact ⟨rfl, trivial⟩)))); done)) | exact by_oa); exact by_g) | ((with_reducible apply CW.cond_t); exact rfl; exact by_ks) | ((with_reducible apply CW.cond_f); exact rfl; exact by_ks) | ((with_reducible apply q_block_miss); exact rfl) | (refine And.intro (show chk [] [] _ _ = true by kernel_rfl) ?_))
  exact .one (.tmp rfl (.one (.d (.refl _))))

abbrev At (l : List Chain) (k : Str) (m : Nat) : Prop := AtK Chain.key l k m
abbrev isAt (l : List Chain) (k : Str) (m : Nat) : Bool := isAtK Chain.key l k m

theorem ok_bsearch (l : List Chain) (k : Str) (m : Nat) (hl : l.length ≤ 268435456) (hm : At l k m) :
    FnOk Tryd.prog 59 [.d (encChains l), .d (dstr k), .d (.v (.func (.func 60) #[] #[]))] (.tup [dint m, dbool (isAt l k m)]) := by
  refine fnOk_of tbl_ok mixed_ok Tryd.func59 rfl (by kernel_rfl) rfl rfl fun w0 own0 => ?_
  have hml := hm.le
  repeat (first | ((with_reducible apply s1); exact rfl) | (with_reducible first | apply CW.seq | apply CW.block | apply CW.region | apply CW.draw | apply CW.skip | apply CW.exit | apply CW.ret | apply q_then | apply q_then_exit | apply q_then_ret | apply q_block | apply q_block_ret | apply q_block_hit | apply q_ret | apply q_end | apply q_loop_exit | apply q_loop_ret | apply q_loopT_exit | apply q_loopT_ret | apply RW.nil) | ((with_reducible apply s3); exact rfl; exact by_k) | ((with_reducible apply s2); exact rfl; exact by_k) | ((with_reducible apply s4); exact rfl) | ((with_reducible apply s5); (first | exact by_oa); exact by_g) | ((with_reducible apply CW.cond_t); exact rfl; exact by_ks) | ((with_reducible apply CW.cond_f); exact rfl; exact by_ks) | ((with_reducible apply q_block_miss); exact rfl) | (refine And.intro (show chk [] [] _ _ = true by kernel_rfl) ?_))
  refine CW.loopT (fun t : Nat × Nat => [sd 0 (encChains l), sd 1 (dstr k), sd 2 (.v (.func (.func 60) #[] #[])), sd 8 (dint l.length), sd 9 (dint t.1), sd 10 (dint t.2), nxt 0])
    (fun t => t.1 ≤ m ∧ m ≤ t.2 ∧ t.2 ≤ l.length) (fun t => t.2 - t.1) (0, l.length) ⟨by omega, hm.le, by omega⟩ ?_ ?_
  ·
    exact by_less
  · rintro ⟨i, j⟩ ⟨h1, h2, h3⟩
    dsimp only at h1 h2 h3 ⊢
    by_cases h4 : i < j
    · obtain ⟨c, hc⟩ : ∃ c, l[(i + j) / 2]? = some c := ⟨l[(i + j) / 2]'(by omega), List.getElem?_eq_getElem (by omega)⟩
      have hcall := ok_find1 c k
      repeat (first | (with_reducible apply stop_reg 4) | ((with_reducible apply s1); exact rfl) | (with_reducible first | apply CW.seq | apply CW.block | apply CW.region | apply CW.draw | apply CW.skip | apply CW.exit | apply CW.ret | apply q_then | apply q_then_exit | apply q_then_ret | apply q_block | apply q_block_ret | apply q_block_hit | apply q_ret | apply q_end | apply q_loop_exit | apply q_loop_ret | apply q_loopT_exit | apply q_loopT_ret | apply RW.nil) | ((with_reducible apply s3); exact rfl; exact by_k) | ((with_reducible apply s2); exact rfl; exact by_k) | ((with_reducible apply s4); exact rfl) | ((with_reducible apply s5); (first | exact by_oa); exact by_g) | ((with_reducible apply CW.cond_t); exact rfl; exact by_ks) | ((with_reducible apply CW.cond_f); exact rfl; exact by_ks) | ((with_reducible apply q_block_miss); exact rfl) | (refine And.intro (show chk [] [] _ _ = true by kernel_rfl) ?_))
      refine Stop.cutk [sd 11 (dint ((i + j) / 2 : Nat))] [.s 0, .s 1, .s 2, .s 8, .s 9, .s 10, .nx] ?_ ?_
      ·
        repeat (first | ((with_reducible apply s1); exact rfl) | (with_reducible first | apply CW.seq | apply CW.block | apply CW.region | apply CW.draw | apply CW.skip | apply CW.exit | apply CW.ret | apply q_then | apply q_then_exit | apply q_then_ret | apply q_block | apply q_block_ret | apply q_block_hit | apply q_ret | apply q_end | apply q_loop_exit | apply q_loop_ret | apply q_loopT_exit | apply q_loopT_ret | apply RW.nil) | ((with_reducible apply s3); exact rfl; exact by_k) | ((with_reducible apply s2); exact rfl; exact by_k) | ((with_reducible apply s4); exact rfl) | ((with_reducible apply s5); (first | ((with_reducible apply a_bin); (iterate 2 exact rfl); exact bin_half; exact rfl) | exact by_oa); exact by_g) | ((with_reducible apply CW.cond_t); exact rfl; exact by_ks) | ((with_reducible apply CW.cond_f); exact rfl; exact by_ks) | ((with_reducible apply q_block_miss); exact rfl) | (refine And.intro (show chk [] [] _ _ = true by kernel_rfl) ?_))
        refine q_cut ?_
        exact by_less
      have hcz := @cmpT_lt c.key k
      by_cases h5 : cmpT c.key k < 0
      · have h6 : (i + j) / 2 < m := by
          rcases Nat.lt_or_ge ((i + j) / 2) m with h | h
          · exact h
          · have := hm.ge _ c hc h
            rw [hcz.1 h5] at this; cases this
        repeat (first | ((with_reducible apply s1); exact rfl) | (with_reducible first | apply CW.seq | apply CW.block | apply CW.region | apply CW.draw | apply CW.skip | apply CW.exit | apply CW.ret | apply q_then | apply q_then_exit | apply q_then_ret | apply q_block | apply q_block_ret | apply q_block_hit | apply q_ret | apply q_end | apply q_loop_exit | apply q_loop_ret | apply q_loopT_exit | apply q_loopT_ret | apply RW.nil) | ((with_reducible apply s3); exact rfl; exact by_k) | ((with_reducible apply s2); exact rfl; exact by_k) | ((with_reducible apply s4); exact rfl) | ((with_reducible apply s5); (first | (focus ((with_reducible apply a_callv); exact hcall; (iterate 2 exact rfl); (repeat (first | exact SubsE.nil | (apply SubsE.cons; exact rfl; (first | exact .d (.refl _) | exact .d (.nil _) | exact .agg rfl (.refl _) | exact .pd | exact .ptr rfl); (first | exact trivial | exact ⟨rfl, trivial⟩)))); done)) | exact by_oa); exact by_g) | ((with_reducible apply CW.cond_t); exact rfl; exact by_ks) | ((with_reducible apply CW.cond_f); exact rfl; exact by_ks) | ((with_reducible apply q_block_miss); exact rfl) | (refine And.intro (show chk [] [] _ _ = true by kernel_rfl) ?_))
        refine q_loopT ((i + j) / 2 + 1, j) ⟨by dsimp only; omega, h2, h3⟩ (by dsimp only; omega) ?_
        exact by_less
      · have h6 : m ≤ (i + j) / 2 := by
          rcases Nat.lt_or_ge ((i + j) / 2) m with h | h
          · exact absurd (hcz.2 (hm.lt _ c hc h)) h5
          · exact h
        repeat (first | ((with_reducible apply s1); exact rfl) | (with_reducible first | apply CW.seq | apply CW.block | apply CW.region | apply CW.draw | apply CW.skip | apply CW.exit | apply CW.ret | apply q_then | apply q_then_exit | apply q_then_ret | apply q_block | apply q_block_ret | apply q_block_hit | apply q_ret | apply q_end | apply q_loop_exit | apply q_loop_ret | apply q_loopT_exit | apply q_loopT_ret | apply RW.nil) | ((with_reducible apply s3); exact rfl; exact by_k) | ((with_reducible apply s2); exact rfl; exact by_k) | ((with_reducible apply s4); exact rfl) | ((with_reducible apply s5); (first | (focus ((with_reducible apply a_callv); exact hcall; (iterate 2 exact rfl); (repeat (first | exact SubsE.nil | (apply SubsE.cons; exact rfl; (first | exact .d (.refl _) | exact .d (.nil _) | exact .agg rfl (.refl _) | exact .pd | exact .ptr rfl); (first | exact trivial | exact ⟨rfl, trivial⟩)))); done)) | exact by_oa); exact by_g) | ((with_reducible apply CW.cond_t); exact rfl; exact by_ks) | ((with_reducible apply CW.cond_f); exact rfl; exact by_ks) | ((with_reducible apply q_block_miss); exact rfl) | (refine And.intro (show chk [] [] _ _ = true by kernel_rfl) ?_))
        refine q_loopT (i, (i + j) / 2) ⟨h1, h6, by dsimp only; omega⟩ (by dsimp only; omega) ?_
        exact by_less
    · obtain rfl : i = m := by omega
      cases hc : l[i]? with
      | none =>
        have h5 : l.length ≤ i := by
          rcases Nat.lt_or_ge i l.length with h | h
          · rw [List.getElem?_eq_getElem h] at hc; cases hc
          · exact h
        repeat (first | ((with_reducible apply s1); exact rfl) | (with_reducible first | apply CW.seq | apply CW.block | apply CW.region | apply CW.draw | apply CW.skip | apply CW.exit | apply CW.ret | apply q_then | apply q_then_exit | apply q_then_ret | apply q_block | apply q_block_ret | apply q_block_hit | apply q_ret | apply q_end | apply q_loop_exit | apply q_loop_ret | apply q_loopT_exit | apply q_loopT_ret | apply RW.nil) | ((with_reducible apply s3); exact rfl; exact by_k) | ((with_reducible apply s2); exact rfl; exact by_k) | ((with_reducible apply s4); exact rfl) | ((with_reducible apply s5); (first | exact by_oa); exact by_g) | ((with_reducible apply CW.cond_t); exact rfl; exact by_ks) | ((with_reducible apply CW.cond_f); exact rfl; exact by_ks) | ((with_reducible apply q_block_miss); exact rfl) | (refine And.intro (show chk [] [] _ _ = true by kernel_rfl) ?_))
        exact .two (.tmp rfl (.one (.d (.refl _)))) (.tmp rfl (.one (.d (dle_bool (by simp [isAtK, hc])))))
      | some c =>
        have h5 : i < l.length := (List.getElem?_eq_some_iff.1 hc).1
        have hcall := ok_find1 c k
        repeat (first | ((with_reducible apply s1); exact rfl) | (with_reducible first | apply CW.seq | apply CW.block | apply CW.region | apply CW.draw | apply CW.skip | apply CW.exit | apply CW.ret | apply q_then | apply q_then_exit | apply q_then_ret | apply q_block | apply q_block_ret | apply q_block_hit | apply q_ret | apply q_end | apply q_loop_exit | apply q_loop_ret | apply q_loopT_exit | apply q_loopT_ret | apply RW.nil) | ((with_reducible apply s3); exact rfl; exact by_k) | ((with_reducible apply s2); exact rfl; exact by_k) | ((with_reducible apply s4); exact rfl) | ((with_reducible apply s5); (first | (focus ((with_reducible apply a_callv); exact hcall; (iterate 2 exact rfl); (repeat (first | exact SubsE.nil | (apply SubsE.cons; exact rfl; (first | exact .d (.refl _) | exact .d (.nil _) | exact .agg rfl (.refl _) | exact .pd | exact .ptr rfl); (first | exact trivial | exact ⟨rfl, trivial⟩)))); done)) | exact by_oa); exact by_g) | ((with_reducible apply CW.cond_t); exact rfl; exact by_ks) | ((with_reducible apply CW.cond_f); exact rfl; exact by_ks) | ((with_reducible apply q_block_miss); exact rfl) | (refine And.intro (show chk [] [] _ _ = true by kernel_rfl) ?_))
        refine .two (.tmp rfl (.one (.d (.refl _)))) (.tmp rfl (.one (.d (dle_bool ?_))))
        rw [show isAt l k i = decide (c.key = k) by simp [isAt, isAtK, hc]]
        show decide (cmpT c.key k = 0) = decide (c.key = k)
        rw [decide_eq_decide]
        exact cmpT_zero

theorem ok_find (l : List Chain) (k : Str) (m : Nat) (hl : l.length ≤ 268435456) (hm : At l k m) : FnOk Tryd.prog 55 [.d (encChains l), .d (dstr k)] (.tup [dint m, dbool (isAt l k m)]) := by
  refine fnOk_of tbl_ok mixed_ok Tryd.func55 rfl (by kernel_rfl) rfl rfl fun w0 own0 => ?_
  have hc := ok_bsearch l k m hl hm
  repeat (first | ((with_reducible apply s1); exact rfl) | (with_reducible first | apply CW.seq | apply CW.block | apply CW.region | apply CW.draw | apply CW.skip | apply CW.exit | apply CW.ret | apply q_then | apply q_then_exit | apply q_then_ret | apply q_block | apply q_block_ret | apply q_block_hit | apply q_ret | apply q_end | apply q_loop_exit | apply q_loop_ret | apply q_loopT_exit | apply q_loopT_ret | apply RW.nil) | ((with_reducible apply s3); exact rfl; exact by_k) | ((with_reducible apply s2); exact rfl; exact by_k) | ((with_reducible apply s4); exact rfl) | ((with_reducible apply s5); (first | (focus ((with_reducible apply a_call); exact hc; exact rfl; (repeat (first | exact SubsE.nil | (apply SubsE.cons; exact rfl; (first | exact .d (.refl _) | exact .d (.nil _) | exact .agg rfl (.refl _) | exact .pd | exact .ptr rfl); (first | exact trivial | exact ⟨rfl, trivial⟩)))); done)) | exact by_oa); exact by_g) | ((with_reducible apply CW.cond_t); exact rfl; exact by_ks) | ((with_reducible apply CW.cond_f); exact rfl; exact by_ks) | ((with_reducible apply q_block_miss); exact rfl) | (refine And.intro (show chk [] [] _ _ = true by kernel_rfl) ?_))
  exact .two (.tmp rfl (.one (.d (.refl _)))) (.tmp rfl (.one (.d (.refl _))))

end Go.Proofs.YtembfadhnkabhaaDoor

/-! R2 -/
/-
  Contracts of the program's Get, Put, Drop and Round of rows.
-/
namespace Go.Proofs.YtembfadhnkabhaaDoor
open Go.AX Go.RF Go.RowKit

set_option maxRecDepth 100000
set_option maxHeartbeats 8000000

/-! ### Rows in order: what a key has, given, taken -/
def putS (k : Str) (n : Int) : List Pair → List Pair
  | [] => [⟨k, n⟩]
  | p :: r => if p.key = k then ⟨k, n⟩ :: r else if slt p.key k = true then p :: putS k n r else ⟨k, n⟩ :: p :: r
def dropS (k : Str) : List Pair → List Pair
  | [] => []
  | p :: r => if p.key = k then r else p :: dropS k r

theorem dropS_none {k : Str} : ∀ {l : List Pair}, (∀ p ∈ l, p.key ≠ k) → dropS k l = l
  | [], _ => rfl
  | d :: l, h => by
    simp only [dropS]
    rw [if_neg (h d (List.mem_cons_self ..)), dropS_none fun p hp => h p (List.mem_cons_of_mem _ hp)]
theorem putGo_done {k : Str} {n : Int} {h : Bool} : ∀ {l out : List Pair}, (∀ p ∈ l, p.key ≠ k) → putGo k n h true out l = out ++ l
  | [], out, _ => by simp [putGo]
  | p :: l, out, hl => by
    simp only [putGo]
    rw [if_neg (hl p (List.mem_cons_self ..))]
    simp only [Bool.true_or, Bool.not_true, Bool.false_and, Bool.false_eq_true, if_false]
    rw [putGo_done fun q hq => hl q (List.mem_cons_of_mem _ hq)]
    simp
theorem putGo_srt {k : Str} {n : Int} {h : Bool} : ∀ {l out : List Pair}, Srt Pair.key l → putGo k n h false out l = out ++ (if h = true then putS k n l else dropS k l)
  | [], out, _ => by cases h <;> simp [putGo, putS, dropS]
  | p :: l, out, hs => by
    obtain ⟨h1, h2⟩ := List.pairwise_cons.1 hs
    cases hl : slt p.key k with
    | true =>
      have hk : p.key ≠ k := slt_ne hl
      simp only [putGo, hl]
      rw [if_neg hk]
      simp only [Bool.not_true, Bool.or_false, Bool.not_false, Bool.and_false, Bool.false_and, Bool.false_eq_true, if_false]
      rw [putGo_srt h2]
      cases h <;> simp [putS, dropS, hk, hl]
    | false =>
      have hne : ∀ q ∈ l, q.key ≠ k := fun q hq e => by
        have h3 := h1 q hq
        rw [e] at h3
        rw [h3] at hl; cases hl
      simp only [putGo, hl]
      simp only [Bool.not_false, Bool.or_true, Bool.true_and, Bool.and_true]
      rw [putGo_done hne]
      by_cases hk : p.key = k
      · cases h <;> simp [putS, dropS, hk]
      · cases h <;> simp [putS, dropS, hk, hl, dropS_none hne]
theorem put_true {l : List Pair} (hs : Srt Pair.key l) (k : Str) (n : Int) : put l k n true = putS k n l := by
  unfold put; rw [putGo_srt hs]; rfl
theorem put_false {l : List Pair} (hs : Srt Pair.key l) (k : Str) (n : Int) : put l k n false = dropS k l := by
  unfold put; rw [putGo_srt hs]; rfl
theorem putS_mem {k : Str} {n : Int} : ∀ {l : List Pair} {p : Pair}, p ∈ putS k n l → p ∈ l ∨ p = ⟨k, n⟩
  | [], p, h => by simp [putS] at h; exact .inr h
  | q :: l, p, h => by
    simp only [putS] at h
    split at h
    · rcases List.mem_cons.1 h with h | h
      · exact .inr h
      · exact .inl (List.mem_cons_of_mem _ h)
    · split at h
      · rcases List.mem_cons.1 h with h | h
        · exact .inl (h ▸ List.mem_cons_self ..)
        · rcases putS_mem h with h | h
          · exact .inl (List.mem_cons_of_mem _ h)
          · exact .inr h
      · rcases List.mem_cons.1 h with h | h
        · exact .inr h
        · exact .inl h
theorem dropS_sub {k : Str} : ∀ l : List Pair, (dropS k l).Sublist l
  | [] => List.Sublist.slnil
  | p :: l => by
    simp only [dropS]
    split
    · exact List.sublist_cons_self ..
    · exact (dropS_sub l).cons_cons _
theorem putS_srt {k : Str} {n : Int} : ∀ {l : List Pair}, Srt Pair.key l → Srt Pair.key (putS k n l)
  | [], _ => List.pairwise_singleton ..
  | c :: l, hs => by
    obtain ⟨h1, h2⟩ := List.pairwise_cons.1 hs
    simp only [putS]
    by_cases hk : c.key = k
    · rw [if_pos hk]
      exact List.pairwise_cons.2 ⟨fun d hd => by show slt k d.key = true; rw [← hk]; exact h1 d hd, h2⟩
    · rw [if_neg hk]
      split
      · next h3 =>
        refine List.pairwise_cons.2 ⟨fun d hd => ?_, putS_srt h2⟩
        rcases putS_mem hd with h | rfl
        · exact h1 d h
        · exact h3
      · next h3 =>
        have h4 : slt k c.key = true := by
          rcases slt_tri c.key k with h | h | h
          · exact absurd h h3
          · exact absurd h hk
          · exact h
        refine List.pairwise_cons.2 ⟨fun d hd => ?_, hs⟩
        rcases List.mem_cons.1 hd with rfl | hd
        · exact h4
        · exact slt_trans h4 (h1 d hd)
theorem dropS_srt {k : Str} {l : List Pair} (hs : Srt Pair.key l) : Srt Pair.key (dropS k l) := hs.sublist (dropS_sub l)
/-! ### The walks -/
end Go.Proofs.YtembfadhnkabhaaDoor

/-! P4 -/
/-
  Rows given and taken: plain laws. Keys by Trim.
-/
namespace Go.Proofs.YtembfadhnkabhaaDoor
open Go.AX Go.RF

/-! ### What a key has, behind -/
theorem get_put {k k' : Str} {n : Int} : ∀ {l : List Pair}, RF.get (putS k n l) k' = if k = k' then (n, true) else RF.get l k'
  | [] => by simp [putS, RF.get]
  | p :: l => by
    simp only [putS]
    by_cases hk : p.key = k
    · rw [if_pos hk]
      simp only [RF.get]
      by_cases h : k = k'
      · simp [h]
      · rw [if_neg h, if_neg h, if_neg (by rw [hk]; exact h)]
    · rw [if_neg hk]
      split
      · simp only [RF.get]
        rw [get_put]
        by_cases h : p.key = k'
        · rw [if_pos h, if_neg (fun e => hk (by rw [h, e])), if_pos h]
        · rw [if_neg h, if_neg h]
      · simp only [RF.get]
theorem get_absent {k : Str} : ∀ {l : List Pair}, (∀ p ∈ l, p.key ≠ k) → RF.get l k = (0, false)
  | [], _ => rfl
  | p :: l, h => by
    simp only [RF.get]
    rw [if_neg (h p (List.mem_cons_self ..)), get_absent fun q hq => h q (List.mem_cons_of_mem _ hq)]
theorem srt_absent {p : Pair} {l : List Pair} (hs : Srt Pair.key (p :: l)) : ∀ q ∈ l, q.key ≠ p.key := fun q hq e => by
  have := (List.pairwise_cons.1 hs).1 q hq
  rw [e, slt_irrefl] at this; cases this
theorem get_drop {k k' : Str} : ∀ {l : List Pair}, Srt Pair.key l → RF.get (dropS k l) k' = if k = k' then (0, false) else RF.get l k'
  | [], _ => by simp [dropS, RF.get]
  | p :: l, hs => by
    simp only [dropS]
    by_cases hk : p.key = k
    · rw [if_pos hk]
      by_cases h : k = k'
      · rw [if_pos h]
        exact get_absent fun q hq => by rw [← h, ← hk]; exact srt_absent hs q hq
      · rw [if_neg h]
        simp only [RF.get]
        rw [if_neg (by rw [hk]; exact h)]
    · rw [if_neg hk]
      simp only [RF.get]
      rw [get_drop (List.pairwise_cons.1 hs).2]
      by_cases h : p.key = k'
      · rw [if_pos h, if_neg (fun e => hk (by rw [h, e])), if_pos h]
      · rw [if_neg h, if_neg h]

/-! ### In order, and the same members: the same -/
theorem srt_ext : ∀ {l r : List Pair}, Srt Pair.key l → Srt Pair.key r → (∀ p, p ∈ l ↔ p ∈ r) → l = r
  | [], [], _, _, _ => rfl
  | [], q :: r, _, _, h => by have := (h q).2 (List.mem_cons_self ..); simp at this
  | p :: l, [], _, _, h => by have := (h p).1 (List.mem_cons_self ..); simp at this
  | p :: l, q :: r, hl, hr, h => by
    obtain ⟨l1, l2⟩ := List.pairwise_cons.1 hl
    obtain ⟨r1, r2⟩ := List.pairwise_cons.1 hr
    have hpq : p = q := by
      rcases List.mem_cons.1 ((h p).1 (List.mem_cons_self ..)) with e | e
      · exact e
      · rcases List.mem_cons.1 ((h q).2 (List.mem_cons_self ..)) with e' | e'
        · exact e'.symm
        · have := slt_trans (l1 q e') (r1 p e)
          rw [slt_irrefl] at this; cases this
    subst hpq
    congr 1
    refine srt_ext l2 r2 fun x => ⟨fun hx => ?_, fun hx => ?_⟩
    · rcases List.mem_cons.1 ((h x).1 (List.mem_cons_of_mem _ hx)) with e | e
      · subst e; have := l1 x hx; rw [slt_irrefl] at this; cases this
      · exact e
    · rcases List.mem_cons.1 ((h x).2 (List.mem_cons_of_mem _ hx)) with e | e
      · subst e; have := r1 x hx; rw [slt_irrefl] at this; cases this
      · exact e
/-! ### Right rows stay right -/
/-! ### Keys, by Trim -/
end Go.Proofs.YtembfadhnkabhaaDoor

/-! P5 -/
/-
  The program's way of doing a deed comes to the references'.
-/
namespace Go.Proofs.YtembfadhnkabhaaDoor
open Go.AX Go.RF

theorem get_mem_some {k : Str} : ∀ {l : List Pair} {n : Int}, RF.get l k = (n, true) → (⟨k, n⟩ : Pair) ∈ l
  | [], n, h => by simp [RF.get] at h
  | p :: l, n, h => by
    simp only [RF.get] at h
    by_cases hk : p.key = k
    · rw [if_pos hk] at h
      cases h
      rw [← hk]
      exact List.mem_cons_self ..
    · rw [if_neg hk] at h
      exact List.mem_cons_of_mem _ (get_mem_some h)
theorem get_of_mem {p : Pair} : ∀ {l : List Pair}, Srt Pair.key l → p ∈ l → RF.get l p.key = (p.n, true)
  | q :: l, hs, h => by
    simp only [RF.get]
    rcases List.mem_cons.1 h with rfl | h
    · rw [if_pos rfl]
    · have := srt_absent hs p h
      rw [if_neg (fun e => this e.symm), get_of_mem (List.pairwise_cons.1 hs).2 h]
theorem get_ext {l r : List Pair} (hl : Srt Pair.key l) (hr : Srt Pair.key r) (h : ∀ k, RF.get l k = RF.get r k) : l = r :=
  srt_ext hl hr fun p => ⟨fun hp => get_mem_some (by rw [← h, get_of_mem hl hp]), fun hp => get_mem_some (by rw [h, get_of_mem hr hp])⟩

/-! ### What has been made, given to rows -/
def chOf (c : Bool × Int) : Int × Bool := if c.1 = true then (c.2, true) else (0, false)
def chAt (r : List Pair) (m : Mk) (k : Str) : Int × Bool := match mG m k with
  | some c => chOf c
  | none => RF.get r k
def app1 (out : List Pair) (k : Str) (c : Bool × Int) : List Pair := if c.1 = true then putS k c.2 out else dropS k out
def appC : List Pair → List (Str × (Bool × Int)) → List Pair
  | out, [] => out
  | out, x :: r => appC (app1 out x.1 x.2) r
theorem app1_srt {out : List Pair} (h : Srt Pair.key out) (k : Str) (c : Bool × Int) : Srt Pair.key (app1 out k c) := by
  unfold app1; split
  · exact putS_srt h
  · exact dropS_srt h
theorem app1_get {out : List Pair} (h : Srt Pair.key out) (k k' : Str) (c : Bool × Int) : RF.get (app1 out k c) k' = if k = k' then chOf c else RF.get out k' := by
  unfold app1 chOf; split
  · exact get_put
  · exact get_drop h
theorem appC_srt : ∀ {l : List (Str × (Bool × Int))} {out : List Pair}, Srt Pair.key out → Srt Pair.key (appC out l)
  | [], out, h => h
  | x :: l, out, h => appC_srt (l := l) (app1_srt h _ _)
theorem appC_get {m : Mk} {k : Str} : ∀ {l : List Str} {out : List Pair}, Srt Pair.key out → RF.get (appC out (chg m l)) k = if k ∈ l then chAt out m k else RF.get out k
  | [], out, h => by simp [chg, appC]
  | x :: l, out, h => by
    simp only [chg]
    cases hx : mG m x with
    | none =>
      simp only
      rw [appC_get h]
      by_cases hk : k ∈ l
      · rw [if_pos hk, if_pos (List.mem_cons_of_mem _ hk)]
      · rw [if_neg hk]
        by_cases he : k = x
        · subst he
          rw [if_pos (List.mem_cons_self ..), chAt, hx]
        · rw [if_neg (by simp [he, hk])]
    | some c =>
      simp only [appC]
      rw [appC_get (app1_srt h _ _)]
      by_cases he : x = k
      · subst he
        rw [if_pos (List.mem_cons_self ..), app1_get h, if_pos rfl]
        simp only [chAt, hx, ite_self]
      · have hne : ¬ k = x := fun e => he e.symm
        by_cases hk : k ∈ l
        · rw [if_pos hk, if_pos (List.mem_cons_of_mem _ hk)]
          unfold chAt
          rw [app1_get h, if_neg he]
        · rw [if_neg hk, if_neg (by simp [hne, hk]), app1_get h, if_neg he]

def plainD (r : List Pair) (d : Deed) : List Pair × Done := (appC r (runC (RF.get r) d), (runM (RF.get r) d).2)

theorem see_at {r now : List Pair} {m : Mk} (h : ∀ k, RF.get now k = chAt r m k) (hf : ∀ k c, mG m k = some c → c.1 = false → c.2 = 0) (k : Str) : seeM (RF.get r) m k = (RF.get now k).1 := by
  rw [h k]
  unfold seeM chAt chOf
  cases hm : mG m k with
  | none => rfl
  | some c =>
    dsimp only
    by_cases hc : c.1 = true
    · rw [if_pos hc]
    · rw [if_neg hc]
      exact hf k c hm (by simpa using hc)

structure MInv (r : List Pair) (W : List Str) (m : Mk) (now : List Pair) : Prop where
  s : Srt Pair.key now
  a : ∀ k, RF.get now k = chAt r m k
  f : ∀ k c, mG m k = some c → c.1 = false → c.2 = 0
  w : ∀ k c, mG m k = some c → k ∈ W
theorem MInv.set {r now : List Pair} {W : List Str} {m : Mk} (h : MInv r W m now) {k : Str} (hk : k ∈ W) (c : Bool × Int) (hc : c.1 = false → c.2 = 0) : MInv r W (mS m k c) (app1 now k c) := by
  refine ⟨app1_srt h.s k c, fun k' => ?_, fun k' c' hm => ?_, fun k' c' hm => ?_⟩
  · rw [app1_get h.s]
    unfold chAt
    rw [mG_mS]
    by_cases he : k = k'
    · rw [if_pos he, if_pos he]
    · rw [if_neg he, if_neg he]
      exact h.a k'
  · rw [mG_mS] at hm
    split at hm
    · cases hm; exact hc
    · exact h.f k' c' hm
  · rw [mG_mS] at hm
    split at hm
    · next he => rw [← he]; exact hk
    · exact h.w k' c' hm
theorem run_do {r : List Pair} {W : List Str} : ∀ {l : List Ins} {sk : Int} {m : Mk} {e : Done} {now : List Pair}, MInv r W m now → e.failed = false → (∀ i ∈ l, (i.kind = 6 ∨ i.kind = 7) → i.key ∈ W) →
    (runGo (RF.get r) sk m e l).2 = (doGo r sk now e l).2 ∧ ((doGo r sk now e l).2.failed = true → (doGo r sk now e l).1 = r) ∧ ((doGo r sk now e l).2.failed = false → MInv r W (runGo (RF.get r) sk m e l).1 (doGo r sk now e l).1)
  | [], sk, m, e, now, h, he, hw => by
    simp only [runGo, doGo]
    exact ⟨trivial, fun hf => by rw [he] at hf; exact absurd hf (by simp), fun _ => h⟩
  | i :: l, sk, m, e, now, h, he, hw => by
    have hl : ∀ i ∈ l, (i.kind = 6 ∨ i.kind = 7) → i.key ∈ W := fun j hj => hw j (List.mem_cons_of_mem _ hj)
    simp only [runGo, doGo]
    rw [see_at h.a h.f]
    by_cases h0 : 0 < sk
    · rw [if_pos h0, if_pos h0]; exact run_do h he hl
    rw [if_neg h0, if_neg h0]
    have hr : ∀ k x, (rset e k x).failed = false := fun k x => by rw [rset_failed]; exact he
    by_cases h1 : i.kind = 1
    · rw [if_pos h1, if_pos h1]; exact run_do h (hr _ _) hl
    rw [if_neg h1, if_neg h1]
    by_cases h2 : i.kind = 2
    · rw [if_pos h2, if_pos h2]; exact run_do h (hr _ _) hl
    rw [if_neg h2, if_neg h2]
    by_cases h3 : i.kind = 3
    · rw [if_pos h3, if_pos h3]; exact run_do h (hr _ _) hl
    rw [if_neg h3, if_neg h3]
    by_cases h4 : i.kind = 4
    · rw [if_pos h4, if_pos h4]; exact run_do h (hr _ _) hl
    rw [if_neg h4, if_neg h4]
    by_cases h5 : i.kind = 5
    · rw [if_pos h5, if_pos h5]; exact run_do h (hr _ _) hl
    rw [if_neg h5, if_neg h5]
    by_cases h6 : i.kind = 6
    · rw [if_pos h6, if_pos h6, put_true h.s]
      have := h.set (hw i (List.mem_cons_self ..) (.inl h6)) (true, rget e i.a.toNat) (by simp)
      exact run_do this he hl
    rw [if_neg h6, if_neg h6]
    by_cases h7 : i.kind = 7
    · rw [if_pos h7, if_pos h7, put_false h.s]
      have := h.set (hw i (List.mem_cons_self ..) (.inr h7)) (false, 0) (by simp)
      exact run_do this he hl
    rw [if_neg h7, if_neg h7]
    by_cases h8 : i.kind = 8
    · rw [if_pos h8, if_pos h8]; exact run_do h he hl
    rw [if_neg h8, if_neg h8]
    by_cases h9 : rget e i.a.toNat < 0
    · rw [if_pos h9, if_pos h9]
      exact ⟨rfl, fun _ => rfl, fun hf => by simp [bustE] at hf⟩
    · rw [if_neg h9, if_neg h9]; exact run_do h he hl
theorem plain_do {r : List Pair} {d : Deed} (hs : Srt Pair.key r) (hw : ∀ i ∈ d.code, (i.kind = 6 ∨ i.kind = 7) → i.key ∈ d.writes) : plainD r d = doD r d := by
  obtain ⟨h1, h2, h3⟩ := run_do (r := r) (W := d.writes) (l := d.code) (sk := 0) (m := []) (e := done0) (now := r) ⟨hs, fun k => rfl, fun k c h => by simp [mG] at h, fun k c h => by simp [mG] at h⟩ rfl hw
  unfold plainD doD
  refine Prod.ext ?_ h1
  dsimp only
  unfold runC
  by_cases hf : (runM (RF.get r) d).2.failed = true
  · rw [if_pos hf]
    have hf' : (doGo r 0 r done0 d.code).2.failed = true := by rw [← h1]; exact hf
    rw [h2 hf']; rfl
  · rw [if_neg hf]
    have hf' : (doGo r 0 r done0 d.code).2.failed = false := by rw [← h1]; exact Bool.eq_false_iff.2 hf
    have h := h3 hf'
    refine get_ext (appC_srt hs) h.s fun k => ?_
    rw [appC_get hs, h.a k]
    by_cases hk : k ∈ d.writes
    · rw [if_pos hk]; rfl
    · rw [if_neg hk]
      unfold chAt
      cases hm : mG (runGo (RF.get r) 0 [] done0 d.code).1 k with
      | none => rfl
      | some c => exact absurd (h.w k c hm) hk
theorem doD_srt {r : List Pair} {d : Deed} (hs : Srt Pair.key r) (hw : ∀ i ∈ d.code, (i.kind = 6 ∨ i.kind = 7) → i.key ∈ d.writes) : Srt Pair.key (doD r d).1 := by
  rw [← plain_do hs hw]; exact appC_srt hs
theorem isIn_true {s : Str} : ∀ {l : List Str}, isIn l s = true → s ∈ l
  | [], h => by cases h
  | x :: l, h => by
    simp only [isIn] at h
    by_cases hx : x = s
    · rw [hx]; exact List.mem_cons_self ..
    · rw [if_neg hx] at h
      exact List.mem_cons_of_mem _ (isIn_true h)
theorem wrongIns_keyed {d : Deed} {m : Int} {i : Ins} (h : wrongIns d m i = 0) (hk : i.kind = 6 ∨ i.kind = 7) : i.key ∈ d.writes := by
  unfold wrongIns at h
  have hkk : ¬ (i.kind < 1 ∨ 9 < i.kind) := by omega
  rw [if_neg hkk] at h
  have hh : has i.kind.toNat 107 = true := by rcases hk with e | e <;> rw [e] <;> decide
  split at h
  · simp at h
  · rw [if_neg (by rw [hh]; simp), if_neg (show ¬ i.kind = 1 by omega)] at h
    split at h
    · next hi => exact isIn_true hi
    · simp at h
theorem wrong_keyed {d : Deed} (h : wrongDeed d = 0) : ∀ i ∈ d.code, (i.kind = 6 ∨ i.kind = 7) → i.key ∈ d.writes := by
  intro i hi
  unfold wrongDeed at h
  by_cases h0 : lsGo [d.reads, d.writes] = 0
  · rw [if_pos h0] at h
    by_cases hc : 12 < d.code.length
    · rw [if_pos hc] at h; simp at h
    · rw [if_neg hc] at h
      obtain ⟨j, hj⟩ := List.getElem?_of_mem hi
      exact wrongIns_keyed (codeGo_mem h j i hj)
  · rw [if_neg h0] at h; exact absurd h h0

theorem runGo_congr {v v' : Str → Int × Bool} : ∀ {l : List Ins} {sk : Int} {m : Mk} {e : Done}, (∀ i ∈ l, i.kind = 1 → (v i.key).1 = (v' i.key).1) → runGo v sk m e l = runGo v' sk m e l
  | [], sk, m, e, _ => rfl
  | i :: l, sk, m, e, h => by
    have ih := fun {sk : Int} {m : Mk} {e : Done} => runGo_congr (v := v) (v' := v') (l := l) (sk := sk) (m := m) (e := e) fun j hj => h j (List.mem_cons_of_mem _ hj)
    have hs : i.kind = 1 → seeM v m i.key = seeM v' m i.key := fun hk => by
      unfold seeM
      split
      · rfl
      · exact h i (List.mem_cons_self ..) hk
    simp only [runGo, ih]
    by_cases hk : i.kind = 1
    · rw [hs hk]
    · simp only [if_neg hk]

end Go.Proofs.YtembfadhnkabhaaDoor

/-! AxNews -/
/-
  Functions whose result is a struct of slices of the caller's own, and of data.
-/
namespace Go.AX
open Go.RowKit

variable {cx : Cx} {g : Nat → Value} {σ σ' : St} {a : Act} {w w' : World} {nx : Nat} {c : Code} {Q : Exit → St → Prop}
variable {ty : TypeId} {pos : String} {af : Array Edge} {gd : Option (Nat × Bool)} {d : Nat}

/-- What a cell of the result is: data, or a slice that is the caller's own. -/
inductive Part where
  | d (x : D)
  | own (e k : Nat) (rows : List (List D))
def withL (own : Nat → Prop) (ps : List Part) (cs : Array Value) : Nat → Prop := fun b => own b ∨ ∃ j e k rows, ps[j]? = some (.own e k rows) ∧ blk (cs.getD j undef) = some b

structure PartsAt (w : World) (base : Nat) (own : Nat → Prop) (ps : List Part) (cs : Array Value) : Prop where
  size : cs.size = ps.length
  one : ∀ (j : Nat) (c : Value), cs[j]? = some c → c.oneCell' = true
  data : ∀ j x, ps[j]? = some (.d x) → Rd w (withL own ps cs) (cs.getD j undef) x
  rows : ∀ j e k rows, ps[j]? = some (.own e k rows) → RowsAt w base (withL own ps cs) e k (cs.getD j undef) rows
  sep : ∀ j j' e k rows e' k' rows' b, ps[j]? = some (.own e k rows) → ps[j']? = some (.own e' k' rows') → blk (cs.getD j undef) = some b → blk (cs.getD j' undef) = some b → j = j'

structure FnNews (P : Program) (f : FuncId) (args : List Arg) (ps : List Part) : Prop where
  run : ∃ fn, P.funcs[f]? = some fn ∧ (fn.name == "runtime.NumGoroutine") = false ∧ fn.body.isNone = false
  calls : ∀ (w : World) (own : Nat → Prop) (vs : List Value), (∀ b, own b → b < w.heap.size) → ArgsOk w own vs args →
    Calls P f vs.toArray w fun r w' => ∃ cs, r = .returned (.agg cs) ∧ Below w.heap.size w w' ∧ PartsAt w' w.heap.size own ps cs

/-- As the state has it, told as a part. -/
inductive PartE (σ : St) : AV → Part → Prop
  | d {x : D} : PartE σ (.d x) (.d x)
  | own {id n e k : Nat} {rows : List (List D)} (ho : get σ (.o id) = .ob (.arr e k rows)) (hn : n = rows.length) : PartE σ (.own id n) (.own e k rows)
def ids : List AV → List Nat
  | [] => []
  | .own id _ :: r => id :: ids r
  | _ :: r => ids r
inductive PartsL (σ : St) : List AV → List Part → Prop
  | nil : PartsL σ [] []
  | cons {av : AV} {p : Part} {avs : List AV} {ps : List Part} (h : PartE σ av p) (t : PartsL σ avs ps) : PartsL σ (av :: avs) (p :: ps)
theorem PartsL.at {avs : List AV} {ps : List Part} (h : PartsL σ avs ps) : avs.length = ps.length ∧ ∀ (j : Nat) (p : Part), ps[j]? = some p → ∃ av : AV, avs[j]? = some av ∧ PartE σ av p := by
  induction h with
  | nil => exact ⟨rfl, fun j p h => by simp at h⟩
  | cons h t ih =>
    refine ⟨by simp [ih.1], fun j p hj => ?_⟩
    cases j with
    | zero => simp at hj; subst hj; exact ⟨_, rfl, h⟩
    | succ j => simpa using ih.2 j p (by simpa using hj)
theorem ids_mem {id n : Nat} : ∀ {avs : List AV} {j : Nat}, avs[j]? = some (.own id n) → id ∈ ids avs
  | x :: avs, 0, h => by
    obtain rfl : x = .own id n := by simpa using h
    exact List.mem_cons_self ..
  | x :: avs, j + 1, h => by
    have := ids_mem (avs := avs) (j := j) (by simpa using h)
    cases x <;> simp [ids, this]
theorem ids_inj {id n m : Nat} : ∀ {avs : List AV} {i j : Nat}, (ids avs).Nodup → avs[i]? = some (.own id n) → avs[j]? = some (.own id m) → i = j
  | x :: avs, 0, 0, _, _, _ => rfl
  | x :: avs, 0, j + 1, h, hi, hj => by
    obtain rfl : x = .own id n := by simpa using hi
    simp only [ids, List.nodup_cons] at h
    exact absurd (ids_mem (by simpa using hj)) h.1
  | x :: avs, i + 1, 0, h, hi, hj => by
    obtain rfl : x = .own id m := by simpa using hj
    simp only [ids, List.nodup_cons] at h
    exact absurd (ids_mem (by simpa using hi)) h.1
  | x :: avs, i + 1, j + 1, h, hi, hj => by
    have h' : (ids avs).Nodup := by
      cases x <;> simp only [ids, List.nodup_cons] at h <;> first | exact h.2 | exact h
    exact congrArg (· + 1) (ids_inj (n := n) (m := m) h' (by simpa using hi) (by simpa using hj))
theorem parts_at (hs : SimG cx σ a w g nx) {avs : List AV} {ps : List Part} {v : Value} (hr : Rep cx g σ w v (.agg avs)) (hp : PartsL σ avs ps) (hn : (ids avs).Nodup) : ∃ cs, v = .agg cs ∧ PartsAt w cx.w0.heap.size cx.own0 ps cs := by
  obtain ⟨cs, h1, h2, h3, h4⟩ := hr
  obtain ⟨hl, hat⟩ := hp.at
  refine ⟨cs, h1, ?_⟩
  have hc : ∀ j p, ps[j]? = some p → ∃ av, avs[j]? = some av ∧ PartE σ av p ∧ Rep1 cx g σ w (cs.getD j undef) av := fun j p hj => by
    obtain ⟨av, h5, h6⟩ := hat j p hj
    have hlt : j < cs.size := by rw [h2]; exact (List.getElem?_eq_some_iff.1 h5).1
    have h7 : cs[j]? = some cs[j] := Array.getElem?_eq_getElem hlt
    refine ⟨av, h5, h6, ?_⟩
    rw [Array.getD_eq_getD_getElem?, h7]
    exact h4 j _ av h5 h7
  have hown : ∀ j e k rows, ps[j]? = some (.own e k rows) → ∃ id n, avs[j]? = some (.own id n) ∧ cs.getD j undef = g id ∧ get σ (.o id) = .ob (.arr e k rows) := fun j e k rows hj => by
    obtain ⟨av, h5, h6, h7⟩ := hc j _ hj
    cases h6 with
    | @own id n _ _ _ ho hn => exact ⟨id, n, h5, (h7.2 e k rows ho).2 hn, ho⟩
  have hle : ∀ b, withL cx.own0 ps cs b → cx.own g σ b := fun b hb => by
    rcases hb with hb | ⟨j, e, k, rows, hj, hb⟩
    · exact .inl hb
    · obtain ⟨id, n, _, h6, h7⟩ := hown j e k rows hj
      exact .inr ⟨id, _, h7, by rw [← h6]; exact hb⟩
  refine ⟨by rw [h2, hl], h3, fun j x hj => ?_, fun j e k rows hj => ?_, fun j j' e k rows e' k' rows' b hj hj' hb hb' => ?_⟩
  · obtain ⟨av, h5, h6, h7⟩ := hc j _ hj
    cases h6 with
    | d => exact Rd.less hle h7
  · obtain ⟨id, n, _, h6, h7⟩ := hown j e k rows hj
    rw [h6]
    exact (objRows hs h7).re (fun b hb => obj_ge hs h7 hb) hle
  · obtain ⟨id, n, h5, h6, h7⟩ := hown j e k rows hj
    obtain ⟨id', n', h5', h6', h7'⟩ := hown j' e' k' rows' hj'
    obtain rfl := hs.sep id id' _ _ b h7 h7' (by rw [← h6]; exact hb) (by rw [← h6']; exact hb')
    exact ids_inj hn h5 h5'
inductive RetNews (T : Tbl) (σ : St) (ps : List Part) : ResultVar → Prop
  | tmp {t : Nat} {avs : List AV} (h : get σ (.s t) = .av (.agg avs)) (hp : PartsL σ avs ps) (hn : (ids avs).Nodup) : RetNews T σ ps (.tmp t)
  | cell {s t id : Nat} {cells avs : List AV} {ti : TI} (h : get σ (.s s) = .av (.ptr id 0)) (ho : get σ (.o id) = .ob (.box cells)) (ht : tget T t = some ti)
      (hl : ldA ti cells = some (.agg avs)) (hp : PartsL σ avs ps) (hn : (ids avs).Nodup) : RetNews T σ ps (.cell s t)
theorem RetNews.ok (hs : SimG cx σ a w g nx) {rv : ResultVar} {ps : List Part} (h : RetNews cx.T σ ps rv) : ∃ cs, (rvRun a.tmps rv).run cx.P w = .ok (.agg cs) w ∧ PartsAt w cx.w0.heap.size cx.own0 ps cs := by
  cases h with
  | @tmp t avs h hp hn =>
    obtain ⟨cs, h1, h2⟩ := parts_at hs (hs.slots t _ h).1 hp hn
    exact ⟨cs, by rw [← h1]; rfl, h2⟩
  | @cell s t id cells avs ti h ho ht hl hp hn =>
    obtain ⟨v, h1, h2, _⟩ := load_ptr hs (x := a.tmps.getD s undef) (off := 0) (hs.slots s _ h).1 ho ht (by simpa using hl)
    obtain ⟨b, hg, hv⟩ := (hs.slots s _ h).1.2 cells ho
    obtain ⟨cs, rfl, h3⟩ := parts_at hs h2 hp hn
    refine ⟨cs, ?_, h3⟩
    rw [hv] at h1
    simp only [rvRun, hv, asAddr, Sem.run_bind, Sem.run_pure, Result.andThen_ok]
    simpa [Instr.loadAt, Instr.sureAddr] using h1
/-- As data, too. -/
def Part.dt : Part → D
  | .d x => x
  | .own _ k rows => .sl k rows
theorem FnNews.ok {P : Program} {f : FuncId} {args : List Arg} {ps : List Part} (h : FnNews P f args ps) : FnOk P f args (.one (.agg (ps.map Part.dt))) := by
  refine ⟨h.run, fun w own vs hown ha => (h.calls w own vs hown ha).mono fun r w' hr => ?_⟩
  obtain ⟨cs, rfl, h1, h2⟩ := hr
  refine ⟨.agg cs, rfl, h1, ?_⟩
  refine .agg cs _ (by rw [h2.size, List.length_map]) h2.one fun j x c hj hc => ?_
  rw [List.getElem?_map] at hj
  cases hp : ps[j]? with
  | none => rw [hp] at hj; cases hj
  | some p =>
    rw [hp] at hj
    simp at hj; subst hj
    have hcd : cs.getD j undef = c := by rw [Array.getD_eq_getD_getElem?, hc]; rfl
    cases p with
    | d x =>
      have := h2.data j x hp
      rw [hcd] at this
      exact this.less fun b hb => .inl hb
    | own e k rows =>
      have := h2.rows j e k rows hp
      rw [hcd] at this
      refine this.rd fun b hb => ⟨.inl hb, fun he => ?_⟩
      have := (this.lt he).1
      have := hown b hb
      omega

/-! ### Called -/
end Go.AX

/-! R5 -/
/-
  Contracts of the program's Do and All of deeds one by one, and of the references' All.
-/
namespace Go.Proofs.YtembfadhnkabhaaDoor
open Go.AX Go.RF Go.RowKit

set_option maxRecDepth 100000
set_option maxHeartbeats 8000000

theorem wrong_reads {d : Deed} (h : wrongDeed d = 0) : ∀ i ∈ d.code, i.kind = 1 → i.key ∈ d.reads := by
  intro i hi hk
  unfold wrongDeed at h
  by_cases h0 : lsGo [d.reads, d.writes] = 0
  · rw [if_pos h0] at h
    by_cases hc : 12 < d.code.length
    · rw [if_pos hc] at h; simp at h
    · rw [if_neg hc] at h
      obtain ⟨j, hj⟩ := List.getElem?_of_mem hi
      have h := codeGo_mem h j i hj
      unfold wrongIns at h
      rw [if_neg (show ¬ (i.kind < 1 ∨ 9 < i.kind) by omega)] at h
      have hh : has i.kind.toNat 107 = true := by rw [hk]; decide
      split at h
      · simp at h
      · simp only [hh, hk, Bool.true_eq_false, if_false, if_true] at h
        rw [if_neg (show ¬ has (Int.toNat 1) 107 = false by decide)] at h
        by_cases hi : isIn d.reads i.key = true
        · exact isIn_true hi
        · rw [if_neg hi] at h; simp at h
  · rw [if_neg h0] at h; exact absurd h h0

end Go.Proofs.YtembfadhnkabhaaDoor

/-! AxBld -/
/-
  Structs that are built of slices of ours, and of data.
-/
namespace Go.AX
open Go.RowKit

variable {cx : Cx} {g : Nat → Value} {σ : St} {a : Act} {w : World} {nx : Nat}
variable {ty : TypeId} {pos : String} {af : Array Edge} {gd : Option (Nat × Bool)} {d : Nat}

/-- A list of cells, and what is known of each. -/
def RdG (R : Value → AV → Prop) (cs : List Value) (ds : List AV) : Prop :=
  cs.length = ds.length ∧ (∀ c ∈ cs, Value.oneCell' c = true) ∧ ∀ (j : Nat) (c : Value) (x : AV), ds[j]? = some x → cs[j]? = some c → R c x

/-- The operands of a literal's parts. -/
inductive PartsV (σ : St) : List (Nat × Operand) → List (Nat × List AV) → List (Key × Val) → Prop
  | nil : PartsV σ [] [] []
  | cons {i : Nat} {x : Operand} {r : List (Nat × Operand)} {av : AV} {ds : List AV} {q : List (Nat × List AV)} {l lo : List (Key × Val)} (hx : ev σ x = some av) (hc : cellsOf av = some ds) (hl : nwRd av lo ∧ App σ lo) (hr : PartsV σ r q l) :
      PartsV σ ((i, x) :: r) ((i, ds) :: q) (rdOf x av ++ (lo ++ l))
/-- The same, of whatever state has what is read. -/
inductive PartsW : List (Nat × Operand) → List (Nat × List AV) → List (Key × Val) → Prop
  | nil : PartsW [] [] []
  | cons {i : Nat} {x : Operand} {r : List (Nat × Operand)} {av : AV} {ds : List AV} {q : List (Nat × List AV)} {l lo : List (Key × Val)} (hx : EvS x av) (hc : cellsOf av = some ds) (hl : nwRd av lo) (hr : PartsW r q l) :
      PartsW ((i, x) :: r) ((i, ds) :: q) (rdOf x av ++ (lo ++ l))
theorem PartsV.out {ps : List (Nat × Operand)} {qs : List (Nat × List AV)} {l : List (Key × Val)} (h : PartsV σ ps qs l) : PartsW ps qs l ∧ App σ l := by
  induction h with
  | nil => exact ⟨.nil, trivial⟩
  | cons hx hc hl hr ih => exact ⟨.cons (ev_out hx).1 hc hl.1 ih.1, (ev_out hx).2.append (hl.2.append ih.2)⟩
theorem PartsW.ok (hs : SimG cx σ a w g nx) {ps : List (Nat × Operand)} {qs : List (Nat × List AV)} {l : List (Key × Val)} (h : PartsW ps qs l) (ha : App σ l) :
    (ps.map fun p => (p.1, a.eval p.2)).length = qs.length ∧
    (∀ (j : Nat) (p : Nat × Value) (q : Nat × List AV), (ps.map fun p => (p.1, a.eval p.2))[j]? = some p → qs[j]? = some q → p.1 = q.1 ∧ RdG (Rep1 cx g σ w) p.2.cells.toList q.2) ∧
    ∀ q ∈ qs, ∀ av ∈ q.2, av.bd1 nx := by
  induction h with
  | nil => exact ⟨rfl, fun j p q h => by simp at h, by simp⟩
  | cons hx hc hl hr ih =>
    obtain ⟨h1, h2, h3⟩ := ih ha.right.right
    obtain ⟨hrep, hbd⟩ := hs.ev hx ha.left
    obtain ⟨c1, c2, c3, c4⟩ := cells_of hrep hbd hc (one_of hs hrep (newest_of hl ha.right.left))
    refine ⟨by simpa using h1, fun j p q hj hq => ?_, fun q hq => ?_⟩
    · cases j with
      | zero =>
        simp at hj hq
        subst hj hq
        refine ⟨rfl, by simpa using c1, fun c hc => ?_, fun j c x hx hc => c3 j c x hx (by simpa using hc)⟩
        obtain ⟨j, hj⟩ := List.getElem?_of_mem hc
        exact c2 j c (by simpa using hj)
      | succ j => exact h2 j p q (by simpa using hj) (by simpa using hq)
    · rcases List.mem_cons.1 hq with rfl | hq
      · exact c4
      · exact h3 q hq
end Go.AX

/-! P6 -/
/-
  What a deed needs: the program's way comes to the references'.
-/
namespace Go.Proofs.YtembfadhnkabhaaDoor
open Go.AX Go.RF

theorem anyHit_iff {cs : List Chain} {b want : Int} : ∀ {ks : List Str}, anyHit cs b want ks = true ↔ ∃ k ∈ ks, (before cs k b).made = false ∧ (before cs k b).by_ = want
  | [] => by simp [anyHit]
  | k :: ks => by
    simp only [anyHit]
    by_cases h : hit cs b want k = true
    · rw [if_pos h]
      simp only [hit, Bool.and_eq_true, Bool.not_eq_true', decide_eq_true_eq] at h
      exact ⟨fun _ => ⟨k, List.mem_cons_self .., h⟩, fun _ => rfl⟩
    · rw [if_neg h, anyHit_iff]
      simp only [hit, Bool.and_eq_true, Bool.not_eq_true', decide_eq_true_eq] at h
      constructor
      · rintro ⟨k', h1, h2⟩; exact ⟨k', List.mem_cons_of_mem _ h1, h2⟩
      · rintro ⟨k', h1, h2⟩
        rcases List.mem_cons.1 h1 with rfl | h1
        · exact absurd h2 h
        · exact ⟨k', h1, h2⟩
theorem needsGo_mem {cs : List Chain} {base b x : Int} {ks : List Str} : ∀ {l : List Nat} {j : Nat}, x ∈ needsGo cs base b ks j l ↔ ∃ k ∈ l, x = (k : Int) ∧ anyHit cs b (base + k) ks = true
  | [], j => by simp [needsGo]
  | k :: l, j => by
    simp only [needsGo]
    by_cases h : anyHit cs b (base + k) ks = true
    · rw [if_pos h, List.mem_cons, needsGo_mem]
      constructor
      · rintro (h1 | ⟨k', h1, h2⟩)
        · exact ⟨k, List.mem_cons_self .., h1, h⟩
        · exact ⟨k', List.mem_cons_of_mem _ h1, h2⟩
      · rintro ⟨k', h1, h2⟩
        rcases List.mem_cons.1 h1 with rfl | h1
        · exact .inl h2.1
        · exact .inr ⟨k', h1, h2⟩
    · rw [if_neg h, needsGo_mem]
      constructor
      · rintro ⟨k', h1, h2⟩; exact ⟨k', List.mem_cons_of_mem _ h1, h2⟩
      · rintro ⟨k', h1, h2⟩
        rcases List.mem_cons.1 h1 with rfl | h1
        · exact absurd h2.2 h
        · exact ⟨k', h1, h2⟩
end Go.Proofs.YtembfadhnkabhaaDoor

/-! G5 -/
/-
  Contract of the library's Backward over versions: its closure, for every loop body that keeps what lay below.
-/
namespace Go.Proofs.YtembfadhnkabhaaDoor
open Go.AX Go.RF Go.RowKit Go.Shelf

attribute [local go_sem] Oper.semAt_some

def verV (v : Version) : Value := .agg #[.int .i64 v.by_, .bool v.made, .bool v.has, .int .i64 v.n]
def verC (v : Version) (j : Nat) : Value := match j with
  | 0 => .int .i64 v.by_
  | 1 => .bool v.made
  | 2 => .bool v.has
  | _ => .int .i64 v.n
/-- What has come when k rounds are over, from the end on. -/
def back (vs : List Version) (k : Nat) : List (Nat × Version) := (List.range k).map fun j => (vs.length - 1 - j, vs[vs.length - 1 - j]?.getD ⟨0, false, false, 0⟩)
theorem back_succ (vs : List Version) (k : Nat) : back vs (k + 1) = back vs k ++ [(vs.length - 1 - k, vs[vs.length - 1 - k]?.getD ⟨0, false, false, 0⟩)] := by simp [back, List.range_succ]
theorem back_length (vs : List Version) (k : Nat) : (back vs k).length = k := by simp [back]

/-- The slice's cells hold the versions, in a block below n₀. -/
def VerAt (n₀ : Nat) (W : World) (ad : Addr) (vs : List Version) : Prop := ad.block < n₀ ∧ ∀ (i j : Nat) (v : Version), vs[i]? = some v → j < 4 → W.cell? (ad.add (i * 4 + j)) = some (verC v j)
theorem VerAt.below {n₀ : Nat} {A B : World} {ad : Addr} {vs : List Version} (h : VerAt n₀ A ad vs) (hb : Below n₀ A B) : VerAt n₀ B ad vs :=
  ⟨h.1, fun i j v hi hj => (hb.cell (by rw [add_block]; exact h.1)).trans (h.2 i j v hi hj)⟩

theorem ver_cells {n₀ : Nat} {W : World} {ad : Addr} {vs : List Version} (h : VerAt n₀ W ad vs) {i : Nat} {v : Version} (hi : vs[i]? = some v) :
    W.cell? (ad.add (i * 4)) = some (.int .i64 v.by_) ∧ W.cell? ⟨(ad.add (i * 4)).block, (ad.add (i * 4)).off + 1, none⟩ = some (.bool v.made) ∧
      W.cell? ⟨(ad.add (i * 4)).block, (ad.add (i * 4)).off + 2, none⟩ = some (.bool v.has) ∧ W.cell? ⟨(ad.add (i * 4)).block, (ad.add (i * 4)).off + 3, none⟩ = some (.int .i64 v.n) := by
  have hx : ∀ j, j < 4 → W.cell? ((ad.add (i * 4)).add j) = some (verC v j) := fun j hj => by rw [add_add]; exact h.2 i j v hi hj
  exact ⟨hx 0 (by omega), hx 1 (by omega), hx 2 (by omega), hx 3 (by omega)⟩

set_option maxRecDepth 100000 in
set_option maxHeartbeats 2000000 in
theorem backward1_in (F : Fence) (n : Nat) (hF : F.fn 62) (hro : F.round = none) (hn : 1 ≤ n) (l Bs n₀ cap : Nat) (ad : Addr) (vs : List Version) (hreach : vs.length ≤ 268435456) (J Jx : List (Nat × Version) → World → Prop)
    (hY : ∀ pre x W, J pre W → pre.length < vs.length → YieldAt F (n - 1) Tryd.prog l #[.int .i64 (x.1 : Int), verV x.2] W fun e W' =>
      (e = .returned (.bool true) ∧ J (pre ++ [x]) W' ∧ Below n₀ W W') ∨ (e = .returned (.bool false) ∧ Jx (pre ++ [x]) W'))
    (W : World) (hBs : W.cell? ⟨Bs, 0, none⟩ = some (.slice (some ad) vs.length cap)) (hBl : Bs < n₀) (hc : VerAt n₀ W ad vs) (h0 : J [] W) :
    CallsIn F n Tryd.prog 62 #[.func (.yield l) #[] #[], .pointer (some ⟨Bs, 0, none⟩)] W fun e W' => (∃ v, e = .returned v) ∧
      ((∃ ys, ys = back vs vs.length ∧ J ys W') ∨ (∃ pre, (∃ k, k ≤ vs.length ∧ pre = back vs k) ∧ Jx pre W')) := by
  refine callsIn_of_wp Tryd.func62 rfl hF ?_ hro
  simp only [Tryd.ntmps62, List.size_toArray, List.length_cons, List.length_nil, Nat.reduceAdd, Nat.reduceSub, Array.replicate_succ, Array.replicate_zero, List.push_toArray, List.append_toArray, List.nil_append, List.cons_append]
  gi_wp2
  gi_loopw [3] (fun i wr => ∃ k : Nat, k ≤ vs.length ∧ i = .int .i64 ((vs.length : Int) - 1 - k) ∧ J (back vs k) wr ∧ Below n₀ W wr)
    (fun i _ => (intOf i + 1).toNat)
  case atStart => exact ⟨0, Nat.zero_le _, by simp, h0, Below.refl _ _⟩
  case round =>
    obtain ⟨k, hk, rfl, hJs, hnx⟩ := hrel
    by_cases hlt : k < vs.length
    · obtain ⟨i, hi, hi2⟩ : ∃ i : Nat, (vs.length : Int) - 1 - k = i ∧ i = vs.length - 1 - k := ⟨vs.length - 1 - k, by omega, rfl⟩
      obtain ⟨v, hv⟩ : ∃ v, vs[i]? = some v := ⟨vs[i]'(by omega), List.getElem?_eq_getElem (by omega)⟩
      have hB2 : wr.cell? ⟨Bs, 0, none⟩ = some (.slice (some ad) vs.length cap) := (hnx.cell (p := ⟨Bs, 0, none⟩) hBl).trans hBs
      obtain ⟨hc0, hc1, hc2, hc3⟩ := ver_cells (hc.below hnx) hv
      obtain ⟨fn, tmps, assign, body, hy, hR⟩ := hY _ (i, v) wr hJs (by rw [back_length]; exact hlt)
      dsimp only at hy
      have hi0 : (0 : Int) ≤ (i : Int) := by omega
      have hlen : i < vs.length := by omega
      have hnext : back vs k ++ [(i, v)] = back vs (k + 1) := by rw [back_succ, ← hi2, hv]; rfl
      rw [hi]
      clear hi2
      unfold verV at hy
      gi_wp2
      refine hR.mono ?_
      rintro e W3 (⟨rfl, hJ3, hk3⟩ | ⟨rfl, hJx3⟩)
      · gi_wp2
        go_roundw
        case rel => exact ⟨k + 1, by omega, by congr 1 <;> omega, by rw [← hnext]; exact hJ3, hnx.trans hk3⟩
        case measure => simp [intOf] <;> omega
      · gi_wp2
        refine bodyPost_ret (results_none rfl _ _ _) rfl ?_
        exact ⟨⟨_, rfl⟩, .inr ⟨_, ⟨k + 1, by omega, hnext⟩, hJx3⟩⟩
    · obtain rfl : k = vs.length := by omega
      have hi : (vs.length : Int) - 1 - vs.length = -1 := by omega
      rw [hi]
      gi_wp2
      go_end0
      exact ⟨⟨_, rfl⟩, .inl ⟨_, rfl, hJs⟩⟩

set_option maxRecDepth 100000 in
set_option maxHeartbeats 1000000 in
/-- .. at a slice of no element: no round. -/
theorem backward1_nil_in (F : Fence) (n : Nat) (hF : F.fn 62) (hro : F.round = none) (l Bs cap : Nat) (p : Option Addr) (J : List (Nat × Version) → World → Prop) (W : World) (hBs : W.cell? ⟨Bs, 0, none⟩ = some (.slice p 0 cap)) (h0 : J [] W) :
    CallsIn F n Tryd.prog 62 #[.func (.yield l) #[] #[], .pointer (some ⟨Bs, 0, none⟩)] W fun e W' => (∃ v, e = .returned v) ∧ J [] W' := by
  refine callsIn_of_wp Tryd.func62 rfl hF ?_ hro
  simp only [Tryd.ntmps62, List.size_toArray, List.length_cons, List.length_nil, Nat.reduceAdd, Nat.reduceSub, Array.replicate_succ, Array.replicate_zero, List.push_toArray, List.append_toArray, List.nil_append, List.cons_append]
  gi_wp2
  gi_loopw [3] (fun i wr => i = .int .i64 (-1) ∧ J [] wr) (fun _ _ => 0)
  case atStart => exact ⟨rfl, h0⟩
  case round =>
    obtain ⟨rfl, hJs⟩ := hrel
    gi_wp2
    go_end0
    exact ⟨⟨_, rfl⟩, hJs⟩

set_option maxHeartbeats 1000000 in
/-- Backward itself: the slice value is boxed; the function value captures the box. -/
theorem backward_in (F : Fence) (n : Nat) (hF : F.fn 56) (hro : F.round = none) (a : Option Addr) (len cap : Nat) (w : World) :
    CallsIn F n Tryd.prog 56 #[.slice a len cap] w fun e w' => e = .returned (.func (.func 62) #[] #[.pointer (some ⟨w.heap.size, 0, none⟩)]) ∧ w' = w.alloc (.cells #[.slice a len cap] 57) := by
  refine callsIn_of_wp Tryd.func56 rfl hF ?_ hro
  simp only [Tryd.ntmps56, List.size_toArray, List.length_cons, List.length_nil, Nat.reduceAdd, Nat.reduceSub, Array.replicate_succ, Array.replicate_zero, List.push_toArray, List.append_toArray, List.nil_append, List.cons_append]
  gi_wp2
  go_ret
  exact ⟨rfl, rfl⟩

/-- A slice value that holds versions, in a block below n₀; or it has none. -/
def Vers (n₀ : Nat) (W : World) (sv : Value) (vs : List Version) : Prop :=
  ∃ p cap, sv = .slice p vs.length cap ∧ (vs = [] ∨ ∃ ad, p = some ad ∧ VerAt n₀ W ad vs)
theorem Vers.below {n₀ : Nat} {A B : World} (h : Below n₀ A B) {sv : Value} {vs : List Version} : Vers n₀ A sv vs → Vers n₀ B sv vs
  | ⟨p, cap, e, .inl h0⟩ => ⟨p, cap, e, .inl h0⟩
  | ⟨p, cap, e, .inr ⟨ad, h1, h2⟩⟩ => ⟨p, cap, e, .inr ⟨ad, h1, h2.below h⟩⟩
theorem Vers.mono {n₀ n₁ : Nat} {A : World} (h : n₀ ≤ n₁) {sv : Value} {vs : List Version} : Vers n₀ A sv vs → Vers n₁ A sv vs
  | ⟨p, cap, e, .inl h0⟩ => ⟨p, cap, e, .inl h0⟩
  | ⟨p, cap, e, .inr ⟨ad, h1, h2⟩⟩ => ⟨p, cap, e, .inr ⟨ad, h1, ⟨Nat.lt_of_lt_of_le h2.1 h, h2.2⟩⟩⟩

theorem backward_stops (F : Fence) (n : Nat) (hF : F.fn 62) (hro : F.round = none) (hn : 1 ≤ n) (Bs n₀ : Nat) (sv : Value) (vs : List Version) (hreach : vs.length ≤ 268435456) (w : World) (hBs : Bs < n₀) (hn₀ : n₀ ≤ w.heap.size)
    (hc : w.cell? ⟨Bs, 0, none⟩ = some sv) (hI : Vers n₀ w sv vs) :
    SeqStopsK F n Tryd.prog 62 #[.pointer (some ⟨Bs, 0, none⟩)] (fun x : Nat × Version => #[Value.int .i64 (x.1 : Int), verV x.2]) (Below n₀) (fun ys => ys = back vs vs.length)
      (fun pre => ∃ k, k ≤ vs.length ∧ pre = back vs k) vs.length w := fun l J Jx W hW _ _ hY h0 => by
  have hc' := (hW.cell (p := ⟨Bs, 0, none⟩) (show Bs < w.heap.size by omega)).trans hc
  obtain ⟨p, cap, rfl, rfl | ⟨ad, rfl, hv⟩⟩ := hI.below (hW.mono hn₀)
  · exact (backward1_nil_in F n hF hro l Bs cap p J W hc' h0).mono fun e W' ⟨he, hj⟩ => ⟨he, .inl ⟨_, rfl, hj⟩⟩
  · exact backward1_in F n hF hro hn l Bs n₀ cap ad vs hreach J Jx hY W hc' hBs hv h0

end Go.Proofs.YtembfadhnkabhaaDoor

/-! G6 -/
/-
  Contract of the program's Before.
-/
namespace Go.Proofs.YtembfadhnkabhaaDoor
open Go.AX Go.RF Go.RowKit Go.Shelf

attribute [local go_sem] Oper.semAt_some

def AllGe (b : Int) (pre : List (Nat × Version)) : Prop := ∀ x ∈ pre, b ≤ x.2.by_
def Hit (b : Int) (pre : List (Nat × Version)) (v : Version) : Prop := ∃ ini i, pre = ini ++ [(i, v)] ∧ AllGe b ini ∧ v.by_ < b
theorem AllGe.snoc {b : Int} {pre : List (Nat × Version)} (h : AllGe b pre) {i : Nat} {v : Version} (hv : b ≤ v.by_) : AllGe b (pre ++ [(i, v)]) := fun x hx => by
  rcases List.mem_append.1 hx with hx | hx
  · exact h x hx
  · simp at hx; subst hx; exact hv
/-- A version in a box. -/
def Box4 (W : World) (B : Nat) (v : Version) : Prop := W.heap[B]? = some (.cells #[.int .i64 v.by_, .bool v.made, .bool v.has, .int .i64 v.n] 68 (0, 0))
theorem Box4.lt {W : World} {B : Nat} {v : Version} (h : Box4 W B v) : B < W.heap.size := (Array.getElem?_eq_some_iff.1 h).1
theorem Box4.cells {W : World} {B : Nat} {v : Version} (h : Box4 W B v) : W.cell? ⟨B, 0, none⟩ = some (.int .i64 v.by_) ∧ W.cell? ⟨B, 1, none⟩ = some (.bool v.made) ∧ W.cell? ⟨B, 2, none⟩ = some (.bool v.has) ∧ W.cell? ⟨B, 3, none⟩ = some (.int .i64 v.n) := by
  have h' : W.heap[B]? = _ := h
  refine ⟨?_, ?_, ?_, ?_⟩ <;> simp [World.cell?, h']
theorem Box4.frozens {W : World} {B : Nat} {v : Version} (h : Box4 W B v) : W.frozen? ⟨B, 0, none⟩ = false ∧ W.frozen? ⟨B, 1, none⟩ = false ∧ W.frozen? ⟨B, 2, none⟩ = false ∧ W.frozen? ⟨B, 3, none⟩ = false := by
  have h' : W.heap[B]? = _ := h
  refine ⟨?_, ?_, ?_, ?_⟩ <;> simp [World.frozen?, h']
theorem Box4.kept {W W' : World} {row : Option Nat} {B : Nat} {v : Version} (h : Box4 W B v) (hg : W.grownBy W' row) (hne : some B ≠ row) : Box4 W' B v := (hg.block B h.lt hne).trans h
theorem Box4.alloc {W : World} {B : Nat} {v : Version} (h : Box4 W B v) (o : Obj) : Box4 (W.alloc o) B v := h.kept (World.grownBy_alloc W o none) (by simp)
theorem Box4.below {n : Nat} {W W' : World} {B : Nat} {v : Version} (h : Box4 W B v) (hb : Below n W W') (hB : B < n) : Box4 W' B v := (hb.block B hB).trans h
theorem box4_own (B : Nat) {β : Type} (f : β → Version) : Own (fun s W => Box4 W B (f s)) := fun s X Y row hs hg hrow =>
  Box4.kept hs hg (fun e => by
    obtain ⟨o, ho, hc⟩ := hrow B e.symm
    rw [show X.heap[B]? = _ from hs] at ho
    cases ho
    simp [Obj.isCells] at hc)
theorem sets_box {W : World} {B : Nat} {v : Version} (h : Box4 W B v) (u : Version) :
    Box4 ((((W.setCell ⟨B, 0, none⟩ (.int .i64 u.by_)).setCell ⟨B, 1, none⟩ (.bool u.made)).setCell ⟨B, 2, none⟩ (.bool u.has)).setCell ⟨B, 3, none⟩ (.int .i64 u.n)) B u := by
  have h' : W.heap[B]? = _ := h
  simp [Box4, World.setCell, Array.getElem?_modify, h']
theorem sets_keeps (W : World) (B : Nat) (a b c d : Value) : KeepsOthers W ((((W.setCell ⟨B, 0, none⟩ a).setCell ⟨B, 1, none⟩ b).setCell ⟨B, 2, none⟩ c).setCell ⟨B, 3, none⟩ d) :=
  (((KeepsOthers.setCell W _ _).trans (KeepsOthers.setCell _ _ _)).trans (KeepsOthers.setCell _ _ _)).trans (KeepsOthers.setCell _ _ _)
theorem sets_below {W : World} {n B : Nat} {a b c d : Value} (h : n ≤ B) : Below n W ((((W.setCell ⟨B, 0, none⟩ a).setCell ⟨B, 1, none⟩ b).setCell ⟨B, 2, none⟩ c).setCell ⟨B, 3, none⟩ d) :=
  ((((Below.refl n W).setCell (p := ⟨B, 0, none⟩) h _).setCell (p := ⟨B, 1, none⟩) h _).setCell (p := ⟨B, 2, none⟩) h _).setCell (p := ⟨B, 3, none⟩) h _

theorem results_box {W : World} {B : Nat} {v : Version} {x : Array Value} (c0 : W.cell? ⟨B, 0, none⟩ = some (.int .i64 v.by_)) (c1 : W.cell? ⟨B, 1, none⟩ = some (.bool v.made)) (c2 : W.cell? ⟨B, 2, none⟩ = some (.bool v.has)) (c3 : W.cell? ⟨B, 3, none⟩ = some (.int .i64 v.n))
    (hx : x[6]? = some (.pointer (some ⟨B, 0, none⟩)) := by rfl) : (results Tryd.f43 x).run Tryd.prog W = .ok (verV v) W := by
  simp [results, Tryd.f43, go_sem, hx, c0, c1, c2, c3, verV, Act.eval, Array.getD_eq_getD_getElem?]

set_option maxRecDepth 100000 in
set_option maxHeartbeats 4000000 in
theorem before_raw (m : Nat) (by_ : Int) (k : ByteArray) (ad : Addr) (n cp : Nat) (sv : Value) (vs : List Version) (w : World) (hm : m < n) (had : ad.block < w.heap.size)
    (hcell : w.cell? (ad.add (m * 2 + 1)) = some sv) (hvs : Vers w.heap.size w sv vs) (hreach : vs.length ≤ 268435456)
    (hf : ∀ W : World, w.heap.size ≤ W.heap.size → Below w.heap.size w W → Calls Tryd.prog 55 #[.slice (some ad) n cp, .string k] W fun e W' => e = .returned (.tuple #[.int .i64 (m : Int), .bool true]) ∧ Below W.heap.size W W') :
    Calls Tryd.prog 43 #[.slice (some ad) n cp, .string k, .int .i64 by_] w fun e W' =>
      ((e = .returned (verV noV) ∧ AllGe by_ (back vs vs.length)) ∨ ∃ k v, k ≤ vs.length ∧ Hit by_ (back vs k) v ∧ e = .returned (verV v)) ∧ Below w.heap.size w W' := by
  refine (callsIn_wide (n := 3)).1 ?_
  refine callsIn_of_wp_marks Tryd.func43 rfl trivial ?_
  simp only [Tryd.ntmps43, List.size_toArray, List.length_cons, List.length_nil, Nat.reduceAdd, Nat.reduceSub, Array.replicate_succ, Array.replicate_zero, List.push_toArray, List.append_toArray, List.nil_append, List.cons_append]
  have hB1 : Below w.heap.size w ((w.alloc (.cells #[.int .i64 by_] 3)).alloc (.cells #[.int .i64 0, .bool false, .bool false, .int .i64 0] 68)) := ((Below.refl _ w).alloc (Nat.le_refl _) _).alloc (by simp) _
  have hf1 := hf _ hB1.size hB1
  obtain ⟨p, cap, rfl, hvs1⟩ := hvs
  have hcell' : w.cell? ⟨(ad.add (m * 2)).block, (ad.add (m * 2)).off + 1, none⟩ = some (.slice p vs.length cap) := by
    rw [← add_add] at hcell
    exact hcell
  have hc0 : ∀ {w1 : World}, Below w.heap.size w w1 → w1.cell? ⟨(ad.add (m * 2)).block, (ad.add (m * 2)).off + 1, none⟩ = some (.slice p vs.length cap) := fun hB =>
    (hB.cell (p := ⟨(ad.add (m * 2)).block, (ad.add (m * 2)).off + 1, none⟩) (by show (ad.add (m * 2)).block < _; rw [add_block]; exact had)).trans hcell'
  gi_wp2_with (refine ⟨trivial, ?_⟩; first | (gi_at_call 55; refine (callsIn_wide.2 hf1).mono ?_; clear hf1; rintro e w1 ⟨rfl, hb1⟩; have hB2 := hB1.trans (hb1.mono hB1.size); have hc1 := hc0 hB2) |
    (gi_at_call 56; refine (backward_in _ _ trivial rfl _ _ _ _).mono ?_; rintro e w' ⟨rfl, rfl⟩))
  have hsz1 : w.heap.size + 1 + 1 ≤ w1.heap.size := by have := hb1.size; simpa using this
  have bY : Boxed w1 w.heap.size 3 (.int .i64 by_) := by
    have h0 := (Boxed.new w 3 (.int .i64 by_)).alloc (.cells #[.int .i64 0, .bool false, .bool false, .int .i64 0] 68)
    exact (hb1.block _ (by simp; omega)).trans h0
  have bR : Box4 w1 (w.heap.size + 1) ⟨0, false, false, 0⟩ := by
    have h0 : Box4 ((w.alloc (.cells #[.int .i64 by_] 3)).alloc (.cells #[.int .i64 0, .bool false, .bool false, .int .i64 0] 68)) (w.heap.size + 1) ⟨0, false, false, 0⟩ := by
      have := World.alloc_heap_new (w.alloc (.cells #[.int .i64 by_] 3)) (.cells #[.int .i64 0, .bool false, .bool false, .int .i64 0] 68)
      simpa [Box4] using this
    exact h0.below hb1 (by simp)
  have bN := Boxed.new w1 57 (.slice p vs.length cap)
  have hV1 : Vers w.heap.size w1 (.slice p vs.length cap) vs := Vers.below hB2 ⟨p, cap, rfl, hvs1⟩
  obtain ⟨W0, hW0⟩ : ∃ W0, w1.alloc (.cells #[.slice p vs.length cap] 57) = W0 := ⟨_, rfl⟩
  have hBW : Below w1.heap.size w1 W0 := by rw [← hW0]; exact (Below.refl _ w1).alloc (Nat.le_refl _) _
  have hsz0 : W0.heap.size = w1.heap.size + 1 := by rw [← hW0]; simp
  rw [hW0] at bN ⊢
  have bY0 : Boxed W0 w.heap.size 3 (.int .i64 by_) := (hBW.block _ (by omega)).trans bY
  have bR0 : Box4 W0 (w.heap.size + 1) ⟨0, false, false, 0⟩ := bR.below hBW (by omega)
  have hB0 : Below w.heap.size w W0 := hB2.trans (hBW.mono hB2.size)
  clear hW0
  refine wpIn_rangeFunc_ownH (F := Fence.wide) rfl (by omega) (gf := 62) (lb := #[.pointer (some ⟨w1.heap.size, 0, none⟩)]) rfl trivial (enters_of Tryd.func62 (by kernel_rfl) rfl)
    (backward_stops Fence.wide (3 - 1) trivial rfl (by omega) w1.heap.size W0.heap.size _ vs hreach W0 (by omega) (Nat.le_refl _) bN.cell (Vers.mono hB0.size (Vers.below (hBW.mono hB2.size) hV1))) belowK_t (belowK_b (Nat.le_refl _)) (Below.refl _ _) (fun _ => rfl)
    (fun pre W => AllGe by_ pre ∧ Below W0.heap.size W0 W)
    (fun c pre W => (c = .ret ∧ ∃ v, Hit by_ pre v ∧ Box4 W (w.heap.size + 1) v) ∧ Below w.heap.size w W)
    (OwnFrom.and (Own.from (fun s A B row hs hg hr => hs) _) (ownFrom_below (Nat.le_refl _) (Nat.le_refl _)))
    (fun c => OwnFrom.and (Own.from (fun s A B row hs hg hr => by obtain ⟨hc, v, e1, e4⟩ := hs; exact ⟨hc, v, e1, box4_own (w.heap.size + 1) (fun (_ : Unit) => v) () A B row e4 hg hr⟩) _) (ownFrom_below (Nat.le_refl _) hB0.size))
    ⟨fun x hx => by simp at hx, Below.refl _ _⟩
    (fun x a' W => ∃ Bx, w.heap.size + 1 < Bx ∧ Box4 W Bx x.2 ∧ a' = { tmps := #[.slice (some ad) n cp, .string k, .int .i64 by_, undef, undef, .pointer (some ⟨w.heap.size, 0, none⟩), .pointer (some ⟨w.heap.size + 1, 0, none⟩), .int .i64 (m : Int), .bool true, undef, .pointer (some ⟨Bx, 0, none⟩),
      .tuple #[.int .i64 (m : Int), .bool true], .slice (some ad) n cp, .string k, .tuple #[.int .i64 (m : Int), .bool true], .int .i64 (m : Int), .bool true, .bool true, .slice (some ad) n cp, .int .i64 (m : Int), .pointer (some (ad.add (m * 2))), .pointer (some ⟨(ad.add (m * 2)).block, (ad.add (m * 2)).off + 1, none⟩), .slice p vs.length cap,
      .func (.func 62) #[] #[.pointer (some ⟨w1.heap.size, 0, none⟩)], .int .i64 (x.1 : Int), verV x.2, undef, undef, undef, undef, undef, undef], defers := [] })
    (fun x a' _ X Y row hs hg hr => by obtain ⟨Bx, h1, h2, h3⟩ := hs; exact ⟨Bx, h1, box4_own Bx (fun (_ : Unit) => x.2) () X Y row h2 hg (fun r e => (hr r e).2), h3⟩)
    ?assign ?body ?done ?stop
  case assign =>
    rintro l pre ⟨xi, xb, xm, xh, xn⟩ W K ⟨hp, hB⟩ hK
    simp only [verV]
    gi_wp2
    have hbx : Below W0.heap.size W (W.alloc (.cells #[.int .i64 xb, .bool xm, .bool xh, .int .i64 xn] 68)) := (Below.refl _ W).alloc hB.size _
    exact hK _ _ ((KeepsOthers.alloc _ _).from _) hbx ⟨hp, hB.trans hbx⟩ ⟨W.heap.size, by have := hB.size; omega, World.alloc_heap_new W _, rfl⟩
  case body =>
    rintro l pre ⟨xi, xb, xm, xh, xn⟩ a' W hl ⟨r, hr⟩ ⟨hp, hB⟩ ⟨Bx, hBx, bX, rfl⟩ hlt
    simp only [verV]
    have bR1 := bR0.below hB (by omega)
    have bY1 : Boxed W w.heap.size 3 (.int .i64 by_) := (hB.block _ (by omega)).trans bY0
    obtain ⟨x0, x1, x2, x3⟩ := bX.cells
    obtain ⟨y0, y1, y2, y3⟩ := bR1.cells
    obtain ⟨z0, z1, z2, z3⟩ := bR1.frozens
    have cY := bY1.cell
    have hB9 : Below w.heap.size w W := hB0.trans (hB.mono hB0.size)
    dsimp only at x0 x1 x2 x3
    gi_wp2
    · have hx : xb < by_ := by assumption
      exact ⟨(sets_keeps W _ _ _ _ _).from _, ⟨rfl, ⟨xb, xm, xh, xn⟩, ⟨pre, xi, rfl, hp, hx⟩, sets_box bR1 ⟨xb, xm, xh, xn⟩⟩, hB9.trans (sets_below (by omega))⟩
    · have hx : by_ ≤ xb := by assumption
      exact ⟨KeepsFrom.refl _ _, Below.refl _ _, hp.snoc hx, by rw [← hsz0]; exact hB⟩
  case done =>
    rintro D ys W hD rfl ⟨hne, hB⟩ hK
    have bR1 := bR0.below hB (by omega)
    obtain ⟨y0, y1, y2, y3⟩ := bR1.cells
    obtain ⟨z0, z1, z2, z3⟩ := bR1.frozens
    gi_wp2
    have hK' := (sets_keeps W (w.heap.size + 1) (.int .i64 (-1)) (.bool true) (.bool false) (.int .i64 0)).same D _ hK rfl
    have bF := sets_box bR1 noV
    have hB9 : Below w.heap.size w W := hB0.trans (hB.mono hB0.size)
    have hBs := hB9.trans (sets_below (W := W) (n := w.heap.size) (B := w.heap.size + 1) (a := .int .i64 (-1)) (b := .bool true) (c := .bool false) (d := .int .i64 0) (by omega))
    refine ⟨by simp, .inl ⟨_, _, rfl, run_takeDeferred hK', ?_⟩⟩
    have hD' : w.heap.size + 1 ≠ D := by have := bR1.lt; omega
    obtain ⟨c0, c1, c2, c3⟩ := Box4.cells (Box4.kept bF (grownBy_putObj' _ D (.deferred none)) (fun e => hD' (by cases e; rfl)))
    refine ⟨verV noV, ?_, .inl rfl, hBs.trans (belowK_b (w := w) (Nat.le_refl _) _ D _ _ (by have := hB0.size; omega) hK' rfl rfl)⟩
    exact results_box c0 c1 c2 c3
  case stop =>
    rintro D c pre W hD ⟨k, hk, rfl⟩ ⟨⟨rfl, v, hv, hcr⟩, hB⟩ hK
    gi_wp2
    refine ⟨by simp, .inl ⟨_, _, rfl, run_takeDeferred hK, ?_⟩⟩
    have hD' : w.heap.size + 1 ≠ D := by have := hB0.size; omega
    obtain ⟨c0, c1, c2, c3⟩ := Box4.cells (Box4.kept hcr (grownBy_putObj' _ D (.deferred none)) (fun e => hD' (by cases e; rfl)))
    exact ⟨verV v, results_box c0 c1 c2 c3, .inr ⟨k, v, hk, hv, rfl⟩, hB.trans (belowK_b (w := w) (Nat.le_refl _) W D _ _ (by have := hB0.size; omega) hK rfl rfl)⟩

/-! ### The contract -/
theorem rd_ver {w : World} {own : Nat → Prop} (v : Version) : Rd w own (verV v) (.agg v.enc) := by
  refine .agg _ _ rfl (fun j c hc => ?_) fun j d c hd hc => ?_
  · match j, hc with
    | 0, hc => simp at hc; subst hc; rfl
    | 1, hc => simp at hc; subst hc; rfl
    | 2, hc => simp at hc; subst hc; rfl
    | 3, hc => simp at hc; subst hc; rfl
  · match j, hd, hc with
    | 0, hd, hc => simp [Version.enc] at hc hd; subst hc hd; exact .v _
    | 1, hd, hc => simp [Version.enc] at hc hd; subst hc hd; exact .v _
    | 2, hd, hc => simp [Version.enc] at hc hd; subst hc hd; exact .v _
    | 3, hd, hc => simp [Version.enc] at hc hd; subst hc hd; exact .v _
theorem rd_vers {w : World} {own : Nat → Prop} {sv : Value} {vs : List Version} (h : Rd w own sv (encVs vs)) : Vers w.heap.size w sv vs := by
  unfold encVs at h
  generalize hr : vs.map Version.enc = rows at h
  generalize hd : D.sl 4 rows = d at h
  cases h with
  | v => cases hd
  | x => cases hd
  | agg => cases hd
  | nil a cap k =>
    cases hd
    have : vs = [] := by simpa using hr
    subst this
    exact ⟨a, cap, rfl, .inl rfl⟩
  | sl ad cap k rows f hb hs hcap hk hc h1 hr' =>
    cases hd
    subst hr
    refine ⟨some ad, cap, by simp, .inr ⟨ad, rfl, hs, fun i j v hi hj => ?_⟩⟩
    have hi' : (vs.map Version.enc)[i]? = some v.enc := by simp [hi]
    have hval : ∀ d, v.enc[j]? = some d → ∀ x, d = .v x → w.cell? (ad.add (i * 4 + j)) = some x := fun d hd x hx => by
      subst hx
      rw [hc i j _ _ hi' hd, rd_v (hr' i j _ _ hi' hd)]
    match j, hj with
    | 0, _ => exact hval _ rfl _ rfl
    | 1, _ => exact hval _ rfl _ rfl
    | 2, _ => exact hval _ rfl _ rfl
    | 3, _ => exact hval _ rfl _ rfl

theorem back_ge {b : Int} {vs : List Version} {k : Nat} (hk : k ≤ vs.length) (h : AllGe b (back vs k)) : ∀ v ∈ vs.drop (vs.length - k), b ≤ v.by_ := fun v hv => by
  obtain ⟨j, hj⟩ := List.getElem?_of_mem hv
  rw [List.getElem?_drop] at hj
  have hlt := (List.getElem?_eq_some_iff.1 hj).1
  have hmem : (vs.length - k + j, v) ∈ back vs k := by
    unfold back
    refine List.mem_map.2 ⟨k - 1 - j, by simp; omega, ?_⟩
    rw [show vs.length - 1 - (k - 1 - j) = vs.length - k + j by omega, hj]
    rfl
  exact h _ hmem
theorem hit_bvs {b : Int} {vs : List Version} {k : Nat} {v : Version} (hk : k ≤ vs.length) (h : Hit b (back vs k) v) : bvs true b noV vs = v := by
  obtain ⟨ini, i, h1, h2, h3⟩ := h
  cases k with
  | zero => simp [back] at h1
  | succ k =>
    rw [back_succ] at h1
    obtain ⟨rfl, h5⟩ := List.append_inj' h1 rfl
    simp only [List.cons.injEq, Prod.mk.injEq, and_true] at h5
    obtain ⟨rfl, h5⟩ := h5
    have hlt : vs.length - 1 - k < vs.length := by omega
    have hv : vs[vs.length - 1 - k]? = some v := by
      rw [List.getElem?_eq_getElem hlt] at h5 ⊢
      simpa using h5
    have hge := back_ge (by omega) h2
    rw [split_at hv, bvs_append]
    simp only [bvs]
    rw [if_pos (by simpa using h3), show vs.length - 1 - k + 1 = vs.length - k by omega, bvs_ge hge]

theorem isAt_some {l : List Chain} {k : Str} {m : Nat} (h : isAt l k m = true) : ∃ c, l[m]? = some c ∧ c.key = k := by
  unfold isAt isAtK at h
  split at h
  · next c hc => exact ⟨c, hc, of_decide_eq_true h⟩
  · cases h

theorem ok_pbefore (l : List Chain) (k : Str) (b : Int) (hl : l.length ≤ 268435456) (hv : ∀ c ∈ l, c.vs.length ≤ 268435456) (hs : Srt Chain.key l) :
    FnOk Tryd.prog 43 [.d (encChains l), .d (dstr k), .d (dint b)] (.one (.agg (before l k b).enc)) := by
  obtain ⟨m, hm⟩ := hs.at k
  have hf := ok_find l k m hl hm
  cases hb : isAt l k m with
  | false =>
    refine fnOk_of tbl_ok mixed_ok Tryd.func43 rfl (by kernel_rfl) rfl rfl fun w0 own0 => ?_
    rw [hb] at hf
    rw [before_no hs hm hb]
    repeat (first | ((with_reducible apply s1); exact rfl) | (with_reducible first | apply CW.seq | apply CW.block | apply CW.region | apply CW.draw | apply CW.skip | apply CW.exit | apply CW.ret | apply q_then | apply q_then_exit | apply q_then_ret | apply q_block | apply q_block_ret | apply q_block_hit | apply q_ret | apply q_end | apply q_loop_exit | apply q_loop_ret | apply q_loopT_exit | apply q_loopT_ret | apply RW.nil) | ((with_reducible apply s3); exact rfl; exact by_k) | ((with_reducible apply s2); exact rfl; exact by_k) | ((with_reducible apply s4); exact rfl) | ((with_reducible apply s5); (first | (focus ((with_reducible apply a_call); exact hf; exact rfl; (repeat (first | exact SubsE.nil | (apply SubsE.cons; exact rfl; (first | exact .d (.refl _) | exact .d (.nil _) | exact .agg rfl (.refl _) | exact .pd | exact .ptr rfl); (first | exact trivial | exact ⟨rfl, trivial⟩)))); done)) | exact by_oa); exact by_g) | ((with_reducible apply CW.cond_t); exact rfl; exact by_ks) | ((with_reducible apply CW.cond_f); exact rfl; exact by_ks) | ((with_reducible apply q_block_miss); exact rfl) | (refine And.intro (show chk [] [] _ _ = true by kernel_rfl) ?_))
    exact .one (.cell rfl rfl rfl rfl (.aggd (ds := noV.enc) rfl (.refl _)))
  | true =>
    obtain ⟨c, hc, hck⟩ := isAt_some hb
    rw [before_yes hs hc hck]
    refine ⟨⟨_, Tryd.func43, rfl, rfl⟩, fun w own vs hown ha => ?_⟩
    match vs, ha with
    | [x, y, z], ⟨h1, h2, h3, _⟩ =>
      obtain rfl : y = str k := rd_v h2
      obtain rfl : z = .int .i64 b := rd_v h3
      have hfc : ∀ W : World, w.heap.size ≤ W.heap.size → Below w.heap.size w W → Calls Tryd.prog 55 #[x, str k] W fun e W' => e = .returned (.tuple #[.int .i64 (m : Int), .bool true]) ∧ Below W.heap.size W W' := fun W hsz hB => by
        have h1' : Rd W own x (encChains l) := Rd.step (Ext.of_below hB) (fun b h => .inl h) h1
        refine (hf.calls W own [x, str k] (fun b hb => Nat.lt_of_lt_of_le (hown b hb) hsz) ⟨h1', Rd.v _, trivial⟩).mono fun e W' he => ?_
        obtain ⟨v, rfl, hB', vs, rfl, hsz', hr⟩ := he
        refine ⟨?_, hB'⟩
        obtain ⟨vl⟩ := vs
        match vl, hsz', hr with
        | [a, d], _, hr =>
          obtain rfl : a = .int .i64 (m : Int) := rd_v (hr 0 a (dint m) rfl rfl)
          obtain rfl : d = .bool (isAt l k m) := rd_v (hr 1 d (dbool (isAt l k m)) rfl rfl)
          rw [hb]
      have hcm : m < l.length := (List.getElem?_eq_some_iff.1 hc).1
      have hcv := hv c (List.mem_of_getElem? hc)
      have key : ∃ ad n cp sv, x = .slice (some ad) n cp ∧ m < n ∧ ad.block < w.heap.size ∧ w.cell? (ad.add (m * 2 + 1)) = some sv ∧ Rd w own sv (encVs c.vs) := by
        have h1' := h1
        unfold ArgOk encChains at h1'
        generalize hr : l.map Chain.enc = rows at h1'
        generalize hd : D.sl 2 rows = d at h1'
        cases h1' with
        | v => cases hd
        | x => cases hd
        | agg => cases hd
        | nil a cap k' =>
          cases hd
          have : l = [] := by simpa using hr
          subst this
          simp at hc
        | sl ad cap k' rows f hb' hsz hcap hk hcc h1c hr' =>
          cases hd
          subst hr
          have hi : (l.map Chain.enc)[m]? = some c.enc := by simp [hc]
          exact ⟨ad, _, cap, f m 1, rfl, by simpa using hcm, hsz, hcc m 1 _ _ hi rfl, hr' m 1 _ (encVs c.vs) hi rfl⟩
      obtain ⟨ad, n, cp, sv, rfl, hmn, had, hcell, hrd⟩ := key
      refine (before_raw m b ⟨k.toArray⟩ ad n cp sv c.vs w hmn had hcell (rd_vers hrd) hcv hfc).mono fun e W' ⟨he, hB⟩ => ?_
      rcases he with ⟨rfl, hall⟩ | ⟨i, v, hi, hh, rfl⟩
      · refine ⟨_, rfl, hB, ?_⟩
        have := back_ge (Nat.le_refl _) hall
        rw [Nat.sub_self, List.drop_zero] at this
        rw [bvs_ge this]
        exact rd_ver noV
      · refine ⟨_, rfl, hB, ?_⟩
        rw [hit_bvs hi hh]
        exact rd_ver v

end Go.Proofs.YtembfadhnkabhaaDoor

/-! G17 -/
/-
  Contracts of the program's Needs and Ready.
-/
namespace Go.Proofs.YtembfadhnkabhaaDoor
open Go.AX Go.RF

set_option maxRecDepth 100000
set_option maxHeartbeats 8000000

/-- What is not made is of deeds that are planned, from the base on. -/
def NB (e : Engine) : Prop := ∀ (at_ : Nat) (k : Str), (before e.chains k (e.base + at_)).made = false → e.base ≤ (before e.chains k (e.base + at_)).by_ ∧ (before e.chains k (e.base + at_)).by_ < e.base + at_

end Go.Proofs.YtembfadhnkabhaaDoor

/-! P7 -/
/-
  Engines as they are built: what is not made is of deeds that wait; what has nothing is nothing. The program's Go comes to the references'.
-/
namespace Go.Proofs.YtembfadhnkabhaaDoor
open Go.AX Go.RF

structure WInv (e : Engine) : Prop where
  d : ∀ d ∈ e.deeds, wrongDeed d = 0
  n : ∀ c ∈ e.chains, ∀ v ∈ c.vs, v.made = false → ∃ (k : Nat) (x : Deed), v.by_ = e.base + k ∧ e.state[k]? = some 0 ∧ e.deeds[k]? = some x ∧ c.key ∈ x.writes
  h : ∀ c ∈ e.chains, ∀ v ∈ c.vs, v.has = false → v.n = 0
  l : e.state.length = e.deeds.length

theorem newE_w (r : List Pair) : WInv (newE r) := by
  have h0 : ∀ c ∈ (newE r).chains, ∀ v ∈ c.vs, v.made = true ∧ v.has = true := by
    intro c hc v hv
    obtain ⟨p, _, rfl⟩ := List.mem_map.1 hc
    simp [rowChain] at hv
    subst hv; exact ⟨rfl, rfl⟩
  refine ⟨by simp [newE], fun c hc v hv hm => ?_, fun c hc v hv hm => ?_, rfl⟩
  · rw [(h0 c hc v hv).1] at hm; cases hm
  · rw [(h0 c hc v hv).2] at hm; cases hm
theorem addKeys_mem {b : Int} : ∀ {ks : List Str} {l : List Chain}, Srt Chain.key l → ∀ c ∈ addKeys b l ks, ∀ v ∈ c.vs, (∃ c0 ∈ l, c0.key = c.key ∧ v ∈ c0.vs) ∨ (v = newV b ∧ c.key ∈ ks)
  | [], l, _, c, hc, v, hv => .inl ⟨c, hc, rfl, hv⟩
  | k :: ks, l, hs, c, hc, v, hv => by
    simp only [addKeys] at hc
    rw [addC_srt hs] at hc
    rcases addKeys_mem (addS_srt hs) c hc v hv with ⟨c0, h0, h1, h2⟩ | ⟨h1, h2⟩
    · rcases addS_mem h0 with h3 | rfl | ⟨c1, h3, h4, rfl⟩
      · exact .inl ⟨c0, h3, h1, h2⟩
      · simp at h2
        exact .inr ⟨h2, by rw [← h1]; exact List.mem_cons_self ..⟩
      · rcases List.mem_append.1 h2 with h2 | h2
        · exact .inl ⟨c1, h3, by rw [h4]; exact h1, h2⟩
        · simp at h2
          exact .inr ⟨h2, by rw [← h1]; exact List.mem_cons_self ..⟩
    · exact .inr ⟨h1, List.mem_cons_of_mem _ h2⟩
theorem WInv.add1 {e : Engine} (h : WInv e) (hs : SInv e) {d : Deed} (hd : wrongDeed d = 0) : WInv (add1 e d) := by
  have hlt : ∀ (k : Nat) (x : Deed), e.deeds[k]? = some x → k < e.deeds.length := fun k x hx => (List.getElem?_eq_some_iff.1 hx).1
  refine ⟨fun x hx => ?_, fun c hc v hv hm => ?_, fun c hc v hv hm => ?_, ?_⟩
  · rcases List.mem_append.1 hx with hx | hx
    · exact h.d x hx
    · simp at hx; subst hx; exact hd
  · rcases addKeys_mem hs.k c hc v hv with ⟨c0, h0, h1, h2⟩ | ⟨rfl, h2⟩
    · obtain ⟨k, x, h3, h4, h5, h6⟩ := h.n c0 h0 v h2 hm
      have := hlt k x h5
      refine ⟨k, x, h3, ?_, ?_, by rw [← h1]; exact h6⟩
      · show (e.state ++ [0])[k]? = _
        rw [List.getElem?_append_left (by rw [h.l]; exact this)]; exact h4
      · show (e.deeds ++ [d])[k]? = _
        rw [List.getElem?_append_left this]; exact h5
    · refine ⟨e.deeds.length, d, rfl, ?_, ?_, h2⟩
      · show (e.state ++ [0])[e.deeds.length]? = _
        rw [← h.l]; simp
      · show (e.deeds ++ [d])[e.deeds.length]? = _
        simp
  · rcases addKeys_mem hs.k c hc v hv with ⟨c0, h0, h1, h2⟩ | ⟨rfl, h2⟩
    · exact h.h c0 h0 v h2 hm
    · rfl
  · show (e.state ++ [0]).length = (e.deeds ++ [d]).length
    simp [h.l]
theorem WInv.addAll : ∀ {l : List Deed} {e : Engine}, WInv e → SInv e → (∀ d ∈ l, wrongDeed d = 0) → WInv (addAll e l)
  | [], e, h, _, _ => h
  | d :: l, e, h, hs, hl => by
    simp only [RF.addAll]
    have hd := hl d (List.mem_cons_self ..)
    exact WInv.addAll (h.add1 hs hd) (hs.add1 (wrong_keys hd).2) fun x hx => hl x (List.mem_cons_of_mem _ hx)
theorem WInv.addE {e : Engine} (h : WInv e) (hs : SInv e) {l : List Deed} (hw : (addE e l).2 = 0) : WInv (addE e l).1 := by
  unfold RF.addE at hw ⊢
  by_cases h0 : wrongs l = 0
  · rw [if_pos h0]
    exact h.addAll hs fun d hd => wrongs_mem h0 d hd
  · rw [if_neg h0] at hw; exact absurd hw h0

theorem get_none0 {k : Str} : ∀ {r : List Pair}, (RF.get r k).2 = false → (RF.get r k).1 = 0
  | [], _ => rfl
  | p :: r, h => by
    simp only [RF.get] at h ⊢
    by_cases hp : p.key = k
    · rw [if_pos hp] at h; cases h
    · rw [if_neg hp] at h ⊢; exact get_none0 h
theorem goSets_mem {r : List Pair} {b : Int} : ∀ {ks : List Str} {l : List Chain}, ∀ c ∈ goSets r b l ks, ∀ v ∈ c.vs,
    (∃ c0 ∈ l, c0.key = c.key ∧ v ∈ c0.vs ∧ (v.by_ = b → c.key ∉ ks)) ∨ (v.made = true ∧ (v.has = false → v.n = 0))
  | [], l, c, hc, v, hv => .inl ⟨c, hc, rfl, hv, fun _ => by simp⟩
  | k :: ks, l, c, hc, v, hv => by
    simp only [goSets] at hc
    rcases goSets_mem c hc v hv with ⟨c0, h0, h1, h2, h3⟩ | h1
    · obtain ⟨c1, h4, rfl⟩ := List.mem_map.1 h0
      obtain ⟨w, h5, rfl⟩ := List.mem_map.1 h2
      by_cases hh : decide (c1.key = k) = true ∧ w.by_ = b
      · refine .inr ?_
        have e : setV (decide (c1.key = k)) ⟨b, true, (RF.get r k).2, (RF.get r k).1⟩ w = ⟨b, true, (RF.get r k).2, (RF.get r k).1⟩ := by unfold setV; rw [if_pos hh]
        rw [e]
        exact ⟨rfl, get_none0⟩
      · have e : setV (decide (c1.key = k)) ⟨b, true, (RF.get r k).2, (RF.get r k).1⟩ w = w := by unfold setV; rw [if_neg hh]
        rw [e] at h3 ⊢
        refine .inl ⟨c1, h4, h1, h5, fun hb => ?_⟩
        have h6 := h3 hb
        intro hm
        rcases List.mem_cons.1 hm with hm | hm
        · exact hh ⟨by simp [show c1.key = c.key from h1, hm], hb⟩
        · exact h6 hm
    · exact .inr h1
theorem WInv.goNew {e : Engine} (h : WInv e) (A : Nat) (d : Deed) (hd : e.deeds[A]? = some d) : WInv (goNew e A d) := by
  refine ⟨h.d, fun c hc v hv hm => ?_, fun c hc v hv hm => ?_, ?_⟩
  · rcases goSets_mem c hc v hv with ⟨c0, h0, h1, h2, h3⟩ | h1
    · obtain ⟨k, x, h4, h5, h6, h7⟩ := h.n c0 h0 v h2 hm
      by_cases hk : k = A
      · subst hk
        rw [hd] at h6
        cases h6
        exact absurd (h1 ▸ h7) (h3 h4)
      · refine ⟨k, x, h4, ?_, h6, by rw [← h1]; exact h7⟩
        show (e.state.set A 1)[k]? = _
        rw [List.getElem?_set_ne (fun e => hk e.symm)]; exact h5
    · rw [h1.1] at hm; cases hm
  · rcases goSets_mem c hc v hv with ⟨c0, h0, h1, h2, h3⟩ | h1
    · exact h.h c0 h0 v h2 hm
    · exact h1.2 hm
  · show (e.state.set A 1).length = _
    rw [List.length_set]; exact h.l
theorem WInv.goE {e : Engine} (h : WInv e) (at_ : Int) : WInv (goE e at_).1 := by
  unfold Proofs.YtembfadhnkabhaaDoor.goE
  split
  · exact h
  unfold goAt
  cases hA : e.deeds[at_.toNat]? with
  | none => exact h
  | some d =>
    dsimp only
    split
    · exact h
    split
    · exact h.goNew _ _ hA
    · exact h
theorem markN_one : ∀ {s : List Int} {j : Nat}, j < markN s → s[j]? = some 1
  | [], j, h => by simp [markN] at h
  | x :: s, j, h => by
    simp only [markN] at h
    by_cases hx : x = 1
    · rw [if_pos hx] at h
      cases j with
      | zero => simp [hx]
      | succ j => simpa using markN_one (s := s) (j := j) (by omega)
    · rw [if_neg hx] at h; omega
theorem WInv.clearE {e : Engine} (h : WInv e) : WInv (clearE e) := by
  refine ⟨fun d hd => h.d d (List.mem_of_mem_drop hd), fun c hc v hv hm => ?_, fun c hc v hv hm => ?_, ?_⟩
  · obtain ⟨c0, h0, rfl⟩ := clear_mem hc
    obtain ⟨k, x, h1, h2, h3, h4⟩ := h.n c0 h0 v (clrV_sub hv) hm
    have hk : markN e.state ≤ k := by
      rcases Nat.lt_or_ge k (markN e.state) with hlt | hge
      · have := markN_one hlt
        rw [h2] at this; cases this
      · exact hge
    refine ⟨k - markN e.state, x, ?_, ?_, ?_, h4⟩
    · show v.by_ = e.base + markN e.state + ((k - markN e.state : Nat) : Int)
      omega
    · show (e.state.drop (markN e.state))[k - markN e.state]? = _
      rw [List.getElem?_drop, show markN e.state + (k - markN e.state) = k by omega]; exact h2
    · show (e.deeds.drop (markN e.state))[k - markN e.state]? = _
      rw [List.getElem?_drop, show markN e.state + (k - markN e.state) = k by omega]; exact h3
  · obtain ⟨c0, h0, rfl⟩ := clear_mem hc
    exact h.h c0 h0 v (clrV_sub hv) hm
  · show (e.state.drop _).length = (e.deeds.drop _).length
    simp [h.l]
theorem WInv.pickE {e : Engine} (h : WInv e) (n : Int) : WInv (pickE e n) := by
  unfold Proofs.YtembfadhnkabhaaDoor.pickE
  split
  · exact h.clearE
  split
  · exact h
  split
  · exact h.goE _
  · exact h
theorem WInv.batchE {e : Engine} (h : WInv e) (hs : SInv e) (b : List Deed) : WInv (batchE e b) := by
  unfold Proofs.YtembfadhnkabhaaDoor.batchE
  split
  · next hw => exact h.addE hs hw
  · exact h
theorem WInv.pickGo : ∀ {k : Nat} {e : Engine} {p : List Int}, WInv e → WInv (pickGo k e p).1
  | 0, e, p, h => h
  | k + 1, e, [], h => h
  | k + 1, e, n :: p, h => by
    simp only [Proofs.YtembfadhnkabhaaDoor.pickGo]
    exact WInv.pickGo (h.pickE n)
theorem WInv.buildGo : ∀ {bs : List (List Deed)} {e : Engine} {p : List Int}, WInv e → SInv e → WInv (buildGo e bs p)
  | [], e, p, h, _ => h
  | b :: bs, e, p, h, hs => by
    simp only [Proofs.YtembfadhnkabhaaDoor.buildGo]
    exact WInv.buildGo ((h.batchE hs b).pickGo) ((hs.batchE b).pickGo)
/-! ### Before -/
theorem bvs_mem {h : Bool} {b : Int} : ∀ {l : List Version} {out : Version}, bvs h b out l = out ∨ (h = true ∧ bvs h b out l ∈ l ∧ (bvs h b out l).by_ < b)
  | [], out => .inl rfl
  | v :: l, out => by
    simp only [bvs]
    rcases bvs_mem (h := h) (b := b) (l := l) (out := if h && decide (v.by_ < b) then v else out) with e | ⟨h1, h2, h3⟩
    · rw [e]
      by_cases hc : (h && decide (v.by_ < b)) = true
      · rw [if_pos hc]
        simp only [Bool.and_eq_true, decide_eq_true_eq] at hc
        exact .inr ⟨hc.1, List.mem_cons_self .., hc.2⟩
      · rw [if_neg hc]; exact .inl rfl
    · exact .inr ⟨h1, List.mem_cons_of_mem _ h2, h3⟩
theorem beforeGo_mem {k : Str} {b : Int} : ∀ {l : List Chain} {out : Version}, beforeGo k b out l = out ∨ ∃ c ∈ l, c.key = k ∧ beforeGo k b out l ∈ c.vs ∧ (beforeGo k b out l).by_ < b
  | [], out => .inl rfl
  | c :: l, out => by
    simp only [beforeGo]
    rcases beforeGo_mem (k := k) (b := b) (l := l) (out := bvs (decide (c.key = k)) b out c.vs) with e | ⟨c', h1, h2⟩
    · rw [e]
      rcases bvs_mem (h := decide (c.key = k)) (b := b) (l := c.vs) (out := out) with e2 | ⟨h1, h2, h3⟩
      · exact .inl e2
      · exact .inr ⟨c, List.mem_cons_self .., by simpa using h1, h2, h3⟩
    · exact .inr ⟨c', List.mem_cons_of_mem _ h1, h2⟩
theorem before_mem (l : List Chain) (k : Str) (b : Int) : before l k b = noV ∨ ∃ c ∈ l, c.key = k ∧ before l k b ∈ c.vs ∧ (before l k b).by_ < b := beforeGo_mem
theorem WInv.nb {e : Engine} (h : WInv e) : NB e := by
  intro at_ k hm
  rcases before_mem e.chains k (e.base + at_) with h1 | ⟨c, h1, h2, h3, h4⟩
  · rw [h1] at hm; cases hm
  · obtain ⟨j, x, h5, _⟩ := h.n c h1 _ h3 hm
    exact ⟨by omega, h4⟩
theorem WInv.bh {e : Engine} (h : WInv e) (k : Str) (b : Int) : (before e.chains k b).has = false → (before e.chains k b).n = 0 := by
  intro hm
  rcases before_mem e.chains k b with h1 | ⟨c, h1, h2, h3, h4⟩
  · rw [h1]; rfl
  · exact h.h c h1 _ h3 hm

/-! ### A deed that is done -/
theorem keysGo'_mem {k : Str} : ∀ {l out : List Str}, k ∈ keysGo' out l ↔ k ∈ out ∨ k ∈ l
  | [], out => by simp [keysGo']
  | x :: l, out => by
    simp only [keysGo']
    rw [keysGo'_mem]
    by_cases h : isIn out x = true
    · rw [if_pos h]
      have := isIn_true h
      constructor
      · rintro (h1 | h1)
        · exact .inl h1
        · exact .inr (List.mem_cons_of_mem _ h1)
      · rintro (h1 | h1)
        · exact .inl h1
        · rcases List.mem_cons.1 h1 with rfl | h1
          · exact .inl this
          · exact .inr h1
    · rw [if_neg h]
      simp [or_assoc]
theorem goRows_get {cs : List Chain} {b : Int} : ∀ {ks : List Str} {r : List Pair}, Srt Pair.key r → Srt Pair.key (goRows cs b r ks) ∧ ∀ k, RF.get (goRows cs b r ks) k = if k ∈ ks ∧ (before cs k b).has = true then ((before cs k b).n, true) else RF.get r k
  | [], r, h => ⟨h, fun k => by simp [goRows]⟩
  | x :: ks, r, h => by
    simp only [goRows]
    by_cases hx : (before cs x b).has = true
    · rw [if_pos hx, put_true h]
      obtain ⟨h1, h2⟩ := goRows_get (cs := cs) (b := b) (ks := ks) (putS_srt (k := x) (n := (before cs x b).n) h)
      refine ⟨h1, fun k => ?_⟩
      rw [h2 k, get_put]
      by_cases hk : k ∈ ks ∧ (before cs k b).has = true
      · rw [if_pos hk, if_pos ⟨List.mem_cons_of_mem _ hk.1, hk.2⟩]
      · rw [if_neg hk]
        by_cases he : x = k
        · subst he
          rw [if_pos rfl, if_pos ⟨List.mem_cons_self .., hx⟩]
        · rw [if_neg he, if_neg]
          rintro ⟨h3, h4⟩
          rcases List.mem_cons.1 h3 with h3 | h3
          · exact he h3.symm
          · exact hk ⟨h3, h4⟩
    · rw [if_neg hx]
      obtain ⟨h1, h2⟩ := goRows_get (cs := cs) (b := b) (ks := ks) h
      refine ⟨h1, fun k => ?_⟩
      rw [h2 k]
      by_cases hk : k ∈ ks ∧ (before cs k b).has = true
      · rw [if_pos hk, if_pos ⟨List.mem_cons_of_mem _ hk.1, hk.2⟩]
      · rw [if_neg hk, if_neg]
        rintro ⟨h3, h4⟩
        rcases List.mem_cons.1 h3 with h3 | h3
        · subst h3; exact hx h4
        · exact hk ⟨h3, h4⟩
end Go.Proofs.YtembfadhnkabhaaDoor

/-! P9 -/
/-
  Deeds that fail, deeds apart: plain laws.
-/
namespace Go.Proofs.YtembfadhnkabhaaDoor
open Go.AX Go.RF

theorem do_get {r : List Pair} {d : Deed} (hs : Srt Pair.key r) (hw : wrongDeed d = 0) (k : Str) :
    RF.get (doD r d).1 k = if (runM (RF.get r) d).2.failed = true then RF.get r k else if k ∈ d.writes then chAt r (runM (RF.get r) d).1 k else RF.get r k := by
  rw [← plain_do hs (wrong_keyed hw)]
  unfold plainD runC
  dsimp only
  by_cases hf : (runM (RF.get r) d).2.failed = true
  · rw [if_pos hf, if_pos hf]; rfl
  · rw [if_neg hf, if_neg hf, appC_get hs]
theorem do_end {r : List Pair} {d : Deed} (hs : Srt Pair.key r) (hw : wrongDeed d = 0) : (doD r d).2 = (runM (RF.get r) d).2 := by
  rw [← plain_do hs (wrong_keyed hw)]; rfl
theorem do_same {r : List Pair} {d : Deed} (hs : Srt Pair.key r) (hw : wrongDeed d = 0) {k : Str} (hk : k ∉ d.writes) : RF.get (doD r d).1 k = RF.get r k := by
  rw [do_get hs hw, if_neg hk, ite_self]
end Go.Proofs.YtembfadhnkabhaaDoor

/-! P10 -/
/-
  Engines, and what deeds come to one by one.
-/
namespace Go.Proofs.YtembfadhnkabhaaDoor
open Go.AX Go.RF

/-! ### Versions that are made -/
theorem setV_by (h : Bool) (v w : Version) : (setV h v w).by_ = w.by_ := by
  unfold setV
  split
  · next hh => exact hh.2.symm
  · rfl
theorem bvs_map {h hit : Bool} {x : Int} {v : Version} : ∀ {l : List Version} {out : Version}, bvs h x (setV hit v out) (l.map (setV hit v)) = setV hit v (bvs h x out l)
  | [], out => rfl
  | w :: l, out => by
    simp only [List.map_cons, bvs, setV_by]
    have e : (if (h && decide (w.by_ < x)) = true then setV hit v w else setV hit v out) = setV hit v (if (h && decide (w.by_ < x)) = true then w else out) := by split <;> rfl
    rw [e]
    exact bvs_map
theorem beforeGo_set {k : Str} {x : Int} {v : Version} : ∀ {l : List Chain} {out : Version}, beforeGo k x (setV true v out) (setChains l k v) = setV true v (beforeGo k x out l)
  | [], out => rfl
  | c :: l, out => by
    simp only [setChains, List.map_cons, beforeGo, setC]
    by_cases hk : c.key = k
    · rw [decide_eq_true hk, bvs_map]
      exact beforeGo_set (l := l)
    · rw [decide_eq_false hk, bvs_false, bvs_false]
      exact beforeGo_set (l := l)
theorem beforeGo_set_ne {k k' : Str} {x : Int} {v : Version} (hne : k ≠ k') : ∀ {l : List Chain} {out : Version}, beforeGo k x out (setChains l k' v) = beforeGo k x out l
  | [], out => rfl
  | c :: l, out => by
    simp only [setChains, List.map_cons, beforeGo, setC]
    by_cases hk : c.key = k
    · have hk' : ¬ c.key = k' := fun e => hne (hk.symm.trans e)
      have hid : c.vs.map (setV (decide (c.key = k')) v) = c.vs := by
        rw [decide_eq_false hk']
        exact (List.map_congr_left fun w _ => show setV false v w = w by unfold setV; simp).trans (List.map_id _)
      rw [hid]
      exact beforeGo_set_ne hne (l := l)
    · rw [decide_eq_false hk, bvs_false, bvs_false]
      exact beforeGo_set_ne hne (l := l)
theorem before_setG {l : List Chain} {k k' : Str} {x : Int} {v : Version} (hv : v.by_ ≠ -1) : before (setChains l k' v) k x = if k' = k then setV true v (before l k x) else before l k x := by
  unfold before
  by_cases h : k' = k
  · subst h
    rw [if_pos rfl, ← beforeGo_set]
    congr 1
    unfold setV
    rw [if_neg (fun e => hv e.2.symm)]
  · rw [if_neg h]
    exact beforeGo_set_ne (fun e => h e.symm)
/-- What a deed's doing makes of versions. -/
def doneV (r : List Pair) (b : Int) (k : Str) : Version := ⟨b, true, (RF.get r k).2, (RF.get r k).1⟩
theorem before_goSets {r : List Pair} {b : Int} (hb : b ≠ -1) {k : Str} {x : Int} : ∀ {ks : List Str} {l : List Chain}, before (goSets r b l ks) k x = if k ∈ ks ∧ (before l k x).by_ = b then doneV r b k else before l k x
  | [], l => by simp [goSets]
  | k' :: ks, l => by
    simp only [goSets]
    rw [before_goSets hb, before_setG hb]
    by_cases h : k' = k
    · subst h
      rw [if_pos rfl, setV_by]
      by_cases hx : (before l k' x).by_ = b
      · have e : setV true (⟨b, true, (RF.get r k').2, (RF.get r k').1⟩ : Version) (before l k' x) = doneV r b k' := by unfold setV; rw [if_pos ⟨rfl, hx⟩]; rfl
        rw [e, ite_self, if_pos ⟨List.mem_cons_self .., hx⟩]
      · rw [if_neg (fun e => hx e.2), if_neg (fun e => hx e.2)]
        unfold setV
        rw [if_neg (fun e => hx e.2)]
    · rw [if_neg h]
      by_cases hk : k ∈ ks ∧ (before l k x).by_ = b
      · rw [if_pos hk, if_pos ⟨List.mem_cons_of_mem _ hk.1, hk.2⟩]
      · rw [if_neg hk, if_neg]
        rintro ⟨h1, h2⟩
        rcases List.mem_cons.1 h1 with h1 | h1
        · exact h h1.symm
        · exact hk ⟨h1, h2⟩

/-! ### One by one -/
/-- Rows behind so many deeds. -/
def sq (r : List Pair) (l : List Deed) (i : Nat) : List Pair := (allD r (l.take i)).1
theorem allD_snoc : ∀ {l : List Deed} {r : List Pair} {d : Deed}, allD r (l ++ [d]) = ((doD (allD r l).1 d).1, (allD r l).2 ++ [(doD (allD r l).1 d).2])
  | [], r, d => rfl
  | x :: l, r, d => by simp only [List.cons_append, allD]; rw [allD_snoc]
theorem sq_succ {r : List Pair} {l : List Deed} {i : Nat} {d : Deed} (h : l[i]? = some d) : sq r l (i + 1) = (doD (sq r l i) d).1 := by
  unfold sq
  rw [List.take_add_one, h]
  show (allD r (l.take i ++ [d])).1 = _
  rw [allD_snoc]
theorem sq_srt {r : List Pair} {l : List Deed} (hs : Srt Pair.key r) (hw : ∀ d ∈ l, wrongDeed d = 0) : ∀ (i : Nat), Srt Pair.key (sq r l i)
  | 0 => hs
  | i + 1 => by
    cases h : l[i]? with
    | none =>
      have hle := List.getElem?_eq_none_iff.1 h
      have : sq r l (i + 1) = sq r l i := by unfold sq; rw [List.take_of_length_le (by omega), List.take_of_length_le hle]
      rw [this]; exact sq_srt hs hw i
    | some d =>
      rw [sq_succ h]
      exact doD_srt (sq_srt hs hw i) (wrong_keyed (hw d (List.mem_of_getElem? h)))
theorem sq_append {r : List Pair} {l m : List Deed} {i : Nat} (h : i ≤ l.length) : sq r (l ++ m) i = sq r l i := by
  unfold sq; rw [List.take_append_of_le_length h]

/-- An engine of right deeds: what it has made is what deeds come to one by one. -/
structure QInv (e : Engine) (r : List Pair) : Prop where
  s : Srt Pair.key r
  z : ∀ k, (before e.chains k e.base).made = true
  m : ∀ (k : Str) (i : Nat), i ≤ e.deeds.length → (before e.chains k (e.base + i)).made = true → RF.get (sq r e.deeds i) k = ((before e.chains k (e.base + i)).n, (before e.chains k (e.base + i)).has)
  p : ∀ (k : Str) (i : Nat) (d : Deed), e.deeds[i]? = some d → k ∈ d.writes → (before e.chains k (e.base + (i + 1 : Nat))).by_ = e.base + i ∧ (e.state[i]? = some 1 → (before e.chains k (e.base + (i + 1 : Nat))).made = true)
  q : ∀ (k : Str) (i : Nat) (d : Deed), e.deeds[i]? = some d → k ∉ d.writes → before e.chains k (e.base + (i + 1 : Nat)) = before e.chains k (e.base + i)
  w : ∀ (i : Nat) (d : Deed), e.deeds[i]? = some d → e.state[i]? = some 1 → e.ends[i]? = some (doD (sq r e.deeds i) d).2
  b : 0 ≤ e.base

theorem newE_q {r : List Pair} (hs : Srt Pair.key r) : QInv (newE r) r := by
  have hv : ∀ k x, -1 < x → ((∃ p ∈ r, p.key = k ∧ before (r.map rowChain) k x = ⟨-1, true, true, p.n⟩) ∨ ((∀ p ∈ r, p.key ≠ k) ∧ before (r.map rowChain) k x = noV)) := fun k x hx => by
    by_cases h : ∃ p ∈ r, p.key = k
    · obtain ⟨p, hp, rfl⟩ := h
      exact .inl ⟨p, hp, rfl, before_row hs hp hx⟩
    · have hn : ∀ p ∈ r, p.key ≠ k := fun p hp he => h ⟨p, hp, he⟩
      refine .inr ⟨hn, beforeGo_none fun c hc => ?_⟩
      obtain ⟨p, hp, rfl⟩ := List.mem_map.1 hc
      exact hn p hp
  refine ⟨hs, fun k => ?_, fun k i hi hm => ?_, fun k i d h => by simp [newE] at h, fun k i d h => by simp [newE] at h, fun i d h => by simp [newE] at h, by simp [newE]⟩
  · rcases hv k 0 (by omega) with ⟨p, _, _, h⟩ | ⟨_, h⟩
    · show (before (r.map rowChain) k 0).made = true
      rw [h]
    · show (before (r.map rowChain) k 0).made = true
      rw [h]; rfl
  · have hi0 : i = 0 := by simpa [newE] using hi
    subst hi0
    show RF.get r k = ((before (r.map rowChain) k (0 + ((0 : Nat) : Int))).n, (before (r.map rowChain) k (0 + ((0 : Nat) : Int))).has)
    rcases hv k (0 + ((0 : Nat) : Int)) (by omega) with ⟨p, hp, rfl, h⟩ | ⟨hn, h⟩
    · rw [h, get_of_mem hs hp]
    · rw [h, get_absent hn]; rfl

/-! ### Deeds added -/
theorem addKeys_le {k : Str} {b x : Int} (hx : x ≤ b) : ∀ {ks : List Str} {l : List Chain}, Srt Chain.key l → before (addKeys b l ks) k x = before l k x
  | [], l, _ => rfl
  | k' :: ks, l, hs => by
    simp only [addKeys]
    rw [addC_srt hs, addKeys_le hx (addS_srt hs)]
    exact before_addS fun _ => hx
theorem addKeys_out {k : Str} {b x : Int} : ∀ {ks : List Str} {l : List Chain}, Srt Chain.key l → k ∉ ks → before (addKeys b l ks) k x = before l k x
  | [], l, _, _ => rfl
  | k' :: ks, l, hs, hk => by
    simp only [addKeys]
    rw [addC_srt hs, addKeys_out (addS_srt hs) (fun h => hk (List.mem_cons_of_mem _ h))]
    exact before_addS fun e => absurd (List.mem_cons.2 (.inl e)) hk
theorem addKeys_in {k : Str} {b x : Int} (hx : b < x) : ∀ {ks : List Str} {l : List Chain}, Srt Chain.key l → ks.Nodup → k ∈ ks → before (addKeys b l ks) k x = newV b
  | [], l, _, _, hk => by simp at hk
  | k' :: ks, l, hs, hn, hk => by
    obtain ⟨hn1, hn2⟩ := List.nodup_cons.1 hn
    simp only [addKeys]
    rw [addC_srt hs]
    by_cases h : k = k'
    · subst h
      rw [addKeys_out (addS_srt hs) hn1]
      exact behind_add hx hs
    · exact addKeys_in hx (addS_srt hs) hn2 (by
        rcases List.mem_cons.1 hk with e | e
        · exact absurd e h
        · exact e)
theorem bvs_top {h : Bool} {x y B : Int} (hx : B ≤ x) (hy : B ≤ y) : ∀ {l : List Version} {out : Version}, (∀ v ∈ l, v.by_ < B) → bvs h x out l = bvs h y out l
  | [], out, _ => rfl
  | v :: l, out, hl => by
    have hv := hl v (List.mem_cons_self ..)
    simp only [bvs]
    rw [decide_eq_true (show v.by_ < x by omega), decide_eq_true (show v.by_ < y by omega)]
    exact bvs_top hx hy fun w hw => hl w (List.mem_cons_of_mem _ hw)
theorem before_top {x y B : Int} {k : Str} (hx : B ≤ x) (hy : B ≤ y) : ∀ {l : List Chain} {out : Version}, (∀ c ∈ l, ∀ v ∈ c.vs, v.by_ < B) → beforeGo k x out l = beforeGo k y out l
  | [], out, _ => rfl
  | c :: l, out, hl => by
    simp only [beforeGo]
    rw [bvs_top hx hy (hl c (List.mem_cons_self ..))]
    exact before_top hx hy fun d hd => hl d (List.mem_cons_of_mem _ hd)
theorem QInv.add1 {e : Engine} {r : List Pair} (h : QInv e r) (hS : SInv e) (hW : WInv e) (hn : e.ends.length = e.deeds.length) {d : Deed} (hd : wrongDeed d = 0) : QInv (RF.add1 e d) r := by
  have hnd := (wrong_keys hd).2
  have hle : ∀ k (i : Nat), i ≤ e.deeds.length → before (RF.add1 e d).chains k (e.base + i) = before e.chains k (e.base + i) := fun k i hi => addKeys_le (by omega) hS.k
  have hlt : ∀ (i : Nat) (x : Deed), (RF.add1 e d).deeds[i]? = some x → (i < e.deeds.length ∧ e.deeds[i]? = some x) ∨ (i = e.deeds.length ∧ x = d) := fun i x hx => by
    have hx' : (e.deeds ++ [d])[i]? = some x := hx
    rcases Nat.lt_or_ge i e.deeds.length with hi | hi
    · rw [List.getElem?_append_left hi] at hx'
      exact .inl ⟨hi, hx'⟩
    · rw [List.getElem?_append_right hi] at hx'
      have h0 : i - e.deeds.length = 0 := by
        have := (List.getElem?_eq_some_iff.1 hx').1
        simpa using this
      rw [h0] at hx'
      exact .inr ⟨by omega, by simpa using hx'.symm⟩
  have hsqe : ∀ i, i ≤ e.deeds.length → sq r (e.deeds ++ [d]) i = sq r e.deeds i := fun i hi => sq_append hi
  have hst : ∀ i, i < e.deeds.length → (e.state ++ [0])[i]? = e.state[i]? := fun i hi => List.getElem?_append_left (by rw [hW.l]; exact hi)
  have hst1 : (e.state ++ [0])[e.deeds.length]? ≠ some 1 := by rw [← hW.l]; simp
  have htop : ∀ k, before e.chains k (e.base + (e.deeds.length + 1 : Nat)) = before e.chains k (e.base + e.deeds.length) := fun k => before_top (B := e.base + e.deeds.length) (by omega) (by omega) hS.b
  refine ⟨h.s, fun k => ?_, fun k i hi hm => ?_, fun k i x hx hk => ?_, fun k i x hx hk => ?_, fun i x hx h1 => ?_, h.b⟩
  · have := hle k 0 (by omega)
    simp only [Int.natCast_zero, Int.add_zero] at this
    show (before (RF.add1 e d).chains k e.base).made = true
    rw [this]; exact h.z k
  · have hi' : i ≤ e.deeds.length + 1 := by simpa [RF.add1] using hi
    show RF.get (sq r (e.deeds ++ [d]) i) k = ((before (RF.add1 e d).chains k (e.base + i)).n, (before (RF.add1 e d).chains k (e.base + i)).has)
    have hm' : (before (RF.add1 e d).chains k (e.base + i)).made = true := hm
    by_cases hil : i ≤ e.deeds.length
    · rw [hle k i hil] at hm' ⊢
      rw [hsqe i hil]
      exact h.m k i hil hm'
    · obtain rfl : i = e.deeds.length + 1 := by omega
      by_cases hkw : k ∈ d.writes
      · have : before (RF.add1 e d).chains k (e.base + (e.deeds.length + 1 : Nat)) = newV (e.base + e.deeds.length) := addKeys_in (by omega) hS.k hnd hkw
        rw [this] at hm'; cases hm'
      · have hb : before (RF.add1 e d).chains k (e.base + (e.deeds.length + 1 : Nat)) = before e.chains k (e.base + (e.deeds.length + 1 : Nat)) := addKeys_out hS.k hkw
        rw [hb, htop] at hm' ⊢
        have hg : (e.deeds ++ [d])[e.deeds.length]? = some d := by simp
        rw [sq_succ hg, do_same (sq_srt h.s (fun x hx => by
          rcases List.mem_append.1 hx with hx | hx
          · exact hW.d x hx
          · simp at hx; subst hx; exact hd) _) hd hkw, hsqe _ (Nat.le_refl _)]
        exact h.m k _ (Nat.le_refl _) hm'
  · rcases hlt i x hx with ⟨hi, hx'⟩ | ⟨rfl, rfl⟩
    · have := h.p k i x hx' hk
      show (before (RF.add1 e d).chains k (e.base + (i + 1 : Nat))).by_ = e.base + i ∧ ((e.state ++ [0])[i]? = some 1 → (before (RF.add1 e d).chains k (e.base + (i + 1 : Nat))).made = true)
      rw [hle k (i + 1) (by omega), hst i hi]
      exact this
    · have hb : before (RF.add1 e x).chains k (e.base + (e.deeds.length + 1 : Nat)) = newV (e.base + e.deeds.length) := addKeys_in (by omega) hS.k hnd hk
      refine ⟨by show (before (RF.add1 e x).chains k (e.base + (e.deeds.length + 1 : Nat))).by_ = _; rw [hb]; rfl, fun h1 => absurd h1 hst1⟩
  · rcases hlt i x hx with ⟨hi, hx'⟩ | ⟨rfl, rfl⟩
    · show before (RF.add1 e d).chains k (e.base + (i + 1 : Nat)) = before (RF.add1 e d).chains k (e.base + i)
      rw [hle k (i + 1) (by omega), hle k i (by omega)]
      exact h.q k i x hx' hk
    · show before (RF.add1 e x).chains k (e.base + (e.deeds.length + 1 : Nat)) = before (RF.add1 e x).chains k (e.base + e.deeds.length)
      have h1 : before (RF.add1 e x).chains k (e.base + (e.deeds.length + 1 : Nat)) = before e.chains k (e.base + (e.deeds.length + 1 : Nat)) := addKeys_out hS.k hk
      rw [h1, hle k _ (Nat.le_refl _), htop]
  · rcases hlt i x hx with ⟨hi, hx'⟩ | ⟨rfl, rfl⟩
    · show (e.ends ++ [done0])[i]? = some (doD (sq r (e.deeds ++ [d]) i) x).2
      have h1' : (e.state ++ [0])[i]? = some 1 := h1
      rw [hst i hi] at h1'
      rw [List.getElem?_append_left (by rw [hn]; exact hi), hsqe i (by omega)]
      exact h.w i x hx' h1'
    · exact absurd h1 hst1

/-! ### A deed done -/
theorem before_lt {l : List Chain} {k : Str} {b : Int} (h : (before l k b).by_ ≠ -1) : (before l k b).by_ < b := by
  rcases before_mem l k b with e | ⟨c, _, _, _, h4⟩
  · rw [e] at h; exact absurd rfl h
  · exact h4
/-- What a key has is the same until one that writes it. -/
theorem QInv.stay {e : Engine} {r : List Pair} (h : QInv e r) (hW : WInv e) (k : Str) (A : Nat) : ∀ (i : Nat), A < i → i ≤ e.deeds.length → (before e.chains k (e.base + i)).by_ = e.base + A → RF.get (sq r e.deeds i) k = RF.get (sq r e.deeds (A + 1)) k
  | 0, hA, _, _ => by omega
  | i + 1, hA, hi, hb => by
    by_cases he : i = A
    · subst he; rfl
    · obtain ⟨d, hd⟩ : ∃ d, e.deeds[i]? = some d := ⟨e.deeds[i]'(by omega), List.getElem?_eq_getElem (by omega)⟩
      by_cases hk : k ∈ d.writes
      · have := (h.p k i d hd hk).1
        rw [hb] at this
        omega
      · rw [h.q k i d hd hk] at hb
        rw [sq_succ hd, do_same (sq_srt h.s hW.d i) (hW.d d (List.mem_of_getElem? hd)) hk]
        exact h.stay hW k A i (by omega) (by omega) hb
/-- What a deed that needs nobody sees is what has come of those ahead of it. -/
theorem needs_made {e : Engine} (hW : WInv e) {A : Nat} {d : Deed} (hne : needs e A d = []) : ∀ k ∈ keysD d, (before e.chains k (e.base + A)).made = true := by
  intro k hk
  cases hm : (before e.chains k (e.base + A)).made with
  | true => rfl
  | false =>
    obtain ⟨h1, h2⟩ := hW.nb A k hm
    have : ((before e.chains k (e.base + A)).by_ - e.base) ∈ needs e A d := by
      unfold needs
      rw [needsGo_mem]
      exact ⟨((before e.chains k (e.base + A)).by_ - e.base).toNat, List.mem_range.2 (by omega), by omega, anyHit_iff.2 ⟨k, hk, hm, by omega⟩⟩
    rw [hne] at this
    simp at this
theorem go_done {e : Engine} {r : List Pair} (h : QInv e r) (hW : WInv e) {A : Nat} {d : Deed} (hd : e.deeds[A]? = some d) (hne : needs e A d = []) :
    (goDone e A d).2 = (doD (sq r e.deeds A) d).2 ∧ ∀ k ∈ d.writes, RF.get (goDone e A d).1 k = RF.get (sq r e.deeds (A + 1)) k := by
  have hA := (List.getElem?_eq_some_iff.1 hd).1
  have hw := hW.d d (List.mem_of_getElem? hd)
  have hmade := needs_made hW hne
  obtain ⟨hs0, hget⟩ := goRows_get (cs := e.chains) (b := e.base + A) (ks := keysD d) (r := []) List.Pairwise.nil
  have hsq := sq_srt h.s hW.d A
  have hsame : ∀ k, k ∈ d.reads ∨ k ∈ d.writes → RF.get (goRows e.chains (e.base + A) [] (keysD d)) k = RF.get (sq r e.deeds A) k := fun k hk => by
    have hm : k ∈ keysD d := by
      unfold keysD
      rw [keysGo'_mem]
      exact .inr (by simpa using hk)
    rw [h.m k A (by omega) (hmade k hm), hget k]
    cases hh : (before e.chains k (e.base + A)).has with
    | true => rw [if_pos ⟨hm, rfl⟩]
    | false =>
      rw [if_neg (by simp), hW.bh k _ hh]
      rfl
  have hrun : runM (RF.get (goRows e.chains (e.base + A) [] (keysD d))) d = runM (RF.get (sq r e.deeds A)) d :=
    runGo_congr fun i hi hk => by rw [hsame i.key (.inl (wrong_reads hw i hi hk))]
  unfold goDone
  refine ⟨by rw [do_end hs0 hw, do_end hsq hw, hrun], fun k hk => ?_⟩
  rw [sq_succ hd, do_get hs0 hw, do_get hsq hw, hrun, hsame k (.inr hk)]
  unfold chAt
  rw [hsame k (.inr hk)]
theorem QInv.goNew {e : Engine} {r : List Pair} (h : QInv e r) (hW : WInv e) (hn : e.ends.length = e.deeds.length) {A : Nat} {d : Deed} (hd : e.deeds[A]? = some d) (hne : needs e A d = []) : QInv (Proofs.YtembfadhnkabhaaDoor.goNew e A d) r := by
  have hA := (List.getElem?_eq_some_iff.1 hd).1
  obtain ⟨hg1, hg2⟩ := go_done h hW hd hne
  have hb := h.b
  have hbf : ∀ k x, before (Proofs.YtembfadhnkabhaaDoor.goNew e A d).chains k x = if k ∈ d.writes ∧ (before e.chains k x).by_ = e.base + A then doneV (goDone e A d).1 (e.base + A) k else before e.chains k x := fun k x => before_goSets (by omega)
  refine ⟨h.s, fun k => ?_, fun k i hi hm => ?_, fun k i x hx hk => ?_, fun k i x hx hk => ?_, fun i x hx h1 => ?_, h.b⟩
  · show (before (Proofs.YtembfadhnkabhaaDoor.goNew e A d).chains k e.base).made = true
    rw [hbf]
    split
    · rfl
    · exact h.z k
  · have hi' : i ≤ e.deeds.length := hi
    show RF.get (sq r e.deeds i) k = ((before (Proofs.YtembfadhnkabhaaDoor.goNew e A d).chains k (e.base + i)).n, (before (Proofs.YtembfadhnkabhaaDoor.goNew e A d).chains k (e.base + i)).has)
    have hm' : (before (Proofs.YtembfadhnkabhaaDoor.goNew e A d).chains k (e.base + i)).made = true := hm
    rw [hbf] at hm' ⊢
    by_cases hc : k ∈ d.writes ∧ (before e.chains k (e.base + i)).by_ = e.base + A
    · rw [if_pos hc]
      have hlt := before_lt (l := e.chains) (k := k) (b := e.base + i) (by rw [hc.2]; omega)
      rw [hc.2] at hlt
      rw [h.stay hW k A i (by omega) hi' hc.2, ← hg2 k hc.1]
      rfl
    · rw [if_neg hc] at hm' ⊢
      exact h.m k i hi' hm'
  · have hx' : e.deeds[i]? = some x := hx
    have hp := h.p k i x hx' hk
    show (before (Proofs.YtembfadhnkabhaaDoor.goNew e A d).chains k (e.base + (i + 1 : Nat))).by_ = e.base + i ∧ ((e.state.set A 1)[i]? = some 1 → (before (Proofs.YtembfadhnkabhaaDoor.goNew e A d).chains k (e.base + (i + 1 : Nat))).made = true)
    rw [hbf]
    by_cases hc : k ∈ d.writes ∧ (before e.chains k (e.base + (i + 1 : Nat))).by_ = e.base + A
    · rw [if_pos hc]
      refine ⟨?_, fun _ => rfl⟩
      show e.base + A = e.base + i
      rw [← hc.2]; exact hp.1
    · rw [if_neg hc]
      refine ⟨hp.1, fun h1 => ?_⟩
      by_cases he : i = A
      · subst he
        rw [hd] at hx'
        cases hx'
        exact absurd ⟨hk, hp.1⟩ hc
      · rw [List.getElem?_set_ne (fun e => he e.symm)] at h1
        exact hp.2 h1
  · have hx' : e.deeds[i]? = some x := hx
    show before (Proofs.YtembfadhnkabhaaDoor.goNew e A d).chains k (e.base + (i + 1 : Nat)) = before (Proofs.YtembfadhnkabhaaDoor.goNew e A d).chains k (e.base + i)
    rw [hbf, hbf, h.q k i x hx' hk]
  · have hx' : e.deeds[i]? = some x := hx
    show (e.ends.set A (goDone e A d).2)[i]? = some (doD (sq r e.deeds i) x).2
    have h1' : (e.state.set A 1)[i]? = some 1 := h1
    by_cases he : i = A
    · subst he
      rw [hd] at hx'
      cases hx'
      rw [List.getElem?_set_self (by omega), hg1]
    · rw [List.getElem?_set_ne (fun e => he e.symm)] at h1' ⊢
      exact h.w i x hx' h1'

/-! ### What is old, forgotten -/
theorem sq_drop {r : List Pair} {l : List Deed} {m : Nat} : ∀ (i : Nat), m + i ≤ l.length → sq (sq r l m) (l.drop m) i = sq r l (m + i)
  | 0, _ => rfl
  | i + 1, h => by
    obtain ⟨d, hd⟩ : ∃ d, l[m + i]? = some d := ⟨l[m + i]'(by omega), List.getElem?_eq_getElem (by omega)⟩
    have hd' : (l.drop m)[i]? = some d := by rw [List.getElem?_drop]; exact hd
    rw [sq_succ hd', sq_drop i (by omega), ← Nat.add_assoc, sq_succ hd]
theorem clrV_keep {b : Int} {w : Version} : ∀ {l : List Version}, w ∈ clrV b l → ¬ (w.by_ < b ∧ w.made = true ∧ w.has = false)
  | [], h => by simp [clrV] at h
  | v :: l, h => by
    simp only [clrV] at h
    split at h
    · exact clrV_keep h
    · next ho =>
      rcases List.mem_cons.1 h with rfl | h
      · rintro ⟨h1, h2, h3⟩
        exact ho (by simp [old, h1, h2, h3])
      · exact clrV_keep h
theorem before_clear {l : List Chain} (hs : Srt Chain.key l) (hv : ∀ c ∈ l, VSrt c.vs) {b x : Int} (hx : b ≤ x) (k : Str) :
    before (clear b l) k x = if (before l k x).by_ < b ∧ (before l k x).made = true ∧ (before l k x).has = false then noV else before l k x := by
  have h := seen_clear2 (k := k) (out := noV) hx hs hv
  by_cases hc : (before l k x).by_ < b ∧ (before l k x).made = true ∧ (before l k x).has = false
  · rw [if_pos hc]
    rcases h with h | h
    · have h' : before (clear b l) k x = before l k x := h
      rcases before_mem (clear b l) k x with h1 | ⟨c, h1, h2, h3, h4⟩
      · exact h1
      · obtain ⟨c0, h5, rfl⟩ := clear_mem h1
        rw [h'] at h3
        exact absurd hc (clrV_keep h3)
    · exact h.2.2.1
  · rw [if_neg hc]
    rcases h with h | h
    · exact h
    · exact absurd ⟨h.2.2.2, h.1, h.2.1⟩ hc
theorem QInv.clearE {e : Engine} {r : List Pair} (h : QInv e r) (hS : SInv e) (hW : WInv e) : QInv (clearE e) (sq r e.deeds (markN e.state)) := by
  have hml : markN e.state ≤ e.deeds.length := by rw [← hW.l]; exact markN_le e.state
  have hb := h.b
  obtain ⟨M, hM⟩ : ∃ M, markN e.state = M := ⟨_, rfl⟩
  have hform : ∀ k x, e.base + M ≤ x → before (clear (e.base + M) e.chains) k x = if (before e.chains k x).by_ < e.base + M ∧ (before e.chains k x).made = true ∧ (before e.chains k x).has = false then noV else before e.chains k x := fun k x hx => before_clear hS.k hS.v hx k
  unfold RF.clearE
  rw [hM] at hml ⊢
  have hmade : ∀ k, (before e.chains k (e.base + M)).made = true := fun k => by
    cases hm : (before e.chains k (e.base + M)).made with
    | true => rfl
    | false =>
      rcases before_mem e.chains k (e.base + M) with h1 | ⟨c, h1, h2, h3, h4⟩
      · rw [h1] at hm; cases hm
      · obtain ⟨j, x, h5, h6, _⟩ := hW.n c h1 _ h3 hm
        have : j < markN e.state := by omega
        have := markN_one this
        rw [h6] at this; cases this
  refine ⟨sq_srt h.s hW.d M, fun k => ?_, fun k i hi hm => ?_, fun k i x hx hk => ?_, fun k i x hx hk => ?_, fun i x hx h1 => ?_, by show 0 ≤ e.base + (M : Int); omega⟩
  · show (before (clear (e.base + M) e.chains) k (e.base + M)).made = true
    rw [hform k _ (Int.le_refl _)]
    split
    · rfl
    · exact hmade k
  · have hi' : i ≤ e.deeds.length - M := by simpa using hi
    show RF.get (sq (sq r e.deeds M) (e.deeds.drop M) i) k = ((before (clear (e.base + M) e.chains) k (e.base + M + i)).n, (before (clear (e.base + M) e.chains) k (e.base + M + i)).has)
    have hm' : (before (clear (e.base + M) e.chains) k (e.base + M + i)).made = true := hm
    have hx : e.base + (M : Int) + (i : Int) = e.base + ((M + i : Nat) : Int) := by omega
    rw [sq_drop i (by omega)]
    rw [hx] at hm' ⊢
    rw [hform k _ (by omega)] at hm' ⊢
    by_cases hc : (before e.chains k (e.base + ((M + i : Nat) : Int))).by_ < e.base + M ∧ (before e.chains k (e.base + ((M + i : Nat) : Int))).made = true ∧ (before e.chains k (e.base + ((M + i : Nat) : Int))).has = false
    · rw [if_pos hc, h.m k (M + i) (by omega) hc.2.1, hc.2.2, hW.bh k _ hc.2.2]
      rfl
    · rw [if_neg hc] at hm' ⊢
      exact h.m k (M + i) (by omega) hm'
  · have hx' : e.deeds[M + i]? = some x := by
      have : (e.deeds.drop M)[i]? = some x := hx
      rwa [List.getElem?_drop] at this
    obtain ⟨h1, h2⟩ := h.p k (M + i) x hx' hk
    show (before (clear (e.base + M) e.chains) k (e.base + M + (i + 1 : Nat))).by_ = e.base + M + i ∧ ((e.state.drop M)[i]? = some 1 → (before (clear (e.base + M) e.chains) k (e.base + M + (i + 1 : Nat))).made = true)
    have hxx : e.base + (M : Int) + ((i + 1 : Nat) : Int) = e.base + ((M + i + 1 : Nat) : Int) := by omega
    rw [hxx, List.getElem?_drop]
    rw [hform k _ (by omega), if_neg (by rw [h1]; omega)]
    exact ⟨by rw [h1]; omega, h2⟩
  · have hx' : e.deeds[M + i]? = some x := by
      have : (e.deeds.drop M)[i]? = some x := hx
      rwa [List.getElem?_drop] at this
    have hq := h.q k (M + i) x hx' hk
    show before (clear (e.base + M) e.chains) k (e.base + M + (i + 1 : Nat)) = before (clear (e.base + M) e.chains) k (e.base + M + i)
    have hxx : e.base + (M : Int) + ((i + 1 : Nat) : Int) = e.base + ((M + i + 1 : Nat) : Int) := by omega
    have hxy : e.base + (M : Int) + (i : Int) = e.base + ((M + i : Nat) : Int) := by omega
    rw [hxx, hxy]
    rw [hform k _ (by omega), hform k _ (by omega), hq]
  · have hx' : e.deeds[M + i]? = some x := by
      have : (e.deeds.drop M)[i]? = some x := hx
      rwa [List.getElem?_drop] at this
    have h1' : (e.state.drop M)[i]? = some 1 := h1
    rw [List.getElem?_drop] at h1'
    show (e.ends.drop M)[i]? = some (doD (sq (sq r e.deeds M) (e.deeds.drop M) i) x).2
    have hlt := (List.getElem?_eq_some_iff.1 hx').1
    rw [List.getElem?_drop, sq_drop i (by omega)]
    exact h.w (M + i) x hx' h1'

end Go.Proofs.YtembfadhnkabhaaDoor
