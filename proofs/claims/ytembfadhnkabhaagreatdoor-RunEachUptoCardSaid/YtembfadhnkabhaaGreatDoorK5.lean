/-
  Part 5 of what the claim leans on: G18 G15 ShSort AxSort G16 P6 G5 G6 G17 G9 G10 G19 P7 P9 P10 P11 P12 G24 F4 L6 G25 AxStr Tx H1.
-/
import Derived.Test.YtembfadhnkabhaaGreatDoorK4
import Derived.Shelf.Sort.Plain
import Derived.Shelf.Slices.In.SortNone
import Derived.Test.YtembfadhnkabhaaGreatDoorProg
import Derived.Sort.OwnSortedInts
import Derived.RangeFuncNested
import Derived.RangeFuncLeaves
import Derived.Shelf.Abstract
import Derived.WalkKit
import Derived.OwnWalkIn
import Derived.TacticsInMore
import Derived.LoopNIn
import Derived.LoopIn
import Derived.Lib.AtoiAll
import Derived.Lib.ItoaNum

/-! G18 -/
/-
  plan.Own: its result is the caller's own. The view of a deed that is done.
-/
namespace Go.Proofs.YtembfadhnkabhaaGreatDoor
open Go.AX Go.RF

set_option maxRecDepth 100000
set_option maxHeartbeats 8000000

abbrev ownE (e : Engine) : List Part := [.d (encChains e.chains), .own 69 3 (e.deeds.map Deed.enc), .own 3 1 (e.state.map encInt1), .own 53 5 (e.ends.map Done.enc), .d (dint e.base)]

theorem news_planOwn (e : Engine) (hs : e.Sm) : FnNews Tryz.prog 31 [.d (.agg e.enc)] (ownE e) := by
  refine fnNews_of tbl_ok mixed_ok Tryz.func31 rfl (by kernel_rfl) rfl rfl fun w0 own0 => ?_
  have h1 := hs.c
  have h2 := hs.s
  have h3 := hs.n
  have h4 := hs.d
  have c1 := ok_chainOwn e.chains (by omega) (fun c hc => by have := hs.v c hc; omega)
  have c2 := new_clone_int (e.state.map encInt1) (by simp; omega)
  have c3 := new_clone_done (e.ends.map Done.enc) (by simp; omega)
  repeat (first | (with_reducible apply stop_reg 1) | ((with_reducible apply s1); exact rfl) | (with_reducible first | apply CW.seq | apply CW.block | apply CW.region | apply CW.draw | apply CW.skip | apply CW.exit | apply CW.ret | apply q_then | apply q_then_exit | apply q_then_ret | apply q_block | apply q_block_ret | apply q_block_hit | apply q_ret | apply q_end | apply q_loop_exit | apply q_loop_ret | apply q_loopT_exit | apply q_loopT_ret | apply RW.nil) | ((with_reducible apply s3); exact rfl; exact by_k) | ((with_reducible apply s2); exact rfl; exact by_k) | ((with_reducible apply s4); exact rfl) | ((with_reducible apply s5); (first | exact by_oa); exact by_g) | ((with_reducible apply CW.cond_t); exact rfl; exact by_ks) | ((with_reducible apply CW.cond_f); exact rfl; exact by_ks) | ((with_reducible apply q_block_miss); exact rfl) | (refine And.intro (show chk [] [] _ _ = true by kernel_rfl) ?_))
  refine Stop.go (CW.stut stut_reserve ⟨rfl, trivial⟩ ?_)
  repeat (first | ((with_reducible apply s5); (with_reducible apply (a_allocR 2)); exact rfl; exact rfl; exact rfl; exact rfl; exact by_g) | ((with_reducible apply s1); exact rfl) | (with_reducible first | apply CW.seq | apply CW.block | apply CW.region | apply CW.draw | apply CW.skip | apply CW.exit | apply CW.ret | apply q_then | apply q_then_exit | apply q_then_ret | apply q_block | apply q_block_ret | apply q_block_hit | apply q_ret | apply q_end | apply q_loop_exit | apply q_loop_ret | apply q_loopT_exit | apply q_loopT_ret | apply RW.nil) | ((with_reducible apply s3); exact rfl; exact by_k) | ((with_reducible apply s2); exact rfl; exact by_k) | ((with_reducible apply s4); exact rfl) | ((with_reducible apply s5); (first | ((with_reducible apply a_buildA); (iterate 4 exact rfl); (repeat (first | exact PartsV.nil | (apply PartsV.cons; exact rfl; exact rfl; (first | exact ⟨rfl, trivial⟩ | (apply nw_own; exact rfl; (focus first | exact rfl | (simp; done) | (simp; omega))))))); exact rfl) | (focus ((with_reducible apply a_call); exact c1; exact rfl; (repeat (first | exact SubsE.nil | (apply SubsE.cons; exact rfl; (first | exact .d (.refl _) | exact .d (.nil _) | exact .agg rfl (.refl _) | exact .pd | exact .ptr rfl); (first | exact trivial | exact ⟨rfl, trivial⟩)))); done)) | (focus ((with_reducible apply a_callnew); exact c2; (iterate 2 exact rfl); (repeat (first | exact SubsE.nil | (apply SubsE.cons; exact rfl; (first | exact .d (.refl _) | exact .d (.nil _) | exact .agg rfl (.refl _) | exact .pd | exact .ptr rfl); (first | exact trivial | exact ⟨rfl, trivial⟩)))); done)) | (focus ((with_reducible apply a_callnew); exact c3; (iterate 2 exact rfl); (repeat (first | exact SubsE.nil | (apply SubsE.cons; exact rfl; (first | exact .d (.refl _) | exact .d (.nil _) | exact .agg rfl (.refl _) | exact .pd | exact .ptr rfl); (first | exact trivial | exact ⟨rfl, trivial⟩)))); done)) | exact by_oa); exact by_g) | ((with_reducible apply CW.cond_t); exact rfl; exact by_ks) | ((with_reducible apply CW.cond_f); exact rfl; exact by_ks) | ((with_reducible apply q_block_miss); exact rfl) | (refine And.intro (show chk [] [] _ _ = true by kernel_rfl) ?_))
  refine CW.stut (stut_promote_cell (id := 2) (j := 1) 69 3 rfl) ⟨rfl, rfl, trivial⟩ ?_
  refine CW.loopT (fun i : Nat => [sp 2 1, ob 1 noE.enc0, sp 3 2, (.o 2, .ob (.box [.d (encChains e.chains), .own 5 i, .own 3 (e.state.map encInt1).length, .own 4 (e.ends.map Done.enc).length, .d (dint e.base)])), sd 19 (encDeeds e.deeds), sd 20 (dint e.deeds.length), sd 21 (dint i),
      oa 3 3 1 (e.state.map encInt1), oa 4 53 5 (e.ends.map Done.enc), oa 5 69 3 ((e.deeds.take i).map Deed.enc), nxt 6]) (fun i => i ≤ e.deeds.length) (fun i => e.deeds.length - i) 0 (by omega) ?_ ?_
  ·
    exact by_less
  · rintro i hi
    rcases drop_case hi with ⟨h5, h6⟩ | ⟨d, h5, h6, h7⟩
    · have h8 : (e.deeds.take i).map Deed.enc = e.deeds.map Deed.enc := by rw [h6, List.take_length]
      rw [h8]
      repeat (first | ((with_reducible apply s1); exact rfl) | (with_reducible first | apply CW.seq | apply CW.block | apply CW.region | apply CW.draw | apply CW.skip | apply CW.exit | apply CW.ret | apply q_then | apply q_then_exit | apply q_then_ret | apply q_block | apply q_block_ret | apply q_block_hit | apply q_ret | apply q_end | apply q_loop_exit | apply q_loop_ret | apply q_loopT_exit | apply q_loopT_ret | apply RW.nil) | ((with_reducible apply s3); exact rfl; exact by_k) | ((with_reducible apply s2); exact rfl; exact by_k) | ((with_reducible apply s4); exact rfl) | ((with_reducible apply s5); (first | exact by_oa); exact by_g) | ((with_reducible apply CW.cond_t); exact rfl; exact by_ks) | ((with_reducible apply CW.cond_f); exact rfl; exact by_ks) | ((with_reducible apply q_block_miss); exact rfl) | (refine And.intro (show chk [] [] _ _ = true by kernel_rfl) ?_))
      refine .cell rfl rfl rfl rfl (.cons .d (.cons (.own rfl (by simp; omega)) (.cons (.own rfl (by simp)) (.cons (.own rfl (by simp)) (.cons .d .nil))))) (show ([5, 3, 4] : List Nat).Nodup by decide)
    · have h8 : (e.deeds.take i).map Deed.enc ++ [d.enc] = (e.deeds.take (i + 1)).map Deed.enc := by rw [List.take_add_one, h6]; simp
      have hd := ok_deedOwn d (hs.dd d (List.mem_of_getElem? h6))
      repeat (first | ((with_reducible apply s1); exact rfl) | (with_reducible first | apply CW.seq | apply CW.block | apply CW.region | apply CW.draw | apply CW.skip | apply CW.exit | apply CW.ret | apply q_then | apply q_then_exit | apply q_then_ret | apply q_block | apply q_block_ret | apply q_block_hit | apply q_ret | apply q_end | apply q_loop_exit | apply q_loop_ret | apply q_loopT_exit | apply q_loopT_ret | apply RW.nil) | ((with_reducible apply s3); exact rfl; exact by_k) | ((with_reducible apply s2); exact rfl; exact by_k) | ((with_reducible apply s4); exact rfl) | ((with_reducible apply s5); (first | (focus ((with_reducible apply a_call); exact hd; exact rfl; (repeat (first | exact SubsE.nil | (apply SubsE.cons; exact rfl; (first | exact .d (.refl _) | exact .d (.nil _) | exact .agg rfl (.refl _) | exact .pd | exact .ptr rfl); (first | exact trivial | exact ⟨rfl, trivial⟩)))); done)) | exact by_oa); exact by_g) | ((with_reducible apply CW.cond_t); exact rfl; exact by_ks) | ((with_reducible apply CW.cond_f); exact rfl; exact by_ks) | ((with_reducible apply q_block_miss); exact rfl) | (refine And.intro (show chk [] [] _ _ = true by kernel_rfl) ?_))
      refine q_loopT (i + 1) (by omega) (by omega) ?_
      exact by_less

end Go.Proofs.YtembfadhnkabhaaGreatDoor

/-! G15 -/
/-
  Contracts of the library's Index and Contains, of texts and of numbers; of the program's Keys.
-/
namespace Go.Proofs.YtembfadhnkabhaaGreatDoor
open Go.AX Go.RF

set_option maxRecDepth 100000
set_option maxHeartbeats 8000000

def idxS : Nat → List Str → Str → Int
  | _, [], _ => -1
  | i, x :: l, s => if x = s then (i : Int) else idxS (i + 1) l s
theorem idxS_in : ∀ {l : List Str} {i : Nat} {s : Str}, decide (0 ≤ idxS i l s) = isIn l s
  | [], i, s => rfl
  | x :: l, i, s => by
    by_cases h : x = s
    · simp only [idxS, isIn, if_pos h]; exact decide_eq_true (by omega)
    · simp only [idxS, isIn, if_neg h]; exact idxS_in
theorem ok_indexS (l : List Str) (s : Str) (hl : l.length ≤ 1073741824) : FnOk Tryz.prog 88 [.d (encStrs l), .d (dstr s)] (.one (dint (idxS 0 l s))) := by
  refine fnOk_of tbl_ok mixed_ok Tryz.func88 rfl (by kernel_rfl) rfl rfl fun w0 own0 => ?_
  repeat (first | ((with_reducible apply s1); exact rfl) | (with_reducible first | apply CW.seq | apply CW.block | apply CW.region | apply CW.draw | apply CW.skip | apply CW.exit | apply CW.ret | apply q_then | apply q_then_exit | apply q_then_ret | apply q_block | apply q_block_ret | apply q_block_hit | apply q_ret | apply q_end | apply q_loop_exit | apply q_loop_ret | apply q_loopT_exit | apply q_loopT_ret | apply RW.nil) | ((with_reducible apply s3); exact rfl; exact by_k) | ((with_reducible apply s2); exact rfl; exact by_k) | ((with_reducible apply s4); exact rfl) | ((with_reducible apply s5); (first | exact by_oa); exact by_g) | ((with_reducible apply CW.cond_t); exact rfl; exact by_ks) | ((with_reducible apply CW.cond_f); exact rfl; exact by_ks) | ((with_reducible apply q_block_miss); exact rfl) | (refine And.intro (show chk [] [] _ _ = true by kernel_rfl) ?_))
  refine CW.loopT (fun t : Nat => [sd 0 (encStrs l), sd 1 (dstr s), sd 6 (encStrs l), sd 7 (dint l.length), sd 8 (dint t), nxt 0])
    (fun t => t ≤ l.length ∧ idxS t (l.drop t) s = idxS 0 l s) (fun t => l.length - t) 0 ⟨by omega, rfl⟩ ?_ ?_
  ·
    exact by_less
  · rintro t ⟨ht, hI⟩
    rcases drop_case ht with ⟨h1, h2⟩ | ⟨x, h1, h2, h3⟩
    · rw [h1, idxS] at hI
      repeat (first | ((with_reducible apply s1); exact rfl) | (with_reducible first | apply CW.seq | apply CW.block | apply CW.region | apply CW.draw | apply CW.skip | apply CW.exit | apply CW.ret | apply q_then | apply q_then_exit | apply q_then_ret | apply q_block | apply q_block_ret | apply q_block_hit | apply q_ret | apply q_end | apply q_loop_exit | apply q_loop_ret | apply q_loopT_exit | apply q_loopT_ret | apply RW.nil) | ((with_reducible apply s3); exact rfl; exact by_k) | ((with_reducible apply s2); exact rfl; exact by_k) | ((with_reducible apply s4); exact rfl) | ((with_reducible apply s5); (first | exact by_oa); exact by_g) | ((with_reducible apply CW.cond_t); exact rfl; exact by_ks) | ((with_reducible apply CW.cond_f); exact rfl; exact by_ks) | ((with_reducible apply q_block_miss); exact rfl) | (refine And.intro (show chk [] [] _ _ = true by kernel_rfl) ?_))
      rw [← hI]
      exact .one (.tmp rfl (.one (.d (.refl _))))
    · rw [h1, idxS] at hI
      by_cases h : x = s
      · rw [if_pos h] at hI
        have h' : s = x := h.symm
        repeat (first | ((with_reducible apply s1); exact rfl) | (with_reducible first | apply CW.seq | apply CW.block | apply CW.region | apply CW.draw | apply CW.skip | apply CW.exit | apply CW.ret | apply q_then | apply q_then_exit | apply q_then_ret | apply q_block | apply q_block_ret | apply q_block_hit | apply q_ret | apply q_end | apply q_loop_exit | apply q_loop_ret | apply q_loopT_exit | apply q_loopT_ret | apply RW.nil) | ((with_reducible apply s3); exact rfl; exact by_k) | ((with_reducible apply s2); exact rfl; exact by_k) | ((with_reducible apply s4); exact rfl) | ((with_reducible apply s5); (first | exact by_oa); exact by_g) | ((with_reducible apply CW.cond_t); exact rfl; exact by_ks) | ((with_reducible apply CW.cond_f); exact rfl; exact by_ks) | ((with_reducible apply q_block_miss); exact rfl) | (refine And.intro (show chk [] [] _ _ = true by kernel_rfl) ?_))
        rw [← hI]
        exact .one (.tmp rfl (.one (.d (.refl _))))
      · rw [if_neg h] at hI
        have h' : ¬ s = x := fun e => h e.symm
        repeat (first | ((with_reducible apply s1); exact rfl) | (with_reducible first | apply CW.seq | apply CW.block | apply CW.region | apply CW.draw | apply CW.skip | apply CW.exit | apply CW.ret | apply q_then | apply q_then_exit | apply q_then_ret | apply q_block | apply q_block_ret | apply q_block_hit | apply q_ret | apply q_end | apply q_loop_exit | apply q_loop_ret | apply q_loopT_exit | apply q_loopT_ret | apply RW.nil) | ((with_reducible apply s3); exact rfl; exact by_k) | ((with_reducible apply s2); exact rfl; exact by_k) | ((with_reducible apply s4); exact rfl) | ((with_reducible apply s5); (first | exact by_oa); exact by_g) | ((with_reducible apply CW.cond_t); exact rfl; exact by_ks) | ((with_reducible apply CW.cond_f); exact rfl; exact by_ks) | ((with_reducible apply q_block_miss); exact rfl) | (refine And.intro (show chk [] [] _ _ = true by kernel_rfl) ?_))
        refine q_loopT (t + 1) ⟨by omega, hI⟩ (by omega) ?_
        exact by_less
theorem ok_containsS (l : List Str) (s : Str) (hl : l.length ≤ 1073741824) : FnOk Tryz.prog 70 [.d (encStrs l), .d (dstr s)] (.one (dbool (isIn l s))) := by
  refine fnOk_of tbl_ok mixed_ok Tryz.func70 rfl (by kernel_rfl) rfl rfl fun w0 own0 => ?_
  have c1 := ok_indexS l s hl
  repeat (first | ((with_reducible apply s1); exact rfl) | (with_reducible first | apply CW.seq | apply CW.block | apply CW.region | apply CW.draw | apply CW.skip | apply CW.exit | apply CW.ret | apply q_then | apply q_then_exit | apply q_then_ret | apply q_block | apply q_block_ret | apply q_block_hit | apply q_ret | apply q_end | apply q_loop_exit | apply q_loop_ret | apply q_loopT_exit | apply q_loopT_ret | apply RW.nil) | ((with_reducible apply s3); exact rfl; exact by_k) | ((with_reducible apply s2); exact rfl; exact by_k) | ((with_reducible apply s4); exact rfl) | ((with_reducible apply s5); (first | (focus ((with_reducible apply a_call); exact c1; exact rfl; (repeat (first | exact SubsE.nil | (apply SubsE.cons; exact rfl; (first | exact .d (.refl _) | exact .d (.nil _) | exact .agg rfl (.refl _) | exact .pd | exact .ptr rfl); (first | exact trivial | exact ⟨rfl, trivial⟩)))); done)) | exact by_oa); exact by_g) | ((with_reducible apply CW.cond_t); exact rfl; exact by_ks) | ((with_reducible apply CW.cond_f); exact rfl; exact by_ks) | ((with_reducible apply q_block_miss); exact rfl) | (refine And.intro (show chk [] [] _ _ = true by kernel_rfl) ?_))
  rw [← idxS_in (i := 0)]
  exact .one (.tmp rfl (.one (.d (.refl _))))

def isNum (l : List Int) (n : Int) : Bool := match l with
  | [] => false
  | x :: l => if x = n then true else isNum l n
def idxI : Nat → List Int → Int → Int
  | _, [], _ => -1
  | i, x :: l, s => if x = s then (i : Int) else idxI (i + 1) l s
theorem idxI_in : ∀ {l : List Int} {i : Nat} {s : Int}, decide (0 ≤ idxI i l s) = isNum l s
  | [], i, s => rfl
  | x :: l, i, s => by
    by_cases h : x = s
    · simp only [idxI, isNum, if_pos h]; exact decide_eq_true (by omega)
    · simp only [idxI, isNum, if_neg h]; exact idxI_in
theorem ok_indexI (l : List Int) (s : Int) (hl : l.length ≤ 1073741824) : FnOk Tryz.prog 75 [.d (encInts l), .d (dint s)] (.one (dint (idxI 0 l s))) := by
  refine fnOk_of tbl_ok mixed_ok Tryz.func75 rfl (by kernel_rfl) rfl rfl fun w0 own0 => ?_
  repeat (first | ((with_reducible apply s1); exact rfl) | (with_reducible first | apply CW.seq | apply CW.block | apply CW.region | apply CW.draw | apply CW.skip | apply CW.exit | apply CW.ret | apply q_then | apply q_then_exit | apply q_then_ret | apply q_block | apply q_block_ret | apply q_block_hit | apply q_ret | apply q_end | apply q_loop_exit | apply q_loop_ret | apply q_loopT_exit | apply q_loopT_ret | apply RW.nil) | ((with_reducible apply s3); exact rfl; exact by_k) | ((with_reducible apply s2); exact rfl; exact by_k) | ((with_reducible apply s4); exact rfl) | ((with_reducible apply s5); (first | exact by_oa); exact by_g) | ((with_reducible apply CW.cond_t); exact rfl; exact by_ks) | ((with_reducible apply CW.cond_f); exact rfl; exact by_ks) | ((with_reducible apply q_block_miss); exact rfl) | (refine And.intro (show chk [] [] _ _ = true by kernel_rfl) ?_))
  refine CW.loopT (fun t : Nat => [sd 0 (encInts l), sd 1 (dint s), sd 6 (encInts l), sd 7 (dint l.length), sd 8 (dint t), nxt 0])
    (fun t => t ≤ l.length ∧ idxI t (l.drop t) s = idxI 0 l s) (fun t => l.length - t) 0 ⟨by omega, rfl⟩ ?_ ?_
  ·
    exact by_less
  · rintro t ⟨ht, hI⟩
    rcases drop_case ht with ⟨h1, h2⟩ | ⟨x, h1, h2, h3⟩
    · rw [h1, idxI] at hI
      repeat (first | ((with_reducible apply s1); exact rfl) | (with_reducible first | apply CW.seq | apply CW.block | apply CW.region | apply CW.draw | apply CW.skip | apply CW.exit | apply CW.ret | apply q_then | apply q_then_exit | apply q_then_ret | apply q_block | apply q_block_ret | apply q_block_hit | apply q_ret | apply q_end | apply q_loop_exit | apply q_loop_ret | apply q_loopT_exit | apply q_loopT_ret | apply RW.nil) | ((with_reducible apply s3); exact rfl; exact by_k) | ((with_reducible apply s2); exact rfl; exact by_k) | ((with_reducible apply s4); exact rfl) | ((with_reducible apply s5); (first | exact by_oa); exact by_g) | ((with_reducible apply CW.cond_t); exact rfl; exact by_ks) | ((with_reducible apply CW.cond_f); exact rfl; exact by_ks) | ((with_reducible apply q_block_miss); exact rfl) | (refine And.intro (show chk [] [] _ _ = true by kernel_rfl) ?_))
      rw [← hI]
      exact .one (.tmp rfl (.one (.d (.refl _))))
    · rw [h1, idxI] at hI
      by_cases h : x = s
      · rw [if_pos h] at hI
        have h' : s = x := h.symm
        repeat (first | ((with_reducible apply s1); exact rfl) | (with_reducible first | apply CW.seq | apply CW.block | apply CW.region | apply CW.draw | apply CW.skip | apply CW.exit | apply CW.ret | apply q_then | apply q_then_exit | apply q_then_ret | apply q_block | apply q_block_ret | apply q_block_hit | apply q_ret | apply q_end | apply q_loop_exit | apply q_loop_ret | apply q_loopT_exit | apply q_loopT_ret | apply RW.nil) | ((with_reducible apply s3); exact rfl; exact by_k) | ((with_reducible apply s2); exact rfl; exact by_k) | ((with_reducible apply s4); exact rfl) | ((with_reducible apply s5); (first | exact by_oa); exact by_g) | ((with_reducible apply CW.cond_t); exact rfl; exact by_ks) | ((with_reducible apply CW.cond_f); exact rfl; exact by_ks) | ((with_reducible apply q_block_miss); exact rfl) | (refine And.intro (show chk [] [] _ _ = true by kernel_rfl) ?_))
        rw [← hI]
        exact .one (.tmp rfl (.one (.d (.refl _))))
      · rw [if_neg h] at hI
        have h' : ¬ s = x := fun e => h e.symm
        repeat (first | ((with_reducible apply s1); exact rfl) | (with_reducible first | apply CW.seq | apply CW.block | apply CW.region | apply CW.draw | apply CW.skip | apply CW.exit | apply CW.ret | apply q_then | apply q_then_exit | apply q_then_ret | apply q_block | apply q_block_ret | apply q_block_hit | apply q_ret | apply q_end | apply q_loop_exit | apply q_loop_ret | apply q_loopT_exit | apply q_loopT_ret | apply RW.nil) | ((with_reducible apply s3); exact rfl; exact by_k) | ((with_reducible apply s2); exact rfl; exact by_k) | ((with_reducible apply s4); exact rfl) | ((with_reducible apply s5); (first | exact by_oa); exact by_g) | ((with_reducible apply CW.cond_t); exact rfl; exact by_ks) | ((with_reducible apply CW.cond_f); exact rfl; exact by_ks) | ((with_reducible apply q_block_miss); exact rfl) | (refine And.intro (show chk [] [] _ _ = true by kernel_rfl) ?_))
        refine q_loopT (t + 1) ⟨by omega, hI⟩ (by omega) ?_
        exact by_less
theorem ok_containsI (l : List Int) (s : Int) (hl : l.length ≤ 1073741824) : FnOk Tryz.prog 47 [.d (encInts l), .d (dint s)] (.one (dbool (isNum l s))) := by
  refine fnOk_of tbl_ok mixed_ok Tryz.func47 rfl (by kernel_rfl) rfl rfl fun w0 own0 => ?_
  have c1 := ok_indexI l s hl
  repeat (first | ((with_reducible apply s1); exact rfl) | (with_reducible first | apply CW.seq | apply CW.block | apply CW.region | apply CW.draw | apply CW.skip | apply CW.exit | apply CW.ret | apply q_then | apply q_then_exit | apply q_then_ret | apply q_block | apply q_block_ret | apply q_block_hit | apply q_ret | apply q_end | apply q_loop_exit | apply q_loop_ret | apply q_loopT_exit | apply q_loopT_ret | apply RW.nil) | ((with_reducible apply s3); exact rfl; exact by_k) | ((with_reducible apply s2); exact rfl; exact by_k) | ((with_reducible apply s4); exact rfl) | ((with_reducible apply s5); (first | (focus ((with_reducible apply a_call); exact c1; exact rfl; (repeat (first | exact SubsE.nil | (apply SubsE.cons; exact rfl; (first | exact .d (.refl _) | exact .d (.nil _) | exact .agg rfl (.refl _) | exact .pd | exact .ptr rfl); (first | exact trivial | exact ⟨rfl, trivial⟩)))); done)) | exact by_oa); exact by_g) | ((with_reducible apply CW.cond_t); exact rfl; exact by_ks) | ((with_reducible apply CW.cond_f); exact rfl; exact by_ks) | ((with_reducible apply q_block_miss); exact rfl) | (refine And.intro (show chk [] [] _ _ = true by kernel_rfl) ?_))
  rw [← idxI_in (i := 0)]
  exact .one (.tmp rfl (.one (.d (.refl _))))

/-! ### Keys -/
theorem keysGo'_append : ∀ {a b out : List Str}, keysGo' out (a ++ b) = keysGo' (keysGo' out a) b
  | [], b, out => rfl
  | k :: a, b, out => by simp only [List.cons_append, keysGo']; exact keysGo'_append
theorem keysGo'_nodup : ∀ {l out : List Str}, (∀ k ∈ l, k ∉ out) → l.Nodup → keysGo' out l = out ++ l
  | [], out, _, _ => by simp [keysGo']
  | k :: l, out, h, hn => by
    obtain ⟨h1, h2⟩ := List.nodup_cons.1 hn
    simp only [keysGo']
    rw [if_neg (fun e => h k (List.mem_cons_self ..) (isIn_true e)), keysGo'_nodup (fun x hx hm => ?_) h2, List.append_assoc]
    · rfl
    · rcases List.mem_append.1 hm with hm | hm
      · exact h x (List.mem_cons_of_mem _ hx) hm
      · simp at hm; subst hm; exact h1 hx
theorem keysD_eq {d : Deed} (h : d.reads.Nodup) : keysD d = keysGo' d.reads d.writes := by
  unfold keysD
  rw [keysGo'_append, keysGo'_nodup (by simp) h]
  rfl
theorem ok_pkeys (d : Deed) (hn : d.reads.Nodup) (hr : d.reads.length ≤ 268435456) (hw : d.writes.length ≤ 268435456) : FnOk Tryz.prog 43 [.d (.agg d.enc)] (.one (encStrs (keysD d))) := by
  refine fnOk_of tbl_ok mixed_ok Tryz.func43 rfl (by kernel_rfl) rfl rfl fun w0 own0 => ?_
  have c1 := new_clone_str (d.reads.map encStr1) (by simp; omega)
  rw [keysD_eq hn]
  repeat (first | ((with_reducible apply s1); exact rfl) | (with_reducible first | apply CW.seq | apply CW.block | apply CW.region | apply CW.draw | apply CW.skip | apply CW.exit | apply CW.ret | apply q_then | apply q_then_exit | apply q_then_ret | apply q_block | apply q_block_ret | apply q_block_hit | apply q_ret | apply q_end | apply q_loop_exit | apply q_loop_ret | apply q_loopT_exit | apply q_loopT_ret | apply RW.nil) | ((with_reducible apply s3); exact rfl; exact by_k) | ((with_reducible apply s2); exact rfl; exact by_k) | ((with_reducible apply s4); exact rfl) | ((with_reducible apply s5); (first | (focus ((with_reducible apply a_callnew); exact c1; (iterate 2 exact rfl); (repeat (first | exact SubsE.nil | (apply SubsE.cons; exact rfl; (first | exact .d (.refl _) | exact .d (.nil _) | exact .agg rfl (.refl _) | exact .pd | exact .ptr rfl); (first | exact trivial | exact ⟨rfl, trivial⟩)))); done)) | exact by_oa); exact by_g) | ((with_reducible apply CW.cond_t); exact rfl; exact by_ks) | ((with_reducible apply CW.cond_f); exact rfl; exact by_ks) | ((with_reducible apply q_block_miss); exact rfl) | (refine And.intro (show chk [] [] _ _ = true by kernel_rfl) ?_))
  refine CW.loopT (fun t : Nat × List Str => [sp 1 0, ob 0 d.enc, sd 2 (.v nilS), so 3 1 t.2.length, oa 1 9 1 (t.2.map encStr1), sd 10 (encStrs d.writes), sd 11 (dint d.writes.length), sd 12 (dint t.1), nxt 2])
    (fun t => t.1 ≤ d.writes.length ∧ t.2.length ≤ d.reads.length + t.1 ∧ keysGo' t.2 (d.writes.drop t.1) = keysGo' d.reads d.writes) (fun t => d.writes.length - t.1) (0, d.reads) ⟨by omega, by simp, rfl⟩ ?_ ?_
  ·
    exact by_less
  · rintro ⟨j, out⟩ ⟨hj, ho, hJ⟩
    dsimp only at hj ho hJ ⊢
    rcases drop_case hj with ⟨h1, h2⟩ | ⟨k, h1, h2, h3⟩
    · rw [h1, keysGo'] at hJ
      repeat (first | ((with_reducible apply s1); exact rfl) | (with_reducible first | apply CW.seq | apply CW.block | apply CW.region | apply CW.draw | apply CW.skip | apply CW.exit | apply CW.ret | apply q_then | apply q_then_exit | apply q_then_ret | apply q_block | apply q_block_ret | apply q_block_hit | apply q_ret | apply q_end | apply q_loop_exit | apply q_loop_ret | apply q_loopT_exit | apply q_loopT_ret | apply RW.nil) | ((with_reducible apply s3); exact rfl; exact by_k) | ((with_reducible apply s2); exact rfl; exact by_k) | ((with_reducible apply s4); exact rfl) | ((with_reducible apply s5); (first | exact by_oa); exact by_g) | ((with_reducible apply CW.cond_t); exact rfl; exact by_ks) | ((with_reducible apply CW.cond_f); exact rfl; exact by_ks) | ((with_reducible apply q_block_miss); exact rfl) | (refine And.intro (show chk [] [] _ _ = true by kernel_rfl) ?_))
      rw [← hJ]
      exact .one (.tmp rfl (.one (.own rfl (by simp) (.refl _))))
    · rw [h1, keysGo'] at hJ
      have c2 := ok_containsS out k (by omega)
      cases h : isIn out k with
      | true =>
        rw [h] at c2 hJ
        repeat (first | ((with_reducible apply s1); exact rfl) | (with_reducible first | apply CW.seq | apply CW.block | apply CW.region | apply CW.draw | apply CW.skip | apply CW.exit | apply CW.ret | apply q_then | apply q_then_exit | apply q_then_ret | apply q_block | apply q_block_ret | apply q_block_hit | apply q_ret | apply q_end | apply q_loop_exit | apply q_loop_ret | apply q_loopT_exit | apply q_loopT_ret | apply RW.nil) | ((with_reducible apply s3); exact rfl; exact by_k) | ((with_reducible apply s2); exact rfl; exact by_k) | ((with_reducible apply s4); exact rfl) | ((with_reducible apply s5); (first | (focus ((with_reducible apply a_lend); exact c2; exact rfl; exact .plain rfl; (focus first | exact rfl | (simp; done) | (simp; omega)); (iterate 2 exact rfl); (repeat (first | exact SubsE.nil | (apply SubsE.cons; exact rfl; (first | exact .d (.refl _) | exact .d (.nil _) | exact .agg rfl (.refl _) | exact .pd | exact .ptr rfl); (first | exact trivial | exact ⟨rfl, trivial⟩)))); done)) | exact by_oa); exact by_g) | ((with_reducible apply CW.cond_t); exact rfl; exact by_ks) | ((with_reducible apply CW.cond_f); exact rfl; exact by_ks) | ((with_reducible apply q_block_miss); exact rfl) | (refine And.intro (show chk [] [] _ _ = true by kernel_rfl) ?_))
        refine q_loopT (j + 1, out) ⟨by dsimp only; omega, by dsimp only; omega, hJ⟩ (by dsimp only; omega) ?_
        exact by_less
      | false =>
        rw [h] at c2 hJ
        repeat (first | ((with_reducible apply s1); exact rfl) | (with_reducible first | apply CW.seq | apply CW.block | apply CW.region | apply CW.draw | apply CW.skip | apply CW.exit | apply CW.ret | apply q_then | apply q_then_exit | apply q_then_ret | apply q_block | apply q_block_ret | apply q_block_hit | apply q_ret | apply q_end | apply q_loop_exit | apply q_loop_ret | apply q_loopT_exit | apply q_loopT_ret | apply RW.nil) | ((with_reducible apply s3); exact rfl; exact by_k) | ((with_reducible apply s2); exact rfl; exact by_k) | ((with_reducible apply s4); exact rfl) | ((with_reducible apply s5); (first | (focus ((with_reducible apply a_lend); exact c2; exact rfl; exact .plain rfl; (focus first | exact rfl | (simp; done) | (simp; omega)); (iterate 2 exact rfl); (repeat (first | exact SubsE.nil | (apply SubsE.cons; exact rfl; (first | exact .d (.refl _) | exact .d (.nil _) | exact .agg rfl (.refl _) | exact .pd | exact .ptr rfl); (first | exact trivial | exact ⟨rfl, trivial⟩)))); done)) | exact by_oa); exact by_g) | ((with_reducible apply CW.cond_t); exact rfl; exact by_ks) | ((with_reducible apply CW.cond_f); exact rfl; exact by_ks) | ((with_reducible apply q_block_miss); exact rfl) | (refine And.intro (show chk [] [] _ _ = true by kernel_rfl) ?_))
        refine q_loopT (j + 1, out ++ [k]) ⟨by dsimp only; omega, by dsimp only; simp; omega, hJ⟩ (by dsimp only; omega) ?_
        exact by_less

end Go.Proofs.YtembfadhnkabhaaGreatDoor

/-! ShSort -/
/-
  The library's Sort of numbers, at this program's numbers (printed by tools/mklays.py 189).
-/
namespace Go.Proofs
open Go.Shelf Go.RowKit
set_option maxRecDepth 100000
noncomputable def Tryz.lays189_ren : Go.Shelf.Ren := ⟨fun | 125 => 77 | 128 => 102 | 129 => 103 | 189 => 48 | 215 => 114 | 216 => 99 | 257 => 76 | 294 => 93 | 295 => 94 | 296 => 95 | 297 => 96 | 298 => 97 | 299 => 98 | 300 => 100 | 301 => 101 | 328 => 109 | 329 => 110 | 330 => 111 | 331 => 112 | 332 => 113 | 343 => 127 | n => n, fun | 0 => 0 | 3 => 3 | 4 => 4 | 5 => 5 | 9 => 9 | 28 => 25 | 46 => 126 | 51 => 148 | 53 => 150 | 131 => 98 | 182 => 140 | 183 => 141 | 218 => 156 | 222 => 160 | 228 => 172 | 229 => 173 | n => n, fun | n => n⟩
theorem Tryz.lays189 : Go.Proofs.Lays.n189 Tryz.prog Tryz.lays189_ren := {
  mixed := by kernel_rfl
  f125 := Tryz.func77.trans (congrArg some (by kernel_rfl))
  f128 := Tryz.func102.trans (congrArg some (by kernel_rfl))
  f129 := Tryz.func103.trans (congrArg some (by kernel_rfl))
  f189 := Tryz.func48.trans (congrArg some (by kernel_rfl))
  f215 := Tryz.func114.trans (congrArg some (by kernel_rfl))
  f216 := Tryz.func99.trans (congrArg some (by kernel_rfl))
  f257 := Tryz.func76.trans (congrArg some (by kernel_rfl))
  f294 := Tryz.func93.trans (congrArg some (by kernel_rfl))
  f295 := Tryz.func94.trans (congrArg some (by kernel_rfl))
  f296 := Tryz.func95.trans (congrArg some (by kernel_rfl))
  f297 := Tryz.func96.trans (congrArg some (by kernel_rfl))
  f298 := Tryz.func97.trans (congrArg some (by kernel_rfl))
  f299 := Tryz.func98.trans (congrArg some (by kernel_rfl))
  f300 := Tryz.func100.trans (congrArg some (by kernel_rfl))
  f301 := Tryz.func101.trans (congrArg some (by kernel_rfl))
  f328 := Tryz.func109.trans (congrArg some (by kernel_rfl))
  f329 := Tryz.func110.trans (congrArg some (by kernel_rfl))
  f330 := Tryz.func111.trans (congrArg some (by kernel_rfl))
  f331 := Tryz.func112.trans (congrArg some (by kernel_rfl))
  f332 := Tryz.func113.trans (congrArg some (by kernel_rfl))
  f343 := Tryz.func127.trans (congrArg some (by kernel_rfl))
  t0 := Tryz.underlying0
  a0 := Tryz.isAgg0
  z0 := Tryz.sizeOf0
  v0 := Tryz.zeroValue0
  t3 := Tryz.underlying3
  a3 := Tryz.isAgg3
  z3 := Tryz.sizeOf3
  v3 := Tryz.zeroValue3
  t4 := Tryz.underlying4
  a4 := Tryz.isAgg4
  z4 := Tryz.sizeOf4
  v4 := Tryz.zeroValue4
  t5 := Tryz.underlying5
  a5 := Tryz.isAgg5
  z5 := Tryz.sizeOf5
  v5 := Tryz.zeroValue5
  t9 := Tryz.underlying9
  a9 := Tryz.isAgg9
  z9 := Tryz.sizeOf9
  v9 := Tryz.zeroValue9
  t28 := Tryz.underlying25
  a28 := Tryz.isAgg25
  z28 := Tryz.sizeOf25
  v28 := Tryz.zeroValue25
  t46 := Tryz.underlying126
  a46 := Tryz.isAgg126
  z46 := Tryz.sizeOf126
  v46 := Tryz.zeroValue126
  t51 := Tryz.underlying148
  a51 := Tryz.isAgg148
  z51 := Tryz.sizeOf148
  v51 := Tryz.zeroValue148
  t53 := Tryz.underlying150
  a53 := Tryz.isAgg150
  z53 := Tryz.sizeOf150
  v53 := Tryz.zeroValue150
  t131 := Tryz.underlying98
  a131 := Tryz.isAgg98
  z131 := Tryz.sizeOf98
  v131 := Tryz.zeroValue98
  t182 := Tryz.underlying140
  a182 := Tryz.isAgg140
  z182 := Tryz.sizeOf140
  v182 := Tryz.zeroValue140
  t183 := Tryz.underlying141
  a183 := Tryz.isAgg141
  z183 := Tryz.sizeOf141
  v183 := Tryz.zeroValue141
  t218 := Tryz.underlying156
  a218 := Tryz.isAgg156
  z218 := Tryz.sizeOf156
  v218 := Tryz.zeroValue156
  t222 := Tryz.underlying160
  a222 := Tryz.isAgg160
  z222 := Tryz.sizeOf160
  v222 := Tryz.zeroValue160
  t228 := Tryz.underlying172
  a228 := Tryz.isAgg172
  z228 := Tryz.sizeOf172
  v228 := Tryz.zeroValue172
  t229 := Tryz.underlying173
  a229 := Tryz.isAgg173
  z229 := Tryz.sizeOf173
  v229 := Tryz.zeroValue173
  }

end Go.Proofs

/-! AxSort -/
/-
  A slice of ours that a callee changes where it lies, as many elements as before.
-/
namespace Go.AX
open Go.RowKit

variable {cx : Cx} {g : Nat → Value} {σ σ' : St} {a : Act} {w w' : World} {nx : Nat} {c : Code} {Q : Exit → St → Prop}
variable {ty : TypeId} {pos : String} {af : Array Edge} {gd : Option (Nat × Bool)} {d : Nat}

structure FnIn (P : Program) (f : FuncId) (e k : Nat) (rows rows' : List (List D)) : Prop where
  run : ∃ fn, P.funcs[f]? = some fn ∧ (fn.name == "runtime.NumGoroutine") = false ∧ fn.body.isNone = false
  len : rows'.length = rows.length
  calls : ∀ (w : World) (own : Nat → Prop) (v : Value), (∀ b, own b → b < w.heap.size) → RowsAt w 0 (with1 own v) e k v rows → (∀ b, own b → blk v ≠ some b) →
    Calls P f #[v] w fun r w' => ∃ u, r = .returned u ∧ BelowBut v w w' ∧ RowsAt w' 0 (with1 own v) e k v rows'

theorem a_inplace {f : FuncId} {x : Operand} {e k id n : Nat} {rows rows' : List (List D)} {ats : Array TypeId} (hc : FnIn cx.P f e k rows rows') (hx : ev σ x = some (.own id n)) (ho : get σ (.o id) = .ob (.arr e k rows)) (hnx : get σ .nx = .num nx) (hn : n = rows.length) (hd : Nat.blt d cx.n = true) :
    OA cx σ ⟨some d, .call { callee := .value (.func f), args := #[x], argTypes := ats }, ty, pos, af, gd⟩ ⟨rdOf x (.own id n) ++ [(.o id, .ob (.arr e k rows)), (.nx, .num nx)], [(.s d, .av .any), (.o id, .ob (.arr e k rows')), (.nx, .num nx)]⟩ := by
  refine ⟨?_, (ev_out hx).2.append ⟨ho, hnx, trivial⟩⟩
  rintro σ a w K Q ⟨g, n', hs⟩ hr hK
  have hnx : n' = nx := by
    have h2 := hr.right.2.1
    rw [hs.hnx] at h2
    simpa using h2
  subst hnx
  have ho : get σ (.o id) = .ob (.arr e k rows) := hr.right.1
  have hidlt := (hs.objs id _ ho).1
  have hval : a.eval x = g id := ((hs.ev (ev_out hx).1 hr.left).1.2 e k rows ho).2 hn
  have hR := objRows hs ho
  have hw1 : ∀ b, with1 (fun b => cx.own g σ b ∧ blk (g id) ≠ some b) (g id) b → cx.own g σ b := by
    rintro b (h | h)
    · exact h.1
    · exact .inr ⟨id, _, ho, h⟩
  have hcall := hc.calls w (fun b => cx.own g σ b ∧ blk (g id) ≠ some b) (g id) (fun b hb => own_lt hs hb.1) (hR.re (fun b _ => Nat.zero_le _) hw1) (fun b hb => hb.2)
  unfold Oper.wp
  rw [call_run (xs := [x]) hc.run, List.map_cons, List.map_nil, hval]
  refine hcall.mono fun r w' he => ?_
  obtain ⟨u, rfl, hbb, hR'⟩ := he
  have hge := hs.below.size
  have hst : ObjStep cx σ g n' n' w w' id (.arr e k rows') (g id) := by
    refine ⟨.inr ⟨rfl, _, ho, rfl, rfl, Nat.le_of_eq hc.len.symm, fun _ => upd_same _ _ _⟩, ⟨hbb.os, hbb.tape, hbb.output, hbb.size, fun b hb => hbb.block b (by omega) fun he => by have := obj_ge hs ho he; omega⟩, fun b hb h => hbb.block b hb (h _ ho), fun b hb => .inl ⟨_, ho, hb⟩⟩
  have hG : SimG cx (objSt σ n' id (.arr e k rows')) a w' (upd g id (g id)) n' := by
    refine SimG.obj hs hst (fun hl => ?_) trivial
    show RowsAt w' cx.w0.heap.size _ e k (upd g id (g id) id) rows'
    rw [upd_same]
    refine hR'.re (fun b hb => obj_ge hs ho hb) fun b hb => ?_
    rcases hb with h | ⟨j, o, h1, h2⟩
    · refine .inl ⟨.inl h, fun he => ?_⟩
      have h3 := obj_ge hs ho he
      have h4 := hs.own0 b h
      omega
    · by_cases hj : j = id
      · subst hj; rw [upd_same] at h2; exact .inr h2
      · rw [objSt_o hj] at h1
        rw [upd_ne hj] at h2
        exact .inl ⟨.inr ⟨j, o, h1, h2⟩, fun he => hj (hs.sep j id o _ b h1 ho h2 he)⟩
  exact hK _ _ (Sim.put hG (lt_of_blt hd) (Below.refl _ _) (av := .any) trivial trivial)

end Go.AX

/-! G16 -/
/-
  The library's Sort of numbers changes a slice of ours where it lies.
-/
namespace Go.Proofs.YtembfadhnkabhaaGreatDoor
open Go.AX Go.RF Go.RowKit Go.Sort Go.ChangeShapes Go.WideShapes

abbrev sorted (zs : List Int) : List Int := zs.mergeSort fun x y => decide (x ≤ y)

theorem int_rows {w : World} {base : Nat} {own : Nat → Prop} {e : Nat} {v : Value} {zs : List Int} (h : RowsAt w base own e 1 v (zs.map encInt1)) : w.ownsRow base e 1 v zs.length (zs.map (Value.int .i64)) := by
  obtain ⟨xs, h1, h2, h3, h4⟩ := h
  have hl : xs.length = zs.length := by have := h1.1; simpa using this
  have he : xs = zs.map (Value.int .i64) := by
    apply List.ext_getElem (by simpa using hl)
    intro i hi hi'
    have hi2 : i < zs.length := by omega
    have hz : zs[i]? = some zs[i] := List.getElem?_eq_getElem hi2
    have := h4 i 0 (encInt1 zs[i]) (dint zs[i]) xs[i] (by rw [List.getElem?_map, hz]; rfl) rfl (by simp)
    rw [rd_v this]
    simp
  rw [← he]
  simpa using h1
theorem rows_int {w : World} {base : Nat} {own : Nat → Prop} {e : Nat} {v : Value} {zs : List Int} (h : w.ownsRow base e 1 v zs.length (zs.map (Value.int .i64))) : RowsAt w base own e 1 v (zs.map encInt1) := by
  refine ⟨zs.map (Value.int .i64), by simpa using h, fun x hx => ?_, fun r hr => ?_, fun i j r x u hi hj hu => ?_⟩
  · obtain ⟨z, _, rfl⟩ := List.mem_map.1 hx; rfl
  · obtain ⟨z, _, rfl⟩ := List.mem_map.1 hr; rfl
  · rw [List.getElem?_map] at hi
    cases hz : zs[i]? with
    | none => rw [hz] at hi; cases hi
    | some z =>
      rw [hz] at hi
      simp at hi; subst hi
      cases j with
      | zero =>
        simp [encInt1] at hj; subst hj
        rw [Nat.mul_one, Nat.add_zero, List.getElem?_map, hz] at hu
        simp at hu; subst hu
        exact Rd.v _
      | succ j => simp [encInt1] at hj

theorem in_sort (zs : List Int) (hl : zs.length ≤ 1073741824) : FnIn Tryz.prog 48 3 1 (zs.map encInt1) ((sorted zs).map encInt1) := by
  refine ⟨⟨_, Tryz.func48, by kernel_rfl, by kernel_rfl⟩, by simp [sorted], fun w own v _ hR _ => ?_⟩
  have h1 := int_rows hR
  rcases h1.2 with ⟨rfl, hn⟩ | ⟨b, cap, cur, rfl, _, hb, hle, hcm, hsz, htk⟩
  · obtain rfl : zs = [] := List.eq_nil_of_length_eq_zero hn
    refine (Any.slices_Sort_int_none Tryz.lays189 none 0 w).mono ?_
    rintro r w' ⟨rfl, rfl⟩
    rw [show sorted [] = [] by simp [sorted]]
    exact ⟨_, rfl, ⟨rfl, rfl, rfl, Nat.le_refl _, fun b _ _ => rfl⟩, ⟨[], World.ownsRow_nil _ _ _ _, by simp, by simp, by simp⟩⟩
  · have hblt : b < w.heap.size := by
      rcases Nat.lt_or_ge b w.heap.size with h | h
      · exact h
      · rw [Array.getElem?_eq_none h] at hb; cases hb
    have hH := holds_of_blockI (ss := zs) hb (by simpa using htk)
    refine (Any.slices_Sort_int Tryz.lays189 b 0 cap zs w hH hblt (by omega)).mono ?_
    rintro r w' ⟨rfl, n, os, rfl⟩
    have hg := grownBy_sortedI (w := w) (g := b) (n := n) (os := os) (sorted zs).toArray
    have hrow := ownsRow_sortedI (w := w) (base := 0) (n := n) (os := os) (ss := zs) (ts := sorted zs) (by simp [sorted]) (Nat.zero_le _) hb hle hcm (by simpa using hsz)
    refine ⟨_, rfl, ⟨hg.os, hg.tape, hg.output, hg.size, fun c hc hne => hg.block c hc fun e => hne (show some b = some c from e.symm)⟩, ?_⟩
    have hlen : (sorted zs).length = zs.length := by simp [sorted]
    rw [← hlen] at hrow
    have := rows_int (own := with1 own (Value.slice (some ⟨b, 0, none⟩) (sorted zs).length cap)) hrow
    rw [hlen] at this
    exact this

end Go.Proofs.YtembfadhnkabhaaGreatDoor

/-! P6 -/
/-
  What a deed needs: the program's way comes to the references'.
-/
namespace Go.Proofs.YtembfadhnkabhaaGreatDoor
open Go.AX Go.RF

theorem int_ext : ∀ {l r : List Int}, l.Pairwise (· < ·) → r.Pairwise (· < ·) → (∀ x, x ∈ l ↔ x ∈ r) → l = r
  | [], [], _, _, _ => rfl
  | [], q :: r, _, _, h => by have := (h q).2 (List.mem_cons_self ..); simp at this
  | p :: l, [], _, _, h => by have := (h p).1 (List.mem_cons_self ..); simp at this
  | p :: l, q :: r, hl, hr, h => by
    obtain ⟨h1, h2⟩ := List.pairwise_cons.1 hl
    obtain ⟨h3, h4⟩ := List.pairwise_cons.1 hr
    have hpq : p = q := by
      rcases List.mem_cons.1 ((h p).1 (List.mem_cons_self ..)) with e | e
      · exact e
      · rcases List.mem_cons.1 ((h q).2 (List.mem_cons_self ..)) with f | f
        · exact f.symm
        · have := h1 q f; have := h3 p e; omega
    subst hpq
    refine congrArg (p :: ·) (int_ext h2 h4 fun x => ⟨fun hx => ?_, fun hx => ?_⟩)
    · rcases List.mem_cons.1 ((h x).1 (List.mem_cons_of_mem _ hx)) with rfl | e
      · have := h1 x hx; omega
      · exact e
    · rcases List.mem_cons.1 ((h x).2 (List.mem_cons_of_mem _ hx)) with rfl | e
      · have := h3 x hx; omega
      · exact e
theorem isNum_mem {n : Int} : ∀ {l : List Int}, isNum l n = true ↔ n ∈ l
  | [] => by simp [isNum]
  | x :: l => by
    simp only [isNum]
    by_cases h : x = n
    · simp [h]
    · rw [if_neg h, isNum_mem]
      simp [Ne.symm h]
theorem isNum_false {l : List Int} {n : Int} (h : isNum l n = false) : n ∉ l := fun hm => by
  rw [isNum_mem.2 hm] at h; cases h

def pneedsGo (cs : List Chain) (base b : Int) : List Int → List Str → List Int
  | out, [] => out
  | out, k :: r => pneedsGo cs base b (if (before cs k b).made = false ∧ isNum out ((before cs k b).by_ - base) = false then out ++ [(before cs k b).by_ - base] else out) r
def pneeds (e : Engine) (at_ : Nat) (d : Deed) : List Int := sorted (pneedsGo e.chains e.base (e.base + at_) [] (keysD d))

theorem pneedsGo_mem {cs : List Chain} {base b x : Int} : ∀ {ks : List Str} {out : List Int}, x ∈ pneedsGo cs base b out ks ↔ x ∈ out ∨ ∃ k ∈ ks, (before cs k b).made = false ∧ x = (before cs k b).by_ - base
  | [], out => by simp [pneedsGo]
  | k :: ks, out => by
    simp only [pneedsGo]
    rw [pneedsGo_mem]
    by_cases h : (before cs k b).made = false
    · cases h2 : isNum out ((before cs k b).by_ - base) with
      | true =>
        rw [if_neg (by simp)]
        have := isNum_mem.1 h2
        constructor
        · rintro (h3 | ⟨k', h3, h4⟩)
          · exact .inl h3
          · exact .inr ⟨k', List.mem_cons_of_mem _ h3, h4⟩
        · rintro (h3 | ⟨k', h3, h4, h5⟩)
          · exact .inl h3
          · rcases List.mem_cons.1 h3 with rfl | h3
            · exact .inl (by rw [h5]; exact this)
            · exact .inr ⟨k', h3, h4, h5⟩
      | false =>
        rw [if_pos ⟨h, rfl⟩]
        constructor
        · rintro (h3 | ⟨k', h3, h4⟩)
          · rcases List.mem_append.1 h3 with h3 | h3
            · exact .inl h3
            · simp at h3; exact .inr ⟨k, List.mem_cons_self .., h, h3⟩
          · exact .inr ⟨k', List.mem_cons_of_mem _ h3, h4⟩
        · rintro (h3 | ⟨k', h3, h4, h5⟩)
          · exact .inl (List.mem_append_left _ h3)
          · rcases List.mem_cons.1 h3 with rfl | h3
            · exact .inl (by rw [h5]; simp)
            · exact .inr ⟨k', h3, h4, h5⟩
    · rw [if_neg (fun e => h e.1)]
      constructor
      · rintro (h3 | ⟨k', h3, h4⟩)
        · exact .inl h3
        · exact .inr ⟨k', List.mem_cons_of_mem _ h3, h4⟩
      · rintro (h3 | ⟨k', h3, h4, h5⟩)
        · exact .inl h3
        · rcases List.mem_cons.1 h3 with rfl | h3
          · exact absurd h4 h
          · exact .inr ⟨k', h3, h4, h5⟩
theorem pneedsGo_nodup {cs : List Chain} {base b : Int} : ∀ {ks : List Str} {out : List Int}, out.Nodup → (pneedsGo cs base b out ks).Nodup
  | [], out, h => h
  | k :: ks, out, h => by
    simp only [pneedsGo]
    refine pneedsGo_nodup ?_
    split
    · next h2 =>
      refine List.nodup_append.2 ⟨h, by simp, fun a ha x hx e => ?_⟩
      simp at hx
      subst hx; subst e
      exact isNum_false h2.2 ha
    · exact h
theorem sorted_lt {l : List Int} (h : l.Nodup) : (sorted l).Pairwise (· < ·) := by
  have h1 : (sorted l).Pairwise (fun a b => decide (a ≤ b) = true) := List.pairwise_mergeSort (le := fun x y : Int => decide (x ≤ y)) (by intro a b c; simp; omega) (by intro a b; simp; omega) l
  have h2 : (sorted l).Nodup := (List.mergeSort_perm l _).nodup_iff.2 h
  exact (h1.and h2).imp fun ⟨a, b⟩ => by simp at a; omega

theorem anyHit_iff {cs : List Chain} {b want : Int} : ∀ {ks : List Str}, anyHit cs b want ks = true ↔ ∃ k ∈ ks, (before cs k b).made = false ∧ (before cs k b).by_ = want
  | [] => by simp [anyHit]
  | k :: ks => by
    simp only [anyHit]
    by_cases h : hit cs b want k = true
    · rw [if_pos h]
      simp only [hit, Bool.and_eq_true, Bool.not_eq_true', decide_eq_true_eq] at h
      exact ⟨fun _ => ⟨k, List.mem_cons_self .., h⟩, fun _ => rfl⟩
    · rw [if_neg h, anyHit_iff]
      simp only [hit, Bool.and_eq_true, Bool.not_eq_true', decide_eq_true_eq] at h
      constructor
      · rintro ⟨k', h1, h2⟩; exact ⟨k', List.mem_cons_of_mem _ h1, h2⟩
      · rintro ⟨k', h1, h2⟩
        rcases List.mem_cons.1 h1 with rfl | h1
        · exact absurd h2 h
        · exact ⟨k', h1, h2⟩
theorem needsGo_mem {cs : List Chain} {base b x : Int} {ks : List Str} : ∀ {l : List Nat} {j : Nat}, x ∈ needsGo cs base b ks j l ↔ ∃ k ∈ l, x = (k : Int) ∧ anyHit cs b (base + k) ks = true
  | [], j => by simp [needsGo]
  | k :: l, j => by
    simp only [needsGo]
    by_cases h : anyHit cs b (base + k) ks = true
    · rw [if_pos h, List.mem_cons, needsGo_mem]
      constructor
      · rintro (h1 | ⟨k', h1, h2⟩)
        · exact ⟨k, List.mem_cons_self .., h1, h⟩
        · exact ⟨k', List.mem_cons_of_mem _ h1, h2⟩
      · rintro ⟨k', h1, h2⟩
        rcases List.mem_cons.1 h1 with rfl | h1
        · exact .inl h2.1
        · exact .inr ⟨k', h1, h2⟩
    · rw [if_neg h, needsGo_mem]
      constructor
      · rintro ⟨k', h1, h2⟩; exact ⟨k', List.mem_cons_of_mem _ h1, h2⟩
      · rintro ⟨k', h1, h2⟩
        rcases List.mem_cons.1 h1 with rfl | h1
        · exact absurd h2.2 h
        · exact ⟨k', h1, h2⟩
theorem needsGo_lt {cs : List Chain} {base b : Int} {ks : List Str} : ∀ {l : List Nat} {j : Nat}, l.Pairwise (· < ·) → (needsGo cs base b ks j l).Pairwise (· < ·)
  | [], j, _ => List.Pairwise.nil
  | k :: l, j, h => by
    obtain ⟨h1, h2⟩ := List.pairwise_cons.1 h
    simp only [needsGo]
    split
    · refine List.pairwise_cons.2 ⟨fun x hx => ?_, needsGo_lt h2⟩
      obtain ⟨k', h3, rfl, _⟩ := needsGo_mem.1 hx
      have := h1 k' h3
      omega
    · exact needsGo_lt h2

theorem pneeds_eq {e : Engine} {at_ : Nat} {d : Deed} (hB : ∀ k, (before e.chains k (e.base + at_)).made = false → e.base ≤ (before e.chains k (e.base + at_)).by_ ∧ (before e.chains k (e.base + at_)).by_ < e.base + at_) : pneeds e at_ d = needs e at_ d := by
  refine int_ext (sorted_lt (pneedsGo_nodup List.nodup_nil)) (needsGo_lt List.pairwise_lt_range) fun x => ?_
  unfold needs pneeds
  rw [needsGo_mem, show (x ∈ sorted (pneedsGo e.chains e.base (e.base + at_) [] (keysD d))) ↔ _ from List.mem_mergeSort, pneedsGo_mem]
  constructor
  · rintro (h | ⟨k, h1, h2, rfl⟩)
    · simp at h
    · obtain ⟨h3, h4⟩ := hB k h2
      refine ⟨((before e.chains k (e.base + at_)).by_ - e.base).toNat, List.mem_range.2 (by omega), by omega, anyHit_iff.2 ⟨k, h1, h2, by omega⟩⟩
  · rintro ⟨k, h1, rfl, h2⟩
    obtain ⟨s, h3, h4, h5⟩ := anyHit_iff.1 h2
    exact .inr ⟨s, h3, h4, by omega⟩

end Go.Proofs.YtembfadhnkabhaaGreatDoor

/-! G5 -/
/-
  Contract of the library's Backward over versions: its closure, for every loop body that keeps what lay below.
-/
namespace Go.Proofs.YtembfadhnkabhaaGreatDoor
open Go.AX Go.RF Go.RowKit Go.Shelf

attribute [local go_sem] Oper.semAt_some

def verV (v : Version) : Value := .agg #[.int .i64 v.by_, .bool v.made, .bool v.has, .int .i64 v.n]
def verC (v : Version) (j : Nat) : Value := match j with
  | 0 => .int .i64 v.by_
  | 1 => .bool v.made
  | 2 => .bool v.has
  | _ => .int .i64 v.n
/-- What has come when k rounds are over, from the end on. -/
def back (vs : List Version) (k : Nat) : List (Nat × Version) := (List.range k).map fun j => (vs.length - 1 - j, vs[vs.length - 1 - j]?.getD ⟨0, false, false, 0⟩)
theorem back_succ (vs : List Version) (k : Nat) : back vs (k + 1) = back vs k ++ [(vs.length - 1 - k, vs[vs.length - 1 - k]?.getD ⟨0, false, false, 0⟩)] := by simp [back, List.range_succ]
theorem back_length (vs : List Version) (k : Nat) : (back vs k).length = k := by simp [back]

/-- The slice's cells hold the versions, in a block below n₀. -/
def VerAt (n₀ : Nat) (W : World) (ad : Addr) (vs : List Version) : Prop := ad.block < n₀ ∧ ∀ (i j : Nat) (v : Version), vs[i]? = some v → j < 4 → W.cell? (ad.add (i * 4 + j)) = some (verC v j)
theorem VerAt.below {n₀ : Nat} {A B : World} {ad : Addr} {vs : List Version} (h : VerAt n₀ A ad vs) (hb : Below n₀ A B) : VerAt n₀ B ad vs :=
  ⟨h.1, fun i j v hi hj => (hb.cell (by rw [add_block]; exact h.1)).trans (h.2 i j v hi hj)⟩

theorem ver_cells {n₀ : Nat} {W : World} {ad : Addr} {vs : List Version} (h : VerAt n₀ W ad vs) {i : Nat} {v : Version} (hi : vs[i]? = some v) :
    W.cell? (ad.add (i * 4)) = some (.int .i64 v.by_) ∧ W.cell? ⟨(ad.add (i * 4)).block, (ad.add (i * 4)).off + 1, none⟩ = some (.bool v.made) ∧
      W.cell? ⟨(ad.add (i * 4)).block, (ad.add (i * 4)).off + 2, none⟩ = some (.bool v.has) ∧ W.cell? ⟨(ad.add (i * 4)).block, (ad.add (i * 4)).off + 3, none⟩ = some (.int .i64 v.n) := by
  have hx : ∀ j, j < 4 → W.cell? ((ad.add (i * 4)).add j) = some (verC v j) := fun j hj => by rw [add_add]; exact h.2 i j v hi hj
  exact ⟨hx 0 (by omega), hx 1 (by omega), hx 2 (by omega), hx 3 (by omega)⟩

set_option maxRecDepth 100000 in
set_option maxHeartbeats 2000000 in
theorem backward1_in (F : Fence) (n : Nat) (hF : F.fn 87) (hro : F.round = none) (hn : 1 ≤ n) (l Bs n₀ cap : Nat) (ad : Addr) (vs : List Version) (hreach : vs.length ≤ 268435456) (J Jx : List (Nat × Version) → World → Prop)
    (hY : ∀ pre x W, J pre W → pre.length < vs.length → YieldAt F (n - 1) Tryz.prog l #[.int .i64 (x.1 : Int), verV x.2] W fun e W' =>
      (e = .returned (.bool true) ∧ J (pre ++ [x]) W' ∧ Below n₀ W W') ∨ (e = .returned (.bool false) ∧ Jx (pre ++ [x]) W'))
    (W : World) (hBs : W.cell? ⟨Bs, 0, none⟩ = some (.slice (some ad) vs.length cap)) (hBl : Bs < n₀) (hc : VerAt n₀ W ad vs) (h0 : J [] W) :
    CallsIn F n Tryz.prog 87 #[.func (.yield l) #[] #[], .pointer (some ⟨Bs, 0, none⟩)] W fun e W' => (∃ v, e = .returned v) ∧
      ((∃ ys, ys = back vs vs.length ∧ J ys W') ∨ (∃ pre, (∃ k, k ≤ vs.length ∧ pre = back vs k) ∧ Jx pre W')) := by
  refine callsIn_of_wp Tryz.func87 rfl hF ?_ hro
  simp only [Tryz.ntmps87, List.size_toArray, List.length_cons, List.length_nil, Nat.reduceAdd, Nat.reduceSub, Array.replicate_succ, Array.replicate_zero, List.push_toArray, List.append_toArray, List.nil_append, List.cons_append]
  gi_wp2
  gi_loopw [3] (fun i wr => ∃ k : Nat, k ≤ vs.length ∧ i = .int .i64 ((vs.length : Int) - 1 - k) ∧ J (back vs k) wr ∧ Below n₀ W wr)
    (fun i _ => (intOf i + 1).toNat)
  case atStart => exact ⟨0, Nat.zero_le _, by simp, h0, Below.refl _ _⟩
  case round =>
    obtain ⟨k, hk, rfl, hJs, hnx⟩ := hrel
    by_cases hlt : k < vs.length
    · obtain ⟨i, hi, hi2⟩ : ∃ i : Nat, (vs.length : Int) - 1 - k = i ∧ i = vs.length - 1 - k := ⟨vs.length - 1 - k, by omega, rfl⟩
      obtain ⟨v, hv⟩ : ∃ v, vs[i]? = some v := ⟨vs[i]'(by omega), List.getElem?_eq_getElem (by omega)⟩
      have hB2 : wr.cell? ⟨Bs, 0, none⟩ = some (.slice (some ad) vs.length cap) := (hnx.cell (p := ⟨Bs, 0, none⟩) hBl).trans hBs
      obtain ⟨hc0, hc1, hc2, hc3⟩ := ver_cells (hc.below hnx) hv
      obtain ⟨fn, tmps, assign, body, hy, hR⟩ := hY _ (i, v) wr hJs (by rw [back_length]; exact hlt)
      dsimp only at hy
      have hi0 : (0 : Int) ≤ (i : Int) := by omega
      have hlen : i < vs.length := by omega
      have hnext : back vs k ++ [(i, v)] = back vs (k + 1) := by rw [back_succ, ← hi2, hv]; rfl
      rw [hi]
      clear hi2
      unfold verV at hy
      gi_wp2
      refine hR.mono ?_
      rintro e W3 (⟨rfl, hJ3, hk3⟩ | ⟨rfl, hJx3⟩)
      · gi_wp2
        go_roundw
        case rel => exact ⟨k + 1, by omega, by congr 1 <;> omega, by rw [← hnext]; exact hJ3, hnx.trans hk3⟩
        case measure => simp [intOf] <;> omega
      · gi_wp2
        refine bodyPost_ret (results_none rfl _ _ _) rfl ?_
        exact ⟨⟨_, rfl⟩, .inr ⟨_, ⟨k + 1, by omega, hnext⟩, hJx3⟩⟩
    · obtain rfl : k = vs.length := by omega
      have hi : (vs.length : Int) - 1 - vs.length = -1 := by omega
      rw [hi]
      gi_wp2
      go_end0
      exact ⟨⟨_, rfl⟩, .inl ⟨_, rfl, hJs⟩⟩

set_option maxRecDepth 100000 in
set_option maxHeartbeats 1000000 in
/-- .. at a slice of no element: no round. -/
theorem backward1_nil_in (F : Fence) (n : Nat) (hF : F.fn 87) (hro : F.round = none) (l Bs cap : Nat) (p : Option Addr) (J : List (Nat × Version) → World → Prop) (W : World) (hBs : W.cell? ⟨Bs, 0, none⟩ = some (.slice p 0 cap)) (h0 : J [] W) :
    CallsIn F n Tryz.prog 87 #[.func (.yield l) #[] #[], .pointer (some ⟨Bs, 0, none⟩)] W fun e W' => (∃ v, e = .returned v) ∧ J [] W' := by
  refine callsIn_of_wp Tryz.func87 rfl hF ?_ hro
  simp only [Tryz.ntmps87, List.size_toArray, List.length_cons, List.length_nil, Nat.reduceAdd, Nat.reduceSub, Array.replicate_succ, Array.replicate_zero, List.push_toArray, List.append_toArray, List.nil_append, List.cons_append]
  gi_wp2
  gi_loopw [3] (fun i wr => i = .int .i64 (-1) ∧ J [] wr) (fun _ _ => 0)
  case atStart => exact ⟨rfl, h0⟩
  case round =>
    obtain ⟨rfl, hJs⟩ := hrel
    gi_wp2
    go_end0
    exact ⟨⟨_, rfl⟩, hJs⟩

set_option maxHeartbeats 1000000 in
/-- Backward itself: the slice value is boxed; the function value captures the box. -/
theorem backward_in (F : Fence) (n : Nat) (hF : F.fn 64) (hro : F.round = none) (a : Option Addr) (len cap : Nat) (w : World) :
    CallsIn F n Tryz.prog 64 #[.slice a len cap] w fun e w' => e = .returned (.func (.func 87) #[] #[.pointer (some ⟨w.heap.size, 0, none⟩)]) ∧ w' = w.alloc (.cells #[.slice a len cap] 54) := by
  refine callsIn_of_wp Tryz.func64 rfl hF ?_ hro
  simp only [Tryz.ntmps64, List.size_toArray, List.length_cons, List.length_nil, Nat.reduceAdd, Nat.reduceSub, Array.replicate_succ, Array.replicate_zero, List.push_toArray, List.append_toArray, List.nil_append, List.cons_append]
  gi_wp2
  go_ret
  exact ⟨rfl, rfl⟩

/-- A slice value that holds versions, in a block below n₀; or it has none. -/
def Vers (n₀ : Nat) (W : World) (sv : Value) (vs : List Version) : Prop :=
  ∃ p cap, sv = .slice p vs.length cap ∧ (vs = [] ∨ ∃ ad, p = some ad ∧ VerAt n₀ W ad vs)
theorem Vers.below {n₀ : Nat} {A B : World} (h : Below n₀ A B) {sv : Value} {vs : List Version} : Vers n₀ A sv vs → Vers n₀ B sv vs
  | ⟨p, cap, e, .inl h0⟩ => ⟨p, cap, e, .inl h0⟩
  | ⟨p, cap, e, .inr ⟨ad, h1, h2⟩⟩ => ⟨p, cap, e, .inr ⟨ad, h1, h2.below h⟩⟩
theorem Vers.mono {n₀ n₁ : Nat} {A : World} (h : n₀ ≤ n₁) {sv : Value} {vs : List Version} : Vers n₀ A sv vs → Vers n₁ A sv vs
  | ⟨p, cap, e, .inl h0⟩ => ⟨p, cap, e, .inl h0⟩
  | ⟨p, cap, e, .inr ⟨ad, h1, h2⟩⟩ => ⟨p, cap, e, .inr ⟨ad, h1, ⟨Nat.lt_of_lt_of_le h2.1 h, h2.2⟩⟩⟩

theorem backward_stops (F : Fence) (n : Nat) (hF : F.fn 87) (hro : F.round = none) (hn : 1 ≤ n) (Bs n₀ : Nat) (sv : Value) (vs : List Version) (hreach : vs.length ≤ 268435456) (w : World) (hBs : Bs < n₀) (hn₀ : n₀ ≤ w.heap.size)
    (hc : w.cell? ⟨Bs, 0, none⟩ = some sv) (hI : Vers n₀ w sv vs) :
    SeqStopsK F n Tryz.prog 87 #[.pointer (some ⟨Bs, 0, none⟩)] (fun x : Nat × Version => #[Value.int .i64 (x.1 : Int), verV x.2]) (Below n₀) (fun ys => ys = back vs vs.length)
      (fun pre => ∃ k, k ≤ vs.length ∧ pre = back vs k) vs.length w := fun l J Jx W hW _ _ hY h0 => by
  have hc' := (hW.cell (p := ⟨Bs, 0, none⟩) (show Bs < w.heap.size by omega)).trans hc
  obtain ⟨p, cap, rfl, rfl | ⟨ad, rfl, hv⟩⟩ := hI.below (hW.mono hn₀)
  · exact (backward1_nil_in F n hF hro l Bs cap p J W hc' h0).mono fun e W' ⟨he, hj⟩ => ⟨he, .inl ⟨_, rfl, hj⟩⟩
  · exact backward1_in F n hF hro hn l Bs n₀ cap ad vs hreach J Jx hY W hc' hBs hv h0

end Go.Proofs.YtembfadhnkabhaaGreatDoor

/-! G6 -/
/-
  Contract of the program's Before.
-/
namespace Go.Proofs.YtembfadhnkabhaaGreatDoor
open Go.AX Go.RF Go.RowKit Go.Shelf

attribute [local go_sem] Oper.semAt_some

def AllGe (b : Int) (pre : List (Nat × Version)) : Prop := ∀ x ∈ pre, b ≤ x.2.by_
def Hit (b : Int) (pre : List (Nat × Version)) (v : Version) : Prop := ∃ ini i, pre = ini ++ [(i, v)] ∧ AllGe b ini ∧ v.by_ < b
theorem AllGe.snoc {b : Int} {pre : List (Nat × Version)} (h : AllGe b pre) {i : Nat} {v : Version} (hv : b ≤ v.by_) : AllGe b (pre ++ [(i, v)]) := fun x hx => by
  rcases List.mem_append.1 hx with hx | hx
  · exact h x hx
  · simp at hx; subst hx; exact hv
/-- A version in a box. -/
def Box4 (W : World) (B : Nat) (v : Version) : Prop := W.heap[B]? = some (.cells #[.int .i64 v.by_, .bool v.made, .bool v.has, .int .i64 v.n] 58 (0, 0))
theorem Box4.lt {W : World} {B : Nat} {v : Version} (h : Box4 W B v) : B < W.heap.size := (Array.getElem?_eq_some_iff.1 h).1
theorem Box4.cells {W : World} {B : Nat} {v : Version} (h : Box4 W B v) : W.cell? ⟨B, 0, none⟩ = some (.int .i64 v.by_) ∧ W.cell? ⟨B, 1, none⟩ = some (.bool v.made) ∧ W.cell? ⟨B, 2, none⟩ = some (.bool v.has) ∧ W.cell? ⟨B, 3, none⟩ = some (.int .i64 v.n) := by
  have h' : W.heap[B]? = _ := h
  refine ⟨?_, ?_, ?_, ?_⟩ <;> simp [World.cell?, h']
theorem Box4.frozens {W : World} {B : Nat} {v : Version} (h : Box4 W B v) : W.frozen? ⟨B, 0, none⟩ = false ∧ W.frozen? ⟨B, 1, none⟩ = false ∧ W.frozen? ⟨B, 2, none⟩ = false ∧ W.frozen? ⟨B, 3, none⟩ = false := by
  have h' : W.heap[B]? = _ := h
  refine ⟨?_, ?_, ?_, ?_⟩ <;> simp [World.frozen?, h']
theorem Box4.kept {W W' : World} {row : Option Nat} {B : Nat} {v : Version} (h : Box4 W B v) (hg : W.grownBy W' row) (hne : some B ≠ row) : Box4 W' B v := (hg.block B h.lt hne).trans h
theorem Box4.alloc {W : World} {B : Nat} {v : Version} (h : Box4 W B v) (o : Obj) : Box4 (W.alloc o) B v := h.kept (World.grownBy_alloc W o none) (by simp)
theorem Box4.below {n : Nat} {W W' : World} {B : Nat} {v : Version} (h : Box4 W B v) (hb : Below n W W') (hB : B < n) : Box4 W' B v := (hb.block B hB).trans h
theorem box4_own (B : Nat) {β : Type} (f : β → Version) : Own (fun s W => Box4 W B (f s)) := fun s X Y row hs hg hrow =>
  Box4.kept hs hg (fun e => by
    obtain ⟨o, ho, hc⟩ := hrow B e.symm
    rw [show X.heap[B]? = _ from hs] at ho
    cases ho
    simp [Obj.isCells] at hc)
theorem sets_box {W : World} {B : Nat} {v : Version} (h : Box4 W B v) (u : Version) :
    Box4 ((((W.setCell ⟨B, 0, none⟩ (.int .i64 u.by_)).setCell ⟨B, 1, none⟩ (.bool u.made)).setCell ⟨B, 2, none⟩ (.bool u.has)).setCell ⟨B, 3, none⟩ (.int .i64 u.n)) B u := by
  have h' : W.heap[B]? = _ := h
  simp [Box4, World.setCell, Array.getElem?_modify, h']
theorem sets_keeps (W : World) (B : Nat) (a b c d : Value) : KeepsOthers W ((((W.setCell ⟨B, 0, none⟩ a).setCell ⟨B, 1, none⟩ b).setCell ⟨B, 2, none⟩ c).setCell ⟨B, 3, none⟩ d) :=
  (((KeepsOthers.setCell W _ _).trans (KeepsOthers.setCell _ _ _)).trans (KeepsOthers.setCell _ _ _)).trans (KeepsOthers.setCell _ _ _)
theorem sets_below {W : World} {n B : Nat} {a b c d : Value} (h : n ≤ B) : Below n W ((((W.setCell ⟨B, 0, none⟩ a).setCell ⟨B, 1, none⟩ b).setCell ⟨B, 2, none⟩ c).setCell ⟨B, 3, none⟩ d) :=
  ((((Below.refl n W).setCell (p := ⟨B, 0, none⟩) h _).setCell (p := ⟨B, 1, none⟩) h _).setCell (p := ⟨B, 2, none⟩) h _).setCell (p := ⟨B, 3, none⟩) h _

theorem results_box {W : World} {B : Nat} {v : Version} {x : Array Value} (c0 : W.cell? ⟨B, 0, none⟩ = some (.int .i64 v.by_)) (c1 : W.cell? ⟨B, 1, none⟩ = some (.bool v.made)) (c2 : W.cell? ⟨B, 2, none⟩ = some (.bool v.has)) (c3 : W.cell? ⟨B, 3, none⟩ = some (.int .i64 v.n))
    (hx : x[6]? = some (.pointer (some ⟨B, 0, none⟩)) := by rfl) : (results Tryz.f37 x).run Tryz.prog W = .ok (verV v) W := by
  simp [results, Tryz.f37, go_sem, hx, c0, c1, c2, c3, verV, Act.eval, Array.getD_eq_getD_getElem?]

set_option maxRecDepth 100000 in
set_option maxHeartbeats 4000000 in
theorem before_raw (m : Nat) (by_ : Int) (k : ByteArray) (ad : Addr) (n cp : Nat) (sv : Value) (vs : List Version) (w : World) (hm : m < n) (had : ad.block < w.heap.size)
    (hcell : w.cell? (ad.add (m * 2 + 1)) = some sv) (hvs : Vers w.heap.size w sv vs) (hreach : vs.length ≤ 268435456)
    (hf : ∀ W : World, w.heap.size ≤ W.heap.size → Below w.heap.size w W → Calls Tryz.prog 63 #[.slice (some ad) n cp, .string k] W fun e W' => e = .returned (.tuple #[.int .i64 (m : Int), .bool true]) ∧ Below W.heap.size W W') :
    Calls Tryz.prog 37 #[.slice (some ad) n cp, .string k, .int .i64 by_] w fun e W' =>
      ((e = .returned (verV noV) ∧ AllGe by_ (back vs vs.length)) ∨ ∃ k v, k ≤ vs.length ∧ Hit by_ (back vs k) v ∧ e = .returned (verV v)) ∧ Below w.heap.size w W' := by
  refine (callsIn_wide (n := 3)).1 ?_
  refine callsIn_of_wp_marks Tryz.func37 rfl trivial ?_
  simp only [Tryz.ntmps37, List.size_toArray, List.length_cons, List.length_nil, Nat.reduceAdd, Nat.reduceSub, Array.replicate_succ, Array.replicate_zero, List.push_toArray, List.append_toArray, List.nil_append, List.cons_append]
  have hB1 : Below w.heap.size w ((w.alloc (.cells #[.int .i64 by_] 3)).alloc (.cells #[.int .i64 0, .bool false, .bool false, .int .i64 0] 58)) := ((Below.refl _ w).alloc (Nat.le_refl _) _).alloc (by simp) _
  have hf1 := hf _ hB1.size hB1
  obtain ⟨p, cap, rfl, hvs1⟩ := hvs
  have hcell' : w.cell? ⟨(ad.add (m * 2)).block, (ad.add (m * 2)).off + 1, none⟩ = some (.slice p vs.length cap) := by
    rw [← add_add] at hcell
    exact hcell
  have hc0 : ∀ {w1 : World}, Below w.heap.size w w1 → w1.cell? ⟨(ad.add (m * 2)).block, (ad.add (m * 2)).off + 1, none⟩ = some (.slice p vs.length cap) := fun hB =>
    (hB.cell (p := ⟨(ad.add (m * 2)).block, (ad.add (m * 2)).off + 1, none⟩) (by show (ad.add (m * 2)).block < _; rw [add_block]; exact had)).trans hcell'
  gi_wp2_with (refine ⟨trivial, ?_⟩; first | (gi_at_call 63; refine (callsIn_wide.2 hf1).mono ?_; clear hf1; rintro e w1 ⟨rfl, hb1⟩; have hB2 := hB1.trans (hb1.mono hB1.size); have hc1 := hc0 hB2) |
    (gi_at_call 64; refine (backward_in _ _ trivial rfl _ _ _ _).mono ?_; rintro e w' ⟨rfl, rfl⟩))
  have hsz1 : w.heap.size + 1 + 1 ≤ w1.heap.size := by have := hb1.size; simpa using this
  have bY : Boxed w1 w.heap.size 3 (.int .i64 by_) := by
    have h0 := (Boxed.new w 3 (.int .i64 by_)).alloc (.cells #[.int .i64 0, .bool false, .bool false, .int .i64 0] 58)
    exact (hb1.block _ (by simp; omega)).trans h0
  have bR : Box4 w1 (w.heap.size + 1) ⟨0, false, false, 0⟩ := by
    have h0 : Box4 ((w.alloc (.cells #[.int .i64 by_] 3)).alloc (.cells #[.int .i64 0, .bool false, .bool false, .int .i64 0] 58)) (w.heap.size + 1) ⟨0, false, false, 0⟩ := by
      have := World.alloc_heap_new (w.alloc (.cells #[.int .i64 by_] 3)) (.cells #[.int .i64 0, .bool false, .bool false, .int .i64 0] 58)
      simpa [Box4] using this
    exact h0.below hb1 (by simp)
  have bN := Boxed.new w1 54 (.slice p vs.length cap)
  have hV1 : Vers w.heap.size w1 (.slice p vs.length cap) vs := Vers.below hB2 ⟨p, cap, rfl, hvs1⟩
  obtain ⟨W0, hW0⟩ : ∃ W0, w1.alloc (.cells #[.slice p vs.length cap] 54) = W0 := ⟨_, rfl⟩
  have hBW : Below w1.heap.size w1 W0 := by rw [← hW0]; exact (Below.refl _ w1).alloc (Nat.le_refl _) _
  have hsz0 : W0.heap.size = w1.heap.size + 1 := by rw [← hW0]; simp
  rw [hW0] at bN ⊢
  have bY0 : Boxed W0 w.heap.size 3 (.int .i64 by_) := (hBW.block _ (by omega)).trans bY
  have bR0 : Box4 W0 (w.heap.size + 1) ⟨0, false, false, 0⟩ := bR.below hBW (by omega)
  have hB0 : Below w.heap.size w W0 := hB2.trans (hBW.mono hB2.size)
  clear hW0
  refine wpIn_rangeFunc_ownH (F := Fence.wide) rfl (by omega) (gf := 87) (lb := #[.pointer (some ⟨w1.heap.size, 0, none⟩)]) rfl trivial (enters_of Tryz.func87 (by kernel_rfl) rfl)
    (backward_stops Fence.wide (3 - 1) trivial rfl (by omega) w1.heap.size W0.heap.size _ vs hreach W0 (by omega) (Nat.le_refl _) bN.cell (Vers.mono hB0.size (Vers.below (hBW.mono hB2.size) hV1))) belowK_t (belowK_b (Nat.le_refl _)) (Below.refl _ _) (fun _ => rfl)
    (fun pre W => AllGe by_ pre ∧ Below W0.heap.size W0 W)
    (fun c pre W => (c = .ret ∧ ∃ v, Hit by_ pre v ∧ Box4 W (w.heap.size + 1) v) ∧ Below w.heap.size w W)
    (OwnFrom.and (Own.from (fun s A B row hs hg hr => hs) _) (ownFrom_below (Nat.le_refl _) (Nat.le_refl _)))
    (fun c => OwnFrom.and (Own.from (fun s A B row hs hg hr => by obtain ⟨hc, v, e1, e4⟩ := hs; exact ⟨hc, v, e1, box4_own (w.heap.size + 1) (fun (_ : Unit) => v) () A B row e4 hg hr⟩) _) (ownFrom_below (Nat.le_refl _) hB0.size))
    ⟨fun x hx => by simp at hx, Below.refl _ _⟩
    (fun x a' W => ∃ Bx, w.heap.size + 1 < Bx ∧ Box4 W Bx x.2 ∧ a' = { tmps := #[.slice (some ad) n cp, .string k, .int .i64 by_, undef, undef, .pointer (some ⟨w.heap.size, 0, none⟩), .pointer (some ⟨w.heap.size + 1, 0, none⟩), .int .i64 (m : Int), .bool true, undef, .pointer (some ⟨Bx, 0, none⟩),
      .tuple #[.int .i64 (m : Int), .bool true], .slice (some ad) n cp, .string k, .tuple #[.int .i64 (m : Int), .bool true], .int .i64 (m : Int), .bool true, .bool true, .slice (some ad) n cp, .int .i64 (m : Int), .pointer (some (ad.add (m * 2))), .pointer (some ⟨(ad.add (m * 2)).block, (ad.add (m * 2)).off + 1, none⟩), .slice p vs.length cap,
      .func (.func 87) #[] #[.pointer (some ⟨w1.heap.size, 0, none⟩)], .int .i64 (x.1 : Int), verV x.2, undef, undef, undef, undef, undef, undef], defers := [] })
    (fun x a' _ X Y row hs hg hr => by obtain ⟨Bx, h1, h2, h3⟩ := hs; exact ⟨Bx, h1, box4_own Bx (fun (_ : Unit) => x.2) () X Y row h2 hg (fun r e => (hr r e).2), h3⟩)
    ?assign ?body ?done ?stop
  case assign =>
    rintro l pre ⟨xi, xb, xm, xh, xn⟩ W K ⟨hp, hB⟩ hK
    simp only [verV]
    gi_wp2
    have hbx : Below W0.heap.size W (W.alloc (.cells #[.int .i64 xb, .bool xm, .bool xh, .int .i64 xn] 58)) := (Below.refl _ W).alloc hB.size _
    exact hK _ _ ((KeepsOthers.alloc _ _).from _) hbx ⟨hp, hB.trans hbx⟩ ⟨W.heap.size, by have := hB.size; omega, World.alloc_heap_new W _, rfl⟩
  case body =>
    rintro l pre ⟨xi, xb, xm, xh, xn⟩ a' W hl ⟨r, hr⟩ ⟨hp, hB⟩ ⟨Bx, hBx, bX, rfl⟩ hlt
    simp only [verV]
    have bR1 := bR0.below hB (by omega)
    have bY1 : Boxed W w.heap.size 3 (.int .i64 by_) := (hB.block _ (by omega)).trans bY0
    obtain ⟨x0, x1, x2, x3⟩ := bX.cells
    obtain ⟨y0, y1, y2, y3⟩ := bR1.cells
    obtain ⟨z0, z1, z2, z3⟩ := bR1.frozens
    have cY := bY1.cell
    have hB9 : Below w.heap.size w W := hB0.trans (hB.mono hB0.size)
    dsimp only at x0 x1 x2 x3
    gi_wp2
    · have hx : xb < by_ := by assumption
      exact ⟨(sets_keeps W _ _ _ _ _).from _, ⟨rfl, ⟨xb, xm, xh, xn⟩, ⟨pre, xi, rfl, hp, hx⟩, sets_box bR1 ⟨xb, xm, xh, xn⟩⟩, hB9.trans (sets_below (by omega))⟩
    · have hx : by_ ≤ xb := by assumption
      exact ⟨KeepsFrom.refl _ _, Below.refl _ _, hp.snoc hx, by rw [← hsz0]; exact hB⟩
  case done =>
    rintro D ys W hD rfl ⟨hne, hB⟩ hK
    have bR1 := bR0.below hB (by omega)
    obtain ⟨y0, y1, y2, y3⟩ := bR1.cells
    obtain ⟨z0, z1, z2, z3⟩ := bR1.frozens
    gi_wp2
    have hK' := (sets_keeps W (w.heap.size + 1) (.int .i64 (-1)) (.bool true) (.bool false) (.int .i64 0)).same D _ hK rfl
    have bF := sets_box bR1 noV
    have hB9 : Below w.heap.size w W := hB0.trans (hB.mono hB0.size)
    have hBs := hB9.trans (sets_below (W := W) (n := w.heap.size) (B := w.heap.size + 1) (a := .int .i64 (-1)) (b := .bool true) (c := .bool false) (d := .int .i64 0) (by omega))
    refine ⟨by simp, .inl ⟨_, _, rfl, run_takeDeferred hK', ?_⟩⟩
    have hD' : w.heap.size + 1 ≠ D := by have := bR1.lt; omega
    obtain ⟨c0, c1, c2, c3⟩ := Box4.cells (Box4.kept bF (grownBy_putObj' _ D (.deferred none)) (fun e => hD' (by cases e; rfl)))
    refine ⟨verV noV, ?_, .inl rfl, hBs.trans (belowK_b (w := w) (Nat.le_refl _) _ D _ _ (by have := hB0.size; omega) hK' rfl rfl)⟩
    exact results_box c0 c1 c2 c3
  case stop =>
    rintro D c pre W hD ⟨k, hk, rfl⟩ ⟨⟨rfl, v, hv, hcr⟩, hB⟩ hK
    gi_wp2
    refine ⟨by simp, .inl ⟨_, _, rfl, run_takeDeferred hK, ?_⟩⟩
    have hD' : w.heap.size + 1 ≠ D := by have := hB0.size; omega
    obtain ⟨c0, c1, c2, c3⟩ := Box4.cells (Box4.kept hcr (grownBy_putObj' _ D (.deferred none)) (fun e => hD' (by cases e; rfl)))
    exact ⟨verV v, results_box c0 c1 c2 c3, .inr ⟨k, v, hk, hv, rfl⟩, hB.trans (belowK_b (w := w) (Nat.le_refl _) W D _ _ (by have := hB0.size; omega) hK rfl rfl)⟩

/-! ### The contract -/
theorem rd_ver {w : World} {own : Nat → Prop} (v : Version) : Rd w own (verV v) (.agg v.enc) := by
  refine .agg _ _ rfl (fun j c hc => ?_) fun j d c hd hc => ?_
  · match j, hc with
    | 0, hc => simp at hc; subst hc; rfl
    | 1, hc => simp at hc; subst hc; rfl
    | 2, hc => simp at hc; subst hc; rfl
    | 3, hc => simp at hc; subst hc; rfl
  · match j, hd, hc with
    | 0, hd, hc => simp [Version.enc] at hc hd; subst hc hd; exact .v _
    | 1, hd, hc => simp [Version.enc] at hc hd; subst hc hd; exact .v _
    | 2, hd, hc => simp [Version.enc] at hc hd; subst hc hd; exact .v _
    | 3, hd, hc => simp [Version.enc] at hc hd; subst hc hd; exact .v _
theorem rd_vers {w : World} {own : Nat → Prop} {sv : Value} {vs : List Version} (h : Rd w own sv (encVs vs)) : Vers w.heap.size w sv vs := by
  unfold encVs at h
  generalize hr : vs.map Version.enc = rows at h
  generalize hd : D.sl 4 rows = d at h
  cases h with
  | v => cases hd
  | x => cases hd
  | agg => cases hd
  | nil a cap k =>
    cases hd
    have : vs = [] := by simpa using hr
    subst this
    exact ⟨a, cap, rfl, .inl rfl⟩
  | sl ad cap k rows f hb hs hcap hk hc h1 hr' =>
    cases hd
    subst hr
    refine ⟨some ad, cap, by simp, .inr ⟨ad, rfl, hs, fun i j v hi hj => ?_⟩⟩
    have hi' : (vs.map Version.enc)[i]? = some v.enc := by simp [hi]
    have hval : ∀ d, v.enc[j]? = some d → ∀ x, d = .v x → w.cell? (ad.add (i * 4 + j)) = some x := fun d hd x hx => by
      subst hx
      rw [hc i j _ _ hi' hd, rd_v (hr' i j _ _ hi' hd)]
    match j, hj with
    | 0, _ => exact hval _ rfl _ rfl
    | 1, _ => exact hval _ rfl _ rfl
    | 2, _ => exact hval _ rfl _ rfl
    | 3, _ => exact hval _ rfl _ rfl

theorem back_ge {b : Int} {vs : List Version} {k : Nat} (hk : k ≤ vs.length) (h : AllGe b (back vs k)) : ∀ v ∈ vs.drop (vs.length - k), b ≤ v.by_ := fun v hv => by
  obtain ⟨j, hj⟩ := List.getElem?_of_mem hv
  rw [List.getElem?_drop] at hj
  have hlt := (List.getElem?_eq_some_iff.1 hj).1
  have hmem : (vs.length - k + j, v) ∈ back vs k := by
    unfold back
    refine List.mem_map.2 ⟨k - 1 - j, by simp; omega, ?_⟩
    rw [show vs.length - 1 - (k - 1 - j) = vs.length - k + j by omega, hj]
    rfl
  exact h _ hmem
theorem hit_bvs {b : Int} {vs : List Version} {k : Nat} {v : Version} (hk : k ≤ vs.length) (h : Hit b (back vs k) v) : bvs true b noV vs = v := by
  obtain ⟨ini, i, h1, h2, h3⟩ := h
  cases k with
  | zero => simp [back] at h1
  | succ k =>
    rw [back_succ] at h1
    obtain ⟨rfl, h5⟩ := List.append_inj' h1 rfl
    simp only [List.cons.injEq, Prod.mk.injEq, and_true] at h5
    obtain ⟨rfl, h5⟩ := h5
    have hlt : vs.length - 1 - k < vs.length := by omega
    have hv : vs[vs.length - 1 - k]? = some v := by
      rw [List.getElem?_eq_getElem hlt] at h5 ⊢
      simpa using h5
    have hge := back_ge (by omega) h2
    rw [split_at hv, bvs_append]
    simp only [bvs]
    rw [if_pos (by simpa using h3), show vs.length - 1 - k + 1 = vs.length - k by omega, bvs_ge hge]

theorem isAt_some {l : List Chain} {k : Str} {m : Nat} (h : isAt l k m = true) : ∃ c, l[m]? = some c ∧ c.key = k := by
  unfold isAt isAtK at h
  split at h
  · next c hc => exact ⟨c, hc, of_decide_eq_true h⟩
  · cases h

theorem ok_pbefore (l : List Chain) (k : Str) (b : Int) (hl : l.length ≤ 268435456) (hv : ∀ c ∈ l, c.vs.length ≤ 268435456) (hs : Srt Chain.key l) :
    FnOk Tryz.prog 37 [.d (encChains l), .d (dstr k), .d (dint b)] (.one (.agg (before l k b).enc)) := by
  obtain ⟨m, hm⟩ := hs.at k
  have hf := ok_find l k m hl hm
  cases hb : isAt l k m with
  | false =>
    refine fnOk_of tbl_ok mixed_ok Tryz.func37 rfl (by kernel_rfl) rfl rfl fun w0 own0 => ?_
    rw [hb] at hf
    rw [before_no hs hm hb]
    repeat (first | ((with_reducible apply s1); exact rfl) | (with_reducible first | apply CW.seq | apply CW.block | apply CW.region | apply CW.draw | apply CW.skip | apply CW.exit | apply CW.ret | apply q_then | apply q_then_exit | apply q_then_ret | apply q_block | apply q_block_ret | apply q_block_hit | apply q_ret | apply q_end | apply q_loop_exit | apply q_loop_ret | apply q_loopT_exit | apply q_loopT_ret | apply RW.nil) | ((with_reducible apply s3); exact rfl; exact by_k) | ((with_reducible apply s2); exact rfl; exact by_k) | ((with_reducible apply s4); exact rfl) | ((with_reducible apply s5); (first | (focus ((with_reducible apply a_call); exact hf; exact rfl; (repeat (first | exact SubsE.nil | (apply SubsE.cons; exact rfl; (first | exact .d (.refl _) | exact .d (.nil _) | exact .agg rfl (.refl _) | exact .pd | exact .ptr rfl); (first | exact trivial | exact ⟨rfl, trivial⟩)))); done)) | exact by_oa); exact by_g) | ((with_reducible apply CW.cond_t); exact rfl; exact by_ks) | ((with_reducible apply CW.cond_f); exact rfl; exact by_ks) | ((with_reducible apply q_block_miss); exact rfl) | (refine And.intro (show chk [] [] _ _ = true by kernel_rfl) ?_))
    exact .one (.cell rfl rfl rfl rfl (.aggd (ds := noV.enc) rfl (.refl _)))
  | true =>
    obtain ⟨c, hc, hck⟩ := isAt_some hb
    rw [before_yes hs hc hck]
    refine ⟨⟨_, Tryz.func37, rfl, rfl⟩, fun w own vs hown ha => ?_⟩
    match vs, ha with
    | [x, y, z], ⟨h1, h2, h3, _⟩ =>
      obtain rfl : y = str k := rd_v h2
      obtain rfl : z = .int .i64 b := rd_v h3
      have hfc : ∀ W : World, w.heap.size ≤ W.heap.size → Below w.heap.size w W → Calls Tryz.prog 63 #[x, str k] W fun e W' => e = .returned (.tuple #[.int .i64 (m : Int), .bool true]) ∧ Below W.heap.size W W' := fun W hsz hB => by
        have h1' : Rd W own x (encChains l) := Rd.step (Ext.of_below hB) (fun b h => .inl h) h1
        refine (hf.calls W own [x, str k] (fun b hb => Nat.lt_of_lt_of_le (hown b hb) hsz) ⟨h1', Rd.v _, trivial⟩).mono fun e W' he => ?_
        obtain ⟨v, rfl, hB', vs, rfl, hsz', hr⟩ := he
        refine ⟨?_, hB'⟩
        obtain ⟨vl⟩ := vs
        match vl, hsz', hr with
        | [a, d], _, hr =>
          obtain rfl : a = .int .i64 (m : Int) := rd_v (hr 0 a (dint m) rfl rfl)
          obtain rfl : d = .bool (isAt l k m) := rd_v (hr 1 d (dbool (isAt l k m)) rfl rfl)
          rw [hb]
      have hcm : m < l.length := (List.getElem?_eq_some_iff.1 hc).1
      have hcv := hv c (List.mem_of_getElem? hc)
      have key : ∃ ad n cp sv, x = .slice (some ad) n cp ∧ m < n ∧ ad.block < w.heap.size ∧ w.cell? (ad.add (m * 2 + 1)) = some sv ∧ Rd w own sv (encVs c.vs) := by
        have h1' := h1
        unfold ArgOk encChains at h1'
        generalize hr : l.map Chain.enc = rows at h1'
        generalize hd : D.sl 2 rows = d at h1'
        cases h1' with
        | v => cases hd
        | x => cases hd
        | agg => cases hd
        | nil a cap k' =>
          cases hd
          have : l = [] := by simpa using hr
          subst this
          simp at hc
        | sl ad cap k' rows f hb' hsz hcap hk hcc h1c hr' =>
          cases hd
          subst hr
          have hi : (l.map Chain.enc)[m]? = some c.enc := by simp [hc]
          exact ⟨ad, _, cap, f m 1, rfl, by simpa using hcm, hsz, hcc m 1 _ _ hi rfl, hr' m 1 _ (encVs c.vs) hi rfl⟩
      obtain ⟨ad, n, cp, sv, rfl, hmn, had, hcell, hrd⟩ := key
      refine (before_raw m b ⟨k.toArray⟩ ad n cp sv c.vs w hmn had hcell (rd_vers hrd) hcv hfc).mono fun e W' ⟨he, hB⟩ => ?_
      rcases he with ⟨rfl, hall⟩ | ⟨i, v, hi, hh, rfl⟩
      · refine ⟨_, rfl, hB, ?_⟩
        have := back_ge (Nat.le_refl _) hall
        rw [Nat.sub_self, List.drop_zero] at this
        rw [bvs_ge this]
        exact rd_ver noV
      · refine ⟨_, rfl, hB, ?_⟩
        rw [hit_bvs hi hh]
        exact rd_ver v

end Go.Proofs.YtembfadhnkabhaaGreatDoor

/-! G17 -/
/-
  Contracts of the program's Needs and Ready.
-/
namespace Go.Proofs.YtembfadhnkabhaaGreatDoor
open Go.AX Go.RF

set_option maxRecDepth 100000
set_option maxHeartbeats 8000000

/-- What is not made is of deeds that are planned, from the base on. -/
def NB (e : Engine) : Prop := ∀ (at_ : Nat) (k : Str), (before e.chains k (e.base + at_)).made = false → e.base ≤ (before e.chains k (e.base + at_)).by_ ∧ (before e.chains k (e.base + at_)).by_ < e.base + at_

theorem ok_pneeds (e : Engine) (at_ : Nat) (d : Deed) (hs : e.Sm) (hd : e.deeds[at_]? = some d) (hn : d.reads.Nodup) (hk : Srt Chain.key e.chains) (hB : NB e) :
    FnOk Tryz.prog 26 [.d (.agg e.enc), .d (dint at_)] (.one (encInts (needs e at_ d))) := by
  refine fnOk_of tbl_ok mixed_ok Tryz.func26 rfl (by kernel_rfl) rfl rfl fun w0 own0 => ?_
  rw [← pneeds_eq (hB at_)]
  have hat := (List.getElem?_eq_some_iff.1 hd).1
  have hdl := hs.d
  have hbase := hs.b
  have hdd := hs.dd d (List.mem_of_getElem? hd)
  have ck := ok_pkeys d hn hdd.r hdd.w
  have hkl := keysD_len hdd
  have cb := fun k => ok_pbefore e.chains k (e.base + at_) (by have := hs.c; omega) (fun c h => by have := hs.v c h; omega) hk
  repeat (first | (with_reducible apply stop_reg 2) | ((with_reducible apply s1); exact rfl) | (with_reducible first | apply CW.seq | apply CW.block | apply CW.region | apply CW.draw | apply CW.skip | apply CW.exit | apply CW.ret | apply q_then | apply q_then_exit | apply q_then_ret | apply q_block | apply q_block_ret | apply q_block_hit | apply q_ret | apply q_end | apply q_loop_exit | apply q_loop_ret | apply q_loopT_exit | apply q_loopT_ret | apply RW.nil) | ((with_reducible apply s3); exact rfl; exact by_k) | ((with_reducible apply s2); exact rfl; exact by_k) | ((with_reducible apply s4); exact rfl) | ((with_reducible apply s5); (first | (focus ((with_reducible apply a_call); exact ck; exact rfl; (repeat (first | exact SubsE.nil | (apply SubsE.cons; exact rfl; (first | exact .d (.refl _) | exact .d (.nil _) | exact .agg rfl (.refl _) | exact .pd | exact .ptr rfl); (first | exact trivial | exact ⟨rfl, trivial⟩)))); done)) | exact by_oa); exact by_g) | ((with_reducible apply CW.cond_t); exact rfl; exact by_ks) | ((with_reducible apply CW.cond_f); exact rfl; exact by_ks) | ((with_reducible apply q_block_miss); exact rfl) | (refine And.intro (show chk [] [] _ _ = true by kernel_rfl) ?_))
  refine Stop.go (CW.stut (stut_promote (i := 5) 3 1) ⟨rfl, rfl, trivial⟩ ?_)
  repeat (first | ((with_reducible apply s1); exact rfl) | (with_reducible first | apply CW.seq | apply CW.block | apply CW.region | apply CW.draw | apply CW.skip | apply CW.exit | apply CW.ret | apply q_then | apply q_then_exit | apply q_then_ret | apply q_block | apply q_block_ret | apply q_block_hit | apply q_ret | apply q_end | apply q_loop_exit | apply q_loop_ret | apply q_loopT_exit | apply q_loopT_ret | apply RW.nil) | ((with_reducible apply s3); exact rfl; exact by_k) | ((with_reducible apply s2); exact rfl; exact by_k) | ((with_reducible apply s4); exact rfl) | ((with_reducible apply s5); (first | (focus ((with_reducible apply a_call); exact ck; exact rfl; (repeat (first | exact SubsE.nil | (apply SubsE.cons; exact rfl; (first | exact .d (.refl _) | exact .d (.nil _) | exact .agg rfl (.refl _) | exact .pd | exact .ptr rfl); (first | exact trivial | exact ⟨rfl, trivial⟩)))); done)) | exact by_oa); exact by_g) | ((with_reducible apply CW.cond_t); exact rfl; exact by_ks) | ((with_reducible apply CW.cond_f); exact rfl; exact by_ks) | ((with_reducible apply q_block_miss); exact rfl) | (refine And.intro (show chk [] [] _ _ = true by kernel_rfl) ?_))
  refine CW.loopT (fun t : Nat × List Int => [sd 1 (dint at_), sp 2 0, ob 0 e.enc, sd 4 (.v nilS), so 5 1 t.2.length, oa 1 3 1 (t.2.map encInt1), sd 14 (encStrs (keysD d)), sd 15 (dint (keysD d).length), sd 16 (dint t.1), nxt 2])
    (fun t => t.1 ≤ (keysD d).length ∧ t.2.length ≤ t.1 ∧ pneedsGo e.chains e.base (e.base + at_) t.2 ((keysD d).drop t.1) = pneedsGo e.chains e.base (e.base + at_) [] (keysD d)) (fun t => (keysD d).length - t.1) (0, []) ⟨by omega, by simp, rfl⟩ ?_ ?_
  ·
    exact by_less
  · rintro ⟨j, out⟩ ⟨hj, ho, hI⟩
    dsimp only at hj ho hI ⊢
    rcases drop_case hj with ⟨h1, h2⟩ | ⟨k, h1, h2, h3⟩
    · rw [h1] at hI
      simp only [pneedsGo] at hI
      have hsort := in_sort out (by omega)
      repeat (first | ((with_reducible apply s1); exact rfl) | (with_reducible first | apply CW.seq | apply CW.block | apply CW.region | apply CW.draw | apply CW.skip | apply CW.exit | apply CW.ret | apply q_then | apply q_then_exit | apply q_then_ret | apply q_block | apply q_block_ret | apply q_block_hit | apply q_ret | apply q_end | apply q_loop_exit | apply q_loop_ret | apply q_loopT_exit | apply q_loopT_ret | apply RW.nil) | ((with_reducible apply s3); exact rfl; exact by_k) | ((with_reducible apply s2); exact rfl; exact by_k) | ((with_reducible apply s4); exact rfl) | ((with_reducible apply s5); (first | (focus (with_reducible apply a_inplace); exact hsort; exact rfl; exact rfl; exact rfl; (focus first | exact rfl | (simp; done)); exact rfl) | exact by_oa); exact by_g) | ((with_reducible apply CW.cond_t); exact rfl; exact by_ks) | ((with_reducible apply CW.cond_f); exact rfl; exact by_ks) | ((with_reducible apply q_block_miss); exact rfl) | (refine And.intro (show chk [] [] _ _ = true by kernel_rfl) ?_))
      exact .one (.tmp rfl (.one (.own rfl (by simp [sorted]) (dle_eq (by unfold pneeds; rw [← hI]; rfl)))))
    · rw [h1] at hI
      simp only [pneedsGo] at hI
      have cbk := cb k
      have hBk := hB at_ k
      obtain ⟨⟨vb, vm, vh, vn⟩, hv⟩ : ∃ v, before e.chains k (e.base + at_) = v := ⟨_, rfl⟩
      rw [hv] at cbk hBk
      rw [hv] at hI
      dsimp only at hI hBk
      cases vm with
      | true =>
        rw [if_neg (by simp)] at hI
        repeat (first | ((with_reducible apply s1); exact rfl) | (with_reducible first | apply CW.seq | apply CW.block | apply CW.region | apply CW.draw | apply CW.skip | apply CW.exit | apply CW.ret | apply q_then | apply q_then_exit | apply q_then_ret | apply q_block | apply q_block_ret | apply q_block_hit | apply q_ret | apply q_end | apply q_loop_exit | apply q_loop_ret | apply q_loopT_exit | apply q_loopT_ret | apply RW.nil) | ((with_reducible apply s3); exact rfl; exact by_k) | ((with_reducible apply s2); exact rfl; exact by_k) | ((with_reducible apply s4); exact rfl) | ((with_reducible apply s5); (first | (focus ((with_reducible apply a_call); exact cbk; exact rfl; (repeat (first | exact SubsE.nil | (apply SubsE.cons; exact rfl; (first | exact .d (.refl _) | exact .d (.nil _) | exact .agg rfl (.refl _) | exact .pd | exact .ptr rfl); (first | exact trivial | exact ⟨rfl, trivial⟩)))); done)) | exact by_oa); exact by_g) | ((with_reducible apply CW.cond_t); exact rfl; exact by_ks) | ((with_reducible apply CW.cond_f); exact rfl; exact by_ks) | ((with_reducible apply q_block_miss); exact rfl) | (refine And.intro (show chk [] [] _ _ = true by kernel_rfl) ?_))
        refine q_loopT (j + 1, out) ⟨by dsimp only; omega, by dsimp only; omega, hI⟩ (by dsimp only; omega) ?_
        exact by_less
      | false =>
        obtain ⟨hB1, hB2⟩ := hBk rfl
        have cc := ok_containsI out (vb - e.base) (by omega)
        cases hc : isNum out (vb - e.base) with
        | true =>
          rw [hc] at cc hI
          rw [if_neg (by simp)] at hI
          repeat (first | ((with_reducible apply s1); exact rfl) | (with_reducible first | apply CW.seq | apply CW.block | apply CW.region | apply CW.draw | apply CW.skip | apply CW.exit | apply CW.ret | apply q_then | apply q_then_exit | apply q_then_ret | apply q_block | apply q_block_ret | apply q_block_hit | apply q_ret | apply q_end | apply q_loop_exit | apply q_loop_ret | apply q_loopT_exit | apply q_loopT_ret | apply RW.nil) | ((with_reducible apply s3); exact rfl; exact by_k) | ((with_reducible apply s2); exact rfl; exact by_k) | ((with_reducible apply s4); exact rfl) | ((with_reducible apply s5); (first | (focus ((with_reducible apply a_call); exact cbk; exact rfl; (repeat (first | exact SubsE.nil | (apply SubsE.cons; exact rfl; (first | exact .d (.refl _) | exact .d (.nil _) | exact .agg rfl (.refl _) | exact .pd | exact .ptr rfl); (first | exact trivial | exact ⟨rfl, trivial⟩)))); done)) | (focus ((with_reducible apply a_lend); exact cc; exact rfl; exact .plain rfl; (focus first | exact rfl | (simp; done) | (simp; omega)); (iterate 2 exact rfl); (repeat (first | exact SubsE.nil | (apply SubsE.cons; exact rfl; (first | exact .d (.refl _) | exact .d (.nil _) | exact .agg rfl (.refl _) | exact .pd | exact .ptr rfl); (first | exact trivial | exact ⟨rfl, trivial⟩)))); done)) | exact by_oa); exact by_g) | ((with_reducible apply CW.cond_t); exact rfl; exact by_ks) | ((with_reducible apply CW.cond_f); exact rfl; exact by_ks) | ((with_reducible apply q_block_miss); exact rfl) | (refine And.intro (show chk [] [] _ _ = true by kernel_rfl) ?_))
          refine q_loopT (j + 1, out) ⟨by dsimp only; omega, by dsimp only; omega, hI⟩ (by dsimp only; omega) ?_
          exact by_less
        | false =>
          rw [hc] at cc hI
          rw [if_pos ⟨rfl, rfl⟩] at hI
          repeat (first | ((with_reducible apply s1); exact rfl) | (with_reducible first | apply CW.seq | apply CW.block | apply CW.region | apply CW.draw | apply CW.skip | apply CW.exit | apply CW.ret | apply q_then | apply q_then_exit | apply q_then_ret | apply q_block | apply q_block_ret | apply q_block_hit | apply q_ret | apply q_end | apply q_loop_exit | apply q_loop_ret | apply q_loopT_exit | apply q_loopT_ret | apply RW.nil) | ((with_reducible apply s3); exact rfl; exact by_k) | ((with_reducible apply s2); exact rfl; exact by_k) | ((with_reducible apply s4); exact rfl) | ((with_reducible apply s5); (first | (focus ((with_reducible apply a_call); exact cbk; exact rfl; (repeat (first | exact SubsE.nil | (apply SubsE.cons; exact rfl; (first | exact .d (.refl _) | exact .d (.nil _) | exact .agg rfl (.refl _) | exact .pd | exact .ptr rfl); (first | exact trivial | exact ⟨rfl, trivial⟩)))); done)) | (focus ((with_reducible apply a_lend); exact cc; exact rfl; exact .plain rfl; (focus first | exact rfl | (simp; done) | (simp; omega)); (iterate 2 exact rfl); (repeat (first | exact SubsE.nil | (apply SubsE.cons; exact rfl; (first | exact .d (.refl _) | exact .d (.nil _) | exact .agg rfl (.refl _) | exact .pd | exact .ptr rfl); (first | exact trivial | exact ⟨rfl, trivial⟩)))); done)) | exact by_oa); exact by_g) | ((with_reducible apply CW.cond_t); exact rfl; exact by_ks) | ((with_reducible apply CW.cond_f); exact rfl; exact by_ks) | ((with_reducible apply q_block_miss); exact rfl) | (refine And.intro (show chk [] [] _ _ = true by kernel_rfl) ?_))
          refine q_loopT (j + 1, out ++ [vb - e.base]) ⟨by dsimp only; omega, by dsimp only; simp; omega, hI⟩ (by dsimp only; omega) ?_
          exact by_less

theorem ok_pready (e : Engine) (hs : e.Sm) (hl : e.state.length = e.deeds.length) (hn : ∀ d ∈ e.deeds, d.reads.Nodup) (hk : Srt Chain.key e.chains) (hB : NB e) :
    FnOk Tryz.prog 19 [.d (.agg e.enc)] (.one (encInts (ready e))) := by
  refine fnOk_of tbl_ok mixed_ok Tryz.func19 rfl (by kernel_rfl) rfl rfl fun w0 own0 => ?_
  have hd1 := hs.d
  repeat (first | ((with_reducible apply stop_at 2); exact rfl) | ((with_reducible apply s1); exact rfl) | (with_reducible first | apply CW.seq | apply CW.block | apply CW.region | apply CW.draw | apply CW.skip | apply CW.exit | apply CW.ret | apply q_then | apply q_then_exit | apply q_then_ret | apply q_block | apply q_block_ret | apply q_block_hit | apply q_ret | apply q_end | apply q_loop_exit | apply q_loop_ret | apply q_loopT_exit | apply q_loopT_ret | apply RW.nil) | ((with_reducible apply s3); exact rfl; exact by_k) | ((with_reducible apply s2); exact rfl; exact by_k) | ((with_reducible apply s4); exact rfl) | ((with_reducible apply s5); (first | exact by_oa); exact by_g) | ((with_reducible apply CW.cond_t); exact rfl; exact by_ks) | ((with_reducible apply CW.cond_f); exact rfl; exact by_ks) | ((with_reducible apply q_block_miss); exact rfl) | (refine And.intro (show chk [] [] _ _ = true by kernel_rfl) ?_))
  refine Stop.go (CW.stut (stut_promote (i := 3) 3 1) ⟨rfl, rfl, trivial⟩ ?_)
  repeat (first | ((with_reducible apply s1); exact rfl) | (with_reducible first | apply CW.seq | apply CW.block | apply CW.region | apply CW.draw | apply CW.skip | apply CW.exit | apply CW.ret | apply q_then | apply q_then_exit | apply q_then_ret | apply q_block | apply q_block_ret | apply q_block_hit | apply q_ret | apply q_end | apply q_loop_exit | apply q_loop_ret | apply q_loopT_exit | apply q_loopT_ret | apply RW.nil) | ((with_reducible apply s3); exact rfl; exact by_k) | ((with_reducible apply s2); exact rfl; exact by_k) | ((with_reducible apply s4); exact rfl) | ((with_reducible apply s5); (first | exact by_oa); exact by_g) | ((with_reducible apply CW.cond_t); exact rfl; exact by_ks) | ((with_reducible apply CW.cond_f); exact rfl; exact by_ks) | ((with_reducible apply q_block_miss); exact rfl) | (refine And.intro (show chk [] [] _ _ = true by kernel_rfl) ?_))
  refine CW.loopT (fun t : Nat × List Int => [sp 1 0, ob 0 e.enc, sd 2 (.v nilS), so 3 1 t.2.length, oa 1 3 1 (t.2.map encInt1), sd 7 (encInts e.state), sd 8 (dint e.state.length), sd 9 (dint t.1), nxt 2])
    (fun t => t.1 ≤ e.state.length ∧ t.2.length ≤ t.1 ∧ t.2 ++ readyGo e t.1 (e.state.drop t.1) = ready e) (fun t => e.state.length - t.1) (0, []) ⟨by omega, by simp, rfl⟩ ?_ ?_
  ·
    exact by_less
  · rintro ⟨i, out⟩ ⟨hi, ho, hI⟩
    dsimp only at hi ho hI ⊢
    rcases drop_case hi with ⟨h1, h2⟩ | ⟨s, h1, h2, h3⟩
    · rw [h1] at hI
      simp only [readyGo, List.append_nil] at hI
      repeat (first | ((with_reducible apply s1); exact rfl) | (with_reducible first | apply CW.seq | apply CW.block | apply CW.region | apply CW.draw | apply CW.skip | apply CW.exit | apply CW.ret | apply q_then | apply q_then_exit | apply q_then_ret | apply q_block | apply q_block_ret | apply q_block_hit | apply q_ret | apply q_end | apply q_loop_exit | apply q_loop_ret | apply q_loopT_exit | apply q_loopT_ret | apply RW.nil) | ((with_reducible apply s3); exact rfl; exact by_k) | ((with_reducible apply s2); exact rfl; exact by_k) | ((with_reducible apply s4); exact rfl) | ((with_reducible apply s5); (first | exact by_oa); exact by_g) | ((with_reducible apply CW.cond_t); exact rfl; exact by_ks) | ((with_reducible apply CW.cond_f); exact rfl; exact by_ks) | ((with_reducible apply q_block_miss); exact rfl) | (refine And.intro (show chk [] [] _ _ = true by kernel_rfl) ?_))
      exact .one (.tmp rfl (.one (.own rfl (by simp) (dle_eq (by rw [← hI]; rfl)))))
    · rw [h1] at hI
      simp only [readyGo] at hI
      obtain ⟨d, hd⟩ : ∃ d, e.deeds[i]? = some d := ⟨e.deeds[i]'(by omega), List.getElem?_eq_getElem (by omega)⟩
      have hna : needsAt e i = needs e i d := by unfold needsAt; rw [hd]
      rw [hna] at hI
      have cn := ok_pneeds e i d hs hd (hn d (List.mem_of_getElem? hd)) hk hB
      have hnl : (needs e i d).length ≤ 268435456 := by
        have := needs_len e.chains e.base (e.base + i) (keysD d) (List.range i) 0
        unfold needs
        simp at this
        omega
      by_cases h4 : s = 0
      · cases h5 : needs e i d with
        | nil =>
          rw [if_pos ⟨h4, h5⟩] at hI
          rw [h5] at cn
          repeat (first | ((with_reducible apply s1); exact rfl) | (with_reducible first | apply CW.seq | apply CW.block | apply CW.region | apply CW.draw | apply CW.skip | apply CW.exit | apply CW.ret | apply q_then | apply q_then_exit | apply q_then_ret | apply q_block | apply q_block_ret | apply q_block_hit | apply q_ret | apply q_end | apply q_loop_exit | apply q_loop_ret | apply q_loopT_exit | apply q_loopT_ret | apply RW.nil) | ((with_reducible apply s3); exact rfl; exact by_k) | ((with_reducible apply s2); exact rfl; exact by_k) | ((with_reducible apply s4); exact rfl) | ((with_reducible apply s5); (first | (focus ((with_reducible apply a_call); exact cn; exact rfl; (repeat (first | exact SubsE.nil | (apply SubsE.cons; exact rfl; (first | exact .d (.refl _) | exact .d (.nil _) | exact .agg rfl (.refl _) | exact .pd | exact .ptr rfl); (first | exact trivial | exact ⟨rfl, trivial⟩)))); done)) | exact by_oa); exact by_g) | ((with_reducible apply CW.cond_t); exact rfl; exact by_ks) | ((with_reducible apply CW.cond_f); exact rfl; exact by_ks) | ((with_reducible apply q_block_miss); exact rfl) | (refine And.intro (show chk [] [] _ _ = true by kernel_rfl) ?_))
          refine q_loopT (i + 1, out ++ [(i : Int)]) ⟨by dsimp only; omega, by dsimp only; simp; omega, by rw [← hI]; simp⟩ (by dsimp only; omega) ?_
          exact by_less
        | cons x l =>
          rw [if_neg (by rw [h5]; simp)] at hI
          rw [h5] at cn hnl
          have hne : ¬ ((x :: l).length : Int) = 0 := by simp; omega
          repeat (first | ((with_reducible apply s1); exact rfl) | (with_reducible first | apply CW.seq | apply CW.block | apply CW.region | apply CW.draw | apply CW.skip | apply CW.exit | apply CW.ret | apply q_then | apply q_then_exit | apply q_then_ret | apply q_block | apply q_block_ret | apply q_block_hit | apply q_ret | apply q_end | apply q_loop_exit | apply q_loop_ret | apply q_loopT_exit | apply q_loopT_ret | apply RW.nil) | ((with_reducible apply s3); exact rfl; exact by_k) | ((with_reducible apply s2); exact rfl; exact by_k) | ((with_reducible apply s4); exact rfl) | ((with_reducible apply s5); (first | (focus ((with_reducible apply a_call); exact cn; exact rfl; (repeat (first | exact SubsE.nil | (apply SubsE.cons; exact rfl; (first | exact .d (.refl _) | exact .d (.nil _) | exact .agg rfl (.refl _) | exact .pd | exact .ptr rfl); (first | exact trivial | exact ⟨rfl, trivial⟩)))); done)) | exact by_oa); exact by_g) | ((with_reducible apply CW.cond_t); exact rfl; exact by_ks) | ((with_reducible apply CW.cond_f); exact rfl; exact by_ks) | ((with_reducible apply q_block_miss); exact rfl) | (refine And.intro (show chk [] [] _ _ = true by kernel_rfl) ?_))
          refine q_loopT (i + 1, out) ⟨by dsimp only; omega, by dsimp only; omega, hI⟩ (by dsimp only; omega) ?_
          exact by_less
      · rw [if_neg (fun e => h4 e.1)] at hI
        repeat (first | ((with_reducible apply s1); exact rfl) | (with_reducible first | apply CW.seq | apply CW.block | apply CW.region | apply CW.draw | apply CW.skip | apply CW.exit | apply CW.ret | apply q_then | apply q_then_exit | apply q_then_ret | apply q_block | apply q_block_ret | apply q_block_hit | apply q_ret | apply q_end | apply q_loop_exit | apply q_loop_ret | apply q_loopT_exit | apply q_loopT_ret | apply RW.nil) | ((with_reducible apply s3); exact rfl; exact by_k) | ((with_reducible apply s2); exact rfl; exact by_k) | ((with_reducible apply s4); exact rfl) | ((with_reducible apply s5); (first | exact by_oa); exact by_g) | ((with_reducible apply CW.cond_t); exact rfl; exact by_ks) | ((with_reducible apply CW.cond_f); exact rfl; exact by_ks) | ((with_reducible apply q_block_miss); exact rfl) | (refine And.intro (show chk [] [] _ _ = true by kernel_rfl) ?_))
        refine q_loopT (i + 1, out) ⟨by dsimp only; omega, by dsimp only; omega, hI⟩ (by dsimp only; omega) ?_
        exact by_less

end Go.Proofs.YtembfadhnkabhaaGreatDoor

/-! G9 -/
/-
  Contract of the program's Add of chains.
-/
namespace Go.Proofs.YtembfadhnkabhaaGreatDoor
open Go.AX Go.RF

set_option maxRecDepth 100000
set_option maxHeartbeats 8000000

theorem kept_back (l : List Chain) (m : Nat) (c : Chain) (x : Value) (hc : l[m]? = some c) : D.sl 2 ((keptRows l m c x).set m ([dstr c.key, D.v x].set 1 (.sl 4 (c.vs.map Version.enc)))) = encChains l := by
  have hlt := (List.getElem?_eq_some_iff.1 hc).1
  unfold keptRows encChains
  rw [List.set_set]
  congr 1
  apply List.ext_getElem?
  intro j
  by_cases hj : m = j
  · subst hj
    rw [List.getElem?_set_self (by simpa using hlt)]
    simp [hc]; rfl
  · rw [List.getElem?_set_ne hj]
theorem kept_at (l : List Chain) (m : Nat) (c : Chain) (x : Value) (hc : l[m]? = some c) : (keptRows l m c x)[m]? = some [dstr c.key, D.v x] := by
  have hlt := (List.getElem?_eq_some_iff.1 hc).1
  unfold keptRows
  rw [List.getElem?_set_self (by simpa using hlt)]
theorem kept_set (l : List Chain) (m : Nat) (c : Chain) (x : Value) (vs : List Version) : (keptRows l m c x).set m [dstr c.key, encVs vs] = (l.set m ⟨c.key, vs⟩).map Chain.enc := by
  unfold keptRows
  rw [List.set_set, List.map_set]
  rfl

end Go.Proofs.YtembfadhnkabhaaGreatDoor

/-! G10 -/
/-
  Contract of the program's Set of chains.
-/
namespace Go.Proofs.YtembfadhnkabhaaGreatDoor
open Go.AX Go.RF

set_option maxRecDepth 100000
set_option maxHeartbeats 8000000

theorem setV_false (v w : Version) : setV false v w = w := by simp [setV]
theorem setC_ne {k : Str} {v : Version} {c : Chain} (h : c.key ≠ k) : setC k v c = c := by
  unfold setC
  rw [decide_eq_false h]
  have : c.vs.map (setV false v) = c.vs := by
    rw [show setV false v = id from funext fun w => setV_false v w]; simp
  rw [this]
theorem set_found {k : Str} {v : Version} {l : List Chain} {m : Nat} {c : Chain} (hs : Srt Chain.key l) (hc : l[m]? = some c) (hk : c.key = k) : setChains l k v = l.set m ⟨c.key, c.vs.map (setV true v)⟩ := by
  apply List.ext_getElem?
  intro j
  unfold setChains
  rw [List.getElem?_map]
  by_cases hj : m = j
  · subst hj
    rw [List.getElem?_set_self (List.getElem?_eq_some_iff.1 hc).1, hc]
    simp [setC, hk]
  · rw [List.getElem?_set_ne hj]
    cases hd : l[j]? with
    | none => rfl
    | some d =>
      have : d.key ≠ k := by rw [← hk]; exact hs.ne hd hc fun e => hj e.symm
      simp [setC_ne this]
theorem set_none {k : Str} {v : Version} {l : List Chain} {m : Nat} (hs : Srt Chain.key l) (hm : AtK Chain.key l k m) (hn : isAtK Chain.key l k m = false) : setChains l k v = l := by
  have key : ∀ c ∈ l, setC k v c = c := fun c hc => setC_ne fun e => by
    obtain ⟨j, hj⟩ := List.getElem?_of_mem hc
    rcases Nat.lt_trichotomy j m with h | h | h
    · have := hm.lt j c hj h
      rw [e, slt_irrefl] at this; cases this
    · subst h
      rw [isAtK, hj] at hn
      simp [e] at hn
    · have hml : m < l.length := by have := (List.getElem?_eq_some_iff.1 hj).1; omega
      have hme : l[m]? = some l[m] := List.getElem?_eq_getElem hml
      have h1 := hm.ge m l[m] hme (Nat.le_refl _)
      have h2 := hs.lt hme hj h
      rw [e, h1] at h2; cases h2
  unfold setChains
  conv => rhs; rw [← List.map_id l]
  exact List.map_congr_left key

def midV (v : Version) (vs : List Version) (i : Nat) : List Version := (vs.take i).map (setV true v) ++ vs.drop i
theorem midV_at {v : Version} {vs : List Version} {i : Nat} {x : Version} (h : vs[i]? = some x) : ((midV v vs i).map Version.enc)[i]? = some x.enc ∧ ((midV v vs i).map Version.enc).set i (setV true v x).enc = (midV v vs (i + 1)).map Version.enc := by
  have hlt := (List.getElem?_eq_some_iff.1 h).1
  have h1 : vs.drop i = x :: vs.drop (i + 1) := by
    have := List.drop_eq_getElem_cons hlt
    rw [(List.getElem?_eq_some_iff.1 h).2] at this
    exact this
  have h2 : vs.take (i + 1) = vs.take i ++ [x] := by rw [List.take_add_one, h]; rfl
  have hl : ((vs.take i).map (setV true v)).length = i := by simp; omega
  unfold midV
  constructor
  · rw [List.map_append, List.getElem?_append_right (by simp; omega), h1]
    simp [Nat.min_eq_left (Nat.le_of_lt hlt)]
  · rw [h1, h2, List.map_append, List.set_append_right _ _ (by simp; omega)]
    simp [Nat.min_eq_left (Nat.le_of_lt hlt)]

theorem ok_pset (l : List Chain) (k : Str) (v : Version) (hl : l.length ≤ 268435455) (hv : ∀ c ∈ l, c.vs.length ≤ 268435455) (hs : Srt Chain.key l) :
    FnOk Tryz.prog 39 [.d (encChains l), .d (dstr k), .d (.agg v.enc)] (.one (encChains (setChains l k v))) := by
  refine fnOk_of tbl_ok mixed_ok Tryz.func39 rfl (by kernel_rfl) rfl rfl fun w0 own0 => ?_
  obtain ⟨m, hm⟩ := hs.at k
  have hml := hm.le
  have hf := ok_find l k m (by omega) hm
  have hvv : ∀ c ∈ l, c.vs.length ≤ 268435456 := fun c hc => by have := hv c hc; omega
  cases hb : isAt l k m with
  | true =>
    obtain ⟨c, hc, hck⟩ := isAt_some hb
    rw [hb] at hf
    have hmlt := (List.getElem?_eq_some_iff.1 hc).1
    have hcv := hv c (List.mem_of_getElem? hc)
    rw [set_found hs hc hck]
    have ho2 := own2_chain l m c hc (by omega) hvv
    repeat (first | (with_reducible apply stop_reg 1) | ((with_reducible apply s1); exact rfl) | (with_reducible first | apply CW.seq | apply CW.block | apply CW.region | apply CW.draw | apply CW.skip | apply CW.exit | apply CW.ret | apply q_then | apply q_then_exit | apply q_then_ret | apply q_block | apply q_block_ret | apply q_block_hit | apply q_ret | apply q_end | apply q_loop_exit | apply q_loop_ret | apply q_loopT_exit | apply q_loopT_ret | apply RW.nil) | ((with_reducible apply s3); exact rfl; exact by_k) | ((with_reducible apply s2); exact rfl; exact by_k) | ((with_reducible apply s4); exact rfl) | ((with_reducible apply s5); (first | exact by_oa); exact by_g) | ((with_reducible apply CW.cond_t); exact rfl; exact by_ks) | ((with_reducible apply CW.cond_f); exact rfl; exact by_ks) | ((with_reducible apply q_block_miss); exact rfl) | (refine And.intro (show chk [] [] _ _ = true by kernel_rfl) ?_))
    refine Stop.go (CW.seq (CW.regionS ?_))
    repeat (first | ((with_reducible apply SW.s1); exact rfl) | ((with_reducible apply SW.s5); exact by_oa; exact rfl))
    refine SW.fam rfl (fam_own2 (nx := 1) ho2 rfl rfl (.cons rfl (.d (.refl _)) trivial .nil)) fun x => ?_
    refine SW.rw ?_
    have hkl : (keptRows l m c x).length = l.length := by simp [keptRows]
    have hrow := kept_at l m c x hc
    rw [← kept_back l m c x hc] at hf
    repeat (first | (with_reducible apply stop_reg 4) | ((with_reducible apply s1); exact rfl) | (with_reducible first | apply CW.seq | apply CW.block | apply CW.region | apply CW.draw | apply CW.skip | apply CW.exit | apply CW.ret | apply q_then | apply q_then_exit | apply q_then_ret | apply q_block | apply q_block_ret | apply q_block_hit | apply q_ret | apply q_end | apply q_loop_exit | apply q_loop_ret | apply q_loopT_exit | apply q_loopT_ret | apply RW.nil) | ((with_reducible apply s3); exact rfl; exact by_k) | ((with_reducible apply s2); exact rfl; exact by_k) | ((with_reducible apply s4); exact rfl) | ((with_reducible apply s5); (first | (focus (with_reducible apply a_lend); exact hf; exact rfl; exact .pin (id2 := 2) rfl hrow rfl rfl; exact rfl; exact rfl; exact rfl; apply SubsE.cons; exact rfl; exact .d (.refl _); exact trivial; exact SubsE.nil) | exact by_oa); exact by_g) | ((with_reducible apply CW.cond_t); exact rfl; exact by_ks) | ((with_reducible apply CW.cond_f); exact rfl; exact by_ks) | ((with_reducible apply q_block_miss); exact rfl) | (refine And.intro (show chk [] [] _ _ = true by kernel_rfl) ?_))
    refine Stop.go (CW.fact (pin_slice (id := 2) rfl) ?_)
    rintro ⟨p, cp, rfl⟩
    have hmk : m < (keptRows l m c (.slice p (c.vs.map Version.enc).length cp)).length := by omega
    repeat (first | ((with_reducible apply s1); exact rfl) | (with_reducible first | apply CW.seq | apply CW.block | apply CW.region | apply CW.draw | apply CW.skip | apply CW.exit | apply CW.ret | apply q_then | apply q_then_exit | apply q_then_ret | apply q_block | apply q_block_ret | apply q_block_hit | apply q_ret | apply q_end | apply q_loop_exit | apply q_loop_ret | apply q_loopT_exit | apply q_loopT_ret | apply RW.nil) | ((with_reducible apply s3); exact rfl; exact by_k) | ((with_reducible apply s2); exact rfl; exact by_k) | ((with_reducible apply s4); exact rfl) | ((with_reducible apply s5); (first | ((with_reducible apply a_lenv); (iterate 4 exact rfl)) | exact by_oa); exact by_g) | ((with_reducible apply CW.cond_t); exact rfl; exact by_ks) | ((with_reducible apply CW.cond_f); exact rfl; exact by_ks) | ((with_reducible apply q_block_miss); exact rfl) | (refine And.intro (show chk [] [] _ _ = true by kernel_rfl) ?_))
    have hvl : (c.vs.map Version.enc).length = c.vs.length := by simp
    rw [hvl] at hrow hmk hkl ⊢
    generalize hx : Value.slice p c.vs.length cp = x at hrow hmk hkl ⊢
    refine CW.loopT (fun t : Nat => [sp 5 0, ob 0 v.enc, so 7 1 (keptRows l m c x).length, oa 1 56 2 (keptRows l m c x), (.o 2, .ob (.pin 58 4 ((midV v c.vs t).map Version.enc) x)), sd 8 (dint m), sd 25 (dint c.vs.length), sd 26 (dint t), nxt 3])
      (fun t => t ≤ c.vs.length) (fun t => c.vs.length - t) 0 (Nat.zero_le _) ?_ ?_
    ·
      exact by_less
    · rintro t ht
      rcases drop_case ht with ⟨h1, h2⟩ | ⟨y, h1, h2, h3⟩
      · subst h2
        have hmid : midV v c.vs c.vs.length = c.vs.map (setV true v) := by simp [midV]
        rw [hmid]
        repeat (first | (with_reducible apply stop_reg 10) | ((with_reducible apply s1); exact rfl) | (with_reducible first | apply CW.seq | apply CW.block | apply CW.region | apply CW.draw | apply CW.skip | apply CW.exit | apply CW.ret | apply q_then | apply q_then_exit | apply q_then_ret | apply q_block | apply q_block_ret | apply q_block_hit | apply q_ret | apply q_end | apply q_loop_exit | apply q_loop_ret | apply q_loopT_exit | apply q_loopT_ret | apply RW.nil) | ((with_reducible apply s3); exact rfl; exact by_k) | ((with_reducible apply s2); exact rfl; exact by_k) | ((with_reducible apply s4); exact rfl) | ((with_reducible apply s5); (first | exact by_oa); exact by_g) | ((with_reducible apply CW.cond_t); exact rfl; exact by_ks) | ((with_reducible apply CW.cond_f); exact rfl; exact by_ks) | ((with_reducible apply q_block_miss); exact rfl) | (refine And.intro (show chk [] [] _ _ = true by kernel_rfl) ?_))
        refine Stop.go (CW.stut (stut_fold (id := 1) (id2 := 2) (j := 1) hrow rfl) ⟨rfl, rfl, trivial⟩ ?_)
        repeat (first | ((with_reducible apply s1); exact rfl) | (with_reducible first | apply CW.seq | apply CW.block | apply CW.region | apply CW.draw | apply CW.skip | apply CW.exit | apply CW.ret | apply q_then | apply q_then_exit | apply q_then_ret | apply q_block | apply q_block_ret | apply q_block_hit | apply q_ret | apply q_end | apply q_loop_exit | apply q_loop_ret | apply q_loopT_exit | apply q_loopT_ret | apply RW.nil) | ((with_reducible apply s3); exact rfl; exact by_k) | ((with_reducible apply s2); exact rfl; exact by_k) | ((with_reducible apply s4); exact rfl) | ((with_reducible apply s5); (first | exact by_oa); exact by_g) | ((with_reducible apply CW.cond_t); exact rfl; exact by_ks) | ((with_reducible apply CW.cond_f); exact rfl; exact by_ks) | ((with_reducible apply q_block_miss); exact rfl) | (refine And.intro (show chk [] [] _ _ = true by kernel_rfl) ?_))
        refine .one (.tmp rfl (.one (.own rfl (by simp) (dle_eq ?_))))
        exact congrArg _ (kept_set l m c x (c.vs.map (setV true v)))
      · obtain ⟨hat, hset⟩ := midV_at (v := v) h2
        have hne : (midV v c.vs t).map Version.enc ≠ [] := by
          intro e
          have := congrArg List.length e
          simp [midV] at this
          omega
        refine CW.fact (pin_shape (id := 2) rfl hne) ?_
        rintro ⟨b, cp', hxe⟩
        have hml2 : ((midV v c.vs t).map Version.enc).length = c.vs.length := by simp [midV]; omega
        rw [hml2] at hxe
        subst hxe
        by_cases h4 : y.by_ = v.by_
        · have hsv : setV true v y = v := by simp [setV, h4]
          rw [hsv] at hset
          repeat (first | ((with_reducible apply s1); exact rfl) | (with_reducible first | apply CW.seq | apply CW.block | apply CW.region | apply CW.draw | apply CW.skip | apply CW.exit | apply CW.ret | apply q_then | apply q_then_exit | apply q_then_ret | apply q_block | apply q_block_ret | apply q_block_hit | apply q_ret | apply q_end | apply q_loop_exit | apply q_loop_ret | apply q_loopT_exit | apply q_loopT_ret | apply RW.nil) | ((with_reducible apply s3); exact rfl; exact by_k) | ((with_reducible apply s2); exact rfl; exact by_k) | ((with_reducible apply s4); exact rfl) | ((with_reducible apply s5); (first | ((with_reducible apply a_iav); (iterate 5 exact rfl); omega) | ((with_reducible apply a_fav); (iterate 4 exact rfl)) | ((with_reducible apply (a_lpin 2 t 0)); (iterate 4 exact rfl); exact hat; exact rfl; (first | rfl | omega)) | ((with_reducible apply (a_spin 2 t 0)); (iterate 6 exact rfl); exact hat; exact rfl; (first | rfl | omega)) | exact by_oa); exact by_g) | ((with_reducible apply CW.cond_t); exact rfl; exact by_ks) | ((with_reducible apply CW.cond_f); exact rfl; exact by_ks) | ((with_reducible apply q_block_miss); exact rfl) | (refine And.intro (show chk [] [] _ _ = true by kernel_rfl) ?_))
          refine q_loopT (t + 1) (by omega) (by omega) ?_
          dsimp only
          rw [← hset]
          exact by_less
        · have hsv : setV true v y = y := by unfold setV; rw [if_neg (by simpa using h4)]
          rw [hsv] at hset
          have hset2 : (midV v c.vs t).map Version.enc = (midV v c.vs (t + 1)).map Version.enc := by
            rw [← hset]
            refine (List.ext_getElem? fun j => ?_)
            by_cases hj : t = j
            · subst hj
              rw [List.getElem?_set_self (by rw [hml2]; exact (List.getElem?_eq_some_iff.1 h2).1), hat]
            · rw [List.getElem?_set_ne hj]
          repeat (first | ((with_reducible apply s1); exact rfl) | (with_reducible first | apply CW.seq | apply CW.block | apply CW.region | apply CW.draw | apply CW.skip | apply CW.exit | apply CW.ret | apply q_then | apply q_then_exit | apply q_then_ret | apply q_block | apply q_block_ret | apply q_block_hit | apply q_ret | apply q_end | apply q_loop_exit | apply q_loop_ret | apply q_loopT_exit | apply q_loopT_ret | apply RW.nil) | ((with_reducible apply s3); exact rfl; exact by_k) | ((with_reducible apply s2); exact rfl; exact by_k) | ((with_reducible apply s4); exact rfl) | ((with_reducible apply s5); (first | ((with_reducible apply a_iav); (iterate 5 exact rfl); omega) | ((with_reducible apply a_fav); (iterate 4 exact rfl)) | ((with_reducible apply (a_lpin 2 t 0)); (iterate 4 exact rfl); exact hat; exact rfl; (first | rfl | omega)) | exact by_oa); exact by_g) | ((with_reducible apply CW.cond_t); exact rfl; exact by_ks) | ((with_reducible apply CW.cond_f); exact rfl; exact by_ks) | ((with_reducible apply q_block_miss); exact rfl) | (refine And.intro (show chk [] [] _ _ = true by kernel_rfl) ?_))
          refine q_loopT (t + 1) (by omega) (by omega) ?_
          rw [hset2]
          exact by_less
  | false =>
    rw [hb] at hf
    have hn := new_chainOwn l (by omega) hvv
    rw [set_none hs hm hb]
    repeat (first | ((with_reducible apply s1); exact rfl) | (with_reducible first | apply CW.seq | apply CW.block | apply CW.region | apply CW.draw | apply CW.skip | apply CW.exit | apply CW.ret | apply q_then | apply q_then_exit | apply q_then_ret | apply q_block | apply q_block_ret | apply q_block_hit | apply q_ret | apply q_end | apply q_loop_exit | apply q_loop_ret | apply q_loopT_exit | apply q_loopT_ret | apply RW.nil) | ((with_reducible apply s3); exact rfl; exact by_k) | ((with_reducible apply s2); exact rfl; exact by_k) | ((with_reducible apply s4); exact rfl) | ((with_reducible apply s5); (first | (focus ((with_reducible apply a_callnew); exact hn; (iterate 2 exact rfl); (repeat (first | exact SubsE.nil | (apply SubsE.cons; exact rfl; (first | exact .d (.refl _) | exact .d (.nil _) | exact .agg rfl (.refl _) | exact .pd | exact .ptr rfl); (first | exact trivial | exact ⟨rfl, trivial⟩)))); done)) | (focus ((with_reducible apply a_lend); exact hf; exact rfl; exact .plain rfl; (focus first | exact rfl | (simp; done) | (simp; omega)); (iterate 2 exact rfl); (repeat (first | exact SubsE.nil | (apply SubsE.cons; exact rfl; (first | exact .d (.refl _) | exact .d (.nil _) | exact .agg rfl (.refl _) | exact .pd | exact .ptr rfl); (first | exact trivial | exact ⟨rfl, trivial⟩)))); done)) | exact by_oa); exact by_g) | ((with_reducible apply CW.cond_t); exact rfl; exact by_ks) | ((with_reducible apply CW.cond_f); exact rfl; exact by_ks) | ((with_reducible apply q_block_miss); exact rfl) | (refine And.intro (show chk [] [] _ _ = true by kernel_rfl) ?_))
    exact .one (.tmp rfl (.one (.own rfl (by simp) (.refl _))))

end Go.Proofs.YtembfadhnkabhaaGreatDoor

/-! G19 -/
/-
  Contract of the program's Go of engines.
-/
namespace Go.Proofs.YtembfadhnkabhaaGreatDoor
open Go.AX Go.RF

set_option maxRecDepth 100000
set_option maxHeartbeats 8000000

/-- The last of what was made of a key, or else what it was. -/
def pickV (k : Str) : Version → List (Str × (Bool × Int)) → Version
  | v, [] => v
  | v, c :: r => pickV k (if c.1 = k then chVer c else v) r
def madeV (cs : List Chain) (b : Int) (ch : List (Str × (Bool × Int))) (k : Str) : Version := ⟨b, true, (pickV k (before cs k b) ch).has, (pickV k (before cs k b) ch).n⟩
def pgoSets (cs0 : List Chain) (b : Int) (ch : List (Str × (Bool × Int))) : List Chain → List Str → List Chain
  | cs, [] => cs
  | cs, k :: ks => pgoSets cs0 b ch (setChains cs k (madeV cs0 b ch k)) ks
def viewE (cs : List Chain) (b : Int) (k : Str) : Int × Bool := ((before cs k b).n, (before cs k b).has)
def pgoNew (e : Engine) (A : Nat) (d : Deed) : Engine :=
  ⟨pgoSets e.chains (e.base + A) (runC (viewE e.chains (e.base + A)) d) e.chains d.writes, e.deeds, e.state.set A 1, e.ends.set A (runM (viewE e.chains (e.base + A)) d).2, e.base⟩

theorem ok_viewE (e : Engine) (b : Int) (k : Str) (hs : e.Sm) (hk : Srt Chain.key e.chains) : FnOk Tryz.prog 36 [.d (dstr k), .pd e.enc, .pd [dint b]] (.tup [dint (viewE e.chains b k).1, dbool (viewE e.chains b k).2]) := by
  refine fnOk_of tbl_ok mixed_ok Tryz.func36 rfl (by kernel_rfl) rfl rfl fun w0 own0 => ?_
  have c1 := ok_pbefore e.chains k b (by have := hs.c; omega) (fun c h => by have := hs.v c h; omega) hk
  unfold viewE
  obtain ⟨⟨vb, vm, vh, vn⟩, hv⟩ : ∃ v, before e.chains k b = v := ⟨_, rfl⟩
  rw [hv] at c1 ⊢
  repeat (first | ((with_reducible apply s1); exact rfl) | (with_reducible first | apply CW.seq | apply CW.block | apply CW.region | apply CW.draw | apply CW.skip | apply CW.exit | apply CW.ret | apply q_then | apply q_then_exit | apply q_then_ret | apply q_block | apply q_block_ret | apply q_block_hit | apply q_ret | apply q_end | apply q_loop_exit | apply q_loop_ret | apply q_loopT_exit | apply q_loopT_ret | apply RW.nil) | ((with_reducible apply s3); exact rfl; exact by_k) | ((with_reducible apply s2); exact rfl; exact by_k) | ((with_reducible apply s4); exact rfl) | ((with_reducible apply s5); (first | (focus ((with_reducible apply a_call); exact c1; exact rfl; (repeat (first | exact SubsE.nil | (apply SubsE.cons; exact rfl; (first | exact .d (.refl _) | exact .d (.nil _) | exact .agg rfl (.refl _) | exact .pd | exact .ptr rfl); (first | exact trivial | exact ⟨rfl, trivial⟩)))); done)) | exact by_oa); exact by_g) | ((with_reducible apply CW.cond_t); exact rfl; exact by_ks) | ((with_reducible apply CW.cond_f); exact rfl; exact by_ks) | ((with_reducible apply q_block_miss); exact rfl) | (refine And.intro (show chk [] [] _ _ = true by kernel_rfl) ?_))
  exact .two (.tmp rfl (.one (.d (.refl _)))) (.tmp rfl (.one (.d (.refl _))))

theorem pgo_loop (e : Engine) (A : Nat) (d : Deed) (hs : e.Sm) (hd : e.deeds[A]? = some d) (hst : e.state.length = e.deeds.length) (hen : e.ends.length = e.deeds.length) (hk : Srt Chain.key e.chains)
    (hw : wrongDeed d = 0) (hch : chOk e.chains) (N : Int) (hb : ∀ c ∈ e.chains, VSrt c.vs ∧ ∀ v ∈ c.vs, v.by_ < N) (hne : needs e A d = []) (s : Int) (hsA : e.state[A]? = some s) (hs1 : ¬ s = 1) (hn : FnOk Tryz.prog 26 [.d (.agg e.enc), .d (dint A)] (.one (encInts []))) :
    FnOk Tryz.prog 20 [.d (.agg e.enc), .d (dint A)] (.tup [.agg (pgoNew e A d).enc, dint 0]) := by
  refine fnOk_of tbl_ok mixed_ok Tryz.func20 rfl (by kernel_rfl) rfl rfl fun w0 own0 => ?_
  have hA := (List.getElem?_eq_some_iff.1 hd).1
  have hdl := hs.d
  have hbase := hs.b
  have hcl := hs.c
  have ho := wrongDeed_ok hw
  have hwl := ho.w
  have co := news_planOwn e hs
  have cr := ok_run 36 [refD e.enc, refD [dint (e.base + A)]] [.pd e.enc, .pd [dint (e.base + A)]] (viewE e.chains (e.base + A)) d (.ref (.ref .nil)) (fun k _ => ok_viewE e (e.base + A) k hs hk)
    (fun k _ => before_ok hch k _) (by have := ho.c; omega) (by omega) ho.i (wrong_reads hw)
  unfold pgoNew
  have hrl : (runC (viewE e.chains (e.base + A)) d).length ≤ 5 := by
    unfold runC
    split
    · simp
    · exact Nat.le_trans (chg_len _ _) hwl
  unfold runRes at cr
  generalize runC (viewE e.chains (e.base + A)) d = ch at cr hrl ⊢
  generalize (runM (viewE e.chains (e.base + A)) d).2 = dn at cr ⊢
  have hAl : ¬ ((A : Int) < 0) := by omega
  repeat (first | (with_reducible apply stop_reg 9) | ((with_reducible apply s1); exact rfl) | (with_reducible first | apply CW.seq | apply CW.block | apply CW.region | apply CW.draw | apply CW.skip | apply CW.exit | apply CW.ret | apply q_then | apply q_then_exit | apply q_then_ret | apply q_block | apply q_block_ret | apply q_block_hit | apply q_ret | apply q_end | apply q_loop_exit | apply q_loop_ret | apply q_loopT_exit | apply q_loopT_ret | apply RW.nil) | ((with_reducible apply s3); exact rfl; exact by_k) | ((with_reducible apply s2); exact rfl; exact by_k) | ((with_reducible apply s4); exact rfl) | ((with_reducible apply s5); (first | (focus ((with_reducible apply a_call); exact hn; exact rfl; (repeat (first | exact SubsE.nil | (apply SubsE.cons; exact rfl; (first | exact .d (.refl _) | exact .d (.nil _) | exact .agg rfl (.refl _) | exact .pd | exact .ptr rfl); (first | exact trivial | exact ⟨rfl, trivial⟩)))); done)) | (focus ((with_reducible apply a_callnews); exact co; (iterate 2 exact rfl); (repeat (first | exact SubsE.nil | (apply SubsE.cons; exact rfl; (first | exact .d (.refl _) | exact .d (.nil _) | exact .agg rfl (.refl _) | exact .pd | exact .ptr rfl); (first | exact trivial | exact ⟨rfl, trivial⟩)))); done)) | exact by_oa); exact by_g) | ((with_reducible apply CW.cond_t); exact rfl; exact by_ks) | ((with_reducible apply CW.cond_f); exact rfl; exact by_ks) | ((with_reducible apply q_block_miss); exact rfl) | (refine And.intro (show chk [] [] _ _ = true by kernel_rfl) ?_))
  refine Stop.go (CW.stut (stut_freezebox (i := 2) (id := 0) (ds := e.enc) rfl) ⟨rfl, rfl, trivial⟩ ?_)
  refine CW.stut (stut_freezebox (i := 7) (id := 6) (ds := [dint (e.base + A)]) rfl) ⟨rfl, rfl, trivial⟩ ?_
  repeat (first | (with_reducible apply stop_reg 10) | ((with_reducible apply s1); exact rfl) | (with_reducible first | apply CW.seq | apply CW.block | apply CW.region | apply CW.draw | apply CW.skip | apply CW.exit | apply CW.ret | apply q_then | apply q_then_exit | apply q_then_ret | apply q_block | apply q_block_ret | apply q_block_hit | apply q_ret | apply q_end | apply q_loop_exit | apply q_loop_ret | apply q_loopT_exit | apply q_loopT_ret | apply RW.nil) | ((with_reducible apply s3); exact rfl; exact by_k) | ((with_reducible apply s2); exact rfl; exact by_k) | ((with_reducible apply s4); exact rfl) | ((with_reducible apply s5); (first | ((with_reducible apply (a_mkfn (ds := [refD e.enc, refD [dint (e.base + A)]]))); exact rfl; apply SubsE.cons; exact rfl; exact .d (.refl _); exact trivial; apply SubsE.cons; exact rfl; exact .d (.refl _); exact trivial; exact SubsE.nil) | exact by_oa); exact by_g) | ((with_reducible apply CW.cond_t); exact rfl; exact by_ks) | ((with_reducible apply CW.cond_f); exact rfl; exact by_ks) | ((with_reducible apply q_block_miss); exact rfl) | (refine And.intro (show chk [] [] _ _ = true by kernel_rfl) ?_))
  refine Stop.go (CW.stut (stut_refpd (i := 2)) ⟨rfl, trivial⟩ ?_)
  refine CW.stut (stut_refpd (i := 7)) ⟨rfl, trivial⟩ ?_
  repeat (first | ((with_reducible apply s1); exact rfl) | (with_reducible first | apply CW.seq | apply CW.block | apply CW.region | apply CW.draw | apply CW.skip | apply CW.exit | apply CW.ret | apply q_then | apply q_then_exit | apply q_then_ret | apply q_block | apply q_block_ret | apply q_block_hit | apply q_ret | apply q_end | apply q_loop_exit | apply q_loop_ret | apply q_loopT_exit | apply q_loopT_ret | apply RW.nil) | ((with_reducible apply s3); exact rfl; exact by_k) | ((with_reducible apply s2); exact rfl; exact by_k) | ((with_reducible apply s4); exact rfl) | ((with_reducible apply s5); (first | (focus ((with_reducible apply a_call); exact cr; exact rfl; (repeat (first | exact SubsE.nil | (apply SubsE.cons; exact rfl; (first | exact .d (.refl _) | exact .d (.nil _) | exact .agg rfl (.refl _) | exact .pd | exact .ptr rfl); (first | exact trivial | exact ⟨rfl, trivial⟩)))); done)) | exact by_oa); exact by_g) | ((with_reducible apply CW.cond_t); exact rfl; exact by_ks) | ((with_reducible apply CW.cond_f); exact rfl; exact by_ks) | ((with_reducible apply q_block_miss); exact rfl) | (refine And.intro (show chk [] [] _ _ = true by kernel_rfl) ?_))
  refine CW.loopT (fun t : Nat × List Chain => [sd 1 (dint A), (.s 2, .av (.pd e.enc)), sp 4 1, ob 1 noE.enc0, sd 5 (dint 0), sp 6 5, (.o 5, .ob (.box [.d (encChains t.2), .own 2 (e.deeds.map Deed.enc).length, .own 3 (e.state.map encInt1).length, .own 4 (e.ends.map Done.enc).length, .d (dint e.base)])), (.s 7, .av (.pd [dint (e.base + A)])), sp 9 7, ob 7 dn.enc, sd 10 (encVs (ch.map chVer)), sd 11 (encStrs (ch.map (·.1))), sd 69 (encStrs d.writes), sd 70 (dint d.writes.length), sd 71 (dint t.1), oa 2 69 3 (e.deeds.map Deed.enc), oa 3 3 1 (e.state.map encInt1), oa 4 53 5 (e.ends.map Done.enc), nxt 8])
    (fun t => t.1 ≤ d.writes.length ∧ t.2.length ≤ 134217728 ∧ (∀ c ∈ t.2, c.vs.length ≤ 134217728) ∧ (Srt Chain.key t.2 ∧ ∀ c ∈ t.2, VSrt c.vs ∧ ∀ v ∈ c.vs, v.by_ < N) ∧ pgoSets e.chains (e.base + A) ch t.2 (d.writes.drop t.1) = pgoSets e.chains (e.base + A) ch e.chains d.writes) (fun t => d.writes.length - t.1) (0, e.chains) ⟨by omega, hcl, hs.v, ⟨hk, hb⟩, rfl⟩ ?_ ?_
  ·
    exact by_less
  · rintro ⟨j, cs⟩ ⟨hj, hl1, hl2, hl3, hJ⟩
    dsimp only at hj hl1 hl2 hl3 hJ ⊢
    rcases drop_case hj with ⟨h1, h2⟩ | ⟨k, h1, h2, h3⟩
    · rw [h1, pgoSets] at hJ
      have hsA' : (e.state.map encInt1)[A]? = some (encInt1 s) := by rw [List.getElem?_map, hsA]; rfl
      have hEl : A < e.ends.length := by omega
      obtain ⟨q, hq⟩ : ∃ q, e.ends[A]? = some q := ⟨e.ends[A], List.getElem?_eq_getElem hEl⟩
      have hq' : (e.ends.map Done.enc)[A]? = some q.enc := by rw [List.getElem?_map, hq]; rfl
      have hAs : A < (e.state.map encInt1).length := by simp; omega
      have hAe : A < (e.ends.map Done.enc).length := by simp; omega
      repeat (first | ((with_reducible apply s1); exact rfl) | (with_reducible first | apply CW.seq | apply CW.block | apply CW.region | apply CW.draw | apply CW.skip | apply CW.exit | apply CW.ret | apply q_then | apply q_then_exit | apply q_then_ret | apply q_block | apply q_block_ret | apply q_block_hit | apply q_ret | apply q_end | apply q_loop_exit | apply q_loop_ret | apply q_loopT_exit | apply q_loopT_ret | apply RW.nil) | ((with_reducible apply s3); exact rfl; exact by_k) | ((with_reducible apply s2); exact rfl; exact by_k) | ((with_reducible apply s4); exact rfl) | ((with_reducible apply s5); (first | exact by_oa); exact by_g) | ((with_reducible apply CW.cond_t); exact rfl; exact by_ks) | ((with_reducible apply CW.cond_f); exact rfl; exact by_ks) | ((with_reducible apply q_block_miss); exact rfl) | (refine And.intro (show chk [] [] _ _ = true by kernel_rfl) ?_))
      rw [← hJ]
      refine .two (.cell rfl rfl rfl rfl (.agg (.cons (.d (.refl _)) (.cons (.own rfl (by simp) (.refl _)) (.cons (.own rfl (by simp) (dle_eq ?_)) (.cons (.own rfl (by simp) (dle_eq ?_)) (.cons (.d (.refl _)) .nil))))))) (.tmp rfl (.one (.d (.refl _))))
      · show D.sl 1 _ = D.sl 1 _
        rw [List.map_set]; rfl
      · show D.sl 5 _ = D.sl 5 _
        rw [List.map_set]; rfl
    · rw [h1, pgoSets] at hJ
      have cb := ok_pbefore e.chains k (e.base + A) (by omega) (fun c h => by have := hs.v c h; omega) hk
      repeat (first | ((with_reducible apply s1); exact rfl) | (with_reducible first | apply CW.seq | apply CW.block | apply CW.region | apply CW.draw | apply CW.skip | apply CW.exit | apply CW.ret | apply q_then | apply q_then_exit | apply q_then_ret | apply q_block | apply q_block_ret | apply q_block_hit | apply q_ret | apply q_end | apply q_loop_exit | apply q_loop_ret | apply q_loopT_exit | apply q_loopT_ret | apply RW.nil) | ((with_reducible apply s3); exact rfl; exact by_k) | ((with_reducible apply s2); exact rfl; exact by_k) | ((with_reducible apply s4); exact rfl) | ((with_reducible apply s5); (first | (focus ((with_reducible apply a_call); exact cb; exact rfl; (repeat (first | exact SubsE.nil | (apply SubsE.cons; exact rfl; (first | exact .d (.refl _) | exact .d (.nil _) | exact .agg rfl (.refl _) | exact .pd | exact .ptr rfl); (first | exact trivial | exact ⟨rfl, trivial⟩)))); done)) | exact by_oa); exact by_g) | ((with_reducible apply CW.cond_t); exact rfl; exact by_ks) | ((with_reducible apply CW.cond_f); exact rfl; exact by_ks) | ((with_reducible apply q_block_miss); exact rfl) | (refine And.intro (show chk [] [] _ _ = true by kernel_rfl) ?_))
      refine CW.loopT (fun t : Nat × Version => [sd 1 (dint A), (.s 2, .av (.pd e.enc)), sp 4 1, ob 1 noE.enc0, sd 5 (dint 0), sp 6 5, (.o 5, .ob (.box [.d (encChains cs), .own 2 (e.deeds.map Deed.enc).length, .own 3 (e.state.map encInt1).length, .own 4 (e.ends.map Done.enc).length, .d (dint e.base)])), (.s 7, .av (.pd [dint (e.base + A)])), sp 9 7, ob 7 dn.enc, sd 10 (encVs (ch.map chVer)), sd 11 (encStrs (ch.map (·.1))), sd 69 (encStrs d.writes), sd 70 (dint d.writes.length), sd 71 (dint j), oa 2 69 3 (e.deeds.map Deed.enc), oa 3 3 1 (e.state.map encInt1), oa 4 53 5 (e.ends.map Done.enc), sd 13 (dstr k), sp 14 8, ob 8 t.2.enc, sd 80 (encStrs (ch.map (·.1))), sd 81 (dint (ch.map (·.1)).length), sd 82 (dint t.1), nxt 9])
        (fun t => t.1 ≤ ch.length ∧ pickV k t.2 (ch.drop t.1) = pickV k (before e.chains k (e.base + A)) ch) (fun t => ch.length - t.1) (0, before e.chains k (e.base + A)) ⟨by omega, rfl⟩ ?_ ?_
      ·
        exact by_less
      · rintro ⟨i, v⟩ ⟨hi, hI⟩
        dsimp only at hi hI ⊢
        rcases drop_case hi with ⟨g1, g2⟩ | ⟨c, g1, g2, g3⟩
        · rw [g1, pickV] at hI
          have hmv : madeV e.chains (e.base + A) ch k = ⟨e.base + A, true, v.has, v.n⟩ := by unfold madeV; rw [← hI]
          have cset := ok_pset cs k ⟨e.base + A, true, v.has, v.n⟩ (by omega) (fun c h => by have := hl2 c h; omega) hl3.1
          rw [hmv] at hJ
          obtain ⟨vb, vm, vh, vn⟩ := v
          dsimp only at cset hJ
          repeat (first | ((with_reducible apply s1); exact rfl) | (with_reducible first | apply CW.seq | apply CW.block | apply CW.region | apply CW.draw | apply CW.skip | apply CW.exit | apply CW.ret | apply q_then | apply q_then_exit | apply q_then_ret | apply q_block | apply q_block_ret | apply q_block_hit | apply q_ret | apply q_end | apply q_loop_exit | apply q_loop_ret | apply q_loopT_exit | apply q_loopT_ret | apply RW.nil) | ((with_reducible apply s3); exact rfl; exact by_k) | ((with_reducible apply s2); exact rfl; exact by_k) | ((with_reducible apply s4); exact rfl) | ((with_reducible apply s5); (first | (focus ((with_reducible apply a_call); exact cset; exact rfl; (repeat (first | exact SubsE.nil | (apply SubsE.cons; exact rfl; (first | exact .d (.refl _) | exact .d (.nil _) | exact .agg rfl (.refl _) | exact .pd | exact .ptr rfl); (first | exact trivial | exact ⟨rfl, trivial⟩)))); done)) | exact by_oa); exact by_g) | ((with_reducible apply CW.cond_t); exact rfl; exact by_ks) | ((with_reducible apply CW.cond_f); exact rfl; exact by_ks) | ((with_reducible apply q_block_miss); exact rfl) | (refine And.intro (show chk [] [] _ _ = true by kernel_rfl) ?_))
          refine q_loopT (j + 1, setChains cs k ⟨e.base + A, true, vh, vn⟩) ⟨by dsimp only; omega, by dsimp only; rw [set_len]; exact hl1, set_vs hl2, set_srt hl3.1 hl3.2, hJ⟩ (by dsimp only; omega) ?_
          exact by_less
        · rw [g1, pickV] at hI
          have g4 : (ch.map chVer)[i]? = some (chVer c) := by rw [List.getElem?_map, g2]; rfl
          have g5 : (ch.map (·.1))[i]? = some c.1 := by rw [List.getElem?_map, g2]; rfl
          by_cases h : c.1 = k
          · rw [if_pos h] at hI
            repeat (first | ((with_reducible apply s1); exact rfl) | (with_reducible first | apply CW.seq | apply CW.block | apply CW.region | apply CW.draw | apply CW.skip | apply CW.exit | apply CW.ret | apply q_then | apply q_then_exit | apply q_then_ret | apply q_block | apply q_block_ret | apply q_block_hit | apply q_ret | apply q_end | apply q_loop_exit | apply q_loop_ret | apply q_loopT_exit | apply q_loopT_ret | apply RW.nil) | ((with_reducible apply s3); exact rfl; exact by_k) | ((with_reducible apply s2); exact rfl; exact by_k) | ((with_reducible apply s4); exact rfl) | ((with_reducible apply s5); (first | exact by_oa); exact by_g) | ((with_reducible apply CW.cond_t); exact rfl; exact by_ks) | ((with_reducible apply CW.cond_f); exact rfl; exact by_ks) | ((with_reducible apply q_block_miss); exact rfl) | (refine And.intro (show chk [] [] _ _ = true by kernel_rfl) ?_))
            refine q_loopT (i + 1, chVer c) ⟨by dsimp only; omega, hI⟩ (by dsimp only; omega) ?_
            exact by_less
          · rw [if_neg h] at hI
            repeat (first | ((with_reducible apply s1); exact rfl) | (with_reducible first | apply CW.seq | apply CW.block | apply CW.region | apply CW.draw | apply CW.skip | apply CW.exit | apply CW.ret | apply q_then | apply q_then_exit | apply q_then_ret | apply q_block | apply q_block_ret | apply q_block_hit | apply q_ret | apply q_end | apply q_loop_exit | apply q_loop_ret | apply q_loopT_exit | apply q_loopT_ret | apply RW.nil) | ((with_reducible apply s3); exact rfl; exact by_k) | ((with_reducible apply s2); exact rfl; exact by_k) | ((with_reducible apply s4); exact rfl) | ((with_reducible apply s5); (first | exact by_oa); exact by_g) | ((with_reducible apply CW.cond_t); exact rfl; exact by_ks) | ((with_reducible apply CW.cond_f); exact rfl; exact by_ks) | ((with_reducible apply q_block_miss); exact rfl) | (refine And.intro (show chk [] [] _ _ = true by kernel_rfl) ?_))
            refine q_loopT (i + 1, v) ⟨by dsimp only; omega, hI⟩ (by dsimp only; omega) ?_
            exact by_less

end Go.Proofs.YtembfadhnkabhaaGreatDoor

/-! P7 -/
/-
  Engines as they are built: what is not made is of deeds that wait; what has nothing is nothing. The program's Go comes to the references'.
-/
namespace Go.Proofs.YtembfadhnkabhaaGreatDoor
open Go.AX Go.RF

structure WInv (e : Engine) : Prop where
  d : ∀ d ∈ e.deeds, wrongDeed d = 0
  n : ∀ c ∈ e.chains, ∀ v ∈ c.vs, v.made = false → ∃ (k : Nat) (x : Deed), v.by_ = e.base + k ∧ e.state[k]? = some 0 ∧ e.deeds[k]? = some x ∧ c.key ∈ x.writes
  h : ∀ c ∈ e.chains, ∀ v ∈ c.vs, v.has = false → v.n = 0
  l : e.state.length = e.deeds.length

theorem newE_w (r : List Pair) : WInv (newE r) := by
  have h0 : ∀ c ∈ (newE r).chains, ∀ v ∈ c.vs, v.made = true ∧ v.has = true := by
    intro c hc v hv
    obtain ⟨p, _, rfl⟩ := List.mem_map.1 hc
    simp [rowChain] at hv
    subst hv; exact ⟨rfl, rfl⟩
  refine ⟨by simp [newE], fun c hc v hv hm => ?_, fun c hc v hv hm => ?_, rfl⟩
  · rw [(h0 c hc v hv).1] at hm; cases hm
  · rw [(h0 c hc v hv).2] at hm; cases hm
theorem addKeys_mem {b : Int} : ∀ {ks : List Str} {l : List Chain}, Srt Chain.key l → ∀ c ∈ addKeys b l ks, ∀ v ∈ c.vs, (∃ c0 ∈ l, c0.key = c.key ∧ v ∈ c0.vs) ∨ (v = newV b ∧ c.key ∈ ks)
  | [], l, _, c, hc, v, hv => .inl ⟨c, hc, rfl, hv⟩
  | k :: ks, l, hs, c, hc, v, hv => by
    simp only [addKeys] at hc
    rw [addC_srt hs] at hc
    rcases addKeys_mem (addS_srt hs) c hc v hv with ⟨c0, h0, h1, h2⟩ | ⟨h1, h2⟩
    · rcases addS_mem h0 with h3 | rfl | ⟨c1, h3, h4, rfl⟩
      · exact .inl ⟨c0, h3, h1, h2⟩
      · simp at h2
        exact .inr ⟨h2, by rw [← h1]; exact List.mem_cons_self ..⟩
      · rcases List.mem_append.1 h2 with h2 | h2
        · exact .inl ⟨c1, h3, by rw [h4]; exact h1, h2⟩
        · simp at h2
          exact .inr ⟨h2, by rw [← h1]; exact List.mem_cons_self ..⟩
    · exact .inr ⟨h1, List.mem_cons_of_mem _ h2⟩
theorem WInv.add1 {e : Engine} (h : WInv e) (hs : SInv e) {d : Deed} (hd : wrongDeed d = 0) : WInv (add1 e d) := by
  have hlt : ∀ (k : Nat) (x : Deed), e.deeds[k]? = some x → k < e.deeds.length := fun k x hx => (List.getElem?_eq_some_iff.1 hx).1
  refine ⟨fun x hx => ?_, fun c hc v hv hm => ?_, fun c hc v hv hm => ?_, ?_⟩
  · rcases List.mem_append.1 hx with hx | hx
    · exact h.d x hx
    · simp at hx; subst hx; exact hd
  · rcases addKeys_mem hs.k c hc v hv with ⟨c0, h0, h1, h2⟩ | ⟨rfl, h2⟩
    · obtain ⟨k, x, h3, h4, h5, h6⟩ := h.n c0 h0 v h2 hm
      have := hlt k x h5
      refine ⟨k, x, h3, ?_, ?_, by rw [← h1]; exact h6⟩
      · show (e.state ++ [0])[k]? = _
        rw [List.getElem?_append_left (by rw [h.l]; exact this)]; exact h4
      · show (e.deeds ++ [d])[k]? = _
        rw [List.getElem?_append_left this]; exact h5
    · refine ⟨e.deeds.length, d, rfl, ?_, ?_, h2⟩
      · show (e.state ++ [0])[e.deeds.length]? = _
        rw [← h.l]; simp
      · show (e.deeds ++ [d])[e.deeds.length]? = _
        simp
  · rcases addKeys_mem hs.k c hc v hv with ⟨c0, h0, h1, h2⟩ | ⟨rfl, h2⟩
    · exact h.h c0 h0 v h2 hm
    · rfl
  · show (e.state ++ [0]).length = (e.deeds ++ [d]).length
    simp [h.l]
theorem WInv.addAll : ∀ {l : List Deed} {e : Engine}, WInv e → SInv e → (∀ d ∈ l, wrongDeed d = 0) → WInv (addAll e l)
  | [], e, h, _, _ => h
  | d :: l, e, h, hs, hl => by
    simp only [RF.addAll]
    have hd := hl d (List.mem_cons_self ..)
    exact WInv.addAll (h.add1 hs hd) (hs.add1 (wrong_keys hd).2) fun x hx => hl x (List.mem_cons_of_mem _ hx)
theorem WInv.addE {e : Engine} (h : WInv e) (hs : SInv e) {l : List Deed} (hw : (addE e l).2 = 0) : WInv (addE e l).1 := by
  unfold RF.addE at hw ⊢
  by_cases h0 : wrongs l = 0
  · rw [if_pos h0]
    exact h.addAll hs fun d hd => wrongs_mem h0 d hd
  · rw [if_neg h0] at hw; exact absurd hw h0

theorem get_none0 {k : Str} : ∀ {r : List Pair}, (RF.get r k).2 = false → (RF.get r k).1 = 0
  | [], _ => rfl
  | p :: r, h => by
    simp only [RF.get] at h ⊢
    by_cases hp : p.key = k
    · rw [if_pos hp] at h; cases h
    · rw [if_neg hp] at h ⊢; exact get_none0 h
theorem goSets_mem {r : List Pair} {b : Int} : ∀ {ks : List Str} {l : List Chain}, ∀ c ∈ goSets r b l ks, ∀ v ∈ c.vs,
    (∃ c0 ∈ l, c0.key = c.key ∧ v ∈ c0.vs ∧ (v.by_ = b → c.key ∉ ks)) ∨ (v.made = true ∧ (v.has = false → v.n = 0))
  | [], l, c, hc, v, hv => .inl ⟨c, hc, rfl, hv, fun _ => by simp⟩
  | k :: ks, l, c, hc, v, hv => by
    simp only [goSets] at hc
    rcases goSets_mem c hc v hv with ⟨c0, h0, h1, h2, h3⟩ | h1
    · obtain ⟨c1, h4, rfl⟩ := List.mem_map.1 h0
      obtain ⟨w, h5, rfl⟩ := List.mem_map.1 h2
      by_cases hh : decide (c1.key = k) = true ∧ w.by_ = b
      · refine .inr ?_
        have e : setV (decide (c1.key = k)) ⟨b, true, (RF.get r k).2, (RF.get r k).1⟩ w = ⟨b, true, (RF.get r k).2, (RF.get r k).1⟩ := by unfold setV; rw [if_pos hh]
        rw [e]
        exact ⟨rfl, get_none0⟩
      · have e : setV (decide (c1.key = k)) ⟨b, true, (RF.get r k).2, (RF.get r k).1⟩ w = w := by unfold setV; rw [if_neg hh]
        rw [e] at h3 ⊢
        refine .inl ⟨c1, h4, h1, h5, fun hb => ?_⟩
        have h6 := h3 hb
        intro hm
        rcases List.mem_cons.1 hm with hm | hm
        · exact hh ⟨by simp [show c1.key = c.key from h1, hm], hb⟩
        · exact h6 hm
    · exact .inr h1
theorem WInv.goNew {e : Engine} (h : WInv e) (A : Nat) (d : Deed) (hd : e.deeds[A]? = some d) : WInv (goNew e A d) := by
  refine ⟨h.d, fun c hc v hv hm => ?_, fun c hc v hv hm => ?_, ?_⟩
  · rcases goSets_mem c hc v hv with ⟨c0, h0, h1, h2, h3⟩ | h1
    · obtain ⟨k, x, h4, h5, h6, h7⟩ := h.n c0 h0 v h2 hm
      by_cases hk : k = A
      · subst hk
        rw [hd] at h6
        cases h6
        exact absurd (h1 ▸ h7) (h3 h4)
      · refine ⟨k, x, h4, ?_, h6, by rw [← h1]; exact h7⟩
        show (e.state.set A 1)[k]? = _
        rw [List.getElem?_set_ne (fun e => hk e.symm)]; exact h5
    · rw [h1.1] at hm; cases hm
  · rcases goSets_mem c hc v hv with ⟨c0, h0, h1, h2, h3⟩ | h1
    · exact h.h c0 h0 v h2 hm
    · exact h1.2 hm
  · show (e.state.set A 1).length = _
    rw [List.length_set]; exact h.l
theorem WInv.goE {e : Engine} (h : WInv e) (at_ : Int) : WInv (goE e at_).1 := by
  unfold Proofs.YtembfadhnkabhaaGreatDoor.goE
  split
  · exact h
  unfold goAt
  cases hA : e.deeds[at_.toNat]? with
  | none => exact h
  | some d =>
    dsimp only
    split
    · exact h
    split
    · exact h.goNew _ _ hA
    · exact h
/-! ### Before -/
theorem bvs_mem {h : Bool} {b : Int} : ∀ {l : List Version} {out : Version}, bvs h b out l = out ∨ (h = true ∧ bvs h b out l ∈ l ∧ (bvs h b out l).by_ < b)
  | [], out => .inl rfl
  | v :: l, out => by
    simp only [bvs]
    rcases bvs_mem (h := h) (b := b) (l := l) (out := if h && decide (v.by_ < b) then v else out) with e | ⟨h1, h2, h3⟩
    · rw [e]
      by_cases hc : (h && decide (v.by_ < b)) = true
      · rw [if_pos hc]
        simp only [Bool.and_eq_true, decide_eq_true_eq] at hc
        exact .inr ⟨hc.1, List.mem_cons_self .., hc.2⟩
      · rw [if_neg hc]; exact .inl rfl
    · exact .inr ⟨h1, List.mem_cons_of_mem _ h2, h3⟩
theorem beforeGo_mem {k : Str} {b : Int} : ∀ {l : List Chain} {out : Version}, beforeGo k b out l = out ∨ ∃ c ∈ l, c.key = k ∧ beforeGo k b out l ∈ c.vs ∧ (beforeGo k b out l).by_ < b
  | [], out => .inl rfl
  | c :: l, out => by
    simp only [beforeGo]
    rcases beforeGo_mem (k := k) (b := b) (l := l) (out := bvs (decide (c.key = k)) b out c.vs) with e | ⟨c', h1, h2⟩
    · rw [e]
      rcases bvs_mem (h := decide (c.key = k)) (b := b) (l := c.vs) (out := out) with e2 | ⟨h1, h2, h3⟩
      · exact .inl e2
      · exact .inr ⟨c, List.mem_cons_self .., by simpa using h1, h2, h3⟩
    · exact .inr ⟨c', List.mem_cons_of_mem _ h1, h2⟩
theorem before_mem (l : List Chain) (k : Str) (b : Int) : before l k b = noV ∨ ∃ c ∈ l, c.key = k ∧ before l k b ∈ c.vs ∧ (before l k b).by_ < b := beforeGo_mem
theorem WInv.nb {e : Engine} (h : WInv e) : NB e := by
  intro at_ k hm
  rcases before_mem e.chains k (e.base + at_) with h1 | ⟨c, h1, h2, h3, h4⟩
  · rw [h1] at hm; cases hm
  · obtain ⟨j, x, h5, _⟩ := h.n c h1 _ h3 hm
    exact ⟨by omega, h4⟩
theorem WInv.bh {e : Engine} (h : WInv e) (k : Str) (b : Int) : (before e.chains k b).has = false → (before e.chains k b).n = 0 := by
  intro hm
  rcases before_mem e.chains k b with h1 | ⟨c, h1, h2, h3, h4⟩
  · rw [h1]; rfl
  · exact h.h c h1 _ h3 hm

/-! ### A deed that is done -/
theorem keysGo'_mem {k : Str} : ∀ {l out : List Str}, k ∈ keysGo' out l ↔ k ∈ out ∨ k ∈ l
  | [], out => by simp [keysGo']
  | x :: l, out => by
    simp only [keysGo']
    rw [keysGo'_mem]
    by_cases h : isIn out x = true
    · rw [if_pos h]
      have := isIn_true h
      constructor
      · rintro (h1 | h1)
        · exact .inl h1
        · exact .inr (List.mem_cons_of_mem _ h1)
      · rintro (h1 | h1)
        · exact .inl h1
        · rcases List.mem_cons.1 h1 with rfl | h1
          · exact .inl this
          · exact .inr h1
    · rw [if_neg h]
      simp [or_assoc]
theorem goRows_get {cs : List Chain} {b : Int} : ∀ {ks : List Str} {r : List Pair}, Srt Pair.key r → Srt Pair.key (goRows cs b r ks) ∧ ∀ k, RF.get (goRows cs b r ks) k = if k ∈ ks ∧ (before cs k b).has = true then ((before cs k b).n, true) else RF.get r k
  | [], r, h => ⟨h, fun k => by simp [goRows]⟩
  | x :: ks, r, h => by
    simp only [goRows]
    by_cases hx : (before cs x b).has = true
    · rw [if_pos hx, put_true h]
      obtain ⟨h1, h2⟩ := goRows_get (cs := cs) (b := b) (ks := ks) (putS_srt (k := x) (n := (before cs x b).n) h)
      refine ⟨h1, fun k => ?_⟩
      rw [h2 k, get_put]
      by_cases hk : k ∈ ks ∧ (before cs k b).has = true
      · rw [if_pos hk, if_pos ⟨List.mem_cons_of_mem _ hk.1, hk.2⟩]
      · rw [if_neg hk]
        by_cases he : x = k
        · subst he
          rw [if_pos rfl, if_pos ⟨List.mem_cons_self .., hx⟩]
        · rw [if_neg he, if_neg]
          rintro ⟨h3, h4⟩
          rcases List.mem_cons.1 h3 with h3 | h3
          · exact he h3.symm
          · exact hk ⟨h3, h4⟩
    · rw [if_neg hx]
      obtain ⟨h1, h2⟩ := goRows_get (cs := cs) (b := b) (ks := ks) h
      refine ⟨h1, fun k => ?_⟩
      rw [h2 k]
      by_cases hk : k ∈ ks ∧ (before cs k b).has = true
      · rw [if_pos hk, if_pos ⟨List.mem_cons_of_mem _ hk.1, hk.2⟩]
      · rw [if_neg hk, if_neg]
        rintro ⟨h3, h4⟩
        rcases List.mem_cons.1 h3 with h3 | h3
        · subst h3; exact hx h4
        · exact hk ⟨h3, h4⟩
theorem pickV_chg {k : Str} {m : Mk} : ∀ {ws : List Str} {v : Version}, pickV k v (chg m ws) = match mG m k with
    | some c => if k ∈ ws then chVer (k, c) else v
    | none => v
  | [], v => by
    simp only [chg, pickV]
    split <;> simp
  | x :: ws, v => by
    simp only [chg]
    cases hx : mG m x with
    | none =>
      dsimp only
      rw [pickV_chg]
      cases hk : mG m k with
      | none => rfl
      | some c =>
        have hne : ¬ k = x := fun e => by subst e; rw [hx] at hk; cases hk
        dsimp only
        by_cases hw : k ∈ ws
        · rw [if_pos hw, if_pos (List.mem_cons_of_mem _ hw)]
        · rw [if_neg hw, if_neg (by simp [hne, hw])]
    | some c =>
      simp only [pickV]
      rw [pickV_chg]
      by_cases he : x = k
      · subst he
        rw [hx, if_pos rfl]
        dsimp only
        rw [if_pos (List.mem_cons_self ..)]
        simp
      · rw [if_neg he]
        have hne : ¬ k = x := fun e => he e.symm
        cases hk : mG m k with
        | none => rfl
        | some c' =>
          dsimp only
          by_cases hw : k ∈ ws
          · rw [if_pos hw, if_pos (List.mem_cons_of_mem _ hw)]
          · rw [if_neg hw, if_neg (by simp [hne, hw])]
theorem pgoSets_eq {cs0 : List Chain} {b : Int} {ch : List (Str × (Bool × Int))} {R : List Pair} : ∀ {ks : List Str} {cs : List Chain}, (∀ k ∈ ks, madeV cs0 b ch k = ⟨b, true, (RF.get R k).2, (RF.get R k).1⟩) → pgoSets cs0 b ch cs ks = goSets R b cs ks
  | [], cs, _ => rfl
  | k :: ks, cs, h => by
    simp only [pgoSets, goSets]
    rw [h k (List.mem_cons_self ..)]
    exact pgoSets_eq fun x hx => h x (List.mem_cons_of_mem _ hx)
theorem pgoNew_eq {e : Engine} (h : WInv e) {A : Nat} {d : Deed} (hd : e.deeds[A]? = some d) : pgoNew e A d = goNew e A d := by
  have hw := h.d d (List.mem_of_getElem? hd)
  obtain ⟨hs0, hget⟩ := goRows_get (cs := e.chains) (b := e.base + A) (ks := keysD d) (r := []) List.Pairwise.nil
  have hkd : ∀ k, k ∈ d.reads ∨ k ∈ d.writes → RF.get (goRows e.chains (e.base + A) [] (keysD d)) k = viewE e.chains (e.base + A) k := fun k hk => by
    have hm : k ∈ keysD d := by
      unfold keysD
      rw [keysGo'_mem]
      exact .inr (by simpa using hk)
    rw [hget k]
    unfold viewE
    cases hh : (before e.chains k (e.base + A)).has with
    | true => rw [if_pos ⟨hm, rfl⟩]
    | false =>
      rw [if_neg (by simp), h.bh k _ hh]
      rfl
  have hrun : runM (viewE e.chains (e.base + A)) d = runM (RF.get (goRows e.chains (e.base + A) [] (keysD d))) d :=
    runGo_congr fun i hi hk => by rw [hkd i.key (.inl (wrong_reads hw i hi hk))]
  have hrunC : runC (viewE e.chains (e.base + A)) d = runC (RF.get (goRows e.chains (e.base + A) [] (keysD d))) d := by unfold runC; rw [hrun]
  unfold pgoNew goNew goDone
  rw [hrunC, hrun]
  generalize hr0 : goRows e.chains (e.base + A) [] (keysD d) = r0 at hs0 hkd
  have hpl := plain_do hs0 (wrong_keyed hw)
  rw [← hpl]
  unfold plainD
  dsimp only
  congr 1
  refine pgoSets_eq fun k hk => ?_
  obtain ⟨h1, h2, h3⟩ := run_do (r := r0) (W := d.writes) (l := d.code) (sk := 0) (m := []) (e := done0) (now := r0) ⟨hs0, fun k => rfl, fun k c h => by simp [mG] at h, fun k c h => by simp [mG] at h⟩ rfl (wrong_keyed hw)
  unfold madeV
  have key : (RF.get (appC r0 (runC (RF.get r0) d)) k).2 = (pickV k (before e.chains k (e.base + A)) (runC (RF.get r0) d)).has ∧ (RF.get (appC r0 (runC (RF.get r0) d)) k).1 = (pickV k (before e.chains k (e.base + A)) (runC (RF.get r0) d)).n := by
    unfold runC
    by_cases hf : (runM (RF.get r0) d).2.failed = true
    · rw [if_pos hf]
      simp only [appC, pickV]
      rw [hkd k (.inr hk)]
      exact ⟨rfl, rfl⟩
    · rw [if_neg hf, appC_get hs0, if_pos hk, pickV_chg]
      have hf' : (doGo r0 0 r0 done0 d.code).2.failed = false := by rw [← h1]; exact Bool.eq_false_iff.2 hf
      have hmi := h3 hf'
      unfold chAt
      have hmm : (runM (RF.get r0) d).1 = (runGo (RF.get r0) 0 [] done0 d.code).1 := rfl
      cases hm : mG (runM (RF.get r0) d).1 k with
      | none =>
        dsimp only
        rw [hkd k (.inr hk)]
        exact ⟨rfl, rfl⟩
      | some c =>
        dsimp only
        rw [if_pos hk]
        unfold chOf chVer
        by_cases hc : c.1 = true
        · rw [if_pos hc]
          exact ⟨hc.symm, rfl⟩
        · rw [if_neg hc]
          have hc' : c.1 = false := Bool.eq_false_iff.2 hc
          exact ⟨hc'.symm, (hmi.f k c (by rw [← hmm]; exact hm) hc').symm⟩
  rw [key.1, key.2]

end Go.Proofs.YtembfadhnkabhaaGreatDoor

/-! P9 -/
/-
  Deeds that fail, deeds apart: plain laws.
-/
namespace Go.Proofs.YtembfadhnkabhaaGreatDoor
open Go.AX Go.RF

theorem do_get {r : List Pair} {d : Deed} (hs : Srt Pair.key r) (hw : wrongDeed d = 0) (k : Str) :
    RF.get (doD r d).1 k = if (runM (RF.get r) d).2.failed = true then RF.get r k else if k ∈ d.writes then chAt r (runM (RF.get r) d).1 k else RF.get r k := by
  rw [← plain_do hs (wrong_keyed hw)]
  unfold plainD runC
  dsimp only
  by_cases hf : (runM (RF.get r) d).2.failed = true
  · rw [if_pos hf, if_pos hf]; rfl
  · rw [if_neg hf, if_neg hf, appC_get hs]
theorem do_end {r : List Pair} {d : Deed} (hs : Srt Pair.key r) (hw : wrongDeed d = 0) : (doD r d).2 = (runM (RF.get r) d).2 := by
  rw [← plain_do hs (wrong_keyed hw)]; rfl
theorem do_same {r : List Pair} {d : Deed} (hs : Srt Pair.key r) (hw : wrongDeed d = 0) {k : Str} (hk : k ∉ d.writes) : RF.get (doD r d).1 k = RF.get r k := by
  rw [do_get hs hw, if_neg hk, ite_self]
end Go.Proofs.YtembfadhnkabhaaGreatDoor

/-! P10 -/
/-
  Engines, and what deeds come to one by one.
-/
namespace Go.Proofs.YtembfadhnkabhaaGreatDoor
open Go.AX Go.RF

/-! ### Versions that are made -/
theorem setV_by (h : Bool) (v w : Version) : (setV h v w).by_ = w.by_ := by
  unfold setV
  split
  · next hh => exact hh.2.symm
  · rfl
theorem bvs_map {h hit : Bool} {x : Int} {v : Version} : ∀ {l : List Version} {out : Version}, bvs h x (setV hit v out) (l.map (setV hit v)) = setV hit v (bvs h x out l)
  | [], out => rfl
  | w :: l, out => by
    simp only [List.map_cons, bvs, setV_by]
    have e : (if (h && decide (w.by_ < x)) = true then setV hit v w else setV hit v out) = setV hit v (if (h && decide (w.by_ < x)) = true then w else out) := by split <;> rfl
    rw [e]
    exact bvs_map
theorem beforeGo_set {k : Str} {x : Int} {v : Version} : ∀ {l : List Chain} {out : Version}, beforeGo k x (setV true v out) (setChains l k v) = setV true v (beforeGo k x out l)
  | [], out => rfl
  | c :: l, out => by
    simp only [setChains, List.map_cons, beforeGo, setC]
    by_cases hk : c.key = k
    · rw [decide_eq_true hk, bvs_map]
      exact beforeGo_set (l := l)
    · rw [decide_eq_false hk, bvs_false, bvs_false]
      exact beforeGo_set (l := l)
theorem beforeGo_set_ne {k k' : Str} {x : Int} {v : Version} (hne : k ≠ k') : ∀ {l : List Chain} {out : Version}, beforeGo k x out (setChains l k' v) = beforeGo k x out l
  | [], out => rfl
  | c :: l, out => by
    simp only [setChains, List.map_cons, beforeGo, setC]
    by_cases hk : c.key = k
    · have hk' : ¬ c.key = k' := fun e => hne (hk.symm.trans e)
      have hid : c.vs.map (setV (decide (c.key = k')) v) = c.vs := by
        rw [decide_eq_false hk']
        exact (List.map_congr_left fun w _ => show setV false v w = w by unfold setV; simp).trans (List.map_id _)
      rw [hid]
      exact beforeGo_set_ne hne (l := l)
    · rw [decide_eq_false hk, bvs_false, bvs_false]
      exact beforeGo_set_ne hne (l := l)
theorem before_setG {l : List Chain} {k k' : Str} {x : Int} {v : Version} (hv : v.by_ ≠ -1) : before (setChains l k' v) k x = if k' = k then setV true v (before l k x) else before l k x := by
  unfold before
  by_cases h : k' = k
  · subst h
    rw [if_pos rfl, ← beforeGo_set]
    congr 1
    unfold setV
    rw [if_neg (fun e => hv e.2.symm)]
  · rw [if_neg h]
    exact beforeGo_set_ne (fun e => h e.symm)
/-- What a deed's doing makes of versions. -/
def doneV (r : List Pair) (b : Int) (k : Str) : Version := ⟨b, true, (RF.get r k).2, (RF.get r k).1⟩
theorem before_goSets {r : List Pair} {b : Int} (hb : b ≠ -1) {k : Str} {x : Int} : ∀ {ks : List Str} {l : List Chain}, before (goSets r b l ks) k x = if k ∈ ks ∧ (before l k x).by_ = b then doneV r b k else before l k x
  | [], l => by simp [goSets]
  | k' :: ks, l => by
    simp only [goSets]
    rw [before_goSets hb, before_setG hb]
    by_cases h : k' = k
    · subst h
      rw [if_pos rfl, setV_by]
      by_cases hx : (before l k' x).by_ = b
      · have e : setV true (⟨b, true, (RF.get r k').2, (RF.get r k').1⟩ : Version) (before l k' x) = doneV r b k' := by unfold setV; rw [if_pos ⟨rfl, hx⟩]; rfl
        rw [e, ite_self, if_pos ⟨List.mem_cons_self .., hx⟩]
      · rw [if_neg (fun e => hx e.2), if_neg (fun e => hx e.2)]
        unfold setV
        rw [if_neg (fun e => hx e.2)]
    · rw [if_neg h]
      by_cases hk : k ∈ ks ∧ (before l k x).by_ = b
      · rw [if_pos hk, if_pos ⟨List.mem_cons_of_mem _ hk.1, hk.2⟩]
      · rw [if_neg hk, if_neg]
        rintro ⟨h1, h2⟩
        rcases List.mem_cons.1 h1 with h1 | h1
        · exact h h1.symm
        · exact hk ⟨h1, h2⟩

/-! ### One by one -/
/-- Rows behind so many deeds. -/
def sq (r : List Pair) (l : List Deed) (i : Nat) : List Pair := (allD r (l.take i)).1
theorem allD_snoc : ∀ {l : List Deed} {r : List Pair} {d : Deed}, allD r (l ++ [d]) = ((doD (allD r l).1 d).1, (allD r l).2 ++ [(doD (allD r l).1 d).2])
  | [], r, d => rfl
  | x :: l, r, d => by simp only [List.cons_append, allD]; rw [allD_snoc]
theorem sq_succ {r : List Pair} {l : List Deed} {i : Nat} {d : Deed} (h : l[i]? = some d) : sq r l (i + 1) = (doD (sq r l i) d).1 := by
  unfold sq
  rw [List.take_add_one, h]
  show (allD r (l.take i ++ [d])).1 = _
  rw [allD_snoc]
theorem sq_srt {r : List Pair} {l : List Deed} (hs : Srt Pair.key r) (hw : ∀ d ∈ l, wrongDeed d = 0) : ∀ (i : Nat), Srt Pair.key (sq r l i)
  | 0 => hs
  | i + 1 => by
    cases h : l[i]? with
    | none =>
      have hle := List.getElem?_eq_none_iff.1 h
      have : sq r l (i + 1) = sq r l i := by unfold sq; rw [List.take_of_length_le (by omega), List.take_of_length_le hle]
      rw [this]; exact sq_srt hs hw i
    | some d =>
      rw [sq_succ h]
      exact doD_srt (sq_srt hs hw i) (wrong_keyed (hw d (List.mem_of_getElem? h)))
theorem sq_append {r : List Pair} {l m : List Deed} {i : Nat} (h : i ≤ l.length) : sq r (l ++ m) i = sq r l i := by
  unfold sq; rw [List.take_append_of_le_length h]

/-- An engine of right deeds: what it has made is what deeds come to one by one. -/
structure QInv (e : Engine) (r : List Pair) : Prop where
  s : Srt Pair.key r
  z : ∀ k, (before e.chains k e.base).made = true
  m : ∀ (k : Str) (i : Nat), i ≤ e.deeds.length → (before e.chains k (e.base + i)).made = true → RF.get (sq r e.deeds i) k = ((before e.chains k (e.base + i)).n, (before e.chains k (e.base + i)).has)
  p : ∀ (k : Str) (i : Nat) (d : Deed), e.deeds[i]? = some d → k ∈ d.writes → (before e.chains k (e.base + (i + 1 : Nat))).by_ = e.base + i ∧ (e.state[i]? = some 1 → (before e.chains k (e.base + (i + 1 : Nat))).made = true)
  q : ∀ (k : Str) (i : Nat) (d : Deed), e.deeds[i]? = some d → k ∉ d.writes → before e.chains k (e.base + (i + 1 : Nat)) = before e.chains k (e.base + i)
  w : ∀ (i : Nat) (d : Deed), e.deeds[i]? = some d → e.state[i]? = some 1 → e.ends[i]? = some (doD (sq r e.deeds i) d).2
  b : 0 ≤ e.base

theorem newE_q {r : List Pair} (hs : Srt Pair.key r) : QInv (newE r) r := by
  have hv : ∀ k x, -1 < x → ((∃ p ∈ r, p.key = k ∧ before (r.map rowChain) k x = ⟨-1, true, true, p.n⟩) ∨ ((∀ p ∈ r, p.key ≠ k) ∧ before (r.map rowChain) k x = noV)) := fun k x hx => by
    by_cases h : ∃ p ∈ r, p.key = k
    · obtain ⟨p, hp, rfl⟩ := h
      exact .inl ⟨p, hp, rfl, before_row hs hp hx⟩
    · have hn : ∀ p ∈ r, p.key ≠ k := fun p hp he => h ⟨p, hp, he⟩
      refine .inr ⟨hn, beforeGo_none fun c hc => ?_⟩
      obtain ⟨p, hp, rfl⟩ := List.mem_map.1 hc
      exact hn p hp
  refine ⟨hs, fun k => ?_, fun k i hi hm => ?_, fun k i d h => by simp [newE] at h, fun k i d h => by simp [newE] at h, fun i d h => by simp [newE] at h, by simp [newE]⟩
  · rcases hv k 0 (by omega) with ⟨p, _, _, h⟩ | ⟨_, h⟩
    · show (before (r.map rowChain) k 0).made = true
      rw [h]
    · show (before (r.map rowChain) k 0).made = true
      rw [h]; rfl
  · have hi0 : i = 0 := by simpa [newE] using hi
    subst hi0
    show RF.get r k = ((before (r.map rowChain) k (0 + ((0 : Nat) : Int))).n, (before (r.map rowChain) k (0 + ((0 : Nat) : Int))).has)
    rcases hv k (0 + ((0 : Nat) : Int)) (by omega) with ⟨p, hp, rfl, h⟩ | ⟨hn, h⟩
    · rw [h, get_of_mem hs hp]
    · rw [h, get_absent hn]; rfl

/-! ### Deeds added -/
theorem addKeys_le {k : Str} {b x : Int} (hx : x ≤ b) : ∀ {ks : List Str} {l : List Chain}, Srt Chain.key l → before (addKeys b l ks) k x = before l k x
  | [], l, _ => rfl
  | k' :: ks, l, hs => by
    simp only [addKeys]
    rw [addC_srt hs, addKeys_le hx (addS_srt hs)]
    exact before_addS fun _ => hx
theorem addKeys_out {k : Str} {b x : Int} : ∀ {ks : List Str} {l : List Chain}, Srt Chain.key l → k ∉ ks → before (addKeys b l ks) k x = before l k x
  | [], l, _, _ => rfl
  | k' :: ks, l, hs, hk => by
    simp only [addKeys]
    rw [addC_srt hs, addKeys_out (addS_srt hs) (fun h => hk (List.mem_cons_of_mem _ h))]
    exact before_addS fun e => absurd (List.mem_cons.2 (.inl e)) hk
theorem addKeys_in {k : Str} {b x : Int} (hx : b < x) : ∀ {ks : List Str} {l : List Chain}, Srt Chain.key l → ks.Nodup → k ∈ ks → before (addKeys b l ks) k x = newV b
  | [], l, _, _, hk => by simp at hk
  | k' :: ks, l, hs, hn, hk => by
    obtain ⟨hn1, hn2⟩ := List.nodup_cons.1 hn
    simp only [addKeys]
    rw [addC_srt hs]
    by_cases h : k = k'
    · subst h
      rw [addKeys_out (addS_srt hs) hn1]
      exact behind_add hx hs
    · exact addKeys_in hx (addS_srt hs) hn2 (by
        rcases List.mem_cons.1 hk with e | e
        · exact absurd e h
        · exact e)
theorem bvs_top {h : Bool} {x y B : Int} (hx : B ≤ x) (hy : B ≤ y) : ∀ {l : List Version} {out : Version}, (∀ v ∈ l, v.by_ < B) → bvs h x out l = bvs h y out l
  | [], out, _ => rfl
  | v :: l, out, hl => by
    have hv := hl v (List.mem_cons_self ..)
    simp only [bvs]
    rw [decide_eq_true (show v.by_ < x by omega), decide_eq_true (show v.by_ < y by omega)]
    exact bvs_top hx hy fun w hw => hl w (List.mem_cons_of_mem _ hw)
theorem before_top {x y B : Int} {k : Str} (hx : B ≤ x) (hy : B ≤ y) : ∀ {l : List Chain} {out : Version}, (∀ c ∈ l, ∀ v ∈ c.vs, v.by_ < B) → beforeGo k x out l = beforeGo k y out l
  | [], out, _ => rfl
  | c :: l, out, hl => by
    simp only [beforeGo]
    rw [bvs_top hx hy (hl c (List.mem_cons_self ..))]
    exact before_top hx hy fun d hd => hl d (List.mem_cons_of_mem _ hd)
theorem QInv.add1 {e : Engine} {r : List Pair} (h : QInv e r) (hS : SInv e) (hW : WInv e) (hn : e.ends.length = e.deeds.length) {d : Deed} (hd : wrongDeed d = 0) : QInv (RF.add1 e d) r := by
  have hnd := (wrong_keys hd).2
  have hle : ∀ k (i : Nat), i ≤ e.deeds.length → before (RF.add1 e d).chains k (e.base + i) = before e.chains k (e.base + i) := fun k i hi => addKeys_le (by omega) hS.k
  have hlt : ∀ (i : Nat) (x : Deed), (RF.add1 e d).deeds[i]? = some x → (i < e.deeds.length ∧ e.deeds[i]? = some x) ∨ (i = e.deeds.length ∧ x = d) := fun i x hx => by
    have hx' : (e.deeds ++ [d])[i]? = some x := hx
    rcases Nat.lt_or_ge i e.deeds.length with hi | hi
    · rw [List.getElem?_append_left hi] at hx'
      exact .inl ⟨hi, hx'⟩
    · rw [List.getElem?_append_right hi] at hx'
      have h0 : i - e.deeds.length = 0 := by
        have := (List.getElem?_eq_some_iff.1 hx').1
        simpa using this
      rw [h0] at hx'
      exact .inr ⟨by omega, by simpa using hx'.symm⟩
  have hsqe : ∀ i, i ≤ e.deeds.length → sq r (e.deeds ++ [d]) i = sq r e.deeds i := fun i hi => sq_append hi
  have hst : ∀ i, i < e.deeds.length → (e.state ++ [0])[i]? = e.state[i]? := fun i hi => List.getElem?_append_left (by rw [hW.l]; exact hi)
  have hst1 : (e.state ++ [0])[e.deeds.length]? ≠ some 1 := by rw [← hW.l]; simp
  have htop : ∀ k, before e.chains k (e.base + (e.deeds.length + 1 : Nat)) = before e.chains k (e.base + e.deeds.length) := fun k => before_top (B := e.base + e.deeds.length) (by omega) (by omega) hS.b
  refine ⟨h.s, fun k => ?_, fun k i hi hm => ?_, fun k i x hx hk => ?_, fun k i x hx hk => ?_, fun i x hx h1 => ?_, h.b⟩
  · have := hle k 0 (by omega)
    simp only [Int.natCast_zero, Int.add_zero] at this
    show (before (RF.add1 e d).chains k e.base).made = true
    rw [this]; exact h.z k
  · have hi' : i ≤ e.deeds.length + 1 := by simpa [RF.add1] using hi
    show RF.get (sq r (e.deeds ++ [d]) i) k = ((before (RF.add1 e d).chains k (e.base + i)).n, (before (RF.add1 e d).chains k (e.base + i)).has)
    have hm' : (before (RF.add1 e d).chains k (e.base + i)).made = true := hm
    by_cases hil : i ≤ e.deeds.length
    · rw [hle k i hil] at hm' ⊢
      rw [hsqe i hil]
      exact h.m k i hil hm'
    · obtain rfl : i = e.deeds.length + 1 := by omega
      by_cases hkw : k ∈ d.writes
      · have : before (RF.add1 e d).chains k (e.base + (e.deeds.length + 1 : Nat)) = newV (e.base + e.deeds.length) := addKeys_in (by omega) hS.k hnd hkw
        rw [this] at hm'; cases hm'
      · have hb : before (RF.add1 e d).chains k (e.base + (e.deeds.length + 1 : Nat)) = before e.chains k (e.base + (e.deeds.length + 1 : Nat)) := addKeys_out hS.k hkw
        rw [hb, htop] at hm' ⊢
        have hg : (e.deeds ++ [d])[e.deeds.length]? = some d := by simp
        rw [sq_succ hg, do_same (sq_srt h.s (fun x hx => by
          rcases List.mem_append.1 hx with hx | hx
          · exact hW.d x hx
          · simp at hx; subst hx; exact hd) _) hd hkw, hsqe _ (Nat.le_refl _)]
        exact h.m k _ (Nat.le_refl _) hm'
  · rcases hlt i x hx with ⟨hi, hx'⟩ | ⟨rfl, rfl⟩
    · have := h.p k i x hx' hk
      show (before (RF.add1 e d).chains k (e.base + (i + 1 : Nat))).by_ = e.base + i ∧ ((e.state ++ [0])[i]? = some 1 → (before (RF.add1 e d).chains k (e.base + (i + 1 : Nat))).made = true)
      rw [hle k (i + 1) (by omega), hst i hi]
      exact this
    · have hb : before (RF.add1 e x).chains k (e.base + (e.deeds.length + 1 : Nat)) = newV (e.base + e.deeds.length) := addKeys_in (by omega) hS.k hnd hk
      refine ⟨by show (before (RF.add1 e x).chains k (e.base + (e.deeds.length + 1 : Nat))).by_ = _; rw [hb]; rfl, fun h1 => absurd h1 hst1⟩
  · rcases hlt i x hx with ⟨hi, hx'⟩ | ⟨rfl, rfl⟩
    · show before (RF.add1 e d).chains k (e.base + (i + 1 : Nat)) = before (RF.add1 e d).chains k (e.base + i)
      rw [hle k (i + 1) (by omega), hle k i (by omega)]
      exact h.q k i x hx' hk
    · show before (RF.add1 e x).chains k (e.base + (e.deeds.length + 1 : Nat)) = before (RF.add1 e x).chains k (e.base + e.deeds.length)
      have h1 : before (RF.add1 e x).chains k (e.base + (e.deeds.length + 1 : Nat)) = before e.chains k (e.base + (e.deeds.length + 1 : Nat)) := addKeys_out hS.k hk
      rw [h1, hle k _ (Nat.le_refl _), htop]
  · rcases hlt i x hx with ⟨hi, hx'⟩ | ⟨rfl, rfl⟩
    · show (e.ends ++ [done0])[i]? = some (doD (sq r (e.deeds ++ [d]) i) x).2
      have h1' : (e.state ++ [0])[i]? = some 1 := h1
      rw [hst i hi] at h1'
      rw [List.getElem?_append_left (by rw [hn]; exact hi), hsqe i (by omega)]
      exact h.w i x hx' h1'
    · exact absurd h1 hst1

/-! ### A deed done -/
theorem before_lt {l : List Chain} {k : Str} {b : Int} (h : (before l k b).by_ ≠ -1) : (before l k b).by_ < b := by
  rcases before_mem l k b with e | ⟨c, _, _, _, h4⟩
  · rw [e] at h; exact absurd rfl h
  · exact h4
/-- What a key has is the same until one that writes it. -/
theorem QInv.stay {e : Engine} {r : List Pair} (h : QInv e r) (hW : WInv e) (k : Str) (A : Nat) : ∀ (i : Nat), A < i → i ≤ e.deeds.length → (before e.chains k (e.base + i)).by_ = e.base + A → RF.get (sq r e.deeds i) k = RF.get (sq r e.deeds (A + 1)) k
  | 0, hA, _, _ => by omega
  | i + 1, hA, hi, hb => by
    by_cases he : i = A
    · subst he; rfl
    · obtain ⟨d, hd⟩ : ∃ d, e.deeds[i]? = some d := ⟨e.deeds[i]'(by omega), List.getElem?_eq_getElem (by omega)⟩
      by_cases hk : k ∈ d.writes
      · have := (h.p k i d hd hk).1
        rw [hb] at this
        omega
      · rw [h.q k i d hd hk] at hb
        rw [sq_succ hd, do_same (sq_srt h.s hW.d i) (hW.d d (List.mem_of_getElem? hd)) hk]
        exact h.stay hW k A i (by omega) (by omega) hb
/-- What a deed that needs nobody sees is what has come of those ahead of it. -/
theorem needs_made {e : Engine} (hW : WInv e) {A : Nat} {d : Deed} (hne : needs e A d = []) : ∀ k ∈ keysD d, (before e.chains k (e.base + A)).made = true := by
  intro k hk
  cases hm : (before e.chains k (e.base + A)).made with
  | true => rfl
  | false =>
    obtain ⟨h1, h2⟩ := hW.nb A k hm
    have : ((before e.chains k (e.base + A)).by_ - e.base) ∈ needs e A d := by
      unfold needs
      rw [needsGo_mem]
      exact ⟨((before e.chains k (e.base + A)).by_ - e.base).toNat, List.mem_range.2 (by omega), by omega, anyHit_iff.2 ⟨k, hk, hm, by omega⟩⟩
    rw [hne] at this
    simp at this
theorem go_done {e : Engine} {r : List Pair} (h : QInv e r) (hW : WInv e) {A : Nat} {d : Deed} (hd : e.deeds[A]? = some d) (hne : needs e A d = []) :
    (goDone e A d).2 = (doD (sq r e.deeds A) d).2 ∧ ∀ k ∈ d.writes, RF.get (goDone e A d).1 k = RF.get (sq r e.deeds (A + 1)) k := by
  have hA := (List.getElem?_eq_some_iff.1 hd).1
  have hw := hW.d d (List.mem_of_getElem? hd)
  have hmade := needs_made hW hne
  obtain ⟨hs0, hget⟩ := goRows_get (cs := e.chains) (b := e.base + A) (ks := keysD d) (r := []) List.Pairwise.nil
  have hsq := sq_srt h.s hW.d A
  have hsame : ∀ k, k ∈ d.reads ∨ k ∈ d.writes → RF.get (goRows e.chains (e.base + A) [] (keysD d)) k = RF.get (sq r e.deeds A) k := fun k hk => by
    have hm : k ∈ keysD d := by
      unfold keysD
      rw [keysGo'_mem]
      exact .inr (by simpa using hk)
    rw [h.m k A (by omega) (hmade k hm), hget k]
    cases hh : (before e.chains k (e.base + A)).has with
    | true => rw [if_pos ⟨hm, rfl⟩]
    | false =>
      rw [if_neg (by simp), hW.bh k _ hh]
      rfl
  have hrun : runM (RF.get (goRows e.chains (e.base + A) [] (keysD d))) d = runM (RF.get (sq r e.deeds A)) d :=
    runGo_congr fun i hi hk => by rw [hsame i.key (.inl (wrong_reads hw i hi hk))]
  unfold goDone
  refine ⟨by rw [do_end hs0 hw, do_end hsq hw, hrun], fun k hk => ?_⟩
  rw [sq_succ hd, do_get hs0 hw, do_get hsq hw, hrun, hsame k (.inr hk)]
  unfold chAt
  rw [hsame k (.inr hk)]
theorem QInv.goNew {e : Engine} {r : List Pair} (h : QInv e r) (hW : WInv e) (hn : e.ends.length = e.deeds.length) {A : Nat} {d : Deed} (hd : e.deeds[A]? = some d) (hne : needs e A d = []) : QInv (Proofs.YtembfadhnkabhaaGreatDoor.goNew e A d) r := by
  have hA := (List.getElem?_eq_some_iff.1 hd).1
  obtain ⟨hg1, hg2⟩ := go_done h hW hd hne
  have hb := h.b
  have hbf : ∀ k x, before (Proofs.YtembfadhnkabhaaGreatDoor.goNew e A d).chains k x = if k ∈ d.writes ∧ (before e.chains k x).by_ = e.base + A then doneV (goDone e A d).1 (e.base + A) k else before e.chains k x := fun k x => before_goSets (by omega)
  refine ⟨h.s, fun k => ?_, fun k i hi hm => ?_, fun k i x hx hk => ?_, fun k i x hx hk => ?_, fun i x hx h1 => ?_, h.b⟩
  · show (before (Proofs.YtembfadhnkabhaaGreatDoor.goNew e A d).chains k e.base).made = true
    rw [hbf]
    split
    · rfl
    · exact h.z k
  · have hi' : i ≤ e.deeds.length := hi
    show RF.get (sq r e.deeds i) k = ((before (Proofs.YtembfadhnkabhaaGreatDoor.goNew e A d).chains k (e.base + i)).n, (before (Proofs.YtembfadhnkabhaaGreatDoor.goNew e A d).chains k (e.base + i)).has)
    have hm' : (before (Proofs.YtembfadhnkabhaaGreatDoor.goNew e A d).chains k (e.base + i)).made = true := hm
    rw [hbf] at hm' ⊢
    by_cases hc : k ∈ d.writes ∧ (before e.chains k (e.base + i)).by_ = e.base + A
    · rw [if_pos hc]
      have hlt := before_lt (l := e.chains) (k := k) (b := e.base + i) (by rw [hc.2]; omega)
      rw [hc.2] at hlt
      rw [h.stay hW k A i (by omega) hi' hc.2, ← hg2 k hc.1]
      rfl
    · rw [if_neg hc] at hm' ⊢
      exact h.m k i hi' hm'
  · have hx' : e.deeds[i]? = some x := hx
    have hp := h.p k i x hx' hk
    show (before (Proofs.YtembfadhnkabhaaGreatDoor.goNew e A d).chains k (e.base + (i + 1 : Nat))).by_ = e.base + i ∧ ((e.state.set A 1)[i]? = some 1 → (before (Proofs.YtembfadhnkabhaaGreatDoor.goNew e A d).chains k (e.base + (i + 1 : Nat))).made = true)
    rw [hbf]
    by_cases hc : k ∈ d.writes ∧ (before e.chains k (e.base + (i + 1 : Nat))).by_ = e.base + A
    · rw [if_pos hc]
      refine ⟨?_, fun _ => rfl⟩
      show e.base + A = e.base + i
      rw [← hc.2]; exact hp.1
    · rw [if_neg hc]
      refine ⟨hp.1, fun h1 => ?_⟩
      by_cases he : i = A
      · subst he
        rw [hd] at hx'
        cases hx'
        exact absurd ⟨hk, hp.1⟩ hc
      · rw [List.getElem?_set_ne (fun e => he e.symm)] at h1
        exact hp.2 h1
  · have hx' : e.deeds[i]? = some x := hx
    show before (Proofs.YtembfadhnkabhaaGreatDoor.goNew e A d).chains k (e.base + (i + 1 : Nat)) = before (Proofs.YtembfadhnkabhaaGreatDoor.goNew e A d).chains k (e.base + i)
    rw [hbf, hbf, h.q k i x hx' hk]
  · have hx' : e.deeds[i]? = some x := hx
    show (e.ends.set A (goDone e A d).2)[i]? = some (doD (sq r e.deeds i) x).2
    have h1' : (e.state.set A 1)[i]? = some 1 := h1
    by_cases he : i = A
    · subst he
      rw [hd] at hx'
      cases hx'
      rw [List.getElem?_set_self (by omega), hg1]
    · rw [List.getElem?_set_ne (fun e => he e.symm)] at h1' ⊢
      exact h.w i x hx' h1'

/-! ### What is old, forgotten -/
end Go.Proofs.YtembfadhnkabhaaGreatDoor

/-! P11 -/
/-
  Engines at work: all deeds are done at last, and it is as one by one.
-/
namespace Go.Proofs.YtembfadhnkabhaaGreatDoor
open Go.AX Go.RF

/-! ### What holds of engines that are built -/
structure BInv (e : Engine) (r : List Pair) : Prop where
  S : SInv e
  W : WInv e
  Q : QInv e r
  n : e.ends.length = e.deeds.length
  t : ∀ s ∈ e.state, s = 0 ∨ s = 1
  u : ∀ (k : Str) (i : Nat) (d : Deed), e.deeds[i]? = some d → k ∈ d.writes → e.state[i]? = some 0 → (before e.chains k (e.base + (i + 1 : Nat))).made = false

theorem newE_b {r : List Pair} (h : wrongRows r = 0) : BInv (newE r) r :=
  ⟨newE_srt (wrongRows_srt h).1, newE_w r, newE_q (wrongRows_srt h).1, rfl, by simp [newE], fun k i d h => by simp [newE] at h⟩
theorem BInv.add1 {e : Engine} {r : List Pair} (h : BInv e r) {d : Deed} (hd : wrongDeed d = 0) : BInv (RF.add1 e d) r := by
  refine ⟨h.S.add1 (wrong_keys hd).2, h.W.add1 h.S hd, h.Q.add1 h.S h.W h.n hd, by simp [RF.add1, h.n], fun s hs => ?_, fun k i x hx hk h0 => ?_⟩
  · rcases List.mem_append.1 (show s ∈ e.state ++ [0] from hs) with hs | hs
    · exact h.t s hs
    · simp at hs; exact .inl hs
  · have hx' : (e.deeds ++ [d])[i]? = some x := hx
    show (before (addKeys (e.base + e.deeds.length) e.chains d.writes) k (e.base + (i + 1 : Nat))).made = false
    rcases Nat.lt_or_ge i e.deeds.length with hi | hi
    · rw [List.getElem?_append_left hi] at hx'
      have h0' : (e.state ++ [0])[i]? = some 0 := h0
      rw [List.getElem?_append_left (by rw [h.W.l]; exact hi)] at h0'
      rw [addKeys_le (by omega) h.S.k]
      exact h.u k i x hx' hk h0'
    · rw [List.getElem?_append_right hi] at hx'
      have hz : i - e.deeds.length = 0 := by
        have := (List.getElem?_eq_some_iff.1 hx').1
        simpa using this
      rw [hz] at hx'
      have hx2 : x = d := by simpa using hx'.symm
      subst hx2
      rw [addKeys_in (by omega) h.S.k (wrong_keys hd).2 hk]
      rfl
theorem BInv.addAll : ∀ {l : List Deed} {e : Engine} {r : List Pair}, BInv e r → (∀ d ∈ l, wrongDeed d = 0) → BInv (RF.addAll e l) r
  | [], e, r, h, _ => h
  | d :: l, e, r, h, hl => by
    simp only [RF.addAll]
    exact BInv.addAll (h.add1 (hl d (List.mem_cons_self ..))) fun x hx => hl x (List.mem_cons_of_mem _ hx)
theorem addAll_deeds : ∀ {l : List Deed} {e : Engine}, (RF.addAll e l).deeds = e.deeds ++ l ∧ (RF.addAll e l).base = e.base
  | [], e => by simp [RF.addAll]
  | d :: l, e => by
    simp only [RF.addAll]
    rw [addAll_deeds.1, addAll_deeds.2]
    simp [RF.add1]
theorem BInv.addE {e : Engine} {r : List Pair} (h : BInv e r) {l : List Deed} (hw : (RF.addE e l).2 = 0) : BInv (RF.addE e l).1 r := by
  unfold RF.addE at hw ⊢
  by_cases h0 : wrongs l = 0
  · rw [if_pos h0]
    exact h.addAll fun d hd => wrongs_mem h0 d hd
  · rw [if_neg h0] at hw; exact absurd hw h0
theorem BInv.goNew {e : Engine} {r : List Pair} (h : BInv e r) {A : Nat} {d : Deed} (hd : e.deeds[A]? = some d) (hne : needs e A d = []) : BInv (Proofs.YtembfadhnkabhaaGreatDoor.goNew e A d) r := by
  have hb := h.Q.b
  refine ⟨h.S.goNew A d, h.W.goNew A d hd, h.Q.goNew h.W h.n hd hne, ?_, fun s hs => ?_, fun k i x hx hk h0 => ?_⟩
  · show (e.ends.set A _).length = e.deeds.length
    rw [List.length_set]; exact h.n
  · rcases List.mem_or_eq_of_mem_set (show s ∈ e.state.set A 1 from hs) with hs | hs
    · exact h.t s hs
    · exact .inr hs
  · have hx' : e.deeds[i]? = some x := hx
    have h0' : (e.state.set A 1)[i]? = some 0 := h0
    have hiA : i ≠ A := fun e1 => by
      subst e1
      rw [List.getElem?_set_self (by rw [h.W.l]; exact (List.getElem?_eq_some_iff.1 hd).1)] at h0'
      simp at h0'
    rw [List.getElem?_set_ne (fun e1 => hiA e1.symm)] at h0'
    have hp := (h.Q.p k i x hx' hk).1
    show (before (goSets (goDone e A d).1 (e.base + A) e.chains d.writes) k (e.base + (i + 1 : Nat))).made = false
    rw [before_goSets (by omega), if_neg (fun e1 => by have := e1.2; rw [hp] at this; omega)]
    exact h.u k i x hx' hk h0'
theorem BInv.goE {e : Engine} {r : List Pair} (h : BInv e r) (x : Int) : BInv (Proofs.YtembfadhnkabhaaGreatDoor.goE e x).1 r := by
  unfold Proofs.YtembfadhnkabhaaGreatDoor.goE
  split
  · exact h
  unfold goAt
  cases hA : e.deeds[x.toNat]? with
  | none => exact h
  | some d =>
    dsimp only
    split
    · exact h
    split
    · next hn => exact h.goNew hA hn
    · exact h
/-! ### Who is ready -/
theorem readyGo_mem {e : Engine} {x : Int} : ∀ {l : List Int} {i : Nat}, x ∈ readyGo e i l ↔ ∃ j : Nat, x = ((i + j : Nat) : Int) ∧ l[j]? = some 0 ∧ needsAt e (i + j) = []
  | [], i => by simp [readyGo]
  | s :: l, i => by
    have tl : x ∈ readyGo e (i + 1) l → ∃ j : Nat, x = ((i + j : Nat) : Int) ∧ (s :: l)[j]? = some 0 ∧ needsAt e (i + j) = [] := fun h => by
      obtain ⟨j, h1, h2, h3⟩ := readyGo_mem.1 h
      exact ⟨j + 1, by rw [h1]; omega, by rw [List.getElem?_cons_succ]; exact h2, by rw [show i + (j + 1) = i + 1 + j by omega]; exact h3⟩
    simp only [readyGo]
    constructor
    · intro h
      by_cases hc : s = 0 ∧ needsAt e i = []
      · rw [if_pos hc] at h
        rcases List.mem_cons.1 h with h | h
        · exact ⟨0, h, by rw [hc.1]; rfl, hc.2⟩
        · exact tl h
      · rw [if_neg hc] at h
        exact tl h
    · rintro ⟨j, h1, h2, h3⟩
      cases j with
      | zero =>
        have h4 : s = 0 := by simpa using h2
        rw [if_pos ⟨h4, h3⟩, h1]; exact List.mem_cons_self ..
      | succ j =>
        have : x ∈ readyGo e (i + 1) l := readyGo_mem.2 ⟨j, by rw [h1]; omega, by rw [List.getElem?_cons_succ] at h2; exact h2, by rw [show i + 1 + j = i + (j + 1) by omega]; exact h3⟩
        split
        · exact List.mem_cons_of_mem _ this
        · exact this
theorem ready_mem {e : Engine} {x : Int} : x ∈ ready e ↔ ∃ A : Nat, x = (A : Int) ∧ e.state[A]? = some 0 ∧ needsAt e A = [] := by
  unfold ready
  rw [readyGo_mem]
  simp only [Nat.zero_add]
theorem needs_nil {e : Engine} (hW : WInv e) {A : Nat} {d : Deed} : needs e A d = [] ↔ ∀ k ∈ keysD d, (before e.chains k (e.base + A)).made = true := by
  refine ⟨needs_made hW, fun h => ?_⟩
  cases hn : needs e A d with
  | nil => rfl
  | cons x l =>
    have hx : x ∈ needs e A d := by rw [hn]; exact List.mem_cons_self ..
    unfold needs at hx
    obtain ⟨k, _, _, h1⟩ := needsGo_mem.1 hx
    obtain ⟨s, h2, h3, _⟩ := anyHit_iff.1 h1
    rw [h s h2] at h3
    cases h3
theorem go_ready {e : Engine} (hl : e.state.length = e.deeds.length) {A : Nat} (h0 : e.state[A]? = some 0) (hn : needsAt e A = []) :
    ∃ d, e.deeds[A]? = some d ∧ needs e A d = [] ∧ goE e (A : Int) = (goNew e A d, 0) := by
  have hA := (List.getElem?_eq_some_iff.1 h0).1
  obtain ⟨d, hd⟩ : ∃ d, e.deeds[A]? = some d := ⟨e.deeds[A]'(by omega), List.getElem?_eq_getElem (by omega)⟩
  unfold needsAt at hn
  rw [hd] at hn
  refine ⟨d, hd, hn, ?_⟩
  unfold goE goAt
  rw [if_neg (by omega), Int.toNat_natCast, hd]
  dsimp only
  rw [h0, if_neg (by simp), if_pos hn]
theorem first_wait {l : List Int} {A : Nat} (h : l[A]? = some 0) : ∃ B : Nat, l[B]? = some 0 ∧ ∀ j : Nat, j < B → l[j]? ≠ some 0 := by
  induction A using Nat.strongRecOn with
  | ind A ih =>
    by_cases hj : ∃ j, j < A ∧ l[j]? = some 0
    · obtain ⟨j, h1, h2⟩ := hj
      exact ih j h1 h2
    · exact ⟨A, h, fun j hj1 hj2 => hj ⟨j, hj1, hj2⟩⟩
/-- One of those that wait needs nobody. -/
theorem free_one {e : Engine} (hW : WInv e) {A : Nat} (h : e.state[A]? = some 0) : ∃ B : Nat, e.state[B]? = some 0 ∧ needsAt e B = [] := by
  obtain ⟨B, h1, h2⟩ := first_wait h
  refine ⟨B, h1, ?_⟩
  unfold needsAt
  split
  · refine (needs_nil hW).2 fun k _ => ?_
    cases hm : (before e.chains k (e.base + B)).made with
    | true => rfl
    | false =>
      rcases before_mem e.chains k (e.base + B) with h3 | ⟨c, h3, h4, h5, h6⟩
      · rw [h3] at hm; cases hm
      · obtain ⟨j, x, h7, h8, _⟩ := hW.n c h3 _ h5 hm
        exact absurd h8 (h2 j (by omega))
  · rfl
theorem ready_nil {e : Engine} {r : List Pair} (h : BInv e r) (hr : ready e = []) : ∀ s ∈ e.state, s = 1 := fun s hs => by
  rcases h.t s hs with rfl | h1
  · obtain ⟨A, hA⟩ := List.mem_iff_getElem?.1 hs
    obtain ⟨B, h1, h2⟩ := free_one h.W hA
    have : ((B : Nat) : Int) ∈ ready e := ready_mem.2 ⟨B, rfl, h1, h2⟩
    rw [hr] at this
    simp at this
  · exact h1
/-! ### All of them -/
def waitN : List Int → Nat
  | [] => 0
  | s :: l => if s = 0 then waitN l + 1 else waitN l
theorem waitN_set : ∀ {l : List Int} {A : Nat}, l[A]? = some 0 → waitN (l.set A 1) + 1 = waitN l
  | [], A, h => by simp at h
  | s :: l, 0, h => by simp at h; subst h; simp [waitN]
  | s :: l, A + 1, h => by
    have := waitN_set (l := l) (A := A) (by rw [List.getElem?_cons_succ] at h; exact h)
    simp only [List.set_cons_succ, waitN]
    split <;> omega
def pickAt (p : Int) (n : Nat) : Nat := ((p.tmod n + n).tmod n).toNat
theorem pickAt_lt {n : Nat} (h : 0 < n) (p : Int) : pickAt p n < n := by
  have := Int.tmod_lt_of_pos (p.tmod n + n) (show (0 : Int) < n by omega)
  unfold pickAt
  omega
def pickI (l : List Int) : List Int → Nat
  | [] => 0
  | p :: _ => pickAt p l.length
theorem pickI_lt {l : List Int} (h : l ≠ []) (p : List Int) : pickI l p < l.length := by
  have := List.length_pos_iff.2 h
  cases p with
  | nil => exact this
  | cons p _ => exact pickAt_lt this p
def allGo : Nat → Engine → List Int → Engine
  | 0, e, _ => e
  | f + 1, e, p => match (ready e)[pickI (ready e) p]? with
    | some x => allGo f (goE e x).1 p.tail
    | none => e
def allE (e : Engine) (p : List Int) : Engine := allGo (waitN e.state) e p
theorem all_nil {e : Engine} {p : List Int} (h : ready e = []) : allE e p = e := by
  unfold allE
  cases waitN e.state with
  | zero => rfl
  | succ f => simp only [allGo]; rw [h]; rfl
theorem all_step {e : Engine} (hl : e.state.length = e.deeds.length) {p : List Int} {x : Int} (hx : (ready e)[pickI (ready e) p]? = some x) :
    ∃ (A : Nat) (d : Deed), x = (A : Int) ∧ e.deeds[A]? = some d ∧ e.state[A]? = some 0 ∧ needs e A d = [] ∧ goE e x = (goNew e A d, 0) ∧ waitN (goE e x).1.state + 1 = waitN e.state ∧ allE e p = allE (goE e x).1 p.tail := by
  obtain ⟨A, rfl, h1, h2⟩ := ready_mem.1 (List.mem_of_getElem? hx)
  obtain ⟨d, h3, h4, h5⟩ := go_ready hl h1 h2
  have hw : waitN (goE e (A : Int)).1.state + 1 = waitN e.state := by rw [h5]; exact waitN_set h1
  refine ⟨A, d, rfl, h3, h1, h4, h5, hw, ?_⟩
  unfold allE
  rw [← hw]
  simp only [allGo]
  rw [hx]
theorem goE_deeds (e : Engine) (x : Int) : (goE e x).1.deeds = e.deeds ∧ (goE e x).1.base = e.base := by
  unfold goE
  split
  · exact ⟨rfl, rfl⟩
  unfold goAt
  split
  · split
    · exact ⟨rfl, rfl⟩
    split <;> exact ⟨rfl, rfl⟩
  · exact ⟨rfl, rfl⟩
theorem all_inv {r : List Pair} : ∀ {f : Nat} {e : Engine} {p : List Int}, waitN e.state = f → BInv e r → BInv (allE e p) r ∧ (allE e p).deeds = e.deeds ∧ (allE e p).base = e.base ∧ ∀ s ∈ (allE e p).state, s = 1
  | f, e, p, hf, h => by
    by_cases hr : ready e = []
    · rw [all_nil hr]
      exact ⟨h, rfl, rfl, ready_nil h hr⟩
    · have hp := pickI_lt hr p
      have hx : (ready e)[pickI (ready e) p]? = some ((ready e)[pickI (ready e) p]'hp) := List.getElem?_eq_getElem hp
      obtain ⟨A, d, h1, h2, h3, h4, h5, h6, h7⟩ := all_step h.W.l hx
      rw [h7]
      cases f with
      | zero => omega
      | succ f =>
        have ih := all_inv (f := f) (e := (goE e ((ready e)[pickI (ready e) p]'hp)).1) (p := p.tail) (by omega) (h.goE _)
        rw [(goE_deeds _ _).1, (goE_deeds _ _).2] at ih
        exact ih

/-! ### What keys have -/
def seenP (cs : List Chain) (b : Int) (c : Chain) : Option Pair := if (before cs c.key b).has = true then some ⟨c.key, (before cs c.key b).n⟩ else none
theorem rowsAtGo_made {cs : List Chain} {b : Int} : ∀ {l : List Chain} {out : List Pair}, (∀ c ∈ l, (before cs c.key b).made = true) → rowsAtGo cs b out l = (out ++ l.filterMap (seenP cs b), true)
  | [], out, _ => by simp [rowsAtGo]
  | c :: l, out, h => by
    have h1 := h c (List.mem_cons_self ..)
    have h2 : ∀ c ∈ l, (before cs c.key b).made = true := fun x hx => h x (List.mem_cons_of_mem _ hx)
    simp only [rowsAtGo]
    rw [if_neg (by rw [h1]; simp)]
    by_cases hh : (before cs c.key b).has = true
    · rw [if_pos hh, rowsAtGo_made h2, List.filterMap_cons_some (show seenP cs b c = some _ from if_pos hh)]
      simp
    · rw [if_neg hh, rowsAtGo_made h2, List.filterMap_cons_none (show seenP cs b c = none from if_neg hh)]
theorem rowsAt_made {cs : List Chain} {b : Int} (hs : Srt Chain.key cs) (hb : ∀ k, (before cs k b).has = false → (before cs k b).n = 0) (h : ∀ k, (before cs k b).made = true) :
    (rowsAt cs b).2 = true ∧ Srt Pair.key (rowsAt cs b).1 ∧ ∀ k, RF.get (rowsAt cs b).1 k = ((before cs k b).n, (before cs k b).has) := by
  have he : rowsAt cs b = (cs.filterMap (seenP cs b), true) := rowsAtGo_made fun c _ => h c.key
  have hsr : Srt Pair.key (cs.filterMap (seenP cs b)) := by
    refine List.pairwise_filterMap.2 (List.Pairwise.imp (fun {x y} hxy p hp q hq => ?_) hs)
    unfold seenP at hp hq
    split at hp
    · split at hq
      · cases hp; cases hq; exact hxy
      · cases hq
    · cases hp
  rw [he]
  refine ⟨rfl, hsr, fun k => ?_⟩
  show RF.get (cs.filterMap (seenP cs b)) k = _
  cases hh : (before cs k b).has with
  | true =>
    rcases before_mem cs k b with h1 | ⟨c, h1, rfl, _, _⟩
    · rw [h1] at hh; cases hh
    · have hm : (⟨c.key, (before cs c.key b).n⟩ : Pair) ∈ cs.filterMap (seenP cs b) := List.mem_filterMap.2 ⟨c, h1, if_pos hh⟩
      exact get_of_mem hsr hm
  | false =>
    rw [hb k hh]
    refine get_absent fun p hp e => ?_
    obtain ⟨c, h1, h2⟩ := List.mem_filterMap.1 hp
    unfold seenP at h2
    split at h2
    · next hc =>
      cases h2
      have e' : c.key = k := e
      rw [e', hh] at hc
      cases hc
    · cases h2
theorem done_made {e : Engine} (hW : WInv e) (h : ∀ s ∈ e.state, s = 1) (k : Str) (b : Int) : (before e.chains k b).made = true := by
  cases hm : (before e.chains k b).made with
  | true => rfl
  | false =>
    rcases before_mem e.chains k b with h1 | ⟨c, h1, _, h3, _⟩
    · rw [h1] at hm; cases hm
    · obtain ⟨j, x, _, h5, _⟩ := hW.n c h1 _ h3 hm
      have := h 0 (List.mem_of_getElem? h5)
      omega
theorem BInv.rows {e : Engine} {r : List Pair} (h : BInv e r) {i : Nat} (hi : i ≤ e.deeds.length) (hm : ∀ k, (before e.chains k (e.base + i)).made = true) : rowsAt e.chains (e.base + i) = (sq r e.deeds i, true) := by
  obtain ⟨h1, h2, h3⟩ := rowsAt_made h.S.k (fun k => h.W.bh k _) hm
  exact Prod.ext (get_ext h2 (sq_srt h.Q.s h.W.d i) fun k => by rw [h3, h.Q.m k i hi (hm k)]) h1

/-! ### How deeds ended -/
theorem allD_ends : ∀ {l : List Deed} {r : List Pair} {i : Nat} {d : Deed}, l[i]? = some d → (allD r l).2[i]? = some (doD (sq r l i) d).2
  | [], r, i, d, h => by simp at h
  | x :: l, r, 0, d, h => by simp at h; subst h; rfl
  | x :: l, r, i + 1, d, h => by
    rw [List.getElem?_cons_succ] at h
    have := allD_ends (r := (doD r x).1) h
    simp only [allD]
    rw [List.getElem?_cons_succ, this]
    rfl
theorem allD_len : ∀ {l : List Deed} {r : List Pair}, (allD r l).2.length = l.length
  | [], r => rfl
  | x :: l, r => by simp only [allD, List.length_cons]; rw [allD_len]
theorem BInv.ends {e : Engine} {r : List Pair} (h : BInv e r) (h1 : ∀ s ∈ e.state, s = 1) : e.ends = (allD r e.deeds).2 := by
  refine List.ext_getElem? fun i => ?_
  rcases Nat.lt_or_ge i e.deeds.length with hi | hi
  · have hd : e.deeds[i]? = some e.deeds[i] := List.getElem?_eq_getElem hi
    have hs : i < e.state.length := by rw [h.W.l]; exact hi
    have hs1 : e.state[i]? = some 1 := by
      rw [List.getElem?_eq_getElem hs, h1 _ (List.getElem_mem hs)]
    rw [h.Q.w i _ hd hs1, allD_ends hd]
  · rw [List.getElem?_eq_none (by rw [h.n]; exact hi), List.getElem?_eq_none (by rw [allD_len]; exact hi)]

end Go.Proofs.YtembfadhnkabhaaGreatDoor

/-! P12 -/
/-
  The laws of chapters 6, 7 and 8 that say more, in plain words.
-/
namespace Go.Proofs.YtembfadhnkabhaaGreatDoor
open Go.AX Go.RF

/-! ### Whichever goes first -/
theorem run_same {r : List Pair} {l : List Deed} {p : List Int} (hr : wrongRows r = 0) (hl : ∀ d ∈ l, wrongDeed d = 0) :
    (allE (addAll (newE r) l) p).state.length = l.length ∧ (allE (addAll (newE r) l) p).ends = (allD r l).2 ∧ (∀ s ∈ (allE (addAll (newE r) l) p).state, s = 1) ∧
      ∀ i : Nat, i ≤ l.length → rowsAt (allE (addAll (newE r) l) p).chains i = (sq r l i, true) := by
  have hb := (newE_b hr).addAll hl
  obtain ⟨h1, h2, h3, h4⟩ := all_inv (p := p) rfl hb
  have hd : (addAll (newE r) l).deeds = l := by rw [addAll_deeds.1]; rfl
  have hba : (addAll (newE r) l).base = 0 := by rw [addAll_deeds.2]; rfl
  rw [hd] at h2
  rw [hba] at h3
  refine ⟨by rw [h1.W.l, h2], by rw [h1.ends h4, h2], h4, fun i hi => ?_⟩
  have := h1.rows (i := i) (by rw [h2]; exact hi) fun k => done_made h1.W h4 k _
  rw [h2, h3, Int.zero_add] at this
  exact this

/-! ### Who is done stays done -/
/-! ### Who comes later changes nothing ahead -/
/-! ### What is forgotten -/
/-! ### What is done leaves one each -/
end Go.Proofs.YtembfadhnkabhaaGreatDoor

/-! G24 -/
/-
  Contract of the references' Finish: all deeds are done, the first one that is ready first.
-/
namespace Go.Proofs.YtembfadhnkabhaaGreatDoor
open Go.AX Go.RF

set_option maxRecDepth 100000
set_option maxHeartbeats 8000000

theorem EInv.allE {N : Nat} : ∀ {f : Nat} {e : Engine} {p : List Int}, waitN e.state = f → EInv e N → EInv (allE e p) N
  | f, e, p, hf, h => by
    by_cases hr : ready e = []
    · rw [all_nil hr]
      exact h
    · have hp := pickI_lt hr p
      have hx : (ready e)[pickI (ready e) p]? = some ((ready e)[pickI (ready e) p]'hp) := List.getElem?_eq_getElem hp
      obtain ⟨A, d, h1, h2, h3, h4, h5, h6, h7⟩ := all_step h.z.s hx
      rw [h7]
      cases f with
      | zero => omega
      | succ f => exact EInv.allE (f := f) (p := p.tail) (by omega) (h.goE _)
end Go.Proofs.YtembfadhnkabhaaGreatDoor

/-! F4 -/
/-
  Contract of the references' WrongRows.
-/
namespace Go.Proofs.YtembfadhnkabhaaGreatDoor
open Go.AX Go.RF

set_option maxRecDepth 100000
set_option maxHeartbeats 4000000

theorem ok_wrongRows (l : List Pair) (hl : l.length ≤ 268435456) (hk : ∀ p ∈ l, p.key.length ≤ 1073741824) : FnOk Tryz.prog 9 [.d (encRows l)] (.one (dint (wrongRows l))) := by
  refine fnOk_of tbl_ok mixed_ok Tryz.func9 rfl (by kernel_rfl) rfl rfl fun w0 own0 => ?_
  repeat (first | ((with_reducible apply s1); exact rfl) | (with_reducible first | apply CW.seq | apply CW.block | apply CW.region | apply CW.draw | apply CW.skip | apply CW.exit | apply CW.ret | apply q_then | apply q_then_exit | apply q_then_ret | apply q_block | apply q_block_ret | apply q_block_hit | apply q_ret | apply q_end | apply q_loop_exit | apply q_loop_ret | apply q_loopT_exit | apply q_loopT_ret | apply RW.nil) | ((with_reducible apply s3); exact rfl; exact by_k) | ((with_reducible apply s2); exact rfl; exact by_k) | ((with_reducible apply s4); exact rfl) | ((with_reducible apply s5); (first | exact by_oa); exact by_g) | ((with_reducible apply CW.cond_t); exact rfl; exact by_ks) | ((with_reducible apply CW.cond_f); exact rfl; exact by_ks) | ((with_reducible apply q_block_miss); exact rfl) | (refine And.intro (show chk [] [] _ _ = true by kernel_rfl) ?_))
  refine CW.loopT (fun t : Nat × Str => [(.s 3, .av (.d (dstr t.2))), (.s 6, .av (.d (encRows l))), (.s 7, .av (.d (dint l.length))), (.s 8, .av (.d (dint t.1))), (.nx, .num 0)])
    (fun t => t.1 ≤ l.length ∧ wrongRowsGo t.1 t.2 (l.drop t.1) = wrongRows l) (fun t => l.length - t.1) (0, []) ⟨by omega, rfl⟩ ?_ ?_
  ·
    exact by_less
  · rintro ⟨i, last⟩ ⟨hi, hI⟩
    dsimp only at hi hI ⊢
    rcases drop_case hi with ⟨h1, h2⟩ | ⟨p, h1, h2, h3⟩
    · rw [h1] at hI
      simp only [wrongRowsGo] at hI
      repeat (first | ((with_reducible apply s1); exact rfl) | (with_reducible first | apply CW.seq | apply CW.block | apply CW.region | apply CW.draw | apply CW.skip | apply CW.exit | apply CW.ret | apply q_then | apply q_then_exit | apply q_then_ret | apply q_block | apply q_block_ret | apply q_block_hit | apply q_ret | apply q_end | apply q_loop_exit | apply q_loop_ret | apply q_loopT_exit | apply q_loopT_ret | apply RW.nil) | ((with_reducible apply s3); exact rfl; exact by_k) | ((with_reducible apply s2); exact rfl; exact by_k) | ((with_reducible apply s4); exact rfl) | ((with_reducible apply s5); (first | exact by_oa); exact by_g) | ((with_reducible apply CW.cond_t); exact rfl; exact by_ks) | ((with_reducible apply CW.cond_f); exact rfl; exact by_ks) | ((with_reducible apply q_block_miss); exact rfl) | (refine And.intro (show chk [] [] _ _ = true by kernel_rfl) ?_))
      exact .one (.tmp rfl (.one (.d (dle_int hI))))
    · rw [h1] at hI
      simp only [wrongRowsGo] at hI
      have hc := ok_key p.key (hk p (List.mem_of_getElem? h2))
      cases h4 : key p.key
      · rw [if_pos h4] at hI
        repeat (first | ((with_reducible apply s1); exact rfl) | (with_reducible first | apply CW.seq | apply CW.block | apply CW.region | apply CW.draw | apply CW.skip | apply CW.exit | apply CW.ret | apply q_then | apply q_then_exit | apply q_then_ret | apply q_block | apply q_block_ret | apply q_block_hit | apply q_ret | apply q_end | apply q_loop_exit | apply q_loop_ret | apply q_loopT_exit | apply q_loopT_ret | apply RW.nil) | ((with_reducible apply s3); exact rfl; exact by_k) | ((with_reducible apply s2); exact rfl; exact by_k) | ((with_reducible apply s4); exact rfl) | ((with_reducible apply s5); (first | (focus ((with_reducible apply a_call); exact hc; exact rfl; (repeat (first | exact SubsE.nil | (apply SubsE.cons; exact rfl; (first | exact .d (.refl _) | exact .d (.nil _) | exact .agg rfl (.refl _) | exact .pd | exact .ptr rfl); (first | exact trivial | exact ⟨rfl, trivial⟩)))); done)) | exact by_oa); exact by_g) | ((with_reducible apply CW.cond_t); exact rfl; exact by_ks) | ((with_reducible apply CW.cond_f); exact rfl; exact by_ks) | ((with_reducible apply q_block_miss); exact rfl) | (refine And.intro (show chk [] [] _ _ = true by kernel_rfl) ?_))
        exact .one (.tmp rfl (.one (.d (dle_int hI))))
      · rw [if_neg (by simp [h4])] at hI
        by_cases h5 : 0 < i
        · cases h6 : sle p.key last
          · rw [if_neg (by simp [h6])] at hI
            have h6' : (Go.Op.bytesLess p.key last || decide (p.key = last)) = false := h6
            by_cases h7 : 1073741824 < p.n
            · rw [if_pos (.inl h7)] at hI
              repeat (first | ((with_reducible apply s1); exact rfl) | (with_reducible first | apply CW.seq | apply CW.block | apply CW.region | apply CW.draw | apply CW.skip | apply CW.exit | apply CW.ret | apply q_then | apply q_then_exit | apply q_then_ret | apply q_block | apply q_block_ret | apply q_block_hit | apply q_ret | apply q_end | apply q_loop_exit | apply q_loop_ret | apply q_loopT_exit | apply q_loopT_ret | apply RW.nil) | ((with_reducible apply s3); exact rfl; exact by_k) | ((with_reducible apply s2); exact rfl; exact by_k) | ((with_reducible apply s4); exact rfl) | ((with_reducible apply s5); (first | (focus ((with_reducible apply a_call); exact hc; exact rfl; (repeat (first | exact SubsE.nil | (apply SubsE.cons; exact rfl; (first | exact .d (.refl _) | exact .d (.nil _) | exact .agg rfl (.refl _) | exact .pd | exact .ptr rfl); (first | exact trivial | exact ⟨rfl, trivial⟩)))); done)) | exact by_oa); exact by_g) | ((with_reducible apply CW.cond_t); exact rfl; exact by_ks) | ((with_reducible apply CW.cond_f); exact rfl; exact by_ks) | ((with_reducible apply q_block_miss); exact rfl) | (refine And.intro (show chk [] [] _ _ = true by kernel_rfl) ?_))
              exact .one (.tmp rfl (.one (.d (dle_int hI))))
            · by_cases h8 : p.n < -1073741824
              · rw [if_pos (.inr h8)] at hI
                repeat (first | ((with_reducible apply s1); exact rfl) | (with_reducible first | apply CW.seq | apply CW.block | apply CW.region | apply CW.draw | apply CW.skip | apply CW.exit | apply CW.ret | apply q_then | apply q_then_exit | apply q_then_ret | apply q_block | apply q_block_ret | apply q_block_hit | apply q_ret | apply q_end | apply q_loop_exit | apply q_loop_ret | apply q_loopT_exit | apply q_loopT_ret | apply RW.nil) | ((with_reducible apply s3); exact rfl; exact by_k) | ((with_reducible apply s2); exact rfl; exact by_k) | ((with_reducible apply s4); exact rfl) | ((with_reducible apply s5); (first | (focus ((with_reducible apply a_call); exact hc; exact rfl; (repeat (first | exact SubsE.nil | (apply SubsE.cons; exact rfl; (first | exact .d (.refl _) | exact .d (.nil _) | exact .agg rfl (.refl _) | exact .pd | exact .ptr rfl); (first | exact trivial | exact ⟨rfl, trivial⟩)))); done)) | exact by_oa); exact by_g) | ((with_reducible apply CW.cond_t); exact rfl; exact by_ks) | ((with_reducible apply CW.cond_f); exact rfl; exact by_ks) | ((with_reducible apply q_block_miss); exact rfl) | (refine And.intro (show chk [] [] _ _ = true by kernel_rfl) ?_))
                exact .one (.tmp rfl (.one (.d (dle_int hI))))
              · rw [if_neg (by omega)] at hI
                repeat (first | ((with_reducible apply s1); exact rfl) | (with_reducible first | apply CW.seq | apply CW.block | apply CW.region | apply CW.draw | apply CW.skip | apply CW.exit | apply CW.ret | apply q_then | apply q_then_exit | apply q_then_ret | apply q_block | apply q_block_ret | apply q_block_hit | apply q_ret | apply q_end | apply q_loop_exit | apply q_loop_ret | apply q_loopT_exit | apply q_loopT_ret | apply RW.nil) | ((with_reducible apply s3); exact rfl; exact by_k) | ((with_reducible apply s2); exact rfl; exact by_k) | ((with_reducible apply s4); exact rfl) | ((with_reducible apply s5); (first | (focus ((with_reducible apply a_call); exact hc; exact rfl; (repeat (first | exact SubsE.nil | (apply SubsE.cons; exact rfl; (first | exact .d (.refl _) | exact .d (.nil _) | exact .agg rfl (.refl _) | exact .pd | exact .ptr rfl); (first | exact trivial | exact ⟨rfl, trivial⟩)))); done)) | exact by_oa); exact by_g) | ((with_reducible apply CW.cond_t); exact rfl; exact by_ks) | ((with_reducible apply CW.cond_f); exact rfl; exact by_ks) | ((with_reducible apply q_block_miss); exact rfl) | (refine And.intro (show chk [] [] _ _ = true by kernel_rfl) ?_))
                refine q_loopT (i + 1, _) ⟨by omega, hI⟩ (by dsimp only; omega) ?_
                exact by_less
          · rw [if_pos ⟨h5, h6⟩] at hI
            have h6' : (Go.Op.bytesLess p.key last || decide (p.key = last)) = true := h6
            repeat (first | ((with_reducible apply s1); exact rfl) | (with_reducible first | apply CW.seq | apply CW.block | apply CW.region | apply CW.draw | apply CW.skip | apply CW.exit | apply CW.ret | apply q_then | apply q_then_exit | apply q_then_ret | apply q_block | apply q_block_ret | apply q_block_hit | apply q_ret | apply q_end | apply q_loop_exit | apply q_loop_ret | apply q_loopT_exit | apply q_loopT_ret | apply RW.nil) | ((with_reducible apply s3); exact rfl; exact by_k) | ((with_reducible apply s2); exact rfl; exact by_k) | ((with_reducible apply s4); exact rfl) | ((with_reducible apply s5); (first | (focus ((with_reducible apply a_call); exact hc; exact rfl; (repeat (first | exact SubsE.nil | (apply SubsE.cons; exact rfl; (first | exact .d (.refl _) | exact .d (.nil _) | exact .agg rfl (.refl _) | exact .pd | exact .ptr rfl); (first | exact trivial | exact ⟨rfl, trivial⟩)))); done)) | exact by_oa); exact by_g) | ((with_reducible apply CW.cond_t); exact rfl; exact by_ks) | ((with_reducible apply CW.cond_f); exact rfl; exact by_ks) | ((with_reducible apply q_block_miss); exact rfl) | (refine And.intro (show chk [] [] _ _ = true by kernel_rfl) ?_))
            exact .one (.tmp rfl (.one (.d (dle_int hI))))
        · rw [if_neg (by simp; omega)] at hI
          by_cases h7 : 1073741824 < p.n
          · rw [if_pos (.inl h7)] at hI
            repeat (first | ((with_reducible apply s1); exact rfl) | (with_reducible first | apply CW.seq | apply CW.block | apply CW.region | apply CW.draw | apply CW.skip | apply CW.exit | apply CW.ret | apply q_then | apply q_then_exit | apply q_then_ret | apply q_block | apply q_block_ret | apply q_block_hit | apply q_ret | apply q_end | apply q_loop_exit | apply q_loop_ret | apply q_loopT_exit | apply q_loopT_ret | apply RW.nil) | ((with_reducible apply s3); exact rfl; exact by_k) | ((with_reducible apply s2); exact rfl; exact by_k) | ((with_reducible apply s4); exact rfl) | ((with_reducible apply s5); (first | (focus ((with_reducible apply a_call); exact hc; exact rfl; (repeat (first | exact SubsE.nil | (apply SubsE.cons; exact rfl; (first | exact .d (.refl _) | exact .d (.nil _) | exact .agg rfl (.refl _) | exact .pd | exact .ptr rfl); (first | exact trivial | exact ⟨rfl, trivial⟩)))); done)) | exact by_oa); exact by_g) | ((with_reducible apply CW.cond_t); exact rfl; exact by_ks) | ((with_reducible apply CW.cond_f); exact rfl; exact by_ks) | ((with_reducible apply q_block_miss); exact rfl) | (refine And.intro (show chk [] [] _ _ = true by kernel_rfl) ?_))
            exact .one (.tmp rfl (.one (.d (dle_int hI))))
          · by_cases h8 : p.n < -1073741824
            · rw [if_pos (.inr h8)] at hI
              repeat (first | ((with_reducible apply s1); exact rfl) | (with_reducible first | apply CW.seq | apply CW.block | apply CW.region | apply CW.draw | apply CW.skip | apply CW.exit | apply CW.ret | apply q_then | apply q_then_exit | apply q_then_ret | apply q_block | apply q_block_ret | apply q_block_hit | apply q_ret | apply q_end | apply q_loop_exit | apply q_loop_ret | apply q_loopT_exit | apply q_loopT_ret | apply RW.nil) | ((with_reducible apply s3); exact rfl; exact by_k) | ((with_reducible apply s2); exact rfl; exact by_k) | ((with_reducible apply s4); exact rfl) | ((with_reducible apply s5); (first | (focus ((with_reducible apply a_call); exact hc; exact rfl; (repeat (first | exact SubsE.nil | (apply SubsE.cons; exact rfl; (first | exact .d (.refl _) | exact .d (.nil _) | exact .agg rfl (.refl _) | exact .pd | exact .ptr rfl); (first | exact trivial | exact ⟨rfl, trivial⟩)))); done)) | exact by_oa); exact by_g) | ((with_reducible apply CW.cond_t); exact rfl; exact by_ks) | ((with_reducible apply CW.cond_f); exact rfl; exact by_ks) | ((with_reducible apply q_block_miss); exact rfl) | (refine And.intro (show chk [] [] _ _ = true by kernel_rfl) ?_))
              exact .one (.tmp rfl (.one (.d (dle_int hI))))
            · rw [if_neg (by omega)] at hI
              repeat (first | ((with_reducible apply s1); exact rfl) | (with_reducible first | apply CW.seq | apply CW.block | apply CW.region | apply CW.draw | apply CW.skip | apply CW.exit | apply CW.ret | apply q_then | apply q_then_exit | apply q_then_ret | apply q_block | apply q_block_ret | apply q_block_hit | apply q_ret | apply q_end | apply q_loop_exit | apply q_loop_ret | apply q_loopT_exit | apply q_loopT_ret | apply RW.nil) | ((with_reducible apply s3); exact rfl; exact by_k) | ((with_reducible apply s2); exact rfl; exact by_k) | ((with_reducible apply s4); exact rfl) | ((with_reducible apply s5); (first | (focus ((with_reducible apply a_call); exact hc; exact rfl; (repeat (first | exact SubsE.nil | (apply SubsE.cons; exact rfl; (first | exact .d (.refl _) | exact .d (.nil _) | exact .agg rfl (.refl _) | exact .pd | exact .ptr rfl); (first | exact trivial | exact ⟨rfl, trivial⟩)))); done)) | exact by_oa); exact by_g) | ((with_reducible apply CW.cond_t); exact rfl; exact by_ks) | ((with_reducible apply CW.cond_f); exact rfl; exact by_ks) | ((with_reducible apply q_block_miss); exact rfl) | (refine And.intro (show chk [] [] _ _ = true by kernel_rfl) ?_))
              refine q_loopT (i + 1, _) ⟨by omega, hI⟩ (by dsimp only; omega) ?_
              exact by_less

end Go.Proofs.YtembfadhnkabhaaGreatDoor

/-! L6 -/
/-
  The law RunTells answers true of whatever data.
-/
namespace Go.Proofs.YtembfadhnkabhaaGreatDoor
open Go.AX Go.RF

set_option maxRecDepth 100000
set_option maxHeartbeats 8000000

theorem ok_pgoE (e : Engine) (at_ : Int) (hs : e.Sm) (hS : SInv e) (hW : WInv e) (hc : chOk e.chains) (hn : e.ends.length = e.deeds.length) :
    FnOk Tryz.prog 20 [.d (.agg e.enc), .d (dint at_)] (.tup [.agg (goE e at_).1.enc, dint (goE e at_).2]) := by
  have hdl := hs.d
  have co := ok_planOwn e hs
  unfold goE
  by_cases h1 : at_ < 0
  · rw [if_pos h1]
    refine fnOk_of tbl_ok mixed_ok Tryz.func20 rfl (by kernel_rfl) rfl rfl fun w0 own0 => ?_
    repeat (first | ((with_reducible apply s1); exact rfl) | (with_reducible first | apply CW.seq | apply CW.block | apply CW.region | apply CW.draw | apply CW.skip | apply CW.exit | apply CW.ret | apply q_then | apply q_then_exit | apply q_then_ret | apply q_block | apply q_block_ret | apply q_block_hit | apply q_ret | apply q_end | apply q_loop_exit | apply q_loop_ret | apply q_loopT_exit | apply q_loopT_ret | apply RW.nil) | ((with_reducible apply s3); exact rfl; exact by_k) | ((with_reducible apply s2); exact rfl; exact by_k) | ((with_reducible apply s4); exact rfl) | ((with_reducible apply s5); (first | (focus ((with_reducible apply a_call); exact co; exact rfl; (repeat (first | exact SubsE.nil | (apply SubsE.cons; exact rfl; (first | exact .d (.refl _) | exact .d (.nil _) | exact .agg rfl (.refl _) | exact .pd | exact .ptr rfl); (first | exact trivial | exact ⟨rfl, trivial⟩)))); done)) | exact by_oa); exact by_g) | ((with_reducible apply CW.cond_t); exact rfl; exact by_ks) | ((with_reducible apply CW.cond_f); exact rfl; exact by_ks) | ((with_reducible apply q_block_miss); exact rfl) | (refine And.intro (show chk [] [] _ _ = true by kernel_rfl) ?_))
    exact .two (.cell rfl rfl rfl rfl (.aggd rfl (.refl _))) (.tmp rfl (.one (.d (.refl _))))
  rw [if_neg h1]
  obtain ⟨A, rfl⟩ := Int.eq_ofNat_of_zero_le (show 0 ≤ at_ by omega)
  rw [Int.toNat_natCast]
  unfold goAt
  cases hd : e.deeds[A]? with
  | none =>
    have hge : e.deeds.length ≤ A := List.getElem?_eq_none_iff.1 hd
    refine fnOk_of tbl_ok mixed_ok Tryz.func20 rfl (by kernel_rfl) rfl rfl fun w0 own0 => ?_
    repeat (first | ((with_reducible apply s1); exact rfl) | (with_reducible first | apply CW.seq | apply CW.block | apply CW.region | apply CW.draw | apply CW.skip | apply CW.exit | apply CW.ret | apply q_then | apply q_then_exit | apply q_then_ret | apply q_block | apply q_block_ret | apply q_block_hit | apply q_ret | apply q_end | apply q_loop_exit | apply q_loop_ret | apply q_loopT_exit | apply q_loopT_ret | apply RW.nil) | ((with_reducible apply s3); exact rfl; exact by_k) | ((with_reducible apply s2); exact rfl; exact by_k) | ((with_reducible apply s4); exact rfl) | ((with_reducible apply s5); (first | (focus ((with_reducible apply a_call); exact co; exact rfl; (repeat (first | exact SubsE.nil | (apply SubsE.cons; exact rfl; (first | exact .d (.refl _) | exact .d (.nil _) | exact .agg rfl (.refl _) | exact .pd | exact .ptr rfl); (first | exact trivial | exact ⟨rfl, trivial⟩)))); done)) | exact by_oa); exact by_g) | ((with_reducible apply CW.cond_t); exact rfl; exact by_ks) | ((with_reducible apply CW.cond_f); exact rfl; exact by_ks) | ((with_reducible apply q_block_miss); exact rfl) | (refine And.intro (show chk [] [] _ _ = true by kernel_rfl) ?_))
    exact .two (.cell rfl rfl rfl rfl (.aggd rfl (.refl _))) (.tmp rfl (.one (.d (.refl _))))
  | some d =>
    have hA := (List.getElem?_eq_some_iff.1 hd).1
    dsimp only
    obtain ⟨s, hsA⟩ : ∃ s, e.state[A]? = some s := ⟨e.state[A]'(by rw [hW.l]; exact hA), List.getElem?_eq_getElem (by rw [hW.l]; exact hA)⟩
    by_cases hs1 : s = 1
    · subst hs1
      rw [if_pos hsA]
      refine fnOk_of tbl_ok mixed_ok Tryz.func20 rfl (by kernel_rfl) rfl rfl fun w0 own0 => ?_
      repeat (first | ((with_reducible apply s1); exact rfl) | (with_reducible first | apply CW.seq | apply CW.block | apply CW.region | apply CW.draw | apply CW.skip | apply CW.exit | apply CW.ret | apply q_then | apply q_then_exit | apply q_then_ret | apply q_block | apply q_block_ret | apply q_block_hit | apply q_ret | apply q_end | apply q_loop_exit | apply q_loop_ret | apply q_loopT_exit | apply q_loopT_ret | apply RW.nil) | ((with_reducible apply s3); exact rfl; exact by_k) | ((with_reducible apply s2); exact rfl; exact by_k) | ((with_reducible apply s4); exact rfl) | ((with_reducible apply s5); (first | (focus ((with_reducible apply a_call); exact co; exact rfl; (repeat (first | exact SubsE.nil | (apply SubsE.cons; exact rfl; (first | exact .d (.refl _) | exact .d (.nil _) | exact .agg rfl (.refl _) | exact .pd | exact .ptr rfl); (first | exact trivial | exact ⟨rfl, trivial⟩)))); done)) | exact by_oa); exact by_g) | ((with_reducible apply CW.cond_t); exact rfl; exact by_ks) | ((with_reducible apply CW.cond_f); exact rfl; exact by_ks) | ((with_reducible apply q_block_miss); exact rfl) | (refine And.intro (show chk [] [] _ _ = true by kernel_rfl) ?_))
      exact .two (.cell rfl rfl rfl rfl (.aggd rfl (.refl _))) (.tmp rfl (.one (.d (.refl _))))
    rw [if_neg (by rw [hsA]; simpa using hs1)]
    have hw := hW.d d (List.mem_of_getElem? hd)
    have cn := ok_pneeds e A d hs hd (wrong_keys hw).1 hS.k hW.nb
    cases hne : needs e A d with
    | nil =>
      rw [if_pos rfl]
      rw [hne] at cn
      have := pgo_loop e A d hs hd hW.l hn hS.k hw hc (e.base + e.deeds.length) (fun c hc => ⟨hS.v c hc, hS.b c hc⟩) hne s hsA hs1 cn
      rw [pgoNew_eq hW hd] at this
      exact this
    | cons x l =>
      rw [if_neg (by simp)]
      rw [hne] at cn
      have hnl : (needs e A d).length ≤ 268435456 := by
        have := needs_len e.chains e.base (e.base + A) (keysD d) (List.range A) 0
        unfold needs
        simp at this
        omega
      rw [hne] at hnl
      have hpos : ((x :: l).length : Int) > 0 := by simp
      refine fnOk_of tbl_ok mixed_ok Tryz.func20 rfl (by kernel_rfl) rfl rfl fun w0 own0 => ?_
      repeat (first | ((with_reducible apply s1); exact rfl) | (with_reducible first | apply CW.seq | apply CW.block | apply CW.region | apply CW.draw | apply CW.skip | apply CW.exit | apply CW.ret | apply q_then | apply q_then_exit | apply q_then_ret | apply q_block | apply q_block_ret | apply q_block_hit | apply q_ret | apply q_end | apply q_loop_exit | apply q_loop_ret | apply q_loopT_exit | apply q_loopT_ret | apply RW.nil) | ((with_reducible apply s3); exact rfl; exact by_k) | ((with_reducible apply s2); exact rfl; exact by_k) | ((with_reducible apply s4); exact rfl) | ((with_reducible apply s5); (first | (focus ((with_reducible apply a_call); exact co; exact rfl; (repeat (first | exact SubsE.nil | (apply SubsE.cons; exact rfl; (first | exact .d (.refl _) | exact .d (.nil _) | exact .agg rfl (.refl _) | exact .pd | exact .ptr rfl); (first | exact trivial | exact ⟨rfl, trivial⟩)))); done)) | (focus ((with_reducible apply a_call); exact cn; exact rfl; (repeat (first | exact SubsE.nil | (apply SubsE.cons; exact rfl; (first | exact .d (.refl _) | exact .d (.nil _) | exact .agg rfl (.refl _) | exact .pd | exact .ptr rfl); (first | exact trivial | exact ⟨rfl, trivial⟩)))); done)) | exact by_oa); exact by_g) | ((with_reducible apply CW.cond_t); exact rfl; exact by_ks) | ((with_reducible apply CW.cond_f); exact rfl; exact by_ks) | ((with_reducible apply q_block_miss); exact rfl) | (refine And.intro (show chk [] [] _ _ = true by kernel_rfl) ?_))
      exact .two (.cell rfl rfl rfl rfl (.aggd rfl (.refl _))) (.tmp rfl (.one (.d (.refl _))))

end Go.Proofs.YtembfadhnkabhaaGreatDoor

/-! G25 -/
/-
  Contract of run.All: all deeds are done, in whatever order picks tell.
-/
namespace Go.Proofs.YtembfadhnkabhaaGreatDoor
open Go.AX Go.RF

set_option maxRecDepth 100000
set_option maxHeartbeats 8000000

theorem pick_at {a : Int} {n : Nat} (h : 0 < n) : (a.tmod n + n).tmod n = (pickAt a n : Int) ∧ -(n : Int) < a.tmod n ∧ a.tmod n < n := by
  have h1 := Int.tmod_lt_of_pos a (show (0 : Int) < n by omega)
  have h2 := Int.tmod_lt_of_pos (-a) (show (0 : Int) < n by omega)
  rw [Int.neg_tmod] at h2
  have h3 : 0 ≤ (a.tmod n + n).tmod n := Int.tmod_nonneg _ (by omega)
  unfold pickAt
  omega

theorem ok_runAll (e : Engine) (p : List Int) (N : Nat) (hE : EInv e N) (hN : N ≤ 100000000) (hS : SInv e) (hW : WInv e) (hp : p.length ≤ 1073741824) :
    FnOk Tryz.prog 13 [.d (.agg e.enc), .d (encInts p)] (.one (.agg (allE e p).enc)) := by
  refine fnOk_of tbl_ok mixed_ok Tryz.func13 rfl (by kernel_rfl) rfl rfl fun w0 own0 => ?_
  have c1 := ok_planOwn e (hE.z.sm (by omega))
  repeat (first | ((with_reducible apply s1); exact rfl) | (with_reducible first | apply CW.seq | apply CW.block | apply CW.region | apply CW.draw | apply CW.skip | apply CW.exit | apply CW.ret | apply q_then | apply q_then_exit | apply q_then_ret | apply q_block | apply q_block_ret | apply q_block_hit | apply q_ret | apply q_end | apply q_loop_exit | apply q_loop_ret | apply q_loopT_exit | apply q_loopT_ret | apply RW.nil) | ((with_reducible apply s3); exact rfl; exact by_k) | ((with_reducible apply s2); exact rfl; exact by_k) | ((with_reducible apply s4); exact rfl) | ((with_reducible apply s5); (first | (focus ((with_reducible apply a_call); exact c1; exact rfl; (repeat (first | exact SubsE.nil | (apply SubsE.cons; exact rfl; (first | exact .d (.refl _) | exact .d (.nil _) | exact .agg rfl (.refl _) | exact .pd | exact .ptr rfl); (first | exact trivial | exact ⟨rfl, trivial⟩)))); done)) | exact by_oa); exact by_g) | ((with_reducible apply CW.cond_t); exact rfl; exact by_ks) | ((with_reducible apply CW.cond_f); exact rfl; exact by_ks) | ((with_reducible apply q_block_miss); exact rfl) | (refine And.intro (show chk [] [] _ _ = true by kernel_rfl) ?_))
  refine CW.loopT (fun t : Engine × List Int => [sp 4 1, ob 1 noE.enc0, sp 5 2, ob 2 t.1.enc, sd 1 (encInts t.2), nxt 3])
    (fun t => EInv t.1 N ∧ SInv t.1 ∧ WInv t.1 ∧ t.2.length ≤ 1073741824 ∧ allE t.1 t.2 = allE e p) (fun t => waitN t.1.state) (e, p) ⟨hE, hS, hW, hp, rfl⟩ ?_ ?_
  ·
    exact by_less
  · rintro ⟨t, q⟩ ⟨hT, hS, hW, hq, hI⟩
    dsimp only at hT hS hW hq hI ⊢
    have hsm := hT.z.sm (by omega)
    have cr := ok_pready t hsm hT.z.s (fun d hd => (wrong_keys (hW.d d hd)).1) hS.k hW.nb
    by_cases hr : ready t = []
    · rw [all_nil hr] at hI
      rw [hr] at cr
      repeat (first | ((with_reducible apply s1); exact rfl) | (with_reducible first | apply CW.seq | apply CW.block | apply CW.region | apply CW.draw | apply CW.skip | apply CW.exit | apply CW.ret | apply q_then | apply q_then_exit | apply q_then_ret | apply q_block | apply q_block_ret | apply q_block_hit | apply q_ret | apply q_end | apply q_loop_exit | apply q_loop_ret | apply q_loopT_exit | apply q_loopT_ret | apply RW.nil) | ((with_reducible apply s3); exact rfl; exact by_k) | ((with_reducible apply s2); exact rfl; exact by_k) | ((with_reducible apply s4); exact rfl) | ((with_reducible apply s5); (first | (focus ((with_reducible apply a_call); exact cr; exact rfl; (repeat (first | exact SubsE.nil | (apply SubsE.cons; exact rfl; (first | exact .d (.refl _) | exact .d (.nil _) | exact .agg rfl (.refl _) | exact .pd | exact .ptr rfl); (first | exact trivial | exact ⟨rfl, trivial⟩)))); done)) | exact by_oa); exact by_g) | ((with_reducible apply CW.cond_t); exact rfl; exact by_ks) | ((with_reducible apply CW.cond_f); exact rfl; exact by_ks) | ((with_reducible apply q_block_miss); exact rfl) | (refine And.intro (show chk [] [] _ _ = true by kernel_rfl) ?_))
      exact .one (.cell rfl rfl rfl rfl (.aggd (ds := t.enc) rfl (dle_eq (by rw [hI]))))
    · have hn := List.length_pos_iff.2 hr
      have hpi := pickI_lt hr q
      obtain ⟨x, hx⟩ : ∃ x, (ready t)[pickI (ready t) q]? = some x := ⟨_, List.getElem?_eq_getElem hpi⟩
      obtain ⟨A, d, h1, h2, h3, h4, h5, h6, h7⟩ := all_step hT.z.s hx
      rw [h7] at hI
      have hrl : (ready t).length ≤ 100000000 := by
        have := readyGo_len (e := t) t.state 0
        have h5 := hT.z.d
        have h6 := hT.z.s
        unfold ready; omega
      have cg := ok_pgoE t x hsm hS hW hT.c hT.z.n
      have hT2 := hT.goE x
      have hS2 := hS.goE x
      have hW2 := hW.goE x
      generalize ready t = L at *
      generalize (goE t x).2 = v at cg
      generalize (goE t x).1 = t2 at *
      have hl0 : ¬ L.length = 0 := by omega
      cases q with
      | nil =>
        repeat (first | ((with_reducible apply s1); exact rfl) | (with_reducible first | apply CW.seq | apply CW.block | apply CW.region | apply CW.draw | apply CW.skip | apply CW.exit | apply CW.ret | apply q_then | apply q_then_exit | apply q_then_ret | apply q_block | apply q_block_ret | apply q_block_hit | apply q_ret | apply q_end | apply q_loop_exit | apply q_loop_ret | apply q_loopT_exit | apply q_loopT_ret | apply RW.nil) | ((with_reducible apply s3); exact rfl; exact by_k) | ((with_reducible apply s2); exact rfl; exact by_k) | ((with_reducible apply s4); exact rfl) | ((with_reducible apply s5); (first | (focus ((with_reducible apply a_call); exact cr; exact rfl; (repeat (first | exact SubsE.nil | (apply SubsE.cons; exact rfl; (first | exact .d (.refl _) | exact .d (.nil _) | exact .agg rfl (.refl _) | exact .pd | exact .ptr rfl); (first | exact trivial | exact ⟨rfl, trivial⟩)))); done)) | (focus ((with_reducible apply a_call); exact cg; exact rfl; (repeat (first | exact SubsE.nil | (apply SubsE.cons; exact rfl; (first | exact .d (.refl _) | exact .d (.nil _) | exact .agg rfl (.refl _) | exact .pd | exact .ptr rfl); (first | exact trivial | exact ⟨rfl, trivial⟩)))); done)) | ((with_reducible apply a_ia); (iterate 5 exact rfl); exact idx_map (k := 0) hx) | exact by_oa); exact by_g) | ((with_reducible apply CW.cond_t); exact rfl; exact by_ks) | ((with_reducible apply CW.cond_f); exact rfl; exact by_ks) | ((with_reducible apply q_block_miss); exact rfl) | (refine And.intro (show chk [] [] _ _ = true by kernel_rfl) ?_))
        refine q_loopT (t2, []) ⟨hT2, hS2, hW2, by simp, hI⟩ (by dsimp only; omega) ?_
        exact by_less
      | cons a q =>
        have hp0 : (a :: q)[0]? = some a := rfl
        have hq0 : ¬ (a :: q).length = 0 := by simp
        have hql : q.length ≤ 1073741824 := by simp at hq; omega
        have hlm : (L.map encInt1).length = L.length := List.length_map ..
        obtain ⟨k1, k2, k3⟩ := pick_at (a := a) (n := (L.map encInt1).length) (by omega)
        have hlr : ((L.map encInt1).length : Int) ≠ 0 := by omega
        have hx' : L[pickAt a (L.map encInt1).length]? = some x := by rw [hlm]; exact hx
        have hll : L.length ≤ 100000000 := hrl
        generalize hln : (L.map encInt1).length = ln at k1 k2 k3 hlr hx'
        repeat (first | (with_reducible apply stop_region 8) | ((with_reducible apply s1); exact rfl) | (with_reducible first | apply CW.seq | apply CW.block | apply CW.region | apply CW.draw | apply CW.skip | apply CW.exit | apply CW.ret | apply q_then | apply q_then_exit | apply q_then_ret | apply q_block | apply q_block_ret | apply q_block_hit | apply q_ret | apply q_end | apply q_loop_exit | apply q_loop_ret | apply q_loopT_exit | apply q_loopT_ret | apply RW.nil) | ((with_reducible apply s3); exact rfl; exact by_k) | ((with_reducible apply s2); exact rfl; exact by_k) | ((with_reducible apply s4); exact rfl) | ((with_reducible apply s5); (first | (focus ((with_reducible apply a_call); exact cr; exact rfl; (repeat (first | exact SubsE.nil | (apply SubsE.cons; exact rfl; (first | exact .d (.refl _) | exact .d (.nil _) | exact .agg rfl (.refl _) | exact .pd | exact .ptr rfl); (first | exact trivial | exact ⟨rfl, trivial⟩)))); done)) | ((with_reducible apply a_ia); (iterate 5 exact rfl); exact idx_map (k := 0) hp0) | ((with_reducible apply a_from); (iterate 5 exact rfl); exact cut_from (n := 1) (by simp)) | ((with_reducible apply a_bin); exact rfl; exact rfl; (rw [hln]; exact bin_rem hlr); exact rfl) | ((with_reducible apply a_bin); exact rfl; exact rfl; (rw [hln]; exact bin_add (by omega)); exact rfl) | exact by_oa); exact by_g) | ((with_reducible apply CW.cond_t); exact rfl; exact by_ks) | ((with_reducible apply CW.cond_f); exact rfl; exact by_ks) | ((with_reducible apply q_block_miss); exact rfl) | (refine And.intro (show chk [] [] _ _ = true by kernel_rfl) ?_))
        refine Stop.go ?_
        rw [k1]
        repeat (first | ((with_reducible apply s1); exact rfl) | (with_reducible first | apply CW.seq | apply CW.block | apply CW.region | apply CW.draw | apply CW.skip | apply CW.exit | apply CW.ret | apply q_then | apply q_then_exit | apply q_then_ret | apply q_block | apply q_block_ret | apply q_block_hit | apply q_ret | apply q_end | apply q_loop_exit | apply q_loop_ret | apply q_loopT_exit | apply q_loopT_ret | apply RW.nil) | ((with_reducible apply s3); exact rfl; exact by_k) | ((with_reducible apply s2); exact rfl; exact by_k) | ((with_reducible apply s4); exact rfl) | ((with_reducible apply s5); (first | (focus ((with_reducible apply a_call); exact cg; exact rfl; (repeat (first | exact SubsE.nil | (apply SubsE.cons; exact rfl; (first | exact .d (.refl _) | exact .d (.nil _) | exact .agg rfl (.refl _) | exact .pd | exact .ptr rfl); (first | exact trivial | exact ⟨rfl, trivial⟩)))); done)) | ((with_reducible apply a_ia); (iterate 5 exact rfl); exact idx_map (k := pickAt a ln) hx') | exact by_oa); exact by_g) | ((with_reducible apply CW.cond_t); exact rfl; exact by_ks) | ((with_reducible apply CW.cond_f); exact rfl; exact by_ks) | ((with_reducible apply q_block_miss); exact rfl) | (refine And.intro (show chk [] [] _ _ = true by kernel_rfl) ?_))
        refine q_loopT (t2, q) ⟨hT2, hS2, hW2, hql, hI⟩ (by dsimp only; omega) ?_
        exact by_less

end Go.Proofs.YtembfadhnkabhaaGreatDoor

/-! AxStr -/
/-
  Parts of texts; errors against nil.
-/
namespace Go.AX
open Go.RowKit Go.RF

variable {cx : Cx} {g : Nat → Value} {σ : St} {a : Act} {w w' : World} {nx : Nat}
variable {ty : TypeId} {pos : String} {af : Array Edge} {gd : Option (Nat × Bool)} {d : Nat}

theorem extract_str (s : List UInt8) (l h : Nat) : Value.string ((⟨s.toArray⟩ : ByteArray).extract l h) = str ((s.drop l).take (h - l)) := by
  have : (⟨s.toArray⟩ : ByteArray).extract l h = ⟨((s.drop l).take (h - l)).toArray⟩ := by
    apply ByteArray.ext
    rw [ByteArray.data_extract]
    simp
  rw [this]; rfl
/-- A part of a text, from a place to another one. -/
theorem a_sub {t : TypeId} {x lo hi : Operand} {kd ke : IntKind} {s : List UInt8} {l h : Nat} {ti : TI} (hx : ev σ x = some (.d (.v (str s)))) (hlo : ev σ lo = some (.d (.v (.int kd (l : Int))))) (hhi : ev σ hi = some (.d (.v (.int ke (h : Int)))))
    (ht : tget cx.T t = some ti) (hk : ti.kind = .str) (hd : Nat.blt d cx.n = true) (hlh : l ≤ h) (hh : h ≤ s.length) :
    OA cx σ ⟨some d, .slice t x (some lo) (some hi) none, ty, pos, af, gd⟩ ⟨rdOf x (.d (.v (str s))) ++ (rdOf lo (.d (.v (.int kd (l : Int)))) ++ rdOf hi (.d (.v (.int ke (h : Int))))), [(.s d, .av (.d (.v (str ((s.drop l).take (h - l))))))]⟩ := by
  refine ⟨ok_val rfl (lt_of_blt hd) fun σ1 a w g nx hs hr => ?_, (ev_out hx).2.append ((ev_out hlo).2.append (ev_out hhi).2)⟩
  have hv := rep_v (hs.ev (ev_out hx).1 hr.left).1
  have h1 := rep_v (hs.ev (ev_out hlo).1 hr.right.left).1
  have h2 := rep_v (hs.ev (ev_out hhi).1 hr.right.right).1
  have hu : cx.P.underlying t = some .string := by have := (cx.hT t ti ht).kind; rw [hk] at this; exact this.1
  refine ⟨_, w, ?_, Below.refl _ _, Rd.v _, trivial⟩
  have hsz : (⟨s.toArray⟩ : ByteArray).size = s.length := rfl
  have e1 : ¬ ((h : Int) < 0) := by omega
  have e2 : ¬ ((l : Int) < 0) := by omega
  rw [← extract_str]
  simp [execOp, hv, h1, h2, str, Instr.sliceAt, Instr.slice, run_underlying hu, Instr.sliceBounds, Instr.sliceBound, asIntOf, hsz, hlh, hh, e1, e2]
theorem a_subF {t : TypeId} {x lo : Operand} {kd : IntKind} {s : List UInt8} {l : Nat} {ti : TI} (hx : ev σ x = some (.d (.v (str s)))) (hlo : ev σ lo = some (.d (.v (.int kd (l : Int)))))
    (ht : tget cx.T t = some ti) (hk : ti.kind = .str) (hd : Nat.blt d cx.n = true) (hh : l ≤ s.length) :
    OA cx σ ⟨some d, .slice t x (some lo) none none, ty, pos, af, gd⟩ ⟨rdOf x (.d (.v (str s))) ++ rdOf lo (.d (.v (.int kd (l : Int)))), [(.s d, .av (.d (.v (str (s.drop l)))))]⟩ := by
  refine ⟨ok_val rfl (lt_of_blt hd) fun σ1 a w g nx hs hr => ?_, (ev_out hx).2.append (ev_out hlo).2⟩
  have hv := rep_v (hs.ev (ev_out hx).1 hr.left).1
  have h1 := rep_v (hs.ev (ev_out hlo).1 hr.right).1
  have hu : cx.P.underlying t = some .string := by have := (cx.hT t ti ht).kind; rw [hk] at this; exact this.1
  refine ⟨_, w, ?_, Below.refl _ _, Rd.v _, trivial⟩
  have hsz : (⟨s.toArray⟩ : ByteArray).size = s.length := rfl
  have e2 : ¬ ((l : Int) < 0) := by omega
  have he := extract_str s l s.length
  rw [List.take_of_length_le (by simp)] at he
  rw [← he]
  simp [execOp, hv, h1, str, Instr.sliceAt, Instr.slice, run_underlying hu, Instr.sliceBounds, Instr.sliceBound, asIntOf, hsz, hh, e2]

/-- No error, held against nil. -/
theorem a_noerr {t t' : TypeId} {x : Operand} {ms : Array (String × TypeId)} (hx : ev σ x = some (.d (.v .nilIface))) (ht : cx.P.underlying t = some (.interface ms)) (hd : Nat.blt d cx.n = true) :
    OA cx σ ⟨some d, .binOp .eql t x (.const .nilIface) t', ty, pos, af, gd⟩ ⟨rdOf x (.d (.v .nilIface)), [(.s d, .av (.d (.v (.bool true))))]⟩ := by
  refine ⟨ok_val rfl (lt_of_blt hd) fun σ1 a w g nx hs hr => ?_, (ev_out hx).2⟩
  have hv := rep_v (hs.ev (ev_out hx).1 hr).1
  refine ⟨.bool true, w, ?_, Below.refl _ _, Rd.v _, trivial⟩
  have h : ∀ d : Nat, (Op.equalIn (d + 1) t .nilIface .nilIface).run cx.P w = .ok true w := fun d => by
    simp [Op.equalIn, run_underlying ht]
  have hg : eqGuard .eql t x (.const .nilIface) .nilIface .nilIface = pure () := by cases x <;> rfl
  have hc : a.eval (.const .nilIface) = .nilIface := rfl
  simp [execOp, hv, hc, hg, binOp, Op.equal, Op.maxDepth, h 9999]

end Go.AX

/-! Tx -/
/-
  What the references' Parse computes of a text, on data.
-/
namespace Go.RF
open Go.AX

/-- A text parted at a text (not empty): what is behind the last one, so far, ahead of what is left. -/
def splitF (sep : Str) : Nat → Str → Str → List Str
  | 0, cur, r => [cur ++ r]
  | n + 1, cur, r =>
    if r.length < sep.length then [cur ++ r]
    else if r.take sep.length = sep then cur :: splitF sep n [] (r.drop sep.length)
    else match r with
      | [] => [cur]
      | c :: t => splitF sep n (cur ++ [c]) t
def split (s sep : Str) : List Str := splitF sep s.length [] s
def words : List Str := [[], [108, 111, 97, 100], [99, 111, 110, 115, 116], [97, 100, 100], [115, 117, 98], [109, 117, 108], [115, 116, 111, 114, 101], [100, 114, 111, 112], [115, 107, 105, 112], [102, 97, 105, 108]]
def kindGo (w : Str) : Nat → Int → List Str → Int
  | _, k, [] => k
  | n, k, x :: r => kindGo w (n + 1) (if 0 < n ∧ x = w then (n : Int) else k) r
def kindOf (w : Str) : Int := kindGo w 0 0 words
/-- A number, as it is written. -/
def numV (s : Str) : Option Int := match Lib.atoiAll s with
  | .ok v => if Lib.itoa v = s then some v else none
  | _ => none
def regV (s : Str) : Option Int := match s with
  | 114 :: r => numV r
  | _ => none
/-- The letters of a form, each with its word. -/
def fillI : Ins → Str → List Str → Option Ins
  | i, [], _ => some i
  | i, _ :: _, [] => some i
  | i, c :: f, w :: ws =>
    if c = 107 then fillI { i with key := w } f ws
    else if c = 110 then match numV w with
      | some n => fillI { i with n := n } f ws
      | none => none
    else match regV w with
      | some x => if c = 114 then fillI { i with a := x } f ws else fillI { i with b := x } f ws
      | none => none
def insP (l : List Str) : Option Ins := match l with
  | [] => none
  | w :: ws => if kindOf w = 0 then none else if ws.length = (form (kindOf w).toNat).length then fillI ⟨kindOf w, 0, 0, 0, []⟩ (form (kindOf w).toNat) ws else none
def insAll : List Str → Option (List Ins)
  | [] => some []
  | p :: r => match insP (split p [32]), insAll r with
    | some i, some l => some (i :: l)
    | _, _ => none
/-- A right deed's text, read. -/
def parseD (s : Str) : Option Deed :=
  if 400 < s.length then none else match split s [59, 32] with
    | p0 :: p1 :: ps => match split p0 [32], split p1 [32], insAll ps with
      | w0 :: rs, w1 :: ws, some code => if w0 = [114, 101, 97, 100, 115] ∧ w1 = [119, 114, 105, 116, 101, 115] ∧ wrongDeed ⟨rs, ws, code⟩ = 0 then some ⟨rs, ws, code⟩ else none
      | _, _, _ => none
    | _ => none

end Go.RF

/-! H1 -/
/-
  Contracts of the references' split, Words, Form.
-/
namespace Go.Proofs.YtembfadhnkabhaaGreatDoor
open Go.AX Go.RF

set_option maxRecDepth 100000
set_option maxHeartbeats 4000000

theorem splitF_len (sep : Str) : ∀ (n : Nat) (cur r : Str), (splitF sep n cur r).length ≤ n + 1
  | 0, cur, r => by simp [splitF]
  | n + 1, cur, r => by
    simp only [splitF]
    split
    · simp
    split
    · have := splitF_len sep n [] (r.drop sep.length); simp; omega
    cases r with
    | nil => simp
    | cons c t => have := splitF_len sep n (cur ++ [c]) t; simp; omega

theorem splitF_succ (sep : Str) (n : Nat) (cur r : Str) : splitF sep (n + 1) cur r = if r.length < sep.length then [cur ++ r]
    else if r.take sep.length = sep then cur :: splitF sep n [] (r.drop sep.length)
    else match r with
      | [] => [cur]
      | c :: t => splitF sep n (cur ++ [c]) t := by cases r <;> rfl

theorem ok_split (s sep : Str) (hs : s.length ≤ 1073741000) (hp : sep ≠ []) (hp2 : sep.length ≤ 1000) : FnOk Tryz.prog 79 [.d (dstr s), .d (dstr sep)] (.one (encStrs (split s sep))) := by
  refine fnOk_of tbl_ok mixed_ok Tryz.func79 rfl (by kernel_rfl) rfl rfl fun w0 own0 => ?_
  have hp0 : 0 < sep.length := List.length_pos_iff.2 hp
  repeat (first | ((with_reducible apply stop_at 3); exact rfl) | ((with_reducible apply s1); exact rfl) | (with_reducible first | apply CW.seq | apply CW.block | apply CW.region | apply CW.draw | apply CW.skip | apply CW.exit | apply CW.ret | apply q_then | apply q_then_exit | apply q_then_ret | apply q_block | apply q_block_ret | apply q_block_hit | apply q_ret | apply q_end | apply q_loop_exit | apply q_loop_ret | apply q_loopT_exit | apply q_loopT_ret | apply RW.nil) | ((with_reducible apply s3); exact rfl; exact by_k) | ((with_reducible apply s2); exact rfl; exact by_k) | ((with_reducible apply s4); exact rfl) | ((with_reducible apply s5); (first | exact by_oa); exact by_g) | ((with_reducible apply CW.cond_t); exact rfl; exact by_ks) | ((with_reducible apply CW.cond_f); exact rfl; exact by_ks) | ((with_reducible apply q_block_miss); exact rfl) | (refine And.intro (show chk [] [] _ _ = true by kernel_rfl) ?_))
  refine Stop.go (CW.stut (stut_promote (i := 5) 9 1) ⟨rfl, rfl, trivial⟩ ?_)
  repeat (first | ((with_reducible apply s1); exact rfl) | (with_reducible first | apply CW.seq | apply CW.block | apply CW.region | apply CW.draw | apply CW.skip | apply CW.exit | apply CW.ret | apply q_then | apply q_then_exit | apply q_then_ret | apply q_block | apply q_block_ret | apply q_block_hit | apply q_ret | apply q_end | apply q_loop_exit | apply q_loop_ret | apply q_loopT_exit | apply q_loopT_ret | apply RW.nil) | ((with_reducible apply s3); exact rfl; exact by_k) | ((with_reducible apply s2); exact rfl; exact by_k) | ((with_reducible apply s4); exact rfl) | ((with_reducible apply s5); (first | exact by_oa); exact by_g) | ((with_reducible apply CW.cond_t); exact rfl; exact by_ks) | ((with_reducible apply CW.cond_f); exact rfl; exact by_ks) | ((with_reducible apply q_block_miss); exact rfl) | (refine And.intro (show chk [] [] _ _ = true by kernel_rfl) ?_))
  refine CW.loopT (fun t : Nat × Nat × List Str => [sd 0 (dstr s), sd 1 (dstr sep), sd 4 (.v nilS), so 5 0 t.2.2.length, oa 0 9 1 (t.2.2.map encStr1), sd 6 (dint t.1), sd 7 (dint t.2.1), nxt 1])
    (fun t => t.1 ≤ t.2.1 ∧ t.2.1 ≤ s.length ∧ t.2.2.length ≤ t.2.1 ∧ ∃ n, s.length ≤ n + t.2.1 ∧ t.2.2 ++ splitF sep n ((s.drop t.1).take (t.2.1 - t.1)) (s.drop t.2.1) = split s sep) (fun t => s.length - t.2.1) (0, 0, []) ⟨by dsimp only; omega, by dsimp only; omega, by dsimp only; simp, s.length, by dsimp only; omega, rfl⟩ ?_ ?_
  ·
    exact by_less
  · rintro ⟨f, i, out⟩ ⟨hf, hi, ho, n, hn, hI⟩
    dsimp only at hf hi ho hn hI ⊢
    have hcr : (s.drop f).take (i - f) ++ s.drop i = s.drop f := by
      have := List.take_append_drop (i - f) (s.drop f)
      rw [List.drop_drop, show f + (i - f) = i by omega] at this
      exact this
    have hrl : (s.drop i).length = s.length - i := by simp
    by_cases h1 : i + sep.length ≤ s.length
    · obtain ⟨n, rfl⟩ : ∃ m, n = m + 1 := ⟨n - 1, by omega⟩
      rw [splitF_succ, if_neg (by omega)] at hI
      have hcut : ((s.drop i).take (i + sep.length - i)) = (s.drop i).take sep.length := by congr 1; omega
      by_cases h2 : (s.drop i).take sep.length = sep
      · rw [if_pos h2] at hI
        have h2' : (s.drop i).take (i + sep.length - i) = sep := hcut.trans h2
        repeat (first | ((with_reducible apply s5); ((with_reducible apply a_bs [[dstr ((s.drop f).take (i - f))]]); (iterate 9 exact rfl); (repeat (first | exact PartsE.nil | (apply PartsE.cons; exact rfl; exact rfl)))); exact by_g) | ((with_reducible apply s1); exact rfl) | (with_reducible first | apply CW.seq | apply CW.block | apply CW.region | apply CW.draw | apply CW.skip | apply CW.exit | apply CW.ret | apply q_then | apply q_then_exit | apply q_then_ret | apply q_block | apply q_block_ret | apply q_block_hit | apply q_ret | apply q_end | apply q_loop_exit | apply q_loop_ret | apply q_loopT_exit | apply q_loopT_ret | apply RW.nil) | ((with_reducible apply s3); exact rfl; exact by_k) | ((with_reducible apply s2); exact rfl; exact by_k) | ((with_reducible apply s4); exact rfl) | ((with_reducible apply s5); (first | ((with_reducible apply (a_sub (l := i) (h := i + sep.length))); (iterate 6 exact rfl); omega; omega) | ((with_reducible apply (a_sub (l := f) (h := i))); (iterate 6 exact rfl); omega; omega) | exact by_oa); exact by_g) | ((with_reducible apply CW.cond_t); exact rfl; exact by_ks) | ((with_reducible apply CW.cond_f); exact rfl; exact by_ks) | ((with_reducible apply q_block_miss); exact rfl) | (refine And.intro (show chk [] [] _ _ = true by kernel_rfl) ?_))
        refine q_loopT (i + sep.length, i + sep.length, out ++ [(s.drop f).take (i - f)]) ⟨by dsimp only; omega, by dsimp only; omega, by dsimp only; simp; omega, n, by dsimp only; omega, ?_⟩ (by dsimp only; omega) ?_
        · dsimp only
          rw [← hI, List.append_assoc, List.drop_drop, Nat.sub_self, List.take_zero]
          rfl
        exact by_less
      · rw [if_neg h2] at hI
        have h2' : ¬ (s.drop i).take (i + sep.length - i) = sep := fun h => h2 (hcut.symm.trans h)
        have hlt : i < s.length := by omega
        rw [List.drop_eq_getElem_cons hlt] at hI
        dsimp only at hI
        repeat (first | ((with_reducible apply s1); exact rfl) | (with_reducible first | apply CW.seq | apply CW.block | apply CW.region | apply CW.draw | apply CW.skip | apply CW.exit | apply CW.ret | apply q_then | apply q_then_exit | apply q_then_ret | apply q_block | apply q_block_ret | apply q_block_hit | apply q_ret | apply q_end | apply q_loop_exit | apply q_loop_ret | apply q_loopT_exit | apply q_loopT_ret | apply RW.nil) | ((with_reducible apply s3); exact rfl; exact by_k) | ((with_reducible apply s2); exact rfl; exact by_k) | ((with_reducible apply s4); exact rfl) | ((with_reducible apply s5); (first | ((with_reducible apply (a_sub (l := i) (h := i + sep.length))); (iterate 6 exact rfl); omega; omega) | exact by_oa); exact by_g) | ((with_reducible apply CW.cond_t); exact rfl; exact by_ks) | ((with_reducible apply CW.cond_f); exact rfl; exact by_ks) | ((with_reducible apply q_block_miss); exact rfl) | (refine And.intro (show chk [] [] _ _ = true by kernel_rfl) ?_))
        refine q_loopT (f, i + 1, out) ⟨by dsimp only; omega, by dsimp only; omega, by dsimp only; omega, n, by dsimp only; omega, ?_⟩ (by dsimp only; omega) ?_
        · dsimp only
          rw [← hI, show i + 1 - f = (i - f) + 1 by omega, List.take_add_one, List.getElem?_drop, show f + (i - f) = i by omega, List.getElem?_eq_getElem hlt]
          rfl
        exact by_less
    · have hfin : out ++ [s.drop f] = split s sep := by
        rw [← hI]
        cases n with
        | zero => rw [splitF, hcr]
        | succ n => rw [splitF_succ, if_pos (by omega), hcr]
      repeat (first | ((with_reducible apply s5); ((with_reducible apply a_bs [[dstr (s.drop f)]]); (iterate 9 exact rfl); (repeat (first | exact PartsE.nil | (apply PartsE.cons; exact rfl; exact rfl)))); exact by_g) | ((with_reducible apply s1); exact rfl) | (with_reducible first | apply CW.seq | apply CW.block | apply CW.region | apply CW.draw | apply CW.skip | apply CW.exit | apply CW.ret | apply q_then | apply q_then_exit | apply q_then_ret | apply q_block | apply q_block_ret | apply q_block_hit | apply q_ret | apply q_end | apply q_loop_exit | apply q_loop_ret | apply q_loopT_exit | apply q_loopT_ret | apply RW.nil) | ((with_reducible apply s3); exact rfl; exact by_k) | ((with_reducible apply s2); exact rfl; exact by_k) | ((with_reducible apply s4); exact rfl) | ((with_reducible apply s5); (first | ((with_reducible apply (a_subF (l := f))); (iterate 5 exact rfl); omega) | exact by_oa); exact by_g) | ((with_reducible apply CW.cond_t); exact rfl; exact by_ks) | ((with_reducible apply CW.cond_f); exact rfl; exact by_ks) | ((with_reducible apply q_block_miss); exact rfl) | (refine And.intro (show chk [] [] _ _ = true by kernel_rfl) ?_))
      rw [← hfin, show encStrs (out ++ [s.drop f]) = .sl 1 (out.map encStr1 ++ [[dstr (s.drop f)]]) by simp [encStrs, encStr1]]
      exact .one (.tmp rfl (.one (.own rfl (by simp) (.refl _))))

theorem ok_words : FnOk Tryz.prog 80 [] (.one (encStrs words)) := by
  refine fnOk_of tbl_ok mixed_ok Tryz.func80 rfl (by kernel_rfl) rfl rfl fun w0 own0 => ?_
  repeat (first | ((with_reducible apply s5); ((with_reducible apply a_bs (words.map encStr1)); (iterate 9 exact rfl); (repeat (first | exact PartsE.nil | (apply PartsE.cons; exact rfl; exact rfl)))); exact by_g) | ((with_reducible apply s1); exact rfl) | (with_reducible first | apply CW.seq | apply CW.block | apply CW.region | apply CW.draw | apply CW.skip | apply CW.exit | apply CW.ret | apply q_then | apply q_then_exit | apply q_then_ret | apply q_block | apply q_block_ret | apply q_block_hit | apply q_ret | apply q_end | apply q_loop_exit | apply q_loop_ret | apply q_loopT_exit | apply q_loopT_ret | apply RW.nil) | ((with_reducible apply s3); exact rfl; exact by_k) | ((with_reducible apply s2); exact rfl; exact by_k) | ((with_reducible apply s4); exact rfl) | ((with_reducible apply s5); (first | exact by_oa); exact by_g) | ((with_reducible apply CW.cond_t); exact rfl; exact by_ks) | ((with_reducible apply CW.cond_f); exact rfl; exact by_ks) | ((with_reducible apply q_block_miss); exact rfl) | (refine And.intro (show chk [] [] _ _ = true by kernel_rfl) ?_))
  exact .one (.tmp rfl (.one (.d (.refl _))))

end Go.Proofs.YtembfadhnkabhaaGreatDoor
