/-
  Part 3 of what the claim leans on: F5 Eq2 F13 F17 G3 AxFam AxFam2 AxPin4 AxPin5 AxBool AxFnD AxMap Rn Sh G2 G8 G11 AxIns G12 R2 F1 F6 F7.
-/
import Derived.Test.YtjgbmdonhabmiaaGreatDoorK2
import Derived.Laws.Small
import Derived.MapKept
import Derived.Shelf.Small.Strs
import Derived.Test.YtjgbmdonhabmiaaGreatDoorProg
import Derived.Shelf.Spec.SlicesInsertGrow
import Derived.Maps.AppendAt

/-! F5 -/
/-
  Contract of the references' WrongDeed.
-/
namespace Go.Proofs.YtjgbmdonhabmiaaGreatDoor
open Go.AX Go.RF

set_option maxRecDepth 100000
set_option maxHeartbeats 4000000

theorem ls_first {l : List Str} {r : List (List Str)} {v : Int} (h : lsGo (l :: r) = v) : (keysWrong l = 0 ∧ lsGo r = v) ∨ (keysWrong l ≠ 0 ∧ keysWrong l = v) := by
  simp only [lsGo] at h
  split at h
  · next h0 => exact .inl ⟨h0, h⟩
  · next h0 => exact .inr ⟨h0, h⟩

theorem ok_wrongDeed (d : Deed) (hr : d.reads.length ≤ 268435456) (hw : d.writes.length ≤ 268435456) (hc : d.code.length ≤ 268435456)
    (hrk : ∀ s ∈ d.reads, s.length ≤ 1073741824) (hwk : ∀ s ∈ d.writes, s.length ≤ 1073741824) : FnOk Tryz.prog 29 [.d (.agg d.enc)] (.one (dint (wrongDeed d))) := by
  refine fnOk_of tbl_ok mixed_ok Tryz.func29 rfl (by kernel_rfl) rfl rfl fun w0 own0 => ?_
  repeat (first | ((with_reducible apply s5); ((with_reducible apply a_bs ([d.reads, d.writes].map fun l => [encStrs l])); (iterate 9 exact rfl); (repeat (first | exact PartsE.nil | (apply PartsE.cons; exact rfl; exact rfl)))); exact by_g) | ((with_reducible apply s1); exact rfl) | (with_reducible first | apply CW.seq | apply CW.block | apply CW.region | apply CW.draw | apply CW.skip | apply CW.exit | apply CW.ret | apply q_then | apply q_then_exit | apply q_then_ret | apply q_block | apply q_block_ret | apply q_block_hit | apply q_ret | apply q_end | apply q_loop_exit | apply q_loop_ret | apply q_loopT_exit | apply q_loopT_ret | apply RW.nil) | ((with_reducible apply s3); exact rfl; exact by_k) | ((with_reducible apply s2); exact rfl; exact by_k) | ((with_reducible apply s4); exact rfl) | ((with_reducible apply s5); (first | exact by_oa); exact by_g) | ((with_reducible apply CW.cond_t); exact rfl; exact by_ks) | ((with_reducible apply CW.cond_f); exact rfl; exact by_ks) | ((with_reducible apply q_block_miss); exact rfl) | (refine And.intro (show chk [] [] _ _ = true by kernel_rfl) ?_))
  refine CW.loopT (fun j : Nat => [(.s 1, .av (.ptr 0 0)), (.o 0, .ob (.box (d.enc.map AV.d))), (.s 18, .av (.d (.sl 1 ([d.reads, d.writes].map fun l => [encStrs l])))), (.s 19, .av (.d (dint 2))), (.s 20, .av (.d (dint j))), (.nx, .num 1)])
    (fun j => j ≤ [d.reads, d.writes].length ∧ lsGo ([d.reads, d.writes].drop j) = lsGo [d.reads, d.writes]) (fun j => 2 - j) 0 ⟨by simp, rfl⟩ ?_ ?_
  ·
    exact by_less
  · rintro j ⟨hj, hI⟩
    have hj2 : j ≤ 2 := hj
    rcases drop_case hj with ⟨h1, h2⟩ | ⟨l, h1, h2, h3⟩
    · have h2' : j = 2 := h2
      rw [h1] at hI
      have hI' : lsGo [d.reads, d.writes] = 0 := hI.symm
      by_cases h4 : 12 < d.code.length
      ·
        repeat (first | ((with_reducible apply s1); exact rfl) | (with_reducible first | apply CW.seq | apply CW.block | apply CW.region | apply CW.draw | apply CW.skip | apply CW.exit | apply CW.ret | apply q_then | apply q_then_exit | apply q_then_ret | apply q_block | apply q_block_ret | apply q_block_hit | apply q_ret | apply q_end | apply q_loop_exit | apply q_loop_ret | apply q_loopT_exit | apply q_loopT_ret | apply RW.nil) | ((with_reducible apply s3); exact rfl; exact by_k) | ((with_reducible apply s2); exact rfl; exact by_k) | ((with_reducible apply s4); exact rfl) | ((with_reducible apply s5); (first | exact by_oa); exact by_g) | ((with_reducible apply CW.cond_t); exact rfl; exact by_ks) | ((with_reducible apply CW.cond_f); exact rfl; exact by_ks) | ((with_reducible apply q_block_miss); exact rfl) | (refine And.intro (show chk [] [] _ _ = true by kernel_rfl) ?_))
        exact .one (.tmp rfl (.one (.d (dle_int (by simp [wrongDeed, hI', h4])))))
      ·
        repeat (first | ((with_reducible apply s1); exact rfl) | (with_reducible first | apply CW.seq | apply CW.block | apply CW.region | apply CW.draw | apply CW.skip | apply CW.exit | apply CW.ret | apply q_then | apply q_then_exit | apply q_then_ret | apply q_block | apply q_block_ret | apply q_block_hit | apply q_ret | apply q_end | apply q_loop_exit | apply q_loop_ret | apply q_loopT_exit | apply q_loopT_ret | apply RW.nil) | ((with_reducible apply s3); exact rfl; exact by_k) | ((with_reducible apply s2); exact rfl; exact by_k) | ((with_reducible apply s4); exact rfl) | ((with_reducible apply s5); (first | exact by_oa); exact by_g) | ((with_reducible apply CW.cond_t); exact rfl; exact by_ks) | ((with_reducible apply CW.cond_f); exact rfl; exact by_ks) | ((with_reducible apply q_block_miss); exact rfl) | (refine And.intro (show chk [] [] _ _ = true by kernel_rfl) ?_))
        refine CW.loopT (fun k : Nat => [(.s 1, .av (.ptr 0 0)), (.o 0, .ob (.box (d.enc.map AV.d))), (.s 51, .av (.d (encCode d.code))), (.s 52, .av (.d (dint d.code.length))), (.s 53, .av (.d (dint k))), (.nx, .num 1)])
          (fun k => k ≤ d.code.length ∧ codeGo d k (d.code.drop k) = codeGo d 0 d.code) (fun k => d.code.length - k) 0 ⟨by omega, rfl⟩ ?_ ?_
        ·
          exact by_less
        · rintro k ⟨hk, hC⟩
          rcases drop_case hk with ⟨h5, h6⟩ | ⟨i, h5, h6, h7⟩
          · rw [h5] at hC
            simp only [codeGo] at hC
            repeat (first | ((with_reducible apply s1); exact rfl) | (with_reducible first | apply CW.seq | apply CW.block | apply CW.region | apply CW.draw | apply CW.skip | apply CW.exit | apply CW.ret | apply q_then | apply q_then_exit | apply q_then_ret | apply q_block | apply q_block_ret | apply q_block_hit | apply q_ret | apply q_end | apply q_loop_exit | apply q_loop_ret | apply q_loopT_exit | apply q_loopT_ret | apply RW.nil) | ((with_reducible apply s3); exact rfl; exact by_k) | ((with_reducible apply s2); exact rfl; exact by_k) | ((with_reducible apply s4); exact rfl) | ((with_reducible apply s5); (first | exact by_oa); exact by_g) | ((with_reducible apply CW.cond_t); exact rfl; exact by_ks) | ((with_reducible apply CW.cond_f); exact rfl; exact by_ks) | ((with_reducible apply q_block_miss); exact rfl) | (refine And.intro (show chk [] [] _ _ = true by kernel_rfl) ?_))
            exact .one (.tmp rfl (.one (.d (dle_int (by rw [wrongDeed, if_pos hI', if_neg h4, hC])))))
          · rw [h5] at hC
            have hbad : wrongIns d ((d.code.length : Int) - 1 - k) i ≠ 0 → wrongIns d ((d.code.length : Int) - 1 - k) i = wrongDeed d := fun h0 => by
              rw [codeGo, if_neg h0] at hC
              rw [wrongDeed, if_pos hI', if_neg h4, hC]
            have hgood : wrongIns d ((d.code.length : Int) - 1 - k) i = 0 → codeGo d (k + 1) (d.code.drop (k + 1)) = codeGo d 0 d.code := fun h0 => by
              rw [codeGo, if_pos h0] at hC
              exact hC
            clear hC h5
            obtain ⟨kd0, ia, ib, n, key⟩ := i
            by_cases hk1 : kd0 < 1
            ·
              repeat (first | ((with_reducible apply s1); exact rfl) | (with_reducible first | apply CW.seq | apply CW.block | apply CW.region | apply CW.draw | apply CW.skip | apply CW.exit | apply CW.ret | apply q_then | apply q_then_exit | apply q_then_ret | apply q_block | apply q_block_ret | apply q_block_hit | apply q_ret | apply q_end | apply q_loop_exit | apply q_loop_ret | apply q_loopT_exit | apply q_loopT_ret | apply RW.nil) | ((with_reducible apply s3); exact rfl; exact by_k) | ((with_reducible apply s2); exact rfl; exact by_k) | ((with_reducible apply s4); exact rfl) | ((with_reducible apply s5); (first | exact by_oa); exact by_g) | ((with_reducible apply CW.cond_t); exact rfl; exact by_ks) | ((with_reducible apply CW.cond_f); exact rfl; exact by_ks) | ((with_reducible apply q_block_miss); exact rfl) | (refine And.intro (show chk [] [] _ _ = true by kernel_rfl) ?_))
              have h0 : wrongIns d ((d.code.length : Int) - 1 - k) ⟨kd0, ia, ib, n, key⟩ = 1 := by simp [wrongIns, hk1]
              exact .one (.tmp rfl (.one (.d (dle_int (by rw [← hbad (by rw [h0]; decide), h0])))))
            · by_cases hk9 : 9 < kd0
              ·
                repeat (first | ((with_reducible apply s1); exact rfl) | (with_reducible first | apply CW.seq | apply CW.block | apply CW.region | apply CW.draw | apply CW.skip | apply CW.exit | apply CW.ret | apply q_then | apply q_then_exit | apply q_then_ret | apply q_block | apply q_block_ret | apply q_block_hit | apply q_ret | apply q_end | apply q_loop_exit | apply q_loop_ret | apply q_loopT_exit | apply q_loopT_ret | apply RW.nil) | ((with_reducible apply s3); exact rfl; exact by_k) | ((with_reducible apply s2); exact rfl; exact by_k) | ((with_reducible apply s4); exact rfl) | ((with_reducible apply s5); (first | exact by_oa); exact by_g) | ((with_reducible apply CW.cond_t); exact rfl; exact by_ks) | ((with_reducible apply CW.cond_f); exact rfl; exact by_ks) | ((with_reducible apply q_block_miss); exact rfl) | (refine And.intro (show chk [] [] _ _ = true by kernel_rfl) ?_))
                have h0 : wrongIns d ((d.code.length : Int) - 1 - k) ⟨kd0, ia, ib, n, key⟩ = 1 := by simp [wrongIns, hk9]
                exact .one (.tmp rfl (.one (.d (dle_int (by rw [← hbad (by rw [h0]; decide), h0])))))
              · obtain ⟨kd, rfl⟩ := Int.eq_ofNat_of_zero_le (show 0 ≤ kd0 by omega)
                have hkd : kd < 10 := by omega
                have hcA := ok_has kd 114 hkd
                have hcB := ok_has kd 115 hkd
                have hcK := ok_has kd 107 hkd
                repeat (first | ((with_reducible apply stop_at 21); exact rfl) | ((with_reducible apply s1); exact rfl) | (with_reducible first | apply CW.seq | apply CW.block | apply CW.region | apply CW.draw | apply CW.skip | apply CW.exit | apply CW.ret | apply q_then | apply q_then_exit | apply q_then_ret | apply q_block | apply q_block_ret | apply q_block_hit | apply q_ret | apply q_end | apply q_loop_exit | apply q_loop_ret | apply q_loopT_exit | apply q_loopT_ret | apply RW.nil) | ((with_reducible apply s3); exact rfl; exact by_k) | ((with_reducible apply s2); exact rfl; exact by_k) | ((with_reducible apply s4); exact rfl) | ((with_reducible apply s5); (first | exact by_oa); exact by_g) | ((with_reducible apply CW.cond_t); exact rfl; exact by_ks) | ((with_reducible apply CW.cond_f); exact rfl; exact by_ks) | ((with_reducible apply q_block_miss); exact rfl) | (refine And.intro (show chk [] [] _ _ = true by kernel_rfl) ?_))
                refine Stop.cutk [(.s 9, .av (.d (dint (insA kd))))] [.s 1, .s 51, .s 52, .s 53, .s 7, .s 8, .s 10, .s 11, .s 12, .o 0, .o 1, .nx] ?_ ?_
                · unfold insA
                  cases hA : has kd 114
                  ·
                    repeat (first | ((with_reducible apply s1); exact rfl) | (with_reducible first | apply CW.seq | apply CW.block | apply CW.region | apply CW.draw | apply CW.skip | apply CW.exit | apply CW.ret | apply q_then | apply q_then_exit | apply q_then_ret | apply q_block | apply q_block_ret | apply q_block_hit | apply q_ret | apply q_end | apply q_loop_exit | apply q_loop_ret | apply q_loopT_exit | apply q_loopT_ret | apply RW.nil) | ((with_reducible apply s3); exact rfl; exact by_k) | ((with_reducible apply s2); exact rfl; exact by_k) | ((with_reducible apply s4); exact rfl) | ((with_reducible apply s5); (first | (focus ((with_reducible apply a_call); exact hcA; exact rfl; (repeat (first | exact SubsE.nil | (apply SubsE.cons; exact rfl; (first | exact .d (.refl _) | exact .d (.nil _) | exact .agg rfl (.refl _) | exact .pd | exact .ptr rfl); (first | exact trivial | exact ⟨rfl, trivial⟩)))); done)) | exact by_oa); exact by_g) | ((with_reducible apply CW.cond_t); exact rfl; exact by_ks) | ((with_reducible apply CW.cond_f); exact rfl; exact by_ks) | ((with_reducible apply q_block_miss); exact rfl) | (refine And.intro (show chk [] [] _ _ = true by kernel_rfl) ?_))
                    refine q_cut ?_
                    exact by_less
                  ·
                    repeat (first | ((with_reducible apply s1); exact rfl) | (with_reducible first | apply CW.seq | apply CW.block | apply CW.region | apply CW.draw | apply CW.skip | apply CW.exit | apply CW.ret | apply q_then | apply q_then_exit | apply q_then_ret | apply q_block | apply q_block_ret | apply q_block_hit | apply q_ret | apply q_end | apply q_loop_exit | apply q_loop_ret | apply q_loopT_exit | apply q_loopT_ret | apply RW.nil) | ((with_reducible apply s3); exact rfl; exact by_k) | ((with_reducible apply s2); exact rfl; exact by_k) | ((with_reducible apply s4); exact rfl) | ((with_reducible apply s5); (first | (focus ((with_reducible apply a_call); exact hcA; exact rfl; (repeat (first | exact SubsE.nil | (apply SubsE.cons; exact rfl; (first | exact .d (.refl _) | exact .d (.nil _) | exact .agg rfl (.refl _) | exact .pd | exact .ptr rfl); (first | exact trivial | exact ⟨rfl, trivial⟩)))); done)) | exact by_oa); exact by_g) | ((with_reducible apply CW.cond_t); exact rfl; exact by_ks) | ((with_reducible apply CW.cond_f); exact rfl; exact by_ks) | ((with_reducible apply q_block_miss); exact rfl) | (refine And.intro (show chk [] [] _ _ = true by kernel_rfl) ?_))
                    refine q_cut ?_
                    exact by_less
                repeat (first | ((with_reducible apply stop_at 23); exact rfl) | ((with_reducible apply s1); exact rfl) | (with_reducible first | apply CW.seq | apply CW.block | apply CW.region | apply CW.draw | apply CW.skip | apply CW.exit | apply CW.ret | apply q_then | apply q_then_exit | apply q_then_ret | apply q_block | apply q_block_ret | apply q_block_hit | apply q_ret | apply q_end | apply q_loop_exit | apply q_loop_ret | apply q_loopT_exit | apply q_loopT_ret | apply RW.nil) | ((with_reducible apply s3); exact rfl; exact by_k) | ((with_reducible apply s2); exact rfl; exact by_k) | ((with_reducible apply s4); exact rfl) | ((with_reducible apply s5); (first | exact by_oa); exact by_g) | ((with_reducible apply CW.cond_t); exact rfl; exact by_ks) | ((with_reducible apply CW.cond_f); exact rfl; exact by_ks) | ((with_reducible apply q_block_miss); exact rfl) | (refine And.intro (show chk [] [] _ _ = true by kernel_rfl) ?_))
                refine Stop.cutk [(.s 10, .av (.d (dint (insB kd))))] [.s 1, .s 51, .s 52, .s 53, .s 7, .s 8, .s 9, .s 11, .s 12, .o 0, .o 1, .nx] ?_ ?_
                · unfold insB
                  cases hA : has kd 115
                  ·
                    repeat (first | ((with_reducible apply s1); exact rfl) | (with_reducible first | apply CW.seq | apply CW.block | apply CW.region | apply CW.draw | apply CW.skip | apply CW.exit | apply CW.ret | apply q_then | apply q_then_exit | apply q_then_ret | apply q_block | apply q_block_ret | apply q_block_hit | apply q_ret | apply q_end | apply q_loop_exit | apply q_loop_ret | apply q_loopT_exit | apply q_loopT_ret | apply RW.nil) | ((with_reducible apply s3); exact rfl; exact by_k) | ((with_reducible apply s2); exact rfl; exact by_k) | ((with_reducible apply s4); exact rfl) | ((with_reducible apply s5); (first | (focus ((with_reducible apply a_call); exact hcB; exact rfl; (repeat (first | exact SubsE.nil | (apply SubsE.cons; exact rfl; (first | exact .d (.refl _) | exact .d (.nil _) | exact .agg rfl (.refl _) | exact .pd | exact .ptr rfl); (first | exact trivial | exact ⟨rfl, trivial⟩)))); done)) | exact by_oa); exact by_g) | ((with_reducible apply CW.cond_t); exact rfl; exact by_ks) | ((with_reducible apply CW.cond_f); exact rfl; exact by_ks) | ((with_reducible apply q_block_miss); exact rfl) | (refine And.intro (show chk [] [] _ _ = true by kernel_rfl) ?_))
                    refine q_cut ?_
                    exact by_less
                  ·
                    repeat (first | ((with_reducible apply s1); exact rfl) | (with_reducible first | apply CW.seq | apply CW.block | apply CW.region | apply CW.draw | apply CW.skip | apply CW.exit | apply CW.ret | apply q_then | apply q_then_exit | apply q_then_ret | apply q_block | apply q_block_ret | apply q_block_hit | apply q_ret | apply q_end | apply q_loop_exit | apply q_loop_ret | apply q_loopT_exit | apply q_loopT_ret | apply RW.nil) | ((with_reducible apply s3); exact rfl; exact by_k) | ((with_reducible apply s2); exact rfl; exact by_k) | ((with_reducible apply s4); exact rfl) | ((with_reducible apply s5); (first | (focus ((with_reducible apply a_call); exact hcB; exact rfl; (repeat (first | exact SubsE.nil | (apply SubsE.cons; exact rfl; (first | exact .d (.refl _) | exact .d (.nil _) | exact .agg rfl (.refl _) | exact .pd | exact .ptr rfl); (first | exact trivial | exact ⟨rfl, trivial⟩)))); done)) | exact by_oa); exact by_g) | ((with_reducible apply CW.cond_t); exact rfl; exact by_ks) | ((with_reducible apply CW.cond_f); exact rfl; exact by_ks) | ((with_reducible apply q_block_miss); exact rfl) | (refine And.intro (show chk [] [] _ _ = true by kernel_rfl) ?_))
                    refine q_cut ?_
                    exact by_less
                repeat (first | ((with_reducible apply stop_at 25); exact rfl) | ((with_reducible apply s1); exact rfl) | (with_reducible first | apply CW.seq | apply CW.block | apply CW.region | apply CW.draw | apply CW.skip | apply CW.exit | apply CW.ret | apply q_then | apply q_then_exit | apply q_then_ret | apply q_block | apply q_block_ret | apply q_block_hit | apply q_ret | apply q_end | apply q_loop_exit | apply q_loop_ret | apply q_loopT_exit | apply q_loopT_ret | apply RW.nil) | ((with_reducible apply s3); exact rfl; exact by_k) | ((with_reducible apply s2); exact rfl; exact by_k) | ((with_reducible apply s4); exact rfl) | ((with_reducible apply s5); (first | exact by_oa); exact by_g) | ((with_reducible apply CW.cond_t); exact rfl; exact by_ks) | ((with_reducible apply CW.cond_f); exact rfl; exact by_ks) | ((with_reducible apply q_block_miss); exact rfl) | (refine And.intro (show chk [] [] _ _ = true by kernel_rfl) ?_))
                refine Stop.cutk [(.s 11, .av (.d (dint (if kd = 2 then -1073741824 else 0)))), (.s 12, .av (.d (dint (if kd = 2 then 1073741824 else 0))))] [.s 1, .s 51, .s 52, .s 53, .s 7, .s 8, .s 9, .s 10, .o 0, .o 1, .nx] ?_ ?_
                · by_cases hA : kd = 2
                  · rw [if_pos hA, if_pos hA]
                    repeat (first | ((with_reducible apply s1); exact rfl) | (with_reducible first | apply CW.seq | apply CW.block | apply CW.region | apply CW.draw | apply CW.skip | apply CW.exit | apply CW.ret | apply q_then | apply q_then_exit | apply q_then_ret | apply q_block | apply q_block_ret | apply q_block_hit | apply q_ret | apply q_end | apply q_loop_exit | apply q_loop_ret | apply q_loopT_exit | apply q_loopT_ret | apply RW.nil) | ((with_reducible apply s3); exact rfl; exact by_k) | ((with_reducible apply s2); exact rfl; exact by_k) | ((with_reducible apply s4); exact rfl) | ((with_reducible apply s5); (first | exact by_oa); exact by_g) | ((with_reducible apply CW.cond_t); exact rfl; exact by_ks) | ((with_reducible apply CW.cond_f); exact rfl; exact by_ks) | ((with_reducible apply q_block_miss); exact rfl) | (refine And.intro (show chk [] [] _ _ = true by kernel_rfl) ?_))
                    refine q_cut ?_
                    exact by_less
                  · rw [if_neg hA, if_neg hA]
                    repeat (first | ((with_reducible apply s1); exact rfl) | (with_reducible first | apply CW.seq | apply CW.block | apply CW.region | apply CW.draw | apply CW.skip | apply CW.exit | apply CW.ret | apply q_then | apply q_then_exit | apply q_then_ret | apply q_block | apply q_block_ret | apply q_block_hit | apply q_ret | apply q_end | apply q_loop_exit | apply q_loop_ret | apply q_loopT_exit | apply q_loopT_ret | apply RW.nil) | ((with_reducible apply s3); exact rfl; exact by_k) | ((with_reducible apply s2); exact rfl; exact by_k) | ((with_reducible apply s4); exact rfl) | ((with_reducible apply s5); (first | exact by_oa); exact by_g) | ((with_reducible apply CW.cond_t); exact rfl; exact by_ks) | ((with_reducible apply CW.cond_f); exact rfl; exact by_ks) | ((with_reducible apply q_block_miss); exact rfl) | (refine And.intro (show chk [] [] _ _ = true by kernel_rfl) ?_))
                    refine q_cut ?_
                    exact by_less
                repeat (first | ((with_reducible apply stop_at 27); exact rfl) | ((with_reducible apply s1); exact rfl) | (with_reducible first | apply CW.seq | apply CW.block | apply CW.region | apply CW.draw | apply CW.skip | apply CW.exit | apply CW.ret | apply q_then | apply q_then_exit | apply q_then_ret | apply q_block | apply q_block_ret | apply q_block_hit | apply q_ret | apply q_end | apply q_loop_exit | apply q_loop_ret | apply q_loopT_exit | apply q_loopT_ret | apply RW.nil) | ((with_reducible apply s3); exact rfl; exact by_k) | ((with_reducible apply s2); exact rfl; exact by_k) | ((with_reducible apply s4); exact rfl) | ((with_reducible apply s5); (first | exact by_oa); exact by_g) | ((with_reducible apply CW.cond_t); exact rfl; exact by_ks) | ((with_reducible apply CW.cond_f); exact rfl; exact by_ks) | ((with_reducible apply q_block_miss); exact rfl) | (refine And.intro (show chk [] [] _ _ = true by kernel_rfl) ?_))
                refine Stop.cutk [(.s 11, .av (.d (dint (insLow kd)))), (.s 12, .av (.d (dint (insHigh kd ((d.code.length : Int) - 1 - k)))))] [.s 1, .s 51, .s 52, .s 53, .s 7, .s 8, .s 9, .s 10, .o 0, .o 1, .nx] ?_ ?_
                · by_cases hA : kd = 8
                  · have hB : ¬ kd = 2 := by omega
                    rw [insLow, insHigh, if_neg hB, if_neg hB, if_neg hB, if_neg hB, if_pos hA, if_pos hA]
                    repeat (first | ((with_reducible apply st_bin); exact rfl; exact rfl; (apply bin_sub; simp only [List.length_map]; omega); exact .none rfl; exact rfl) | ((with_reducible apply s1); exact rfl) | (with_reducible first | apply CW.seq | apply CW.block | apply CW.region | apply CW.draw | apply CW.skip | apply CW.exit | apply CW.ret | apply q_then | apply q_then_exit | apply q_then_ret | apply q_block | apply q_block_ret | apply q_block_hit | apply q_ret | apply q_end | apply q_loop_exit | apply q_loop_ret | apply q_loopT_exit | apply q_loopT_ret | apply RW.nil) | ((with_reducible apply s3); exact rfl; exact by_k) | ((with_reducible apply s2); exact rfl; exact by_k) | ((with_reducible apply s4); exact rfl) | ((with_reducible apply s5); (first | exact by_oa); exact by_g) | ((with_reducible apply CW.cond_t); exact rfl; exact by_ks) | ((with_reducible apply CW.cond_f); exact rfl; exact by_ks) | ((with_reducible apply q_block_miss); exact rfl) | (refine And.intro (show chk [] [] _ _ = true by kernel_rfl) ?_))
                    refine q_cut ?_
                    exact by_less
                  · rw [insLow, insHigh, if_neg hA, if_neg hA]
                    repeat (first | ((with_reducible apply s1); exact rfl) | (with_reducible first | apply CW.seq | apply CW.block | apply CW.region | apply CW.draw | apply CW.skip | apply CW.exit | apply CW.ret | apply q_then | apply q_then_exit | apply q_then_ret | apply q_block | apply q_block_ret | apply q_block_hit | apply q_ret | apply q_end | apply q_loop_exit | apply q_loop_ret | apply q_loopT_exit | apply q_loopT_ret | apply RW.nil) | ((with_reducible apply s3); exact rfl; exact by_k) | ((with_reducible apply s2); exact rfl; exact by_k) | ((with_reducible apply s4); exact rfl) | ((with_reducible apply s5); (first | exact by_oa); exact by_g) | ((with_reducible apply CW.cond_t); exact rfl; exact by_ks) | ((with_reducible apply CW.cond_f); exact rfl; exact by_ks) | ((with_reducible apply q_block_miss); exact rfl) | (refine And.intro (show chk [] [] _ _ = true by kernel_rfl) ?_))
                    refine q_cut ?_
                    exact by_less
                repeat (first | (with_reducible apply stop_reg 29) | ((with_reducible apply s1); exact rfl) | (with_reducible first | apply CW.seq | apply CW.block | apply CW.region | apply CW.draw | apply CW.skip | apply CW.exit | apply CW.ret | apply q_then | apply q_then_exit | apply q_then_ret | apply q_block | apply q_block_ret | apply q_block_hit | apply q_ret | apply q_end | apply q_loop_exit | apply q_loop_ret | apply q_loopT_exit | apply q_loopT_ret | apply RW.nil) | ((with_reducible apply s3); exact rfl; exact by_k) | ((with_reducible apply s2); exact rfl; exact by_k) | ((with_reducible apply s4); exact rfl) | ((with_reducible apply s5); (first | exact by_oa); exact by_g) | ((with_reducible apply CW.cond_t); exact rfl; exact by_ks) | ((with_reducible apply CW.cond_f); exact rfl; exact by_ks) | ((with_reducible apply q_block_miss); exact rfl) | (refine And.intro (show chk [] [] _ _ = true by kernel_rfl) ?_))
                refine Stop.cutk [(.s 115, .av (.d (dbool (insOut kd ia ib n ((d.code.length : Int) - 1 - k)))))] [.s 1, .s 51, .s 52, .s 53, .s 8, .o 0, .o 1, .nx] ?_ ?_
                · unfold insOut
                  by_cases c1 : ia < 0
                  · rw [decide_eq_true c1]
                    repeat (first | ((with_reducible apply s1); exact rfl) | (with_reducible first | apply CW.seq | apply CW.block | apply CW.region | apply CW.draw | apply CW.skip | apply CW.exit | apply CW.ret | apply q_then | apply q_then_exit | apply q_then_ret | apply q_block | apply q_block_ret | apply q_block_hit | apply q_ret | apply q_end | apply q_loop_exit | apply q_loop_ret | apply q_loopT_exit | apply q_loopT_ret | apply RW.nil) | ((with_reducible apply s3); exact rfl; exact by_k) | ((with_reducible apply s2); exact rfl; exact by_k) | ((with_reducible apply s4); exact rfl) | ((with_reducible apply s5); (first | exact by_oa); exact by_g) | ((with_reducible apply CW.cond_t); exact rfl; exact by_ks) | ((with_reducible apply CW.cond_f); exact rfl; exact by_ks) | ((with_reducible apply q_block_miss); exact rfl) | (refine And.intro (show chk [] [] _ _ = true by kernel_rfl) ?_))
                    refine q_cut ?_
                    exact by_less
                  rw [decide_eq_false c1, Bool.false_or]
                  by_cases c2 : insA kd < ia
                  · rw [decide_eq_true c2]
                    repeat (first | ((with_reducible apply s1); exact rfl) | (with_reducible first | apply CW.seq | apply CW.block | apply CW.region | apply CW.draw | apply CW.skip | apply CW.exit | apply CW.ret | apply q_then | apply q_then_exit | apply q_then_ret | apply q_block | apply q_block_ret | apply q_block_hit | apply q_ret | apply q_end | apply q_loop_exit | apply q_loop_ret | apply q_loopT_exit | apply q_loopT_ret | apply RW.nil) | ((with_reducible apply s3); exact rfl; exact by_k) | ((with_reducible apply s2); exact rfl; exact by_k) | ((with_reducible apply s4); exact rfl) | ((with_reducible apply s5); (first | exact by_oa); exact by_g) | ((with_reducible apply CW.cond_t); exact rfl; exact by_ks) | ((with_reducible apply CW.cond_f); exact rfl; exact by_ks) | ((with_reducible apply q_block_miss); exact rfl) | (refine And.intro (show chk [] [] _ _ = true by kernel_rfl) ?_))
                    refine q_cut ?_
                    exact by_less
                  rw [decide_eq_false c2, Bool.false_or]
                  by_cases c3 : ib < 0
                  · rw [decide_eq_true c3]
                    repeat (first | ((with_reducible apply s1); exact rfl) | (with_reducible first | apply CW.seq | apply CW.block | apply CW.region | apply CW.draw | apply CW.skip | apply CW.exit | apply CW.ret | apply q_then | apply q_then_exit | apply q_then_ret | apply q_block | apply q_block_ret | apply q_block_hit | apply q_ret | apply q_end | apply q_loop_exit | apply q_loop_ret | apply q_loopT_exit | apply q_loopT_ret | apply RW.nil) | ((with_reducible apply s3); exact rfl; exact by_k) | ((with_reducible apply s2); exact rfl; exact by_k) | ((with_reducible apply s4); exact rfl) | ((with_reducible apply s5); (first | exact by_oa); exact by_g) | ((with_reducible apply CW.cond_t); exact rfl; exact by_ks) | ((with_reducible apply CW.cond_f); exact rfl; exact by_ks) | ((with_reducible apply q_block_miss); exact rfl) | (refine And.intro (show chk [] [] _ _ = true by kernel_rfl) ?_))
                    refine q_cut ?_
                    exact by_less
                  rw [decide_eq_false c3, Bool.false_or]
                  by_cases c4 : insB kd < ib
                  · rw [decide_eq_true c4]
                    repeat (first | ((with_reducible apply s1); exact rfl) | (with_reducible first | apply CW.seq | apply CW.block | apply CW.region | apply CW.draw | apply CW.skip | apply CW.exit | apply CW.ret | apply q_then | apply q_then_exit | apply q_then_ret | apply q_block | apply q_block_ret | apply q_block_hit | apply q_ret | apply q_end | apply q_loop_exit | apply q_loop_ret | apply q_loopT_exit | apply q_loopT_ret | apply RW.nil) | ((with_reducible apply s3); exact rfl; exact by_k) | ((with_reducible apply s2); exact rfl; exact by_k) | ((with_reducible apply s4); exact rfl) | ((with_reducible apply s5); (first | exact by_oa); exact by_g) | ((with_reducible apply CW.cond_t); exact rfl; exact by_ks) | ((with_reducible apply CW.cond_f); exact rfl; exact by_ks) | ((with_reducible apply q_block_miss); exact rfl) | (refine And.intro (show chk [] [] _ _ = true by kernel_rfl) ?_))
                    refine q_cut ?_
                    exact by_less
                  rw [decide_eq_false c4, Bool.false_or]
                  by_cases c5 : n < insLow kd
                  · rw [decide_eq_true c5]
                    repeat (first | ((with_reducible apply s1); exact rfl) | (with_reducible first | apply CW.seq | apply CW.block | apply CW.region | apply CW.draw | apply CW.skip | apply CW.exit | apply CW.ret | apply q_then | apply q_then_exit | apply q_then_ret | apply q_block | apply q_block_ret | apply q_block_hit | apply q_ret | apply q_end | apply q_loop_exit | apply q_loop_ret | apply q_loopT_exit | apply q_loopT_ret | apply RW.nil) | ((with_reducible apply s3); exact rfl; exact by_k) | ((with_reducible apply s2); exact rfl; exact by_k) | ((with_reducible apply s4); exact rfl) | ((with_reducible apply s5); (first | exact by_oa); exact by_g) | ((with_reducible apply CW.cond_t); exact rfl; exact by_ks) | ((with_reducible apply CW.cond_f); exact rfl; exact by_ks) | ((with_reducible apply q_block_miss); exact rfl) | (refine And.intro (show chk [] [] _ _ = true by kernel_rfl) ?_))
                    refine q_cut ?_
                    exact by_less
                  rw [decide_eq_false c5, Bool.false_or]
                  repeat (first | ((with_reducible apply s1); exact rfl) | (with_reducible first | apply CW.seq | apply CW.block | apply CW.region | apply CW.draw | apply CW.skip | apply CW.exit | apply CW.ret | apply q_then | apply q_then_exit | apply q_then_ret | apply q_block | apply q_block_ret | apply q_block_hit | apply q_ret | apply q_end | apply q_loop_exit | apply q_loop_ret | apply q_loopT_exit | apply q_loopT_ret | apply RW.nil) | ((with_reducible apply s3); exact rfl; exact by_k) | ((with_reducible apply s2); exact rfl; exact by_k) | ((with_reducible apply s4); exact rfl) | ((with_reducible apply s5); (first | exact by_oa); exact by_g) | ((with_reducible apply CW.cond_t); exact rfl; exact by_ks) | ((with_reducible apply CW.cond_f); exact rfl; exact by_ks) | ((with_reducible apply q_block_miss); exact rfl) | (refine And.intro (show chk [] [] _ _ = true by kernel_rfl) ?_))
                  refine q_cut ?_
                  exact by_less
                have hw0 : wrongIns d ((d.code.length : Int) - 1 - k) ⟨kd, ia, ib, n, key⟩ = if insOut kd ia ib n ((d.code.length : Int) - 1 - k) = true then 3 else if has kd 107 = false then (if key = [] then 0 else 2)
                    else if isIn (if (kd : Int) = 1 then d.reads else d.writes) key = true then 0 else 9 := by
                  rw [wrongIns, if_neg (by show ¬ ((kd : Int) < 1 ∨ 9 < (kd : Int)); omega)]
                  rfl
                have hcr := ok_in d.reads key (by omega)
                have hcw := ok_in d.writes key (by omega)
                cases hO : insOut kd ia ib n ((d.code.length : Int) - 1 - k)
                · rw [if_neg (by simp [hO])] at hw0
                  cases hK : has kd 107
                  · rw [if_pos hK] at hw0
                    by_cases hkey : key = []
                    · rw [if_pos hkey] at hw0
                      repeat (first | ((with_reducible apply s1); exact rfl) | (with_reducible first | apply CW.seq | apply CW.block | apply CW.region | apply CW.draw | apply CW.skip | apply CW.exit | apply CW.ret | apply q_then | apply q_then_exit | apply q_then_ret | apply q_block | apply q_block_ret | apply q_block_hit | apply q_ret | apply q_end | apply q_loop_exit | apply q_loop_ret | apply q_loopT_exit | apply q_loopT_ret | apply RW.nil) | ((with_reducible apply s3); exact rfl; exact by_k) | ((with_reducible apply s2); exact rfl; exact by_k) | ((with_reducible apply s4); exact rfl) | ((with_reducible apply s5); (first | (focus ((with_reducible apply a_call); exact hcK; exact rfl; (repeat (first | exact SubsE.nil | (apply SubsE.cons; exact rfl; (first | exact .d (.refl _) | exact .d (.nil _) | exact .agg rfl (.refl _) | exact .pd | exact .ptr rfl); (first | exact trivial | exact ⟨rfl, trivial⟩)))); done)) | exact by_oa); exact by_g) | ((with_reducible apply CW.cond_t); exact rfl; exact by_ks) | ((with_reducible apply CW.cond_f); exact rfl; exact by_ks) | ((with_reducible apply q_block_miss); exact rfl) | (refine And.intro (show chk [] [] _ _ = true by kernel_rfl) ?_))
                      refine q_loopT (k + 1) ⟨by omega, hgood hw0⟩ (by omega) ?_
                      exact by_less
                    · rw [if_neg hkey] at hw0
                      repeat (first | ((with_reducible apply s1); exact rfl) | (with_reducible first | apply CW.seq | apply CW.block | apply CW.region | apply CW.draw | apply CW.skip | apply CW.exit | apply CW.ret | apply q_then | apply q_then_exit | apply q_then_ret | apply q_block | apply q_block_ret | apply q_block_hit | apply q_ret | apply q_end | apply q_loop_exit | apply q_loop_ret | apply q_loopT_exit | apply q_loopT_ret | apply RW.nil) | ((with_reducible apply s3); exact rfl; exact by_k) | ((with_reducible apply s2); exact rfl; exact by_k) | ((with_reducible apply s4); exact rfl) | ((with_reducible apply s5); (first | (focus ((with_reducible apply a_call); exact hcK; exact rfl; (repeat (first | exact SubsE.nil | (apply SubsE.cons; exact rfl; (first | exact .d (.refl _) | exact .d (.nil _) | exact .agg rfl (.refl _) | exact .pd | exact .ptr rfl); (first | exact trivial | exact ⟨rfl, trivial⟩)))); done)) | exact by_oa); exact by_g) | ((with_reducible apply CW.cond_t); exact rfl; exact by_ks) | ((with_reducible apply CW.cond_f); exact rfl; exact by_ks) | ((with_reducible apply q_block_miss); exact rfl) | (refine And.intro (show chk [] [] _ _ = true by kernel_rfl) ?_))
                      exact .one (.tmp rfl (.one (.d (dle_int (by rw [← hbad (by rw [hw0]; decide), hw0])))))
                  · rw [if_neg (by simp [hK])] at hw0
                    by_cases hk1' : (kd : Int) = 1
                    · rw [if_pos hk1'] at hw0
                      cases hin : isIn d.reads key
                      · rw [if_neg (by simp [hin])] at hw0
                        repeat (first | ((with_reducible apply s1); exact rfl) | (with_reducible first | apply CW.seq | apply CW.block | apply CW.region | apply CW.draw | apply CW.skip | apply CW.exit | apply CW.ret | apply q_then | apply q_then_exit | apply q_then_ret | apply q_block | apply q_block_ret | apply q_block_hit | apply q_ret | apply q_end | apply q_loop_exit | apply q_loop_ret | apply q_loopT_exit | apply q_loopT_ret | apply RW.nil) | ((with_reducible apply s3); exact rfl; exact by_k) | ((with_reducible apply s2); exact rfl; exact by_k) | ((with_reducible apply s4); exact rfl) | ((with_reducible apply s5); (first | (focus ((with_reducible apply a_call); exact hcK; exact rfl; (repeat (first | exact SubsE.nil | (apply SubsE.cons; exact rfl; (first | exact .d (.refl _) | exact .d (.nil _) | exact .agg rfl (.refl _) | exact .pd | exact .ptr rfl); (first | exact trivial | exact ⟨rfl, trivial⟩)))); done)) | (focus ((with_reducible apply a_call); exact hcr; exact rfl; (repeat (first | exact SubsE.nil | (apply SubsE.cons; exact rfl; (first | exact .d (.refl _) | exact .d (.nil _) | exact .agg rfl (.refl _) | exact .pd | exact .ptr rfl); (first | exact trivial | exact ⟨rfl, trivial⟩)))); done)) | exact by_oa); exact by_g) | ((with_reducible apply CW.cond_t); exact rfl; exact by_ks) | ((with_reducible apply CW.cond_f); exact rfl; exact by_ks) | ((with_reducible apply q_block_miss); exact rfl) | (refine And.intro (show chk [] [] _ _ = true by kernel_rfl) ?_))
                        exact .one (.tmp rfl (.one (.d (dle_int (by rw [← hbad (by rw [hw0]; decide), hw0])))))
                      · rw [if_pos hin] at hw0
                        repeat (first | ((with_reducible apply s1); exact rfl) | (with_reducible first | apply CW.seq | apply CW.block | apply CW.region | apply CW.draw | apply CW.skip | apply CW.exit | apply CW.ret | apply q_then | apply q_then_exit | apply q_then_ret | apply q_block | apply q_block_ret | apply q_block_hit | apply q_ret | apply q_end | apply q_loop_exit | apply q_loop_ret | apply q_loopT_exit | apply q_loopT_ret | apply RW.nil) | ((with_reducible apply s3); exact rfl; exact by_k) | ((with_reducible apply s2); exact rfl; exact by_k) | ((with_reducible apply s4); exact rfl) | ((with_reducible apply s5); (first | (focus ((with_reducible apply a_call); exact hcK; exact rfl; (repeat (first | exact SubsE.nil | (apply SubsE.cons; exact rfl; (first | exact .d (.refl _) | exact .d (.nil _) | exact .agg rfl (.refl _) | exact .pd | exact .ptr rfl); (first | exact trivial | exact ⟨rfl, trivial⟩)))); done)) | (focus ((with_reducible apply a_call); exact hcr; exact rfl; (repeat (first | exact SubsE.nil | (apply SubsE.cons; exact rfl; (first | exact .d (.refl _) | exact .d (.nil _) | exact .agg rfl (.refl _) | exact .pd | exact .ptr rfl); (first | exact trivial | exact ⟨rfl, trivial⟩)))); done)) | exact by_oa); exact by_g) | ((with_reducible apply CW.cond_t); exact rfl; exact by_ks) | ((with_reducible apply CW.cond_f); exact rfl; exact by_ks) | ((with_reducible apply q_block_miss); exact rfl) | (refine And.intro (show chk [] [] _ _ = true by kernel_rfl) ?_))
                        refine q_loopT (k + 1) ⟨by omega, hgood hw0⟩ (by omega) ?_
                        exact by_less
                    · rw [if_neg hk1'] at hw0
                      cases hin : isIn d.writes key
                      · rw [if_neg (by simp [hin])] at hw0
                        repeat (first | ((with_reducible apply s1); exact rfl) | (with_reducible first | apply CW.seq | apply CW.block | apply CW.region | apply CW.draw | apply CW.skip | apply CW.exit | apply CW.ret | apply q_then | apply q_then_exit | apply q_then_ret | apply q_block | apply q_block_ret | apply q_block_hit | apply q_ret | apply q_end | apply q_loop_exit | apply q_loop_ret | apply q_loopT_exit | apply q_loopT_ret | apply RW.nil) | ((with_reducible apply s3); exact rfl; exact by_k) | ((with_reducible apply s2); exact rfl; exact by_k) | ((with_reducible apply s4); exact rfl) | ((with_reducible apply s5); (first | (focus ((with_reducible apply a_call); exact hcK; exact rfl; (repeat (first | exact SubsE.nil | (apply SubsE.cons; exact rfl; (first | exact .d (.refl _) | exact .d (.nil _) | exact .agg rfl (.refl _) | exact .pd | exact .ptr rfl); (first | exact trivial | exact ⟨rfl, trivial⟩)))); done)) | (focus ((with_reducible apply a_call); exact hcw; exact rfl; (repeat (first | exact SubsE.nil | (apply SubsE.cons; exact rfl; (first | exact .d (.refl _) | exact .d (.nil _) | exact .agg rfl (.refl _) | exact .pd | exact .ptr rfl); (first | exact trivial | exact ⟨rfl, trivial⟩)))); done)) | exact by_oa); exact by_g) | ((with_reducible apply CW.cond_t); exact rfl; exact by_ks) | ((with_reducible apply CW.cond_f); exact rfl; exact by_ks) | ((with_reducible apply q_block_miss); exact rfl) | (refine And.intro (show chk [] [] _ _ = true by kernel_rfl) ?_))
                        exact .one (.tmp rfl (.one (.d (dle_int (by rw [← hbad (by rw [hw0]; decide), hw0])))))
                      · rw [if_pos hin] at hw0
                        repeat (first | ((with_reducible apply s1); exact rfl) | (with_reducible first | apply CW.seq | apply CW.block | apply CW.region | apply CW.draw | apply CW.skip | apply CW.exit | apply CW.ret | apply q_then | apply q_then_exit | apply q_then_ret | apply q_block | apply q_block_ret | apply q_block_hit | apply q_ret | apply q_end | apply q_loop_exit | apply q_loop_ret | apply q_loopT_exit | apply q_loopT_ret | apply RW.nil) | ((with_reducible apply s3); exact rfl; exact by_k) | ((with_reducible apply s2); exact rfl; exact by_k) | ((with_reducible apply s4); exact rfl) | ((with_reducible apply s5); (first | (focus ((with_reducible apply a_call); exact hcK; exact rfl; (repeat (first | exact SubsE.nil | (apply SubsE.cons; exact rfl; (first | exact .d (.refl _) | exact .d (.nil _) | exact .agg rfl (.refl _) | exact .pd | exact .ptr rfl); (first | exact trivial | exact ⟨rfl, trivial⟩)))); done)) | (focus ((with_reducible apply a_call); exact hcw; exact rfl; (repeat (first | exact SubsE.nil | (apply SubsE.cons; exact rfl; (first | exact .d (.refl _) | exact .d (.nil _) | exact .agg rfl (.refl _) | exact .pd | exact .ptr rfl); (first | exact trivial | exact ⟨rfl, trivial⟩)))); done)) | exact by_oa); exact by_g) | ((with_reducible apply CW.cond_t); exact rfl; exact by_ks) | ((with_reducible apply CW.cond_f); exact rfl; exact by_ks) | ((with_reducible apply q_block_miss); exact rfl) | (refine And.intro (show chk [] [] _ _ = true by kernel_rfl) ?_))
                        refine q_loopT (k + 1) ⟨by omega, hgood hw0⟩ (by omega) ?_
                        exact by_less
                · rw [if_pos hO] at hw0
                  repeat (first | ((with_reducible apply s1); exact rfl) | (with_reducible first | apply CW.seq | apply CW.block | apply CW.region | apply CW.draw | apply CW.skip | apply CW.exit | apply CW.ret | apply q_then | apply q_then_exit | apply q_then_ret | apply q_block | apply q_block_ret | apply q_block_hit | apply q_ret | apply q_end | apply q_loop_exit | apply q_loop_ret | apply q_loopT_exit | apply q_loopT_ret | apply RW.nil) | ((with_reducible apply s3); exact rfl; exact by_k) | ((with_reducible apply s2); exact rfl; exact by_k) | ((with_reducible apply s4); exact rfl) | ((with_reducible apply s5); (first | exact by_oa); exact by_g) | ((with_reducible apply CW.cond_t); exact rfl; exact by_ks) | ((with_reducible apply CW.cond_f); exact rfl; exact by_ks) | ((with_reducible apply q_block_miss); exact rfl) | (refine And.intro (show chk [] [] _ _ = true by kernel_rfl) ?_))
                  exact .one (.tmp rfl (.one (.d (dle_int (by rw [← hbad (by rw [hw0]; decide), hw0])))))
    · have h3' : j < 2 := h3
      rw [h1] at hI
      have hl : l.length ≤ 268435456 ∧ ∀ s ∈ l, s.length ≤ 1073741824 := by
        have := List.mem_of_getElem? h2
        simp at this
        rcases this with rfl | rfl
        · exact ⟨hr, hrk⟩
        · exact ⟨hw, hwk⟩
      have hbad : keysWrong l ≠ 0 → keysWrong l = wrongDeed d := fun h0 => by
        rcases ls_first hI with ⟨h5, h6⟩ | ⟨h5, h6⟩
        · exact absurd h5 h0
        · rw [wrongDeed, if_neg (by rw [← h6]; exact h0), h6]
      by_cases h4 : 5 < l.length
      · have h6 : keysWrong l = 5 := by rw [keysWrong, if_pos h4]
        repeat (first | ((with_reducible apply s1); exact rfl) | (with_reducible first | apply CW.seq | apply CW.block | apply CW.region | apply CW.draw | apply CW.skip | apply CW.exit | apply CW.ret | apply q_then | apply q_then_exit | apply q_then_ret | apply q_block | apply q_block_ret | apply q_block_hit | apply q_ret | apply q_end | apply q_loop_exit | apply q_loop_ret | apply q_loopT_exit | apply q_loopT_ret | apply RW.nil) | ((with_reducible apply s3); exact rfl; exact by_k) | ((with_reducible apply s2); exact rfl; exact by_k) | ((with_reducible apply s4); exact rfl) | ((with_reducible apply s5); (first | exact by_oa); exact by_g) | ((with_reducible apply CW.cond_t); exact rfl; exact by_ks) | ((with_reducible apply CW.cond_f); exact rfl; exact by_ks) | ((with_reducible apply q_block_miss); exact rfl) | (refine And.intro (show chk [] [] _ _ = true by kernel_rfl) ?_))
        exact .one (.tmp rfl (.one (.d (dle_int (by rw [← h6]; exact hbad (by rw [h6]; decide))))))
      ·
        repeat (first | ((with_reducible apply s1); exact rfl) | (with_reducible first | apply CW.seq | apply CW.block | apply CW.region | apply CW.draw | apply CW.skip | apply CW.exit | apply CW.ret | apply q_then | apply q_then_exit | apply q_then_ret | apply q_block | apply q_block_ret | apply q_block_hit | apply q_ret | apply q_end | apply q_loop_exit | apply q_loop_ret | apply q_loopT_exit | apply q_loopT_ret | apply RW.nil) | ((with_reducible apply s3); exact rfl; exact by_k) | ((with_reducible apply s2); exact rfl; exact by_k) | ((with_reducible apply s4); exact rfl) | ((with_reducible apply s5); (first | exact by_oa); exact by_g) | ((with_reducible apply CW.cond_t); exact rfl; exact by_ks) | ((with_reducible apply CW.cond_f); exact rfl; exact by_ks) | ((with_reducible apply q_block_miss); exact rfl) | (refine And.intro (show chk [] [] _ _ = true by kernel_rfl) ?_))
        refine CW.loopT (fun i : Nat => [(.s 1, .av (.ptr 0 0)), (.o 0, .ob (.box (d.enc.map AV.d))), (.s 18, .av (.d (.sl 1 ([d.reads, d.writes].map fun l => [encStrs l])))), (.s 19, .av (.d (dint 2))), (.s 20, .av (.d (dint j))), (.s 4, .av (.d (encStrs l))), (.s 27, .av (.d (encStrs l))), (.s 28, .av (.d (dint l.length))), (.s 29, .av (.d (dint i))), (.nx, .num 1)])
          (fun i => i ≤ l.length ∧ keysGo l i (l.drop i) = keysWrong l) (fun i => l.length - i) 0 ⟨by omega, by rw [keysWrong, if_neg h4]; rfl⟩ ?_ ?_
        ·
          exact by_less
        · rintro i ⟨hi, hJ⟩
          rcases drop_case hi with ⟨h5, h6⟩ | ⟨k, h5, h6, h7⟩
          · rw [h5] at hJ
            simp only [keysGo] at hJ
            repeat (first | ((with_reducible apply s1); exact rfl) | (with_reducible first | apply CW.seq | apply CW.block | apply CW.region | apply CW.draw | apply CW.skip | apply CW.exit | apply CW.ret | apply q_then | apply q_then_exit | apply q_then_ret | apply q_block | apply q_block_ret | apply q_block_hit | apply q_ret | apply q_end | apply q_loop_exit | apply q_loop_ret | apply q_loopT_exit | apply q_loopT_ret | apply RW.nil) | ((with_reducible apply s3); exact rfl; exact by_k) | ((with_reducible apply s2); exact rfl; exact by_k) | ((with_reducible apply s4); exact rfl) | ((with_reducible apply s5); (first | exact by_oa); exact by_g) | ((with_reducible apply CW.cond_t); exact rfl; exact by_ks) | ((with_reducible apply CW.cond_f); exact rfl; exact by_ks) | ((with_reducible apply q_block_miss); exact rfl) | (refine And.intro (show chk [] [] _ _ = true by kernel_rfl) ?_))
            refine q_loopT (j + 1) ⟨by simp; omega, ?_⟩ (by omega) ?_
            · rcases ls_first hI with ⟨h8, h9⟩ | ⟨h8, h9⟩
              · exact h9
              · exact absurd hJ.symm h8
            ·
              exact by_less
          · rw [h5] at hJ
            simp only [keysGo] at hJ
            have hck := ok_key k (hl.2 k (List.mem_of_getElem? h6))
            have hin : FnOk Tryz.prog 52 [.d (.sl 1 ((l.map encStr1).take i)), .d (dstr k)] (.one (dbool (isIn (l.take i) k))) := by
              rw [← List.map_take]
              exact ok_in (l.take i) k (by rw [List.length_take]; have := hl.1; omega)
            cases h8 : key k
            · rw [if_pos h8] at hJ
              repeat (first | ((with_reducible apply s1); exact rfl) | (with_reducible first | apply CW.seq | apply CW.block | apply CW.region | apply CW.draw | apply CW.skip | apply CW.exit | apply CW.ret | apply q_then | apply q_then_exit | apply q_then_ret | apply q_block | apply q_block_ret | apply q_block_hit | apply q_ret | apply q_end | apply q_loop_exit | apply q_loop_ret | apply q_loopT_exit | apply q_loopT_ret | apply RW.nil) | ((with_reducible apply s3); exact rfl; exact by_k) | ((with_reducible apply s2); exact rfl; exact by_k) | ((with_reducible apply s4); exact rfl) | ((with_reducible apply s5); (first | (focus ((with_reducible apply a_call); exact hck; exact rfl; (repeat (first | exact SubsE.nil | (apply SubsE.cons; exact rfl; (first | exact .d (.refl _) | exact .d (.nil _) | exact .agg rfl (.refl _) | exact .pd | exact .ptr rfl); (first | exact trivial | exact ⟨rfl, trivial⟩)))); done)) | exact by_oa); exact by_g) | ((with_reducible apply CW.cond_t); exact rfl; exact by_ks) | ((with_reducible apply CW.cond_f); exact rfl; exact by_ks) | ((with_reducible apply q_block_miss); exact rfl) | (refine And.intro (show chk [] [] _ _ = true by kernel_rfl) ?_))
              exact .one (.tmp rfl (.one (.d (dle_int (by rw [hJ]; exact hbad (by rw [← hJ]; decide))))))
            · rw [if_neg (by simp [h8])] at hJ
              cases h9 : isIn (l.take i) k
              · rw [if_neg (by simp [h9])] at hJ
                repeat (first | ((with_reducible apply s1); exact rfl) | (with_reducible first | apply CW.seq | apply CW.block | apply CW.region | apply CW.draw | apply CW.skip | apply CW.exit | apply CW.ret | apply q_then | apply q_then_exit | apply q_then_ret | apply q_block | apply q_block_ret | apply q_block_hit | apply q_ret | apply q_end | apply q_loop_exit | apply q_loop_ret | apply q_loopT_exit | apply q_loopT_ret | apply RW.nil) | ((with_reducible apply s3); exact rfl; exact by_k) | ((with_reducible apply s2); exact rfl; exact by_k) | ((with_reducible apply s4); exact rfl) | ((with_reducible apply s5); (first | (focus ((with_reducible apply a_call); exact hck; exact rfl; (repeat (first | exact SubsE.nil | (apply SubsE.cons; exact rfl; (first | exact .d (.refl _) | exact .d (.nil _) | exact .agg rfl (.refl _) | exact .pd | exact .ptr rfl); (first | exact trivial | exact ⟨rfl, trivial⟩)))); done)) | (focus ((with_reducible apply a_call); exact hin; exact rfl; (repeat (first | exact SubsE.nil | (apply SubsE.cons; exact rfl; (first | exact .d (.refl _) | exact .d (.nil _) | exact .agg rfl (.refl _) | exact .pd | exact .ptr rfl); (first | exact trivial | exact ⟨rfl, trivial⟩)))); done)) | exact by_oa); exact by_g) | ((with_reducible apply CW.cond_t); exact rfl; exact by_ks) | ((with_reducible apply CW.cond_f); exact rfl; exact by_ks) | ((with_reducible apply q_block_miss); exact rfl) | (refine And.intro (show chk [] [] _ _ = true by kernel_rfl) ?_))
                refine q_loopT (i + 1) ⟨by omega, hJ⟩ (by omega) ?_
                exact by_less
              · rw [if_pos h9] at hJ
                repeat (first | ((with_reducible apply s1); exact rfl) | (with_reducible first | apply CW.seq | apply CW.block | apply CW.region | apply CW.draw | apply CW.skip | apply CW.exit | apply CW.ret | apply q_then | apply q_then_exit | apply q_then_ret | apply q_block | apply q_block_ret | apply q_block_hit | apply q_ret | apply q_end | apply q_loop_exit | apply q_loop_ret | apply q_loopT_exit | apply q_loopT_ret | apply RW.nil) | ((with_reducible apply s3); exact rfl; exact by_k) | ((with_reducible apply s2); exact rfl; exact by_k) | ((with_reducible apply s4); exact rfl) | ((with_reducible apply s5); (first | (focus ((with_reducible apply a_call); exact hck; exact rfl; (repeat (first | exact SubsE.nil | (apply SubsE.cons; exact rfl; (first | exact .d (.refl _) | exact .d (.nil _) | exact .agg rfl (.refl _) | exact .pd | exact .ptr rfl); (first | exact trivial | exact ⟨rfl, trivial⟩)))); done)) | (focus ((with_reducible apply a_call); exact hin; exact rfl; (repeat (first | exact SubsE.nil | (apply SubsE.cons; exact rfl; (first | exact .d (.refl _) | exact .d (.nil _) | exact .agg rfl (.refl _) | exact .pd | exact .ptr rfl); (first | exact trivial | exact ⟨rfl, trivial⟩)))); done)) | exact by_oa); exact by_g) | ((with_reducible apply CW.cond_t); exact rfl; exact by_ks) | ((with_reducible apply CW.cond_f); exact rfl; exact by_ks) | ((with_reducible apply q_block_miss); exact rfl) | (refine And.intro (show chk [] [] _ _ = true by kernel_rfl) ?_))
                exact .one (.tmp rfl (.one (.d (dle_int (by rw [hJ]; exact hbad (by rw [← hJ]; decide))))))

end Go.Proofs.YtjgbmdonhabmiaaGreatDoor

/-! Eq2 -/
/-
  Ends held against each other.
-/
namespace Go.Proofs.YtjgbmdonhabmiaaGreatDoor
open Go.AX Go.RF

theorem eq_regs (n : Nat) (a0 a1 a2 a3 b0 b1 b2 b3 : Int) (w : World) : (Op.equalIn (n + 2) 65 (.agg #[i64 a0, i64 a1, i64 a2, i64 a3]) (.agg #[i64 b0, i64 b1, i64 b2, i64 b3])).run Tryz.prog w = .ok (decide (a0 = b0 ∧ a1 = b1 ∧ a2 = b2 ∧ a3 = b3)) w := by
  have hs : ∀ w, (sizeOf 3).run Tryz.prog w = .ok 1 w := by
    intro w
    obtain ⟨i, h1, h2⟩ : ∃ i, Tryz.prog.info? 3 = some i ∧ i.size = 1 := by
      have := tbl_ok 3 _ rfl
      obtain ⟨i, h1, h2, _⟩ := this.info
      exact ⟨i, h1, h2⟩
    simp [sizeOf, typeInfo, h1, h2]
  unfold Op.equalIn
  simp only [Sem.run_bind, run_underlying Tryz.underlying65, Result.andThen_ok, hs]
  simp [Std.Legacy.Range.forIn_eq_forIn_range', List.range', Std.Legacy.Range.size, part, Tryz.isAgg3, run_equalIn_int, Tryz.underlying3]
  by_cases h0 : a0 = b0 <;> by_cases h1 : a1 = b1 <;> by_cases h2 : a2 = b2 <;> by_cases h3 : a3 = b3 <;> simp [h0, h1, h2, h3]

def Done.vals (e : Done) : List Value := [.bool e.failed, i64 e.r0, i64 e.r1, i64 e.r2, i64 e.r3]

theorem eq_done (a b : Done) (w : World) : (Op.equalIn 10000 67 (.agg (Done.vals a).toArray) (.agg (Done.vals b).toArray)).run Tryz.prog w = .ok (decide (a = b)) w := by
  rw [run_equalIn_agg (P := Tryz.prog) w 9999 67 _ _ (by kernel_rfl) (by kernel_rfl)]
  obtain ⟨f, a0, a1, a2, a3⟩ := a
  obtain ⟨g, b0, b1, b2, b3⟩ := b
  have hs : ∀ w, (sizeOf 65).run Tryz.prog w = .ok 4 w := by
    intro w
    obtain ⟨i, h1, h2⟩ : ∃ i, Tryz.prog.info? 65 = some i ∧ i.size = 4 := by
      have := tbl_ok 65 _ rfl
      obtain ⟨i, h1, h2, _⟩ := this.info
      exact ⟨i, h1, h2⟩
    simp [sizeOf, typeInfo, h1, h2]
  have hp : ∀ (f : Bool) (a0 a1 a2 a3 : Int) (w : World), (part 65 #[.bool f, i64 a0, i64 a1, i64 a2, i64 a3] 1).run Tryz.prog w = .ok (.agg #[i64 a0, i64 a1, i64 a2, i64 a3]) w := by
    intro f a0 a1 a2 a3 w
    simp [part, Tryz.isAgg65, hs]
  have hb : ∀ (f : Bool) (a0 a1 a2 a3 : Int) (w : World), (part 4 #[.bool f, i64 a0, i64 a1, i64 a2, i64 a3] 0).run Tryz.prog w = .ok (.bool f) w := by
    intro f a0 a1 a2 a3 w
    simp [part, Tryz.isAgg4]
  have he := fun w => eq_regs 9997 a0 a1 a2 a3 b0 b1 b2 b3 w
  simp only [Program.fieldsOf, Tryz.underlying67, Op.eqFields, Done.vals]
  simp [hb, hp, he, run_equalIn_bool', Tryz.underlying4]
  by_cases e1 : f = g
  · subst e1
    by_cases h0 : a0 = b0 <;> by_cases h1 : a1 = b1 <;> by_cases h2 : a2 = b2 <;> by_cases h3 : a3 = b3 <;> simp [h0, h1, h2, h3]
  · simp [e1]

theorem neq_done (a b : Done) : BinR Tryz.prog .neq 67 (.agg (Done.vals a).toArray) (.agg (Done.vals b).toArray) (.bool (!decide (a = b))) := by
  intro w x y
  rw [Sem.run_bind, run_eqGuard_agg _ _ _ _ _ _ _ (by kernel_rfl), Result.andThen_ok, run_neq_struct, eq_done]
  rfl

theorem eq_ins (a b : Ins) (w : World) : (Op.equalIn 10000 88 (.agg #[i64 a.kind, i64 a.a, i64 a.b, i64 a.n, str a.key]) (.agg #[i64 b.kind, i64 b.a, i64 b.b, i64 b.n, str b.key])).run Tryz.prog w = .ok (decide (a = b)) w := by
  rw [run_equalIn_agg (P := Tryz.prog) w 9999 88 _ _ (by kernel_rfl) (by kernel_rfl)]
  obtain ⟨k1, a1, b1, n1, s1⟩ := a
  obtain ⟨k2, a2, b2, n2, s2⟩ := b
  simp only [Program.fieldsOf, Tryz.underlying88, Op.eqFields]
  simp [part, Tryz.isAgg9, Tryz.isAgg3, str, run_equalIn_string, run_equalIn_int, Tryz.underlying9, Tryz.underlying3]
  by_cases e1 : k1 = k2 <;> by_cases e2 : a1 = a2 <;> by_cases e3 : b1 = b2 <;> by_cases e4 : n1 = n2 <;> by_cases e5 : s1 = s2 <;> simp [e1, e2, e3, e4, e5]
theorem neq_ins (a b : Ins) : BinR Tryz.prog .neq 88 (.agg #[i64 a.kind, i64 a.a, i64 a.b, i64 a.n, str a.key]) (.agg #[i64 b.kind, i64 b.a, i64 b.b, i64 b.n, str b.key]) (.bool (!decide (a = b))) := by
  intro w x y
  rw [Sem.run_bind, run_eqGuard_agg _ _ _ _ _ _ _ (by kernel_rfl), Result.andThen_ok, run_neq_struct, eq_ins]
  rfl

end Go.Proofs.YtjgbmdonhabmiaaGreatDoor

/-! F13 -/
/-
  Contract of the references' Add.
-/
namespace Go.Proofs.YtjgbmdonhabmiaaGreatDoor
open Go.AX Go.RF

set_option maxRecDepth 100000
set_option maxHeartbeats 4000000

theorem ok_add (l : List Chain) (k : Str) (b : Int) (hl : l.length ≤ 268435456) (hs : ∀ c ∈ l, c.vs.length ≤ 268435456) : FnOk Tryz.prog 30 [.d (encChains l), .d (dstr k), .d (dint b)] (.one (encChains (addC l k b))) := by
  refine fnOk_of tbl_ok mixed_ok Tryz.func30 rfl (by kernel_rfl) rfl rfl fun w0 own0 => ?_
  repeat (first | ((with_reducible apply s1); exact rfl) | (with_reducible first | apply CW.seq | apply CW.block | apply CW.region | apply CW.draw | apply CW.skip | apply CW.exit | apply CW.ret | apply q_then | apply q_then_exit | apply q_then_ret | apply q_block | apply q_block_ret | apply q_block_hit | apply q_ret | apply q_end | apply q_loop_exit | apply q_loop_ret | apply q_loopT_exit | apply q_loopT_ret | apply RW.nil) | ((with_reducible apply s3); exact rfl; exact by_k) | ((with_reducible apply s2); exact rfl; exact by_k) | ((with_reducible apply s4); exact rfl) | ((with_reducible apply s5); (first | exact by_oa); exact by_g) | ((with_reducible apply CW.cond_t); exact rfl; exact by_ks) | ((with_reducible apply CW.cond_f); exact rfl; exact by_ks) | ((with_reducible apply q_block_miss); exact rfl) | (refine And.intro (show chk [] [] _ _ = true by kernel_rfl) ?_))
  refine CW.stut (stut_promote (i := 7) 59 2) ⟨rfl, rfl, trivial⟩ ?_
  refine CW.loopT (fun t : Nat × Bool × List Chain => [sd 1 (dstr k), sd 2 (dint b), so 7 0 t.2.2.length, sd 8 (dbool t.2.1), sd 11 (encChains l), sd 12 (dint l.length), sd 13 (dint t.1), oa 0 59 2 (t.2.2.map Chain.enc), nxt 1])
    (fun t => t.1 ≤ l.length ∧ t.2.2.length ≤ 2 * t.1 ∧ addGo k b t.2.1 t.2.2 (l.drop t.1) = addC l k b) (fun t => l.length - t.1) (0, false, []) ⟨by omega, by simp, rfl⟩ ?_ ?_
  ·
    exact by_less
  · rintro ⟨i, done, out⟩ ⟨hi, ho, hI⟩
    dsimp only at hi ho hI ⊢
    rcases drop_case hi with ⟨h1, h2⟩ | ⟨c, h1, h2, h3⟩
    · rw [h1] at hI
      simp only [addGo] at hI
      cases done
      ·
        repeat (first | ((with_reducible apply s1); exact rfl) | (with_reducible first | apply CW.seq | apply CW.block | apply CW.region | apply CW.draw | apply CW.skip | apply CW.exit | apply CW.ret | apply q_then | apply q_then_exit | apply q_then_ret | apply q_block | apply q_block_ret | apply q_block_hit | apply q_ret | apply q_end | apply q_loop_exit | apply q_loop_ret | apply q_loopT_exit | apply q_loopT_ret | apply RW.nil) | ((with_reducible apply s3); exact rfl; exact by_k) | ((with_reducible apply s2); exact rfl; exact by_k) | ((with_reducible apply s4); exact rfl) | ((with_reducible apply s5); (first | exact by_oa); exact by_g) | ((with_reducible apply CW.cond_t); exact rfl; exact by_ks) | ((with_reducible apply CW.cond_f); exact rfl; exact by_ks) | ((with_reducible apply q_block_miss); exact rfl) | (refine And.intro (show chk [] [] _ _ = true by kernel_rfl) ?_))
        exact .one (.tmp rfl (.one (.own rfl (by simp) (dle_eq (by rw [← hI]; simp [encChains]; rfl)))))
      ·
        repeat (first | ((with_reducible apply s1); exact rfl) | (with_reducible first | apply CW.seq | apply CW.block | apply CW.region | apply CW.draw | apply CW.skip | apply CW.exit | apply CW.ret | apply q_then | apply q_then_exit | apply q_then_ret | apply q_block | apply q_block_ret | apply q_block_hit | apply q_ret | apply q_end | apply q_loop_exit | apply q_loop_ret | apply q_loopT_exit | apply q_loopT_ret | apply RW.nil) | ((with_reducible apply s3); exact rfl; exact by_k) | ((with_reducible apply s2); exact rfl; exact by_k) | ((with_reducible apply s4); exact rfl) | ((with_reducible apply s5); (first | exact by_oa); exact by_g) | ((with_reducible apply CW.cond_t); exact rfl; exact by_ks) | ((with_reducible apply CW.cond_f); exact rfl; exact by_ks) | ((with_reducible apply q_block_miss); exact rfl) | (refine And.intro (show chk [] [] _ _ = true by kernel_rfl) ?_))
        exact .one (.tmp rfl (.one (.own rfl (by simp) (dle_eq (by rw [← hI]; rfl)))))
    · rw [h1] at hI
      simp only [addGo] at hI
      have hcv := hs c (List.mem_of_getElem? h2)
      have he : out.map Chain.enc ++ [[dstr c.key, .sl 4 (c.vs.map Version.enc ++ [[dint b, dbool false, dbool false, dint 0]])]] = (out ++ [Chain.mk c.key (c.vs ++ [Version.mk b false false 0])]).map Chain.enc := by
        simp [Chain.enc, encVs, Version.enc]
      have he2 : (out.map Chain.enc ++ [[dstr k, .sl 4 [[dint b, dbool false, dbool false, dint 0]]]]) ++ [c.enc] = ((out ++ [Chain.mk k [Version.mk b false false 0]]) ++ [c]).map Chain.enc := by
        simp [Chain.enc, encVs, Version.enc]
      cases done
      · by_cases h4 : c.key = k
        · simp [h4] at hI
          have h6 : (!(slt c.key k || decide (c.key = k))) = false := by simp [h4]
          repeat (first | (with_reducible apply stop_region 12) | ((with_reducible apply s1); exact rfl) | (with_reducible first | apply CW.seq | apply CW.block | apply CW.region | apply CW.draw | apply CW.skip | apply CW.exit | apply CW.ret | apply q_then | apply q_then_exit | apply q_then_ret | apply q_block | apply q_block_ret | apply q_block_hit | apply q_ret | apply q_end | apply q_loop_exit | apply q_loop_ret | apply q_loopT_exit | apply q_loopT_ret | apply RW.nil) | ((with_reducible apply s3); exact rfl; exact by_k) | ((with_reducible apply s2); exact rfl; exact by_k) | ((with_reducible apply s4); exact rfl) | ((with_reducible apply s5); (first | exact by_oa); exact by_g) | ((with_reducible apply CW.cond_t); exact rfl; exact by_ks) | ((with_reducible apply CW.cond_f); exact rfl; exact by_ks) | ((with_reducible apply q_block_miss); exact rfl) | (refine And.intro (show chk [] [] _ _ = true by kernel_rfl) ?_))
          refine Stop.go (CW.stut (stut_freeze_cell (id := 1) (j := 1) (i := 2) rfl (by simp)) ⟨rfl, rfl, trivial⟩ ?_)
          repeat (first | ((with_reducible apply s1); exact rfl) | (with_reducible first | apply CW.seq | apply CW.block | apply CW.region | apply CW.draw | apply CW.skip | apply CW.exit | apply CW.ret | apply q_then | apply q_then_exit | apply q_then_ret | apply q_block | apply q_block_ret | apply q_block_hit | apply q_ret | apply q_end | apply q_loop_exit | apply q_loop_ret | apply q_loopT_exit | apply q_loopT_ret | apply RW.nil) | ((with_reducible apply s3); exact rfl; exact by_k) | ((with_reducible apply s2); exact rfl; exact by_k) | ((with_reducible apply s4); exact rfl) | ((with_reducible apply s5); (first | exact by_oa); exact by_g) | ((with_reducible apply CW.cond_t); exact rfl; exact by_ks) | ((with_reducible apply CW.cond_f); exact rfl; exact by_ks) | ((with_reducible apply q_block_miss); exact rfl) | (refine And.intro (show chk [] [] _ _ = true by kernel_rfl) ?_))
          refine q_loopT (i + 1, true, out ++ [⟨c.key, c.vs ++ [⟨b, false, false, 0⟩]⟩]) ⟨by dsimp only; omega, by dsimp only; simp; omega, by rw [h4]; exact hI⟩ (by dsimp only; omega) ?_
          exact by_less
        · cases h5 : slt c.key k
          · simp [h4, h5] at hI
            have h6 : (!(slt c.key k || decide (c.key = k))) = true := by simp [h4, h5]
            repeat (first | ((with_reducible apply s1); exact rfl) | (with_reducible first | apply CW.seq | apply CW.block | apply CW.region | apply CW.draw | apply CW.skip | apply CW.exit | apply CW.ret | apply q_then | apply q_then_exit | apply q_then_ret | apply q_block | apply q_block_ret | apply q_block_hit | apply q_ret | apply q_end | apply q_loop_exit | apply q_loop_ret | apply q_loopT_exit | apply q_loopT_ret | apply RW.nil) | ((with_reducible apply s3); exact rfl; exact by_k) | ((with_reducible apply s2); exact rfl; exact by_k) | ((with_reducible apply s4); exact rfl) | ((with_reducible apply s5); (first | exact by_oa); exact by_g) | ((with_reducible apply CW.cond_t); exact rfl; exact by_ks) | ((with_reducible apply CW.cond_f); exact rfl; exact by_ks) | ((with_reducible apply q_block_miss); exact rfl) | (refine And.intro (show chk [] [] _ _ = true by kernel_rfl) ?_))
            refine q_loopT (i + 1, true, (out ++ [⟨k, [⟨b, false, false, 0⟩]⟩]) ++ [c]) ⟨by dsimp only; omega, by dsimp only; simp; omega, by simpa using hI⟩ (by dsimp only; omega) ?_
            exact by_less
          · simp [h4, h5] at hI
            have h6 : (!(slt c.key k || decide (c.key = k))) = false := by simp [h5]
            repeat (first | ((with_reducible apply s1); exact rfl) | (with_reducible first | apply CW.seq | apply CW.block | apply CW.region | apply CW.draw | apply CW.skip | apply CW.exit | apply CW.ret | apply q_then | apply q_then_exit | apply q_then_ret | apply q_block | apply q_block_ret | apply q_block_hit | apply q_ret | apply q_end | apply q_loop_exit | apply q_loop_ret | apply q_loopT_exit | apply q_loopT_ret | apply RW.nil) | ((with_reducible apply s3); exact rfl; exact by_k) | ((with_reducible apply s2); exact rfl; exact by_k) | ((with_reducible apply s4); exact rfl) | ((with_reducible apply s5); (first | exact by_oa); exact by_g) | ((with_reducible apply CW.cond_t); exact rfl; exact by_ks) | ((with_reducible apply CW.cond_f); exact rfl; exact by_ks) | ((with_reducible apply q_block_miss); exact rfl) | (refine And.intro (show chk [] [] _ _ = true by kernel_rfl) ?_))
            refine q_loopT (i + 1, false, out ++ [c]) ⟨by dsimp only; omega, by dsimp only; simp; omega, hI⟩ (by dsimp only; omega) ?_
            exact by_less
      · by_cases h4 : c.key = k
        · simp [h4] at hI
          repeat (first | (with_reducible apply stop_region 12) | ((with_reducible apply s1); exact rfl) | (with_reducible first | apply CW.seq | apply CW.block | apply CW.region | apply CW.draw | apply CW.skip | apply CW.exit | apply CW.ret | apply q_then | apply q_then_exit | apply q_then_ret | apply q_block | apply q_block_ret | apply q_block_hit | apply q_ret | apply q_end | apply q_loop_exit | apply q_loop_ret | apply q_loopT_exit | apply q_loopT_ret | apply RW.nil) | ((with_reducible apply s3); exact rfl; exact by_k) | ((with_reducible apply s2); exact rfl; exact by_k) | ((with_reducible apply s4); exact rfl) | ((with_reducible apply s5); (first | exact by_oa); exact by_g) | ((with_reducible apply CW.cond_t); exact rfl; exact by_ks) | ((with_reducible apply CW.cond_f); exact rfl; exact by_ks) | ((with_reducible apply q_block_miss); exact rfl) | (refine And.intro (show chk [] [] _ _ = true by kernel_rfl) ?_))
          refine Stop.go (CW.stut (stut_freeze_cell (id := 1) (j := 1) (i := 2) rfl (by simp)) ⟨rfl, rfl, trivial⟩ ?_)
          repeat (first | ((with_reducible apply s1); exact rfl) | (with_reducible first | apply CW.seq | apply CW.block | apply CW.region | apply CW.draw | apply CW.skip | apply CW.exit | apply CW.ret | apply q_then | apply q_then_exit | apply q_then_ret | apply q_block | apply q_block_ret | apply q_block_hit | apply q_ret | apply q_end | apply q_loop_exit | apply q_loop_ret | apply q_loopT_exit | apply q_loopT_ret | apply RW.nil) | ((with_reducible apply s3); exact rfl; exact by_k) | ((with_reducible apply s2); exact rfl; exact by_k) | ((with_reducible apply s4); exact rfl) | ((with_reducible apply s5); (first | exact by_oa); exact by_g) | ((with_reducible apply CW.cond_t); exact rfl; exact by_ks) | ((with_reducible apply CW.cond_f); exact rfl; exact by_ks) | ((with_reducible apply q_block_miss); exact rfl) | (refine And.intro (show chk [] [] _ _ = true by kernel_rfl) ?_))
          refine q_loopT (i + 1, true, out ++ [⟨c.key, c.vs ++ [⟨b, false, false, 0⟩]⟩]) ⟨by dsimp only; omega, by dsimp only; simp; omega, by rw [h4]; exact hI⟩ (by dsimp only; omega) ?_
          exact by_less
        · simp [h4] at hI
          repeat (first | ((with_reducible apply s1); exact rfl) | (with_reducible first | apply CW.seq | apply CW.block | apply CW.region | apply CW.draw | apply CW.skip | apply CW.exit | apply CW.ret | apply q_then | apply q_then_exit | apply q_then_ret | apply q_block | apply q_block_ret | apply q_block_hit | apply q_ret | apply q_end | apply q_loop_exit | apply q_loop_ret | apply q_loopT_exit | apply q_loopT_ret | apply RW.nil) | ((with_reducible apply s3); exact rfl; exact by_k) | ((with_reducible apply s2); exact rfl; exact by_k) | ((with_reducible apply s4); exact rfl) | ((with_reducible apply s5); (first | exact by_oa); exact by_g) | ((with_reducible apply CW.cond_t); exact rfl; exact by_ks) | ((with_reducible apply CW.cond_f); exact rfl; exact by_ks) | ((with_reducible apply q_block_miss); exact rfl) | (refine And.intro (show chk [] [] _ _ = true by kernel_rfl) ?_))
          refine q_loopT (i + 1, true, out ++ [c]) ⟨by dsimp only; omega, by dsimp only; simp; omega, hI⟩ (by dsimp only; omega) ?_
          exact by_less

end Go.Proofs.YtjgbmdonhabmiaaGreatDoor

/-! F17 -/
/-
  Contract of the references' Add of deeds to engines.
-/
namespace Go.Proofs.YtjgbmdonhabmiaaGreatDoor
open Go.AX Go.RF

set_option maxRecDepth 100000
set_option maxHeartbeats 8000000

/-- How large an engine is, at most. -/
structure Engine.Sz (e : Engine) (N : Nat) : Prop where
  c : e.chains.length ≤ N
  v : ∀ c ∈ e.chains, c.vs.length ≤ N
  d : e.deeds.length ≤ N
  s : e.state.length = e.deeds.length
  n : e.ends.length = e.deeds.length
  b : 0 ≤ e.base ∧ e.base + e.deeds.length ≤ N
  dd : ∀ d ∈ e.deeds, d.Sm
theorem Engine.Sz.sm {e : Engine} {N : Nat} (h : Engine.Sz e N) (hN : N ≤ 134217728) : e.Sm :=
  ⟨by have := h.c; omega, fun c hc => by have := h.v c hc; omega, by have := h.d; omega, by have := h.d; have := h.s; omega, by have := h.d; have := h.n; omega, by have := h.b; omega, h.dd⟩

theorem addGo_true {k : Str} {b : Int} : ∀ (l out : List Chain), (addGo k b true out l).length = out.length + l.length
  | [], out => by simp [addGo]
  | c :: l, out => by
    simp only [addGo, Bool.not_true, Bool.false_and, Bool.true_or]
    split
    · rw [addGo_true l]; simp; omega
    · rw [addGo_true l]; simp; omega
theorem addGo_false {k : Str} {b : Int} : ∀ (l out : List Chain), (addGo k b false out l).length ≤ out.length + l.length + 1
  | [], out => by simp [addGo]
  | c :: l, out => by
    simp only [addGo, Bool.not_false, Bool.true_and, Bool.false_or]
    by_cases h : (!(slt c.key k || decide (c.key = k))) = true
    · rw [h]
      simp only [if_true]
      split
      · rw [addGo_true l]; simp; omega
      · rw [addGo_true l]; simp; omega
    · rw [show (!(slt c.key k || decide (c.key = k))) = false by simpa using h]
      simp only [Bool.false_eq_true, if_false]
      split
      · rw [addGo_true l]; simp; omega
      · refine Nat.le_trans (addGo_false l _) ?_
        simp; omega
theorem addC_len (l : List Chain) (k : Str) (b : Int) : (addC l k b).length ≤ l.length + 1 := by
  have := addGo_false (k := k) (b := b) l []
  unfold addC
  simpa using this
theorem addGo_vs {k : Str} {b : Int} {M : Nat} : ∀ {l : List Chain} {dn : Bool} {out : List Chain}, (∀ c ∈ l, c.vs.length ≤ M) → (∀ c ∈ out, c.vs.length ≤ M + 1) → ∀ c ∈ addGo k b dn out l, c.vs.length ≤ M + 1
  | [], dn, out, _, ho, c, hc => by
    simp only [addGo] at hc
    split at hc
    · exact ho c hc
    · rcases List.mem_append.1 hc with hc | hc
      · exact ho c hc
      · simp at hc; subst hc; simp
  | x :: l, dn, out, hl, ho, c, hc => by
    simp only [addGo] at hc
    have h1 : ∀ (g : Bool), ∀ c ∈ (if g = true then out ++ [⟨k, [⟨b, false, false, 0⟩]⟩] else out), c.vs.length ≤ M + 1 := by
      intro g c hc
      split at hc
      · rcases List.mem_append.1 hc with hc | hc
        · exact ho c hc
        · simp at hc; subst hc; simp
      · exact ho c hc
    have hx := hl x (List.mem_cons_self ..)
    split at hc
    · refine addGo_vs (fun c hc => hl c (List.mem_cons_of_mem _ hc)) (fun c hc => ?_) c hc
      rcases List.mem_append.1 hc with hc | hc
      · exact h1 _ c hc
      · simp at hc; subst hc; simp; omega
    · refine addGo_vs (fun c hc => hl c (List.mem_cons_of_mem _ hc)) (fun c hc => ?_) c hc
      rcases List.mem_append.1 hc with hc | hc
      · exact h1 _ c hc
      · simp at hc; subst hc; omega
theorem addC_vs {l : List Chain} {k : Str} {b : Int} {M : Nat} (h : ∀ c ∈ l, c.vs.length ≤ M) : ∀ c ∈ addC l k b, c.vs.length ≤ M + 1 := addGo_vs h (by simp)
theorem addKeys_sz {b : Int} {M : Nat} : ∀ {ks : List Str} {l : List Chain} {n : Nat}, l.length ≤ n → (∀ c ∈ l, c.vs.length ≤ M) → (addKeys b l ks).length ≤ n + ks.length ∧ ∀ c ∈ addKeys b l ks, c.vs.length ≤ M + ks.length
  | [], l, n, h1, h2 => ⟨h1, h2⟩
  | k :: ks, l, n, h1, h2 => by
    have := addKeys_sz (b := b) (M := M + 1) (ks := ks) (l := addC l k b) (n := n + 1) (Nat.le_trans (addC_len l k b) (by omega)) (addC_vs h2)
    refine ⟨by simp only [addKeys, List.length_cons]; omega, fun c hc => ?_⟩
    have := this.2 c hc
    simp; omega
theorem add1_sz {e : Engine} {N : Nat} (h : Engine.Sz e N) {d : Deed} (hd : d.Sm) (hw : d.writes.length ≤ 5) : Engine.Sz (add1 e d) (N + 5) := by
  have := addKeys_sz (b := e.base + e.deeds.length) (ks := d.writes) h.c h.v
  refine ⟨by have := this.1; simp only [add1]; omega, fun c hc => by have := this.2 c hc; omega, ?_, ?_, ?_, ?_, ?_⟩
  · have := h.d; simp [add1]; omega
  · have := h.s; simp [add1, this]
  · have := h.n; simp [add1, this]
  · have := h.b; simp [add1]; omega
  · intro x hx
    rcases List.mem_append.1 hx with hx | hx
    · exact h.dd x hx
    · simp at hx; subst hx; exact hd

theorem wrong_writes {d : Deed} (h : wrongDeed d = 0) : d.reads.length ≤ 5 ∧ d.writes.length ≤ 5 ∧ d.code.length ≤ 12 := by
  unfold wrongDeed at h
  by_cases h0 : lsGo [d.reads, d.writes] = 0
  · rw [if_pos h0] at h
    simp only [lsGo] at h0
    have hc : d.code.length ≤ 12 := by
      by_cases hc : 12 < d.code.length
      · rw [if_pos hc] at h; simp at h
      · omega
    have key : ∀ l : List Str, keysWrong l = 0 → l.length ≤ 5 := by
      intro l hl
      unfold keysWrong at hl
      by_cases h5 : 5 < l.length
      · rw [if_pos h5] at hl; simp at hl
      · omega
    by_cases h1 : keysWrong d.reads = 0
    · rw [if_pos h1] at h0
      by_cases h2 : keysWrong d.writes = 0
      · exact ⟨key _ h1, key _ h2, hc⟩
      · rw [if_neg h2] at h0; exact absurd h0 h2
    · rw [if_neg h1] at h0; exact absurd h0 h1
  · rw [if_neg h0] at h; exact absurd h h0
theorem wrongs_mem : ∀ {l : List Deed}, wrongs l = 0 → ∀ d ∈ l, wrongDeed d = 0
  | [], _, d, hd => by cases hd
  | x :: l, h, d, hd => by
    simp only [wrongs] at h
    by_cases h0 : wrongDeed x = 0
    · rw [if_pos h0] at h
      rcases List.mem_cons.1 hd with rfl | hd
      · exact h0
      · exact wrongs_mem h d hd
    · rw [if_neg h0] at h; exact absurd h h0

end Go.Proofs.YtjgbmdonhabmiaaGreatDoor

/-! G3 -/
/-
  Contracts of the program's copies, and of what it counts in engines.
-/
namespace Go.Proofs.YtjgbmdonhabmiaaGreatDoor
open Go.AX Go.RF

set_option maxRecDepth 100000
set_option maxHeartbeats 4000000

theorem ok_chainOwn (l : List Chain) (hl : l.length ≤ 268435456) (hv : ∀ c ∈ l, c.vs.length ≤ 268435456) : FnOk Tryz.prog 31 [.d (encChains l)] (.one (encChains l)) := by
  refine fnOk_of tbl_ok mixed_ok Tryz.func31 rfl (by kernel_rfl) rfl rfl fun w0 own0 => ?_
  repeat (first | ((with_reducible apply s1); exact rfl) | (with_reducible first | apply CW.seq | apply CW.block | apply CW.region | apply CW.draw | apply CW.skip | apply CW.exit | apply CW.ret | apply q_then | apply q_then_exit | apply q_then_ret | apply q_block | apply q_block_ret | apply q_block_hit | apply q_ret | apply q_end | apply q_loop_exit | apply q_loop_ret | apply q_loopT_exit | apply q_loopT_ret | apply RW.nil) | ((with_reducible apply s3); exact rfl; exact by_k) | ((with_reducible apply s2); exact rfl; exact by_k) | ((with_reducible apply s4); exact rfl) | ((with_reducible apply s5); (first | exact by_oa); exact by_g) | ((with_reducible apply CW.cond_t); exact rfl; exact by_ks) | ((with_reducible apply CW.cond_f); exact rfl; exact by_ks) | ((with_reducible apply q_block_miss); exact rfl) | (refine And.intro (show chk [] [] _ _ = true by kernel_rfl) ?_))
  refine CW.stut (stut_promote (i := 3) 59 2) ⟨rfl, rfl, trivial⟩ ?_
  refine CW.loopT (fun i : Nat => [sd 6 (encChains l), sd 7 (dint l.length), sd 8 (dint i), so 3 0 i, oa 0 59 2 ((l.take i).map Chain.enc), nxt 1]) (fun i => i ≤ l.length) (fun i => l.length - i) 0 (by omega) ?_ ?_
  ·
    exact by_less
  · rintro i hi
    rcases drop_case hi with ⟨h1, h2⟩ | ⟨c, h1, h2, h3⟩
    ·
      repeat (first | ((with_reducible apply s1); exact rfl) | (with_reducible first | apply CW.seq | apply CW.block | apply CW.region | apply CW.draw | apply CW.skip | apply CW.exit | apply CW.ret | apply q_then | apply q_then_exit | apply q_then_ret | apply q_block | apply q_block_ret | apply q_block_hit | apply q_ret | apply q_end | apply q_loop_exit | apply q_loop_ret | apply q_loopT_exit | apply q_loopT_ret | apply RW.nil) | ((with_reducible apply s3); exact rfl; exact by_k) | ((with_reducible apply s2); exact rfl; exact by_k) | ((with_reducible apply s4); exact rfl) | ((with_reducible apply s5); (first | exact by_oa); exact by_g) | ((with_reducible apply CW.cond_t); exact rfl; exact by_ks) | ((with_reducible apply CW.cond_f); exact rfl; exact by_ks) | ((with_reducible apply q_block_miss); exact rfl) | (refine And.intro (show chk [] [] _ _ = true by kernel_rfl) ?_))
      exact .one (.tmp rfl (.one (.own rfl (by simp; omega) (dle_eq (by rw [h2, List.take_length]; rfl)))))
    · have h4 : (l.take i).map Chain.enc ++ [c.enc] = (l.take (i + 1)).map Chain.enc := by rw [List.take_add_one, h2]; simp
      have hcv := hv c (List.mem_of_getElem? h2)
      have hc := ok_clone_version (c.vs.map Version.enc) (by simp; omega)
      repeat (first | ((with_reducible apply s1); exact rfl) | (with_reducible first | apply CW.seq | apply CW.block | apply CW.region | apply CW.draw | apply CW.skip | apply CW.exit | apply CW.ret | apply q_then | apply q_then_exit | apply q_then_ret | apply q_block | apply q_block_ret | apply q_block_hit | apply q_ret | apply q_end | apply q_loop_exit | apply q_loop_ret | apply q_loopT_exit | apply q_loopT_ret | apply RW.nil) | ((with_reducible apply s3); exact rfl; exact by_k) | ((with_reducible apply s2); exact rfl; exact by_k) | ((with_reducible apply s4); exact rfl) | ((with_reducible apply s5); (first | (focus ((with_reducible apply a_call); exact hc; exact rfl; (repeat (first | exact SubsE.nil | (apply SubsE.cons; exact rfl; (first | exact .d (.refl _) | exact .d (.nil _) | exact .agg rfl (.refl _) | exact .pd | exact .ptr rfl); (first | exact trivial | exact ⟨rfl, trivial⟩)))); done)) | exact by_oa); exact by_g) | ((with_reducible apply CW.cond_t); exact rfl; exact by_ks) | ((with_reducible apply CW.cond_f); exact rfl; exact by_ks) | ((with_reducible apply q_block_miss); exact rfl) | (refine And.intro (show chk [] [] _ _ = true by kernel_rfl) ?_))
      refine q_loopT (i + 1) (by omega) (by omega) ?_
      exact by_less

theorem ok_deedOwn (d : Deed) (hs : d.Sm) : FnOk Tryz.prog 28 [.d (.agg d.enc)] (.one (.agg d.enc)) := by
  refine fnOk_of tbl_ok mixed_ok Tryz.func28 rfl (by kernel_rfl) rfl rfl fun w0 own0 => ?_
  have h1 := hs.r
  have h2 := hs.w
  have h3 := hs.c
  have c1 := ok_clone_str (d.reads.map encStr1) (by simp; omega)
  have c2 := ok_clone_str (d.writes.map encStr1) (by simp; omega)
  have c3 := ok_clone_ins (d.code.map Ins.enc) (by simp; omega)
  repeat (first | ((with_reducible apply s1); exact rfl) | (with_reducible first | apply CW.seq | apply CW.block | apply CW.region | apply CW.draw | apply CW.skip | apply CW.exit | apply CW.ret | apply q_then | apply q_then_exit | apply q_then_ret | apply q_block | apply q_block_ret | apply q_block_hit | apply q_ret | apply q_end | apply q_loop_exit | apply q_loop_ret | apply q_loopT_exit | apply q_loopT_ret | apply RW.nil) | ((with_reducible apply s3); exact rfl; exact by_k) | ((with_reducible apply s2); exact rfl; exact by_k) | ((with_reducible apply s4); exact rfl) | ((with_reducible apply s5); (first | (focus ((with_reducible apply a_call); exact c1; exact rfl; (repeat (first | exact SubsE.nil | (apply SubsE.cons; exact rfl; (first | exact .d (.refl _) | exact .d (.nil _) | exact .agg rfl (.refl _) | exact .pd | exact .ptr rfl); (first | exact trivial | exact ⟨rfl, trivial⟩)))); done)) | (focus ((with_reducible apply a_call); exact c2; exact rfl; (repeat (first | exact SubsE.nil | (apply SubsE.cons; exact rfl; (first | exact .d (.refl _) | exact .d (.nil _) | exact .agg rfl (.refl _) | exact .pd | exact .ptr rfl); (first | exact trivial | exact ⟨rfl, trivial⟩)))); done)) | (focus ((with_reducible apply a_call); exact c3; exact rfl; (repeat (first | exact SubsE.nil | (apply SubsE.cons; exact rfl; (first | exact .d (.refl _) | exact .d (.nil _) | exact .agg rfl (.refl _) | exact .pd | exact .ptr rfl); (first | exact trivial | exact ⟨rfl, trivial⟩)))); done)) | exact by_oa); exact by_g) | ((with_reducible apply CW.cond_t); exact rfl; exact by_ks) | ((with_reducible apply CW.cond_f); exact rfl; exact by_ks) | ((with_reducible apply q_block_miss); exact rfl) | (refine And.intro (show chk [] [] _ _ = true by kernel_rfl) ?_))
  exact .one (.cell rfl rfl rfl rfl (.aggd (ds := d.enc) rfl (.refl _)))

theorem ok_planOwn (e : Engine) (hs : e.Sm) : FnOk Tryz.prog 11 [.d (.agg e.enc)] (.one (.agg e.enc)) := by
  refine fnOk_of tbl_ok mixed_ok Tryz.func11 rfl (by kernel_rfl) rfl rfl fun w0 own0 => ?_
  have h1 := hs.c
  have h2 := hs.s
  have h3 := hs.n
  have h4 := hs.d
  have c1 := ok_chainOwn e.chains (by omega) (fun c hc => by have := hs.v c hc; omega)
  have c2 := ok_clone_int (e.state.map encInt1) (by simp; omega)
  have c3 := ok_clone_done (e.ends.map Done.enc) (by simp; omega)
  repeat (first | ((with_reducible apply s1); exact rfl) | (with_reducible first | apply CW.seq | apply CW.block | apply CW.region | apply CW.draw | apply CW.skip | apply CW.exit | apply CW.ret | apply q_then | apply q_then_exit | apply q_then_ret | apply q_block | apply q_block_ret | apply q_block_hit | apply q_ret | apply q_end | apply q_loop_exit | apply q_loop_ret | apply q_loopT_exit | apply q_loopT_ret | apply RW.nil) | ((with_reducible apply s3); exact rfl; exact by_k) | ((with_reducible apply s2); exact rfl; exact by_k) | ((with_reducible apply s4); exact rfl) | ((with_reducible apply s5); (first | (focus ((with_reducible apply a_call); exact c1; exact rfl; (repeat (first | exact SubsE.nil | (apply SubsE.cons; exact rfl; (first | exact .d (.refl _) | exact .d (.nil _) | exact .agg rfl (.refl _) | exact .pd | exact .ptr rfl); (first | exact trivial | exact ⟨rfl, trivial⟩)))); done)) | (focus ((with_reducible apply a_call); exact c2; exact rfl; (repeat (first | exact SubsE.nil | (apply SubsE.cons; exact rfl; (first | exact .d (.refl _) | exact .d (.nil _) | exact .agg rfl (.refl _) | exact .pd | exact .ptr rfl); (first | exact trivial | exact ⟨rfl, trivial⟩)))); done)) | (focus ((with_reducible apply a_call); exact c3; exact rfl; (repeat (first | exact SubsE.nil | (apply SubsE.cons; exact rfl; (first | exact .d (.refl _) | exact .d (.nil _) | exact .agg rfl (.refl _) | exact .pd | exact .ptr rfl); (first | exact trivial | exact ⟨rfl, trivial⟩)))); done)) | exact by_oa); exact by_g) | ((with_reducible apply CW.cond_t); exact rfl; exact by_ks) | ((with_reducible apply CW.cond_f); exact rfl; exact by_ks) | ((with_reducible apply q_block_miss); exact rfl) | (refine And.intro (show chk [] [] _ _ = true by kernel_rfl) ?_))
  refine CW.stut (stut_promote_cell (id := 2) (j := 1) 42 3 rfl) ⟨rfl, rfl, trivial⟩ ?_
  refine CW.loopT (fun i : Nat => [sp 2 1, ob 1 noE.enc0, sp 3 2, (.o 2, .ob (.box [.d (encChains e.chains), .own 3 i, .d (encInts e.state), .d (encEnds e.ends), .d (dint e.base)])), sd 19 (encDeeds e.deeds), sd 20 (dint e.deeds.length), sd 21 (dint i),
      oa 3 42 3 ((e.deeds.take i).map Deed.enc), nxt 4]) (fun i => i ≤ e.deeds.length) (fun i => e.deeds.length - i) 0 (by omega) ?_ ?_
  ·
    exact by_less
  · rintro i hi
    rcases drop_case hi with ⟨h5, h6⟩ | ⟨d, h5, h6, h7⟩
    · have h8 : (e.deeds.take i).map Deed.enc = e.deeds.map Deed.enc := by rw [h6, List.take_length]
      repeat (first | (with_reducible apply stop_reg 7) | ((with_reducible apply s1); exact rfl) | (with_reducible first | apply CW.seq | apply CW.block | apply CW.region | apply CW.draw | apply CW.skip | apply CW.exit | apply CW.ret | apply q_then | apply q_then_exit | apply q_then_ret | apply q_block | apply q_block_ret | apply q_block_hit | apply q_ret | apply q_end | apply q_loop_exit | apply q_loop_ret | apply q_loopT_exit | apply q_loopT_ret | apply RW.nil) | ((with_reducible apply s3); exact rfl; exact by_k) | ((with_reducible apply s2); exact rfl; exact by_k) | ((with_reducible apply s4); exact rfl) | ((with_reducible apply s5); (first | exact by_oa); exact by_g) | ((with_reducible apply CW.cond_t); exact rfl; exact by_ks) | ((with_reducible apply CW.cond_f); exact rfl; exact by_ks) | ((with_reducible apply q_block_miss); exact rfl) | (refine And.intro (show chk [] [] _ _ = true by kernel_rfl) ?_))
      refine Stop.go (CW.stut (stut_freeze_cell (id := 2) (j := 1) (i := 3) rfl (by simp; omega)) ⟨rfl, rfl, trivial⟩ ?_)
      repeat (first | ((with_reducible apply s1); exact rfl) | (with_reducible first | apply CW.seq | apply CW.block | apply CW.region | apply CW.draw | apply CW.skip | apply CW.exit | apply CW.ret | apply q_then | apply q_then_exit | apply q_then_ret | apply q_block | apply q_block_ret | apply q_block_hit | apply q_ret | apply q_end | apply q_loop_exit | apply q_loop_ret | apply q_loopT_exit | apply q_loopT_ret | apply RW.nil) | ((with_reducible apply s3); exact rfl; exact by_k) | ((with_reducible apply s2); exact rfl; exact by_k) | ((with_reducible apply s4); exact rfl) | ((with_reducible apply s5); (first | exact by_oa); exact by_g) | ((with_reducible apply CW.cond_t); exact rfl; exact by_ks) | ((with_reducible apply CW.cond_f); exact rfl; exact by_ks) | ((with_reducible apply q_block_miss); exact rfl) | (refine And.intro (show chk [] [] _ _ = true by kernel_rfl) ?_))
      exact .one (.cell rfl rfl rfl rfl (.aggd (ds := [encChains e.chains, .sl 3 ((e.deeds.take i).map Deed.enc), encInts e.state, encEnds e.ends, dint e.base]) rfl (dle_eq (by rw [h8]; rfl))))
    · have h8 : (e.deeds.take i).map Deed.enc ++ [d.enc] = (e.deeds.take (i + 1)).map Deed.enc := by rw [List.take_add_one, h6]; simp
      have hd := ok_deedOwn d (hs.dd d (List.mem_of_getElem? h6))
      repeat (first | ((with_reducible apply s1); exact rfl) | (with_reducible first | apply CW.seq | apply CW.block | apply CW.region | apply CW.draw | apply CW.skip | apply CW.exit | apply CW.ret | apply q_then | apply q_then_exit | apply q_then_ret | apply q_block | apply q_block_ret | apply q_block_hit | apply q_ret | apply q_end | apply q_loop_exit | apply q_loop_ret | apply q_loopT_exit | apply q_loopT_ret | apply RW.nil) | ((with_reducible apply s3); exact rfl; exact by_k) | ((with_reducible apply s2); exact rfl; exact by_k) | ((with_reducible apply s4); exact rfl) | ((with_reducible apply s5); (first | (focus ((with_reducible apply a_call); exact hd; exact rfl; (repeat (first | exact SubsE.nil | (apply SubsE.cons; exact rfl; (first | exact .d (.refl _) | exact .d (.nil _) | exact .agg rfl (.refl _) | exact .pd | exact .ptr rfl); (first | exact trivial | exact ⟨rfl, trivial⟩)))); done)) | exact by_oa); exact by_g) | ((with_reducible apply CW.cond_t); exact rfl; exact by_ks) | ((with_reducible apply CW.cond_f); exact rfl; exact by_ks) | ((with_reducible apply q_block_miss); exact rfl) | (refine And.intro (show chk [] [] _ _ = true by kernel_rfl) ?_))
      refine q_loopT (i + 1) (by omega) (by omega) ?_
      exact by_less

end Go.Proofs.YtjgbmdonhabmiaaGreatDoor

/-! AxFam -/
/-
  A region in whatever order, one of whose operations may leave one of many states: all that stand behind it in the text wait for it.
-/
namespace Go.AX
open Go.RowKit

variable {cx : Cx} {σ σ' : St} {a a' : Act} {w w' : World} {ops : Array Oper}

theorem wpAny_but {ts : List Tr} {s0 : Nat} {Q : Exit → Act → World → Prop} (hA : ∀ i o, ops[i]? = some o → i ≠ s0 → ∃ t, ts[i]? = some t ∧ TrOk cx ops o t) (hlen : ts.length = ops.size) (hfit : Fit ops.toList ts) :
    ∀ (fuel : Nat) (listed : Array Bool) (σ : St) (a : Act) (w : World), listed.size = ops.size → listed.getD s0 true = true → Closed ops listed → Run (left ts listed 0) σ → (left ts listed 0).length = fuel → Sim cx σ a w →
      (∀ a' w', Sim cx (fin (left ts listed 0) σ) a' w' → Q .normal a' w') → wpAny cx.P .any ops Q fuel listed a w := by
  intro fuel
  induction fuel with
  | zero =>
    intro listed σ a w hsz hls hcl hrun hl hs hq
    have hnil : left ts listed 0 = [] := List.eq_nil_of_length_eq_zero hl
    refine ⟨?_, hq a w (by rw [hnil]; exact hs)⟩
    refine List.eq_nil_iff_forall_not_mem.2 fun i hi => ?_
    obtain ⟨h1, o, ho, _⟩ := mem_ready.1 hi
    have := left_nil hnil i (by rw [hlen]; exact (Array.getElem?_eq_some_iff.1 ho).1)
    rw [Nat.zero_add, h1] at this
    cases this
  | succ fuel ih =>
    intro listed σ a w hsz hls hcl hrun hl hs hq
    refine ⟨fun hr => ?_, fun i hi => ?_⟩
    · have hne : left ts listed 0 ≠ [] := by intro e; rw [e] at hl; simp at hl
      obtain ⟨i, h1, h2, h3⟩ := left_ne hne
      rw [Nat.zero_add] at h2
      have hi : i < ops.size := by omega
      have hm : i ∈ Region.ready .any ops listed := mem_ready.2 ⟨h2, ops[i], Array.getElem?_eq_getElem hi, fun j hj => by
        have hj' := hfit.down i ops[i] (by simp [hi]) j hj
        have := h3 j hj'
        rw [Nat.zero_add] at this
        rw [← getD_tf (by omega)]; exact this⟩
      rw [hr] at hm
      cases hm
    · obtain ⟨h1, o, ho, h2⟩ := mem_ready.1 hi
      have hi' : i < ops.size := (Array.getElem?_eq_some_iff.1 ho).1
      have his : i ≠ s0 := fun e => by subst e; rw [hls] at h1; cases h1
      obtain ⟨t, ht, htr⟩ := hA i o ho his
      obtain ⟨pre, post, h3, h4, h5⟩ := left_split (k := 0) ht (by rw [Nat.zero_add]; exact h1) (by omega)
      rw [Nat.zero_add] at h4
      rw [h3] at hrun hq hl
      have hap : ∀ s ∈ pre, Apart s t := by
        intro s hsm
        obtain ⟨j, h6, h7, h8⟩ := h5 s hsm
        rw [Nat.zero_add] at h8
        rcases hfit.apart i j s t h6 h7 ht with h9 | h9
        · exfalso
          have hanc : ∀ m, m ∈ edges o → Anc ops.toList j m → False := fun m hm hma => by
            have hml : listed.getD m false = true := h2 m hm
            have hms := hfit.down i o (by simpa using ho) m hm
            have := hcl.anc hsz hma (by rw [getD_tf (by omega)]; exact hml) (by omega)
            rw [← getD_tf (by omega)] at this
            rw [h8] at this; cases this
          cases h9 with
          | one ho' h =>
            rw [show ops.toList[i]? = some o by simpa using ho] at ho'
            cases ho'
            have := h2 j h
            rw [← getD_tf (by omega)] at this
            rw [h8] at this; cases this
          | step ho' h hm =>
            rw [show ops.toList[i]? = some o by simpa using ho] at ho'
            cases ho'
            exact hanc _ h hm
        · exact h9
      obtain ⟨h6, h7⟩ := Run.front hap hrun
      unfold wpOp
      rw [ho]
      have hstep := htr σ a w (wpAny cx.P .any ops Q fuel (listed.setIfInBounds i true)) Q hs h6.1 fun a' w' hs' => by
        refine ih _ _ a' w' (by simp [hsz]) (by simpa only [Array.getD_eq_getD_getElem?, Array.getElem?_setIfInBounds, if_neg his] using hls) (fun i' o' ho' hi2 hli j hj => ?_) (by rw [h4]; exact h6.2) (by rw [h4]; simp at hl ⊢; omega) hs' (fun a2 w2 hs2 => hq a2 w2 ?_)
        · by_cases he : i' = i
          · subst he
            rw [ho] at ho'
            cases ho'
            have hne : j ≠ i' := fun e => by have := hfit.down i' o (by simpa using ho) j hj; omega
            simp only [Array.getD_eq_getD_getElem?, Array.getElem?_setIfInBounds, if_neg (show ¬ i' = j from fun e => hne e.symm)]
            simpa only [Array.getD_eq_getD_getElem?] using h2 j hj
          · have hli' : listed.getD i' true = true := by
              simpa only [Array.getD_eq_getD_getElem?, Array.getElem?_setIfInBounds, if_neg (show ¬ i = i' from fun e => he e.symm)] using hli
            have hjl := hcl i' o' ho' (by simpa using hi2) hli' j hj
            by_cases hji : i = j
            · subst hji
              simp [Array.getD_eq_getD_getElem?, hsz, hi']
            · simpa only [Array.getD_eq_getD_getElem?, Array.getElem?_setIfInBounds, if_neg hji] using hjl
        · rw [h4] at hs2
          exact hs2.eqv h7.symm
      dsimp only
      split
      · rename_i hw; rw [if_pos hw] at hstep; exact .inl hstep
      · rename_i hw; rw [if_neg hw] at hstep; exact hstep


theorem wpAny_fam {ι : Type} {ts : ι → List Tr} {s0 : Nat} {os : Oper} {rs : List (Key × Val)} {Q : Exit → Act → World → Prop} (x0 : ι) (hA : ∀ x i o, ops[i]? = some o → i ≠ s0 → ∃ t, (ts x)[i]? = some t ∧ TrOk cx ops o t)
    (hpre : ∀ x i, i < s0 → (ts x)[i]? = (ts x0)[i]?) (hlen : ∀ x, (ts x).length = ops.size) (hfit : ∀ x, Fit ops.toList (ts x))
    (hos : ops[s0]? = some os) (hgs : os.guard = none) (hrs : ∀ x, ∃ t, (ts x)[s0]? = some t ∧ t.rd = rs)
    (hsp : ∀ (σ : St) (a : Act) (w : World) (K : Act → World → Prop) (Q : Exit → Act → World → Prop), Sim cx σ a w → App σ rs → (∀ x t a' w', (ts x)[s0]? = some t → Sim cx (t.wr ++ σ) a' w' → K a' w') → os.wp cx.P a w K Q)
    (hanc : ∀ i, s0 < i → i < ops.size → Anc ops.toList s0 i) :
    ∀ (fuel : Nat) (listed : Array Bool) (σ : St) (a : Act) (w : World), listed.size = ops.size → listed.getD s0 true = false → Closed ops listed → (∀ x, Run (left (ts x) listed 0) σ) → (∀ x, (left (ts x) listed 0).length = fuel) → Sim cx σ a w →
      (∀ x a' w', Sim cx (fin (left (ts x) listed 0) σ) a' w' → Q .normal a' w') → wpAny cx.P .any ops Q fuel listed a w := by
  intro fuel
  induction fuel with
  | zero =>
    intro listed σ a w hsz hls hcl hrun hl hs hq
    have hnil : left (ts x0) listed 0 = [] := List.eq_nil_of_length_eq_zero (hl x0)
    have := left_nil hnil s0 (by rw [hlen]; exact (Array.getElem?_eq_some_iff.1 hos).1)
    rw [Nat.zero_add, hls] at this
    cases this
  | succ fuel ih =>
    intro listed σ a w hsz hls hcl hrun hl hs hq
    refine ⟨fun hr => ?_, fun i hi => ?_⟩
    · have hne : left (ts x0) listed 0 ≠ [] := by intro e; have := hl x0; rw [e] at this; simp at this
      obtain ⟨i, h1, h2, h3⟩ := left_ne hne
      rw [Nat.zero_add] at h2
      have hi : i < ops.size := by have := hlen x0; omega
      have hm : i ∈ Region.ready .any ops listed := mem_ready.2 ⟨h2, ops[i], Array.getElem?_eq_getElem hi, fun j hj => by
        have hj' := (hfit x0).down i ops[i] (by simp [hi]) j hj
        have := h3 j hj'
        rw [Nat.zero_add] at this
        rw [← getD_tf (by omega)]; exact this⟩
      rw [hr] at hm
      cases hm
    · obtain ⟨h1, o, ho, h2⟩ := mem_ready.1 hi
      have hi' : i < ops.size := (Array.getElem?_eq_some_iff.1 ho).1
      -- the listed places are closed still
      have hcl' : Closed ops (listed.setIfInBounds i true) := fun i' o' ho' hi2 hli j hj => by
        by_cases he : i' = i
        · subst he
          rw [ho] at ho'
          cases ho'
          have hne : j ≠ i' := fun e => by have := (hfit x0).down i' o (by simpa using ho) j hj; omega
          simp only [Array.getD_eq_getD_getElem?, Array.getElem?_setIfInBounds, if_neg (show ¬ i' = j from fun e => hne e.symm)]
          simpa only [Array.getD_eq_getD_getElem?] using h2 j hj
        · have hli' : listed.getD i' true = true := by
            simpa only [Array.getD_eq_getD_getElem?, Array.getElem?_setIfInBounds, if_neg (show ¬ i = i' from fun e => he e.symm)] using hli
          have hjl := hcl i' o' ho' (by simpa using hi2) hli' j hj
          by_cases hji : i = j
          · subst hji
            simp [Array.getD_eq_getD_getElem?, hsz, hi']
          · simpa only [Array.getD_eq_getD_getElem?, Array.getElem?_setIfInBounds, if_neg hji] using hjl
      -- what stands ahead of it in the text, and is still to come, is apart from it
      have hapx : ∀ (x : ι) (t : Tr) (pre : List Tr), (ts x)[i]? = some t → (∀ s ∈ pre, ∃ j, j < i ∧ (ts x)[j]? = some s ∧ listed.getD (0 + j) true = false) → ∀ s ∈ pre, Apart s t := by
        intro x t pre ht h5 s hsm
        obtain ⟨j, h6, h7, h8⟩ := h5 s hsm
        rw [Nat.zero_add] at h8
        rcases (hfit x).apart i j s t h6 h7 ht with h9 | h9
        · exfalso
          have hanc2 : ∀ m, m ∈ edges o → Anc ops.toList j m → False := fun m hm hma => by
            have hml : listed.getD m false = true := h2 m hm
            have hms := (hfit x).down i o (by simpa using ho) m hm
            have := hcl.anc hsz hma (by rw [getD_tf (by omega)]; exact hml) (by omega)
            rw [← getD_tf (by omega)] at this
            rw [h8] at this; cases this
          cases h9 with
          | one ho' h =>
            rw [show ops.toList[i]? = some o by simpa using ho] at ho'
            cases ho'
            have := h2 j h
            rw [← getD_tf (by omega)] at this
            rw [h8] at this; cases this
          | step ho' h hm =>
            rw [show ops.toList[i]? = some o by simpa using ho] at ho'
            cases ho'
            exact hanc2 _ h hm
        · exact h9
      by_cases his : i = s0
      · -- the special one
        subst his
        rw [hos] at ho
        cases ho
        unfold wpOp
        rw [hos]
        have hrs0 : App σ rs := by
          obtain ⟨t, ht, htr⟩ := hrs x0
          obtain ⟨pre, post, h3, h4, h5⟩ := left_split (k := 0) ht (by rw [Nat.zero_add]; exact h1) (by omega)
          have hr0 := hrun x0
          rw [h3] at hr0
          have := (Run.front (hapx x0 t pre ht h5) hr0).1.1
          rwa [htr] at this
        have hstep := hsp σ a w (wpAny cx.P .any ops Q fuel (listed.setIfInBounds i true)) Q hs hrs0 fun x t a' w' ht hs' => by
          obtain ⟨pre, post, h3, h4, h5⟩ := left_split (k := 0) ht (by rw [Nat.zero_add]; exact h1) (by omega)
          rw [Nat.zero_add] at h4
          have hr0 := hrun x
          have hl0 := hl x
          rw [h3] at hr0 hl0
          obtain ⟨h6, h7⟩ := Run.front (hapx x t pre ht h5) hr0
          refine wpAny_but (s0 := i) (hA x) (hlen x) (hfit x) fuel _ _ a' w' (by simp [hsz]) (by simp [Array.getD_eq_getD_getElem?, hsz, hi']) hcl' (by rw [h4]; exact h6.2) (by rw [h4]; simp at hl0 ⊢; omega) hs' fun a2 w2 hs2 => hq x a2 w2 ?_
          rw [h4] at hs2
          rw [h3]
          exact hs2.eqv h7.symm
        dsimp only
        rw [if_pos (by simp [Region.wanted, hgs])]
        exact .inl hstep
      · -- one ahead of it
        have hlt : i < s0 := by
          rcases Nat.lt_or_ge i s0 with h | h
          · exact h
          · exfalso
            have ha := hanc i (by omega) hi'
            cases ha with
            | one ho' h =>
              rw [show ops.toList[i]? = some o by simpa using ho] at ho'
              cases ho'
              have := h2 s0 h
              have hs0 : s0 < ops.size := (Array.getElem?_eq_some_iff.1 hos).1
              rw [← getD_tf (by omega), hls] at this; cases this
            | @step _ _ m _ ho' h hm =>
              rw [show ops.toList[i]? = some o by simpa using ho] at ho'
              cases ho'
              have hml : listed.getD m false = true := h2 m h
              have hms := (hfit x0).down i o (by simpa using ho) m h
              have := hcl.anc hsz hm (by rw [getD_tf (by omega)]; exact hml) (by omega)
              have hs0 : s0 < ops.size := (Array.getElem?_eq_some_iff.1 hos).1
              rw [← getD_tf (by omega), hls] at this; cases this
        obtain ⟨t, ht, htr⟩ := hA x0 i o ho his
        have htx : ∀ x, (ts x)[i]? = some t := fun x => (hpre x i hlt).trans ht
        have hspl : ∀ x, App σ t.rd ∧ Run (left (ts x) (listed.setIfInBounds i true) 0) (t.wr ++ σ) ∧ (left (ts x) (listed.setIfInBounds i true) 0).length = fuel ∧
            Eqv (fin (left (ts x) listed 0) σ) (fin (left (ts x) (listed.setIfInBounds i true) 0) (t.wr ++ σ)) := by
          intro x
          obtain ⟨pre, post, h3, h4, h5⟩ := left_split (k := 0) (htx x) (by rw [Nat.zero_add]; exact h1) (by omega)
          rw [Nat.zero_add] at h4
          have hr0 := hrun x
          have hl0 := hl x
          rw [h3] at hr0 hl0
          obtain ⟨h6, h7⟩ := Run.front (hapx x t pre (htx x) h5) hr0
          rw [h3, h4]
          exact ⟨h6.1, h6.2, by simp at hl0 ⊢; omega, h7⟩
        unfold wpOp
        rw [ho]
        have hstep := htr σ a w (wpAny cx.P .any ops Q fuel (listed.setIfInBounds i true)) Q hs (hspl x0).1 fun a' w' hs' =>
          ih _ _ a' w' (by simp [hsz]) (by simpa only [Array.getD_eq_getD_getElem?, Array.getElem?_setIfInBounds, if_neg his] using hls) hcl' (fun x => (hspl x).2.1) (fun x => (hspl x).2.2.1) hs' fun x a2 w2 hs2 => hq x a2 w2 (hs2.eqv (hspl x).2.2.2.symm)
        dsimp only
        split
        · rename_i hw; rw [if_pos hw] at hstep; exact .inl hstep
        · rename_i hw; rw [if_neg hw] at hstep; exact hstep

end Go.AX

/-! AxFam2 -/
/-
  The same, for a walk.
-/
namespace Go.AX
open Go.RowKit

variable {cx : Cx} {σ σ' : St} {a a' : Act} {w w' : World} {ops : Array Oper} {Q : Exit → St → Prop}
variable {ty : TypeId} {pos : String} {af : Array Edge} {gd : Option (Nat × Bool)} {d nx : Nat} {g : Nat → Value}

theorem Run.append : ∀ {t1 t2 : List Tr} {σ : St}, Run t1 σ → Run t2 (fin t1 σ) → Run (t1 ++ t2) σ ∧ fin (t1 ++ t2) σ = fin t2 (fin t1 σ)
  | [], t2, σ, _, h => ⟨h, rfl⟩
  | t :: t1, t2, σ, h1, h2 => by
    obtain ⟨h3, h4⟩ := Run.append h1.2 h2
    exact ⟨⟨h1.1, h3⟩, h4⟩

/-- All that stand behind the place in the text wait for it. -/
def ancB (s0 : Nat) : Nat → List Oper → Bool
  | _, [] => true
  | i, o :: l => (Nat.ble i s0 || (edges o).any fun j => Nat.ble s0 j && Nat.blt j i) && ancB s0 (i + 1) l
theorem ancB_at {s0 : Nat} : ∀ {l : List Oper} {k i : Nat} {o : Oper}, ancB s0 k l = true → l[i]? = some o → s0 < k + i → ∃ j ∈ edges o, s0 ≤ j ∧ j < k + i
  | [], k, i, o, _, h, _ => by simp at h
  | o' :: l, k, i, o, h, ho, hs => by
    simp only [ancB, Bool.and_eq_true, Bool.or_eq_true] at h
    cases i with
    | zero =>
      obtain rfl : o' = o := by simpa using ho
      rcases h.1 with h1 | h1
      · have := Nat.le_of_ble_eq_true h1; omega
      · obtain ⟨j, hj, hb⟩ := List.any_eq_true.1 h1
        simp only [Bool.and_eq_true] at hb
        exact ⟨j, hj, Nat.le_of_ble_eq_true hb.1, by have := hb.2; simp [Nat.blt_eq] at this; omega⟩
    | succ i =>
      obtain ⟨j, h1, h2, h3⟩ := ancB_at (k := k + 1) (i := i) h.2 (by simpa using ho) (by omega)
      exact ⟨j, h1, h2, by omega⟩
theorem anc_of {s0 : Nat} {l : List Oper} (h : ancB s0 0 l = true) : ∀ (n i : Nat), i < n → s0 < i → i < l.length → Anc l s0 i
  | 0, i, hn, _, _ => by omega
  | n + 1, i, hn, hs, hl => by
    obtain ⟨j, h1, h2, h3⟩ := ancB_at (k := 0) (i := i) h (List.getElem?_eq_getElem hl) (by omega)
    rcases Nat.lt_or_ge s0 j with h4 | h4
    · exact .step (List.getElem?_eq_getElem hl) h1 (anc_of h n j (by omega) h4 (by omega))
    · obtain rfl : j = s0 := by omega
      exact .one (List.getElem?_eq_getElem hl) h1

theorem CW.drawF {ι : Type} (x0 : ι) {id : Nat} {l l1 l2 : List Oper} {os : Oper} {tS : ι → Tr} {rs : List (Key × Val)} (hl : l = l1 ++ os :: l2) (hgs : os.guard = none) (hrs : ∀ x, (tS x).rd = rs)
    (hsp : ∀ (σ : St) (a : Act) (w : World) (K : Act → World → Prop) (Q : Exit → Act → World → Prop), Sim cx σ a w → App σ rs → (∀ x a' w', Sim cx ((tS x).wr ++ σ) a' w' → K a' w') → os.wp cx.P a w K Q)
    (hanc : ancB l1.length 0 l = true)
    (h : RW cx l.toArray (fun ts1 σ1 => App σ1 rs ∧ ∀ x, RW cx l.toArray (fun ts2 σ2 => chk [] [] l (ts1 ++ tS x :: ts2) = true ∧ Q .normal σ2) [] l2 ((tS x).wr ++ σ1)) [] l1 σ) : CW cx (.region id l.toArray true) Q σ := by
  obtain ⟨ts1, σ1, h1, h2, h3⟩ := h
  rw [List.nil_append] at h3
  obtain ⟨F, hF⟩ : ∃ F : ι → List Tr × St, ∀ x, Steps' cx l.toArray l2 ((tS x).wr ++ σ1) (F x).1 (F x).2 ∧ chk [] [] l (ts1 ++ tS x :: (F x).1) = true ∧ Q .normal (F x).2 := by
    refine ⟨fun x => (Classical.choose (h3 x), Classical.choose (Classical.choose_spec (h3 x))), fun x => ?_⟩
    have := Classical.choose_spec (Classical.choose_spec (h3 x))
    exact ⟨this.1, by simpa using this.2.1, this.2.2⟩
  have hlenA : ∀ {ops : Array Oper} {l : List Oper} {ts : List Tr}, All2 cx ops l ts → ts.length = l.length := by
    intro ops l
    induction l with
    | nil => intro ts h; cases ts with
      | nil => rfl
      | cons t ts => exact h.elim
    | cons o l ih => intro ts h; cases ts with
      | nil => exact h.elim
      | cons t ts => simp [ih h.2]
  have hA1 := h1.trs
  have hl1 := hlenA hA1
  have hl2 : ∀ x, (F x).1.length = l2.length := fun x => hlenA (hF x).1.trs
  have hleft : ∀ (ts : List Tr) (n k : Nat), k + ts.length ≤ n → left ts (Array.replicate n false) k = ts := by
    intro ts
    induction ts with
    | nil => intro n k _; rfl
    | cons t ts ih =>
      intro n k hk
      simp at hk
      have h0 : (Array.replicate n false).getD k true = false := by simp [Array.getD, show k < n by omega]
      simp only [left, h0]
      rw [if_neg (by simp), ih n (k + 1) (by omega)]
  have hsz : l.toArray.size = l1.length + (l2.length + 1) := by subst hl; simp
  have hl0 : ∀ x, left (ts1 ++ tS x :: (F x).1) (Array.replicate l.toArray.size false) 0 = ts1 ++ tS x :: (F x).1 := fun x => hleft _ _ _ (by have := hl2 x; rw [hsz]; simp; omega)
  have hrun : ∀ x, Run (ts1 ++ tS x :: (F x).1) σ ∧ fin (ts1 ++ tS x :: (F x).1) σ = (F x).2 := fun x => by
    obtain ⟨r1, r2⟩ := h1.run
    obtain ⟨r3, r4⟩ := (hF x).1.run
    obtain ⟨r5, r6⟩ := Run.append (t2 := tS x :: (F x).1) r1 (by rw [r2]; exact ⟨by rw [hrs]; exact h2, r3⟩)
    exact ⟨r5, by rw [r6, r2]; exact r4⟩
  intro a w hs
  refine wp_region_any cx.mixed (wpAny_fam (ts := fun x => ts1 ++ tS x :: (F x).1) (s0 := l1.length) (os := os) (rs := rs) x0 (fun x i o ho hne => ?_) (fun x i hi => ?_) (fun x => by have := hl2 x; rw [hsz]; simp; omega) (fun x => fit_of_chk (hF x).2.1) (by subst hl; simp) hgs (fun x => ⟨tS x, by simp [← hl1], hrs x⟩)
    (fun σ a w K Q hs ha hK => hsp σ a w K Q hs ha fun x a' w' hs' => hK x (tS x) a' w' (by simp [← hl1]) hs') (fun i hi hil => anc_of hanc (i + 1) i (by omega) hi (by simpa using hil)) l.toArray.size _ σ a _ (by simp) ?_ (fun i o _ hi hli => ?_) (fun x => by rw [hl0]; exact (hrun x).1) (fun x => by rw [hl0]; have := hl2 x; rw [hsz]; simp; omega) hs.drawn fun x a' w' hs' => ⟨(F x).2, by rw [hl0, (hrun x).2] at hs'; exact hs', (hF x).2.2⟩)
  · have ho' : l[i]? = some o := by simpa using ho
    rw [hl] at ho'
    rcases Nat.lt_or_ge i l1.length with hi | hi
    · rw [List.getElem?_append_left hi] at ho'
      obtain ⟨t, h4, h5⟩ := hA1.at ho'
      exact ⟨t, by rw [List.getElem?_append_left (by omega)]; exact h4, h5⟩
    · rw [List.getElem?_append_right hi] at ho'
      obtain ⟨j, rfl⟩ : ∃ j, i = l1.length + (j + 1) := ⟨i - l1.length - 1, by omega⟩
      rw [show l1.length + (j + 1) - l1.length = j + 1 by omega, List.getElem?_cons_succ] at ho'
      obtain ⟨t, h4, h5⟩ := (hF x).1.trs.at ho'
      exact ⟨t, by rw [List.getElem?_append_right (by omega), hl1, show l1.length + (j + 1) - l1.length = j + 1 by omega, List.getElem?_cons_succ]; exact h4, h5⟩
  · show (ts1 ++ tS x :: (F x).1)[i]? = (ts1 ++ tS x0 :: (F x0).1)[i]?
    rw [List.getElem?_append_left (by omega), List.getElem?_append_left (by omega)]
  · simp [Array.getD, hsz]
  · have h9 : i < l.length := by simpa using hi
    simp [Array.getD] at hli
    omega

/-- A call whose result is new, and whose handle is known at once. -/
theorem fam_newpin {f : FuncId} {xs : List Operand} {avs : List AV} {ys : List Arg} {l : List (Key × Val)} {e k : Nat} {rows : List (List D)} {ats : Array TypeId} (hd : Nat.blt d cx.n = true) (hc : FnNew cx.P f ys e k rows) (hsub : Subs xs avs ys l)
    (σ : St) (a : Act) (w : World) (K : Act → World → Prop) (Q : Exit → Act → World → Prop) (hs : Sim cx σ a w) (hr : App σ (l ++ [(.nx, .num nx)]))
    (hK : ∀ (x : Option Addr × Nat × Nat) a' w', Sim cx ([(.s d, .av (.d (.v (.slice x.1 x.2.1 x.2.2)))), (.o nx, .ob (.pin e k rows (.slice x.1 x.2.1 x.2.2))), (.nx, .num (nx + 1))] ++ σ) a' w' → K a' w') :
    Oper.wp cx.P ⟨some d, .call { callee := .value (.func f), args := ⟨xs⟩, argTypes := ats }, ty, pos, af, gd⟩ a w K Q := by
  obtain ⟨g, n', hs⟩ := hs
  have hnx : n' = nx := by
    have h2 := hr.right.1
    rw [hs.hnx] at h2
    simpa using h2
  subst hnx
  have hcall := hc.calls w (cx.own g σ) (xs.map a.eval) (fun b hb => own_lt hs hb) (hsub.ok hs hr.left)
  unfold Oper.wp
  rw [call_run hc.run]
  refine hcall.mono fun r w' he => ?_
  obtain ⟨v, rfl, hb, hres⟩ := he
  have hG := SimG.join hs hb hres (.inr rfl)
  have hsl : ∃ p n c, v = .slice p n c := by
    obtain ⟨xs, h1, _⟩ := hres
    rcases h1.2 with ⟨h, _⟩ | ⟨g, cap, cur, h, _⟩
    · exact ⟨_, _, _, h⟩
    · exact ⟨_, _, _, h⟩
  obtain ⟨p, n, c, rfl⟩ := hsl
  exact hK (p, n, c) _ _ (Sim.put hG (lt_of_blt hd) (Below.refl _ _) (av := .d (.v (.slice p n c))) (Rd.v _) trivial)

theorem own2_ret {t e k e2 k2 id n id2 : Nat} {rowsF : Value → List (List D)} {rows2 : List (List D)} {x : Value} (h1 : get σ (.s t) = .av (.own id n)) (h2 : get σ (.o id) = .ob (.arr e k (rowsF x))) (h3 : n = (rowsF x).length)
    (h4 : get σ (.o id2) = .ob (.pin e2 k2 rows2 x)) : own2Q t e k rowsF e2 k2 rows2 .ret σ := ⟨id, n, id2, x, h1, h2, h3, h4⟩

end Go.AX

/-! AxPin4 -/
/-
  Stutters between a region's operations; facts out of a state; a slice whose handle is known, read and written in place.
-/
namespace Go.AX
open Go.RowKit

variable {cx : Cx} {g : Nat → Value} {σ σ' : St} {a : Act} {w w' : World} {nx : Nat} {c : Code} {Q : Exit → St → Prop}
variable {ty : TypeId} {pos : String} {af : Array Edge} {gd : Option (Nat × Bool)} {d : Nat}
variable {ops : Array Oper} {rest : List Oper} {o : Oper}

theorem SW.s1 {rd wr : List (Key × Val)} (ha : autA cx σ o = some ⟨rd, wr⟩) (h : SW cx ops Q rest (wr ++ σ)) : SW cx ops Q (o :: rest) σ := by
  obtain ⟨dst, op, ty, pos, af, gd⟩ := o
  cases gd with
  | some p => cases ha
  | none =>
    simp only [autA] at ha
    split at ha
    · next hd => 
      obtain ⟨h1, h2⟩ := trA_ok (cx := cx) (ty := ty) (pos := pos) (af := af) (gd := none) hd ha
      exact SW.step rfl ⟨h1, h2⟩ h
    · cases ha
theorem SW.s5 {rd wr : List (Key × Val)} (ho : OA cx σ o ⟨rd, wr⟩) (hg : o.guard = none) (h : SW cx ops Q rest (wr ++ σ)) : SW cx ops Q (o :: rest) σ := SW.step hg ho h
theorem SW.nil (h : Q .normal σ) : SW cx ops Q [] σ := fun a w hs => wpList_nil ⟨σ, hs, h⟩
theorem SW.stut {t : Tr} {l : List Oper} (hs : Stut cx t) (ha : App σ t.rd) (h : SW cx ops Q l (t.wr ++ σ)) : SW cx ops Q l σ := fun a w hsim => h a w (hs σ a w hsim ha)
theorem stut_unpin {i id e k : Nat} {rows : List (List D)} {x : Value} :
    Stut cx ⟨[(.s i, .av (.d (.v x))), (.o id, .ob (.pin e k rows x)), (.nx, .num nx)], [(.s i, .av (.own nx rows.length)), (.o nx, .ob (.arr e k rows)), (.nx, .num (nx + 1)), (.o id, .none)]⟩ := by
  intro σ a w hs hr
  exact sim_unpin i id e k nx rows x hr.1 hr.2.1 hr.2.2.1 hs

end Go.AX

/-! AxPin5 -/
/-
  A slice's length where its handle is known; a slice of ours within another's element, told as data there.
-/
namespace Go.AX
open Go.RowKit

variable {cx : Cx} {g : Nat → Value} {σ σ' : St} {a : Act} {w w' : World} {nx : Nat} {c : Code} {Q : Exit → St → Prop}
variable {ty : TypeId} {pos : String} {af : Array Edge} {gd : Option (Nat × Bool)} {d : Nat}

theorem SimG.drop (hG : SimG cx σ a w g nx) (id : Nat) : SimG cx ((.o id, .none) :: σ) a w g nx := by
  have hl := Less.drop ⟨g, nx, hG⟩ id
  have hlat : Later cx g g σ ((.o id, .none) :: σ) w w nx := by
    refine ⟨Ext.refl _ _, Below.refl _ _, fun b hb => ?_, fun j o' _ h => ⟨o', hl.o _ _ h, ?_⟩⟩
    · rcases hb with hb | ⟨j, o, h5, h6⟩
      · exact .inl (.inl hb)
      · exact .inl (.inr ⟨j, o, hl.o _ _ h5, h6⟩)
    · cases o' <;> simp [ObLe]
  exact hG.next hlat ((get_cons_ne (by simp)).trans hG.hnx) (Nat.le_refl _) hG.size hG.defers (Below.refl _ _) (fun j av hj => .inl ⟨hl.s _ _ hj, rfl⟩) (fun j o hj => .inl ⟨hl.o _ _ hj, rfl, fun _ _ => rfl⟩)
    (fun j j' o o' b h1 h2 => hG.sep j j' o o' b (hl.o _ _ h1) (hl.o _ _ h2))

end Go.AX

/-! AxBool -/
/-
  Two truths compared; structs compared that were loaded from a variable of ours.
-/
namespace Go.AX
open Go.RowKit

section
variable {P : Program} {t : TypeId}
theorem bin_bneq {a b : Bool} (h : P.underlying t = some .bool) : BinR P .neq t (.bool a) (.bool b) (.bool (!decide (a = b))) := by
  intro w x y
  rw [Sem.run_bind, eqGuard_at_bool, Sem.run_pure, Result.andThen_ok, run_neq_bool _ _ _ _ h]
  cases a <;> cases b <;> rfl
theorem bin_beql {a b : Bool} (h : P.underlying t = some .bool) : BinR P .eql t (.bool a) (.bool b) (.bool (decide (a = b))) := by
  intro w x y
  simp only [Sem.run_bind, eqGuard_at_bool, Sem.run_pure, Result.andThen_ok, binOp, run_equal_bool _ _ _ _ h]
  cases a <;> cases b <;> rfl
end

variable {cx : Cx} {g : Nat → Value} {σ σ' : St} {a : Act} {w w' : World} {nx : Nat}
variable {ty : TypeId} {pos : String} {af : Array Edge} {gd : Option (Nat × Bool)} {d : Nat}

end Go.AX

/-! AxFnD -/
/-
  Pointers, maps and closures told as data; closures made and called.
-/
namespace Go.AX
open Go.RowKit

variable {cx : Cx} {g : Nat → Value} {σ σ' : St} {a : Act} {w w' : World} {nx : Nat}
variable {ty : TypeId} {pos : String} {af : Array Edge} {gd : Option (Nat × Bool)} {d : Nat}

/-! ### As data -/
/-- A pointer to cells that stay. -/
def refP (ds : List D) (w : World) (own : Nat → Prop) (v : Value) : Prop := ∃ ad : Addr, v = .pointer (some ad) ∧ ¬ own ad.block ∧ ad.block < w.heap.size ∧ RdCells w own ad ds
def refD (ds : List D) : D := .x (refP ds)
/-- A map that stays. -/
def mapP (M : List (List UInt8 × List Value)) (w : World) (own : Nat → Prop) (v : Value) : Prop := ∃ b es clock, v = .map (some b) ∧ ¬ own b ∧ b < w.heap.size ∧ w.heap[b]? = some (.map es clock) ∧ MapIs es M
def mapD (M : List (List UInt8 × List Value)) : D := .x (mapP M)
theorem rd_x {own : Nat → Prop} {v : Value} {p : World → (Nat → Prop) → Value → Prop} (h : Rd w own v (.x p)) : p w own v := by
  generalize hD : D.x p = D0 at h
  cases h with
  | v => cases hD
  | sl => cases hD
  | agg => cases hD
  | nil => cases hD
  | x p v h1 hst hp => cases hD; exact hp
/-! ### A pointer to cells that stay -/
/-! ### Closures -/
/-- What is captured, as a function's arguments. -/
inductive Caps : List D → List Arg → Prop
  | nil : Caps [] []
  | ref {cs ds : List D} {zs : List Arg} (h : Caps ds zs) : Caps (refD cs :: ds) (.pd cs :: zs)
  | d {x : D} {ds : List D} {zs : List Arg} (h : Caps ds zs) : Caps (x :: ds) (.d x :: zs)
theorem Caps.ok {own : Nat → Prop} {ds : List D} {zs : List Arg} (h : Caps ds zs) : ∀ {vs : List Value}, vs.length = ds.length → (∀ (j : Nat) (x : D) (c : Value), ds[j]? = some x → vs[j]? = some c → Rd w own c x) → ArgsOk w own vs zs := by
  induction h with
  | nil =>
    intro vs hl _
    obtain rfl : vs = [] := List.eq_nil_of_length_eq_zero hl
    trivial
  | @ref cs ds zs h ih =>
    intro vs hl hr
    cases vs with
    | nil => simp at hl
    | cons v vs =>
      obtain ⟨ad, h1, _, h2, h3⟩ := rd_x (hr 0 _ v rfl rfl)
      exact ⟨⟨ad, h1, h2, h3⟩, ih (by simpa using hl) fun j x c hj hc => hr (j + 1) x c (by simpa using hj) (by simpa using hc)⟩
  | @d x ds zs h ih =>
    intro vs hl hr
    cases vs with
    | nil => simp at hl
    | cons v vs => exact ⟨hr 0 _ v rfl rfl, ih (by simpa using hl) fun j x c hj hc => hr (j + 1) x c (by simpa using hj) (by simpa using hc)⟩
/-- The same, where a map of ours lies in a captured box: told as data to who is called. -/
inductive CapsM (x0 : Value) (M : List (List UInt8 × List Value)) : List D → List Arg → Prop
  | nil : CapsM x0 M [] []
  | map {ds : List D} {zs : List Arg} (h : CapsM x0 M ds zs) : CapsM x0 M (refD [.v x0] :: ds) (.pd [mapD M] :: zs)
  | ref {cs ds : List D} {zs : List Arg} (h : CapsM x0 M ds zs) : CapsM x0 M (refD cs :: ds) (.pd cs :: zs)
theorem CapsM.ok {own own' : Nat → Prop} {x0 : Value} {M : List (List UInt8 × List Value)} (ho : ∀ b, own' b → own b) (hm : Rd w own' x0 (mapD M)) {ds : List D} {zs : List Arg} (h : CapsM x0 M ds zs) :
    ∀ {vs : List Value}, vs.length = ds.length → (∀ (j : Nat) (x : D) (c : Value), ds[j]? = some x → vs[j]? = some c → Rd w own c x) → ArgsOk w own' vs zs := by
  induction h with
  | nil =>
    intro vs hl _
    obtain rfl : vs = [] := List.eq_nil_of_length_eq_zero hl
    trivial
  | @map ds zs h ih =>
    intro vs hl hr
    cases vs with
    | nil => simp at hl
    | cons v vs =>
      obtain ⟨ad, h1, _, h2, h3⟩ := rd_x (hr 0 _ v rfl rfl)
      refine ⟨⟨ad, h1, h2, fun j z hz => ?_⟩, ih (by simpa using hl) fun j x c hj hc => hr (j + 1) x c (by simpa using hj) (by simpa using hc)⟩
      cases j with
      | zero =>
        simp at hz; subst hz
        obtain ⟨u, h4, h5, h6⟩ := h3 0 _ rfl
        rw [rd_v h6] at h4 h5
        exact ⟨x0, h4, h5, hm⟩
      | succ j => simp at hz
  | @ref cs ds zs h ih =>
    intro vs hl hr
    cases vs with
    | nil => simp at hl
    | cons v vs =>
      obtain ⟨ad, h1, _, h2, h3⟩ := rd_x (hr 0 _ v rfl rfl)
      exact ⟨⟨ad, h1, h2, fun j z hz => by obtain ⟨u, h4, h5, h6⟩ := h3 j z hz; exact ⟨u, h4, h5, h6.less ho⟩⟩, ih (by simpa using hl) fun j x c hj hc => hr (j + 1) x c (by simpa using hj) (by simpa using hc)⟩
/-! ### Maps of ours -/
end Go.AX

/-! AxMap -/
/-
  Maps of ours: made, written, read; maps told as data, read.
-/
namespace Go.AX
open Go.RowKit

variable {cx : Cx} {g : Nat → Value} {σ σ' : St} {a : Act} {w w' : World} {nx : Nat}
variable {ty : TypeId} {pos : String} {af : Array Edge} {gd : Option (Nat × Bool)} {d : Nat}

/-- A type of maps from texts to structs. -/
structure MapTy (cx : Cx) (t te : TypeId) (ti : TI) : Prop where
  u : ∃ tk, cx.P.underlying t = some (.map tk te) ∧ cx.P.underlying tk = some .string
  e : tget cx.T te = some ti
  two : ti.zero.length ≠ 1
theorem MapTy.zero {t te : TypeId} {ti : TI} (h : MapTy cx t te ti) (w : World) : (zeroValue te).run cx.P w = .ok (.agg ti.zero.toArray) w := by
  obtain ⟨i, hi, _, _, z, hz, hc⟩ := (cx.hT te ti h.e).info
  have hag : z = .agg ti.zero.toArray := by
    cases z with
    | agg cs =>
      have : cs.toList = ti.zero := hc
      rw [← this]
    | _ => exact absurd (by rw [← hc]; rfl) h.two
  subst hag
  simp [zeroValue, typeInfo, hi, hz]
/-! ### Written -/
end Go.AX

/-! Rn -/
/-
  What the program's Run of a deed computes, on data.
-/
namespace Go.RF
open Go.AX

abbrev Mk := List (Str × (Bool × Int))
def mG : Mk → Str → Option (Bool × Int)
  | [], _ => none
  | (s, c) :: r, k => if s = k then some c else mG r k
def mS : Mk → Str → Bool × Int → Mk
  | [], k, c => [(k, c)]
  | (s, u) :: r, k, c => if s = k then (s, c) :: r else (s, u) :: mS r k c
theorem mG_mS (m : Mk) (k k' : Str) (c : Bool × Int) : mG (mS m k c) k' = if k = k' then some c else mG m k' := by
  induction m with
  | nil => simp [mS, mG]
  | cons p m ih =>
    obtain ⟨s, u⟩ := p
    simp only [mS]
    by_cases hs : s = k
    · rw [if_pos hs]
      simp only [mG]
      by_cases h : k = k'
      · simp [hs, h]
      · rw [if_neg (by rw [hs]; exact h), if_neg h, if_neg (by rw [hs]; exact h)]
    · rw [if_neg hs]
      simp only [mG, ih]
      by_cases h : s = k'
      · rw [if_pos h, if_neg (fun e => hs (by rw [h, e])), if_pos h]
      · rw [if_neg h, if_neg h]

end Go.RF

/-! Sh -/
/-
  The library's comparison of texts, at this program's numbers.
-/
namespace Go.Proofs
open Go.Shelf Go.RowKit
def Tryz.lays106_ren : Go.Shelf.Ren := ⟨fun | 106 => 65 | 213 => 82 | 265 => 97 | n => n, fun | 9 => 9 | 3 => 3 | n => n, fun | n => n⟩
theorem Tryz.lays106 : Go.Proofs.Lays.n106 Tryz.prog Tryz.lays106_ren := {
  mixed := by kernel_rfl
  f106 := Tryz.func65.trans (congrArg some (by kernel_rfl))
  f213 := Tryz.func82.trans (congrArg some (by kernel_rfl))
  f265 := Tryz.func97.trans (congrArg some (by kernel_rfl))
  t3 := Tryz.underlying3
  a3 := Tryz.isAgg3
  z3 := Tryz.sizeOf3
  v3 := Tryz.zeroValue3
  t9 := Tryz.underlying9
  a9 := Tryz.isAgg9
  z9 := Tryz.sizeOf9
  v9 := Tryz.zeroValue9 }
theorem Tryz.strings_Compare (a b : ByteArray) (w : World) :
    Calls Tryz.prog 65 #[.string a, .string b] w fun e w' => e = .returned (.int .i64 (Lib.compareBytes a.data.toList b.data.toList)) ∧ w' = w := Any.strings_Compare Tryz.lays106 a b w
end Go.Proofs

/-! G2 -/
/-
  Contracts of the program's find in chains: texts held against each other, and the library's search by halves.
-/
namespace Go.Proofs.YtjgbmdonhabmiaaGreatDoor
open Go.AX Go.RF Go.RowKit

set_option maxRecDepth 100000
set_option maxHeartbeats 4000000

def cmpT (a b : Str) : Int := if slt a b = true then -1 else if a = b then 0 else 1

theorem compare_eq : ∀ (a b : Str), Lib.compareBytes a b = cmpT a b
  | [], [] => by simp [Lib.compareBytes, cmpT, bl_nil]
  | [], b :: r => by simp [Lib.compareBytes, cmpT, bl_nil_cons]
  | a :: l, [] => by simp [Lib.compareBytes, cmpT, bl_nil]
  | a :: l, b :: r => by
    simp only [Lib.compareBytes, cmpT, bl_cons]
    by_cases h1 : a < b
    · simp [h1]
    · by_cases h2 : b < a
      · have h3 : ¬ a = b := fun h => by subst h; exact h1 h2
        simp [h1, h2, h3]
      · have h3 : a = b := UInt8.le_antisymm (UInt8.not_lt.1 h2) (UInt8.not_lt.1 h1)
        subst h3
        rw [compare_eq l r]
        simp [h1, cmpT]
theorem cmpT_lt {a b : Str} : cmpT a b < 0 ↔ slt a b = true := by
  unfold cmpT
  split
  · next h => simp [h]
  · next h => split <;> simp [h]
theorem cmpT_zero {a b : Str} : cmpT a b = 0 ↔ a = b := by
  unfold cmpT
  split
  · next h =>
    constructor
    · intro h0; simp at h0
    · intro h0; subst h0; rw [slt_irrefl] at h; cases h
  · split <;> simp_all

theorem ok_compare (a b : Str) : FnOk Tryz.prog 65 [.d (dstr a), .d (dstr b)] (.one (dint (cmpT a b))) := by
  refine ⟨⟨_, Tryz.func65, rfl, rfl⟩, fun w own vs hown ha => ?_⟩
  match vs, ha with
  | [x, y], ⟨h1, h2, _⟩ =>
    obtain rfl : x = str a := rd_v h1
    obtain rfl : y = str b := rd_v h2
    refine (Tryz.strings_Compare ⟨a.toArray⟩ ⟨b.toArray⟩ w).mono fun e w' he => ?_
    obtain ⟨rfl, rfl⟩ := he
    exact ⟨_, rfl, Below.refl _ _, by rw [← compare_eq]; exact Rd.v _⟩

theorem ok_find1 (c : Chain) (k : Str) : FnOk Tryz.prog 64 [.d (.agg c.enc), .d (dstr k)] (.one (dint (cmpT c.key k))) := by
  refine fnOk_of tbl_ok mixed_ok Tryz.func64 rfl (by kernel_rfl) rfl rfl fun w0 own0 => ?_
  have hc := ok_compare c.key k
  repeat (first | ((with_reducible apply s1); exact rfl) | (with_reducible first | apply CW.seq | apply CW.block | apply CW.region | apply CW.draw | apply CW.skip | apply CW.exit | apply CW.ret | apply q_then | apply q_then_exit | apply q_then_ret | apply q_block | apply q_block_ret | apply q_block_hit | apply q_ret | apply q_end | apply q_loop_exit | apply q_loop_ret | apply q_loopT_exit | apply q_loopT_ret | apply RW.nil) | ((with_reducible apply s3); exact rfl; exact by_k) | ((with_reducible apply s2); exact rfl; exact by_k) | ((with_reducible apply s4); exact rfl) | ((with_reducible apply s5); (first | (focus ((with_reducible apply a_call); exact hc; exact rfl; (repeat (first | exact SubsE.nil | (apply SubsE.cons; exact rfl; (first | exact .d (.refl _) | exact .d (.nil _) | exact .agg rfl (.refl _) | exact .pd | exact .ptr rfl); (first | exact trivial | exact ⟨rfl, trivial⟩)))); done)) | exact by_oa); exact by_g) | ((with_reducible apply CW.cond_t); exact rfl; exact by_ks) | ((with_reducible apply CW.cond_f); exact rfl; exact by_ks) | ((with_reducible apply q_block_miss); exact rfl) | (refine And.intro (show chk [] [] _ _ = true by kernel_rfl) ?_))
  exact .one (.tmp rfl (.one (.d (.refl _))))

abbrev At (l : List Chain) (k : Str) (m : Nat) : Prop := AtK Chain.key l k m
abbrev isAt (l : List Chain) (k : Str) (m : Nat) : Bool := isAtK Chain.key l k m

theorem ok_bsearch (l : List Chain) (k : Str) (m : Nat) (hl : l.length ≤ 268435456) (hm : At l k m) :
    FnOk Tryz.prog 63 [.d (encChains l), .d (dstr k), .d (.v (.func (.func 64) #[] #[]))] (.tup [dint m, dbool (isAt l k m)]) := by
  refine fnOk_of tbl_ok mixed_ok Tryz.func63 rfl (by kernel_rfl) rfl rfl fun w0 own0 => ?_
  have hml := hm.le
  repeat (first | ((with_reducible apply s1); exact rfl) | (with_reducible first | apply CW.seq | apply CW.block | apply CW.region | apply CW.draw | apply CW.skip | apply CW.exit | apply CW.ret | apply q_then | apply q_then_exit | apply q_then_ret | apply q_block | apply q_block_ret | apply q_block_hit | apply q_ret | apply q_end | apply q_loop_exit | apply q_loop_ret | apply q_loopT_exit | apply q_loopT_ret | apply RW.nil) | ((with_reducible apply s3); exact rfl; exact by_k) | ((with_reducible apply s2); exact rfl; exact by_k) | ((with_reducible apply s4); exact rfl) | ((with_reducible apply s5); (first | exact by_oa); exact by_g) | ((with_reducible apply CW.cond_t); exact rfl; exact by_ks) | ((with_reducible apply CW.cond_f); exact rfl; exact by_ks) | ((with_reducible apply q_block_miss); exact rfl) | (refine And.intro (show chk [] [] _ _ = true by kernel_rfl) ?_))
  refine CW.loopT (fun t : Nat × Nat => [sd 0 (encChains l), sd 1 (dstr k), sd 2 (.v (.func (.func 64) #[] #[])), sd 8 (dint l.length), sd 9 (dint t.1), sd 10 (dint t.2), nxt 0])
    (fun t => t.1 ≤ m ∧ m ≤ t.2 ∧ t.2 ≤ l.length) (fun t => t.2 - t.1) (0, l.length) ⟨by omega, hm.le, by omega⟩ ?_ ?_
  ·
    exact by_less
  · rintro ⟨i, j⟩ ⟨h1, h2, h3⟩
    dsimp only at h1 h2 h3 ⊢
    by_cases h4 : i < j
    · obtain ⟨c, hc⟩ : ∃ c, l[(i + j) / 2]? = some c := ⟨l[(i + j) / 2]'(by omega), List.getElem?_eq_getElem (by omega)⟩
      have hcall := ok_find1 c k
      repeat (first | (with_reducible apply stop_reg 4) | ((with_reducible apply s1); exact rfl) | (with_reducible first | apply CW.seq | apply CW.block | apply CW.region | apply CW.draw | apply CW.skip | apply CW.exit | apply CW.ret | apply q_then | apply q_then_exit | apply q_then_ret | apply q_block | apply q_block_ret | apply q_block_hit | apply q_ret | apply q_end | apply q_loop_exit | apply q_loop_ret | apply q_loopT_exit | apply q_loopT_ret | apply RW.nil) | ((with_reducible apply s3); exact rfl; exact by_k) | ((with_reducible apply s2); exact rfl; exact by_k) | ((with_reducible apply s4); exact rfl) | ((with_reducible apply s5); (first | exact by_oa); exact by_g) | ((with_reducible apply CW.cond_t); exact rfl; exact by_ks) | ((with_reducible apply CW.cond_f); exact rfl; exact by_ks) | ((with_reducible apply q_block_miss); exact rfl) | (refine And.intro (show chk [] [] _ _ = true by kernel_rfl) ?_))
      refine Stop.cutk [sd 11 (dint ((i + j) / 2 : Nat))] [.s 0, .s 1, .s 2, .s 8, .s 9, .s 10, .nx] ?_ ?_
      ·
        repeat (first | ((with_reducible apply s1); exact rfl) | (with_reducible first | apply CW.seq | apply CW.block | apply CW.region | apply CW.draw | apply CW.skip | apply CW.exit | apply CW.ret | apply q_then | apply q_then_exit | apply q_then_ret | apply q_block | apply q_block_ret | apply q_block_hit | apply q_ret | apply q_end | apply q_loop_exit | apply q_loop_ret | apply q_loopT_exit | apply q_loopT_ret | apply RW.nil) | ((with_reducible apply s3); exact rfl; exact by_k) | ((with_reducible apply s2); exact rfl; exact by_k) | ((with_reducible apply s4); exact rfl) | ((with_reducible apply s5); (first | ((with_reducible apply a_bin); (iterate 2 exact rfl); exact bin_half; exact rfl) | exact by_oa); exact by_g) | ((with_reducible apply CW.cond_t); exact rfl; exact by_ks) | ((with_reducible apply CW.cond_f); exact rfl; exact by_ks) | ((with_reducible apply q_block_miss); exact rfl) | (refine And.intro (show chk [] [] _ _ = true by kernel_rfl) ?_))
        refine q_cut ?_
        exact by_less
      have hcz := @cmpT_lt c.key k
      by_cases h5 : cmpT c.key k < 0
      · have h6 : (i + j) / 2 < m := by
          rcases Nat.lt_or_ge ((i + j) / 2) m with h | h
          · exact h
          · have := hm.ge _ c hc h
            rw [hcz.1 h5] at this; cases this
        repeat (first | ((with_reducible apply s1); exact rfl) | (with_reducible first | apply CW.seq | apply CW.block | apply CW.region | apply CW.draw | apply CW.skip | apply CW.exit | apply CW.ret | apply q_then | apply q_then_exit | apply q_then_ret | apply q_block | apply q_block_ret | apply q_block_hit | apply q_ret | apply q_end | apply q_loop_exit | apply q_loop_ret | apply q_loopT_exit | apply q_loopT_ret | apply RW.nil) | ((with_reducible apply s3); exact rfl; exact by_k) | ((with_reducible apply s2); exact rfl; exact by_k) | ((with_reducible apply s4); exact rfl) | ((with_reducible apply s5); (first | (focus ((with_reducible apply a_callv); exact hcall; (iterate 2 exact rfl); (repeat (first | exact SubsE.nil | (apply SubsE.cons; exact rfl; (first | exact .d (.refl _) | exact .d (.nil _) | exact .agg rfl (.refl _) | exact .pd | exact .ptr rfl); (first | exact trivial | exact ⟨rfl, trivial⟩)))); done)) | exact by_oa); exact by_g) | ((with_reducible apply CW.cond_t); exact rfl; exact by_ks) | ((with_reducible apply CW.cond_f); exact rfl; exact by_ks) | ((with_reducible apply q_block_miss); exact rfl) | (refine And.intro (show chk [] [] _ _ = true by kernel_rfl) ?_))
        refine q_loopT ((i + j) / 2 + 1, j) ⟨by dsimp only; omega, h2, h3⟩ (by dsimp only; omega) ?_
        exact by_less
      · have h6 : m ≤ (i + j) / 2 := by
          rcases Nat.lt_or_ge ((i + j) / 2) m with h | h
          · exact absurd (hcz.2 (hm.lt _ c hc h)) h5
          · exact h
        repeat (first | ((with_reducible apply s1); exact rfl) | (with_reducible first | apply CW.seq | apply CW.block | apply CW.region | apply CW.draw | apply CW.skip | apply CW.exit | apply CW.ret | apply q_then | apply q_then_exit | apply q_then_ret | apply q_block | apply q_block_ret | apply q_block_hit | apply q_ret | apply q_end | apply q_loop_exit | apply q_loop_ret | apply q_loopT_exit | apply q_loopT_ret | apply RW.nil) | ((with_reducible apply s3); exact rfl; exact by_k) | ((with_reducible apply s2); exact rfl; exact by_k) | ((with_reducible apply s4); exact rfl) | ((with_reducible apply s5); (first | (focus ((with_reducible apply a_callv); exact hcall; (iterate 2 exact rfl); (repeat (first | exact SubsE.nil | (apply SubsE.cons; exact rfl; (first | exact .d (.refl _) | exact .d (.nil _) | exact .agg rfl (.refl _) | exact .pd | exact .ptr rfl); (first | exact trivial | exact ⟨rfl, trivial⟩)))); done)) | exact by_oa); exact by_g) | ((with_reducible apply CW.cond_t); exact rfl; exact by_ks) | ((with_reducible apply CW.cond_f); exact rfl; exact by_ks) | ((with_reducible apply q_block_miss); exact rfl) | (refine And.intro (show chk [] [] _ _ = true by kernel_rfl) ?_))
        refine q_loopT (i, (i + j) / 2) ⟨h1, h6, by dsimp only; omega⟩ (by dsimp only; omega) ?_
        exact by_less
    · obtain rfl : i = m := by omega
      cases hc : l[i]? with
      | none =>
        have h5 : l.length ≤ i := by
          rcases Nat.lt_or_ge i l.length with h | h
          · rw [List.getElem?_eq_getElem h] at hc; cases hc
          · exact h
        repeat (first | ((with_reducible apply s1); exact rfl) | (with_reducible first | apply CW.seq | apply CW.block | apply CW.region | apply CW.draw | apply CW.skip | apply CW.exit | apply CW.ret | apply q_then | apply q_then_exit | apply q_then_ret | apply q_block | apply q_block_ret | apply q_block_hit | apply q_ret | apply q_end | apply q_loop_exit | apply q_loop_ret | apply q_loopT_exit | apply q_loopT_ret | apply RW.nil) | ((with_reducible apply s3); exact rfl; exact by_k) | ((with_reducible apply s2); exact rfl; exact by_k) | ((with_reducible apply s4); exact rfl) | ((with_reducible apply s5); (first | exact by_oa); exact by_g) | ((with_reducible apply CW.cond_t); exact rfl; exact by_ks) | ((with_reducible apply CW.cond_f); exact rfl; exact by_ks) | ((with_reducible apply q_block_miss); exact rfl) | (refine And.intro (show chk [] [] _ _ = true by kernel_rfl) ?_))
        exact .two (.tmp rfl (.one (.d (.refl _)))) (.tmp rfl (.one (.d (dle_bool (by simp [isAtK, hc])))))
      | some c =>
        have h5 : i < l.length := (List.getElem?_eq_some_iff.1 hc).1
        have hcall := ok_find1 c k
        repeat (first | ((with_reducible apply s1); exact rfl) | (with_reducible first | apply CW.seq | apply CW.block | apply CW.region | apply CW.draw | apply CW.skip | apply CW.exit | apply CW.ret | apply q_then | apply q_then_exit | apply q_then_ret | apply q_block | apply q_block_ret | apply q_block_hit | apply q_ret | apply q_end | apply q_loop_exit | apply q_loop_ret | apply q_loopT_exit | apply q_loopT_ret | apply RW.nil) | ((with_reducible apply s3); exact rfl; exact by_k) | ((with_reducible apply s2); exact rfl; exact by_k) | ((with_reducible apply s4); exact rfl) | ((with_reducible apply s5); (first | (focus ((with_reducible apply a_callv); exact hcall; (iterate 2 exact rfl); (repeat (first | exact SubsE.nil | (apply SubsE.cons; exact rfl; (first | exact .d (.refl _) | exact .d (.nil _) | exact .agg rfl (.refl _) | exact .pd | exact .ptr rfl); (first | exact trivial | exact ⟨rfl, trivial⟩)))); done)) | exact by_oa); exact by_g) | ((with_reducible apply CW.cond_t); exact rfl; exact by_ks) | ((with_reducible apply CW.cond_f); exact rfl; exact by_ks) | ((with_reducible apply q_block_miss); exact rfl) | (refine And.intro (show chk [] [] _ _ = true by kernel_rfl) ?_))
        refine .two (.tmp rfl (.one (.d (.refl _)))) (.tmp rfl (.one (.d (dle_bool ?_))))
        rw [show isAt l k i = decide (c.key = k) by simp [isAt, isAtK, hc]]
        show decide (cmpT c.key k = 0) = decide (c.key = k)
        rw [decide_eq_decide]
        exact cmpT_zero

theorem ok_find (l : List Chain) (k : Str) (m : Nat) (hl : l.length ≤ 268435456) (hm : At l k m) : FnOk Tryz.prog 49 [.d (encChains l), .d (dstr k)] (.tup [dint m, dbool (isAt l k m)]) := by
  refine fnOk_of tbl_ok mixed_ok Tryz.func49 rfl (by kernel_rfl) rfl rfl fun w0 own0 => ?_
  have hc := ok_bsearch l k m hl hm
  repeat (first | ((with_reducible apply s1); exact rfl) | (with_reducible first | apply CW.seq | apply CW.block | apply CW.region | apply CW.draw | apply CW.skip | apply CW.exit | apply CW.ret | apply q_then | apply q_then_exit | apply q_then_ret | apply q_block | apply q_block_ret | apply q_block_hit | apply q_ret | apply q_end | apply q_loop_exit | apply q_loop_ret | apply q_loopT_exit | apply q_loopT_ret | apply RW.nil) | ((with_reducible apply s3); exact rfl; exact by_k) | ((with_reducible apply s2); exact rfl; exact by_k) | ((with_reducible apply s4); exact rfl) | ((with_reducible apply s5); (first | (focus ((with_reducible apply a_call); exact hc; exact rfl; (repeat (first | exact SubsE.nil | (apply SubsE.cons; exact rfl; (first | exact .d (.refl _) | exact .d (.nil _) | exact .agg rfl (.refl _) | exact .pd | exact .ptr rfl); (first | exact trivial | exact ⟨rfl, trivial⟩)))); done)) | exact by_oa); exact by_g) | ((with_reducible apply CW.cond_t); exact rfl; exact by_ks) | ((with_reducible apply CW.cond_f); exact rfl; exact by_ks) | ((with_reducible apply q_block_miss); exact rfl) | (refine And.intro (show chk [] [] _ _ = true by kernel_rfl) ?_))
  exact .two (.tmp rfl (.one (.d (.refl _)))) (.tmp rfl (.one (.d (.refl _))))

end Go.Proofs.YtjgbmdonhabmiaaGreatDoor

/-! G8 -/
/-
  Contracts of the program's copies of chains: what comes back is the caller's own, and one chain's versions, too.
-/
namespace Go.Proofs.YtjgbmdonhabmiaaGreatDoor
open Go.AX Go.RF

set_option maxRecDepth 100000
set_option maxHeartbeats 8000000

theorem new_chainOwn (l : List Chain) (hl : l.length ≤ 268435456) (hv : ∀ c ∈ l, c.vs.length ≤ 268435456) : FnNew Tryz.prog 31 [.d (encChains l)] 59 2 (l.map Chain.enc) := by
  refine fnNew_of tbl_ok mixed_ok Tryz.func31 rfl (by kernel_rfl) rfl rfl fun w0 own0 => ?_
  repeat (first | ((with_reducible apply s1); exact rfl) | (with_reducible first | apply CW.seq | apply CW.block | apply CW.region | apply CW.draw | apply CW.skip | apply CW.exit | apply CW.ret | apply q_then | apply q_then_exit | apply q_then_ret | apply q_block | apply q_block_ret | apply q_block_hit | apply q_ret | apply q_end | apply q_loop_exit | apply q_loop_ret | apply q_loopT_exit | apply q_loopT_ret | apply RW.nil) | ((with_reducible apply s3); exact rfl; exact by_k) | ((with_reducible apply s2); exact rfl; exact by_k) | ((with_reducible apply s4); exact rfl) | ((with_reducible apply s5); (first | exact by_oa); exact by_g) | ((with_reducible apply CW.cond_t); exact rfl; exact by_ks) | ((with_reducible apply CW.cond_f); exact rfl; exact by_ks) | ((with_reducible apply q_block_miss); exact rfl) | (refine And.intro (show chk [] [] _ _ = true by kernel_rfl) ?_))
  refine CW.stut (stut_promote (i := 3) 59 2) ⟨rfl, rfl, trivial⟩ ?_
  refine CW.loopT (fun i : Nat => [sd 6 (encChains l), sd 7 (dint l.length), sd 8 (dint i), so 3 0 i, oa 0 59 2 ((l.take i).map Chain.enc), nxt 1]) (fun i => i ≤ l.length) (fun i => l.length - i) 0 (by omega) ?_ ?_
  ·
    exact by_less
  · rintro i hi
    rcases drop_case hi with ⟨h1, h2⟩ | ⟨c, h1, h2, h3⟩
    · subst h2
      rw [List.take_length]
      repeat (first | ((with_reducible apply s1); exact rfl) | (with_reducible first | apply CW.seq | apply CW.block | apply CW.region | apply CW.draw | apply CW.skip | apply CW.exit | apply CW.ret | apply q_then | apply q_then_exit | apply q_then_ret | apply q_block | apply q_block_ret | apply q_block_hit | apply q_ret | apply q_end | apply q_loop_exit | apply q_loop_ret | apply q_loopT_exit | apply q_loopT_ret | apply RW.nil) | ((with_reducible apply s3); exact rfl; exact by_k) | ((with_reducible apply s2); exact rfl; exact by_k) | ((with_reducible apply s4); exact rfl) | ((with_reducible apply s5); (first | exact by_oa); exact by_g) | ((with_reducible apply CW.cond_t); exact rfl; exact by_ks) | ((with_reducible apply CW.cond_f); exact rfl; exact by_ks) | ((with_reducible apply q_block_miss); exact rfl) | (refine And.intro (show chk [] [] _ _ = true by kernel_rfl) ?_))
      exact RetNew.own rfl rfl (by simp)
    · have h4 : (l.take i).map Chain.enc ++ [c.enc] = (l.take (i + 1)).map Chain.enc := by rw [List.take_add_one, h2]; simp
      have hcv := hv c (List.mem_of_getElem? h2)
      have hc := ok_clone_version (c.vs.map Version.enc) (by simp; omega)
      repeat (first | ((with_reducible apply s1); exact rfl) | (with_reducible first | apply CW.seq | apply CW.block | apply CW.region | apply CW.draw | apply CW.skip | apply CW.exit | apply CW.ret | apply q_then | apply q_then_exit | apply q_then_ret | apply q_block | apply q_block_ret | apply q_block_hit | apply q_ret | apply q_end | apply q_loop_exit | apply q_loop_ret | apply q_loopT_exit | apply q_loopT_ret | apply RW.nil) | ((with_reducible apply s3); exact rfl; exact by_k) | ((with_reducible apply s2); exact rfl; exact by_k) | ((with_reducible apply s4); exact rfl) | ((with_reducible apply s5); (first | (focus ((with_reducible apply a_call); exact hc; exact rfl; (repeat (first | exact SubsE.nil | (apply SubsE.cons; exact rfl; (first | exact .d (.refl _) | exact .d (.nil _) | exact .agg rfl (.refl _) | exact .pd | exact .ptr rfl); (first | exact trivial | exact ⟨rfl, trivial⟩)))); done)) | exact by_oa); exact by_g) | ((with_reducible apply CW.cond_t); exact rfl; exact by_ks) | ((with_reducible apply CW.cond_f); exact rfl; exact by_ks) | ((with_reducible apply q_block_miss); exact rfl) | (refine And.intro (show chk [] [] _ _ = true by kernel_rfl) ?_))
      refine q_loopT (i + 1) (by omega) (by omega) ?_
      exact by_less

def keptRows (l : List Chain) (m : Nat) (c : Chain) (x : Value) : List (List D) := (l.map Chain.enc).set m [dstr c.key, .v x]

theorem own2_chain (l : List Chain) (m : Nat) (c0 : Chain) (h0 : l[m]? = some c0) (hl : l.length ≤ 268435456) (hv : ∀ c ∈ l, c.vs.length ≤ 268435456) :
    FnOwn2 Tryz.prog 31 [.d (encChains l)] 59 2 (keptRows l m c0) 56 4 (c0.vs.map Version.enc) := by
  refine fnOwn2_of tbl_ok mixed_ok Tryz.func31 rfl (by kernel_rfl) rfl rfl fun w0 own0 => ?_
  have hml : m < l.length := (List.getElem?_eq_some_iff.1 h0).1
  repeat (first | ((with_reducible apply s1); exact rfl) | (with_reducible first | apply CW.seq | apply CW.block | apply CW.region | apply CW.draw | apply CW.skip | apply CW.exit | apply CW.ret | apply q_then | apply q_then_exit | apply q_then_ret | apply q_block | apply q_block_ret | apply q_block_hit | apply q_ret | apply q_end | apply q_loop_exit | apply q_loop_ret | apply q_loopT_exit | apply q_loopT_ret | apply RW.nil) | ((with_reducible apply s3); exact rfl; exact by_k) | ((with_reducible apply s2); exact rfl; exact by_k) | ((with_reducible apply s4); exact rfl) | ((with_reducible apply s5); (first | exact by_oa); exact by_g) | ((with_reducible apply CW.cond_t); exact rfl; exact by_ks) | ((with_reducible apply CW.cond_f); exact rfl; exact by_ks) | ((with_reducible apply q_block_miss); exact rfl) | (refine And.intro (show chk [] [] _ _ = true by kernel_rfl) ?_))
  refine CW.stut (stut_promote (i := 3) 59 2) ⟨rfl, rfl, trivial⟩ ?_
  refine CW.loopT (fun t : Nat × Option Value => match t.2 with
      | none => [sd 6 (encChains l), sd 7 (dint l.length), sd 8 (dint t.1), so 3 0 t.1, oa 0 59 2 ((l.take t.1).map Chain.enc), nxt 1]
      | some x => [sd 6 (encChains l), sd 7 (dint l.length), sd 8 (dint t.1), so 3 0 t.1, oa 0 59 2 ((keptRows l m c0 x).take t.1), (.o 2, .ob (.pin 56 4 (c0.vs.map Version.enc) x)), nxt 3])
    (fun t => t.1 ≤ l.length ∧ (t.2 = none → t.1 ≤ m) ∧ (t.2 ≠ none → m < t.1)) (fun t => l.length - t.1) (0, none) ⟨by omega, fun _ => Nat.zero_le _, fun h => absurd rfl h⟩ ?_ ?_
  ·
    exact by_less
  · rintro ⟨i, o⟩ ⟨hi, hn, hs⟩
    dsimp only at hi hn hs ⊢
    have hkl : ∀ x, (keptRows l m c0 x).length = l.length := fun x => by simp [keptRows]
    cases o with
    | none =>
      have him := hn rfl
      dsimp only
      rcases drop_case hi with ⟨h1, h2⟩ | ⟨c, h1, h2, h3⟩
      · omega
      · have hcv := hv c (List.mem_of_getElem? h2)
        rcases Nat.lt_or_ge i m with hlt | hge
        · have h4 : (l.take i).map Chain.enc ++ [c.enc] = (l.take (i + 1)).map Chain.enc := by rw [List.take_add_one, h2]; simp
          have hc := ok_clone_version (c.vs.map Version.enc) (by simp; omega)
          repeat (first | ((with_reducible apply s1); exact rfl) | (with_reducible first | apply CW.seq | apply CW.block | apply CW.region | apply CW.draw | apply CW.skip | apply CW.exit | apply CW.ret | apply q_then | apply q_then_exit | apply q_then_ret | apply q_block | apply q_block_ret | apply q_block_hit | apply q_ret | apply q_end | apply q_loop_exit | apply q_loop_ret | apply q_loopT_exit | apply q_loopT_ret | apply RW.nil) | ((with_reducible apply s3); exact rfl; exact by_k) | ((with_reducible apply s2); exact rfl; exact by_k) | ((with_reducible apply s4); exact rfl) | ((with_reducible apply s5); (first | (focus ((with_reducible apply a_call); exact hc; exact rfl; (repeat (first | exact SubsE.nil | (apply SubsE.cons; exact rfl; (first | exact .d (.refl _) | exact .d (.nil _) | exact .agg rfl (.refl _) | exact .pd | exact .ptr rfl); (first | exact trivial | exact ⟨rfl, trivial⟩)))); done)) | exact by_oa); exact by_g) | ((with_reducible apply CW.cond_t); exact rfl; exact by_ks) | ((with_reducible apply CW.cond_f); exact rfl; exact by_ks) | ((with_reducible apply q_block_miss); exact rfl) | (refine And.intro (show chk [] [] _ _ = true by kernel_rfl) ?_))
          refine q_loopT (i + 1, none) ⟨by dsimp only; omega, fun _ => by dsimp only; omega, fun h => absurd rfl h⟩ (by dsimp only; omega) ?_
          exact by_less
        · obtain rfl : i = m := by omega
          obtain rfl : c0 = c := by rw [h0] at h2; exact Option.some.inj h2
          have h4 : ∀ x, (l.take i).map Chain.enc ++ [[dstr c0.key, .v x]] = (keptRows l i c0 x).take (i + 1) := fun x => by
            rw [keptRows, List.take_add_one, List.getElem?_set_self (by simpa using hml), List.take_set_of_le (Nat.le_refl _), List.map_take]; rfl
          have hc := new_clone_version (c0.vs.map Version.enc) (by simp; omega)
          repeat (first | (with_reducible apply stop_region 5) | ((with_reducible apply s1); exact rfl) | (with_reducible first | apply CW.seq | apply CW.block | apply CW.region | apply CW.draw | apply CW.skip | apply CW.exit | apply CW.ret | apply q_then | apply q_then_exit | apply q_then_ret | apply q_block | apply q_block_ret | apply q_block_hit | apply q_ret | apply q_end | apply q_loop_exit | apply q_loop_ret | apply q_loopT_exit | apply q_loopT_ret | apply RW.nil) | ((with_reducible apply s3); exact rfl; exact by_k) | ((with_reducible apply s2); exact rfl; exact by_k) | ((with_reducible apply s4); exact rfl) | ((with_reducible apply s5); (first | exact by_oa); exact by_g) | ((with_reducible apply CW.cond_t); exact rfl; exact by_ks) | ((with_reducible apply CW.cond_f); exact rfl; exact by_ks) | ((with_reducible apply q_block_miss); exact rfl) | (refine And.intro (show chk [] [] _ _ = true by kernel_rfl) ?_))
          refine Stop.go ?_
          apply CW.drawF (x0 := ((none, 0, 0) : Option Addr × Nat × Nat)) (l1 := [_, _, _, _, _]) (l2 := [_, _, _, _]) (tS := fun x => ⟨(rdOf (.tmp 16) (.d (encVs c0.vs)) ++ ([] ++ [])) ++ [(.nx, .num 2)], [(.s 17, .av (.d (.v (.slice x.1 x.2.1 x.2.2)))), (.o 2, .ob (.pin 56 4 (c0.vs.map Version.enc) (.slice x.1 x.2.1 x.2.2))), (.nx, .num 3)]⟩)
            (rs := (rdOf (.tmp 16) (.d (encVs c0.vs)) ++ ([] ++ [])) ++ [(.nx, .num 2)]) 
          · rfl
          · rfl
          · exact fun _ => rfl
          · exact fam_newpin rfl hc (.cons (x := .tmp 16) (av := .d (encVs c0.vs)) trivial (.d (.refl _)) .nil)
          · rfl
          repeat (first | ((with_reducible apply s1); exact rfl) | (with_reducible first | apply CW.seq | apply CW.block | apply CW.region | apply CW.draw | apply CW.skip | apply CW.exit | apply CW.ret | apply q_then | apply q_then_exit | apply q_then_ret | apply q_block | apply q_block_ret | apply q_block_hit | apply q_ret | apply q_end | apply q_loop_exit | apply q_loop_ret | apply q_loopT_exit | apply q_loopT_ret | apply RW.nil) | ((with_reducible apply s3); exact rfl; exact by_k) | ((with_reducible apply s2); exact rfl; exact by_k) | ((with_reducible apply s4); exact rfl) | ((with_reducible apply s5); (first | exact by_oa); exact by_g) | ((with_reducible apply CW.cond_t); exact rfl; exact by_ks) | ((with_reducible apply CW.cond_f); exact rfl; exact by_ks) | ((with_reducible apply q_block_miss); exact rfl) | (refine And.intro (show chk [] [] _ _ = true by kernel_rfl) ?_))
          refine And.intro ⟨rfl, rfl, trivial⟩ fun x => ?_
          obtain ⟨p, n, cp⟩ := x
          have h4' := h4 (.slice p n cp)
          have hk := hkl (.slice p n cp)
          dsimp only
          repeat (first | ((with_reducible apply s1); exact rfl) | (with_reducible first | apply CW.seq | apply CW.block | apply CW.region | apply CW.draw | apply CW.skip | apply CW.exit | apply CW.ret | apply q_then | apply q_then_exit | apply q_then_ret | apply q_block | apply q_block_ret | apply q_block_hit | apply q_ret | apply q_end | apply q_loop_exit | apply q_loop_ret | apply q_loopT_exit | apply q_loopT_ret | apply RW.nil) | ((with_reducible apply s3); exact rfl; exact by_k) | ((with_reducible apply s2); exact rfl; exact by_k) | ((with_reducible apply s4); exact rfl) | ((with_reducible apply s5); (first | exact by_oa); exact by_g) | ((with_reducible apply CW.cond_t); exact rfl; exact by_ks) | ((with_reducible apply CW.cond_f); exact rfl; exact by_ks) | ((with_reducible apply q_block_miss); exact rfl) | (refine And.intro (show chk [] [] _ _ = true by kernel_rfl) ?_))
          refine q_loopT (i + 1, some (.slice p n cp)) ⟨by dsimp only; omega, fun h => (by cases h), fun _ => by dsimp only; omega⟩ (by dsimp only; omega) ?_
          exact by_less
    | some x =>
      have him := hs (by simp)
      have hk := hkl x
      dsimp only
      rcases drop_case hi with ⟨h1, h2⟩ | ⟨c, h1, h2, h3⟩
      · subst h2
        rw [List.take_of_length_le (by rw [hkl]; exact Nat.le_refl _)]
        repeat (first | ((with_reducible apply s1); exact rfl) | (with_reducible first | apply CW.seq | apply CW.block | apply CW.region | apply CW.draw | apply CW.skip | apply CW.exit | apply CW.ret | apply q_then | apply q_then_exit | apply q_then_ret | apply q_block | apply q_block_ret | apply q_block_hit | apply q_ret | apply q_end | apply q_loop_exit | apply q_loop_ret | apply q_loopT_exit | apply q_loopT_ret | apply RW.nil) | ((with_reducible apply s3); exact rfl; exact by_k) | ((with_reducible apply s2); exact rfl; exact by_k) | ((with_reducible apply s4); exact rfl) | ((with_reducible apply s5); (first | exact by_oa); exact by_g) | ((with_reducible apply CW.cond_t); exact rfl; exact by_ks) | ((with_reducible apply CW.cond_f); exact rfl; exact by_ks) | ((with_reducible apply q_block_miss); exact rfl) | (refine And.intro (show chk [] [] _ _ = true by kernel_rfl) ?_))
        exact own2_ret (id2 := 2) rfl rfl (hkl x).symm rfl
      · have hcv := hv c (List.mem_of_getElem? h2)
        have h4 : (keptRows l m c0 x).take i ++ [c.enc] = (keptRows l m c0 x).take (i + 1) := by
          rw [List.take_add_one, keptRows, List.getElem?_set_ne (by omega)]; simp [h2]
        have hc := ok_clone_version (c.vs.map Version.enc) (by simp; omega)
        repeat (first | ((with_reducible apply s1); exact rfl) | (with_reducible first | apply CW.seq | apply CW.block | apply CW.region | apply CW.draw | apply CW.skip | apply CW.exit | apply CW.ret | apply q_then | apply q_then_exit | apply q_then_ret | apply q_block | apply q_block_ret | apply q_block_hit | apply q_ret | apply q_end | apply q_loop_exit | apply q_loop_ret | apply q_loopT_exit | apply q_loopT_ret | apply RW.nil) | ((with_reducible apply s3); exact rfl; exact by_k) | ((with_reducible apply s2); exact rfl; exact by_k) | ((with_reducible apply s4); exact rfl) | ((with_reducible apply s5); (first | (focus ((with_reducible apply a_call); exact hc; exact rfl; (repeat (first | exact SubsE.nil | (apply SubsE.cons; exact rfl; (first | exact .d (.refl _) | exact .d (.nil _) | exact .agg rfl (.refl _) | exact .pd | exact .ptr rfl); (first | exact trivial | exact ⟨rfl, trivial⟩)))); done)) | exact by_oa); exact by_g) | ((with_reducible apply CW.cond_t); exact rfl; exact by_ks) | ((with_reducible apply CW.cond_f); exact rfl; exact by_ks) | ((with_reducible apply q_block_miss); exact rfl) | (refine And.intro (show chk [] [] _ _ = true by kernel_rfl) ?_))
        refine q_loopT (i + 1, some x) ⟨by dsimp only; omega, fun h => (by cases h), fun _ => by dsimp only; omega⟩ (by dsimp only; omega) ?_
        exact by_less

end Go.Proofs.YtjgbmdonhabmiaaGreatDoor

/-! G11 -/
/-
  Contract of the library's Insert, of one element of two cells.
-/
namespace Go.Proofs.YtjgbmdonhabmiaaGreatDoor
open Go.AX Go.RF Go.RowKit Go.Shelf Go.Lib

theorem run_copy_k {P : Program} (w : World) (dT sT ty elem : TypeId) (k g o dLen dCap : Nat) (a : Addr) (sLen sCap q : Nat) (cur : Array Value) (t : TypeId) (cs : List Value)
    (hu : P.underlying dT = some (.slice elem)) (hs : (P.info? elem).map (·.size) = some k)
    (hg : w.heap[g]? = some (.cells cur t (0, 0))) (hq : Nat.min sLen dLen = q) (hn : cs.length = q * k)
    (hsrc : ∀ j v, cs[j]? = some v → w.cell? (a.add j) = some v) (hfit : o + cs.length ≤ cur.size) (h1 : ∀ v ∈ cs, v.oneCell' = true) :
    (Builtin.copy_ #[dT, sT] ty #[.slice (some ⟨g, o, none⟩) dLen dCap, .slice (some a) sLen sCap]).run P w =
      .ok (goInt q) (w.setRow g (cur.toList.take o ++ cs ++ cur.toList.drop (o + cs.length)).toArray) := by
  have hl := run_loadCells_list (P := P) w a cs hsrc
  have hst := run_storeCells_at P g o t cs 0 cur w hg (by simpa using hfit) h1
  cases hq' : P.info? elem with
  | none => simp [hq'] at hs
  | some i =>
    have hi : i.size = k := by simpa [hq'] using hs
    simp [Builtin.copy_, run_underlying hu, Builtin.lenOf, Builtin.firstCells, sizeOf, typeInfo, hq', hi, hq, ← hn, hl, hst]

theorem run_overlaps_b {P : Program} (w : World) (tS tR e : TypeId) (ht : P.underlying tS = some (.slice e)) (size : Nat) (hz : ∀ w, (Go.sizeOf e).run P w = .ok size w)
    (a b : Addr) (la ca lb cb : Nat) (hne : a.block ≠ b.block) (tA tB : TypeId) (kA kB : Nat)
    (hsa : w.shape? a.block = some (tA, kA + 1)) (hsb : w.shape? b.block = some (tB, kB + 1)) (hfb : w.frozen? b = false) (hfe : w.frozen? { block := b.block, off := kB + 1 } = false) :
    (Extern.SlicesOverlaps.overlaps #[tS, tS] #[tR] #[.slice (some a) la ca, .slice (some b) lb cb]).run P w = .ok (.bool false) w := by
  have hnb : (a.block != b.block) = true := by simpa using hne
  have hnb' : (a.block == b.block) = false := by simpa using hne
  change Sem.run P (α := Value) (do
    let some t := (#[tS, tS] : Array TypeId)[0]? | stuck "slices.overlaps: no parameter types"
    let .slice elem ← underlying t | stuck "slices.overlaps: slice type expected"
    let size ← sizeOf elem
    match (some a : Option Addr), (some b : Option Addr) with
    | some a, some b =>
      if la = 0 ∨ lb = 0 ∨ size = 0 then pure (Value.bool false)
      else if a.block != b.block && (← frozen a) && (← frozen b) then unsupported .addressObserved
      else do
        if a.block != b.block then do
          noView a; noView b
          if ← mayBeOne a b then return Value.bool ((← choose (.extern "sameAddr.stringBytes" 2)) == 1)
        pure (Value.bool (a.block == b.block && a.off < b.off + lb * size && b.off < a.off + la * size))
    | _, _ => pure (Value.bool false)) w = _
  by_cases h0 : la = 0 ∨ lb = 0 ∨ size = 0
  · simp [run_underlying ht, hz, h0]
  · cases hfa : w.frozen? a <;> cases hfa2 : w.frozen? { block := a.block, off := kA + 1 } <;>
      simp [run_underlying ht, hz, h0, hnb, hnb', frozen, noView, viewAt, mayBeOne, stringish, shape, Sem.run, hsa, hsb, hfb, hfe, hfa, hfa2]

theorem alloc_new_at (w : World) (o : Obj) : (w.alloc o).heap[w.heap.size]? = some o := heap_alloc_new w o

theorem append_ty {P : Program} (ts : Array TypeId) (ty : TypeId) (args : Array Value) (w : World) : (Builtin.append_ ts ty args).run P w = (Builtin.append_ ts 0 args).run P w := rfl
theorem append_types {P : Program} {t u e e' : TypeId} (ht : P.underlying t = some (.slice e)) (hu : P.underlying u = some (.slice e')) (ty : TypeId) (args : Array Value) (w : World) :
    (Builtin.append_ #[t, u] ty args).run P w = (Builtin.append_ #[t, t] ty args).run P w := by
  cases h0 : args[0]? with
  | none => simp [Builtin.append_, h0]
  | some s =>
    cases h1 : args[1]? with
    | none => simp [Builtin.append_, h0, h1]
    | some x => cases s <;> simp [Builtin.append_, h0, h1, run_underlying ht, run_underlying hu]

/-- What Insert leaves in a row: the pieces. -/
theorem room_cells {cur : List Value} {n i : Nat} {c0 c1 : Value} (hi : i < n) (hl : (n + 1) * 2 ≤ cur.length) :
    let mid := cur.take ((i + 1) * 2) ++ (cur.drop (i * 2)).take ((n - i) * 2) ++ cur.drop ((i + 1) * 2 + (n - i) * 2)
    (mid.take (i * 2) ++ [c0, c1] ++ mid.drop (i * 2 + 2)).take ((n + 1) * 2) = (cur.take (n * 2)).take (i * 2) ++ [c0, c1] ++ (cur.take (n * 2)).drop (i * 2) := by
  intro mid
  have hm : mid = cur.take ((i + 1) * 2) ++ (cur.drop (i * 2)).take ((n - i) * 2) ++ cur.drop ((i + 1) * 2 + (n - i) * 2) := rfl
  have hml : mid.length = cur.length := by rw [hm]; simp; omega
  have h1 : (cur.take ((i + 1) * 2)).length = (i + 1) * 2 := by simp; omega
  have h2 : ((cur.drop (i * 2)).take ((n - i) * 2)).length = (n - i) * 2 := by simp; omega
  have e1 : mid.take (i * 2) = cur.take (i * 2) := by
    rw [hm, List.append_assoc, List.take_append_of_le_length (by rw [h1]; omega), List.take_take, Nat.min_eq_left (by omega)]
  have e2 : mid.drop (i * 2 + 2) = (cur.drop (i * 2)).take ((n - i) * 2) ++ cur.drop ((i + 1) * 2 + (n - i) * 2) := by
    rw [hm, List.append_assoc, List.drop_append_of_le_length (by rw [h1]; omega), List.drop_eq_nil_of_le (by rw [h1]; omega), List.nil_append]
  rw [e1, e2, List.take_take, Nat.min_eq_left (show i * 2 ≤ n * 2 by omega), List.drop_take]
  have h3 : (cur.take (i * 2)).length = i * 2 := by simp; omega
  rw [List.take_append, List.take_of_length_le (by simp; omega)]
  congr 1
  rw [List.take_append_of_le_length (by simp; omega), List.take_of_length_le (by simp; omega)]
  congr 1
  omega

theorem shape_of {w : World} {ad : Addr} {c : Value} (h : w.cell? (ad.add 0) = some c) : ∃ t k, w.shape? ad.block = some (t, k + 1) := by
  rw [AX.add_zero] at h
  unfold World.cell? at h
  unfold World.shape?
  split at h
  · next cs e fr hh =>
    split at h
    · cases h
    · have := (Array.getElem?_eq_some_iff.1 h).1
      exact ⟨e, cs.size - 1, by simp; omega⟩
  · cases h

set_option maxHeartbeats 4000000 in
set_option maxRecDepth 100000 in
theorem insert_room (g n cap i : Nat) (ad : Addr) (cp : Nat) (w : World) (cur : Array Value) (c0 c1 : Value) (hg : w.heap[g]? = some (.cells cur 59 (0, 0))) (hsz : cur.size = cap * 2) (hi : i < n) (hn : n ≤ 268435456) (hc : n + 1 ≤ cap) (hcm : cap ≤ maxLen)
    (had : ad.block ≠ g) (h0 : w.cell? (ad.add 0) = some c0) (h1 : w.cell? (ad.add 1) = some c1) (hone : ∀ v ∈ cur.toList.take (n * 2), v.oneCell' = true) (hc0 : c0.oneCell' = true) (hc1 : c1.oneCell' = true) :
    Calls Tryz.prog 50 #[.slice (some ⟨g, 0, none⟩) n cap, .int .i64 (i : Int), .slice (some ad) 1 cp] w fun e w' =>
      e = .returned (.slice (some ⟨g, 0, none⟩) (n + 1) cap) ∧ ∃ m1 cs', w' = (w.drew.setRow g m1).setRow g cs' ∧ cs'.size = cap * 2 ∧ cs'.toList.take ((n + 1) * 2) = (cur.toList.take (n * 2)).take (i * 2) ++ [c0, c1] ++ (cur.toList.take (n * 2)).drop (i * 2) := by
  have mixed := mixed_ok
  have hz1 : ¬ ((1 : Int) = 0) := by omega
  have hz2 : ¬ ((i : Int) = (n : Int)) := by omega
  have hz3 : ¬ ((cap : Int) < (n : Int) + 1) := by omega
  have hb2 : ¬ (cap = i + 1) := by omega
  have hb4 : ¬ (cap = i) := by omega
  have hin : i ≤ n := by omega
  have hw1 : IntKind.i64.wrap ((i : Int) + 1) = (i : Int) + 1 := by rw [IntKind.wrap_i64]; omega
  have hb1 : (0 : Int) ≤ (i : Int) + 1 := by omega
  have htn : ((i : Int) + 1).toNat = i + 1 := by omega
  have hb3 : (i : Int) ≤ (n : Int) + 1 := by omega
  have hov : ∀ lb cb, (callFunc 66 #[.slice (some ad) 1 cp, .slice (some ⟨g, (i + 1) * 2, none⟩) lb cb]).run Tryz.prog w = .ok (.value (.bool false)) w := fun lb cb => by
    obtain ⟨tA, kA, hsa⟩ := shape_of h0
    have hsb : w.shape? g = some (59, (cap * 2 - 1) + 1) := by
      simp [World.shape?, hg, hsz]; omega
    rw [run_callFunc_extern Tryz.func66 (by kernel_rfl) (by kernel_rfl) (by kernel_rfl) (e := Extern.SlicesOverlaps.overlaps #[30, 30] #[4]) (by kernel_rfl),
      run_overlaps_b w 30 4 59 Tryz.underlying30 2 Tryz.sizeOf59 ad ⟨g, (i + 1) * 2, none⟩ 1 cp lb cb had tA 59 kA (cap * 2 - 1) hsa hsb (by simp [World.frozen?, hg]) (by simp [World.frozen?, hg])]
    rfl
  have hin2 : (Tryz.prog.info? 59).map (·.size) = some 2 := by kernel_rfl
  have hT : Tryz.prog.underlying 30 = some (.slice 59) := Tryz.underlying30
  have hcl : (n + 1) * 2 ≤ cur.size := by rw [hsz]; exact Nat.mul_le_mul_right 2 hc
  have hgd : w.drew.heap[g]? = some (.cells cur 59 (0, 0)) := hg
  have htl : ((cur.toList.drop (i * 2)).take ((n - i) * 2)).length = (n - i) * 2 := by simp; omega
  have hcp1 : ∀ ty dc sc, (Builtin.copy_ #[30, 30] ty #[.slice (some ⟨g, (i + 1) * 2, none⟩) (n - i) dc, .slice (some ⟨g, i * 2, none⟩) (n + 1 - i) sc]).run Tryz.prog w.drew =
      .ok (goInt (n - i : Nat)) (w.drew.setRow g (cur.toList.take ((i + 1) * 2) ++ (cur.toList.drop (i * 2)).take ((n - i) * 2) ++ cur.toList.drop ((i + 1) * 2 + (n - i) * 2)).toArray) := fun ty dc sc => by
    have h := run_copy_k (P := Tryz.prog) w.drew 30 30 ty 59 2 g ((i + 1) * 2) (n - i) dc ⟨g, i * 2, none⟩ (n + 1 - i) sc (n - i) cur 59 ((cur.toList.drop (i * 2)).take ((n - i) * 2)) hT hin2 hgd
      (Nat.min_eq_right (by omega)) htl (fun j v hj => by
        rw [List.getElem?_take] at hj
        split at hj
        · rw [List.getElem?_drop] at hj
          rw [Addr.add_lit]
          simp [World.cell?, hgd]
          simpa using hj
        · cases hj) (by rw [htl]; omega) (fun v hv => ?_)
    · rw [htl] at h
      exact h
    · obtain ⟨j, hj⟩ := List.getElem?_of_mem hv
      rw [List.getElem?_take] at hj
      split at hj
      · rw [List.getElem?_drop] at hj
        refine hone v (List.mem_of_getElem? (i := i * 2 + j) ?_)
        rw [List.getElem?_take, if_pos (by omega)]; exact hj
      · cases hj
  generalize hmid : cur.toList.take ((i + 1) * 2) ++ (cur.toList.drop (i * 2)).take ((n - i) * 2) ++ cur.toList.drop ((i + 1) * 2 + (n - i) * 2) = mid at hcp1
  have hml : mid.length = cur.size := by rw [← hmid]; simp; omega
  have hg1 : (w.drew.setRow g mid.toArray).heap[g]? = some (.cells mid.toArray 59 (0, 0)) := setRow_heap _ _ _ _ _ _ hgd
  have hadc : ∀ j v, [c0, c1][j]? = some v → (w.drew.setRow g mid.toArray).cell? (ad.add j) = some v := fun j v hj => by
    have hk : ∀ q, (w.drew.setRow g mid.toArray).cell? (ad.add q) = w.cell? (ad.add q) := fun q => by
      have hb : (ad.add q).block = ad.block := add_block ad q
      simp only [World.cell?, hb]
      rw [setRow_other _ _ _ _ had]
      rfl
    match j, hj with
    | 0, hj => simp at hj; subst hj; rw [hk]; exact h0
    | 1, hj => simp at hj; subst hj; rw [hk]; exact h1
  have hcp2 : ∀ ty dc, (Builtin.copy_ #[30, 30] ty #[.slice (some ⟨g, i * 2, none⟩) (n + 1 - i) dc, .slice (some ad) 1 cp]).run Tryz.prog (w.drew.setRow g mid.toArray) =
      .ok (goInt (1 : Nat)) ((w.drew.setRow g mid.toArray).setRow g (mid.take (i * 2) ++ [c0, c1] ++ mid.drop (i * 2 + 2)).toArray) := fun ty dc => by
    have h := run_copy_k (P := Tryz.prog) (w.drew.setRow g mid.toArray) 30 30 ty 59 2 g (i * 2) (n + 1 - i) dc ad 1 cp 1 mid.toArray 59 [c0, c1] hT hin2 hg1
      (Nat.min_eq_left (by omega)) rfl hadc (by simp; omega) (by simp [hc0, hc1])
    simpa using h
  go_enter Tryz.func50, Tryz.ntmps50
  go_wp2_with (simp only [hov])
  go_region_law_o (refine step_copy_runI rfl _ _ 30 30 rfl _ _ (by simp [Act.eval, Act.put]) (by simp [Act.eval, Act.put]) (hcp1 _ _ _) ?_)
  go_wp2_with (at_builtin; refine wpList_copy_runI _ rfl _ _ 30 30 rfl _ _ rfl rfl (hcp2 _ _) ?_)
  go_ret
  refine ⟨rfl, _, _, rfl, by simp; omega, ?_⟩
  have := room_cells (cur := cur.toList) (n := n) (i := i) (c0 := c0) (c1 := c1) hi (by simpa using hcl)
  rw [hmid] at this
  simpa using this

/-- What Insert leaves in a new row. -/
theorem grow_cells {xs zs : List Value} {n i : Nat} {c0 c1 : Value} (hi : i < n) (hl : xs.length = n * 2) (hz : (n + 1 - i) * 2 ≤ zs.length) :
    let row := xs.take (i * 2) ++ zs
    let mid := row.take (i * 2) ++ [c0, c1] ++ row.drop (i * 2 + 2)
    (mid.take ((i + 1) * 2) ++ xs.drop (i * 2) ++ mid.drop ((i + 1) * 2 + (n - i) * 2)).take ((n + 1) * 2) = xs.take (i * 2) ++ [c0, c1] ++ xs.drop (i * 2) := by
  intro row mid
  have h3 : (xs.take (i * 2)).length = i * 2 := by simp; omega
  have hr : row.take (i * 2) = xs.take (i * 2) := by
    show (xs.take (i * 2) ++ zs).take (i * 2) = _
    rw [List.take_append_of_le_length (by omega), List.take_of_length_le (by omega)]
  have hm : mid.take ((i + 1) * 2) = xs.take (i * 2) ++ [c0, c1] := by
    show (row.take (i * 2) ++ [c0, c1] ++ row.drop (i * 2 + 2)).take ((i + 1) * 2) = _
    rw [hr, List.take_append_of_le_length (by simp; omega), List.take_of_length_le (by simp; omega)]
  rw [hm, List.take_append_of_le_length (by simp; omega), List.take_of_length_le (by simp; omega)]

set_option maxHeartbeats 4000000 in
set_option maxRecDepth 100000 in
theorem insert_grow (g n cap i : Nat) (ad : Addr) (cp : Nat) (w : World) (cur : Array Value) (c0 c1 : Value) (hg : w.heap[g]? = some (.cells cur 59 (0, 0))) (hsz : cur.size = cap * 2) (hi : i < n) (hn : n ≤ 268435456) (hnc : n ≤ cap) (hc : cap < n + 1) (hcm : cap ≤ maxLen)
    (hadw : ad.block < w.heap.size) (h0 : w.cell? (ad.add 0) = some c0) (h1 : w.cell? (ad.add 1) = some c1) (hone : ∀ v ∈ cur.toList.take (n * 2), v.oneCell' = true) (hc0 : c0.oneCell' = true) (hc1 : c1.oneCell' = true) :
    Calls Tryz.prog 50 #[.slice (some ⟨g, 0, none⟩) n cap, .int .i64 (i : Int), .slice (some ad) 1 cp] w fun e w' =>
      ∃ G, e = .returned (.slice (some ⟨w.heap.size, 0, none⟩) (n + 1) G) ∧ n + 1 ≤ G ∧ G ≤ maxLen ∧ Below w.heap.size w w' ∧ ∃ cs', w'.heap[w.heap.size]? = some (.cells cs' 59 (0, 0)) ∧ cs'.size = G * 2 ∧
        cs'.toList.take ((n + 1) * 2) = (cur.toList.take (n * 2)).take (i * 2) ++ [c0, c1] ++ (cur.toList.take (n * 2)).drop (i * 2) := by
  have mixed := mixed_ok
  have hz1 : ¬ ((1 : Int) = 0) := by omega
  have hz2 : ¬ ((i : Int) = (n : Int)) := by omega
  have hz3 : (cap : Int) < (n : Int) + 1 := by omega
  have hin : i ≤ n := by omega
  have hw1 : IntKind.i64.wrap ((i : Int) + 1) = (i : Int) + 1 := by rw [IntKind.wrap_i64]; omega
  have hb1 : (0 : Int) ≤ (i : Int) + 1 := by omega
  have htn : ((i : Int) + 1).toNat = i + 1 := by omega
  have hb3 : (i : Int) ≤ (n : Int) := by omega
  have hci : ¬ (cap = i) := by omega
  have hin2 : (Tryz.prog.info? 59).map (·.size) = some 2 := by kernel_rfl
  have hT : Tryz.prog.underlying 30 = some (.slice 59) := Tryz.underlying30
  have hcl : n * 2 ≤ cur.size := by rw [hsz]; exact Nat.mul_le_mul_right 2 hnc
  have hgw : g < w.heap.size := by
    rcases Nat.lt_or_ge g w.heap.size with h | h
    · exact h
    · rw [Array.getElem?_eq_none h] at hg; cases hg
  generalize hxs : cur.toList.take (n * 2) = xs at hone
  have hxl : xs.length = n * 2 := by rw [← hxs]; simp; omega
  have hcell : ∀ (W : World), W.heap[g]? = w.heap[g]? → ∀ j v, xs[j]? = some v → W.cell? ⟨g, j, none⟩ = some v := fun W hW j v hj => by
    rw [← hxs, List.getElem?_take] at hj
    split at hj
    · simp [World.cell?, hW, hg]
      simpa using hj
    · cases hj
  have htb : ∃ ti, tget tbl 59 = some ti ∧ ti.n = 2 ∧ ti.bytes = 40 ∧ ti.zero = [.string ⟨#[]⟩, .slice none 0 0] := ⟨_, rfl, rfl, rfl, rfl⟩
  obtain ⟨ti, ht1, ht2, ht3, ht4⟩ := htb
  obtain ⟨i0, hi0, hzs, hzb, z, hz0, hzc⟩ := (tbl_ok _ _ ht1).info
  rw [ht2] at hzs
  rw [ht3] at hzb
  rw [ht4] at hzc
  have hzz : z.cells.size = 2 := by rw [← Array.length_toList, hzc]; rfl
  have hold : (Builtin.firstCells i0.size i (.slice (some ⟨g, 0, none⟩) i cap)).run Tryz.prog w.drew = .ok (xs.take (i * 2)).toArray w.drew := by
    rw [hzs]
    exact run_firstCells_some w.drew 2 i ⟨g, 0, none⟩ i cap (xs.take (i * 2)) (by rw [List.length_take]; omega) (fun j v hj => by
      rw [Addr.add_lit, Nat.zero_add]
      rw [List.getElem?_take] at hj
      split at hj
      · exact hcell w.drew rfl j v hj
      · cases hj)
  obtain ⟨G, hG⟩ : ∃ G, G = grownCap w (n + 1) cap 59 := ⟨_, rfl⟩
  have hGn : n + 1 ≤ G := by rw [hG]; exact grownCap_ge w _ _ _
  have hGm : G ≤ maxLen := by rw [hG]; exact grownCap_le_maxLen w (n + 1) cap 59 (by unfold maxLen; omega)
  have hG63 : G ≤ 9223372036854775807 := by unfold maxLen at hGm; omega
  obtain ⟨zs, hzs2⟩ : ∃ zs : Array Value, zs = Builtin.zeroCells z.cells (n + 1 - i) ++ Builtin.zeroCells z.cells (G - (n + 1)) := ⟨_, rfl⟩
  have hzl : zs.size = (G - i) * 2 := by rw [hzs2]; simp [size_zeroCells, hzz]; omega
  obtain ⟨ROW, hROW⟩ : ∃ ROW : Array Value, ROW = (xs.take (i * 2)).toArray ++ zs := ⟨_, rfl⟩
  have hRl : ROW.size = G * 2 := by rw [hROW]; simp [hzl]; omega
  have hrz : ∀ ty, (Builtin.append_ #[30, 3] ty #[.slice (some ⟨g, 0, none⟩) i cap, .int .i64 ((n : Int) + 1 - (i : Int))]).run Tryz.prog w =
      .ok (.slice (some ⟨w.heap.size, 0, none⟩) (n + 1) G) (w.drew.alloc (.cells ROW 59)) := fun ty => by
    have h := Lib.run_append_grow_zeros (P := Tryz.prog) w 30 3 ty 59 i0 z .i64 .i64 hT Tryz.underlying3 hi0 hz0 (some ⟨g, 0, none⟩) i cap (xs.take (i * 2)) hold (n + 1 - i) (by omega) (by omega) (by omega) (by omega) (by rw [hzb]; omega)
      (by rw [hzb, show i + (n + 1 - i) = n + 1 by omega]; exact growslice_fits hc (by omega))
    rw [show i + (n + 1 - i) = n + 1 by omega, ← hG, Array.append_assoc, ← hzs2, ← hROW] at h
    rw [show (n : Int) + 1 - (i : Int) = ((n + 1 - i : Nat) : Int) by omega]
    exact h
  have hGi : ¬ (G = i) := by omega
  have hGim : ¬ (G = i + 1) := by omega
  have hgs : ¬ w.heap.size = g := by omega
  obtain ⟨mid, hmid⟩ : ∃ mid : List Value, mid = ROW.toList.take (i * 2) ++ [c0, c1] ++ ROW.toList.drop (i * 2 + 2) := ⟨_, rfl⟩
  have hml : mid.length = G * 2 := by rw [hmid]; simp; omega
  obtain ⟨fin, hfin⟩ : ∃ fin : List Value, fin = mid.take ((i + 1) * 2) ++ xs.drop (i * 2) ++ mid.drop ((i + 1) * 2 + (n - i) * 2) := ⟨_, rfl⟩
  have hfl : fin.length = G * 2 := by rw [hfin]; simp; omega
  have hN : (w.alloc (.cells ROW 59)).heap[w.heap.size]? = some (.cells ROW 59 (0, 0)) := alloc_new_at w _
  have hadc : ∀ (W : World), W.heap = (w.alloc (.cells ROW 59)).heap → ∀ j v, [c0, c1][j]? = some v → W.cell? (ad.add j) = some v := fun W hW j v hj => by
    have hk : ∀ q, W.cell? (ad.add q) = w.cell? (ad.add q) := fun q => by
      have hb : (ad.add q).block = ad.block := add_block ad q
      simp only [World.cell?, hb, hW]
      rw [Below.heap_alloc w _ _ hadw]
    match j, hj with
    | 0, hj => simp at hj; subst hj; rw [hk]; exact h0
    | 1, hj => simp at hj; subst hj; rw [hk]; exact h1
  have hcpA : ∀ (W : World), W.heap = (w.alloc (.cells ROW 59)).heap → ∀ ty dc, (Builtin.copy_ #[30, 30] ty #[.slice (some ⟨w.heap.size, i * 2, none⟩) (n + 1 - i) dc, .slice (some ad) 1 cp]).run Tryz.prog W =
      .ok (goInt (1 : Nat)) (W.setRow w.heap.size mid.toArray) := fun W hW ty dc => by
    have h := run_copy_k (P := Tryz.prog) W 30 30 ty 59 2 w.heap.size (i * 2) (n + 1 - i) dc ad 1 cp 1 ROW 59 [c0, c1] hT hin2 (by rw [hW]; exact hN)
      (Nat.min_eq_left (by omega)) rfl (hadc W hW) (by simp; omega) (by simp [hc0, hc1])
    rw [hmid]
    simpa using h
  have hdl : (xs.drop (i * 2)).length = (n - i) * 2 := by rw [List.length_drop, hxl]; omega
  have hcpB : ∀ (W : World), W.heap[w.heap.size]? = some (.cells mid.toArray 59 (0, 0)) → W.heap[g]? = w.heap[g]? → ∀ ty dc sc, (Builtin.copy_ #[30, 30] ty #[.slice (some ⟨w.heap.size, (i + 1) * 2, none⟩) (n - i) dc, .slice (some ⟨g, i * 2, none⟩) (n - i) sc]).run Tryz.prog W =
      .ok (goInt (n - i : Nat)) (W.setRow w.heap.size fin.toArray) := fun W hW hWg ty dc sc => by
    have h := run_copy_k (P := Tryz.prog) W 30 30 ty 59 2 w.heap.size ((i + 1) * 2) (n - i) dc ⟨g, i * 2, none⟩ (n - i) sc (n - i) mid.toArray 59 (xs.drop (i * 2)) hT hin2 hW
      (Nat.min_self _) hdl (fun j v hj => by
        rw [Addr.add_lit]
        rw [List.getElem?_drop] at hj
        exact hcell W hWg _ v hj) (by rw [hdl]; simp; omega) (fun v hv => hone v (List.mem_of_mem_drop hv))
    rw [hdl] at h
    rw [hfin]
    simpa using h
  have hE : ((w.alloc (.cells ROW 59)).drew).heap = (w.alloc (.cells ROW 59)).heap := rfl
  have hB1 : ∀ (W : World), W.heap = (w.alloc (.cells ROW 59)).heap → (W.setRow w.heap.size mid.toArray).drew.heap[w.heap.size]? = some (.cells mid.toArray 59 (0, 0)) := fun W hW => setRow_heap W _ _ _ _ _ (by rw [hW]; exact hN)
  have hB2 : ∀ (W : World), W.heap = (w.alloc (.cells ROW 59)).heap → (W.setRow w.heap.size mid.toArray).drew.heap[g]? = w.heap[g]? := fun W hW => by
    show (W.setRow w.heap.size mid.toArray).heap[g]? = _
    rw [setRow_other _ _ _ _ (by omega), hW]
    exact Below.heap_alloc w _ _ hgw
  have hlast : fin.take ((n + 1) * 2) = xs.take (i * 2) ++ [c0, c1] ++ xs.drop (i * 2) := by
    have h := grow_cells (xs := xs) (zs := zs.toList) (n := n) (i := i) (c0 := c0) (c1 := c1) hi hxl (by rw [Array.length_toList, hzl]; exact Nat.mul_le_mul_right 2 (by omega))
    rw [hfin, hmid, hROW]
    simpa using h
  clear hzs2 hROW hmid hfin hG
  go_enter Tryz.func50, Tryz.ntmps50
  go_wp2_with (first
    | (at_builtin; refine Lib.wpList_append_run _ rfl _ _ _ _ rfl _ _ rfl rfl _ _ (hrz _) ?_)
    | (at_builtin; refine wpList_copy_runI _ rfl _ _ 30 30 rfl _ _ rfl rfl (hcpA _ rfl _ _) ?_))
  go_region_law_o (refine step_copy_runI rfl _ _ 30 30 rfl (.slice (some ⟨w.heap.size, (i + 1) * 2, none⟩) (n - i) (G - (i + 1))) (.slice (some ⟨g, i * 2, none⟩) (n - i) (cap - i)) (by simp [Act.eval, Act.put]) (by simp [Act.eval, Act.put]) (hcpB ((w.alloc (.cells ROW 59)).drew.setRow w.heap.size mid.toArray).drew (hB1 _ hE) (hB2 _ hE) _ _ _) ?_)
  go_wp2
  go_ret
  refine ⟨G, rfl, hGn, hGm, ⟨rfl, rfl, rfl, by simp [setRow_size], fun k hk => ?_⟩, fin.toArray, setRow_heap _ _ _ _ _ _ (hB1 _ hE), by simp [hfl], by simpa using hlast⟩
  rw [setRow_other _ _ _ _ (by omega)]
  show ((w.alloc (.cells ROW 59)).drew.setRow w.heap.size mid.toArray).heap[k]? = _
  rw [setRow_other _ _ _ _ (by omega)]
  exact Below.heap_alloc w _ _ hk

set_option maxHeartbeats 4000000 in
set_option maxRecDepth 100000 in
theorem insert_end (v : Value) (n : Nat) (xs : List Value) (ad : Addr) (cp : Nat) (w : World) (c0 c1 : Value) (hown : w.ownsRow 0 59 2 v n xs) (hn : n ≤ 268435456)
    (h0 : w.cell? (ad.add 0) = some c0) (h1 : w.cell? (ad.add 1) = some c1) (hc0 : c0.oneCell' = true) (hc1 : c1.oneCell' = true) :
    Calls Tryz.prog 50 #[v, .int .i64 (n : Int), .slice (some ad) 1 cp] w fun e w' =>
      ∃ v', e = .returned v' ∧ w'.ownsRow 0 59 2 v' (n + 1) (xs ++ [c0, c1]) ∧ w.grownBy w' v.ownBlock ∧ (v'.ownBlock = v.ownBlock ∨ v'.ownBlock = some w.heap.size) := by
  have mixed := mixed_ok
  have hz1 : ¬ ((1 : Int) = 0) := by omega
  have hT : Tryz.prog.underlying 30 = some (.slice 59) := Tryz.underlying30
  have htb : ∃ ti, tget tbl 59 = some ti ∧ ti.n = 2 ∧ ti.bytes = 40 ∧ ti.zero = [.string ⟨#[]⟩, .slice none 0 0] := ⟨_, rfl, rfl, rfl, rfl⟩
  obtain ⟨ti, ht1, ht2, ht3, ht4⟩ := htb
  obtain ⟨i0, hi0, hzs, hzb, z, hz0, hzc⟩ := (tbl_ok _ _ ht1).info
  rw [ht2] at hzs
  rw [ht3] at hzb
  rw [ht4] at hzc
  have hzz : z.cells.size = 2 := by rw [← Array.length_toList, hzc]; rfl
  have hnews : ∀ j u, [c0, c1][j]? = some u → w.cell? (ad.add j) = some u := fun j u hj => by
    match j, hj with
    | 0, hj => simp at hj; subst hj; exact h0
    | 1, hj => simp at hj; subst hj; exact h1
  have hone : ∀ u ∈ [c0, c1], u.oneCell' = true := by simp [hc0, hc1]
  obtain ⟨R, hR⟩ : ∃ R : Value → World → Prop, R = fun v' w' => w'.ownsRow 0 59 2 v' (n + 1) (xs ++ [c0, c1]) ∧ w.grownBy w' v.ownBlock ∧ (v'.ownBlock = v.ownBlock ∨ v'.ownBlock = some w.heap.size) := ⟨_, rfl⟩
  have hmk : ∀ v' w', w'.ownsRow 0 59 2 v' (n + 1) (xs ++ [c0, c1]) → w.grownBy w' v.ownBlock → (v'.ownBlock = v.ownBlock ∨ v'.ownBlock = some w.heap.size) → R v' w' := fun v' w' a b c => by rw [hR]; exact ⟨a, b, c⟩
  suffices h : Calls Tryz.prog 50 #[v, .int .i64 (n : Int), .slice (some ad) 1 cp] w fun e w' => ∃ v', e = .returned v' ∧ R v' w' by
    refine h.mono fun e w' => ?_
    rintro ⟨v', a, b⟩
    rw [hR] at b
    exact ⟨v', a, b⟩
  clear hR
  have hb : n + 1 ≤ maxLen := by unfold maxLen; omega
  have hv : (v = .slice none 0 0 ∧ n = 0) ∨ ∃ g cap, v = .slice (some ⟨g, 0, none⟩) n cap ∧ n ≤ cap := by
    rcases hown.2 with h | ⟨g, cap, cur, e, _, _, h, _⟩
    · exact .inl h
    · exact .inr ⟨g, cap, e, h⟩
  obtain ⟨v', w', hr, q1, q2, _, q4⟩ := run_append_own_at (P := Tryz.prog) w 0 30 0 59 i0 z 2 40 hT hi0 hz0 hzs hzb hzz (by decide) v n xs hown ad 1 cp [c0, c1] rfl hnews hone hb (by omega) (Nat.zero_le _)
  have hR := hmk v' w' q1 q2 q4
  have hap : ∀ ty, (Builtin.append_ #[30, 30] ty #[v, .slice (some ad) 1 cp]).run Tryz.prog w = .ok v' w' := fun ty => (append_types hT Tryz.underlying30 ty _ w).trans ((append_ty _ _ _ w).trans hr)
  clear hmk q1 q2 q4 hr hown hnews
  rcases hv with ⟨rfl, rfl⟩ | ⟨g, cap, rfl, hnc⟩
  · go_enter Tryz.func50, Tryz.ntmps50
    go_wp2_with (at_builtin; refine Lib.wpList_append_run _ rfl _ _ 30 30 rfl _ _ rfl rfl _ _ (hap _) ?_)
    go_ret
    exact ⟨_, rfl, hR⟩
  · go_enter Tryz.func50, Tryz.ntmps50
    go_wp2_with (at_builtin; refine Lib.wpList_append_run _ rfl _ _ 30 30 rfl _ _ rfl rfl _ _ (hap _) ?_)
    all_goals
      go_ret
      exact ⟨_, rfl, hR⟩

end Go.Proofs.YtjgbmdonhabmiaaGreatDoor

/-! AxIns -/
/-
  What Insert leaves, as rows of data.
-/
namespace Go.AX
open Go.RowKit

theorem getElem?_ins {α : Type} {l : List α} {m : Nat} {x : α} (hm : m ≤ l.length) (i : Nat) :
    (l.take m ++ x :: l.drop m)[i]? = if i < m then l[i]? else if i = m then some x else l[i - 1]? := by
  have hl : (l.take m).length = m := by simp; omega
  by_cases h1 : i < m
  · rw [if_pos h1, List.getElem?_append_left (by omega), List.getElem?_take, if_pos h1]
  · rw [if_neg h1, List.getElem?_append_right (by omega), hl]
    by_cases h2 : i = m
    · subst h2; simp
    · rw [if_neg h2]
      obtain ⟨j, rfl⟩ : ∃ j, i = m + (j + 1) := ⟨i - m - 1, by omega⟩
      rw [show m + (j + 1) - m = j + 1 by omega, List.getElem?_cons_succ, List.getElem?_drop]
      congr 1
theorem getElem?_ins2 {α : Type} {l : List α} {m n : Nat} {a b : α} (hl : l.length = n * 2) (hm : m ≤ n) (i j : Nat) (hj : j < 2) :
    (l.take (m * 2) ++ [a, b] ++ l.drop (m * 2))[i * 2 + j]? = if i < m then l[i * 2 + j]? else if i = m then [a, b][j]? else l[(i - 1) * 2 + j]? := by
  have hm2 : m * 2 ≤ n * 2 := Nat.mul_le_mul_right 2 hm
  have h1 : (l.take (m * 2)).length = m * 2 := by simp; omega
  rw [List.append_assoc]
  by_cases hi : i < m
  · have : (i + 1) * 2 ≤ m * 2 := Nat.mul_le_mul_right 2 hi
    rw [if_pos hi, List.getElem?_append_left (by omega), List.getElem?_take, if_pos (by omega)]
  · rw [if_neg hi, List.getElem?_append_right (by omega), h1]
    by_cases he : i = m
    · subst he
      rw [if_pos rfl, show i * 2 + j - i * 2 = j by omega, List.getElem?_append_left (by simpa using hj)]
    · rw [if_neg he]
      have : (m + 1) * 2 ≤ i * 2 := Nat.mul_le_mul_right 2 (by omega)
      rw [List.getElem?_append_right (by simp; omega), List.getElem?_drop]
      congr 1
      simp; omega

/-- Behind an Insert. -/
theorem rows_ins {w w' : World} {own : Nat → Prop} {v v' : Value} {e m : Nat} {rows : List (List D)} {xs : List Value} {c0 c1 : Value} {d0 d1 : D}
    (hm : m ≤ rows.length) (hb : BelowBut v w w') (hp : ∀ b, blk v' = some b → blk v = some b ∨ w.heap.size ≤ b)
    (hlen : xs.length = rows.length * 2) (hone : ∀ x ∈ xs, Value.oneCell' x = true) (hrl : ∀ r ∈ rows, r.length = 2)
    (hrd : ∀ (i j : Nat) (r : List D) (d : D) (x : Value), rows[i]? = some r → r[j]? = some d → xs[i * 2 + j]? = some x → Rd w (with1 own v) x d)
    (h0 : Rd w (with1 own v) c0 d0) (h1 : Rd w (with1 own v) c1 d1) (o0 : c0.oneCell' = true) (o1 : c1.oneCell' = true)
    (hown : w'.ownsRow 0 e 2 v' (rows.length + 1) (xs.take (m * 2) ++ [c0, c1] ++ xs.drop (m * 2))) :
    RowsAt w' 0 (with1 own v') e 2 v' (rows.take m ++ [d0, d1] :: rows.drop m) := by
  have hext : Ext (with1 own v) w w' := ⟨hb.size, fun b h1 h2 => hb.block b h1 fun h => h2 (.inr h)⟩
  have ho : ∀ b, with1 own v' b → with1 own v b ∨ w.heap.size ≤ b := by
    rintro b (h | h)
    · exact .inl (.inl h)
    · rcases hp b h with h | h
      · exact .inl (.inr h)
      · exact .inr h
  refine ⟨xs.take (m * 2) ++ [c0, c1] ++ xs.drop (m * 2), ?_, fun x hx => ?_, fun r hr => ?_, fun i j r d x hi hj hx => ?_⟩
  · have : (rows.take m ++ [d0, d1] :: rows.drop m).length = rows.length + 1 := by simp; omega
    rw [this]; exact hown
  · rcases List.mem_append.1 hx with hx | hx
    · rcases List.mem_append.1 hx with hx | hx
      · exact hone x (List.mem_of_mem_take hx)
      · simp at hx; rcases hx with rfl | rfl
        · exact o0
        · exact o1
    · exact hone x (List.mem_of_mem_drop hx)
  · rcases List.mem_append.1 hr with h | h
    · exact hrl r (List.mem_of_mem_take h)
    · rcases List.mem_cons.1 h with rfl | h
      · rfl
      · exact hrl r (List.mem_of_mem_drop h)
  · refine Rd.step hext ho ?_
    rw [getElem?_ins hm] at hi
    have hj2 : j < 2 := by
      have hjl := (List.getElem?_eq_some_iff.1 hj).1
      split at hi
      · rw [hrl r (List.mem_of_getElem? hi)] at hjl; exact hjl
      · split at hi
        · cases hi; simpa using hjl
        · rw [hrl r (List.mem_of_getElem? hi)] at hjl; exact hjl
    rw [getElem?_ins2 hlen hm i j hj2] at hx
    split at hi
    · next h => rw [if_pos h] at hx; exact hrd i j r d x hi hj hx
    · next h =>
      rw [if_neg h] at hx
      split at hi
      · next h' =>
        rw [if_pos h'] at hx
        cases hi
        match j, hj2, hj, hx with
        | 0, _, hj, hx => simp at hj hx; subst hj; subst hx; exact h0
        | 1, _, hj, hx => simp at hj hx; subst hj; subst hx; exact h1
      · next h' => rw [if_neg h'] at hx; exact hrd (i - 1) j r d x hi hj hx

/-- A slice of one element of two cells, read. -/
theorem rd_pair {w : World} {own : Nat → Prop} {v : Value} {d0 d1 : D} (h : Rd w own v (.sl 2 [[d0, d1]])) :
    ∃ ad cp c0 c1, v = .slice (some ad) 1 cp ∧ ¬ own ad.block ∧ ad.block < w.heap.size ∧ w.cell? (ad.add 0) = some c0 ∧ w.cell? (ad.add 1) = some c1 ∧
      c0.oneCell' = true ∧ c1.oneCell' = true ∧ Rd w own c0 d0 ∧ Rd w own c1 d1 := by
  cases h with
  | sl ad cap k rows f hb hs hcap hk hc h1 hr =>
    exact ⟨ad, cap, f 0 0, f 0 1, rfl, hb, hs, by simpa using hc 0 0 _ d0 rfl rfl, by simpa using hc 0 1 _ d1 rfl rfl, h1 0 0 _ d0 rfl rfl, h1 0 1 _ d1 rfl rfl, hr 0 0 _ d0 rfl rfl, hr 0 1 _ d1 rfl rfl⟩

end Go.AX

/-! G12 -/
/-
  Contract of the library's Insert, put together.
-/
namespace Go.Proofs.YtjgbmdonhabmiaaGreatDoor
open Go.AX Go.RF

theorem upd_insert (rows : List (List D)) (m : Nat) (d0 d1 : D) (hm : m ≤ rows.length) (hl : rows.length ≤ 268435456) :
    FnUpd Tryz.prog 50 59 2 rows [.d (dint m), .d (.sl 2 [[d0, d1]])] (rows.take m ++ [d0, d1] :: rows.drop m) := by
  refine ⟨⟨_, Tryz.func50, by kernel_rfl, by kernel_rfl⟩, fun w own v vs hown hR hsep ha => ?_⟩
  match vs, ha with
  | [v1, v2], ⟨h1, h2, _⟩ =>
    have e1 := rd_v h1
    subst e1
    obtain ⟨ad, cp, c0, c1, rfl, hnb, hadw, hc0, hc1, o0, o1, r0, r1⟩ := rd_pair h2
    obtain ⟨xs, hrow, hone, hrl, hrd⟩ := hR
    have hbv : blk v = v.ownBlock := blk_own hrow
    have hxl := hrow.1
    by_cases hmn : m = rows.length
    · subst hmn
      refine (insert_end v rows.length xs ad cp w c0 c1 hrow hl hc0 hc1 o0 o1).mono fun e w' => ?_
      rintro ⟨v', rfl, q1, q2, q3⟩
      have hp : ∀ b, blk v' = some b → blk v = some b ∨ w.heap.size ≤ b := fun b hb => by
        rw [blk_own q1] at hb
        rw [hbv]
        rcases q3 with h | h
        · rw [h] at hb; exact .inl hb
        · rw [h] at hb; cases hb; exact .inr (Nat.le_refl _)
      have hbb : BelowBut v w w' := ⟨q2.os, q2.tape, q2.output, q2.size, fun b hb hn => q2.block b hb fun h => hn (by rw [hbv, h])⟩
      refine ⟨v', rfl, hbb, hp, rows_ins (Nat.le_refl _) hbb hp hxl hone hrl hrd r0 r1 o0 o1 ?_⟩
      rw [List.take_of_length_le (by omega), List.drop_eq_nil_of_le (by omega), List.append_nil]
      exact q1
    · rcases hrow.2 with ⟨_, h0⟩ | ⟨g, cap, cur, rfl, _, hg, hnc, hcm, hsz, htk⟩
      · omega
      · have hadg : ad.block ≠ g := fun h => hnb (.inr (by rw [h]; rfl))
        by_cases hroom : rows.length + 1 ≤ cap
        · refine (insert_room g rows.length cap m ad cp w cur c0 c1 hg hsz (by omega) hl hroom hcm hadg hc0 hc1 (by rw [htk]; exact hone) o0 o1).mono fun e w' => ?_
          rintro ⟨rfl, m1, cs', rfl, q1, q2⟩
          have hp : ∀ b, blk (.slice (some ⟨g, 0, none⟩) (rows.length + 1) cap) = some b → blk (.slice (some ⟨g, 0, none⟩) rows.length cap) = some b ∨ w.heap.size ≤ b := fun b hb => .inl hb
          have hbb : BelowBut (.slice (some ⟨g, 0, none⟩) rows.length cap) w ((w.drew.setRow g m1).setRow g cs') := ⟨rfl, rfl, rfl, by simp [setRow_size], fun b hb hn => by
            have hbg : b ≠ g := fun h => hn (by rw [h]; rfl)
            rw [setRow_other _ _ _ _ hbg, setRow_other _ _ _ _ hbg]; rfl⟩
          refine ⟨_, rfl, hbb, hp, rows_ins hm hbb hp hxl hone hrl hrd r0 r1 o0 o1 ⟨by simp; omega, .inr ⟨g, cap, cs', rfl, Nat.zero_le _, setRow_heap _ _ _ _ _ _ (setRow_heap _ _ _ _ _ _ hg), hroom, hcm, q1, ?_⟩⟩⟩
          rw [q2, htk]
        · refine (insert_grow g rows.length cap m ad cp w cur c0 c1 hg hsz (by omega) hl hnc (by omega) hcm hadw hc0 hc1 (by rw [htk]; exact hone) o0 o1).mono fun e w' => ?_
          rintro ⟨G, rfl, q1, q2, hB, cs', q3, q4, q5⟩
          have hp : ∀ b, blk (.slice (some ⟨w.heap.size, 0, none⟩) (rows.length + 1) G) = some b → blk (.slice (some ⟨g, 0, none⟩) rows.length cap) = some b ∨ w.heap.size ≤ b := fun b hb => .inr (by cases hb; exact Nat.le_refl _)
          have hbb : BelowBut (.slice (some ⟨g, 0, none⟩) rows.length cap) w w' := ⟨hB.os, hB.tape, hB.output, hB.size, fun b hb _ => hB.block b hb⟩
          refine ⟨_, rfl, hbb, hp, rows_ins hm hbb hp hxl hone hrl hrd r0 r1 o0 o1 ⟨by simp; omega, .inr ⟨_, G, cs', rfl, Nat.zero_le _, q3, q1, q2, q4, ?_⟩⟩⟩
          rw [q5, htk]

end Go.Proofs.YtjgbmdonhabmiaaGreatDoor

/-! R2 -/
/-
  Contracts of the program's Get, Put, Drop and Round of rows.
-/
namespace Go.Proofs.YtjgbmdonhabmiaaGreatDoor
open Go.AX Go.RF Go.RowKit

set_option maxRecDepth 100000
set_option maxHeartbeats 8000000

/-! ### Rows in order: what a key has, given, taken -/
def putS (k : Str) (n : Int) : List Pair → List Pair
  | [] => [⟨k, n⟩]
  | p :: r => if p.key = k then ⟨k, n⟩ :: r else if slt p.key k = true then p :: putS k n r else ⟨k, n⟩ :: p :: r
def dropS (k : Str) : List Pair → List Pair
  | [] => []
  | p :: r => if p.key = k then r else p :: dropS k r

theorem putS_mem {k : Str} {n : Int} : ∀ {l : List Pair} {p : Pair}, p ∈ putS k n l → p ∈ l ∨ p = ⟨k, n⟩
  | [], p, h => by simp [putS] at h; exact .inr h
  | q :: l, p, h => by
    simp only [putS] at h
    split at h
    · rcases List.mem_cons.1 h with h | h
      · exact .inr h
      · exact .inl (List.mem_cons_of_mem _ h)
    · split at h
      · rcases List.mem_cons.1 h with h | h
        · exact .inl (h ▸ List.mem_cons_self ..)
        · rcases putS_mem h with h | h
          · exact .inl (List.mem_cons_of_mem _ h)
          · exact .inr h
      · rcases List.mem_cons.1 h with h | h
        · exact .inr h
        · exact .inl h
theorem dropS_sub {k : Str} : ∀ l : List Pair, (dropS k l).Sublist l
  | [] => List.Sublist.slnil
  | p :: l => by
    simp only [dropS]
    split
    · exact List.sublist_cons_self ..
    · exact (dropS_sub l).cons_cons _
theorem putS_srt {k : Str} {n : Int} : ∀ {l : List Pair}, Srt Pair.key l → Srt Pair.key (putS k n l)
  | [], _ => List.pairwise_singleton ..
  | c :: l, hs => by
    obtain ⟨h1, h2⟩ := List.pairwise_cons.1 hs
    simp only [putS]
    by_cases hk : c.key = k
    · rw [if_pos hk]
      exact List.pairwise_cons.2 ⟨fun d hd => by show slt k d.key = true; rw [← hk]; exact h1 d hd, h2⟩
    · rw [if_neg hk]
      split
      · next h3 =>
        refine List.pairwise_cons.2 ⟨fun d hd => ?_, putS_srt h2⟩
        rcases putS_mem hd with h | rfl
        · exact h1 d h
        · exact h3
      · next h3 =>
        have h4 : slt k c.key = true := by
          rcases slt_tri c.key k with h | h | h
          · exact absurd h h3
          · exact absurd h hk
          · exact h
        refine List.pairwise_cons.2 ⟨fun d hd => ?_, hs⟩
        rcases List.mem_cons.1 hd with rfl | hd
        · exact h4
        · exact slt_trans h4 (h1 d hd)
theorem dropS_srt {k : Str} {l : List Pair} (hs : Srt Pair.key l) : Srt Pair.key (dropS k l) := hs.sublist (dropS_sub l)
/-! ### The walks -/
end Go.Proofs.YtjgbmdonhabmiaaGreatDoor

/-! F1 -/
/-
  Contracts of the references' small functions on data: lists held against each other.
-/
namespace Go.Proofs.YtjgbmdonhabmiaaGreatDoor
open Go.AX Go.RF

set_option maxRecDepth 100000

theorem ok_SameInts (l r : List Int) (hl : l.length ≤ 1073741824) : FnOk Tryz.prog 12 [.d (encInts l), .d (encInts r)] (.one (dbool (allB (fun a b => decide (a = b)) l r))) := by
  refine fnOk_of tbl_ok mixed_ok Tryz.func12 rfl (by kernel_rfl) rfl rfl fun w0 own0 => ?_
  by_cases hlen : l.length = r.length
  ·
    repeat (first | ((with_reducible apply s1); exact rfl) | (with_reducible first | apply CW.seq | apply CW.block | apply CW.region | apply CW.draw | apply CW.skip | apply CW.exit | apply CW.ret | apply q_then | apply q_then_exit | apply q_then_ret | apply q_block | apply q_block_ret | apply q_block_hit | apply q_ret | apply q_end | apply q_loop_exit | apply q_loop_ret | apply q_loopT_exit | apply q_loopT_ret | apply RW.nil) | ((with_reducible apply s3); exact rfl; exact by_k) | ((with_reducible apply s2); exact rfl; exact by_k) | ((with_reducible apply s4); exact rfl) | ((with_reducible apply s5); (first | exact by_oa); exact by_g) | ((with_reducible apply CW.cond_t); exact rfl; exact by_ks) | ((with_reducible apply CW.cond_f); exact rfl; exact by_ks) | ((with_reducible apply q_block_miss); exact rfl) | (refine And.intro (show chk [] [] _ _ = true by kernel_rfl) ?_))
    refine CW.loop (fun k => [(.s 0, .av (.d (encInts l))), (.s 1, .av (.d (encInts r))), (.s 11, .av (.d (encInts l))), (.s 12, .av (.d (dint l.length))), (.s 13, .av (.d (dint k))), (.nx, .num 0)]) (agree (fun a b => decide (a = b)) l r) ?_ fun k hk => ?_
    ·
      exact by_less
    · rcases agree_case hlen hk with ⟨h1, h1', a, b, h2, h3, h4⟩ | ⟨h1, h2⟩ | ⟨h1, h2, a, b, h3, h4, h5⟩
      · replace h4 : a = b := by simpa using h4
        repeat (first | ((with_reducible apply s1); exact rfl) | (with_reducible first | apply CW.seq | apply CW.block | apply CW.region | apply CW.draw | apply CW.skip | apply CW.exit | apply CW.ret | apply q_then | apply q_then_exit | apply q_then_ret | apply q_block | apply q_block_ret | apply q_block_hit | apply q_ret | apply q_end | apply q_loop_exit | apply q_loop_ret | apply q_loopT_exit | apply q_loopT_ret | apply RW.nil) | ((with_reducible apply s3); exact rfl; exact by_k) | ((with_reducible apply s2); exact rfl; exact by_k) | ((with_reducible apply s4); exact rfl) | ((with_reducible apply s5); (first | exact by_oa); exact by_g) | ((with_reducible apply CW.cond_t); exact rfl; exact by_ks) | ((with_reducible apply CW.cond_f); exact rfl; exact by_ks) | ((with_reducible apply q_block_miss); exact rfl) | (refine And.intro (show chk [] [] _ _ = true by kernel_rfl) ?_))
        refine q_loop h1 ?_
        exact by_less
      ·
        repeat (first | ((with_reducible apply s1); exact rfl) | (with_reducible first | apply CW.seq | apply CW.block | apply CW.region | apply CW.draw | apply CW.skip | apply CW.exit | apply CW.ret | apply q_then | apply q_then_exit | apply q_then_ret | apply q_block | apply q_block_ret | apply q_block_hit | apply q_ret | apply q_end | apply q_loop_exit | apply q_loop_ret | apply q_loopT_exit | apply q_loopT_ret | apply RW.nil) | ((with_reducible apply s3); exact rfl; exact by_k) | ((with_reducible apply s2); exact rfl; exact by_k) | ((with_reducible apply s4); exact rfl) | ((with_reducible apply s5); (first | exact by_oa); exact by_g) | ((with_reducible apply CW.cond_t); exact rfl; exact by_ks) | ((with_reducible apply CW.cond_f); exact rfl; exact by_ks) | ((with_reducible apply q_block_miss); exact rfl) | (refine And.intro (show chk [] [] _ _ = true by kernel_rfl) ?_))
        exact .one (.tmp rfl (.one (.d (dle_bool h2.symm))))
      · replace h5 : ¬ a = b := by simpa using h5
        repeat (first | ((with_reducible apply s1); exact rfl) | (with_reducible first | apply CW.seq | apply CW.block | apply CW.region | apply CW.draw | apply CW.skip | apply CW.exit | apply CW.ret | apply q_then | apply q_then_exit | apply q_then_ret | apply q_block | apply q_block_ret | apply q_block_hit | apply q_ret | apply q_end | apply q_loop_exit | apply q_loop_ret | apply q_loopT_exit | apply q_loopT_ret | apply RW.nil) | ((with_reducible apply s3); exact rfl; exact by_k) | ((with_reducible apply s2); exact rfl; exact by_k) | ((with_reducible apply s4); exact rfl) | ((with_reducible apply s5); (first | exact by_oa); exact by_g) | ((with_reducible apply CW.cond_t); exact rfl; exact by_ks) | ((with_reducible apply CW.cond_f); exact rfl; exact by_ks) | ((with_reducible apply q_block_miss); exact rfl) | (refine And.intro (show chk [] [] _ _ = true by kernel_rfl) ?_))
        exact .one (.tmp rfl (.one (.d (dle_bool h2.symm))))
  ·
    repeat (first | ((with_reducible apply s1); exact rfl) | (with_reducible first | apply CW.seq | apply CW.block | apply CW.region | apply CW.draw | apply CW.skip | apply CW.exit | apply CW.ret | apply q_then | apply q_then_exit | apply q_then_ret | apply q_block | apply q_block_ret | apply q_block_hit | apply q_ret | apply q_end | apply q_loop_exit | apply q_loop_ret | apply q_loopT_exit | apply q_loopT_ret | apply RW.nil) | ((with_reducible apply s3); exact rfl; exact by_k) | ((with_reducible apply s2); exact rfl; exact by_k) | ((with_reducible apply s4); exact rfl) | ((with_reducible apply s5); (first | exact by_oa); exact by_g) | ((with_reducible apply CW.cond_t); exact rfl; exact by_ks) | ((with_reducible apply CW.cond_f); exact rfl; exact by_ks) | ((with_reducible apply q_block_miss); exact rfl) | (refine And.intro (show chk [] [] _ _ = true by kernel_rfl) ?_))
    refine .one (.tmp rfl (.one (.d (dle_bool ?_))))
    cases hb : allB (fun a b => decide (a = b)) l r
    · rfl
    · exact absurd (allB_len hb) hlen

theorem ok_SameTexts (l r : List Str) (hl : l.length ≤ 1073741824) : FnOk Tryz.prog 15 [.d (encStrs l), .d (encStrs r)] (.one (dbool (allB (fun a b => decide (a = b)) l r))) := by
  refine fnOk_of tbl_ok mixed_ok Tryz.func15 rfl (by kernel_rfl) rfl rfl fun w0 own0 => ?_
  by_cases hlen : l.length = r.length
  ·
    repeat (first | ((with_reducible apply s1); exact rfl) | (with_reducible first | apply CW.seq | apply CW.block | apply CW.region | apply CW.draw | apply CW.skip | apply CW.exit | apply CW.ret | apply q_then | apply q_then_exit | apply q_then_ret | apply q_block | apply q_block_ret | apply q_block_hit | apply q_ret | apply q_end | apply q_loop_exit | apply q_loop_ret | apply q_loopT_exit | apply q_loopT_ret | apply RW.nil) | ((with_reducible apply s3); exact rfl; exact by_k) | ((with_reducible apply s2); exact rfl; exact by_k) | ((with_reducible apply s4); exact rfl) | ((with_reducible apply s5); (first | exact by_oa); exact by_g) | ((with_reducible apply CW.cond_t); exact rfl; exact by_ks) | ((with_reducible apply CW.cond_f); exact rfl; exact by_ks) | ((with_reducible apply q_block_miss); exact rfl) | (refine And.intro (show chk [] [] _ _ = true by kernel_rfl) ?_))
    refine CW.loop (fun k => [(.s 0, .av (.d (encStrs l))), (.s 1, .av (.d (encStrs r))), (.s 11, .av (.d (encStrs l))), (.s 12, .av (.d (dint l.length))), (.s 13, .av (.d (dint k))), (.nx, .num 0)]) (agree (fun a b => decide (a = b)) l r) ?_ fun k hk => ?_
    ·
      exact by_less
    · rcases agree_case hlen hk with ⟨h1, h1', a, b, h2, h3, h4⟩ | ⟨h1, h2⟩ | ⟨h1, h2, a, b, h3, h4, h5⟩
      · replace h4 : a = b := by simpa using h4
        repeat (first | ((with_reducible apply s1); exact rfl) | (with_reducible first | apply CW.seq | apply CW.block | apply CW.region | apply CW.draw | apply CW.skip | apply CW.exit | apply CW.ret | apply q_then | apply q_then_exit | apply q_then_ret | apply q_block | apply q_block_ret | apply q_block_hit | apply q_ret | apply q_end | apply q_loop_exit | apply q_loop_ret | apply q_loopT_exit | apply q_loopT_ret | apply RW.nil) | ((with_reducible apply s3); exact rfl; exact by_k) | ((with_reducible apply s2); exact rfl; exact by_k) | ((with_reducible apply s4); exact rfl) | ((with_reducible apply s5); (first | exact by_oa); exact by_g) | ((with_reducible apply CW.cond_t); exact rfl; exact by_ks) | ((with_reducible apply CW.cond_f); exact rfl; exact by_ks) | ((with_reducible apply q_block_miss); exact rfl) | (refine And.intro (show chk [] [] _ _ = true by kernel_rfl) ?_))
        refine q_loop h1 ?_
        exact by_less
      ·
        repeat (first | ((with_reducible apply s1); exact rfl) | (with_reducible first | apply CW.seq | apply CW.block | apply CW.region | apply CW.draw | apply CW.skip | apply CW.exit | apply CW.ret | apply q_then | apply q_then_exit | apply q_then_ret | apply q_block | apply q_block_ret | apply q_block_hit | apply q_ret | apply q_end | apply q_loop_exit | apply q_loop_ret | apply q_loopT_exit | apply q_loopT_ret | apply RW.nil) | ((with_reducible apply s3); exact rfl; exact by_k) | ((with_reducible apply s2); exact rfl; exact by_k) | ((with_reducible apply s4); exact rfl) | ((with_reducible apply s5); (first | exact by_oa); exact by_g) | ((with_reducible apply CW.cond_t); exact rfl; exact by_ks) | ((with_reducible apply CW.cond_f); exact rfl; exact by_ks) | ((with_reducible apply q_block_miss); exact rfl) | (refine And.intro (show chk [] [] _ _ = true by kernel_rfl) ?_))
        exact .one (.tmp rfl (.one (.d (dle_bool h2.symm))))
      · replace h5 : ¬ a = b := by simpa using h5
        repeat (first | ((with_reducible apply s1); exact rfl) | (with_reducible first | apply CW.seq | apply CW.block | apply CW.region | apply CW.draw | apply CW.skip | apply CW.exit | apply CW.ret | apply q_then | apply q_then_exit | apply q_then_ret | apply q_block | apply q_block_ret | apply q_block_hit | apply q_ret | apply q_end | apply q_loop_exit | apply q_loop_ret | apply q_loopT_exit | apply q_loopT_ret | apply RW.nil) | ((with_reducible apply s3); exact rfl; exact by_k) | ((with_reducible apply s2); exact rfl; exact by_k) | ((with_reducible apply s4); exact rfl) | ((with_reducible apply s5); (first | exact by_oa); exact by_g) | ((with_reducible apply CW.cond_t); exact rfl; exact by_ks) | ((with_reducible apply CW.cond_f); exact rfl; exact by_ks) | ((with_reducible apply q_block_miss); exact rfl) | (refine And.intro (show chk [] [] _ _ = true by kernel_rfl) ?_))
        exact .one (.tmp rfl (.one (.d (dle_bool h2.symm))))
  ·
    repeat (first | ((with_reducible apply s1); exact rfl) | (with_reducible first | apply CW.seq | apply CW.block | apply CW.region | apply CW.draw | apply CW.skip | apply CW.exit | apply CW.ret | apply q_then | apply q_then_exit | apply q_then_ret | apply q_block | apply q_block_ret | apply q_block_hit | apply q_ret | apply q_end | apply q_loop_exit | apply q_loop_ret | apply q_loopT_exit | apply q_loopT_ret | apply RW.nil) | ((with_reducible apply s3); exact rfl; exact by_k) | ((with_reducible apply s2); exact rfl; exact by_k) | ((with_reducible apply s4); exact rfl) | ((with_reducible apply s5); (first | exact by_oa); exact by_g) | ((with_reducible apply CW.cond_t); exact rfl; exact by_ks) | ((with_reducible apply CW.cond_f); exact rfl; exact by_ks) | ((with_reducible apply q_block_miss); exact rfl) | (refine And.intro (show chk [] [] _ _ = true by kernel_rfl) ?_))
    refine .one (.tmp rfl (.one (.d (dle_bool ?_))))
    cases hb : allB (fun a b => decide (a = b)) l r
    · rfl
    · exact absurd (allB_len hb) hlen

end Go.Proofs.YtjgbmdonhabmiaaGreatDoor

/-! F6 -/
/-
  Contracts of the references' functions that hold lists of ends, deeds, chains against each other.
-/
namespace Go.Proofs.YtjgbmdonhabmiaaGreatDoor
open Go.AX Go.RF

set_option maxRecDepth 100000
set_option maxHeartbeats 4000000

theorem ok_sameEnds (l r : List Done) (hl : l.length ≤ 268435456) : FnOk Tryz.prog 21 [.d (encEnds l), .d (encEnds r)] (.one (dbool (allB (fun a b => decide (a = b)) l r))) := by
  refine fnOk_of tbl_ok mixed_ok Tryz.func21 rfl (by kernel_rfl) rfl rfl fun w0 own0 => ?_
  by_cases hlen : l.length = r.length
  ·
    repeat (first | ((with_reducible apply s1); exact rfl) | (with_reducible first | apply CW.seq | apply CW.block | apply CW.region | apply CW.draw | apply CW.skip | apply CW.exit | apply CW.ret | apply q_then | apply q_then_exit | apply q_then_ret | apply q_block | apply q_block_ret | apply q_block_hit | apply q_ret | apply q_end | apply q_loop_exit | apply q_loop_ret | apply q_loopT_exit | apply q_loopT_ret | apply RW.nil) | ((with_reducible apply s3); exact rfl; exact by_k) | ((with_reducible apply s2); exact rfl; exact by_k) | ((with_reducible apply s4); exact rfl) | ((with_reducible apply s5); (first | exact by_oa); exact by_g) | ((with_reducible apply CW.cond_t); exact rfl; exact by_ks) | ((with_reducible apply CW.cond_f); exact rfl; exact by_ks) | ((with_reducible apply q_block_miss); exact rfl) | (refine And.intro (show chk [] [] _ _ = true by kernel_rfl) ?_))
    refine CW.loop (fun k => [(.s 0, .av (.d (encEnds l))), (.s 1, .av (.d (encEnds r))), (.s 11, .av (.d (encEnds l))), (.s 12, .av (.d (dint l.length))), (.s 13, .av (.d (dint k))), (.nx, .num 0)]) (agree (fun a b => decide (a = b)) l r) ?_ fun k hk => ?_
    ·
      exact by_less
    · rcases agree_case hlen hk with ⟨h1, h1', a, b, h2, h3, h4⟩ | ⟨h1, h2⟩ | ⟨h1, h2, a, b, h3, h4, h5⟩
      · replace h4 : a = b := by simpa using h4
        repeat (first | ((with_reducible apply s1); exact rfl) | (with_reducible first | apply CW.seq | apply CW.block | apply CW.region | apply CW.draw | apply CW.skip | apply CW.exit | apply CW.ret | apply q_then | apply q_then_exit | apply q_then_ret | apply q_block | apply q_block_ret | apply q_block_hit | apply q_ret | apply q_end | apply q_loop_exit | apply q_loop_ret | apply q_loopT_exit | apply q_loopT_ret | apply RW.nil) | ((with_reducible apply s3); exact rfl; exact by_k) | ((with_reducible apply s2); exact rfl; exact by_k) | ((with_reducible apply s4); exact rfl) | ((with_reducible apply s5); (first | ((with_reducible apply a_agg); exact neq_done a b; (iterate 5 exact rfl)) | exact by_oa); exact by_g) | ((with_reducible apply CW.cond_t); exact rfl; exact by_ks) | ((with_reducible apply CW.cond_f); exact rfl; exact by_ks) | ((with_reducible apply q_block_miss); exact rfl) | (refine And.intro (show chk [] [] _ _ = true by kernel_rfl) ?_))
        refine q_loop h1 ?_
        exact by_less
      ·
        repeat (first | ((with_reducible apply s1); exact rfl) | (with_reducible first | apply CW.seq | apply CW.block | apply CW.region | apply CW.draw | apply CW.skip | apply CW.exit | apply CW.ret | apply q_then | apply q_then_exit | apply q_then_ret | apply q_block | apply q_block_ret | apply q_block_hit | apply q_ret | apply q_end | apply q_loop_exit | apply q_loop_ret | apply q_loopT_exit | apply q_loopT_ret | apply RW.nil) | ((with_reducible apply s3); exact rfl; exact by_k) | ((with_reducible apply s2); exact rfl; exact by_k) | ((with_reducible apply s4); exact rfl) | ((with_reducible apply s5); (first | exact by_oa); exact by_g) | ((with_reducible apply CW.cond_t); exact rfl; exact by_ks) | ((with_reducible apply CW.cond_f); exact rfl; exact by_ks) | ((with_reducible apply q_block_miss); exact rfl) | (refine And.intro (show chk [] [] _ _ = true by kernel_rfl) ?_))
        exact .one (.tmp rfl (.one (.d (dle_bool h2.symm))))
      · replace h5 : ¬ a = b := by simpa using h5
        repeat (first | ((with_reducible apply s1); exact rfl) | (with_reducible first | apply CW.seq | apply CW.block | apply CW.region | apply CW.draw | apply CW.skip | apply CW.exit | apply CW.ret | apply q_then | apply q_then_exit | apply q_then_ret | apply q_block | apply q_block_ret | apply q_block_hit | apply q_ret | apply q_end | apply q_loop_exit | apply q_loop_ret | apply q_loopT_exit | apply q_loopT_ret | apply RW.nil) | ((with_reducible apply s3); exact rfl; exact by_k) | ((with_reducible apply s2); exact rfl; exact by_k) | ((with_reducible apply s4); exact rfl) | ((with_reducible apply s5); (first | ((with_reducible apply a_agg); exact neq_done a b; (iterate 5 exact rfl)) | exact by_oa); exact by_g) | ((with_reducible apply CW.cond_t); exact rfl; exact by_ks) | ((with_reducible apply CW.cond_f); exact rfl; exact by_ks) | ((with_reducible apply q_block_miss); exact rfl) | (refine And.intro (show chk [] [] _ _ = true by kernel_rfl) ?_))
        exact .one (.tmp rfl (.one (.d (dle_bool h2.symm))))
  ·
    repeat (first | ((with_reducible apply s1); exact rfl) | (with_reducible first | apply CW.seq | apply CW.block | apply CW.region | apply CW.draw | apply CW.skip | apply CW.exit | apply CW.ret | apply q_then | apply q_then_exit | apply q_then_ret | apply q_block | apply q_block_ret | apply q_block_hit | apply q_ret | apply q_end | apply q_loop_exit | apply q_loop_ret | apply q_loopT_exit | apply q_loopT_ret | apply RW.nil) | ((with_reducible apply s3); exact rfl; exact by_k) | ((with_reducible apply s2); exact rfl; exact by_k) | ((with_reducible apply s4); exact rfl) | ((with_reducible apply s5); (first | exact by_oa); exact by_g) | ((with_reducible apply CW.cond_t); exact rfl; exact by_ks) | ((with_reducible apply CW.cond_f); exact rfl; exact by_ks) | ((with_reducible apply q_block_miss); exact rfl) | (refine And.intro (show chk [] [] _ _ = true by kernel_rfl) ?_))
    refine .one (.tmp rfl (.one (.d (dle_bool ?_))))
    cases hb : allB (fun a b => decide (a = b)) l r
    · rfl
    · exact absurd (allB_len hb) hlen

theorem ok_sameDeed (d e : Deed) (hr : d.reads.length ≤ 268435456) (hw : d.writes.length ≤ 268435456) (hc : d.code.length ≤ 268435456) :
    FnOk Tryz.prog 40 [.d (.agg d.enc), .d (.agg e.enc)] (.one (dbool (decide (d = e)))) := by
  refine fnOk_of tbl_ok mixed_ok Tryz.func40 rfl (by kernel_rfl) rfl rfl fun w0 own0 => ?_
  have c1 := ok_SameTexts d.reads e.reads (by omega)
  have c2 := ok_SameTexts d.writes e.writes (by omega)
  rw [allB_eq (fun a b => rfl)] at c1 c2
  obtain ⟨dr, dw, dc⟩ := d
  obtain ⟨er, ew, ec⟩ := e
  dsimp only at hr hw hc c1 c2
  by_cases e1 : dr = er
  · by_cases e2 : dw = ew
    · by_cases hlen : dc.length = ec.length
      ·
        repeat (first | ((with_reducible apply s1); exact rfl) | (with_reducible first | apply CW.seq | apply CW.block | apply CW.region | apply CW.draw | apply CW.skip | apply CW.exit | apply CW.ret | apply q_then | apply q_then_exit | apply q_then_ret | apply q_block | apply q_block_ret | apply q_block_hit | apply q_ret | apply q_end | apply q_loop_exit | apply q_loop_ret | apply q_loopT_exit | apply q_loopT_ret | apply RW.nil) | ((with_reducible apply s3); exact rfl; exact by_k) | ((with_reducible apply s2); exact rfl; exact by_k) | ((with_reducible apply s4); exact rfl) | ((with_reducible apply s5); (first | (focus ((with_reducible apply a_call); exact c1; exact rfl; (repeat (first | exact SubsE.nil | (apply SubsE.cons; exact rfl; (first | exact .d (.refl _) | exact .d (.nil _) | exact .agg rfl (.refl _) | exact .pd | exact .ptr rfl); (first | exact trivial | exact ⟨rfl, trivial⟩)))); done)) | (focus ((with_reducible apply a_call); exact c2; exact rfl; (repeat (first | exact SubsE.nil | (apply SubsE.cons; exact rfl; (first | exact .d (.refl _) | exact .d (.nil _) | exact .agg rfl (.refl _) | exact .pd | exact .ptr rfl); (first | exact trivial | exact ⟨rfl, trivial⟩)))); done)) | exact by_oa); exact by_g) | ((with_reducible apply CW.cond_t); exact rfl; exact by_ks) | ((with_reducible apply CW.cond_f); exact rfl; exact by_ks) | ((with_reducible apply q_block_miss); exact rfl) | (refine And.intro (show chk [] [] _ _ = true by kernel_rfl) ?_))
        refine CW.loop (fun k => [(.s 2, .av (.ptr 0 0)), (.o 0, .ob (.box ((Deed.enc ⟨dr, dw, dc⟩).map AV.d))), (.s 3, .av (.ptr 1 0)), (.o 1, .ob (.box ((Deed.enc ⟨er, ew, ec⟩).map AV.d))), (.s 31, .av (.d (dint dc.length))), (.s 32, .av (.d (dint k))), (.nx, .num 2)]) (agree (fun a b => decide (a = b)) dc ec) ?_ fun k hk => ?_
        ·
          exact by_less
        · rcases agree_case hlen hk with ⟨h1, h1', a, b, h2, h3, h4⟩ | ⟨h1, h2⟩ | ⟨h1, h2, a, b, h3, h4, h5⟩
          · replace h4 : a = b := by simpa using h4
            repeat (first | ((with_reducible apply s1); exact rfl) | (with_reducible first | apply CW.seq | apply CW.block | apply CW.region | apply CW.draw | apply CW.skip | apply CW.exit | apply CW.ret | apply q_then | apply q_then_exit | apply q_then_ret | apply q_block | apply q_block_ret | apply q_block_hit | apply q_ret | apply q_end | apply q_loop_exit | apply q_loop_ret | apply q_loopT_exit | apply q_loopT_ret | apply RW.nil) | ((with_reducible apply s3); exact rfl; exact by_k) | ((with_reducible apply s2); exact rfl; exact by_k) | ((with_reducible apply s4); exact rfl) | ((with_reducible apply s5); (first | ((with_reducible apply a_agg); exact neq_ins a b; (iterate 5 exact rfl)) | exact by_oa); exact by_g) | ((with_reducible apply CW.cond_t); exact rfl; exact by_ks) | ((with_reducible apply CW.cond_f); exact rfl; exact by_ks) | ((with_reducible apply q_block_miss); exact rfl) | (refine And.intro (show chk [] [] _ _ = true by kernel_rfl) ?_))
            refine q_loop h1 ?_
            exact by_less
          ·
            repeat (first | ((with_reducible apply s1); exact rfl) | (with_reducible first | apply CW.seq | apply CW.block | apply CW.region | apply CW.draw | apply CW.skip | apply CW.exit | apply CW.ret | apply q_then | apply q_then_exit | apply q_then_ret | apply q_block | apply q_block_ret | apply q_block_hit | apply q_ret | apply q_end | apply q_loop_exit | apply q_loop_ret | apply q_loopT_exit | apply q_loopT_ret | apply RW.nil) | ((with_reducible apply s3); exact rfl; exact by_k) | ((with_reducible apply s2); exact rfl; exact by_k) | ((with_reducible apply s4); exact rfl) | ((with_reducible apply s5); (first | exact by_oa); exact by_g) | ((with_reducible apply CW.cond_t); exact rfl; exact by_ks) | ((with_reducible apply CW.cond_f); exact rfl; exact by_ks) | ((with_reducible apply q_block_miss); exact rfl) | (refine And.intro (show chk [] [] _ _ = true by kernel_rfl) ?_))
            rw [allB_eq (fun a b => rfl)] at h2
            exact .one (.tmp rfl (.one (.d (dle_bool (by simp at h2; simp [e1, e2, h2])))))
          · replace h5 : ¬ a = b := by simpa using h5
            repeat (first | ((with_reducible apply s1); exact rfl) | (with_reducible first | apply CW.seq | apply CW.block | apply CW.region | apply CW.draw | apply CW.skip | apply CW.exit | apply CW.ret | apply q_then | apply q_then_exit | apply q_then_ret | apply q_block | apply q_block_ret | apply q_block_hit | apply q_ret | apply q_end | apply q_loop_exit | apply q_loop_ret | apply q_loopT_exit | apply q_loopT_ret | apply RW.nil) | ((with_reducible apply s3); exact rfl; exact by_k) | ((with_reducible apply s2); exact rfl; exact by_k) | ((with_reducible apply s4); exact rfl) | ((with_reducible apply s5); (first | ((with_reducible apply a_agg); exact neq_ins a b; (iterate 5 exact rfl)) | exact by_oa); exact by_g) | ((with_reducible apply CW.cond_t); exact rfl; exact by_ks) | ((with_reducible apply CW.cond_f); exact rfl; exact by_ks) | ((with_reducible apply q_block_miss); exact rfl) | (refine And.intro (show chk [] [] _ _ = true by kernel_rfl) ?_))
            rw [allB_eq (fun a b => rfl)] at h2
            exact .one (.tmp rfl (.one (.d (dle_bool (by simp at h2; simp [h2])))))
      ·
        repeat (first | ((with_reducible apply s1); exact rfl) | (with_reducible first | apply CW.seq | apply CW.block | apply CW.region | apply CW.draw | apply CW.skip | apply CW.exit | apply CW.ret | apply q_then | apply q_then_exit | apply q_then_ret | apply q_block | apply q_block_ret | apply q_block_hit | apply q_ret | apply q_end | apply q_loop_exit | apply q_loop_ret | apply q_loopT_exit | apply q_loopT_ret | apply RW.nil) | ((with_reducible apply s3); exact rfl; exact by_k) | ((with_reducible apply s2); exact rfl; exact by_k) | ((with_reducible apply s4); exact rfl) | ((with_reducible apply s5); (first | (focus ((with_reducible apply a_call); exact c1; exact rfl; (repeat (first | exact SubsE.nil | (apply SubsE.cons; exact rfl; (first | exact .d (.refl _) | exact .d (.nil _) | exact .agg rfl (.refl _) | exact .pd | exact .ptr rfl); (first | exact trivial | exact ⟨rfl, trivial⟩)))); done)) | (focus ((with_reducible apply a_call); exact c2; exact rfl; (repeat (first | exact SubsE.nil | (apply SubsE.cons; exact rfl; (first | exact .d (.refl _) | exact .d (.nil _) | exact .agg rfl (.refl _) | exact .pd | exact .ptr rfl); (first | exact trivial | exact ⟨rfl, trivial⟩)))); done)) | exact by_oa); exact by_g) | ((with_reducible apply CW.cond_t); exact rfl; exact by_ks) | ((with_reducible apply CW.cond_f); exact rfl; exact by_ks) | ((with_reducible apply q_block_miss); exact rfl) | (refine And.intro (show chk [] [] _ _ = true by kernel_rfl) ?_))
        exact .one (.tmp rfl (.one (.d (dle_bool (by have : dc ≠ ec := fun h => hlen (by rw [h]); simp [this])))))
    ·
      repeat (first | ((with_reducible apply s1); exact rfl) | (with_reducible first | apply CW.seq | apply CW.block | apply CW.region | apply CW.draw | apply CW.skip | apply CW.exit | apply CW.ret | apply q_then | apply q_then_exit | apply q_then_ret | apply q_block | apply q_block_ret | apply q_block_hit | apply q_ret | apply q_end | apply q_loop_exit | apply q_loop_ret | apply q_loopT_exit | apply q_loopT_ret | apply RW.nil) | ((with_reducible apply s3); exact rfl; exact by_k) | ((with_reducible apply s2); exact rfl; exact by_k) | ((with_reducible apply s4); exact rfl) | ((with_reducible apply s5); (first | (focus ((with_reducible apply a_call); exact c1; exact rfl; (repeat (first | exact SubsE.nil | (apply SubsE.cons; exact rfl; (first | exact .d (.refl _) | exact .d (.nil _) | exact .agg rfl (.refl _) | exact .pd | exact .ptr rfl); (first | exact trivial | exact ⟨rfl, trivial⟩)))); done)) | (focus ((with_reducible apply a_call); exact c2; exact rfl; (repeat (first | exact SubsE.nil | (apply SubsE.cons; exact rfl; (first | exact .d (.refl _) | exact .d (.nil _) | exact .agg rfl (.refl _) | exact .pd | exact .ptr rfl); (first | exact trivial | exact ⟨rfl, trivial⟩)))); done)) | exact by_oa); exact by_g) | ((with_reducible apply CW.cond_t); exact rfl; exact by_ks) | ((with_reducible apply CW.cond_f); exact rfl; exact by_ks) | ((with_reducible apply q_block_miss); exact rfl) | (refine And.intro (show chk [] [] _ _ = true by kernel_rfl) ?_))
      exact .one (.tmp rfl (.one (.d (dle_bool (by simp [e2])))))
  ·
    repeat (first | ((with_reducible apply s1); exact rfl) | (with_reducible first | apply CW.seq | apply CW.block | apply CW.region | apply CW.draw | apply CW.skip | apply CW.exit | apply CW.ret | apply q_then | apply q_then_exit | apply q_then_ret | apply q_block | apply q_block_ret | apply q_block_hit | apply q_ret | apply q_end | apply q_loop_exit | apply q_loop_ret | apply q_loopT_exit | apply q_loopT_ret | apply RW.nil) | ((with_reducible apply s3); exact rfl; exact by_k) | ((with_reducible apply s2); exact rfl; exact by_k) | ((with_reducible apply s4); exact rfl) | ((with_reducible apply s5); (first | (focus ((with_reducible apply a_call); exact c1; exact rfl; (repeat (first | exact SubsE.nil | (apply SubsE.cons; exact rfl; (first | exact .d (.refl _) | exact .d (.nil _) | exact .agg rfl (.refl _) | exact .pd | exact .ptr rfl); (first | exact trivial | exact ⟨rfl, trivial⟩)))); done)) | (focus ((with_reducible apply a_call); exact c2; exact rfl; (repeat (first | exact SubsE.nil | (apply SubsE.cons; exact rfl; (first | exact .d (.refl _) | exact .d (.nil _) | exact .agg rfl (.refl _) | exact .pd | exact .ptr rfl); (first | exact trivial | exact ⟨rfl, trivial⟩)))); done)) | exact by_oa); exact by_g) | ((with_reducible apply CW.cond_t); exact rfl; exact by_ks) | ((with_reducible apply CW.cond_f); exact rfl; exact by_ks) | ((with_reducible apply q_block_miss); exact rfl) | (refine And.intro (show chk [] [] _ _ = true by kernel_rfl) ?_))
    exact .one (.tmp rfl (.one (.d (dle_bool (by simp [e1])))))

theorem ok_sameDeeds (l r : List Deed) (hl : l.length ≤ 268435456) (hd : ∀ d ∈ l, d.Sm) : FnOk Tryz.prog 20 [.d (encDeeds l), .d (encDeeds r)] (.one (dbool (allB (fun a b => decide (a = b)) l r))) := by
  refine fnOk_of tbl_ok mixed_ok Tryz.func20 rfl (by kernel_rfl) rfl rfl fun w0 own0 => ?_
  by_cases hlen : l.length = r.length
  ·
    repeat (first | ((with_reducible apply s1); exact rfl) | (with_reducible first | apply CW.seq | apply CW.block | apply CW.region | apply CW.draw | apply CW.skip | apply CW.exit | apply CW.ret | apply q_then | apply q_then_exit | apply q_then_ret | apply q_block | apply q_block_ret | apply q_block_hit | apply q_ret | apply q_end | apply q_loop_exit | apply q_loop_ret | apply q_loopT_exit | apply q_loopT_ret | apply RW.nil) | ((with_reducible apply s3); exact rfl; exact by_k) | ((with_reducible apply s2); exact rfl; exact by_k) | ((with_reducible apply s4); exact rfl) | ((with_reducible apply s5); (first | exact by_oa); exact by_g) | ((with_reducible apply CW.cond_t); exact rfl; exact by_ks) | ((with_reducible apply CW.cond_f); exact rfl; exact by_ks) | ((with_reducible apply q_block_miss); exact rfl) | (refine And.intro (show chk [] [] _ _ = true by kernel_rfl) ?_))
    refine CW.loop (fun k => [(.s 0, .av (.d (encDeeds l))), (.s 1, .av (.d (encDeeds r))), (.s 12, .av (.d (dint l.length))), (.s 13, .av (.d (dint k))), (.nx, .num 0)]) (agree (fun a b => decide (a = b)) l r) ?_ fun k hk => ?_
    ·
      exact by_less
    · rcases agree_case hlen hk with ⟨h1, h1', a, b, h2, h3, h4⟩ | ⟨h1, h2⟩ | ⟨h1, h2, a, b, h3, h4, h5⟩
      · have hc := ok_sameDeed a b (hd a (List.mem_of_getElem? h2)).r (hd a (List.mem_of_getElem? h2)).w (hd a (List.mem_of_getElem? h2)).c
        rw [show decide (a = b) = true from h4] at hc
        repeat (first | ((with_reducible apply s1); exact rfl) | (with_reducible first | apply CW.seq | apply CW.block | apply CW.region | apply CW.draw | apply CW.skip | apply CW.exit | apply CW.ret | apply q_then | apply q_then_exit | apply q_then_ret | apply q_block | apply q_block_ret | apply q_block_hit | apply q_ret | apply q_end | apply q_loop_exit | apply q_loop_ret | apply q_loopT_exit | apply q_loopT_ret | apply RW.nil) | ((with_reducible apply s3); exact rfl; exact by_k) | ((with_reducible apply s2); exact rfl; exact by_k) | ((with_reducible apply s4); exact rfl) | ((with_reducible apply s5); (first | (focus ((with_reducible apply a_call); exact hc; exact rfl; (repeat (first | exact SubsE.nil | (apply SubsE.cons; exact rfl; (first | exact .d (.refl _) | exact .d (.nil _) | exact .agg rfl (.refl _) | exact .pd | exact .ptr rfl); (first | exact trivial | exact ⟨rfl, trivial⟩)))); done)) | exact by_oa); exact by_g) | ((with_reducible apply CW.cond_t); exact rfl; exact by_ks) | ((with_reducible apply CW.cond_f); exact rfl; exact by_ks) | ((with_reducible apply q_block_miss); exact rfl) | (refine And.intro (show chk [] [] _ _ = true by kernel_rfl) ?_))
        refine q_loop h1 ?_
        exact by_less
      ·
        repeat (first | ((with_reducible apply s1); exact rfl) | (with_reducible first | apply CW.seq | apply CW.block | apply CW.region | apply CW.draw | apply CW.skip | apply CW.exit | apply CW.ret | apply q_then | apply q_then_exit | apply q_then_ret | apply q_block | apply q_block_ret | apply q_block_hit | apply q_ret | apply q_end | apply q_loop_exit | apply q_loop_ret | apply q_loopT_exit | apply q_loopT_ret | apply RW.nil) | ((with_reducible apply s3); exact rfl; exact by_k) | ((with_reducible apply s2); exact rfl; exact by_k) | ((with_reducible apply s4); exact rfl) | ((with_reducible apply s5); (first | exact by_oa); exact by_g) | ((with_reducible apply CW.cond_t); exact rfl; exact by_ks) | ((with_reducible apply CW.cond_f); exact rfl; exact by_ks) | ((with_reducible apply q_block_miss); exact rfl) | (refine And.intro (show chk [] [] _ _ = true by kernel_rfl) ?_))
        exact .one (.tmp rfl (.one (.d (dle_bool h2.symm))))
      · have hc := ok_sameDeed a b (hd a (List.mem_of_getElem? h3)).r (hd a (List.mem_of_getElem? h3)).w (hd a (List.mem_of_getElem? h3)).c
        rw [show decide (a = b) = false from h5] at hc
        repeat (first | ((with_reducible apply s1); exact rfl) | (with_reducible first | apply CW.seq | apply CW.block | apply CW.region | apply CW.draw | apply CW.skip | apply CW.exit | apply CW.ret | apply q_then | apply q_then_exit | apply q_then_ret | apply q_block | apply q_block_ret | apply q_block_hit | apply q_ret | apply q_end | apply q_loop_exit | apply q_loop_ret | apply q_loopT_exit | apply q_loopT_ret | apply RW.nil) | ((with_reducible apply s3); exact rfl; exact by_k) | ((with_reducible apply s2); exact rfl; exact by_k) | ((with_reducible apply s4); exact rfl) | ((with_reducible apply s5); (first | (focus ((with_reducible apply a_call); exact hc; exact rfl; (repeat (first | exact SubsE.nil | (apply SubsE.cons; exact rfl; (first | exact .d (.refl _) | exact .d (.nil _) | exact .agg rfl (.refl _) | exact .pd | exact .ptr rfl); (first | exact trivial | exact ⟨rfl, trivial⟩)))); done)) | exact by_oa); exact by_g) | ((with_reducible apply CW.cond_t); exact rfl; exact by_ks) | ((with_reducible apply CW.cond_f); exact rfl; exact by_ks) | ((with_reducible apply q_block_miss); exact rfl) | (refine And.intro (show chk [] [] _ _ = true by kernel_rfl) ?_))
        exact .one (.tmp rfl (.one (.d (dle_bool h2.symm))))
  ·
    repeat (first | ((with_reducible apply s1); exact rfl) | (with_reducible first | apply CW.seq | apply CW.block | apply CW.region | apply CW.draw | apply CW.skip | apply CW.exit | apply CW.ret | apply q_then | apply q_then_exit | apply q_then_ret | apply q_block | apply q_block_ret | apply q_block_hit | apply q_ret | apply q_end | apply q_loop_exit | apply q_loop_ret | apply q_loopT_exit | apply q_loopT_ret | apply RW.nil) | ((with_reducible apply s3); exact rfl; exact by_k) | ((with_reducible apply s2); exact rfl; exact by_k) | ((with_reducible apply s4); exact rfl) | ((with_reducible apply s5); (first | exact by_oa); exact by_g) | ((with_reducible apply CW.cond_t); exact rfl; exact by_ks) | ((with_reducible apply CW.cond_f); exact rfl; exact by_ks) | ((with_reducible apply q_block_miss); exact rfl) | (refine And.intro (show chk [] [] _ _ = true by kernel_rfl) ?_))
    refine .one (.tmp rfl (.one (.d (dle_bool ?_))))
    cases hb : allB (fun a b => decide (a = b)) l r
    · rfl
    · exact absurd (allB_len hb) hlen

end Go.Proofs.YtjgbmdonhabmiaaGreatDoor

/-! F7 -/
/-
  Contract of the references' Before.
-/
namespace Go.Proofs.YtjgbmdonhabmiaaGreatDoor
open Go.AX Go.RF

set_option maxRecDepth 100000
set_option maxHeartbeats 4000000

theorem ok_before (l : List Chain) (k : Str) (b : Int) (hl : l.length ≤ 268435456) (hv : ∀ c ∈ l, c.vs.length ≤ 268435456) : FnOk Tryz.prog 37 [.d (encChains l), .d (dstr k), .d (dint b)] (.one (.agg (before l k b).enc)) := by
  refine fnOk_of tbl_ok mixed_ok Tryz.func37 rfl (by kernel_rfl) rfl rfl fun w0 own0 => ?_
  repeat (first | ((with_reducible apply s1); exact rfl) | (with_reducible first | apply CW.seq | apply CW.block | apply CW.region | apply CW.draw | apply CW.skip | apply CW.exit | apply CW.ret | apply q_then | apply q_then_exit | apply q_then_ret | apply q_block | apply q_block_ret | apply q_block_hit | apply q_ret | apply q_end | apply q_loop_exit | apply q_loop_ret | apply q_loopT_exit | apply q_loopT_ret | apply RW.nil) | ((with_reducible apply s3); exact rfl; exact by_k) | ((with_reducible apply s2); exact rfl; exact by_k) | ((with_reducible apply s4); exact rfl) | ((with_reducible apply s5); (first | exact by_oa); exact by_g) | ((with_reducible apply CW.cond_t); exact rfl; exact by_ks) | ((with_reducible apply CW.cond_f); exact rfl; exact by_ks) | ((with_reducible apply q_block_miss); exact rfl) | (refine And.intro (show chk [] [] _ _ = true by kernel_rfl) ?_))
  refine CW.loopT (fun t : Nat × Version => [(.s 1, .av (.d (dstr k))), (.s 2, .av (.d (dint b))), (.s 6, .av (.ptr 0 0)), (.o 0, .ob (.box ((Version.enc ⟨0, false, false, 0⟩).map AV.d))), (.s 7, .av (.ptr 1 0)), (.o 1, .ob (.box (t.2.enc.map AV.d))), (.s 13, .av (.d (encChains l))), (.s 14, .av (.d (dint l.length))), (.s 15, .av (.d (dint t.1))), (.nx, .num 2)])
    (fun t => t.1 ≤ l.length ∧ beforeGo k b t.2 (l.drop t.1) = before l k b) (fun t => l.length - t.1) (0, ⟨-1, true, false, 0⟩) ⟨by omega, rfl⟩ ?_ ?_
  ·
    exact by_less
  · rintro ⟨i, out⟩ ⟨hi, hI⟩
    dsimp only at hi hI ⊢
    rcases drop_case hi with ⟨h1, h2⟩ | ⟨c, h1, h2, h3⟩
    · rw [h1] at hI
      simp only [beforeGo] at hI
      repeat (first | ((with_reducible apply s1); exact rfl) | (with_reducible first | apply CW.seq | apply CW.block | apply CW.region | apply CW.draw | apply CW.skip | apply CW.exit | apply CW.ret | apply q_then | apply q_then_exit | apply q_then_ret | apply q_block | apply q_block_ret | apply q_block_hit | apply q_ret | apply q_end | apply q_loop_exit | apply q_loop_ret | apply q_loopT_exit | apply q_loopT_ret | apply RW.nil) | ((with_reducible apply s3); exact rfl; exact by_k) | ((with_reducible apply s2); exact rfl; exact by_k) | ((with_reducible apply s4); exact rfl) | ((with_reducible apply s5); (first | exact by_oa); exact by_g) | ((with_reducible apply CW.cond_t); exact rfl; exact by_ks) | ((with_reducible apply CW.cond_f); exact rfl; exact by_ks) | ((with_reducible apply q_block_miss); exact rfl) | (refine And.intro (show chk [] [] _ _ = true by kernel_rfl) ?_))
      rw [← hI]
      exact .one (.cell rfl rfl rfl rfl (.aggd rfl (.refl _)))
    · rw [h1] at hI
      simp only [beforeGo] at hI
      have hcv := hv c (List.mem_of_getElem? h2)
      repeat (first | ((with_reducible apply s1); exact rfl) | (with_reducible first | apply CW.seq | apply CW.block | apply CW.region | apply CW.draw | apply CW.skip | apply CW.exit | apply CW.ret | apply q_then | apply q_then_exit | apply q_then_ret | apply q_block | apply q_block_ret | apply q_block_hit | apply q_ret | apply q_end | apply q_loop_exit | apply q_loop_ret | apply q_loopT_exit | apply q_loopT_ret | apply RW.nil) | ((with_reducible apply s3); exact rfl; exact by_k) | ((with_reducible apply s2); exact rfl; exact by_k) | ((with_reducible apply s4); exact rfl) | ((with_reducible apply s5); (first | exact by_oa); exact by_g) | ((with_reducible apply CW.cond_t); exact rfl; exact by_ks) | ((with_reducible apply CW.cond_f); exact rfl; exact by_ks) | ((with_reducible apply q_block_miss); exact rfl) | (refine And.intro (show chk [] [] _ _ = true by kernel_rfl) ?_))
      refine CW.loopT (fun t : Nat × Version => [(.s 1, .av (.d (dstr k))), (.s 2, .av (.d (dint b))), (.s 6, .av (.ptr 0 0)), (.o 0, .ob (.box ((Version.enc ⟨0, false, false, 0⟩).map AV.d))), (.s 7, .av (.ptr 1 0)), (.o 1, .ob (.box (t.2.enc.map AV.d))), (.s 13, .av (.d (encChains l))), (.s 14, .av (.d (dint l.length))), (.s 15, .av (.d (dint i))),
          (.s 9, .av (.ptr 2 0)), (.o 2, .ob (.box (c.enc.map AV.d))), (.s 20, .av (.d (encVs c.vs))), (.s 21, .av (.d (dint c.vs.length))), (.s 22, .av (.d (dint t.1))), (.nx, .num 3)])
        (fun t => t.1 ≤ c.vs.length ∧ bvs (decide (c.key = k)) b t.2 (c.vs.drop t.1) = bvs (decide (c.key = k)) b out c.vs) (fun t => c.vs.length - t.1) (0, out) ⟨by omega, rfl⟩ ?_ ?_
      ·
        exact by_less
      · rintro ⟨j, o2⟩ ⟨hj, hJ⟩
        dsimp only at hj hJ ⊢
        rcases drop_case hj with ⟨h5, h6⟩ | ⟨v, h5, h6, h7⟩
        · rw [h5] at hJ
          simp only [bvs] at hJ
          repeat (first | ((with_reducible apply s1); exact rfl) | (with_reducible first | apply CW.seq | apply CW.block | apply CW.region | apply CW.draw | apply CW.skip | apply CW.exit | apply CW.ret | apply q_then | apply q_then_exit | apply q_then_ret | apply q_block | apply q_block_ret | apply q_block_hit | apply q_ret | apply q_end | apply q_loop_exit | apply q_loop_ret | apply q_loopT_exit | apply q_loopT_ret | apply RW.nil) | ((with_reducible apply s3); exact rfl; exact by_k) | ((with_reducible apply s2); exact rfl; exact by_k) | ((with_reducible apply s4); exact rfl) | ((with_reducible apply s5); (first | exact by_oa); exact by_g) | ((with_reducible apply CW.cond_t); exact rfl; exact by_ks) | ((with_reducible apply CW.cond_f); exact rfl; exact by_ks) | ((with_reducible apply q_block_miss); exact rfl) | (refine And.intro (show chk [] [] _ _ = true by kernel_rfl) ?_))
          refine q_loopT (i + 1, o2) ⟨by dsimp only; omega, by rw [hJ]; exact hI⟩ (by dsimp only; omega) ?_
          exact by_less
        · rw [h5] at hJ
          simp only [bvs] at hJ
          by_cases h8 : c.key = k
          · by_cases h9 : v.by_ < b
            · rw [if_pos (by simp [h8, h9])] at hJ
              repeat (first | ((with_reducible apply s1); exact rfl) | (with_reducible first | apply CW.seq | apply CW.block | apply CW.region | apply CW.draw | apply CW.skip | apply CW.exit | apply CW.ret | apply q_then | apply q_then_exit | apply q_then_ret | apply q_block | apply q_block_ret | apply q_block_hit | apply q_ret | apply q_end | apply q_loop_exit | apply q_loop_ret | apply q_loopT_exit | apply q_loopT_ret | apply RW.nil) | ((with_reducible apply s3); exact rfl; exact by_k) | ((with_reducible apply s2); exact rfl; exact by_k) | ((with_reducible apply s4); exact rfl) | ((with_reducible apply s5); (first | exact by_oa); exact by_g) | ((with_reducible apply CW.cond_t); exact rfl; exact by_ks) | ((with_reducible apply CW.cond_f); exact rfl; exact by_ks) | ((with_reducible apply q_block_miss); exact rfl) | (refine And.intro (show chk [] [] _ _ = true by kernel_rfl) ?_))
              refine q_loopT (j + 1, v) ⟨by dsimp only; omega, hJ⟩ (by dsimp only; omega) ?_
              exact by_less
            · rw [if_neg (by simp [h9])] at hJ
              repeat (first | ((with_reducible apply s1); exact rfl) | (with_reducible first | apply CW.seq | apply CW.block | apply CW.region | apply CW.draw | apply CW.skip | apply CW.exit | apply CW.ret | apply q_then | apply q_then_exit | apply q_then_ret | apply q_block | apply q_block_ret | apply q_block_hit | apply q_ret | apply q_end | apply q_loop_exit | apply q_loop_ret | apply q_loopT_exit | apply q_loopT_ret | apply RW.nil) | ((with_reducible apply s3); exact rfl; exact by_k) | ((with_reducible apply s2); exact rfl; exact by_k) | ((with_reducible apply s4); exact rfl) | ((with_reducible apply s5); (first | exact by_oa); exact by_g) | ((with_reducible apply CW.cond_t); exact rfl; exact by_ks) | ((with_reducible apply CW.cond_f); exact rfl; exact by_ks) | ((with_reducible apply q_block_miss); exact rfl) | (refine And.intro (show chk [] [] _ _ = true by kernel_rfl) ?_))
              refine q_loopT (j + 1, o2) ⟨by dsimp only; omega, hJ⟩ (by dsimp only; omega) ?_
              exact by_less
          · rw [if_neg (by simp [h8])] at hJ
            repeat (first | ((with_reducible apply s1); exact rfl) | (with_reducible first | apply CW.seq | apply CW.block | apply CW.region | apply CW.draw | apply CW.skip | apply CW.exit | apply CW.ret | apply q_then | apply q_then_exit | apply q_then_ret | apply q_block | apply q_block_ret | apply q_block_hit | apply q_ret | apply q_end | apply q_loop_exit | apply q_loop_ret | apply q_loopT_exit | apply q_loopT_ret | apply RW.nil) | ((with_reducible apply s3); exact rfl; exact by_k) | ((with_reducible apply s2); exact rfl; exact by_k) | ((with_reducible apply s4); exact rfl) | ((with_reducible apply s5); (first | exact by_oa); exact by_g) | ((with_reducible apply CW.cond_t); exact rfl; exact by_ks) | ((with_reducible apply CW.cond_f); exact rfl; exact by_ks) | ((with_reducible apply q_block_miss); exact rfl) | (refine And.intro (show chk [] [] _ _ = true by kernel_rfl) ?_))
            refine q_loopT (j + 1, o2) ⟨by dsimp only; omega, hJ⟩ (by dsimp only; omega) ?_
            exact by_less

end Go.Proofs.YtjgbmdonhabmiaaGreatDoor
