/-
  Part 3 of what the claim leans on: F5 H3 H4 AxPin2 AxPin3 AxFam2 AxPin4 AxPin5 AxBool AxFnD AxMap Rn Sh G2 R1 G1 Eq2 F17 G11 AxIns G13 G14 R2.
-/
import Derived.Test.YtgiaplfdpncglaaDoorK2
import Derived.Laws.Small
import Derived.MapKept
import Derived.Shelf.Small.Strs
import Derived.Test.YtgiaplfdpncglaaDoorProg
import Derived.Shelf.Spec.SlicesInsertGrow
import Derived.Maps.AppendAt

/-! F5 -/
/-
  Contract of the references' WrongDeed.
-/
namespace Go.Proofs.YtgiaplfdpncglaaDoor
open Go.AX Go.RF

set_option maxRecDepth 100000
set_option maxHeartbeats 4000000

theorem ls_first {l : List Str} {r : List (List Str)} {v : Int} (h : lsGo (l :: r) = v) : (keysWrong l = 0 ∧ lsGo r = v) ∨ (keysWrong l ≠ 0 ∧ keysWrong l = v) := by
  simp only [lsGo] at h
  split at h
  · next h0 => exact .inl ⟨h0, h⟩
  · next h0 => exact .inr ⟨h0, h⟩

theorem ok_wrongDeed (d : Deed) (hr : d.reads.length ≤ 268435456) (hw : d.writes.length ≤ 268435456) (hc : d.code.length ≤ 268435456)
    (hrk : ∀ s ∈ d.reads, s.length ≤ 1073741824) (hwk : ∀ s ∈ d.writes, s.length ≤ 1073741824) : FnOk Tryd.prog 6 [.d (.agg d.enc)] (.one (dint (wrongDeed d))) := by
  refine fnOk_of tbl_ok mixed_ok Tryd.func6 rfl (by kernel_rfl) rfl rfl fun w0 own0 => ?_
  repeat (first | ((with_reducible apply s5); ((with_reducible apply a_bs ([d.reads, d.writes].map fun l => [encStrs l])); (iterate 9 exact rfl); (repeat (first | exact PartsE.nil | (apply PartsE.cons; exact rfl; exact rfl)))); exact by_g) | ((with_reducible apply s1); exact rfl) | (with_reducible first | apply CW.seq | apply CW.block | apply CW.region | apply CW.draw | apply CW.skip | apply CW.exit | apply CW.ret | apply q_then | apply q_then_exit | apply q_then_ret | apply q_block | apply q_block_ret | apply q_block_hit | apply q_ret | apply q_end | apply q_loop_exit | apply q_loop_ret | apply q_loopT_exit | apply q_loopT_ret | apply RW.nil) | ((with_reducible apply s3); exact rfl; exact by_k) | ((with_reducible apply s2); exact rfl; exact by_k) | ((with_reducible apply s4); exact rfl) | ((with_reducible apply s5); (first | exact by_oa); exact by_g) | ((with_reducible apply CW.cond_t); exact rfl; exact by_ks) | ((with_reducible apply CW.cond_f); exact rfl; exact by_ks) | ((with_reducible apply q_block_miss); exact rfl) | (refine And.intro (show chk [] [] _ _ = true by kernel_rfl) ?_))
  refine CW.loopT (fun j : Nat => [(.s 1, .av (.ptr 0 0)), (.o 0, .ob (.box (d.enc.map AV.d))), (.s 18, .av (.d (.sl 1 ([d.reads, d.writes].map fun l => [encStrs l])))), (.s 19, .av (.d (dint 2))), (.s 20, .av (.d (dint j))), (.nx, .num 1)])
    (fun j => j ≤ [d.reads, d.writes].length ∧ lsGo ([d.reads, d.writes].drop j) = lsGo [d.reads, d.writes]) (fun j => 2 - j) 0 ⟨by simp, rfl⟩ ?_ ?_
  ·
    exact by_less
  · rintro j ⟨hj, hI⟩
    have hj2 : j ≤ 2 := hj
    rcases drop_case hj with ⟨h1, h2⟩ | ⟨l, h1, h2, h3⟩
    · have h2' : j = 2 := h2
      rw [h1] at hI
      have hI' : lsGo [d.reads, d.writes] = 0 := hI.symm
      by_cases h4 : 12 < d.code.length
      ·
        repeat (first | ((with_reducible apply s1); exact rfl) | (with_reducible first | apply CW.seq | apply CW.block | apply CW.region | apply CW.draw | apply CW.skip | apply CW.exit | apply CW.ret | apply q_then | apply q_then_exit | apply q_then_ret | apply q_block | apply q_block_ret | apply q_block_hit | apply q_ret | apply q_end | apply q_loop_exit | apply q_loop_ret | apply q_loopT_exit | apply q_loopT_ret | apply RW.nil) | ((with_reducible apply s3); exact rfl; exact by_k) | ((with_reducible apply s2); exact rfl; exact by_k) | ((with_reducible apply s4); exact rfl) | ((with_reducible apply s5); (first | exact by_oa); exact by_g) | ((with_reducible apply CW.cond_t); exact rfl; exact by_ks) | ((with_reducible apply CW.cond_f); exact rfl; exact by_ks) | ((with_reducible apply q_block_miss); exact rfl) | (refine And.intro (show chk [] [] _ _ = true by kernel_rfl) ?_))
        exact .one (.tmp rfl (.one (.d (dle_int (by simp [wrongDeed, hI', h4])))))
      ·
        repeat (first | ((with_reducible apply s1); exact rfl) | (with_reducible first | apply CW.seq | apply CW.block | apply CW.region | apply CW.draw | apply CW.skip | apply CW.exit | apply CW.ret | apply q_then | apply q_then_exit | apply q_then_ret | apply q_block | apply q_block_ret | apply q_block_hit | apply q_ret | apply q_end | apply q_loop_exit | apply q_loop_ret | apply q_loopT_exit | apply q_loopT_ret | apply RW.nil) | ((with_reducible apply s3); exact rfl; exact by_k) | ((with_reducible apply s2); exact rfl; exact by_k) | ((with_reducible apply s4); exact rfl) | ((with_reducible apply s5); (first | exact by_oa); exact by_g) | ((with_reducible apply CW.cond_t); exact rfl; exact by_ks) | ((with_reducible apply CW.cond_f); exact rfl; exact by_ks) | ((with_reducible apply q_block_miss); exact rfl) | (refine And.intro (show chk [] [] _ _ = true by kernel_rfl) ?_))
        refine CW.loopT (fun k : Nat => [(.s 1, .av (.ptr 0 0)), (.o 0, .ob (.box (d.enc.map AV.d))), (.s 51, .av (.d (encCode d.code))), (.s 52, .av (.d (dint d.code.length))), (.s 53, .av (.d (dint k))), (.nx, .num 1)])
          (fun k => k ≤ d.code.length ∧ codeGo d k (d.code.drop k) = codeGo d 0 d.code) (fun k => d.code.length - k) 0 ⟨by omega, rfl⟩ ?_ ?_
        ·
          exact by_less
        · rintro k ⟨hk, hC⟩
          rcases drop_case hk with ⟨h5, h6⟩ | ⟨i, h5, h6, h7⟩
          · rw [h5] at hC
            simp only [codeGo] at hC
            repeat (first | ((with_reducible apply s1); exact rfl) | (with_reducible first | apply CW.seq | apply CW.block | apply CW.region | apply CW.draw | apply CW.skip | apply CW.exit | apply CW.ret | apply q_then | apply q_then_exit | apply q_then_ret | apply q_block | apply q_block_ret | apply q_block_hit | apply q_ret | apply q_end | apply q_loop_exit | apply q_loop_ret | apply q_loopT_exit | apply q_loopT_ret | apply RW.nil) | ((with_reducible apply s3); exact rfl; exact by_k) | ((with_reducible apply s2); exact rfl; exact by_k) | ((with_reducible apply s4); exact rfl) | ((with_reducible apply s5); (first | exact by_oa); exact by_g) | ((with_reducible apply CW.cond_t); exact rfl; exact by_ks) | ((with_reducible apply CW.cond_f); exact rfl; exact by_ks) | ((with_reducible apply q_block_miss); exact rfl) | (refine And.intro (show chk [] [] _ _ = true by kernel_rfl) ?_))
            exact .one (.tmp rfl (.one (.d (dle_int (by rw [wrongDeed, if_pos hI', if_neg h4, hC])))))
          · rw [h5] at hC
            have hbad : wrongIns d ((d.code.length : Int) - 1 - k) i ≠ 0 → wrongIns d ((d.code.length : Int) - 1 - k) i = wrongDeed d := fun h0 => by
              rw [codeGo, if_neg h0] at hC
              rw [wrongDeed, if_pos hI', if_neg h4, hC]
            have hgood : wrongIns d ((d.code.length : Int) - 1 - k) i = 0 → codeGo d (k + 1) (d.code.drop (k + 1)) = codeGo d 0 d.code := fun h0 => by
              rw [codeGo, if_pos h0] at hC
              exact hC
            clear hC h5
            obtain ⟨kd0, ia, ib, n, key⟩ := i
            by_cases hk1 : kd0 < 1
            ·
              repeat (first | ((with_reducible apply s1); exact rfl) | (with_reducible first | apply CW.seq | apply CW.block | apply CW.region | apply CW.draw | apply CW.skip | apply CW.exit | apply CW.ret | apply q_then | apply q_then_exit | apply q_then_ret | apply q_block | apply q_block_ret | apply q_block_hit | apply q_ret | apply q_end | apply q_loop_exit | apply q_loop_ret | apply q_loopT_exit | apply q_loopT_ret | apply RW.nil) | ((with_reducible apply s3); exact rfl; exact by_k) | ((with_reducible apply s2); exact rfl; exact by_k) | ((with_reducible apply s4); exact rfl) | ((with_reducible apply s5); (first | exact by_oa); exact by_g) | ((with_reducible apply CW.cond_t); exact rfl; exact by_ks) | ((with_reducible apply CW.cond_f); exact rfl; exact by_ks) | ((with_reducible apply q_block_miss); exact rfl) | (refine And.intro (show chk [] [] _ _ = true by kernel_rfl) ?_))
              have h0 : wrongIns d ((d.code.length : Int) - 1 - k) ⟨kd0, ia, ib, n, key⟩ = 1 := by simp [wrongIns, hk1]
              exact .one (.tmp rfl (.one (.d (dle_int (by rw [← hbad (by rw [h0]; decide), h0])))))
            · by_cases hk9 : 9 < kd0
              ·
                repeat (first | ((with_reducible apply s1); exact rfl) | (with_reducible first | apply CW.seq | apply CW.block | apply CW.region | apply CW.draw | apply CW.skip | apply CW.exit | apply CW.ret | apply q_then | apply q_then_exit | apply q_then_ret | apply q_block | apply q_block_ret | apply q_block_hit | apply q_ret | apply q_end | apply q_loop_exit | apply q_loop_ret | apply q_loopT_exit | apply q_loopT_ret | apply RW.nil) | ((with_reducible apply s3); exact rfl; exact by_k) | ((with_reducible apply s2); exact rfl; exact by_k) | ((with_reducible apply s4); exact rfl) | ((with_reducible apply s5); (first | exact by_oa); exact by_g) | ((with_reducible apply CW.cond_t); exact rfl; exact by_ks) | ((with_reducible apply CW.cond_f); exact rfl; exact by_ks) | ((with_reducible apply q_block_miss); exact rfl) | (refine And.intro (show chk [] [] _ _ = true by kernel_rfl) ?_))
                have h0 : wrongIns d ((d.code.length : Int) - 1 - k) ⟨kd0, ia, ib, n, key⟩ = 1 := by simp [wrongIns, hk9]
                exact .one (.tmp rfl (.one (.d (dle_int (by rw [← hbad (by rw [h0]; decide), h0])))))
              · obtain ⟨kd, rfl⟩ := Int.eq_ofNat_of_zero_le (show 0 ≤ kd0 by omega)
                have hkd : kd < 10 := by omega
                have hcA := ok_has kd 114 hkd
                have hcB := ok_has kd 115 hkd
                have hcK := ok_has kd 107 hkd
                repeat (first | ((with_reducible apply stop_at 21); exact rfl) | ((with_reducible apply s1); exact rfl) | (with_reducible first | apply CW.seq | apply CW.block | apply CW.region | apply CW.draw | apply CW.skip | apply CW.exit | apply CW.ret | apply q_then | apply q_then_exit | apply q_then_ret | apply q_block | apply q_block_ret | apply q_block_hit | apply q_ret | apply q_end | apply q_loop_exit | apply q_loop_ret | apply q_loopT_exit | apply q_loopT_ret | apply RW.nil) | ((with_reducible apply s3); exact rfl; exact by_k) | ((with_reducible apply s2); exact rfl; exact by_k) | ((with_reducible apply s4); exact rfl) | ((with_reducible apply s5); (first | exact by_oa); exact by_g) | ((with_reducible apply CW.cond_t); exact rfl; exact by_ks) | ((with_reducible apply CW.cond_f); exact rfl; exact by_ks) | ((with_reducible apply q_block_miss); exact rfl) | (refine And.intro (show chk [] [] _ _ = true by kernel_rfl) ?_))
                refine Stop.cutk [(.s 9, .av (.d (dint (insA kd))))] [.s 1, .s 51, .s 52, .s 53, .s 7, .s 8, .s 10, .s 11, .s 12, .o 0, .o 1, .nx] ?_ ?_
                · unfold insA
                  cases hA : has kd 114
                  ·
                    repeat (first | ((with_reducible apply s1); exact rfl) | (with_reducible first | apply CW.seq | apply CW.block | apply CW.region | apply CW.draw | apply CW.skip | apply CW.exit | apply CW.ret | apply q_then | apply q_then_exit | apply q_then_ret | apply q_block | apply q_block_ret | apply q_block_hit | apply q_ret | apply q_end | apply q_loop_exit | apply q_loop_ret | apply q_loopT_exit | apply q_loopT_ret | apply RW.nil) | ((with_reducible apply s3); exact rfl; exact by_k) | ((with_reducible apply s2); exact rfl; exact by_k) | ((with_reducible apply s4); exact rfl) | ((with_reducible apply s5); (first | (focus ((with_reducible apply a_call); exact hcA; exact rfl; (repeat (first | exact SubsE.nil | (apply SubsE.cons; exact rfl; (first | exact .d (.refl _) | exact .d (.nil _) | exact .agg rfl (.refl _) | exact .pd | exact .ptr rfl); (first | exact trivial | exact ⟨rfl, trivial⟩)))); done)) | exact by_oa); exact by_g) | ((with_reducible apply CW.cond_t); exact rfl; exact by_ks) | ((with_reducible apply CW.cond_f); exact rfl; exact by_ks) | ((with_reducible apply q_block_miss); exact rfl) | (refine And.intro (show chk [] [] _ _ = true by kernel_rfl) ?_))
                    refine q_cut ?_
                    exact by_less
                  ·
                    repeat (first | ((with_reducible apply s1); exact rfl) | (with_reducible first | apply CW.seq | apply CW.block | apply CW.region | apply CW.draw | apply CW.skip | apply CW.exit | apply CW.ret | apply q_then | apply q_then_exit | apply q_then_ret | apply q_block | apply q_block_ret | apply q_block_hit | apply q_ret | apply q_end | apply q_loop_exit | apply q_loop_ret | apply q_loopT_exit | apply q_loopT_ret | apply RW.nil) | ((with_reducible apply s3); exact rfl; exact by_k) | ((with_reducible apply s2); exact rfl; exact by_k) | ((with_reducible apply s4); exact rfl) | ((with_reducible apply s5); (first | (focus ((with_reducible apply a_call); exact hcA; exact rfl; (repeat (first | exact SubsE.nil | (apply SubsE.cons; exact rfl; (first | exact .d (.refl _) | exact .d (.nil _) | exact .agg rfl (.refl _) | exact .pd | exact .ptr rfl); (first | exact trivial | exact ⟨rfl, trivial⟩)))); done)) | exact by_oa); exact by_g) | ((with_reducible apply CW.cond_t); exact rfl; exact by_ks) | ((with_reducible apply CW.cond_f); exact rfl; exact by_ks) | ((with_reducible apply q_block_miss); exact rfl) | (refine And.intro (show chk [] [] _ _ = true by kernel_rfl) ?_))
                    refine q_cut ?_
                    exact by_less
                repeat (first | ((with_reducible apply stop_at 23); exact rfl) | ((with_reducible apply s1); exact rfl) | (with_reducible first | apply CW.seq | apply CW.block | apply CW.region | apply CW.draw | apply CW.skip | apply CW.exit | apply CW.ret | apply q_then | apply q_then_exit | apply q_then_ret | apply q_block | apply q_block_ret | apply q_block_hit | apply q_ret | apply q_end | apply q_loop_exit | apply q_loop_ret | apply q_loopT_exit | apply q_loopT_ret | apply RW.nil) | ((with_reducible apply s3); exact rfl; exact by_k) | ((with_reducible apply s2); exact rfl; exact by_k) | ((with_reducible apply s4); exact rfl) | ((with_reducible apply s5); (first | exact by_oa); exact by_g) | ((with_reducible apply CW.cond_t); exact rfl; exact by_ks) | ((with_reducible apply CW.cond_f); exact rfl; exact by_ks) | ((with_reducible apply q_block_miss); exact rfl) | (refine And.intro (show chk [] [] _ _ = true by kernel_rfl) ?_))
                refine Stop.cutk [(.s 10, .av (.d (dint (insB kd))))] [.s 1, .s 51, .s 52, .s 53, .s 7, .s 8, .s 9, .s 11, .s 12, .o 0, .o 1, .nx] ?_ ?_
                · unfold insB
                  cases hA : has kd 115
                  ·
                    repeat (first | ((with_reducible apply s1); exact rfl) | (with_reducible first | apply CW.seq | apply CW.block | apply CW.region | apply CW.draw | apply CW.skip | apply CW.exit | apply CW.ret | apply q_then | apply q_then_exit | apply q_then_ret | apply q_block | apply q_block_ret | apply q_block_hit | apply q_ret | apply q_end | apply q_loop_exit | apply q_loop_ret | apply q_loopT_exit | apply q_loopT_ret | apply RW.nil) | ((with_reducible apply s3); exact rfl; exact by_k) | ((with_reducible apply s2); exact rfl; exact by_k) | ((with_reducible apply s4); exact rfl) | ((with_reducible apply s5); (first | (focus ((with_reducible apply a_call); exact hcB; exact rfl; (repeat (first | exact SubsE.nil | (apply SubsE.cons; exact rfl; (first | exact .d (.refl _) | exact .d (.nil _) | exact .agg rfl (.refl _) | exact .pd | exact .ptr rfl); (first | exact trivial | exact ⟨rfl, trivial⟩)))); done)) | exact by_oa); exact by_g) | ((with_reducible apply CW.cond_t); exact rfl; exact by_ks) | ((with_reducible apply CW.cond_f); exact rfl; exact by_ks) | ((with_reducible apply q_block_miss); exact rfl) | (refine And.intro (show chk [] [] _ _ = true by kernel_rfl) ?_))
                    refine q_cut ?_
                    exact by_less
                  ·
                    repeat (first | ((with_reducible apply s1); exact rfl) | (with_reducible first | apply CW.seq | apply CW.block | apply CW.region | apply CW.draw | apply CW.skip | apply CW.exit | apply CW.ret | apply q_then | apply q_then_exit | apply q_then_ret | apply q_block | apply q_block_ret | apply q_block_hit | apply q_ret | apply q_end | apply q_loop_exit | apply q_loop_ret | apply q_loopT_exit | apply q_loopT_ret | apply RW.nil) | ((with_reducible apply s3); exact rfl; exact by_k) | ((with_reducible apply s2); exact rfl; exact by_k) | ((with_reducible apply s4); exact rfl) | ((with_reducible apply s5); (first | (focus ((with_reducible apply a_call); exact hcB; exact rfl; (repeat (first | exact SubsE.nil | (apply SubsE.cons; exact rfl; (first | exact .d (.refl _) | exact .d (.nil _) | exact .agg rfl (.refl _) | exact .pd | exact .ptr rfl); (first | exact trivial | exact ⟨rfl, trivial⟩)))); done)) | exact by_oa); exact by_g) | ((with_reducible apply CW.cond_t); exact rfl; exact by_ks) | ((with_reducible apply CW.cond_f); exact rfl; exact by_ks) | ((with_reducible apply q_block_miss); exact rfl) | (refine And.intro (show chk [] [] _ _ = true by kernel_rfl) ?_))
                    refine q_cut ?_
                    exact by_less
                repeat (first | ((with_reducible apply stop_at 25); exact rfl) | ((with_reducible apply s1); exact rfl) | (with_reducible first | apply CW.seq | apply CW.block | apply CW.region | apply CW.draw | apply CW.skip | apply CW.exit | apply CW.ret | apply q_then | apply q_then_exit | apply q_then_ret | apply q_block | apply q_block_ret | apply q_block_hit | apply q_ret | apply q_end | apply q_loop_exit | apply q_loop_ret | apply q_loopT_exit | apply q_loopT_ret | apply RW.nil) | ((with_reducible apply s3); exact rfl; exact by_k) | ((with_reducible apply s2); exact rfl; exact by_k) | ((with_reducible apply s4); exact rfl) | ((with_reducible apply s5); (first | exact by_oa); exact by_g) | ((with_reducible apply CW.cond_t); exact rfl; exact by_ks) | ((with_reducible apply CW.cond_f); exact rfl; exact by_ks) | ((with_reducible apply q_block_miss); exact rfl) | (refine And.intro (show chk [] [] _ _ = true by kernel_rfl) ?_))
                refine Stop.cutk [(.s 11, .av (.d (dint (if kd = 2 then -1073741824 else 0)))), (.s 12, .av (.d (dint (if kd = 2 then 1073741824 else 0))))] [.s 1, .s 51, .s 52, .s 53, .s 7, .s 8, .s 9, .s 10, .o 0, .o 1, .nx] ?_ ?_
                · by_cases hA : kd = 2
                  · rw [if_pos hA, if_pos hA]
                    repeat (first | ((with_reducible apply s1); exact rfl) | (with_reducible first | apply CW.seq | apply CW.block | apply CW.region | apply CW.draw | apply CW.skip | apply CW.exit | apply CW.ret | apply q_then | apply q_then_exit | apply q_then_ret | apply q_block | apply q_block_ret | apply q_block_hit | apply q_ret | apply q_end | apply q_loop_exit | apply q_loop_ret | apply q_loopT_exit | apply q_loopT_ret | apply RW.nil) | ((with_reducible apply s3); exact rfl; exact by_k) | ((with_reducible apply s2); exact rfl; exact by_k) | ((with_reducible apply s4); exact rfl) | ((with_reducible apply s5); (first | exact by_oa); exact by_g) | ((with_reducible apply CW.cond_t); exact rfl; exact by_ks) | ((with_reducible apply CW.cond_f); exact rfl; exact by_ks) | ((with_reducible apply q_block_miss); exact rfl) | (refine And.intro (show chk [] [] _ _ = true by kernel_rfl) ?_))
                    refine q_cut ?_
                    exact by_less
                  · rw [if_neg hA, if_neg hA]
                    repeat (first | ((with_reducible apply s1); exact rfl) | (with_reducible first | apply CW.seq | apply CW.block | apply CW.region | apply CW.draw | apply CW.skip | apply CW.exit | apply CW.ret | apply q_then | apply q_then_exit | apply q_then_ret | apply q_block | apply q_block_ret | apply q_block_hit | apply q_ret | apply q_end | apply q_loop_exit | apply q_loop_ret | apply q_loopT_exit | apply q_loopT_ret | apply RW.nil) | ((with_reducible apply s3); exact rfl; exact by_k) | ((with_reducible apply s2); exact rfl; exact by_k) | ((with_reducible apply s4); exact rfl) | ((with_reducible apply s5); (first | exact by_oa); exact by_g) | ((with_reducible apply CW.cond_t); exact rfl; exact by_ks) | ((with_reducible apply CW.cond_f); exact rfl; exact by_ks) | ((with_reducible apply q_block_miss); exact rfl) | (refine And.intro (show chk [] [] _ _ = true by kernel_rfl) ?_))
                    refine q_cut ?_
                    exact by_less
                repeat (first | ((with_reducible apply stop_at 27); exact rfl) | ((with_reducible apply s1); exact rfl) | (with_reducible first | apply CW.seq | apply CW.block | apply CW.region | apply CW.draw | apply CW.skip | apply CW.exit | apply CW.ret | apply q_then | apply q_then_exit | apply q_then_ret | apply q_block | apply q_block_ret | apply q_block_hit | apply q_ret | apply q_end | apply q_loop_exit | apply q_loop_ret | apply q_loopT_exit | apply q_loopT_ret | apply RW.nil) | ((with_reducible apply s3); exact rfl; exact by_k) | ((with_reducible apply s2); exact rfl; exact by_k) | ((with_reducible apply s4); exact rfl) | ((with_reducible apply s5); (first | exact by_oa); exact by_g) | ((with_reducible apply CW.cond_t); exact rfl; exact by_ks) | ((with_reducible apply CW.cond_f); exact rfl; exact by_ks) | ((with_reducible apply q_block_miss); exact rfl) | (refine And.intro (show chk [] [] _ _ = true by kernel_rfl) ?_))
                refine Stop.cutk [(.s 11, .av (.d (dint (insLow kd)))), (.s 12, .av (.d (dint (insHigh kd ((d.code.length : Int) - 1 - k)))))] [.s 1, .s 51, .s 52, .s 53, .s 7, .s 8, .s 9, .s 10, .o 0, .o 1, .nx] ?_ ?_
                · by_cases hA : kd = 8
                  · have hB : ¬ kd = 2 := by omega
                    rw [insLow, insHigh, if_neg hB, if_neg hB, if_neg hB, if_neg hB, if_pos hA, if_pos hA]
                    repeat (first | ((with_reducible apply st_bin); exact rfl; exact rfl; (apply bin_sub; simp only [List.length_map]; omega); exact .none rfl; exact rfl) | ((with_reducible apply s1); exact rfl) | (with_reducible first | apply CW.seq | apply CW.block | apply CW.region | apply CW.draw | apply CW.skip | apply CW.exit | apply CW.ret | apply q_then | apply q_then_exit | apply q_then_ret | apply q_block | apply q_block_ret | apply q_block_hit | apply q_ret | apply q_end | apply q_loop_exit | apply q_loop_ret | apply q_loopT_exit | apply q_loopT_ret | apply RW.nil) | ((with_reducible apply s3); exact rfl; exact by_k) | ((with_reducible apply s2); exact rfl; exact by_k) | ((with_reducible apply s4); exact rfl) | ((with_reducible apply s5); (first | exact by_oa); exact by_g) | ((with_reducible apply CW.cond_t); exact rfl; exact by_ks) | ((with_reducible apply CW.cond_f); exact rfl; exact by_ks) | ((with_reducible apply q_block_miss); exact rfl) | (refine And.intro (show chk [] [] _ _ = true by kernel_rfl) ?_))
                    refine q_cut ?_
                    exact by_less
                  · rw [insLow, insHigh, if_neg hA, if_neg hA]
                    repeat (first | ((with_reducible apply s1); exact rfl) | (with_reducible first | apply CW.seq | apply CW.block | apply CW.region | apply CW.draw | apply CW.skip | apply CW.exit | apply CW.ret | apply q_then | apply q_then_exit | apply q_then_ret | apply q_block | apply q_block_ret | apply q_block_hit | apply q_ret | apply q_end | apply q_loop_exit | apply q_loop_ret | apply q_loopT_exit | apply q_loopT_ret | apply RW.nil) | ((with_reducible apply s3); exact rfl; exact by_k) | ((with_reducible apply s2); exact rfl; exact by_k) | ((with_reducible apply s4); exact rfl) | ((with_reducible apply s5); (first | exact by_oa); exact by_g) | ((with_reducible apply CW.cond_t); exact rfl; exact by_ks) | ((with_reducible apply CW.cond_f); exact rfl; exact by_ks) | ((with_reducible apply q_block_miss); exact rfl) | (refine And.intro (show chk [] [] _ _ = true by kernel_rfl) ?_))
                    refine q_cut ?_
                    exact by_less
                repeat (first | (with_reducible apply stop_reg 29) | ((with_reducible apply s1); exact rfl) | (with_reducible first | apply CW.seq | apply CW.block | apply CW.region | apply CW.draw | apply CW.skip | apply CW.exit | apply CW.ret | apply q_then | apply q_then_exit | apply q_then_ret | apply q_block | apply q_block_ret | apply q_block_hit | apply q_ret | apply q_end | apply q_loop_exit | apply q_loop_ret | apply q_loopT_exit | apply q_loopT_ret | apply RW.nil) | ((with_reducible apply s3); exact rfl; exact by_k) | ((with_reducible apply s2); exact rfl; exact by_k) | ((with_reducible apply s4); exact rfl) | ((with_reducible apply s5); (first | exact by_oa); exact by_g) | ((with_reducible apply CW.cond_t); exact rfl; exact by_ks) | ((with_reducible apply CW.cond_f); exact rfl; exact by_ks) | ((with_reducible apply q_block_miss); exact rfl) | (refine And.intro (show chk [] [] _ _ = true by kernel_rfl) ?_))
                refine Stop.cutk [(.s 115, .av (.d (dbool (insOut kd ia ib n ((d.code.length : Int) - 1 - k)))))] [.s 1, .s 51, .s 52, .s 53, .s 8, .o 0, .o 1, .nx] ?_ ?_
                · unfold insOut
                  by_cases c1 : ia < 0
                  · rw [decide_eq_true c1]
                    repeat (first | ((with_reducible apply s1); exact rfl) | (with_reducible first | apply CW.seq | apply CW.block | apply CW.region | apply CW.draw | apply CW.skip | apply CW.exit | apply CW.ret | apply q_then | apply q_then_exit | apply q_then_ret | apply q_block | apply q_block_ret | apply q_block_hit | apply q_ret | apply q_end | apply q_loop_exit | apply q_loop_ret | apply q_loopT_exit | apply q_loopT_ret | apply RW.nil) | ((with_reducible apply s3); exact rfl; exact by_k) | ((with_reducible apply s2); exact rfl; exact by_k) | ((with_reducible apply s4); exact rfl) | ((with_reducible apply s5); (first | exact by_oa); exact by_g) | ((with_reducible apply CW.cond_t); exact rfl; exact by_ks) | ((with_reducible apply CW.cond_f); exact rfl; exact by_ks) | ((with_reducible apply q_block_miss); exact rfl) | (refine And.intro (show chk [] [] _ _ = true by kernel_rfl) ?_))
                    refine q_cut ?_
                    exact by_less
                  rw [decide_eq_false c1, Bool.false_or]
                  by_cases c2 : insA kd < ia
                  · rw [decide_eq_true c2]
                    repeat (first | ((with_reducible apply s1); exact rfl) | (with_reducible first | apply CW.seq | apply CW.block | apply CW.region | apply CW.draw | apply CW.skip | apply CW.exit | apply CW.ret | apply q_then | apply q_then_exit | apply q_then_ret | apply q_block | apply q_block_ret | apply q_block_hit | apply q_ret | apply q_end | apply q_loop_exit | apply q_loop_ret | apply q_loopT_exit | apply q_loopT_ret | apply RW.nil) | ((with_reducible apply s3); exact rfl; exact by_k) | ((with_reducible apply s2); exact rfl; exact by_k) | ((with_reducible apply s4); exact rfl) | ((with_reducible apply s5); (first | exact by_oa); exact by_g) | ((with_reducible apply CW.cond_t); exact rfl; exact by_ks) | ((with_reducible apply CW.cond_f); exact rfl; exact by_ks) | ((with_reducible apply q_block_miss); exact rfl) | (refine And.intro (show chk [] [] _ _ = true by kernel_rfl) ?_))
                    refine q_cut ?_
                    exact by_less
                  rw [decide_eq_false c2, Bool.false_or]
                  by_cases c3 : ib < 0
                  · rw [decide_eq_true c3]
                    repeat (first | ((with_reducible apply s1); exact rfl) | (with_reducible first | apply CW.seq | apply CW.block | apply CW.region | apply CW.draw | apply CW.skip | apply CW.exit | apply CW.ret | apply q_then | apply q_then_exit | apply q_then_ret | apply q_block | apply q_block_ret | apply q_block_hit | apply q_ret | apply q_end | apply q_loop_exit | apply q_loop_ret | apply q_loopT_exit | apply q_loopT_ret | apply RW.nil) | ((with_reducible apply s3); exact rfl; exact by_k) | ((with_reducible apply s2); exact rfl; exact by_k) | ((with_reducible apply s4); exact rfl) | ((with_reducible apply s5); (first | exact by_oa); exact by_g) | ((with_reducible apply CW.cond_t); exact rfl; exact by_ks) | ((with_reducible apply CW.cond_f); exact rfl; exact by_ks) | ((with_reducible apply q_block_miss); exact rfl) | (refine And.intro (show chk [] [] _ _ = true by kernel_rfl) ?_))
                    refine q_cut ?_
                    exact by_less
                  rw [decide_eq_false c3, Bool.false_or]
                  by_cases c4 : insB kd < ib
                  · rw [decide_eq_true c4]
                    repeat (first | ((with_reducible apply s1); exact rfl) | (with_reducible first | apply CW.seq | apply CW.block | apply CW.region | apply CW.draw | apply CW.skip | apply CW.exit | apply CW.ret | apply q_then | apply q_then_exit | apply q_then_ret | apply q_block | apply q_block_ret | apply q_block_hit | apply q_ret | apply q_end | apply q_loop_exit | apply q_loop_ret | apply q_loopT_exit | apply q_loopT_ret | apply RW.nil) | ((with_reducible apply s3); exact rfl; exact by_k) | ((with_reducible apply s2); exact rfl; exact by_k) | ((with_reducible apply s4); exact rfl) | ((with_reducible apply s5); (first | exact by_oa); exact by_g) | ((with_reducible apply CW.cond_t); exact rfl; exact by_ks) | ((with_reducible apply CW.cond_f); exact rfl; exact by_ks) | ((with_reducible apply q_block_miss); exact rfl) | (refine And.intro (show chk [] [] _ _ = true by kernel_rfl) ?_))
                    refine q_cut ?_
                    exact by_less
                  rw [decide_eq_false c4, Bool.false_or]
                  by_cases c5 : n < insLow kd
                  · rw [decide_eq_true c5]
                    repeat (first | ((with_reducible apply s1); exact rfl) | (with_reducible first | apply CW.seq | apply CW.block | apply CW.region | apply CW.draw | apply CW.skip | apply CW.exit | apply CW.ret | apply q_then | apply q_then_exit | apply q_then_ret | apply q_block | apply q_block_ret | apply q_block_hit | apply q_ret | apply q_end | apply q_loop_exit | apply q_loop_ret | apply q_loopT_exit | apply q_loopT_ret | apply RW.nil) | ((with_reducible apply s3); exact rfl; exact by_k) | ((with_reducible apply s2); exact rfl; exact by_k) | ((with_reducible apply s4); exact rfl) | ((with_reducible apply s5); (first | exact by_oa); exact by_g) | ((with_reducible apply CW.cond_t); exact rfl; exact by_ks) | ((with_reducible apply CW.cond_f); exact rfl; exact by_ks) | ((with_reducible apply q_block_miss); exact rfl) | (refine And.intro (show chk [] [] _ _ = true by kernel_rfl) ?_))
                    refine q_cut ?_
                    exact by_less
                  rw [decide_eq_false c5, Bool.false_or]
                  repeat (first | ((with_reducible apply s1); exact rfl) | (with_reducible first | apply CW.seq | apply CW.block | apply CW.region | apply CW.draw | apply CW.skip | apply CW.exit | apply CW.ret | apply q_then | apply q_then_exit | apply q_then_ret | apply q_block | apply q_block_ret | apply q_block_hit | apply q_ret | apply q_end | apply q_loop_exit | apply q_loop_ret | apply q_loopT_exit | apply q_loopT_ret | apply RW.nil) | ((with_reducible apply s3); exact rfl; exact by_k) | ((with_reducible apply s2); exact rfl; exact by_k) | ((with_reducible apply s4); exact rfl) | ((with_reducible apply s5); (first | exact by_oa); exact by_g) | ((with_reducible apply CW.cond_t); exact rfl; exact by_ks) | ((with_reducible apply CW.cond_f); exact rfl; exact by_ks) | ((with_reducible apply q_block_miss); exact rfl) | (refine And.intro (show chk [] [] _ _ = true by kernel_rfl) ?_))
                  refine q_cut ?_
                  exact by_less
                have hw0 : wrongIns d ((d.code.length : Int) - 1 - k) ⟨kd, ia, ib, n, key⟩ = if insOut kd ia ib n ((d.code.length : Int) - 1 - k) = true then 3 else if has kd 107 = false then (if key = [] then 0 else 2)
                    else if isIn (if (kd : Int) = 1 then d.reads else d.writes) key = true then 0 else 9 := by
                  rw [wrongIns, if_neg (by show ¬ ((kd : Int) < 1 ∨ 9 < (kd : Int)); omega)]
                  rfl
                have hcr := ok_in d.reads key (by omega)
                have hcw := ok_in d.writes key (by omega)
                cases hO : insOut kd ia ib n ((d.code.length : Int) - 1 - k)
                · rw [if_neg (by simp [hO])] at hw0
                  cases hK : has kd 107
                  · rw [if_pos hK] at hw0
                    by_cases hkey : key = []
                    · rw [if_pos hkey] at hw0
                      repeat (first | ((with_reducible apply s1); exact rfl) | (with_reducible first | apply CW.seq | apply CW.block | apply CW.region | apply CW.draw | apply CW.skip | apply CW.exit | apply CW.ret | apply q_then | apply q_then_exit | apply q_then_ret | apply q_block | apply q_block_ret | apply q_block_hit | apply q_ret | apply q_end | apply q_loop_exit | apply q_loop_ret | apply q_loopT_exit | apply q_loopT_ret | apply RW.nil) | ((with_reducible apply s3); exact rfl; exact by_k) | ((with_reducible apply s2); exact rfl; exact by_k) | ((with_reducible apply s4); exact rfl) | ((with_reducible apply s5); (first | (focus ((with_reducible apply a_call); exact hcK; exact rfl; (repeat (first | exact SubsE.nil | (apply SubsE.cons; exact rfl; (first | exact .d (.refl _) | exact .d (.nil _) | exact .agg rfl (.refl _) | exact .pd | exact .ptr rfl); (first | exact trivial | exact ⟨rfl, trivial⟩)))); done)) | exact by_oa); exact by_g) | ((with_reducible apply CW.cond_t); exact rfl; exact by_ks) | ((with_reducible apply CW.cond_f); exact rfl; exact by_ks) | ((with_reducible apply q_block_miss); exact rfl) | (refine And.intro (show chk [] [] _ _ = true by kernel_rfl) ?_))
                      refine q_loopT (k + 1) ⟨by omega, hgood hw0⟩ (by omega) ?_
                      exact by_less
                    · rw [if_neg hkey] at hw0
                      repeat (first | ((with_reducible apply s1); exact rfl) | (with_reducible first | apply CW.seq | apply CW.block | apply CW.region | apply CW.draw | apply CW.skip | apply CW.exit | apply CW.ret | apply q_then | apply q_then_exit | apply q_then_ret | apply q_block | apply q_block_ret | apply q_block_hit | apply q_ret | apply q_end | apply q_loop_exit | apply q_loop_ret | apply q_loopT_exit | apply q_loopT_ret | apply RW.nil) | ((with_reducible apply s3); exact rfl; exact by_k) | ((with_reducible apply s2); exact rfl; exact by_k) | ((with_reducible apply s4); exact rfl) | ((with_reducible apply s5); (first | (focus ((with_reducible apply a_call); exact hcK; exact rfl; (repeat (first | exact SubsE.nil | (apply SubsE.cons; exact rfl; (first | exact .d (.refl _) | exact .d (.nil _) | exact .agg rfl (.refl _) | exact .pd | exact .ptr rfl); (first | exact trivial | exact ⟨rfl, trivial⟩)))); done)) | exact by_oa); exact by_g) | ((with_reducible apply CW.cond_t); exact rfl; exact by_ks) | ((with_reducible apply CW.cond_f); exact rfl; exact by_ks) | ((with_reducible apply q_block_miss); exact rfl) | (refine And.intro (show chk [] [] _ _ = true by kernel_rfl) ?_))
                      exact .one (.tmp rfl (.one (.d (dle_int (by rw [← hbad (by rw [hw0]; decide), hw0])))))
                  · rw [if_neg (by simp [hK])] at hw0
                    by_cases hk1' : (kd : Int) = 1
                    · rw [if_pos hk1'] at hw0
                      cases hin : isIn d.reads key
                      · rw [if_neg (by simp [hin])] at hw0
                        repeat (first | ((with_reducible apply s1); exact rfl) | (with_reducible first | apply CW.seq | apply CW.block | apply CW.region | apply CW.draw | apply CW.skip | apply CW.exit | apply CW.ret | apply q_then | apply q_then_exit | apply q_then_ret | apply q_block | apply q_block_ret | apply q_block_hit | apply q_ret | apply q_end | apply q_loop_exit | apply q_loop_ret | apply q_loopT_exit | apply q_loopT_ret | apply RW.nil) | ((with_reducible apply s3); exact rfl; exact by_k) | ((with_reducible apply s2); exact rfl; exact by_k) | ((with_reducible apply s4); exact rfl) | ((with_reducible apply s5); (first | (focus ((with_reducible apply a_call); exact hcK; exact rfl; (repeat (first | exact SubsE.nil | (apply SubsE.cons; exact rfl; (first | exact .d (.refl _) | exact .d (.nil _) | exact .agg rfl (.refl _) | exact .pd | exact .ptr rfl); (first | exact trivial | exact ⟨rfl, trivial⟩)))); done)) | (focus ((with_reducible apply a_call); exact hcr; exact rfl; (repeat (first | exact SubsE.nil | (apply SubsE.cons; exact rfl; (first | exact .d (.refl _) | exact .d (.nil _) | exact .agg rfl (.refl _) | exact .pd | exact .ptr rfl); (first | exact trivial | exact ⟨rfl, trivial⟩)))); done)) | exact by_oa); exact by_g) | ((with_reducible apply CW.cond_t); exact rfl; exact by_ks) | ((with_reducible apply CW.cond_f); exact rfl; exact by_ks) | ((with_reducible apply q_block_miss); exact rfl) | (refine And.intro (show chk [] [] _ _ = true by kernel_rfl) ?_))
                        exact .one (.tmp rfl (.one (.d (dle_int (by rw [← hbad (by rw [hw0]; decide), hw0])))))
                      · rw [if_pos hin] at hw0
                        repeat (first | ((with_reducible apply s1); exact rfl) | (with_reducible first | apply CW.seq | apply CW.block | apply CW.region | apply CW.draw | apply CW.skip | apply CW.exit | apply CW.ret | apply q_then | apply q_then_exit | apply q_then_ret | apply q_block | apply q_block_ret | apply q_block_hit | apply q_ret | apply q_end | apply q_loop_exit | apply q_loop_ret | apply q_loopT_exit | apply q_loopT_ret | apply RW.nil) | ((with_reducible apply s3); exact rfl; exact by_k) | ((with_reducible apply s2); exact rfl; exact by_k) | ((with_reducible apply s4); exact rfl) | ((with_reducible apply s5); (first | (focus ((with_reducible apply a_call); exact hcK; exact rfl; (repeat (first | exact SubsE.nil | (apply SubsE.cons; exact rfl; (first | exact .d (.refl _) | exact .d (.nil _) | exact .agg rfl (.refl _) | exact .pd | exact .ptr rfl); (first | exact trivial | exact ⟨rfl, trivial⟩)))); done)) | (focus ((with_reducible apply a_call); exact hcr; exact rfl; (repeat (first | exact SubsE.nil | (apply SubsE.cons; exact rfl; (first | exact .d (.refl _) | exact .d (.nil _) | exact .agg rfl (.refl _) | exact .pd | exact .ptr rfl); (first | exact trivial | exact ⟨rfl, trivial⟩)))); done)) | exact by_oa); exact by_g) | ((with_reducible apply CW.cond_t); exact rfl; exact by_ks) | ((with_reducible apply CW.cond_f); exact rfl; exact by_ks) | ((with_reducible apply q_block_miss); exact rfl) | (refine And.intro (show chk [] [] _ _ = true by kernel_rfl) ?_))
                        refine q_loopT (k + 1) ⟨by omega, hgood hw0⟩ (by omega) ?_
                        exact by_less
                    · rw [if_neg hk1'] at hw0
                      cases hin : isIn d.writes key
                      · rw [if_neg (by simp [hin])] at hw0
                        repeat (first | ((with_reducible apply s1); exact rfl) | (with_reducible first | apply CW.seq | apply CW.block | apply CW.region | apply CW.draw | apply CW.skip | apply CW.exit | apply CW.ret | apply q_then | apply q_then_exit | apply q_then_ret | apply q_block | apply q_block_ret | apply q_block_hit | apply q_ret | apply q_end | apply q_loop_exit | apply q_loop_ret | apply q_loopT_exit | apply q_loopT_ret | apply RW.nil) | ((with_reducible apply s3); exact rfl; exact by_k) | ((with_reducible apply s2); exact rfl; exact by_k) | ((with_reducible apply s4); exact rfl) | ((with_reducible apply s5); (first | (focus ((with_reducible apply a_call); exact hcK; exact rfl; (repeat (first | exact SubsE.nil | (apply SubsE.cons; exact rfl; (first | exact .d (.refl _) | exact .d (.nil _) | exact .agg rfl (.refl _) | exact .pd | exact .ptr rfl); (first | exact trivial | exact ⟨rfl, trivial⟩)))); done)) | (focus ((with_reducible apply a_call); exact hcw; exact rfl; (repeat (first | exact SubsE.nil | (apply SubsE.cons; exact rfl; (first | exact .d (.refl _) | exact .d (.nil _) | exact .agg rfl (.refl _) | exact .pd | exact .ptr rfl); (first | exact trivial | exact ⟨rfl, trivial⟩)))); done)) | exact by_oa); exact by_g) | ((with_reducible apply CW.cond_t); exact rfl; exact by_ks) | ((with_reducible apply CW.cond_f); exact rfl; exact by_ks) | ((with_reducible apply q_block_miss); exact rfl) | (refine And.intro (show chk [] [] _ _ = true by kernel_rfl) ?_))
                        exact .one (.tmp rfl (.one (.d (dle_int (by rw [← hbad (by rw [hw0]; decide), hw0])))))
                      · rw [if_pos hin] at hw0
                        repeat (first | ((with_reducible apply s1); exact rfl) | (with_reducible first | apply CW.seq | apply CW.block | apply CW.region | apply CW.draw | apply CW.skip | apply CW.exit | apply CW.ret | apply q_then | apply q_then_exit | apply q_then_ret | apply q_block | apply q_block_ret | apply q_block_hit | apply q_ret | apply q_end | apply q_loop_exit | apply q_loop_ret | apply q_loopT_exit | apply q_loopT_ret | apply RW.nil) | ((with_reducible apply s3); exact rfl; exact by_k) | ((with_reducible apply s2); exact rfl; exact by_k) | ((with_reducible apply s4); exact rfl) | ((with_reducible apply s5); (first | (focus ((with_reducible apply a_call); exact hcK; exact rfl; (repeat (first | exact SubsE.nil | (apply SubsE.cons; exact rfl; (first | exact .d (.refl _) | exact .d (.nil _) | exact .agg rfl (.refl _) | exact .pd | exact .ptr rfl); (first | exact trivial | exact ⟨rfl, trivial⟩)))); done)) | (focus ((with_reducible apply a_call); exact hcw; exact rfl; (repeat (first | exact SubsE.nil | (apply SubsE.cons; exact rfl; (first | exact .d (.refl _) | exact .d (.nil _) | exact .agg rfl (.refl _) | exact .pd | exact .ptr rfl); (first | exact trivial | exact ⟨rfl, trivial⟩)))); done)) | exact by_oa); exact by_g) | ((with_reducible apply CW.cond_t); exact rfl; exact by_ks) | ((with_reducible apply CW.cond_f); exact rfl; exact by_ks) | ((with_reducible apply q_block_miss); exact rfl) | (refine And.intro (show chk [] [] _ _ = true by kernel_rfl) ?_))
                        refine q_loopT (k + 1) ⟨by omega, hgood hw0⟩ (by omega) ?_
                        exact by_less
                · rw [if_pos hO] at hw0
                  repeat (first | ((with_reducible apply s1); exact rfl) | (with_reducible first | apply CW.seq | apply CW.block | apply CW.region | apply CW.draw | apply CW.skip | apply CW.exit | apply CW.ret | apply q_then | apply q_then_exit | apply q_then_ret | apply q_block | apply q_block_ret | apply q_block_hit | apply q_ret | apply q_end | apply q_loop_exit | apply q_loop_ret | apply q_loopT_exit | apply q_loopT_ret | apply RW.nil) | ((with_reducible apply s3); exact rfl; exact by_k) | ((with_reducible apply s2); exact rfl; exact by_k) | ((with_reducible apply s4); exact rfl) | ((with_reducible apply s5); (first | exact by_oa); exact by_g) | ((with_reducible apply CW.cond_t); exact rfl; exact by_ks) | ((with_reducible apply CW.cond_f); exact rfl; exact by_ks) | ((with_reducible apply q_block_miss); exact rfl) | (refine And.intro (show chk [] [] _ _ = true by kernel_rfl) ?_))
                  exact .one (.tmp rfl (.one (.d (dle_int (by rw [← hbad (by rw [hw0]; decide), hw0])))))
    · have h3' : j < 2 := h3
      rw [h1] at hI
      have hl : l.length ≤ 268435456 ∧ ∀ s ∈ l, s.length ≤ 1073741824 := by
        have := List.mem_of_getElem? h2
        simp at this
        rcases this with rfl | rfl
        · exact ⟨hr, hrk⟩
        · exact ⟨hw, hwk⟩
      have hbad : keysWrong l ≠ 0 → keysWrong l = wrongDeed d := fun h0 => by
        rcases ls_first hI with ⟨h5, h6⟩ | ⟨h5, h6⟩
        · exact absurd h5 h0
        · rw [wrongDeed, if_neg (by rw [← h6]; exact h0), h6]
      by_cases h4 : 5 < l.length
      · have h6 : keysWrong l = 5 := by rw [keysWrong, if_pos h4]
        repeat (first | ((with_reducible apply s1); exact rfl) | (with_reducible first | apply CW.seq | apply CW.block | apply CW.region | apply CW.draw | apply CW.skip | apply CW.exit | apply CW.ret | apply q_then | apply q_then_exit | apply q_then_ret | apply q_block | apply q_block_ret | apply q_block_hit | apply q_ret | apply q_end | apply q_loop_exit | apply q_loop_ret | apply q_loopT_exit | apply q_loopT_ret | apply RW.nil) | ((with_reducible apply s3); exact rfl; exact by_k) | ((with_reducible apply s2); exact rfl; exact by_k) | ((with_reducible apply s4); exact rfl) | ((with_reducible apply s5); (first | exact by_oa); exact by_g) | ((with_reducible apply CW.cond_t); exact rfl; exact by_ks) | ((with_reducible apply CW.cond_f); exact rfl; exact by_ks) | ((with_reducible apply q_block_miss); exact rfl) | (refine And.intro (show chk [] [] _ _ = true by kernel_rfl) ?_))
        exact .one (.tmp rfl (.one (.d (dle_int (by rw [← h6]; exact hbad (by rw [h6]; decide))))))
      ·
        repeat (first | ((with_reducible apply s1); exact rfl) | (with_reducible first | apply CW.seq | apply CW.block | apply CW.region | apply CW.draw | apply CW.skip | apply CW.exit | apply CW.ret | apply q_then | apply q_then_exit | apply q_then_ret | apply q_block | apply q_block_ret | apply q_block_hit | apply q_ret | apply q_end | apply q_loop_exit | apply q_loop_ret | apply q_loopT_exit | apply q_loopT_ret | apply RW.nil) | ((with_reducible apply s3); exact rfl; exact by_k) | ((with_reducible apply s2); exact rfl; exact by_k) | ((with_reducible apply s4); exact rfl) | ((with_reducible apply s5); (first | exact by_oa); exact by_g) | ((with_reducible apply CW.cond_t); exact rfl; exact by_ks) | ((with_reducible apply CW.cond_f); exact rfl; exact by_ks) | ((with_reducible apply q_block_miss); exact rfl) | (refine And.intro (show chk [] [] _ _ = true by kernel_rfl) ?_))
        refine CW.loopT (fun i : Nat => [(.s 1, .av (.ptr 0 0)), (.o 0, .ob (.box (d.enc.map AV.d))), (.s 18, .av (.d (.sl 1 ([d.reads, d.writes].map fun l => [encStrs l])))), (.s 19, .av (.d (dint 2))), (.s 20, .av (.d (dint j))), (.s 4, .av (.d (encStrs l))), (.s 27, .av (.d (encStrs l))), (.s 28, .av (.d (dint l.length))), (.s 29, .av (.d (dint i))), (.nx, .num 1)])
          (fun i => i ≤ l.length ∧ keysGo l i (l.drop i) = keysWrong l) (fun i => l.length - i) 0 ⟨by omega, by rw [keysWrong, if_neg h4]; rfl⟩ ?_ ?_
        ·
          exact by_less
        · rintro i ⟨hi, hJ⟩
          rcases drop_case hi with ⟨h5, h6⟩ | ⟨k, h5, h6, h7⟩
          · rw [h5] at hJ
            simp only [keysGo] at hJ
            repeat (first | ((with_reducible apply s1); exact rfl) | (with_reducible first | apply CW.seq | apply CW.block | apply CW.region | apply CW.draw | apply CW.skip | apply CW.exit | apply CW.ret | apply q_then | apply q_then_exit | apply q_then_ret | apply q_block | apply q_block_ret | apply q_block_hit | apply q_ret | apply q_end | apply q_loop_exit | apply q_loop_ret | apply q_loopT_exit | apply q_loopT_ret | apply RW.nil) | ((with_reducible apply s3); exact rfl; exact by_k) | ((with_reducible apply s2); exact rfl; exact by_k) | ((with_reducible apply s4); exact rfl) | ((with_reducible apply s5); (first | exact by_oa); exact by_g) | ((with_reducible apply CW.cond_t); exact rfl; exact by_ks) | ((with_reducible apply CW.cond_f); exact rfl; exact by_ks) | ((with_reducible apply q_block_miss); exact rfl) | (refine And.intro (show chk [] [] _ _ = true by kernel_rfl) ?_))
            refine q_loopT (j + 1) ⟨by simp; omega, ?_⟩ (by omega) ?_
            · rcases ls_first hI with ⟨h8, h9⟩ | ⟨h8, h9⟩
              · exact h9
              · exact absurd hJ.symm h8
            ·
              exact by_less
          · rw [h5] at hJ
            simp only [keysGo] at hJ
            have hck := ok_key k (hl.2 k (List.mem_of_getElem? h6))
            have hin : FnOk Tryd.prog 13 [.d (.sl 1 ((l.map encStr1).take i)), .d (dstr k)] (.one (dbool (isIn (l.take i) k))) := by
              rw [← List.map_take]
              exact ok_in (l.take i) k (by rw [List.length_take]; have := hl.1; omega)
            cases h8 : key k
            · rw [if_pos h8] at hJ
              repeat (first | ((with_reducible apply s1); exact rfl) | (with_reducible first | apply CW.seq | apply CW.block | apply CW.region | apply CW.draw | apply CW.skip | apply CW.exit | apply CW.ret | apply q_then | apply q_then_exit | apply q_then_ret | apply q_block | apply q_block_ret | apply q_block_hit | apply q_ret | apply q_end | apply q_loop_exit | apply q_loop_ret | apply q_loopT_exit | apply q_loopT_ret | apply RW.nil) | ((with_reducible apply s3); exact rfl; exact by_k) | ((with_reducible apply s2); exact rfl; exact by_k) | ((with_reducible apply s4); exact rfl) | ((with_reducible apply s5); (first | (focus ((with_reducible apply a_call); exact hck; exact rfl; (repeat (first | exact SubsE.nil | (apply SubsE.cons; exact rfl; (first | exact .d (.refl _) | exact .d (.nil _) | exact .agg rfl (.refl _) | exact .pd | exact .ptr rfl); (first | exact trivial | exact ⟨rfl, trivial⟩)))); done)) | exact by_oa); exact by_g) | ((with_reducible apply CW.cond_t); exact rfl; exact by_ks) | ((with_reducible apply CW.cond_f); exact rfl; exact by_ks) | ((with_reducible apply q_block_miss); exact rfl) | (refine And.intro (show chk [] [] _ _ = true by kernel_rfl) ?_))
              exact .one (.tmp rfl (.one (.d (dle_int (by rw [hJ]; exact hbad (by rw [← hJ]; decide))))))
            · rw [if_neg (by simp [h8])] at hJ
              cases h9 : isIn (l.take i) k
              · rw [if_neg (by simp [h9])] at hJ
                repeat (first | ((with_reducible apply s1); exact rfl) | (with_reducible first | apply CW.seq | apply CW.block | apply CW.region | apply CW.draw | apply CW.skip | apply CW.exit | apply CW.ret | apply q_then | apply q_then_exit | apply q_then_ret | apply q_block | apply q_block_ret | apply q_block_hit | apply q_ret | apply q_end | apply q_loop_exit | apply q_loop_ret | apply q_loopT_exit | apply q_loopT_ret | apply RW.nil) | ((with_reducible apply s3); exact rfl; exact by_k) | ((with_reducible apply s2); exact rfl; exact by_k) | ((with_reducible apply s4); exact rfl) | ((with_reducible apply s5); (first | (focus ((with_reducible apply a_call); exact hck; exact rfl; (repeat (first | exact SubsE.nil | (apply SubsE.cons; exact rfl; (first | exact .d (.refl _) | exact .d (.nil _) | exact .agg rfl (.refl _) | exact .pd | exact .ptr rfl); (first | exact trivial | exact ⟨rfl, trivial⟩)))); done)) | (focus ((with_reducible apply a_call); exact hin; exact rfl; (repeat (first | exact SubsE.nil | (apply SubsE.cons; exact rfl; (first | exact .d (.refl _) | exact .d (.nil _) | exact .agg rfl (.refl _) | exact .pd | exact .ptr rfl); (first | exact trivial | exact ⟨rfl, trivial⟩)))); done)) | exact by_oa); exact by_g) | ((with_reducible apply CW.cond_t); exact rfl; exact by_ks) | ((with_reducible apply CW.cond_f); exact rfl; exact by_ks) | ((with_reducible apply q_block_miss); exact rfl) | (refine And.intro (show chk [] [] _ _ = true by kernel_rfl) ?_))
                refine q_loopT (i + 1) ⟨by omega, hJ⟩ (by omega) ?_
                exact by_less
              · rw [if_pos h9] at hJ
                repeat (first | ((with_reducible apply s1); exact rfl) | (with_reducible first | apply CW.seq | apply CW.block | apply CW.region | apply CW.draw | apply CW.skip | apply CW.exit | apply CW.ret | apply q_then | apply q_then_exit | apply q_then_ret | apply q_block | apply q_block_ret | apply q_block_hit | apply q_ret | apply q_end | apply q_loop_exit | apply q_loop_ret | apply q_loopT_exit | apply q_loopT_ret | apply RW.nil) | ((with_reducible apply s3); exact rfl; exact by_k) | ((with_reducible apply s2); exact rfl; exact by_k) | ((with_reducible apply s4); exact rfl) | ((with_reducible apply s5); (first | (focus ((with_reducible apply a_call); exact hck; exact rfl; (repeat (first | exact SubsE.nil | (apply SubsE.cons; exact rfl; (first | exact .d (.refl _) | exact .d (.nil _) | exact .agg rfl (.refl _) | exact .pd | exact .ptr rfl); (first | exact trivial | exact ⟨rfl, trivial⟩)))); done)) | (focus ((with_reducible apply a_call); exact hin; exact rfl; (repeat (first | exact SubsE.nil | (apply SubsE.cons; exact rfl; (first | exact .d (.refl _) | exact .d (.nil _) | exact .agg rfl (.refl _) | exact .pd | exact .ptr rfl); (first | exact trivial | exact ⟨rfl, trivial⟩)))); done)) | exact by_oa); exact by_g) | ((with_reducible apply CW.cond_t); exact rfl; exact by_ks) | ((with_reducible apply CW.cond_f); exact rfl; exact by_ks) | ((with_reducible apply q_block_miss); exact rfl) | (refine And.intro (show chk [] [] _ _ = true by kernel_rfl) ?_))
                exact .one (.tmp rfl (.one (.d (dle_int (by rw [hJ]; exact hbad (by rw [← hJ]; decide))))))

end Go.Proofs.YtgiaplfdpncglaaDoor

/-! H3 -/
/-
  Contract of the references' Parse, at the text of a right deed whose numbers are small.
-/
namespace Go.Proofs.YtgiaplfdpncglaaDoor
open Go.AX Go.RF Go.RowKit

set_option maxRecDepth 100000
set_option maxHeartbeats 16000000

theorem splitF_part (sep : Str) : ∀ (n : Nat) (cur r : Str), ∀ p ∈ splitF sep n cur r, p.length ≤ cur.length + r.length
  | 0, cur, r => by simp [splitF]
  | n + 1, cur, r => by
    rw [splitF_succ]
    split
    · simp
    split
    · intro p hp
      rcases List.mem_cons.1 hp with rfl | hp
      · omega
      · have := splitF_part sep n [] _ p hp
        rw [List.length_nil, List.length_drop] at this
        omega
    cases r with
    | nil => simp
    | cons c t =>
      intro p hp
      have := splitF_part sep n _ _ p hp
      simp at this ⊢
      omega
theorem split_part {s sep : Str} {p : Str} (h : p ∈ split s sep) : p.length ≤ s.length := by
  have := splitF_part sep _ _ _ p h
  simpa using this
theorem split_len (s sep : Str) : (split s sep).length ≤ s.length + 1 := splitF_len sep _ _ _

/-- A word's number, if it has one, is small. -/
def smallN (o : Option Int) : Bool := match o with
  | none => true
  | some v => decide (0 ≤ v ∧ v < 100)
def smallS (s : Str) : Bool := (split s [59, 32]).all fun p => (split p [32]).all fun w => smallN (numV w) && smallN (regV w)
theorem smallN_of {o : Option Int} {v : Int} (h : smallN o = true) (hv : o = some v) : 0 ≤ v ∧ v < 100 := by
  subst hv; simpa [smallN] using h

theorem insAll_cons {p : Str} {r : List Str} {l : List Ins} (h : insAll (p :: r) = some l) : ∃ i l', insP (split p [32]) = some i ∧ insAll r = some l' ∧ l = i :: l' := by
  simp only [insAll] at h
  split at h
  · next i l' h1 h2 => cases h; exact ⟨i, l', h1, h2, rfl⟩
  · cases h
theorem insP_some {l : List Str} {i : Ins} (h : insP l = some i) : ∃ w ws, l = w :: ws ∧ kindOf w ≠ 0 ∧ ws.length = (form (kindOf w).toNat).length ∧ fillI ⟨kindOf w, 0, 0, 0, []⟩ (form (kindOf w).toNat) ws = some i := by
  match l, h with
  | [], h => simp [insP] at h
  | w :: ws, h =>
    simp only [insP] at h
    split at h
    · cases h
    · next h1 =>
      split at h
      · next h2 => exact ⟨w, ws, rfl, h1, h2, h⟩
      · cases h
theorem fillI_cons {i i' : Ins} {c : UInt8} {f : Str} {w : Str} {ws : List Str} (h : fillI i (c :: f) (w :: ws) = some i') :
    (c.toNat = 107 ∧ fillI { i with key := w } f ws = some i') ∨ (c.toNat = 110 ∧ ∃ n, numV w = some n ∧ fillI { i with n := n } f ws = some i') ∨
    (c.toNat ≠ 107 ∧ c.toNat ≠ 110 ∧ ∃ r x, w = 114 :: r ∧ numV r = some x ∧ ((c.toNat = 114 ∧ fillI { i with a := x } f ws = some i') ∨ (c.toNat ≠ 114 ∧ fillI { i with b := x } f ws = some i'))) := by
  have hc : ∀ k : UInt8, c = k ↔ c.toNat = k.toNat := fun k => by rw [UInt8.toNat_inj]
  simp only [fillI] at h
  split at h
  · next h1 => exact .inl ⟨(hc _).1 h1, h⟩
  · next h1 =>
    have h1' : c.toNat ≠ 107 := fun e => h1 ((hc 107).2 e)
    split at h
    · next h2 =>
      split at h
      · next n hn => exact .inr (.inl ⟨(hc _).1 h2, n, hn, h⟩)
      · cases h
    · next h2 =>
      have h2' : c.toNat ≠ 110 := fun e => h2 ((hc 110).2 e)
      refine .inr (.inr ⟨h1', h2', ?_⟩)
      split at h
      · next x hx =>
        have : ∃ r, w = 114 :: r ∧ numV r = some x := by
          match w, hx with
          | [], hx => simp [regV] at hx
          | b :: r, hx =>
            by_cases hb : b = 114
            · subst hb; exact ⟨r, rfl, hx⟩
            · unfold regV at hx
              split at hx
              · next r' he => cases he; exact absurd rfl hb
              · cases hx
        obtain ⟨r, h3, h4⟩ := this
        refine ⟨r, x, h3, h4, ?_⟩
        split at h
        · next h5 => exact .inl ⟨(hc _).1 h5, h⟩
        · next h5 => exact .inr ⟨fun e => h5 ((hc 114).2 e), h⟩
      · cases h

/-- What parseD takes apart. -/
theorem parseD_some {s : Str} {d : Deed} (h : parseD s = some d) : s.length ≤ 400 ∧ ∃ p0 p1 ps, split s [59, 32] = p0 :: p1 :: ps ∧ split p0 [32] = [114, 101, 97, 100, 115] :: d.reads ∧ split p1 [32] = [119, 114, 105, 116, 101, 115] :: d.writes ∧ insAll ps = some d.code ∧ wrongDeed d = 0 := by
  unfold parseD at h
  split at h
  · cases h
  · next h0 =>
    refine ⟨by omega, ?_⟩
    split at h
    · next p0 p1 ps h1 =>
      split at h
      · next w0 rs w1 ws code h2 h3 h4 =>
        split at h
        · next h5 =>
          obtain ⟨rfl, rfl, h6⟩ := h5
          cases h
          exact ⟨p0, p1, ps, h1, h2, h3, h4, h6⟩
        · cases h
      · cases h
    · cases h

end Go.Proofs.YtgiaplfdpncglaaDoor

/-! H4 -/
/-
  Contract of the references' Parse, at the text of a right deed whose numbers are small.
-/
namespace Go.Proofs.YtgiaplfdpncglaaDoor
open Go.AX Go.RF Go.RowKit

set_option maxRecDepth 100000
set_option maxHeartbeats 16000000

theorem ok_parseS (s : Str) (d : Deed) (h : parseD s = some d) (hm : smallS s = true) : FnOk Tryd.prog 15 [.d (dstr s)] (.tup [.agg d.enc, dint 0]) := by
  refine fnOk_of tbl_ok mixed_ok Tryd.func15 rfl (by kernel_rfl) rfl rfl fun w0 own0 => ?_
  obtain ⟨hs, p0, p1, ps, e0, e1, e2, e3, e4⟩ := parseD_some h
  obtain ⟨rs, ws, cd⟩ := d
  dsimp only at e1 e2 e3
  have c1 := ok_split s [59, 32] (by omega) (by simp) (by simp)
  have hsl := split_len s [59, 32]
  have hsp : ∀ p ∈ split s [59, 32], p.length ≤ 400 := fun p hp => Nat.le_trans (split_part hp) hs
  have hsm : ∀ p ∈ split s [59, 32], ∀ w ∈ split p [32], smallN (numV w) = true ∧ smallN (regV w) = true := fun p hp w hw => by
    have := List.all_eq_true.1 (List.all_eq_true.1 hm p hp) w hw
    simpa using this
  generalize hl : split s [59, 32] = l at *
  have h2l : 2 ≤ l.length := by rw [e0]; simp
  repeat (first | ((with_reducible apply stop_at 8); exact rfl) | ((with_reducible apply s1); exact rfl) | (with_reducible first | apply CW.seq | apply CW.block | apply CW.region | apply CW.draw | apply CW.skip | apply CW.exit | apply CW.ret | apply q_then | apply q_then_exit | apply q_then_ret | apply q_block | apply q_block_ret | apply q_block_hit | apply q_ret | apply q_end | apply q_loop_exit | apply q_loop_ret | apply q_loopT_exit | apply q_loopT_ret | apply RW.nil) | ((with_reducible apply s3); exact rfl; exact by_k) | ((with_reducible apply s2); exact rfl; exact by_k) | ((with_reducible apply s4); exact rfl) | ((with_reducible apply s5); (first | (focus ((with_reducible apply a_call); exact c1; exact rfl; (repeat (first | exact SubsE.nil | (apply SubsE.cons; exact rfl; (first | exact .d (.refl _) | exact .d (.nil _) | exact .agg rfl (.refl _) | exact .pd | exact .ptr rfl); (first | exact trivial | exact ⟨rfl, trivial⟩)))); done)) | exact by_oa); exact by_g) | ((with_reducible apply CW.cond_t); exact rfl; exact by_ks) | ((with_reducible apply CW.cond_f); exact rfl; exact by_ks) | ((with_reducible apply q_block_miss); exact rfl) | (refine And.intro (show chk [] [] _ _ = true by kernel_rfl) ?_))
  refine Stop.go (CW.stut (stut_promote_cell (id := 1) (j := 2) 51 5 rfl) ⟨rfl, rfl, trivial⟩ ?_)
  repeat (first | ((with_reducible apply s1); exact rfl) | (with_reducible first | apply CW.seq | apply CW.block | apply CW.region | apply CW.draw | apply CW.skip | apply CW.exit | apply CW.ret | apply q_then | apply q_then_exit | apply q_then_ret | apply q_block | apply q_block_ret | apply q_block_hit | apply q_ret | apply q_end | apply q_loop_exit | apply q_loop_ret | apply q_loopT_exit | apply q_loopT_ret | apply RW.nil) | ((with_reducible apply s3); exact rfl; exact by_k) | ((with_reducible apply s2); exact rfl; exact by_k) | ((with_reducible apply s4); exact rfl) | ((with_reducible apply s5); (first | exact by_oa); exact by_g) | ((with_reducible apply CW.cond_t); exact rfl; exact by_ks) | ((with_reducible apply CW.cond_f); exact rfl; exact by_ks) | ((with_reducible apply q_block_miss); exact rfl) | (refine And.intro (show chk [] [] _ _ = true by kernel_rfl) ?_))
  refine CW.loopT (fun t : Nat × D × D × List Ins => [sp 2 0, ob 0 [.v nilS, .v nilS, .v nilS], sp 6 1, (.o 1, .ob (.box [.d t.2.1, .d t.2.2.1, .own 2 t.2.2.2.length])), oa 2 51 5 (t.2.2.2.map Ins.enc), sd 36 (encStrs l), sd 37 (dint l.length), sd 38 (dint t.1), nxt 3])
    (fun t => t.1 ≤ l.length ∧ (1 ≤ t.1 → t.2.1 = encStrs rs) ∧ (2 ≤ t.1 → t.2.2.1 = encStrs ws) ∧ t.2.2.2.length ≤ t.1 ∧ ∃ rest, insAll (l.drop (max t.1 2)) = some rest ∧ t.2.2.2 ++ rest = cd) (fun t => l.length - t.1) (0, .v nilS, .v nilS, [])
    ⟨by dsimp only; omega, fun h => by dsimp only at h; omega, fun h => by dsimp only at h; omega, by simp, cd, by rw [e0]; exact e3, rfl⟩ ?_ ?_
  ·
    exact by_less
  · rintro ⟨x, R, W, code⟩ ⟨hx, hR, hW, hc, rest, hr, hcd⟩
    dsimp only at hx hR hW hc hr hcd ⊢
    rcases drop_case hx with ⟨h1, h2⟩ | ⟨p, h1, h2, h3⟩
    · rw [show max x 2 = x by omega, h1] at hr
      cases hr
      rw [List.append_nil] at hcd
      obtain rfl := hR (by omega)
      obtain rfl := hW (by omega)
      subst hcd
      have hrs : ∀ k ∈ rs, k.length ≤ 400 := fun k hk => Nat.le_trans (split_part (s := p0) (sep := [32]) (by rw [e1]; exact List.mem_cons_of_mem _ hk)) (hsp p0 (by rw [e0]; simp))
      have hws : ∀ k ∈ ws, k.length ≤ 400 := fun k hk => Nat.le_trans (split_part (s := p1) (sep := [32]) (by rw [e2]; exact List.mem_cons_of_mem _ hk)) (hsp p1 (by rw [e0]; simp))
      have hrl : rs.length ≤ 400 := by have := split_len p0 [32]; rw [e1] at this; have := hsp p0 (by rw [e0]; simp); simp at *; omega
      have hwl : ws.length ≤ 400 := by have := split_len p1 [32]; rw [e2] at this; have := hsp p1 (by rw [e0]; simp); simp at *; omega
      have cw := ok_wrongDeed ⟨rs, ws, code⟩ (by dsimp only; omega) (by dsimp only; omega) (by dsimp only; omega) (fun k hk => by have := hrs k hk; omega) (fun k hk => by have := hws k hk; omega)
      rw [e4] at cw
      repeat (first | ((with_reducible apply stop_at 52); exact rfl) | ((with_reducible apply s1); exact rfl) | (with_reducible first | apply CW.seq | apply CW.block | apply CW.region | apply CW.draw | apply CW.skip | apply CW.exit | apply CW.ret | apply q_then | apply q_then_exit | apply q_then_ret | apply q_block | apply q_block_ret | apply q_block_hit | apply q_ret | apply q_end | apply q_loop_exit | apply q_loop_ret | apply q_loopT_exit | apply q_loopT_ret | apply RW.nil) | ((with_reducible apply s3); exact rfl; exact by_k) | ((with_reducible apply s2); exact rfl; exact by_k) | ((with_reducible apply s4); exact rfl) | ((with_reducible apply s5); (first | exact by_oa); exact by_g) | ((with_reducible apply CW.cond_t); exact rfl; exact by_ks) | ((with_reducible apply CW.cond_f); exact rfl; exact by_ks) | ((with_reducible apply q_block_miss); exact rfl) | (refine And.intro (show chk [] [] _ _ = true by kernel_rfl) ?_))
      refine Stop.go (CW.stut (stut_freeze_cell (id := 1) (j := 2) (i := 2) rfl (by simp)) ⟨rfl, rfl, trivial⟩ ?_)
      repeat (first | ((with_reducible apply s1); exact rfl) | (with_reducible first | apply CW.seq | apply CW.block | apply CW.region | apply CW.draw | apply CW.skip | apply CW.exit | apply CW.ret | apply q_then | apply q_then_exit | apply q_then_ret | apply q_block | apply q_block_ret | apply q_block_hit | apply q_ret | apply q_end | apply q_loop_exit | apply q_loop_ret | apply q_loopT_exit | apply q_loopT_ret | apply RW.nil) | ((with_reducible apply s3); exact rfl; exact by_k) | ((with_reducible apply s2); exact rfl; exact by_k) | ((with_reducible apply s4); exact rfl) | ((with_reducible apply s5); (first | (focus ((with_reducible apply a_call); exact cw; exact rfl; (repeat (first | exact SubsE.nil | (apply SubsE.cons; exact rfl; (first | exact .d (.refl _) | exact .d (.nil _) | exact .agg rfl (.refl _) | exact .pd | exact .ptr rfl); (first | exact trivial | exact ⟨rfl, trivial⟩)))); done)) | exact by_oa); exact by_g) | ((with_reducible apply CW.cond_t); exact rfl; exact by_ks) | ((with_reducible apply CW.cond_f); exact rfl; exact by_ks) | ((with_reducible apply q_block_miss); exact rfl) | (refine And.intro (show chk [] [] _ _ = true by kernel_rfl) ?_))
      exact .two (.cell rfl rfl rfl rfl (.aggd rfl (.refl _))) (.tmp rfl (.one (.d (.refl _))))
    · have hp : p ∈ l := List.mem_of_getElem? h2
      have hpl := hsp p hp
      have c2 := ok_split p [32] (by omega) (by simp) (by simp)
      by_cases hx0 : x = 0
      · subst hx0
        have h2' := h2
        rw [e0] at h2
        obtain rfl : p0 = p := by simpa using h2
        rw [e1] at c2
        have hrl : rs.length ≤ 400 := by have := split_len p0 [32]; rw [e1] at this; simp at *; omega
        have hw0 : (([114, 101, 97, 100, 115] : Str) :: rs)[0]? = some [114, 101, 97, 100, 115] := rfl
        have hn0 : ([[114, 101, 97, 100, 115], [119, 114, 105, 116, 101, 115]] : List Str)[0]? = some [114, 101, 97, 100, 115] := rfl
        repeat (first | ((with_reducible apply s5); ((with_reducible apply a_bs (([[114, 101, 97, 100, 115], [119, 114, 105, 116, 101, 115]] : List Str).map encStr1)); (iterate 9 exact rfl); (repeat (first | exact PartsE.nil | (apply PartsE.cons; exact rfl; exact rfl)))); exact by_g) | ((with_reducible apply s1); exact rfl) | (with_reducible first | apply CW.seq | apply CW.block | apply CW.region | apply CW.draw | apply CW.skip | apply CW.exit | apply CW.ret | apply q_then | apply q_then_exit | apply q_then_ret | apply q_block | apply q_block_ret | apply q_block_hit | apply q_ret | apply q_end | apply q_loop_exit | apply q_loop_ret | apply q_loopT_exit | apply q_loopT_ret | apply RW.nil) | ((with_reducible apply s3); exact rfl; exact by_k) | ((with_reducible apply s2); exact rfl; exact by_k) | ((with_reducible apply s4); exact rfl) | ((with_reducible apply s5); (first | (focus ((with_reducible apply a_call); exact c2; exact rfl; (repeat (first | exact SubsE.nil | (apply SubsE.cons; exact rfl; (first | exact .d (.refl _) | exact .d (.nil _) | exact .agg rfl (.refl _) | exact .pd | exact .ptr rfl); (first | exact trivial | exact ⟨rfl, trivial⟩)))); done)) | exact by_oa); exact by_g) | ((with_reducible apply CW.cond_t); exact rfl; exact by_ks) | ((with_reducible apply CW.cond_f); exact rfl; exact by_ks) | ((with_reducible apply q_block_miss); exact rfl) | (refine And.intro (show chk [] [] _ _ = true by kernel_rfl) ?_))
        refine q_loopT (1, encStrs rs, W, code) ⟨by dsimp only; omega, fun _ => rfl, fun h => by dsimp only at h; omega, by dsimp only; omega, rest, hr, hcd⟩ (by dsimp only; omega) ?_
        exact by_less
      by_cases hx1 : x = 1
      · subst hx1
        have h2' := h2
        rw [e0] at h2
        obtain rfl : p1 = p := by simpa using h2
        rw [e2] at c2
        have hwl : ws.length ≤ 400 := by have := split_len p1 [32]; rw [e2] at this; simp at *; omega
        have hw0 : (([119, 114, 105, 116, 101, 115] : Str) :: ws)[0]? = some [119, 114, 105, 116, 101, 115] := rfl
        have hn0 : ([[114, 101, 97, 100, 115], [119, 114, 105, 116, 101, 115]] : List Str)[1]? = some [119, 114, 105, 116, 101, 115] := rfl
        repeat (first | ((with_reducible apply s5); ((with_reducible apply a_bs (([[114, 101, 97, 100, 115], [119, 114, 105, 116, 101, 115]] : List Str).map encStr1)); (iterate 9 exact rfl); (repeat (first | exact PartsE.nil | (apply PartsE.cons; exact rfl; exact rfl)))); exact by_g) | ((with_reducible apply s1); exact rfl) | (with_reducible first | apply CW.seq | apply CW.block | apply CW.region | apply CW.draw | apply CW.skip | apply CW.exit | apply CW.ret | apply q_then | apply q_then_exit | apply q_then_ret | apply q_block | apply q_block_ret | apply q_block_hit | apply q_ret | apply q_end | apply q_loop_exit | apply q_loop_ret | apply q_loopT_exit | apply q_loopT_ret | apply RW.nil) | ((with_reducible apply s3); exact rfl; exact by_k) | ((with_reducible apply s2); exact rfl; exact by_k) | ((with_reducible apply s4); exact rfl) | ((with_reducible apply s5); (first | (focus ((with_reducible apply a_call); exact c2; exact rfl; (repeat (first | exact SubsE.nil | (apply SubsE.cons; exact rfl; (first | exact .d (.refl _) | exact .d (.nil _) | exact .agg rfl (.refl _) | exact .pd | exact .ptr rfl); (first | exact trivial | exact ⟨rfl, trivial⟩)))); done)) | exact by_oa); exact by_g) | ((with_reducible apply CW.cond_t); exact rfl; exact by_ks) | ((with_reducible apply CW.cond_f); exact rfl; exact by_ks) | ((with_reducible apply q_block_miss); exact rfl) | (refine And.intro (show chk [] [] _ _ = true by kernel_rfl) ?_))
        refine q_loopT (2, R, encStrs ws, code) ⟨by dsimp only; omega, fun _ => hR (by omega), fun _ => rfl, by dsimp only; omega, rest, hr, hcd⟩ (by dsimp only; omega) ?_
        exact by_less
      rw [show max x 2 = x by omega, h1] at hr
      obtain ⟨i1, rest', hi, hr', rfl⟩ := insAll_cons hr
      have hsw := hsm p hp
      generalize hwds : split p [32] = wds at *
      obtain ⟨w, wz, rfl, hk0, hlen, hfi⟩ := insP_some hi
      have hwl : wz.length ≤ 400 := by have := split_len p [32]; rw [hwds] at this; simp at *; omega
      have cw := ok_words
      have hw0 : (w :: wz)[0]? = some w := rfl
      repeat (first | ((with_reducible apply s1); exact rfl) | (with_reducible first | apply CW.seq | apply CW.block | apply CW.region | apply CW.draw | apply CW.skip | apply CW.exit | apply CW.ret | apply q_then | apply q_then_exit | apply q_then_ret | apply q_block | apply q_block_ret | apply q_block_hit | apply q_ret | apply q_end | apply q_loop_exit | apply q_loop_ret | apply q_loopT_exit | apply q_loopT_ret | apply RW.nil) | ((with_reducible apply s3); exact rfl; exact by_k) | ((with_reducible apply s2); exact rfl; exact by_k) | ((with_reducible apply s4); exact rfl) | ((with_reducible apply s5); (first | (focus ((with_reducible apply a_call); exact c2; exact rfl; (repeat (first | exact SubsE.nil | (apply SubsE.cons; exact rfl; (first | exact .d (.refl _) | exact .d (.nil _) | exact .agg rfl (.refl _) | exact .pd | exact .ptr rfl); (first | exact trivial | exact ⟨rfl, trivial⟩)))); done)) | (focus ((with_reducible apply a_call); exact cw; exact rfl; (repeat (first | exact SubsE.nil | (apply SubsE.cons; exact rfl; (first | exact .d (.refl _) | exact .d (.nil _) | exact .agg rfl (.refl _) | exact .pd | exact .ptr rfl); (first | exact trivial | exact ⟨rfl, trivial⟩)))); done)) | exact by_oa); exact by_g) | ((with_reducible apply CW.cond_t); exact rfl; exact by_ks) | ((with_reducible apply CW.cond_f); exact rfl; exact by_ks) | ((with_reducible apply q_block_miss); exact rfl) | (refine And.intro (show chk [] [] _ _ = true by kernel_rfl) ?_))
      refine CW.loopT (fun t : Nat × Int => [sp 2 0, ob 0 [.v nilS, .v nilS, .v nilS], sp 6 1, (.o 1, .ob (.box [.d R, .d W, .own 2 code.length])), oa 2 51 5 (code.map Ins.enc), sd 36 (encStrs l), sd 37 (dint l.length), sd 38 (dint x),
          sd 9 (encStrs (w :: wz)), sp 10 3, ob 3 [dint t.2, dint 0, dint 0, dint 0, dstr []], sd 68 (encStrs words), sd 69 (dint words.length), sd 70 (dint t.1), nxt 4])
        (fun t => t.1 ≤ words.length ∧ 0 ≤ t.2 ∧ t.2 < 10 ∧ kindGo w t.1 t.2 (words.drop t.1) = kindOf w) (fun t => words.length - t.1) (0, 0) ⟨by dsimp only; omega, by dsimp only; omega, by dsimp only; omega, rfl⟩ ?_ ?_
      ·
        exact by_less
      · rintro ⟨y, k⟩ ⟨hy, hk1, hk2, hK⟩
        dsimp only at hy hk1 hk2 hK ⊢
        have hwn : words.length = 10 := rfl
        rcases drop_case hy with ⟨g1, g2⟩ | ⟨u, g1, g2, g3⟩
        · rw [g1, kindGo] at hK
          subst hK
          obtain ⟨K, hKe⟩ := Int.eq_ofNat_of_zero_le hk1
          rw [hKe] at hlen hfi hk0 hk2 ⊢
          rw [Int.toNat_natCast] at hlen hfi
          have cf := ok_form K (by omega)
          have hfl := form_len K
          generalize form K = f at *
          repeat (first | ((with_reducible apply s1); exact rfl) | (with_reducible first | apply CW.seq | apply CW.block | apply CW.region | apply CW.draw | apply CW.skip | apply CW.exit | apply CW.ret | apply q_then | apply q_then_exit | apply q_then_ret | apply q_block | apply q_block_ret | apply q_block_hit | apply q_ret | apply q_end | apply q_loop_exit | apply q_loop_ret | apply q_loopT_exit | apply q_loopT_ret | apply RW.nil) | ((with_reducible apply s3); exact rfl; exact by_k) | ((with_reducible apply s2); exact rfl; exact by_k) | ((with_reducible apply s4); exact rfl) | ((with_reducible apply s5); (first | (focus ((with_reducible apply a_call); exact cf; exact rfl; (repeat (first | exact SubsE.nil | (apply SubsE.cons; exact rfl; (first | exact .d (.refl _) | exact .d (.nil _) | exact .agg rfl (.refl _) | exact .pd | exact .ptr rfl); (first | exact trivial | exact ⟨rfl, trivial⟩)))); done)) | exact by_oa); exact by_g) | ((with_reducible apply CW.cond_t); exact rfl; exact by_ks) | ((with_reducible apply CW.cond_f); exact rfl; exact by_ks) | ((with_reducible apply q_block_miss); exact rfl) | (refine And.intro (show chk [] [] _ _ = true by kernel_rfl) ?_))
          refine CW.loopT (fun t : Nat × Ins => [sp 2 0, ob 0 [.v nilS, .v nilS, .v nilS], sp 6 1, (.o 1, .ob (.box [.d R, .d W, .own 2 code.length])), oa 2 51 5 (code.map Ins.enc), sd 36 (encStrs l), sd 37 (dint l.length), sd 38 (dint x),
              sd 9 (encStrs (w :: wz)), sp 10 3, ob 3 t.2.enc, sd 13 (dstr f), sd 107 (dstr f), sd 108 (dint f.length), sd 109 (dint t.1), nxt 4])
            (fun t => t.1 ≤ f.length ∧ fillI t.2 (f.drop t.1) (wz.drop t.1) = some i1) (fun t => f.length - t.1) (0, ⟨K, 0, 0, 0, []⟩) ⟨by dsimp only; omega, hfi⟩ ?_ ?_
          ·
            exact by_less
          · rintro ⟨j, i⟩ ⟨hj, hI⟩
            dsimp only at hj hI ⊢
            rcases drop_case hj with ⟨b1, b2⟩ | ⟨c, b1, b2, b3⟩
            · rw [b1, fillI] at hI
              cases hI
              repeat (first | ((with_reducible apply s1); exact rfl) | (with_reducible first | apply CW.seq | apply CW.block | apply CW.region | apply CW.draw | apply CW.skip | apply CW.exit | apply CW.ret | apply q_then | apply q_then_exit | apply q_then_ret | apply q_block | apply q_block_ret | apply q_block_hit | apply q_ret | apply q_end | apply q_loop_exit | apply q_loop_ret | apply q_loopT_exit | apply q_loopT_ret | apply RW.nil) | ((with_reducible apply s3); exact rfl; exact by_k) | ((with_reducible apply s2); exact rfl; exact by_k) | ((with_reducible apply s4); exact rfl) | ((with_reducible apply s5); (first | exact by_oa); exact by_g) | ((with_reducible apply CW.cond_t); exact rfl; exact by_ks) | ((with_reducible apply CW.cond_f); exact rfl; exact by_ks) | ((with_reducible apply q_block_miss); exact rfl) | (refine And.intro (show chk [] [] _ _ = true by kernel_rfl) ?_))
              refine q_loopT (x + 1, R, W, code ++ [i1]) ⟨by dsimp only; omega, fun _ => hR (by omega), fun _ => hW (by omega), by dsimp only; simp; omega, rest', by dsimp only; rw [show max (x + 1) 2 = x + 1 by omega]; exact hr', by dsimp only; rw [← hcd]; simp⟩ (by dsimp only; omega) ?_
              exact by_less
            · have hwj : j < wz.length := by omega
              have hwa : (w :: wz)[j + 1]? = some wz[j] := by simp [List.getElem?_eq_getElem hwj]
              rw [b1, List.drop_eq_getElem_cons hwj] at hI
              have hsj := hsw wz[j] (List.mem_cons_of_mem _ (List.getElem_mem hwj))
              have hwjl : wz[j].length ≤ 400 := Nat.le_trans (split_part (s := p) (sep := [32]) (by rw [hwds]; exact List.mem_cons_of_mem _ (List.getElem_mem hwj))) hpl
              generalize wz[j] = u at hwa hI hsj hwjl
              rcases fillI_cons hI with ⟨q1, q2⟩ | ⟨q1, n, q2, q3⟩ | ⟨q1, q2, r, n, rfl, q3, q4⟩
              ·
                repeat (first | ((with_reducible apply s1); exact rfl) | (with_reducible first | apply CW.seq | apply CW.block | apply CW.region | apply CW.draw | apply CW.skip | apply CW.exit | apply CW.ret | apply q_then | apply q_then_exit | apply q_then_ret | apply q_block | apply q_block_ret | apply q_block_hit | apply q_ret | apply q_end | apply q_loop_exit | apply q_loop_ret | apply q_loopT_exit | apply q_loopT_ret | apply RW.nil) | ((with_reducible apply s3); exact rfl; exact by_k) | ((with_reducible apply s2); exact rfl; exact by_k) | ((with_reducible apply s4); exact rfl) | ((with_reducible apply s5); (first | exact by_oa); exact by_g) | ((with_reducible apply CW.cond_t); exact rfl; exact by_ks) | ((with_reducible apply CW.cond_f); exact rfl; exact by_ks) | ((with_reducible apply q_block_miss); exact rfl) | (refine And.intro (show chk [] [] _ _ = true by kernel_rfl) ?_))
                refine q_loopT (j + 1, { i with key := u }) ⟨by dsimp only; omega, q2⟩ (by dsimp only; omega) ?_
                exact by_less
              · have hn := smallN_of hsj.1 q2
                have cn := ok_numS u n (by omega) q2 hn.1 hn.2
                repeat (first | ((with_reducible apply s1); exact rfl) | (with_reducible first | apply CW.seq | apply CW.block | apply CW.region | apply CW.draw | apply CW.skip | apply CW.exit | apply CW.ret | apply q_then | apply q_then_exit | apply q_then_ret | apply q_block | apply q_block_ret | apply q_block_hit | apply q_ret | apply q_end | apply q_loop_exit | apply q_loop_ret | apply q_loopT_exit | apply q_loopT_ret | apply RW.nil) | ((with_reducible apply s3); exact rfl; exact by_k) | ((with_reducible apply s2); exact rfl; exact by_k) | ((with_reducible apply s4); exact rfl) | ((with_reducible apply s5); (first | (focus ((with_reducible apply a_call); exact cn; exact rfl; (repeat (first | exact SubsE.nil | (apply SubsE.cons; exact rfl; (first | exact .d (.refl _) | exact .d (.nil _) | exact .agg rfl (.refl _) | exact .pd | exact .ptr rfl); (first | exact trivial | exact ⟨rfl, trivial⟩)))); done)) | exact by_oa); exact by_g) | ((with_reducible apply CW.cond_t); exact rfl; exact by_ks) | ((with_reducible apply CW.cond_f); exact rfl; exact by_ks) | ((with_reducible apply q_block_miss); exact rfl) | (refine And.intro (show chk [] [] _ _ = true by kernel_rfl) ?_))
                refine q_loopT (j + 1, { i with n := n }) ⟨by dsimp only; omega, q3⟩ (by dsimp only; omega) ?_
                exact by_less
              · have hn := smallN_of hsj.2 (show regV (114 :: r) = some n from q3)
                have cn := ok_numS r n (by simp at hwjl; omega) q3 hn.1 hn.2
                have hu0 : (114 :: r : Str)[0]? = some 114 := rfl
                rcases q4 with ⟨q4, q5⟩ | ⟨q4, q5⟩
                ·
                  repeat (first | ((with_reducible apply s1); exact rfl) | (with_reducible first | apply CW.seq | apply CW.block | apply CW.region | apply CW.draw | apply CW.skip | apply CW.exit | apply CW.ret | apply q_then | apply q_then_exit | apply q_then_ret | apply q_block | apply q_block_ret | apply q_block_hit | apply q_ret | apply q_end | apply q_loop_exit | apply q_loop_ret | apply q_loopT_exit | apply q_loopT_ret | apply RW.nil) | ((with_reducible apply s3); exact rfl; exact by_k) | ((with_reducible apply s2); exact rfl; exact by_k) | ((with_reducible apply s4); exact rfl) | ((with_reducible apply s5); (first | (focus ((with_reducible apply a_call); exact cn; exact rfl; (repeat (first | exact SubsE.nil | (apply SubsE.cons; exact rfl; (first | exact .d (.refl _) | exact .d (.nil _) | exact .agg rfl (.refl _) | exact .pd | exact .ptr rfl); (first | exact trivial | exact ⟨rfl, trivial⟩)))); done)) | ((with_reducible apply (a_is (k := 0))); (iterate 5 exact rfl); exact rfl) | ((with_reducible apply (a_subF (l := 1))); (iterate 5 exact rfl); exact Nat.succ_le_succ (Nat.zero_le _)) | exact by_oa); exact by_g) | ((with_reducible apply CW.cond_t); exact rfl; exact by_ks) | ((with_reducible apply CW.cond_f); exact rfl; exact by_ks) | ((with_reducible apply q_block_miss); exact rfl) | (refine And.intro (show chk [] [] _ _ = true by kernel_rfl) ?_))
                  refine q_loopT (j + 1, { i with a := n }) ⟨by dsimp only; omega, q5⟩ (by dsimp only; omega) ?_
                  exact by_less
                ·
                  repeat (first | ((with_reducible apply s1); exact rfl) | (with_reducible first | apply CW.seq | apply CW.block | apply CW.region | apply CW.draw | apply CW.skip | apply CW.exit | apply CW.ret | apply q_then | apply q_then_exit | apply q_then_ret | apply q_block | apply q_block_ret | apply q_block_hit | apply q_ret | apply q_end | apply q_loop_exit | apply q_loop_ret | apply q_loopT_exit | apply q_loopT_ret | apply RW.nil) | ((with_reducible apply s3); exact rfl; exact by_k) | ((with_reducible apply s2); exact rfl; exact by_k) | ((with_reducible apply s4); exact rfl) | ((with_reducible apply s5); (first | (focus ((with_reducible apply a_call); exact cn; exact rfl; (repeat (first | exact SubsE.nil | (apply SubsE.cons; exact rfl; (first | exact .d (.refl _) | exact .d (.nil _) | exact .agg rfl (.refl _) | exact .pd | exact .ptr rfl); (first | exact trivial | exact ⟨rfl, trivial⟩)))); done)) | ((with_reducible apply (a_is (k := 0))); (iterate 5 exact rfl); exact rfl) | ((with_reducible apply (a_subF (l := 1))); (iterate 5 exact rfl); exact Nat.succ_le_succ (Nat.zero_le _)) | exact by_oa); exact by_g) | ((with_reducible apply CW.cond_t); exact rfl; exact by_ks) | ((with_reducible apply CW.cond_f); exact rfl; exact by_ks) | ((with_reducible apply q_block_miss); exact rfl) | (refine And.intro (show chk [] [] _ _ = true by kernel_rfl) ?_))
                  refine q_loopT (j + 1, { i with b := n }) ⟨by dsimp only; omega, q5⟩ (by dsimp only; omega) ?_
                  exact by_less
        · rw [g1, kindGo] at hK
          by_cases hy0 : 0 < y
          · by_cases hu : u = w
            · rw [if_pos ⟨hy0, hu⟩] at hK
              repeat (first | ((with_reducible apply s1); exact rfl) | (with_reducible first | apply CW.seq | apply CW.block | apply CW.region | apply CW.draw | apply CW.skip | apply CW.exit | apply CW.ret | apply q_then | apply q_then_exit | apply q_then_ret | apply q_block | apply q_block_ret | apply q_block_hit | apply q_ret | apply q_end | apply q_loop_exit | apply q_loop_ret | apply q_loopT_exit | apply q_loopT_ret | apply RW.nil) | ((with_reducible apply s3); exact rfl; exact by_k) | ((with_reducible apply s2); exact rfl; exact by_k) | ((with_reducible apply s4); exact rfl) | ((with_reducible apply s5); (first | exact by_oa); exact by_g) | ((with_reducible apply CW.cond_t); exact rfl; exact by_ks) | ((with_reducible apply CW.cond_f); exact rfl; exact by_ks) | ((with_reducible apply q_block_miss); exact rfl) | (refine And.intro (show chk [] [] _ _ = true by kernel_rfl) ?_))
              refine q_loopT (y + 1, (y : Int)) ⟨by dsimp only; omega, by dsimp only; omega, by dsimp only; omega, hK⟩ (by dsimp only; omega) ?_
              exact by_less
            · rw [if_neg (fun h => hu h.2)] at hK
              repeat (first | ((with_reducible apply s1); exact rfl) | (with_reducible first | apply CW.seq | apply CW.block | apply CW.region | apply CW.draw | apply CW.skip | apply CW.exit | apply CW.ret | apply q_then | apply q_then_exit | apply q_then_ret | apply q_block | apply q_block_ret | apply q_block_hit | apply q_ret | apply q_end | apply q_loop_exit | apply q_loop_ret | apply q_loopT_exit | apply q_loopT_ret | apply RW.nil) | ((with_reducible apply s3); exact rfl; exact by_k) | ((with_reducible apply s2); exact rfl; exact by_k) | ((with_reducible apply s4); exact rfl) | ((with_reducible apply s5); (first | exact by_oa); exact by_g) | ((with_reducible apply CW.cond_t); exact rfl; exact by_ks) | ((with_reducible apply CW.cond_f); exact rfl; exact by_ks) | ((with_reducible apply q_block_miss); exact rfl) | (refine And.intro (show chk [] [] _ _ = true by kernel_rfl) ?_))
              refine q_loopT (y + 1, k) ⟨by dsimp only; omega, by dsimp only; omega, by dsimp only; omega, hK⟩ (by dsimp only; omega) ?_
              exact by_less
          · rw [if_neg (fun h => hy0 h.1)] at hK
            repeat (first | ((with_reducible apply s1); exact rfl) | (with_reducible first | apply CW.seq | apply CW.block | apply CW.region | apply CW.draw | apply CW.skip | apply CW.exit | apply CW.ret | apply q_then | apply q_then_exit | apply q_then_ret | apply q_block | apply q_block_ret | apply q_block_hit | apply q_ret | apply q_end | apply q_loop_exit | apply q_loop_ret | apply q_loopT_exit | apply q_loopT_ret | apply RW.nil) | ((with_reducible apply s3); exact rfl; exact by_k) | ((with_reducible apply s2); exact rfl; exact by_k) | ((with_reducible apply s4); exact rfl) | ((with_reducible apply s5); (first | exact by_oa); exact by_g) | ((with_reducible apply CW.cond_t); exact rfl; exact by_ks) | ((with_reducible apply CW.cond_f); exact rfl; exact by_ks) | ((with_reducible apply q_block_miss); exact rfl) | (refine And.intro (show chk [] [] _ _ = true by kernel_rfl) ?_))
            refine q_loopT (y + 1, k) ⟨by dsimp only; omega, by dsimp only; omega, by dsimp only; omega, hK⟩ (by dsimp only; omega) ?_
            exact by_less

end Go.Proofs.YtgiaplfdpncglaaDoor

/-! AxPin2 -/
/-
  Handles that become known, and ours again; two slices of ours that a call yields, one within the other's element; slices of ours lent, and handed over.
-/
namespace Go.AX
open Go.RowKit

variable {cx : Cx} {g : Nat → Value} {σ σ' : St} {a : Act} {w w' : World} {nx : Nat} {c : Code} {Q : Exit → St → Prop}
variable {ty : TypeId} {pos : String} {af : Array Edge} {gd : Option (Nat × Bool)} {d : Nat}

/-! ### Operations of a region in their text's order, each from whatever state that the last one may leave -/
def SW (cx : Cx) (ops : Array Oper) (Q : Exit → St → Prop) (l : List Oper) (σ : St) : Prop :=
  ∀ a w, Sim cx σ a w → wpList cx.P ops (fun e a' w' => ∃ σ', Sim cx σ' a' w' ∧ Q e σ') l a w
theorem CW.regionS {id : Nat} {l : List Oper} (h : SW cx l.toArray Q l σ) : CW cx (.region id l.toArray false) Q σ := fun a w hs => wp_region_lit (h a w hs)
variable {ops : Array Oper} {rest : List Oper} {o : Oper}
theorem SW.rw (h : RW cx ops (fun _ σ' => Q .normal σ') [] rest σ) : SW cx ops Q rest σ := by
  obtain ⟨ts, σ', h1, h2⟩ := h
  exact fun a w hs => wpList_of_steps h1 hs fun a' w' hs' => ⟨σ', hs', h2⟩
theorem SW.step {t : Tr} (hg : o.guard = none) (ho : OA cx σ o t) (h : SW cx ops Q rest (t.wr ++ σ)) : SW cx ops Q (o :: rest) σ := fun a w hs =>
  wpList_plain hg fun K hK => ho.1 σ a w K _ hs ho.2 fun a' w' hs' => hK a' w' (h a' w' hs')
theorem SW.fam {ι : Type} {σs : ι → St} (hg : o.guard = none)
    (ho : ∀ (a : Act) (w : World) (K : Act → World → Prop) (Q : Exit → Act → World → Prop), Sim cx σ a w → (∀ i a' w', Sim cx (σs i) a' w' → K a' w') → o.wp cx.P a w K Q)
    (h : ∀ i, SW cx ops Q rest (σs i)) : SW cx ops Q (o :: rest) σ := fun a w hs =>
  wpList_plain hg fun K hK => ho a w K _ hs fun i a' w' hs' => hK a' w' (h i a' w' hs')

/-! ### Lent as data -/
def plainR : Res → Bool
  | .one (.v _) => true
  | .tup l => l.all fun x => match x with
    | .v _ => true
    | _ => false
  | _ => false
theorem rd_plain {own own' : Nat → Prop} {v x : Value} (h : Rd w own v (.v x)) : Rd w own' v (.v x) := by
  rw [rd_v h]; exact Rd.v _
theorem plainR_ok {r : Res} (h : plainR r = true) {own own' : Nat → Prop} {v : Value} (hr : ResOk w own v r) : ResOk w own' v r := by
  cases r with
  | one x =>
    cases x with
    | v x => exact rd_plain hr
    | x p => cases h
    | sl k rows => cases h
    | agg c => cases h
  | tup xs =>
    obtain ⟨vs, rfl, h1, h2⟩ := hr
    refine ⟨vs, rfl, h1, fun j c x hx hc => ?_⟩
    have h3 := List.all_eq_true.1 h x (List.mem_of_getElem? hx)
    cases x with
    | v x => exact rd_plain (h2 j c _ hx hc)
    | x p => cases h3
    | sl k rows => cases h3
    | agg c => cases h3

theorem ArgsOk.less {own own' : Nat → Prop} (ho : ∀ b, own' b → own b) : ∀ {vs : List Value} {xs : List Arg}, ArgsOk w own vs xs → ArgsOk w own' vs xs
  | [], [], _ => trivial
  | v :: vs, x :: xs, h => by
    refine ⟨?_, ArgsOk.less ho h.2⟩
    cases x with
    | d y => exact Rd.less ho h.1
    | pd cells =>
      obtain ⟨ad, h1, h2, h3⟩ := h.1
      exact ⟨ad, h1, h2, fun j z hz => by obtain ⟨u, h4, h5, h6⟩ := h3 j z hz; exact ⟨u, h4, h5, h6.less ho⟩⟩

end Go.AX

/-! AxPin3 -/
/-
  A call that yields two slices of the caller's own, one within the other's element; a call that takes a slice of ours and yields one.
-/
namespace Go.AX
open Go.RowKit

variable {cx : Cx} {g : Nat → Value} {σ σ' : St} {a : Act} {w w' : World} {nx : Nat} {c : Code} {Q : Exit → St → Prop}
variable {ty : TypeId} {pos : String} {af : Array Edge} {gd : Option (Nat × Bool)} {d : Nat}

/-! ### A slice of ours handed over, and another one back -/
/-- From w to w': nothing that was there has turned but the block of v. -/
structure BelowBut (v : Value) (w w' : World) : Prop where
  os : w'.os = w.os
  tape : w'.tape = w.tape
  output : w'.output = w.output
  size : w.heap.size ≤ w'.heap.size
  block : ∀ b, b < w.heap.size → blk v ≠ some b → w'.heap[b]? = w.heap[b]?
structure FnUpd (P : Program) (f : FuncId) (e k : Nat) (rows : List (List D)) (args : List Arg) (rows' : List (List D)) : Prop where
  run : ∃ fn, P.funcs[f]? = some fn ∧ (fn.name == "runtime.NumGoroutine") = false ∧ fn.body.isNone = false
  calls : ∀ (w : World) (own : Nat → Prop) (v : Value) (vs : List Value), (∀ b, own b → b < w.heap.size) → RowsAt w 0 (with1 own v) e k v rows → (∀ b, own b → blk v ≠ some b) → ArgsOk w (with1 own v) vs args →
    Calls P f (v :: vs).toArray w fun r w' => ∃ v', r = .returned v' ∧ BelowBut v w w' ∧ (∀ b, blk v' = some b → blk v = some b ∨ w.heap.size ≤ b) ∧ RowsAt w' 0 (with1 own v') e k v' rows'

theorem ok_upd {f : FuncId} {x : Operand} {xs : List Operand} {avs : List AV} {ys : List Arg} {l : List (Key × Val)} {e k id n : Nat} {rows rows' : List (List D)} {ats : Array TypeId}
    (hd : d < cx.n) (hc : FnUpd cx.P f e k rows ys rows') (hx : EvS x (.own id n)) (hn : n = rows.length) (hsub : Subs xs avs ys l) :
    OpOk cx ⟨some d, .call { callee := .value (.func f), args := ⟨x :: xs⟩, argTypes := ats }, ty, pos, af, gd⟩ ⟨rdOf x (.own id n) ++ (l ++ [(.o id, .ob (.arr e k rows)), (.nx, .num nx)]), [(.s d, .av (.own nx rows'.length)), (.o nx, .ob (.arr e k rows')), (.nx, .num (nx + 1)), (.o id, .none)]⟩ := by
  rintro σ a w K Q ⟨g, n', hs⟩ hr hK
  have hnx : n' = nx := by
    have h2 := hr.right.right.2.1
    rw [hs.hnx] at h2
    simpa using h2
  subst hnx
  have ho : get σ (.o id) = .ob (.arr e k rows) := hr.right.right.1
  have hidlt := (hs.objs id _ ho).1
  have hval : a.eval x = g id := ((hs.ev hx hr.left).1.2 e k rows ho).2 hn
  have hR := objRows hs ho
  -- what is kept, but for that slice
  have hown1 : ∀ b, cx.own g ((.o id, .none) :: σ) b → cx.own g σ b ∧ blk (g id) ≠ some b := by
    rintro b (h | ⟨j, o, h1, h2⟩)
    · refine ⟨.inl h, fun hb => ?_⟩
      have h3 := obj_ge hs ho hb
      have h4 := hs.own0 b h
      omega
    · by_cases hj : id = j
      · subst hj; rw [get_cons_same] at h1; cases h1
      · rw [get_cons_ne (by simpa using hj)] at h1
        exact ⟨.inr ⟨j, o, h1, h2⟩, fun hb => hj (hs.sep id j _ o b ho h1 hb h2)⟩
  have hw1 : ∀ b, with1 (cx.own g ((.o id, .none) :: σ)) (g id) b → cx.own g σ b := by
    rintro b (h | h)
    · exact (hown1 b h).1
    · exact .inr ⟨id, _, ho, h⟩
  have hcall := hc.calls w (cx.own g ((.o id, .none) :: σ)) (g id) (xs.map a.eval) (fun b hb => own_lt hs (hown1 b hb).1) (hR.re (fun b _ => Nat.zero_le _) hw1) (fun b hb => (hown1 b hb).2) ((hsub.ok hs hr.right.left).less hw1)
  unfold Oper.wp
  rw [call_run hc.run, List.map_cons, hval]
  refine hcall.mono fun r w' he => ?_
  obtain ⟨v', rfl, hbb, hpl, hR'⟩ := he
  have hge := hs.below.size
  have hbel : Below cx.w0.heap.size w w' := ⟨hbb.os, hbb.tape, hbb.output, hbb.size, fun b hb => hbb.block b (by omega) fun he => by have := obj_ge hs ho he; omega⟩
  have hext : Ext (cx.own g σ) w w' := ⟨hbb.size, fun b hb hn => hbb.block b hb fun he => hn (.inr ⟨id, _, ho, he⟩)⟩
  have hback : ∀ j o, j ≠ n' → get ((.o n', .ob (.arr e k rows')) :: (.nx, .num (n' + 1)) :: (.o id, .none) :: σ) (.o j) = .ob o → j ≠ id ∧ get σ (.o j) = .ob o := by
    intro j o1 hj h1
    rw [get_cons_ne (by simpa using fun e => hj e.symm), get_cons_ne (by simp)] at h1
    by_cases he : id = j
    · subst he; rw [get_cons_same] at h1; cases h1
    · rw [get_cons_ne (by simpa using he)] at h1
      exact ⟨fun e => he e.symm, h1⟩
  have hownin : ∀ b, cx.own (upd g n' v') ((.o n', .ob (.arr e k rows')) :: (.nx, .num (n' + 1)) :: (.o id, .none) :: σ) b → with1 (cx.own g ((.o id, .none) :: σ)) v' b := by
    rintro b (h | ⟨j, o, h1, h2⟩)
    · exact .inl (.inl h)
    · by_cases hj : j = n'
      · subst hj; rw [upd_same] at h2; exact .inr h2
      · rw [upd_ne hj] at h2
        obtain ⟨h3, h4⟩ := hback j o hj h1
        exact .inl (.inr ⟨j, o, (get_cons_ne (by simpa using fun e => h3 e.symm)).trans h4, h2⟩)
  have hl : Later cx g (upd g n' v') σ ((.o n', .ob (.arr e k rows')) :: (.nx, .num (n' + 1)) :: (.o id, .none) :: σ) w w' n' := by
    refine ⟨hext, hbel, fun b hb => ?_, fun j o1 hj h1 => ?_⟩
    · rcases hownin b hb with h | h
      · exact .inl (hown1 b h).1
      · rcases hpl b h with h | h
        · exact .inl (.inr ⟨id, _, ho, h⟩)
        · exact .inr h
    · have hjn : j ≠ n' := by omega
      refine ⟨o1, (hback j o1 hjn h1).2, ?_⟩
      cases o1 <;> simp [ObLe, upd_ne hjn]
  have hG : SimG cx ((.o n', .ob (.arr e k rows')) :: (.nx, .num (n' + 1)) :: (.o id, .none) :: σ) a w' (upd g n' v') (n' + 1) := by
    refine hs.next hl (by rw [get_cons_ne (by simp), get_cons_same]) (Nat.le_succ _) hs.size hs.defers hbel (fun j av hj => .inl ⟨?_, rfl⟩) (fun j o1 hj => ?_) (fun j j' o1 o2 b h1 h2 h3 h4 => ?_)
    · rw [get_cons_ne (by simp), get_cons_ne (by simp), get_cons_ne (by simp)] at hj; exact hj
    · by_cases hjn : j = n'
      · subst hjn
        rw [get_cons_same] at hj
        cases hj
        refine .inr ⟨Nat.lt_succ_self _, ?_, trivial⟩
        show RowsAt w' cx.w0.heap.size _ e k (upd g j v' j) rows'
        rw [upd_same]
        refine hR'.re (fun b hb => ?_) hownin
        rcases hpl b hb with h | h
        · exact (hR.lt h).1
        · omega
      · obtain ⟨h5, h6⟩ := hback j o1 hjn hj
        exact .inl ⟨h6, upd_ne hjn, fun b hb => hbb.block b (own_lt hs (.inr ⟨j, o1, h6, hb⟩)) fun he => h5 (hs.sep j id o1 _ b h6 ho hb he)⟩
    · have hone : ∀ j o1, j ≠ n' → get ((.o n', .ob (.arr e k rows')) :: (.nx, .num (n' + 1)) :: (.o id, .none) :: σ) (.o j) = .ob o1 → blk (upd g n' v' j) = some b → blk v' = some b → False := by
        intro j o1 hj hj1 hjb hvb
        rw [upd_ne hj] at hjb
        obtain ⟨h5, h6⟩ := hback j o1 hj hj1
        rcases hpl b hvb with h | h
        · exact h5 (hs.sep j id o1 _ b h6 ho hjb h)
        · have := own_lt hs (.inr ⟨j, o1, h6, hjb⟩); omega
      by_cases he : j = n'
      · by_cases he' : j' = n'
        · rw [he, he']
        · subst he; rw [upd_same] at h3; exact (hone j' o2 he' h2 h4 h3).elim
      · by_cases he' : j' = n'
        · subst he'; rw [upd_same] at h4; exact (hone j o1 he h1 h3 h4).elim
        · obtain ⟨_, h6⟩ := hback j o1 he h1
          obtain ⟨_, h8⟩ := hback j' o2 he' h2
          rw [upd_ne he] at h3
          rw [upd_ne he'] at h4
          exact hs.sep j j' o1 o2 b h6 h8 h3 h4
  refine hK _ _ (Sim.put hG hd (Below.refl _ _) ?_ (Nat.lt_succ_self _))
  refine ⟨.of get_cons_same, fun e' k' rows'' hg => ?_⟩
  rw [get_cons_same] at hg
  cases hg
  exact ⟨Nat.le_refl _, fun _ => by rw [upd_same]⟩
theorem a_upd {f : FuncId} {x : Operand} {xs : List Operand} {avs : List AV} {ys : List Arg} {l : List (Key × Val)} {e k id n : Nat} {rows rows' : List (List D)} {ats : Array TypeId}
    (hc : FnUpd cx.P f e k rows ys rows') (hx : ev σ x = some (.own id n)) (ho : get σ (.o id) = .ob (.arr e k rows)) (hnx : get σ .nx = .num nx) (hn : n = rows.length) (hd : Nat.blt d cx.n = true) (hsub : SubsE σ xs avs ys l) :
    OA cx σ ⟨some d, .call { callee := .value (.func f), args := ⟨x :: xs⟩, argTypes := ats }, ty, pos, af, gd⟩ ⟨rdOf x (.own id n) ++ (l ++ [(.o id, .ob (.arr e k rows)), (.nx, .num nx)]), [(.s d, .av (.own nx rows'.length)), (.o nx, .ob (.arr e k rows')), (.nx, .num (nx + 1)), (.o id, .none)]⟩ :=
  ⟨ok_upd (lt_of_blt hd) hc (ev_out hx).1 hn hsub.out.1, (ev_out hx).2.append (hsub.out.2.append ⟨ho, hnx, trivial⟩)⟩

end Go.AX

/-! AxFam2 -/
/-
  The same, for a walk.
-/
namespace Go.AX
open Go.RowKit

variable {cx : Cx} {σ σ' : St} {a a' : Act} {w w' : World} {ops : Array Oper} {Q : Exit → St → Prop}
variable {ty : TypeId} {pos : String} {af : Array Edge} {gd : Option (Nat × Bool)} {d nx : Nat} {g : Nat → Value}

theorem Run.append : ∀ {t1 t2 : List Tr} {σ : St}, Run t1 σ → Run t2 (fin t1 σ) → Run (t1 ++ t2) σ ∧ fin (t1 ++ t2) σ = fin t2 (fin t1 σ)
  | [], t2, σ, _, h => ⟨h, rfl⟩
  | t :: t1, t2, σ, h1, h2 => by
    obtain ⟨h3, h4⟩ := Run.append h1.2 h2
    exact ⟨⟨h1.1, h3⟩, h4⟩

end Go.AX

/-! AxPin4 -/
/-
  Stutters between a region's operations; facts out of a state; a slice whose handle is known, read and written in place.
-/
namespace Go.AX
open Go.RowKit

variable {cx : Cx} {g : Nat → Value} {σ σ' : St} {a : Act} {w w' : World} {nx : Nat} {c : Code} {Q : Exit → St → Prop}
variable {ty : TypeId} {pos : String} {af : Array Edge} {gd : Option (Nat × Bool)} {d : Nat}
variable {ops : Array Oper} {rest : List Oper} {o : Oper}

theorem SW.s1 {rd wr : List (Key × Val)} (ha : autA cx σ o = some ⟨rd, wr⟩) (h : SW cx ops Q rest (wr ++ σ)) : SW cx ops Q (o :: rest) σ := by
  obtain ⟨dst, op, ty, pos, af, gd⟩ := o
  cases gd with
  | some p => cases ha
  | none =>
    simp only [autA] at ha
    split at ha
    · next hd => 
      obtain ⟨h1, h2⟩ := trA_ok (cx := cx) (ty := ty) (pos := pos) (af := af) (gd := none) hd ha
      exact SW.step rfl ⟨h1, h2⟩ h
    · cases ha
theorem SW.s5 {rd wr : List (Key × Val)} (ho : OA cx σ o ⟨rd, wr⟩) (hg : o.guard = none) (h : SW cx ops Q rest (wr ++ σ)) : SW cx ops Q (o :: rest) σ := SW.step hg ho h
theorem SW.nil (h : Q .normal σ) : SW cx ops Q [] σ := fun a w hs => wpList_nil ⟨σ, hs, h⟩
theorem SW.stut {t : Tr} {l : List Oper} (hs : Stut cx t) (ha : App σ t.rd) (h : SW cx ops Q l (t.wr ++ σ)) : SW cx ops Q l σ := fun a w hsim => h a w (hs σ a w hsim ha)
theorem CW.fact {p : Prop} (hf : ∀ a w, Sim cx σ a w → p) (h : p → CW cx c Q σ) : CW cx c Q σ := fun a w hs => h (hf a w hs) a w hs
theorem SW.fact {p : Prop} {l : List Oper} (hf : ∀ a w, Sim cx σ a w → p) (h : p → SW cx ops Q l σ) : SW cx ops Q l σ := fun a w hs => h (hf a w hs) a w hs
end Go.AX

/-! AxPin5 -/
/-
  A slice's length where its handle is known; a slice of ours within another's element, told as data there.
-/
namespace Go.AX
open Go.RowKit

variable {cx : Cx} {g : Nat → Value} {σ σ' : St} {a : Act} {w w' : World} {nx : Nat} {c : Code} {Q : Exit → St → Prop}
variable {ty : TypeId} {pos : String} {af : Array Edge} {gd : Option (Nat × Bool)} {d : Nat}

theorem SimG.drop (hG : SimG cx σ a w g nx) (id : Nat) : SimG cx ((.o id, .none) :: σ) a w g nx := by
  have hl := Less.drop ⟨g, nx, hG⟩ id
  have hlat : Later cx g g σ ((.o id, .none) :: σ) w w nx := by
    refine ⟨Ext.refl _ _, Below.refl _ _, fun b hb => ?_, fun j o' _ h => ⟨o', hl.o _ _ h, ?_⟩⟩
    · rcases hb with hb | ⟨j, o, h5, h6⟩
      · exact .inl (.inl hb)
      · exact .inl (.inr ⟨j, o, hl.o _ _ h5, h6⟩)
    · cases o' <;> simp [ObLe]
  exact hG.next hlat ((get_cons_ne (by simp)).trans hG.hnx) (Nat.le_refl _) hG.size hG.defers (Below.refl _ _) (fun j av hj => .inl ⟨hl.s _ _ hj, rfl⟩) (fun j o hj => .inl ⟨hl.o _ _ hj, rfl, fun _ _ => rfl⟩)
    (fun j j' o o' b h1 h2 => hG.sep j j' o o' b (hl.o _ _ h1) (hl.o _ _ h2))

end Go.AX

/-! AxBool -/
/-
  Two truths compared; structs compared that were loaded from a variable of ours.
-/
namespace Go.AX
open Go.RowKit

section
variable {P : Program} {t : TypeId}
end

variable {cx : Cx} {g : Nat → Value} {σ σ' : St} {a : Act} {w w' : World} {nx : Nat}
variable {ty : TypeId} {pos : String} {af : Array Edge} {gd : Option (Nat × Bool)} {d : Nat}

/-- A struct's cells, all plain. -/
inductive AggV : AV → List Value → Prop
  | d {ds : List D} {us : List Value} (h : ds = us.map D.v) : AggV (.d (.agg ds)) us
  | a {cs : List AV} {us : List Value} (h : cs = us.map fun u => AV.d (.v u)) : AggV (.agg cs) us
theorem rep_aggv {v : Value} {av : AV} {us : List Value} (h : AggV av us) (hr : Rep cx g σ w v av) : v = .agg us.toArray := by
  cases h with
  | d h => subst h; exact rd_agg_v hr
  | a h =>
    subst h
    obtain ⟨cs, rfl, hs, _, hr⟩ := hr
    congr 1
    apply Array.ext_getElem?
    intro j
    have hs' : cs.size = us.length := by simpa using hs
    rcases Nat.lt_or_ge j us.length with hj | hj
    · have h1 := hr j cs[j] (.d (.v us[j])) (by simp [List.getElem?_map, List.getElem?_eq_getElem hj]) (Array.getElem?_eq_getElem (by omega))
      have h2 : cs[j] = us[j] := rd_v h1
      rw [Array.getElem?_eq_getElem (by omega)]
      simp [h2]
    · rw [Array.getElem?_eq_none (by omega)]
      simp [hj]
theorem a_agg2 {op : BinOp} {t t' : TypeId} {x y : Operand} {ax ay : AV} {us vs : List Value} {r : Value} (hb : BinR cx.P op t (.agg us.toArray) (.agg vs.toArray) r) (hx : ev σ x = some ax) (hy : ev σ y = some ay)
    (hu : AggV ax us) (hv : AggV ay vs) (hd : Nat.blt d cx.n = true) : OA cx σ ⟨some d, .binOp op t x y t', ty, pos, af, gd⟩ ⟨rdOf x ax ++ rdOf y ay, [(.s d, .av (.d (.v r)))]⟩ := by
  refine ⟨?_, (ev_out hx).2.append (ev_out hy).2⟩
  have ex := (ev_out hx).1
  have ey := (ev_out hy).1
  refine ok_val rfl (lt_of_blt hd) fun _ a w _ _ hs hr => ⟨r, w, ?_, Below.refl _ _, Rd.v _, trivial⟩
  have h1 := rep_aggv hu (hs.ev ex hr.left).1
  have h2 := rep_aggv hv (hs.ev ey hr.right).1
  have := hb w x y
  simp only [execOp, h1, h2, Sem.run_bind, Sem.run_pure] at this ⊢
  rw [this]
  rfl

end Go.AX

/-! AxFnD -/
/-
  Pointers, maps and closures told as data; closures made and called.
-/
namespace Go.AX
open Go.RowKit

variable {cx : Cx} {g : Nat → Value} {σ σ' : St} {a : Act} {w w' : World} {nx : Nat}
variable {ty : TypeId} {pos : String} {af : Array Edge} {gd : Option (Nat × Bool)} {d : Nat}

/-! ### As data -/
/-- A pointer to cells that stay. -/
def refP (ds : List D) (w : World) (own : Nat → Prop) (v : Value) : Prop := ∃ ad : Addr, v = .pointer (some ad) ∧ ¬ own ad.block ∧ ad.block < w.heap.size ∧ RdCells w own ad ds
def refD (ds : List D) : D := .x (refP ds)
/-- A map that stays. -/
def mapP (M : List (List UInt8 × Value)) (w : World) (own : Nat → Prop) (v : Value) : Prop := ∃ b es clock, v = .map (some b) ∧ ¬ own b ∧ b < w.heap.size ∧ w.heap[b]? = some (.map es clock) ∧ MapIs es M
def mapD (M : List (List UInt8 × Value)) : D := .x (mapP M)
/-- A function with what it captured. -/
def fnP (f : FuncId) (ds : List D) (w : World) (own : Nat → Prop) (v : Value) : Prop := ∃ cs : Array Value, v = .func (.func f) #[] cs ∧ cs.size = ds.length ∧ ∀ (j : Nat) (x : D) (c : Value), ds[j]? = some x → cs[j]? = some c → Rd w own c x
def fnD (f : FuncId) (ds : List D) : D := .x (fnP f ds)

theorem ref_stable (ds : List D) : Stable (refP ds) := by
  rintro own own' w w' v hx ho ⟨ad, rfl, h1, h2, h3⟩
  refine ⟨ad, rfl, fun h => ?_, Nat.lt_of_lt_of_le h2 hx.size, h3.step hx ho fun j => hx.cell (by rw [add_block]; exact h2) (by rw [add_block]; exact h1)⟩
  rcases ho _ h with h | h
  · exact h1 h
  · omega
theorem map_stable (M : List (List UInt8 × Value)) : Stable (mapP M) := by
  rintro own own' w w' v hx ho ⟨b, es, clock, rfl, h1, h2, h3, h4⟩
  refine ⟨b, es, clock, rfl, fun h => ?_, Nat.lt_of_lt_of_le h2 hx.size, (hx.block b h2 h1).trans h3, h4⟩
  rcases ho _ h with h | h
  · exact h1 h
  · omega
theorem fn_stable (f : FuncId) (ds : List D) : Stable (fnP f ds) := by
  rintro own own' w w' v hx ho ⟨cs, rfl, h1, h2⟩
  exact ⟨cs, rfl, h1, fun j x c hj hc => (h2 j x c hj hc).step hx ho⟩
theorem rd_x {own : Nat → Prop} {v : Value} {p : World → (Nat → Prop) → Value → Prop} (h : Rd w own v (.x p)) : p w own v := by
  generalize hD : D.x p = D0 at h
  cases h with
  | v => cases hD
  | sl => cases hD
  | agg => cases hD
  | nil => cases hD
  | x p v h1 hst hp => cases hD; exact hp
theorem rd_ref {own : Nat → Prop} {v : Value} {ds : List D} (h : refP ds w own v) : Rd w own v (refD ds) := by
  obtain ⟨ad, rfl, _⟩ := id h
  exact .x _ _ rfl (ref_stable ds) h
theorem rd_map {own : Nat → Prop} {v : Value} {M : List (List UInt8 × Value)} (h : mapP M w own v) : Rd w own v (mapD M) := by
  obtain ⟨b, es, clock, rfl, _⟩ := id h
  exact .x _ _ rfl (map_stable M) h
theorem rd_fn {own : Nat → Prop} {v : Value} {f : FuncId} {ds : List D} (h : fnP f ds w own v) : Rd w own v (fnD f ds) := by
  obtain ⟨cs, rfl, _⟩ := id h
  exact .x _ _ rfl (fn_stable f ds) h

/-! ### A pointer to cells that stay -/
theorem stut_refpd {i : Nat} {ds : List D} : Stut cx ⟨[(.s i, .av (.d (refD ds)))], [(.s i, .av (.pd ds))]⟩ := by
  rintro σ a w ⟨g, nx, hG⟩ hr
  obtain ⟨ad, h1, h2, h3, h4⟩ := rd_x (hG.slots i _ hr.1).1
  exact Sim.retell hG (av := .pd ds) ⟨ad, h1, .inr h2, h3, h4⟩ trivial
theorem own_drop (hs : SimG cx σ a w g nx) {id : Nat} {o : Ob} (ho : get σ (.o id) = .ob o) {b : Nat} (hb : cx.own g ((.o id, .none) :: σ) b) : cx.own g σ b ∧ blk (g id) ≠ some b := by
  rcases hb with h | ⟨j, o1, h1, h2⟩
  · refine ⟨.inl h, fun hb => ?_⟩
    have h3 := obj_ge hs ho hb
    have h4 := hs.own0 b h
    omega
  · by_cases hj : id = j
    · subst hj; rw [get_cons_same] at h1; cases h1
    · rw [get_cons_ne (by simpa using hj)] at h1
      exact ⟨.inr ⟨j, o1, h1, h2⟩, fun hb => hj (hs.sep id j _ o1 b ho h1 hb h2)⟩
/-- A box of ours that is written no more. -/
theorem stut_freezebox {i id : Nat} {cells : List AV} {ds : List D} (hc : cells = ds.map AV.d) : Stut cx ⟨[(.s i, .av (.ptr id 0)), (.o id, .ob (.box cells))], [(.s i, .av (.d (refD ds))), (.o id, .none)]⟩ := by
  subst hc
  rintro σ a w hs hr
  have hs0 := hs
  obtain ⟨g, nx, hG⟩ := hs0
  have ho : get σ (.o id) = .ob (.box (ds.map AV.d)) := hr.2.1
  obtain ⟨b0, hg0, hv⟩ := (hG.slots i _ hr.1).1.2 _ ho
  obtain ⟨_, ⟨b, cs, t, h0, h1, h2, h3, h4, h5⟩, _⟩ := hG.objs id _ ho
  obtain rfl : b0 = b := by rw [hg0] at h0; simpa using h0
  have hl := Less.drop hs id
  have hlat : Later cx g g σ ((.o id, .none) :: σ) w w nx := by
    refine ⟨Ext.refl _ _, Below.refl _ _, fun b hb => .inl (own_drop hG ho hb).1, fun j o' _ h => ⟨o', hl.o _ _ h, ?_⟩⟩
    cases o' <;> simp [ObLe]
  have hG2 : SimG cx ((.o id, .none) :: σ) a w g nx :=
    hG.next hlat ((get_cons_ne (by simp)).trans hG.hnx) (Nat.le_refl _) hG.size hG.defers (Below.refl _ _) (fun j av hj => .inl ⟨hl.s _ _ hj, rfl⟩) (fun j o hj => .inl ⟨hl.o _ _ hj, rfl, fun _ _ => rfl⟩)
      (fun j j' o o' b h1 h2 => hG.sep j j' o o' b (hl.o _ _ h1) (hl.o _ _ h2))
  have hlt : b0 < w.heap.size := by
    rcases Nat.lt_or_ge b0 w.heap.size with h | h
    · exact h
    · rw [Array.getElem?_eq_none h] at h2; cases h2
  refine Sim.retell hG2 (av := .d (refD ds)) (rd_ref ⟨_, hv, fun h => (own_drop hG ho h).2 (by rw [hg0]; rfl), hlt, fun j z hz => ?_⟩) trivial
  have hjl : j < cs.size := by rw [h3]; simpa using (List.getElem?_eq_some_iff.1 hz).1
  have hcs : cs[j]? = some cs[j] := Array.getElem?_eq_getElem hjl
  refine ⟨cs[j], by rw [add_lit]; simp [World.cell?, h2, hcs], h4 _ _ hcs, ?_⟩
  exact Rd.less (fun b hb => (own_drop hG ho hb).1) (h5 j _ (.d z) (by rw [List.getElem?_map, hz]; rfl) hcs)

/-! ### Closures -/
theorem argsOk_get {own : Nat → Prop} : ∀ {vs : List Value} {ds : List D}, ArgsOk w own vs (ds.map Arg.d) → vs.length = ds.length ∧ ∀ (j : Nat) (x : D) (c : Value), ds[j]? = some x → vs[j]? = some c → Rd w own c x
  | [], [], _ => ⟨rfl, by simp⟩
  | v :: vs, y :: ds, h => by
    obtain ⟨h1, h2⟩ := argsOk_get h.2
    refine ⟨by simp [h1], fun j x c hj hc => ?_⟩
    cases j with
    | zero => simp at hj hc; subst hj; subst hc; exact h.1
    | succ j => exact h2 j x c (by simpa using hj) (by simpa using hc)
  | [], y :: ds, h => h.elim
  | v :: vs, [], h => h.elim
theorem argsOk_append {own : Nat → Prop} : ∀ {vs us : List Value} {xs ys : List Arg}, ArgsOk w own vs xs → ArgsOk w own us ys → ArgsOk w own (vs ++ us) (xs ++ ys)
  | [], us, [], ys, _, h => h
  | v :: vs, us, x :: xs, ys, h, h' => ⟨h.1, argsOk_append h.2 h'⟩
  | [], us, x :: xs, ys, h, _ => h.elim
  | v :: vs, us, [], ys, h, _ => h.elim
theorem a_mkfn {f : FuncId} {xs : List Operand} {avs : List AV} {ds : List D} {l : List (Key × Val)} (hd : Nat.blt d cx.n = true) (hsub : SubsE σ xs avs (ds.map Arg.d) l) :
    OA cx σ ⟨some d, .makeFunc (.func f) #[] ⟨xs⟩, ty, pos, af, gd⟩ ⟨l, [(.s d, .av (.d (fnD f ds)))]⟩ := by
  refine ⟨ok_val rfl (lt_of_blt hd) fun σ1 a w g nx hs hr => ⟨.func (.func f) #[] (xs.map a.eval).toArray, w, ?_, Below.refl _ _, ?_, trivial⟩, hsub.out.2⟩
  · simp [execOp, Instr.makeFunc]
  · obtain ⟨h1, h2⟩ := argsOk_get (hsub.out.1.ok hs hr)
    exact rd_fn ⟨_, rfl, by simpa using h1, fun j x c hj hc => h2 j x c hj (by simpa using hc)⟩

/-- What is captured, as a function's arguments. -/
inductive Caps : List D → List Arg → Prop
  | nil : Caps [] []
  | ref {cs ds : List D} {zs : List Arg} (h : Caps ds zs) : Caps (refD cs :: ds) (.pd cs :: zs)
  | d {x : D} {ds : List D} {zs : List Arg} (h : Caps ds zs) : Caps (x :: ds) (.d x :: zs)
theorem Caps.ok {own : Nat → Prop} {ds : List D} {zs : List Arg} (h : Caps ds zs) : ∀ {vs : List Value}, vs.length = ds.length → (∀ (j : Nat) (x : D) (c : Value), ds[j]? = some x → vs[j]? = some c → Rd w own c x) → ArgsOk w own vs zs := by
  induction h with
  | nil =>
    intro vs hl _
    obtain rfl : vs = [] := List.eq_nil_of_length_eq_zero hl
    trivial
  | @ref cs ds zs h ih =>
    intro vs hl hr
    cases vs with
    | nil => simp at hl
    | cons v vs =>
      obtain ⟨ad, h1, _, h2, h3⟩ := rd_x (hr 0 _ v rfl rfl)
      exact ⟨⟨ad, h1, h2, h3⟩, ih (by simpa using hl) fun j x c hj hc => hr (j + 1) x c (by simpa using hj) (by simpa using hc)⟩
  | @d x ds zs h ih =>
    intro vs hl hr
    cases vs with
    | nil => simp at hl
    | cons v vs => exact ⟨hr 0 _ v rfl rfl, ih (by simpa using hl) fun j x c hj hc => hr (j + 1) x c (by simpa using hj) (by simpa using hc)⟩
theorem callfn_run {P : Program} {f : FuncId} {ys : List Arg} {r : Res} (hc : FnOk P f ys r) {ev : Operand → Value} {z : Operand} {xs : List Operand} {ats : Array TypeId} {dd : Option Nat} {cs : Array Value} (hv : ev z = .func (.func f) #[] cs) :
    (execOp ev ⟨dd, .call { callee := .value z, args := ⟨xs⟩, argTypes := ats }, ty, pos, af, gd⟩).run P w = .ok (.enter f (xs.map ev ++ cs.toList).toArray) w := by
  obtain ⟨fn, h1, h2, h3⟩ := hc.run
  simp only [execOp, resolve, Deferred.ofValue, hv, invoke, callFunc, Sem.run_bind, Sem.run_pure, Result.andThen_ok, run_program, h1, h2, h3, Bool.false_eq_true, if_false]
  simp
/-- A closure that came as data, called. -/
theorem a_callfn {f : FuncId} {z : Operand} {xs : List Operand} {avs : List AV} {ys zs : List Arg} {l : List (Key × Val)} {r : Res} {ats : Array TypeId} {ds : List D} (hc : FnOk cx.P f (ys ++ zs) r) (hcap : Caps ds zs)
    (hz : ev σ z = some (.d (fnD f ds))) (hd : Nat.blt d cx.n = true) (hsub : SubsE σ xs avs ys l) :
    OA cx σ ⟨some d, .call { callee := .value z, args := ⟨xs⟩, argTypes := ats }, ty, pos, af, gd⟩ ⟨rdOf z (.d (fnD f ds)) ++ l, [(.s d, .av r.av)]⟩ := by
  refine ⟨?_, (ev_out hz).2.append hsub.out.2⟩
  rintro σ1 a w K Q ⟨g, nx, hs⟩ hr hK
  obtain ⟨cs, hv, h1, h2⟩ := rd_x (hs.ev (ev_out hz).1 hr.left).1
  have hcall := hc.calls w (cx.own g σ1) (xs.map a.eval ++ cs.toList) (fun b hb => own_lt hs hb) (argsOk_append (hsub.out.1.ok hs hr.right) (hcap.ok (by simpa using h1) fun j x c hj hc => h2 j x c hj (by simpa using hc)))
  unfold Oper.wp
  rw [callfn_run hc hv]
  refine hcall.mono fun e w' he => ?_
  obtain ⟨v, rfl, hb, hres⟩ := he
  obtain ⟨h1, h2⟩ := Res.rep (nx := nx) hres
  exact hK _ _ (Sim.put hs (lt_of_blt hd) hb h1 h2)

/-- The same, where a map of ours lies in a captured box: told as data to who is called. -/
inductive CapsM (x0 : Value) (M : List (List UInt8 × Value)) : List D → List Arg → Prop
  | nil : CapsM x0 M [] []
  | map {ds : List D} {zs : List Arg} (h : CapsM x0 M ds zs) : CapsM x0 M (refD [.v x0] :: ds) (.pd [mapD M] :: zs)
  | ref {cs ds : List D} {zs : List Arg} (h : CapsM x0 M ds zs) : CapsM x0 M (refD cs :: ds) (.pd cs :: zs)
theorem CapsM.ok {own own' : Nat → Prop} {x0 : Value} {M : List (List UInt8 × Value)} (ho : ∀ b, own' b → own b) (hm : Rd w own' x0 (mapD M)) {ds : List D} {zs : List Arg} (h : CapsM x0 M ds zs) :
    ∀ {vs : List Value}, vs.length = ds.length → (∀ (j : Nat) (x : D) (c : Value), ds[j]? = some x → vs[j]? = some c → Rd w own c x) → ArgsOk w own' vs zs := by
  induction h with
  | nil =>
    intro vs hl _
    obtain rfl : vs = [] := List.eq_nil_of_length_eq_zero hl
    trivial
  | @map ds zs h ih =>
    intro vs hl hr
    cases vs with
    | nil => simp at hl
    | cons v vs =>
      obtain ⟨ad, h1, _, h2, h3⟩ := rd_x (hr 0 _ v rfl rfl)
      refine ⟨⟨ad, h1, h2, fun j z hz => ?_⟩, ih (by simpa using hl) fun j x c hj hc => hr (j + 1) x c (by simpa using hj) (by simpa using hc)⟩
      cases j with
      | zero =>
        simp at hz; subst hz
        obtain ⟨u, h4, h5, h6⟩ := h3 0 _ rfl
        rw [rd_v h6] at h4 h5
        exact ⟨x0, h4, h5, hm⟩
      | succ j => simp at hz
  | @ref cs ds zs h ih =>
    intro vs hl hr
    cases vs with
    | nil => simp at hl
    | cons v vs =>
      obtain ⟨ad, h1, _, h2, h3⟩ := rd_x (hr 0 _ v rfl rfl)
      exact ⟨⟨ad, h1, h2, fun j z hz => by obtain ⟨u, h4, h5, h6⟩ := h3 j z hz; exact ⟨u, h4, h5, h6.less ho⟩⟩, ih (by simpa using hl) fun j x c hj hc => hr (j + 1) x c (by simpa using hj) (by simpa using hc)⟩
theorem a_callfnM {f : FuncId} {z : Operand} {xs : List Operand} {avs : List AV} {ys zs : List Arg} {l : List (Key × Val)} {r : Res} {ats : Array TypeId} {ds : List D} {id : Nat} {x0 : Value} {M : List (List UInt8 × Value)}
    (hc : FnOk cx.P f (ys ++ zs) r) (hcap : CapsM x0 M ds zs) (hp : plainR r = true) (ho : get σ (.o id) = .ob (.mp M x0)) (hz : ev σ z = some (.d (fnD f ds))) (hd : Nat.blt d cx.n = true) (hsub : SubsE σ xs avs ys l) :
    OA cx σ ⟨some d, .call { callee := .value z, args := ⟨xs⟩, argTypes := ats }, ty, pos, af, gd⟩ ⟨rdOf z (.d (fnD f ds)) ++ (l ++ [(.o id, .ob (.mp M x0))]), [(.s d, .av r.av)]⟩ := by
  refine ⟨?_, (ev_out hz).2.append (hsub.out.2.append ⟨ho, trivial⟩)⟩
  rintro σ1 a w K Q ⟨g, nx, hs⟩ hr hK
  have ho1 : get σ1 (.o id) = .ob (.mp M x0) := hr.right.right.1
  obtain ⟨cs, hv, h1, h2⟩ := rd_x (hs.ev (ev_out hz).1 hr.left).1
  obtain ⟨_, ⟨hgx, b, es, clock, hx0, hge, hh, hmi⟩, _⟩ := hs.objs id _ ho1
  have hblt : b < w.heap.size := by
    rcases Nat.lt_or_ge b w.heap.size with h | h
    · exact h
    · rw [Array.getElem?_eq_none h] at hh; cases hh
  have hm : Rd w (fun c => cx.own g σ1 c ∧ blk x0 ≠ some c) x0 (mapD M) := rd_map ⟨b, es, clock, hx0, fun h => h.2 (by rw [hx0]; rfl), hblt, hh, hmi⟩
  have hcall := hc.calls w (fun c => cx.own g σ1 c ∧ blk x0 ≠ some c) (xs.map a.eval ++ cs.toList) (fun b hb => own_lt hs hb.1)
    (argsOk_append ((hsub.out.1.ok hs hr.right.left).less fun b hb => hb.1) (hcap.ok (fun b hb => hb.1) hm (by simpa using h1) fun j x c hj hc => h2 j x c hj (by simpa using hc)))
  unfold Oper.wp
  rw [callfn_run hc hv]
  refine hcall.mono fun e w' he => ?_
  obtain ⟨v, rfl, hb, hres⟩ := he
  obtain ⟨h1, h2⟩ := Res.rep (nx := nx) (plainR_ok hp (own' := cx.own g σ1) hres)
  exact hK _ _ (Sim.put hs (lt_of_blt hd) hb h1 h2)

/-! ### Maps of ours -/
def mget (M : List (List UInt8 × Value)) (k : List UInt8) : Option Value := match M with
  | [] => none
  | (s, v) :: r => if s = k then some v else mget r k
def mset (M : List (List UInt8 × Value)) (k : List UInt8) (v : Value) : List (List UInt8 × Value) := match M with
  | [] => [(k, v)]
  | (s, u) :: r => if s = k then (s, v) :: r else (s, u) :: mset r k v
/-- Where a key is found. -/
def mfind (k : List UInt8) : List (List UInt8 × Value) → Nat → Option (Nat × Value)
  | [], _ => none
  | (s, v) :: r, i => if s = k then some (i, v) else mfind k r (i + 1)
theorem findNow_eq (k : List UInt8) : ∀ {es : List MapEntry} {M : List (List UInt8 × Value)} (i : Nat), es.map (fun e => (e.key, e.val)) = M.map (fun p => (Value.string ⟨p.1.toArray⟩, p.2)) →
    Instr.findNow .string (.string ⟨k.toArray⟩) es i = some ((mfind k M i).map fun p => (p.1, p.2))
  | [], [], i, _ => rfl
  | [], p :: M, i, h => by simp at h
  | e :: es, [], i, h => by simp at h
  | e :: es, (s, v) :: M, i, h => by
    simp only [List.map_cons, List.cons.injEq, Prod.mk.injEq] at h
    obtain ⟨⟨h1, h2⟩, h3⟩ := h
    obtain ⟨r, hr, hiff⟩ := MapKept.sameNow_of_keys (d := .string) (a := .string ⟨k.toArray⟩) (b := .string ⟨s.toArray⟩) (by simp [MapKept.IsKey]) (by simp [MapKept.IsKey])
    rw [← h1] at hr
    have hs' : r = true ↔ s = k := by
      rw [hiff]
      simp only [Value.string.injEq, ByteArray.mk.injEq]
      constructor
      · intro h
        have := congrArg Array.toList h
        simpa using this.symm
      · rintro rfl; rfl
    simp only [Instr.findNow, hr, mfind]
    by_cases hs : s = k
    · rw [if_pos hs]
      have hrt := hs'.2 hs
      subst hrt
      simp [h2]
    · rw [if_neg hs]
      have hrf : r = false := by
        cases r with
        | false => rfl
        | true => exact absurd (hs'.1 rfl) hs
      subst hrf
      exact findNow_eq k (i + 1) h3
theorem mfind_get (k : List UInt8) : ∀ (M : List (List UInt8 × Value)) (i : Nat), (mfind k M i).map (·.2) = mget M k
  | [], _ => rfl
  | (s, v) :: M, i => by
    simp only [mfind, mget]
    split
    · rfl
    · exact mfind_get k M (i + 1)

end Go.AX

/-! AxMap -/
/-
  Maps of ours: made, written, read; maps told as data, read.
-/
namespace Go.AX
open Go.RowKit

variable {cx : Cx} {g : Nat → Value} {σ σ' : St} {a : Act} {w w' : World} {nx : Nat}
variable {ty : TypeId} {pos : String} {af : Array Edge} {gd : Option (Nat × Bool)} {d : Nat}

/-- A value's cells, each of them one. -/
def flat : Value → Prop
  | .agg cs => ∀ c ∈ cs.toList, Value.oneCell' c = true
  | _ => True
/-- A value, told as data. -/
def dv : Value → D
  | .agg cs => .agg (cs.toList.map D.v)
  | v => .v v
theorem rd_dv {own : Nat → Prop} {v : Value} (h : flat v) : Rd w own v (dv v) := by
  cases v with
  | agg cs =>
    refine .agg _ _ (by simp) (fun j c hc => h c (List.mem_of_getElem? (by simpa using hc))) fun j x c hx hc => ?_
    rw [List.getElem?_map] at hx
    have hc' : cs.toList[j]? = some c := by simpa using hc
    rw [hc'] at hx
    simp at hx; subst hx
    exact Rd.v _
  | _ => exact Rd.v _
/-- A type of maps from texts. -/
structure MapTy (cx : Cx) (t te : TypeId) (zv : Value) : Prop where
  u : ∃ tk, cx.P.underlying t = some (.map tk te) ∧ cx.P.underlying tk = some .string
  z : ∀ w, (zeroValue te).run cx.P w = .ok zv w
theorem MapTy.st {t te : TypeId} {ti : TI} (hu : ∃ tk, cx.P.underlying t = some (.map tk te) ∧ cx.P.underlying tk = some .string) (he : tget cx.T te = some ti) (h2 : ti.zero.length ≠ 1) : MapTy cx t te (.agg ti.zero.toArray) := by
  refine ⟨hu, fun w => ?_⟩
  obtain ⟨i, hi, _, _, z, hz, hc⟩ := (cx.hT te ti he).info
  have hag : z = .agg ti.zero.toArray := by
    cases z with
    | agg cs =>
      have : cs.toList = ti.zero := hc
      rw [← this]
    | _ => exact absurd (by rw [← hc]; rfl) h2
  subst hag
  simp [zeroValue, typeInfo, hi, hz]
def mlook (zv : Value) (M : List (List UInt8 × Value)) (k : List UInt8) : Value := (mget M k).getD zv
theorem run_mlook {t te : TypeId} {zv : Value} (h : MapTy cx t te zv) {b : Nat} {es : Array MapEntry} {clock : Nat} {M : List (List UInt8 × Value)} (hb : w.heap[b]? = some (.map es clock)) (hm : MapIs es M) (k : List UInt8) (ok : Bool) :
    (Instr.lookup t (.map (some b)) (.string ⟨k.toArray⟩) ok).run cx.P w = .ok (if ok then .tuple #[mlook zv M k, .bool (mget M k).isSome] else mlook zv M k) w := by
  obtain ⟨tk, h1, h2⟩ := h.u
  have hf := findNow_eq k 0 hm
  have hg := mfind_get k M 0
  have hck : (Instr.checkKey es.isEmpty 10000 tk (.string ⟨k.toArray⟩)).run cx.P w = .ok () w := MapKept.run_checkKey h2 (by simp [MapKept.IsKey]) _ 9999
  have hz := h.z w
  cases hfd : mfind k M 0 with
  | none =>
    rw [hfd] at hf hg
    simp only [Option.map_none] at hf hg
    cases ok <;> simp [Instr.lookup, run_underlying h1, MapKept.run_getObj_map hb, hck, Instr.findKey, run_underlying h2, hf, hz, mlook, ← hg, Result.andThen]
  | some p =>
    rw [hfd] at hf hg
    simp only [Option.map_some] at hf hg
    cases ok <;> simp [Instr.lookup, run_underlying h1, MapKept.run_getObj_map hb, hck, Instr.findKey, run_underlying h2, hf, mlook, ← hg, Result.andThen]

theorem tup_rep {v : Value} {r : Bool} (h1 : flat v) : Rep cx g σ w (.tuple #[v, .bool r]) (.tup [.d (dv v), .d (.v (.bool r))]) := by
  refine ⟨_, rfl, rfl, fun j c av hj hc => ?_⟩
  match j, hj, hc with
  | 0, hj, hc =>
    simp at hj hc; subst hj; subst hc
    exact rd_dv h1
  | 1, hj, hc => simp at hj hc; subst hj; subst hc; exact Rd.v _
theorem mget_mem {M : List (List UInt8 × Value)} {k : List UInt8} {us : Value} (h : mget M k = some us) : ∃ p ∈ M, p.2 = us := by
  induction M with
  | nil => cases h
  | cons q M ih =>
    obtain ⟨s, v⟩ := q
    simp only [mget] at h
    split at h
    · cases h; exact ⟨_, List.mem_cons_self .., rfl⟩
    · obtain ⟨p, h1, h2⟩ := ih h
      exact ⟨p, List.mem_cons_of_mem _ h1, h2⟩
theorem mlook_flat {zv : Value} {M : List (List UInt8 × Value)} {k : List UInt8} (hz : flat zv) (hM : ∀ p ∈ M, flat p.2) : flat (mlook zv M k) := by
  unfold mlook
  cases hg : mget M k with
  | none => exact hz
  | some us =>
    obtain ⟨p, h1, rfl⟩ := mget_mem hg
    exact hM p h1
theorem tup_bd {x y : D} : (AV.tup [.d x, .d y]).bd nx := by
  intro av hav
  simp at hav
  rcases hav with rfl | rfl <;> trivial

/-- A map of ours, read. -/
theorem a_mlook {t te : TypeId} {zv : Value} {x y : Operand} {x0 : Value} {k : List UInt8} {M : List (List UInt8 × Value)} (id : Nat) (h : MapTy cx t te zv) (hz : flat zv) (hM : ∀ p ∈ M, flat p.2)
    (hx : ev σ x = some (.d (.v x0))) (hy : ev σ y = some (.d (.v (.string ⟨k.toArray⟩)))) (ho : get σ (.o id) = .ob (.mp M x0)) (hd : Nat.blt d cx.n = true) :
    OA cx σ ⟨some d, .lookup t x y true, ty, pos, af, gd⟩ ⟨rdOf x (.d (.v x0)) ++ (rdOf y (.d (.v (.string ⟨k.toArray⟩))) ++ [(.o id, .ob (.mp M x0))]), [(.s d, .av (.tup [.d (dv (mlook zv M k)), .d (.v (.bool (mget M k).isSome))]))]⟩ := by
  refine ⟨ok_val rfl (lt_of_blt hd) fun σ1 a w g nx hs hr => ?_, (ev_out hx).2.append ((ev_out hy).2.append ⟨ho, trivial⟩)⟩
  have hv := rep_v (hs.ev (ev_out hx).1 hr.left).1
  have hk := rep_v (hs.ev (ev_out hy).1 hr.right.left).1
  obtain ⟨_, ⟨hgx, b, es, clock, hx0, hge, hh, hmi⟩, _⟩ := hs.objs id _ hr.right.right.1
  refine ⟨_, w, ?_, Below.refl _ _, tup_rep (mlook_flat hz hM), tup_bd⟩
  have := run_mlook (w := w) h hh hmi k true
  simp [execOp, hv, hk, hx0, this]
/-- A map that stays, read. -/
theorem a_mlookd {t te : TypeId} {zv : Value} {x y : Operand} {k : List UInt8} {M : List (List UInt8 × Value)} (h : MapTy cx t te zv) (hz : flat zv) (hM : ∀ p ∈ M, flat p.2)
    (hx : ev σ x = some (.d (mapD M))) (hy : ev σ y = some (.d (.v (.string ⟨k.toArray⟩)))) (hd : Nat.blt d cx.n = true) :
    OA cx σ ⟨some d, .lookup t x y true, ty, pos, af, gd⟩ ⟨rdOf x (.d (mapD M)) ++ rdOf y (.d (.v (.string ⟨k.toArray⟩))), [(.s d, .av (.tup [.d (dv (mlook zv M k)), .d (.v (.bool (mget M k).isSome))]))]⟩ := by
  refine ⟨ok_val rfl (lt_of_blt hd) fun σ1 a w g nx hs hr => ?_, (ev_out hx).2.append (ev_out hy).2⟩
  obtain ⟨b, es, clock, hx0, _, _, hh, hmi⟩ := rd_x (hs.ev (ev_out hx).1 hr.left).1
  have hk := rep_v (hs.ev (ev_out hy).1 hr.right).1
  refine ⟨_, w, ?_, Below.refl _ _, tup_rep (mlook_flat hz hM), tup_bd⟩
  have := run_mlook (w := w) h hh hmi k true
  simp [execOp, hx0, hk, this]
/-! ### Written -/
theorem mfind_some {k : List UInt8} {us v : Value} : ∀ {M : List (List UInt8 × Value)} {j i : Nat}, mfind k M j = some (i, v) → ∃ n, i = j + n ∧ M[n]? = some (k, v) ∧ mset M k us = M.set n (k, us)
  | [], j, i, h => by cases h
  | (s, u) :: M, j, i, h => by
    simp only [mfind] at h
    by_cases hs : s = k
    · rw [if_pos hs] at h
      cases h
      exact ⟨0, rfl, by simp [hs], by simp [mset, hs]⟩
    · rw [if_neg hs] at h
      obtain ⟨n, h1, h2, h3⟩ := mfind_some (us := us) h
      exact ⟨n + 1, by omega, by simpa using h2, by simp [mset, hs, h3]⟩
theorem mfind_none {k : List UInt8} {us : Value} : ∀ {M : List (List UInt8 × Value)} {j : Nat}, mfind k M j = none → mset M k us = M ++ [(k, us)]
  | [], j, _ => rfl
  | (s, u) :: M, j, h => by
    simp only [mfind] at h
    by_cases hs : s = k
    · rw [if_pos hs] at h; cases h
    · rw [if_neg hs] at h
      simp [mset, hs, mfind_none h]
theorem run_mset {t te : TypeId} {zv : Value} (h : MapTy cx t te zv) {b : Nat} {es : Array MapEntry} {clock : Nat} {M : List (List UInt8 × Value)} (hb : w.heap[b]? = some (.map es clock)) (hm : MapIs es M) (k : List UInt8) (us : Value) :
    ∃ es' clock', (Instr.mapUpdate t (.map (some b)) (.string ⟨k.toArray⟩) us).run cx.P w = .ok () { w with heap := w.heap.setIfInBounds b (.map es' clock') } ∧ MapIs es' (mset M k us) := by
  obtain ⟨tk, h1, h2⟩ := h.u
  have hf := findNow_eq k 0 hm
  have hck : (Instr.checkKey false 10000 tk (.string ⟨k.toArray⟩)).run cx.P w = .ok () w := MapKept.run_checkKey h2 (by simp [MapKept.IsKey]) _ 9999
  have hset : ∀ o, (setObj b o).run cx.P w = .ok () { w with heap := w.heap.setIfInBounds b o } := fun o => MapKept.run_setObj_map o hb
  cases hfd : mfind k M 0 with
  | none =>
    rw [hfd] at hf
    simp only [Option.map_none] at hf
    refine ⟨es.push ⟨.string ⟨k.toArray⟩, us, clock⟩, clock + 1, ?_, ?_⟩
    · simp [Instr.mapUpdate, run_underlying h1, MapKept.run_getObj_map hb, hck, Instr.findKey, run_underlying h2, hf, hset, Result.andThen]
    · rw [mfind_none hfd]
      unfold MapIs at hm ⊢
      simp [hm]
  | some p =>
    obtain ⟨i, v⟩ := p
    rw [hfd] at hf
    simp only [Option.map_some] at hf
    obtain ⟨n, hn, h3, h4⟩ := mfind_some (us := us) hfd
    obtain rfl : i = n := by omega
    have hes : (es.toList.map fun e => (e.key, e.val))[i]? = some (Value.string ⟨k.toArray⟩, v) := by
      unfold MapIs at hm
      rw [hm, List.getElem?_map, h3]; rfl
    obtain ⟨e, he, hek⟩ : ∃ e, es[i]? = some e ∧ e.key = Value.string ⟨k.toArray⟩ := by
      rw [List.getElem?_map] at hes
      cases hx : es.toList[i]? with
      | none => rw [hx] at hes; cases hes
      | some e =>
        rw [hx] at hes
        simp at hes
        exact ⟨e, by simpa using hx, hes.1⟩
    refine ⟨es.modify i fun e => { e with key := .string ⟨k.toArray⟩, val := us }, clock, ?_, ?_⟩
    · have hst : (Instr.keyThatStays (((es[i]?).map (·.key)).getD (.string ⟨k.toArray⟩)) (.string ⟨k.toArray⟩)).run cx.P w = .ok (.string ⟨k.toArray⟩) w := by
        rw [he]
        simp only [Option.map_some, Option.getD_some, hek]
        have hbb : ((⟨k.toArray⟩ : ByteArray) == ⟨k.toArray⟩) = true := (MapKept.bytes_beq _ _).2 rfl
        simp [Instr.keyThatStays, Instr.sameBits, hbb]
      simp [Instr.mapUpdate, run_underlying h1, MapKept.run_getObj_map hb, hck, Instr.findKey, run_underlying h2, hf, hst, hset, Result.andThen]
    · rw [h4]
      unfold MapIs at hm ⊢
      rw [List.map_set, ← hm]
      apply List.ext_getElem?
      intro j
      rw [List.getElem?_map, Array.getElem?_toList, Array.getElem?_modify]
      by_cases hj : i = j
      · subst hj
        have hlt := (Array.getElem?_eq_some_iff.1 he).1
        rw [if_pos rfl, List.getElem?_set_self (by simpa using hlt), he]
        rfl
      · rw [if_neg hj, List.getElem?_set_ne hj, List.getElem?_map, Array.getElem?_toList]

/-- A value, as the state has it. -/
inductive ValV : AV → Value → Prop
  | v {u : Value} : ValV (.d (.v u)) u
  | agg {av : AV} {us : List Value} (h : AggV av us) : ValV av (.agg us.toArray)
theorem rep_valv {v u : Value} {av : AV} (h : ValV av u) (hr : Rep cx g σ w v av) : v = u := by
  cases h with
  | v => exact rep_v hr
  | agg h => exact rep_aggv h hr
theorem a_mset {t te : TypeId} {zv : Value} {x y z : Operand} {x0 : Value} {av : AV} {k : List UInt8} {us : Value} {M : List (List UInt8 × Value)} (id : Nat) (h : MapTy cx t te zv)
    (hx : ev σ x = some (.d (.v x0))) (hy : ev σ y = some (.d (.v (.string ⟨k.toArray⟩)))) (hz : ev σ z = some av) (hu : ValV av us) (ho : get σ (.o id) = .ob (.mp M x0)) :
    OA cx σ ⟨none, .mapUpdate t x y z, ty, pos, af, gd⟩ ⟨rdOf x (.d (.v x0)) ++ (rdOf y (.d (.v (.string ⟨k.toArray⟩))) ++ (rdOf z av ++ [(.o id, .ob (.mp M x0))])), [(.o id, .ob (.mp (mset M k us) x0))]⟩ := by
  refine ⟨?_, (ev_out hx).2.append ((ev_out hy).2.append ((ev_out hz).2.append ⟨ho, trivial⟩))⟩
  rintro σ1 a w K Q ⟨g, nx, hs⟩ hr hK
  have hv := rep_v (hs.ev (ev_out hx).1 hr.left).1
  have hk := rep_v (hs.ev (ev_out hy).1 hr.right.left).1
  have hzv := rep_valv hu (hs.ev (ev_out hz).1 hr.right.right.left).1
  have ho1 : get σ1 (.o id) = .ob (.mp M x0) := hr.right.right.right.1
  obtain ⟨hid, ⟨hgx, b, es, clock, hx0, hge, hh, hmi⟩, _⟩ := hs.objs id _ ho1
  obtain ⟨es', clock', hrun, hmi'⟩ := run_mset (w := w) h hh hmi k us
  have hblt : b < w.heap.size := by
    rcases Nat.lt_or_ge b w.heap.size with h | h
    · exact h
    · rw [Array.getElem?_eq_none h] at hh; cases hh
  have hgb : blk (g id) = some b := by rw [hgx, hx0]; rfl
  have hoth : ∀ c, c ≠ b → ({ w with heap := w.heap.setIfInBounds b (.map es' clock') } : World).heap[c]? = w.heap[c]? := fun c hc => by
    show (w.heap.setIfInBounds b _)[c]? = _
    rw [Array.getElem?_setIfInBounds, if_neg (fun e => hc e.symm)]
  have hst : ObjStep cx σ1 g nx nx w { w with heap := w.heap.setIfInBounds b (.map es' clock') } id (.mp (mset M k us) x0) (g id) := by
    refine ⟨.inr ⟨rfl, _, ho1, trivial⟩, ⟨rfl, rfl, rfl, by simp, fun c hc => hoth c (by have := hs.below.size; omega)⟩, fun c hc hn => hoth c fun e => hn _ ho1 (by rw [hgb, e]), fun c hc => .inl ⟨_, ho1, hc⟩⟩
  have hG := SimG.obj hs hst (fun _ => ⟨by rw [upd_same]; exact hgx, b, es', clock', hx0, hge, by show (w.heap.setIfInBounds b _)[b]? = _; rw [Array.getElem?_setIfInBounds, if_pos rfl, if_pos hblt], hmi'⟩) trivial
  unfold Oper.wp
  have hex : (execOp a.eval ⟨none, .mapUpdate t x y z, ty, pos, af, gd⟩).run cx.P w = .ok .skip { w with heap := w.heap.setIfInBounds b (.map es' clock') } := by
    simp [execOp, hv, hk, hzv, hx0, hrun]
  rw [hex]
  refine hK _ _ (Sim.eqv ⟨_, _, hG⟩ fun q => ?_)
  cases q with
  | s i => rw [objSt_s]; exact (get_cons_ne (by simp)).symm
  | o i =>
    by_cases hi : i = id
    · subst hi; rw [get_cons_same]; exact get_cons_same.symm
    · rw [objSt_o hi]; exact (get_cons_ne (by simpa using fun e => hi e.symm)).symm
  | nx => rw [objSt_nx]; exact hs.hnx.symm.trans (get_cons_ne (by simp)).symm

/-- Made: whatever handle it has. -/
theorem fam_mkmap {t : TypeId} {n0 : Nat} (hn : get σ .nx = .num n0) (hd : Nat.blt d cx.n = true) (a : Act) (w : World) (K : Act → World → Prop) (Q : Exit → Act → World → Prop) (hs : Sim cx σ a w)
    (hK : ∀ (x : Value) a' w', Sim cx ([(.s d, .av (.d (.v x))), (.o n0, .ob (.mp [] x)), (.nx, .num (n0 + 1))] ++ σ) a' w' → K a' w') :
    (⟨some d, .makeMap t none, ty, pos, af, gd⟩ : Oper).wp cx.P a w K Q := by
  obtain ⟨g, nx, hs⟩ := hs
  have hnx : nx = n0 := by
    have h2 := hs.hnx
    rw [hn] at h2
    simpa using h2.symm
  subst hnx
  have hex : (execOp a.eval ⟨some d, .makeMap t none, ty, pos, af, gd⟩).run cx.P w = .ok (.value (.map (some w.heap.size))) (w.alloc (.map #[] 0)) := by
    simp [execOp, Instr.makeMap, newObj]
    rfl
  have hb : Below w.heap.size w (w.alloc (.map #[] 0)) := (Below.refl _ _).alloc (Nat.le_refl _) _
  have hst : ObjStep cx σ g nx (nx + 1) w (w.alloc (.map #[] 0)) nx (.mp [] (.map (some w.heap.size))) (.map (some w.heap.size)) :=
    ⟨.inl ⟨rfl, rfl⟩, hb.mono hs.below.size, fun c hc _ => hb.block c hc, fun c hc => .inr (by cases hc; exact Nat.le_refl _)⟩
  have hG := SimG.obj hs hst (fun _ => ⟨upd_same _ _ _, w.heap.size, #[], 0, rfl, hs.below.size, heap_alloc_new w _, rfl⟩) trivial
  refine wp_val rfl hex (hK (.map (some w.heap.size)) _ _ ?_)
  refine Sim.eqv (Sim.put hG (lt_of_blt hd) (Below.refl _ _) (av := .d (.v (.map (some w.heap.size)))) (Rd.v _) trivial) fun q => ?_
  cases q with
  | s i =>
    by_cases hi : i = d
    · subst hi; rw [get_cons_same]; exact get_cons_same.symm
    · rw [get_cons_ne (by simpa using fun e => hi e.symm), objSt_s]
      exact ((get_cons_ne (by simpa using fun e => hi e.symm)).trans ((get_cons_ne (by simp)).trans (get_cons_ne (by simp)))).symm
  | o i =>
    rw [get_cons_ne (by simp)]
    by_cases hi : i = nx
    · subst hi; rw [get_cons_same]; exact ((get_cons_ne (by simp)).trans get_cons_same).symm
    · rw [objSt_o hi]
      exact ((get_cons_ne (by simp)).trans ((get_cons_ne (by simpa using fun e => hi e.symm)).trans (get_cons_ne (by simp)))).symm
  | nx =>
    rw [get_cons_ne (by simp), objSt_nx]
    exact ((get_cons_ne (by simp)).trans ((get_cons_ne (by simp)).trans get_cons_same)).symm

theorem map_known {id : Nat} {M : List (List UInt8 × Value)} {x : Value} (ho : get σ (.o id) = .ob (.mp M x)) (a : Act) (w : World) (hs : Sim cx σ a w) : ∃ b, x = .map (some b) := by
  obtain ⟨g, nx, hs⟩ := hs
  obtain ⟨_, ⟨_, b, _, _, h, _⟩, _⟩ := hs.objs id _ ho
  exact ⟨b, h⟩
/-- A pointer into a box of ours is not nil. -/
theorem a_nilp {x : Operand} {id off : Nat} {cells : List AV} (hx : ev σ x = some (.ptr id off)) (ho : get σ (.o id) = .ob (.box cells)) (hd : Nat.blt d cx.n = true) :
    OA cx σ ⟨some d, .nilCheck x, ty, pos, af, gd⟩ ⟨rdOf x (.ptr id off) ++ [(.o id, .ob (.box cells))], [(.s d, .av (.ptr id off))]⟩ :=
  ⟨ok_nilCheck_ptr (lt_of_blt hd) (ev_out hx).1, (ev_out hx).2.append ⟨ho, trivial⟩⟩

end Go.AX

/-! Rn -/
/-
  What the program's Run of a deed computes, on data.
-/
namespace Go.RF
open Go.AX

abbrev Mk := List (Str × (Bool × Int))
def mG : Mk → Str → Option (Bool × Int)
  | [], _ => none
  | (s, c) :: r, k => if s = k then some c else mG r k
def mS : Mk → Str → Bool × Int → Mk
  | [], k, c => [(k, c)]
  | (s, u) :: r, k, c => if s = k then (s, c) :: r else (s, u) :: mS r k c
def chV (c : Bool × Int) : List Value := [.bool c.1, .int .i64 c.2]
def chA (c : Bool × Int) : Value := .agg (chV c).toArray
def encM (m : Mk) : List (Str × Value) := m.map fun p => (p.1, chA p.2)
theorem mget_enc (m : Mk) (k : Str) : mget (encM m) k = (mG m k).map chA := by
  induction m with
  | nil => rfl
  | cons p m ih =>
    obtain ⟨s, c⟩ := p
    simp only [encM, List.map_cons, mget, mG]
    by_cases h : s = k
    · rw [if_pos h, if_pos h]; rfl
    · rw [if_neg h, if_neg h]; exact ih
theorem mset_enc (m : Mk) (k : Str) (c : Bool × Int) : mset (encM m) k (chA c) = encM (mS m k c) := by
  induction m with
  | nil => rfl
  | cons p m ih =>
    obtain ⟨s, u⟩ := p
    simp only [encM, List.map_cons, mset, mS]
    by_cases h : s = k
    · rw [if_pos h, if_pos h]; rfl
    · rw [if_neg h, if_neg h]
      show (s, chA u) :: mset (encM m) k (chA c) = _
      rw [ih]; rfl
theorem encM_one (m : Mk) : ∀ p ∈ encM m, flat p.2 := by
  intro p hp
  obtain ⟨q, _, rfl⟩ := List.mem_map.1 hp
  intro u hu
  simp [chV] at hu
  rcases hu with rfl | rfl <;> rfl
theorem mG_mS (m : Mk) (k k' : Str) (c : Bool × Int) : mG (mS m k c) k' = if k = k' then some c else mG m k' := by
  induction m with
  | nil => simp [mS, mG]
  | cons p m ih =>
    obtain ⟨s, u⟩ := p
    simp only [mS]
    by_cases hs : s = k
    · rw [if_pos hs]
      simp only [mG]
      by_cases h : k = k'
      · simp [hs, h]
      · rw [if_neg (by rw [hs]; exact h), if_neg h, if_neg (by rw [hs]; exact h)]
    · rw [if_neg hs]
      simp only [mG, ih]
      by_cases h : s = k'
      · rw [if_pos h, if_neg (fun e => hs (by rw [h, e])), if_pos h]
      · rw [if_neg h, if_neg h]

def seeM (view : Str → Int × Bool) (m : Mk) (k : Str) : Int := match mG m k with
  | some c => c.2
  | none => (view k).1

/-- A deed's instructions, one by one: what keys have been given, the registers. -/
def runGo (view : Str → Int × Bool) : Int → Mk → Done → List Ins → Mk × Done
  | _, m, e, [] => (m, e)
  | sk, m, e, i :: r =>
    if 0 < sk then runGo view (sk - 1) m e r
    else if i.kind = 1 then runGo view sk m (rset e i.a.toNat (seeM view m i.key)) r
    else if i.kind = 2 then runGo view sk m (rset e i.a.toNat i.n) r
    else if i.kind = 3 then runGo view sk m (rset e i.a.toNat (round (rget e i.a.toNat + rget e i.b.toNat))) r
    else if i.kind = 4 then runGo view sk m (rset e i.a.toNat (round (rget e i.a.toNat - rget e i.b.toNat))) r
    else if i.kind = 5 then runGo view sk m (rset e i.a.toNat (round (rget e i.a.toNat * rget e i.b.toNat))) r
    else if i.kind = 6 then runGo view sk (mS m i.key (true, rget e i.a.toNat)) e r
    else if i.kind = 7 then runGo view sk (mS m i.key (false, 0)) e r
    else if i.kind = 8 then runGo view (if rget e i.a.toNat < 1 then i.n else sk) m e r
    else if rget e i.a.toNat < 0 then (m, bustE e) else runGo view sk m e r
theorem runGo_skip (view : Str → Int × Bool) (m : Mk) (e : Done) : ∀ (n : Nat) (l : List Ins), runGo view n m e l = runGo view 0 m e (l.drop n)
  | 0, l => rfl
  | n + 1, [] => by simp [runGo]
  | n + 1, i :: l => by
    simp only [runGo]
    rw [if_pos (by omega), show (((n + 1 : Nat) : Int) - 1) = (n : Int) by omega, runGo_skip view m e n l, List.drop_succ_cons]
def chg (m : Mk) : List Str → List (Str × (Bool × Int))
  | [] => []
  | k :: r => match mG m k with
    | some c => (k, c) :: chg m r
    | none => chg m r
def runM (view : Str → Int × Bool) (d : Deed) : Mk × Done := runGo view 0 [] done0 d.code
def runC (view : Str → Int × Bool) (d : Deed) : List (Str × (Bool × Int)) := if (runM view d).2.failed = true then [] else chg (runM view d).1 d.writes
def chVer (c : Str × (Bool × Int)) : Version := ⟨0, true, c.2.1, c.2.2⟩
def runRes (view : Str → Int × Bool) (d : Deed) : List D := [.agg (runM view d).2.enc, encVs ((runC view d).map chVer), encStrs ((runC view d).map (·.1))]

theorem chg_len (m : Mk) : ∀ l : List Str, (chg m l).length ≤ l.length
  | [] => by simp [chg]
  | k :: r => by
    have := chg_len m r
    simp only [chg]
    split <;> simp <;> omega
def mOk (m : Mk) : Prop := ∀ k c, mG m k = some c → nOk c.2
theorem mOk_nil : mOk [] := by intro k c h; cases h
theorem mOk_set {m : Mk} (h : mOk m) (k : Str) {c : Bool × Int} (hc : nOk c.2) : mOk (mS m k c) := by
  intro k' c' h'
  rw [mG_mS] at h'
  split at h'
  · cases h'; exact hc
  · exact h k' c' h'
theorem see_ok {view : Str → Int × Bool} {m : Mk} {k : Str} (hv : nOk (view k).1) (hm : mOk m) : nOk (seeM view m k) := by
  unfold seeM
  split
  · next c h => exact hm k c h
  · exact hv

end Go.RF

/-! Sh -/
/-
  The library's comparison of texts, at this program's numbers.
-/
namespace Go.Proofs
open Go.Shelf Go.RowKit
def Tryd.lays106_ren : Go.Shelf.Ren := ⟨fun | 106 => 36 | 213 => 42 | 265 => 50 | n => n, fun | 9 => 9 | 3 => 3 | n => n, fun | n => n⟩
theorem Tryd.lays106 : Go.Proofs.Lays.n106 Tryd.prog Tryd.lays106_ren := {
  mixed := by kernel_rfl
  f106 := Tryd.func36.trans (congrArg some (by kernel_rfl))
  f213 := Tryd.func42.trans (congrArg some (by kernel_rfl))
  f265 := Tryd.func50.trans (congrArg some (by kernel_rfl))
  t3 := Tryd.underlying3
  a3 := Tryd.isAgg3
  z3 := Tryd.sizeOf3
  v3 := Tryd.zeroValue3
  t9 := Tryd.underlying9
  a9 := Tryd.isAgg9
  z9 := Tryd.sizeOf9
  v9 := Tryd.zeroValue9 }
theorem Tryd.strings_Compare (a b : ByteArray) (w : World) :
    Calls Tryd.prog 36 #[.string a, .string b] w fun e w' => e = .returned (.int .i64 (Lib.compareBytes a.data.toList b.data.toList)) ∧ w' = w := Any.strings_Compare Tryd.lays106 a b w
end Go.Proofs

/-! G2 -/
/-
  Contracts of the program's find in chains: texts held against each other, and the library's search by halves.
-/
namespace Go.Proofs.YtgiaplfdpncglaaDoor
open Go.AX Go.RF Go.RowKit

set_option maxRecDepth 100000
set_option maxHeartbeats 4000000

def cmpT (a b : Str) : Int := if slt a b = true then -1 else if a = b then 0 else 1

theorem compare_eq : ∀ (a b : Str), Lib.compareBytes a b = cmpT a b
  | [], [] => by simp [Lib.compareBytes, cmpT, bl_nil]
  | [], b :: r => by simp [Lib.compareBytes, cmpT, bl_nil_cons]
  | a :: l, [] => by simp [Lib.compareBytes, cmpT, bl_nil]
  | a :: l, b :: r => by
    simp only [Lib.compareBytes, cmpT, bl_cons]
    by_cases h1 : a < b
    · simp [h1]
    · by_cases h2 : b < a
      · have h3 : ¬ a = b := fun h => by subst h; exact h1 h2
        simp [h1, h2, h3]
      · have h3 : a = b := UInt8.le_antisymm (UInt8.not_lt.1 h2) (UInt8.not_lt.1 h1)
        subst h3
        rw [compare_eq l r]
        simp [h1, cmpT]
theorem cmpT_lt {a b : Str} : cmpT a b < 0 ↔ slt a b = true := by
  unfold cmpT
  split
  · next h => simp [h]
  · next h => split <;> simp [h]
theorem cmpT_zero {a b : Str} : cmpT a b = 0 ↔ a = b := by
  unfold cmpT
  split
  · next h =>
    constructor
    · intro h0; simp at h0
    · intro h0; subst h0; rw [slt_irrefl] at h; cases h
  · split <;> simp_all

theorem ok_compare (a b : Str) : FnOk Tryd.prog 36 [.d (dstr a), .d (dstr b)] (.one (dint (cmpT a b))) := by
  refine ⟨⟨_, Tryd.func36, rfl, rfl⟩, fun w own vs hown ha => ?_⟩
  match vs, ha with
  | [x, y], ⟨h1, h2, _⟩ =>
    obtain rfl : x = str a := rd_v h1
    obtain rfl : y = str b := rd_v h2
    refine (Tryd.strings_Compare ⟨a.toArray⟩ ⟨b.toArray⟩ w).mono fun e w' he => ?_
    obtain ⟨rfl, rfl⟩ := he
    exact ⟨_, rfl, Below.refl _ _, by rw [← compare_eq]; exact Rd.v _⟩

end Go.Proofs.YtgiaplfdpncglaaDoor

/-! R1 -/
/-
  Contracts of the program's find in rows, and of what one looks up.
-/
namespace Go.Proofs.YtgiaplfdpncglaaDoor
open Go.AX Go.RF Go.RowKit

set_option maxRecDepth 100000
set_option maxHeartbeats 4000000

theorem ok_rfind1 (c : Pair) (k : Str) : FnOk Tryd.prog 35 [.d (.agg c.enc), .d (dstr k)] (.one (dint (cmpT c.key k))) := by
  refine fnOk_of tbl_ok mixed_ok Tryd.func35 rfl (by kernel_rfl) rfl rfl fun w0 own0 => ?_
  have hc := ok_compare c.key k
  repeat (first | ((with_reducible apply s1); exact rfl) | (with_reducible first | apply CW.seq | apply CW.block | apply CW.region | apply CW.draw | apply CW.skip | apply CW.exit | apply CW.ret | apply q_then | apply q_then_exit | apply q_then_ret | apply q_block | apply q_block_ret | apply q_block_hit | apply q_ret | apply q_end | apply q_loop_exit | apply q_loop_ret | apply q_loopT_exit | apply q_loopT_ret | apply RW.nil) | ((with_reducible apply s3); exact rfl; exact by_k) | ((with_reducible apply s2); exact rfl; exact by_k) | ((with_reducible apply s4); exact rfl) | ((with_reducible apply s5); (first | (focus ((with_reducible apply a_call); exact hc; exact rfl; (repeat (first | exact SubsE.nil | (apply SubsE.cons; exact rfl; (first | exact .d (.refl _) | exact .d (.nil _) | exact .agg rfl (.refl _) | exact .pd | exact .ptr rfl); (first | exact trivial | exact ⟨rfl, trivial⟩)))); done)) | exact by_oa); exact by_g) | ((with_reducible apply CW.cond_t); exact rfl; exact by_ks) | ((with_reducible apply CW.cond_f); exact rfl; exact by_ks) | ((with_reducible apply q_block_miss); exact rfl) | (refine And.intro (show chk [] [] _ _ = true by kernel_rfl) ?_))
  exact .one (.tmp rfl (.one (.d (.refl _))))

abbrev AtR (l : List Pair) (k : Str) (m : Nat) : Prop := AtK Pair.key l k m
abbrev isAtR (l : List Pair) (k : Str) (m : Nat) : Bool := isAtK Pair.key l k m

theorem ok_rbsearch (l : List Pair) (k : Str) (m : Nat) (hl : l.length ≤ 268435456) (hm : AtR l k m) :
    FnOk Tryd.prog 34 [.d (encRows l), .d (dstr k), .d (.v (.func (.func 35) #[] #[]))] (.tup [dint m, dbool (isAtR l k m)]) := by
  refine fnOk_of tbl_ok mixed_ok Tryd.func34 rfl (by kernel_rfl) rfl rfl fun w0 own0 => ?_
  have hml := hm.le
  repeat (first | ((with_reducible apply s1); exact rfl) | (with_reducible first | apply CW.seq | apply CW.block | apply CW.region | apply CW.draw | apply CW.skip | apply CW.exit | apply CW.ret | apply q_then | apply q_then_exit | apply q_then_ret | apply q_block | apply q_block_ret | apply q_block_hit | apply q_ret | apply q_end | apply q_loop_exit | apply q_loop_ret | apply q_loopT_exit | apply q_loopT_ret | apply RW.nil) | ((with_reducible apply s3); exact rfl; exact by_k) | ((with_reducible apply s2); exact rfl; exact by_k) | ((with_reducible apply s4); exact rfl) | ((with_reducible apply s5); (first | exact by_oa); exact by_g) | ((with_reducible apply CW.cond_t); exact rfl; exact by_ks) | ((with_reducible apply CW.cond_f); exact rfl; exact by_ks) | ((with_reducible apply q_block_miss); exact rfl) | (refine And.intro (show chk [] [] _ _ = true by kernel_rfl) ?_))
  refine CW.loopT (fun t : Nat × Nat => [sd 0 (encRows l), sd 1 (dstr k), sd 2 (.v (.func (.func 35) #[] #[])), sd 8 (dint l.length), sd 9 (dint t.1), sd 10 (dint t.2), nxt 0])
    (fun t => t.1 ≤ m ∧ m ≤ t.2 ∧ t.2 ≤ l.length) (fun t => t.2 - t.1) (0, l.length) ⟨by omega, hm.le, by omega⟩ ?_ ?_
  ·
    exact by_less
  · rintro ⟨i, j⟩ ⟨h1, h2, h3⟩
    dsimp only at h1 h2 h3 ⊢
    by_cases h4 : i < j
    · obtain ⟨c, hc⟩ : ∃ c, l[(i + j) / 2]? = some c := ⟨l[(i + j) / 2]'(by omega), List.getElem?_eq_getElem (by omega)⟩
      have hcall := ok_rfind1 c k
      repeat (first | (with_reducible apply stop_reg 4) | ((with_reducible apply s1); exact rfl) | (with_reducible first | apply CW.seq | apply CW.block | apply CW.region | apply CW.draw | apply CW.skip | apply CW.exit | apply CW.ret | apply q_then | apply q_then_exit | apply q_then_ret | apply q_block | apply q_block_ret | apply q_block_hit | apply q_ret | apply q_end | apply q_loop_exit | apply q_loop_ret | apply q_loopT_exit | apply q_loopT_ret | apply RW.nil) | ((with_reducible apply s3); exact rfl; exact by_k) | ((with_reducible apply s2); exact rfl; exact by_k) | ((with_reducible apply s4); exact rfl) | ((with_reducible apply s5); (first | exact by_oa); exact by_g) | ((with_reducible apply CW.cond_t); exact rfl; exact by_ks) | ((with_reducible apply CW.cond_f); exact rfl; exact by_ks) | ((with_reducible apply q_block_miss); exact rfl) | (refine And.intro (show chk [] [] _ _ = true by kernel_rfl) ?_))
      refine Stop.cutk [sd 11 (dint ((i + j) / 2 : Nat))] [.s 0, .s 1, .s 2, .s 8, .s 9, .s 10, .nx] ?_ ?_
      ·
        repeat (first | ((with_reducible apply s1); exact rfl) | (with_reducible first | apply CW.seq | apply CW.block | apply CW.region | apply CW.draw | apply CW.skip | apply CW.exit | apply CW.ret | apply q_then | apply q_then_exit | apply q_then_ret | apply q_block | apply q_block_ret | apply q_block_hit | apply q_ret | apply q_end | apply q_loop_exit | apply q_loop_ret | apply q_loopT_exit | apply q_loopT_ret | apply RW.nil) | ((with_reducible apply s3); exact rfl; exact by_k) | ((with_reducible apply s2); exact rfl; exact by_k) | ((with_reducible apply s4); exact rfl) | ((with_reducible apply s5); (first | ((with_reducible apply a_bin); (iterate 2 exact rfl); exact bin_half; exact rfl) | exact by_oa); exact by_g) | ((with_reducible apply CW.cond_t); exact rfl; exact by_ks) | ((with_reducible apply CW.cond_f); exact rfl; exact by_ks) | ((with_reducible apply q_block_miss); exact rfl) | (refine And.intro (show chk [] [] _ _ = true by kernel_rfl) ?_))
        refine q_cut ?_
        exact by_less
      have hcz := @cmpT_lt c.key k
      by_cases h5 : cmpT c.key k < 0
      · have h6 : (i + j) / 2 < m := by
          rcases Nat.lt_or_ge ((i + j) / 2) m with h | h
          · exact h
          · have := hm.ge _ c hc h
            rw [hcz.1 h5] at this; cases this
        repeat (first | ((with_reducible apply s1); exact rfl) | (with_reducible first | apply CW.seq | apply CW.block | apply CW.region | apply CW.draw | apply CW.skip | apply CW.exit | apply CW.ret | apply q_then | apply q_then_exit | apply q_then_ret | apply q_block | apply q_block_ret | apply q_block_hit | apply q_ret | apply q_end | apply q_loop_exit | apply q_loop_ret | apply q_loopT_exit | apply q_loopT_ret | apply RW.nil) | ((with_reducible apply s3); exact rfl; exact by_k) | ((with_reducible apply s2); exact rfl; exact by_k) | ((with_reducible apply s4); exact rfl) | ((with_reducible apply s5); (first | (focus ((with_reducible apply a_callv); exact hcall; (iterate 2 exact rfl); (repeat (first | exact SubsE.nil | (apply SubsE.cons; exact rfl; (first | exact .d (.refl _) | exact .d (.nil _) | exact .agg rfl (.refl _) | exact .pd | exact .ptr rfl); (first | exact trivial | exact ⟨rfl, trivial⟩)))); done)) | exact by_oa); exact by_g) | ((with_reducible apply CW.cond_t); exact rfl; exact by_ks) | ((with_reducible apply CW.cond_f); exact rfl; exact by_ks) | ((with_reducible apply q_block_miss); exact rfl) | (refine And.intro (show chk [] [] _ _ = true by kernel_rfl) ?_))
        refine q_loopT ((i + j) / 2 + 1, j) ⟨by dsimp only; omega, h2, h3⟩ (by dsimp only; omega) ?_
        exact by_less
      · have h6 : m ≤ (i + j) / 2 := by
          rcases Nat.lt_or_ge ((i + j) / 2) m with h | h
          · exact absurd (hcz.2 (hm.lt _ c hc h)) h5
          · exact h
        repeat (first | ((with_reducible apply s1); exact rfl) | (with_reducible first | apply CW.seq | apply CW.block | apply CW.region | apply CW.draw | apply CW.skip | apply CW.exit | apply CW.ret | apply q_then | apply q_then_exit | apply q_then_ret | apply q_block | apply q_block_ret | apply q_block_hit | apply q_ret | apply q_end | apply q_loop_exit | apply q_loop_ret | apply q_loopT_exit | apply q_loopT_ret | apply RW.nil) | ((with_reducible apply s3); exact rfl; exact by_k) | ((with_reducible apply s2); exact rfl; exact by_k) | ((with_reducible apply s4); exact rfl) | ((with_reducible apply s5); (first | (focus ((with_reducible apply a_callv); exact hcall; (iterate 2 exact rfl); (repeat (first | exact SubsE.nil | (apply SubsE.cons; exact rfl; (first | exact .d (.refl _) | exact .d (.nil _) | exact .agg rfl (.refl _) | exact .pd | exact .ptr rfl); (first | exact trivial | exact ⟨rfl, trivial⟩)))); done)) | exact by_oa); exact by_g) | ((with_reducible apply CW.cond_t); exact rfl; exact by_ks) | ((with_reducible apply CW.cond_f); exact rfl; exact by_ks) | ((with_reducible apply q_block_miss); exact rfl) | (refine And.intro (show chk [] [] _ _ = true by kernel_rfl) ?_))
        refine q_loopT (i, (i + j) / 2) ⟨h1, h6, by dsimp only; omega⟩ (by dsimp only; omega) ?_
        exact by_less
    · obtain rfl : i = m := by omega
      cases hc : l[i]? with
      | none =>
        have h5 : l.length ≤ i := by
          rcases Nat.lt_or_ge i l.length with h | h
          · rw [List.getElem?_eq_getElem h] at hc; cases hc
          · exact h
        repeat (first | ((with_reducible apply s1); exact rfl) | (with_reducible first | apply CW.seq | apply CW.block | apply CW.region | apply CW.draw | apply CW.skip | apply CW.exit | apply CW.ret | apply q_then | apply q_then_exit | apply q_then_ret | apply q_block | apply q_block_ret | apply q_block_hit | apply q_ret | apply q_end | apply q_loop_exit | apply q_loop_ret | apply q_loopT_exit | apply q_loopT_ret | apply RW.nil) | ((with_reducible apply s3); exact rfl; exact by_k) | ((with_reducible apply s2); exact rfl; exact by_k) | ((with_reducible apply s4); exact rfl) | ((with_reducible apply s5); (first | exact by_oa); exact by_g) | ((with_reducible apply CW.cond_t); exact rfl; exact by_ks) | ((with_reducible apply CW.cond_f); exact rfl; exact by_ks) | ((with_reducible apply q_block_miss); exact rfl) | (refine And.intro (show chk [] [] _ _ = true by kernel_rfl) ?_))
        exact .two (.tmp rfl (.one (.d (.refl _)))) (.tmp rfl (.one (.d (dle_bool (by simp [isAtK, hc])))))
      | some c =>
        have h5 : i < l.length := (List.getElem?_eq_some_iff.1 hc).1
        have hcall := ok_rfind1 c k
        repeat (first | ((with_reducible apply s1); exact rfl) | (with_reducible first | apply CW.seq | apply CW.block | apply CW.region | apply CW.draw | apply CW.skip | apply CW.exit | apply CW.ret | apply q_then | apply q_then_exit | apply q_then_ret | apply q_block | apply q_block_ret | apply q_block_hit | apply q_ret | apply q_end | apply q_loop_exit | apply q_loop_ret | apply q_loopT_exit | apply q_loopT_ret | apply RW.nil) | ((with_reducible apply s3); exact rfl; exact by_k) | ((with_reducible apply s2); exact rfl; exact by_k) | ((with_reducible apply s4); exact rfl) | ((with_reducible apply s5); (first | (focus ((with_reducible apply a_callv); exact hcall; (iterate 2 exact rfl); (repeat (first | exact SubsE.nil | (apply SubsE.cons; exact rfl; (first | exact .d (.refl _) | exact .d (.nil _) | exact .agg rfl (.refl _) | exact .pd | exact .ptr rfl); (first | exact trivial | exact ⟨rfl, trivial⟩)))); done)) | exact by_oa); exact by_g) | ((with_reducible apply CW.cond_t); exact rfl; exact by_ks) | ((with_reducible apply CW.cond_f); exact rfl; exact by_ks) | ((with_reducible apply q_block_miss); exact rfl) | (refine And.intro (show chk [] [] _ _ = true by kernel_rfl) ?_))
        refine .two (.tmp rfl (.one (.d (.refl _)))) (.tmp rfl (.one (.d (dle_bool ?_))))
        rw [show isAtR l k i = decide (c.key = k) by simp [isAtR, isAtK, hc]]
        show decide (cmpT c.key k = 0) = decide (c.key = k)
        rw [decide_eq_decide]
        exact cmpT_zero

theorem ok_rfind (l : List Pair) (k : Str) (m : Nat) (hl : l.length ≤ 268435456) (hm : AtR l k m) : FnOk Tryd.prog 28 [.d (encRows l), .d (dstr k)] (.tup [dint m, dbool (isAtR l k m)]) := by
  refine fnOk_of tbl_ok mixed_ok Tryd.func28 rfl (by kernel_rfl) rfl rfl fun w0 own0 => ?_
  have hc := ok_rbsearch l k m hl hm
  repeat (first | ((with_reducible apply s1); exact rfl) | (with_reducible first | apply CW.seq | apply CW.block | apply CW.region | apply CW.draw | apply CW.skip | apply CW.exit | apply CW.ret | apply q_then | apply q_then_exit | apply q_then_ret | apply q_block | apply q_block_ret | apply q_block_hit | apply q_ret | apply q_end | apply q_loop_exit | apply q_loop_ret | apply q_loopT_exit | apply q_loopT_ret | apply RW.nil) | ((with_reducible apply s3); exact rfl; exact by_k) | ((with_reducible apply s2); exact rfl; exact by_k) | ((with_reducible apply s4); exact rfl) | ((with_reducible apply s5); (first | (focus ((with_reducible apply a_call); exact hc; exact rfl; (repeat (first | exact SubsE.nil | (apply SubsE.cons; exact rfl; (first | exact .d (.refl _) | exact .d (.nil _) | exact .agg rfl (.refl _) | exact .pd | exact .ptr rfl); (first | exact trivial | exact ⟨rfl, trivial⟩)))); done)) | exact by_oa); exact by_g) | ((with_reducible apply CW.cond_t); exact rfl; exact by_ks) | ((with_reducible apply CW.cond_f); exact rfl; exact by_ks) | ((with_reducible apply q_block_miss); exact rfl) | (refine And.intro (show chk [] [] _ _ = true by kernel_rfl) ?_))
  exact .two (.tmp rfl (.one (.d (.refl _)))) (.tmp rfl (.one (.d (.refl _))))

end Go.Proofs.YtgiaplfdpncglaaDoor

/-! G1 -/
/-
  Contracts of the library's Clone: what comes back is the caller's own.
-/
namespace Go.Proofs.YtgiaplfdpncglaaDoor
open Go.AX Go.RF

set_option maxRecDepth 100000
set_option maxHeartbeats 4000000

theorem new_clone_pair (rows : List (List D)) (hl : rows.length ≤ 536870912) : FnNew Tryd.prog 29 [.d (.sl 2 rows)] 46 2 rows := by
  refine fnNew_of tbl_ok mixed_ok Tryd.func29 rfl (by kernel_rfl) rfl rfl fun w0 own0 => ?_
  cases rows with
  | nil =>
    refine CW.empty 0 rfl fun p cp => ?_
    cases p with
    | none =>
      repeat (first | ((with_reducible apply s1); exact rfl) | (with_reducible first | apply CW.seq | apply CW.block | apply CW.region | apply CW.draw | apply CW.skip | apply CW.exit | apply CW.ret | apply q_then | apply q_then_exit | apply q_then_ret | apply q_block | apply q_block_ret | apply q_block_hit | apply q_ret | apply q_end | apply q_loop_exit | apply q_loop_ret | apply q_loopT_exit | apply q_loopT_ret | apply RW.nil) | ((with_reducible apply s3); exact rfl; exact by_k) | ((with_reducible apply s2); exact rfl; exact by_k) | ((with_reducible apply s4); exact rfl) | ((with_reducible apply s5); (first | exact by_oa); exact by_g) | ((with_reducible apply CW.cond_t); exact rfl; exact by_ks) | ((with_reducible apply CW.cond_f); exact rfl; exact by_ks) | ((with_reducible apply q_block_miss); exact rfl) | (refine And.intro (show chk [] [] _ _ = true by kernel_rfl) ?_))
      exact RetNew.nil rfl rfl
    | some ad =>
      repeat (first | (with_reducible apply stop_reg 3) | ((with_reducible apply s1); exact rfl) | (with_reducible first | apply CW.seq | apply CW.block | apply CW.region | apply CW.draw | apply CW.skip | apply CW.exit | apply CW.ret | apply q_then | apply q_then_exit | apply q_then_ret | apply q_block | apply q_block_ret | apply q_block_hit | apply q_ret | apply q_end | apply q_loop_exit | apply q_loop_ret | apply q_loopT_exit | apply q_loopT_ret | apply RW.nil) | ((with_reducible apply s3); exact rfl; exact by_k) | ((with_reducible apply s2); exact rfl; exact by_k) | ((with_reducible apply s4); exact rfl) | ((with_reducible apply s5); (first | exact by_oa); exact by_g) | ((with_reducible apply CW.cond_t); exact rfl; exact by_ks) | ((with_reducible apply CW.cond_f); exact rfl; exact by_ks) | ((with_reducible apply q_block_miss); exact rfl) | (refine And.intro (show chk [] [] _ _ = true by kernel_rfl) ?_))
      refine Stop.go (CW.stut (stut_nilv (i := 0) (k := 2)) ⟨rfl, trivial⟩ ?_)
      repeat (first | ((with_reducible apply s1); exact rfl) | (with_reducible first | apply CW.seq | apply CW.block | apply CW.region | apply CW.draw | apply CW.skip | apply CW.exit | apply CW.ret | apply q_then | apply q_then_exit | apply q_then_ret | apply q_block | apply q_block_ret | apply q_block_hit | apply q_ret | apply q_end | apply q_loop_exit | apply q_loop_ret | apply q_loopT_exit | apply q_loopT_ret | apply RW.nil) | ((with_reducible apply s3); exact rfl; exact by_k) | ((with_reducible apply s2); exact rfl; exact by_k) | ((with_reducible apply s4); exact rfl) | ((with_reducible apply s5); (first | exact by_oa); exact by_g) | ((with_reducible apply CW.cond_t); exact rfl; exact by_ks) | ((with_reducible apply CW.cond_f); exact rfl; exact by_ks) | ((with_reducible apply q_block_miss); exact rfl) | (refine And.intro (show chk [] [] _ _ = true by kernel_rfl) ?_))
      exact RetNew.own rfl rfl rfl
  | cons r rows =>
    have hl2 : rows.length ≤ 536870911 := by simp at hl; omega
    repeat (first | ((with_reducible apply s1); exact rfl) | (with_reducible first | apply CW.seq | apply CW.block | apply CW.region | apply CW.draw | apply CW.skip | apply CW.exit | apply CW.ret | apply q_then | apply q_then_exit | apply q_then_ret | apply q_block | apply q_block_ret | apply q_block_hit | apply q_ret | apply q_end | apply q_loop_exit | apply q_loop_ret | apply q_loopT_exit | apply q_loopT_ret | apply RW.nil) | ((with_reducible apply s3); exact rfl; exact by_k) | ((with_reducible apply s2); exact rfl; exact by_k) | ((with_reducible apply s4); exact rfl) | ((with_reducible apply s5); (first | exact by_oa); exact by_g) | ((with_reducible apply CW.cond_t); exact rfl; exact by_ks) | ((with_reducible apply CW.cond_f); exact rfl; exact by_ks) | ((with_reducible apply q_block_miss); exact rfl) | (refine And.intro (show chk [] [] _ _ = true by kernel_rfl) ?_))
    exact RetNew.own rfl rfl (by simp)
end Go.Proofs.YtgiaplfdpncglaaDoor

/-! Eq2 -/
/-
  Ends held against each other.
-/
namespace Go.Proofs.YtgiaplfdpncglaaDoor
open Go.AX Go.RF

theorem eq_regs (n : Nat) (a0 a1 a2 a3 b0 b1 b2 b3 : Int) (w : World) : (Op.equalIn (n + 2) 38 (.agg #[i64 a0, i64 a1, i64 a2, i64 a3]) (.agg #[i64 b0, i64 b1, i64 b2, i64 b3])).run Tryd.prog w = .ok (decide (a0 = b0 ∧ a1 = b1 ∧ a2 = b2 ∧ a3 = b3)) w := by
  have hs : ∀ w, (sizeOf 3).run Tryd.prog w = .ok 1 w := by
    intro w
    obtain ⟨i, h1, h2⟩ : ∃ i, Tryd.prog.info? 3 = some i ∧ i.size = 1 := by
      have := tbl_ok 3 _ rfl
      obtain ⟨i, h1, h2, _⟩ := this.info
      exact ⟨i, h1, h2⟩
    simp [sizeOf, typeInfo, h1, h2]
  unfold Op.equalIn
  simp only [Sem.run_bind, run_underlying Tryd.underlying38, Result.andThen_ok, hs]
  simp [Std.Legacy.Range.forIn_eq_forIn_range', List.range', Std.Legacy.Range.size, part, Tryd.isAgg3, run_equalIn_int, Tryd.underlying3]
  by_cases h0 : a0 = b0 <;> by_cases h1 : a1 = b1 <;> by_cases h2 : a2 = b2 <;> by_cases h3 : a3 = b3 <;> simp [h0, h1, h2, h3]

def Done.vals (e : Done) : List Value := [.bool e.failed, i64 e.r0, i64 e.r1, i64 e.r2, i64 e.r3]

theorem eq_done (a b : Done) (w : World) : (Op.equalIn 10000 40 (.agg (Done.vals a).toArray) (.agg (Done.vals b).toArray)).run Tryd.prog w = .ok (decide (a = b)) w := by
  rw [run_equalIn_agg (P := Tryd.prog) w 9999 40 _ _ (by kernel_rfl) (by kernel_rfl)]
  obtain ⟨f, a0, a1, a2, a3⟩ := a
  obtain ⟨g, b0, b1, b2, b3⟩ := b
  have hs : ∀ w, (sizeOf 38).run Tryd.prog w = .ok 4 w := by
    intro w
    obtain ⟨i, h1, h2⟩ : ∃ i, Tryd.prog.info? 38 = some i ∧ i.size = 4 := by
      have := tbl_ok 38 _ rfl
      obtain ⟨i, h1, h2, _⟩ := this.info
      exact ⟨i, h1, h2⟩
    simp [sizeOf, typeInfo, h1, h2]
  have hp : ∀ (f : Bool) (a0 a1 a2 a3 : Int) (w : World), (part 38 #[.bool f, i64 a0, i64 a1, i64 a2, i64 a3] 1).run Tryd.prog w = .ok (.agg #[i64 a0, i64 a1, i64 a2, i64 a3]) w := by
    intro f a0 a1 a2 a3 w
    simp [part, Tryd.isAgg38, hs]
  have hb : ∀ (f : Bool) (a0 a1 a2 a3 : Int) (w : World), (part 4 #[.bool f, i64 a0, i64 a1, i64 a2, i64 a3] 0).run Tryd.prog w = .ok (.bool f) w := by
    intro f a0 a1 a2 a3 w
    simp [part, Tryd.isAgg4]
  have he := fun w => eq_regs 9997 a0 a1 a2 a3 b0 b1 b2 b3 w
  simp only [Program.fieldsOf, Tryd.underlying40, Op.eqFields, Done.vals]
  simp [hb, hp, he, run_equalIn_bool', Tryd.underlying4]
  by_cases e1 : f = g
  · subst e1
    by_cases h0 : a0 = b0 <;> by_cases h1 : a1 = b1 <;> by_cases h2 : a2 = b2 <;> by_cases h3 : a3 = b3 <;> simp [h0, h1, h2, h3]
  · simp [e1]

end Go.Proofs.YtgiaplfdpncglaaDoor

/-! F17 -/
/-
  Contract of the references' Add of deeds to engines.
-/
namespace Go.Proofs.YtgiaplfdpncglaaDoor
open Go.AX Go.RF

set_option maxRecDepth 100000
set_option maxHeartbeats 8000000

/-- How large an engine is, at most. -/
structure Engine.Sz (e : Engine) (N : Nat) : Prop where
  c : e.chains.length ≤ N
  v : ∀ c ∈ e.chains, c.vs.length ≤ N
  d : e.deeds.length ≤ N
  s : e.state.length = e.deeds.length
  n : e.ends.length = e.deeds.length
  b : 0 ≤ e.base ∧ e.base + e.deeds.length ≤ N
  dd : ∀ d ∈ e.deeds, d.Sm
theorem Engine.Sz.sm {e : Engine} {N : Nat} (h : Engine.Sz e N) (hN : N ≤ 134217728) : e.Sm :=
  ⟨by have := h.c; omega, fun c hc => by have := h.v c hc; omega, by have := h.d; omega, by have := h.d; have := h.s; omega, by have := h.d; have := h.n; omega, by have := h.b; omega, h.dd⟩

theorem wrong_writes {d : Deed} (h : wrongDeed d = 0) : d.reads.length ≤ 5 ∧ d.writes.length ≤ 5 ∧ d.code.length ≤ 12 := by
  unfold wrongDeed at h
  by_cases h0 : lsGo [d.reads, d.writes] = 0
  · rw [if_pos h0] at h
    simp only [lsGo] at h0
    have hc : d.code.length ≤ 12 := by
      by_cases hc : 12 < d.code.length
      · rw [if_pos hc] at h; simp at h
      · omega
    have key : ∀ l : List Str, keysWrong l = 0 → l.length ≤ 5 := by
      intro l hl
      unfold keysWrong at hl
      by_cases h5 : 5 < l.length
      · rw [if_pos h5] at hl; simp at hl
      · omega
    by_cases h1 : keysWrong d.reads = 0
    · rw [if_pos h1] at h0
      by_cases h2 : keysWrong d.writes = 0
      · exact ⟨key _ h1, key _ h2, hc⟩
      · rw [if_neg h2] at h0; exact absurd h0 h2
    · rw [if_neg h1] at h0; exact absurd h0 h1
  · rw [if_neg h0] at h; exact absurd h h0
end Go.Proofs.YtgiaplfdpncglaaDoor

/-! G11 -/
/-
  Contract of the library's Insert, of one element of two cells.
-/
namespace Go.Proofs.YtgiaplfdpncglaaDoor
open Go.AX Go.RF Go.RowKit Go.Shelf Go.Lib

theorem run_copy_k {P : Program} (w : World) (dT sT ty elem : TypeId) (k g o dLen dCap : Nat) (a : Addr) (sLen sCap q : Nat) (cur : Array Value) (t : TypeId) (cs : List Value)
    (hu : P.underlying dT = some (.slice elem)) (hs : (P.info? elem).map (·.size) = some k)
    (hg : w.heap[g]? = some (.cells cur t (0, 0))) (hq : Nat.min sLen dLen = q) (hn : cs.length = q * k)
    (hsrc : ∀ j v, cs[j]? = some v → w.cell? (a.add j) = some v) (hfit : o + cs.length ≤ cur.size) (h1 : ∀ v ∈ cs, v.oneCell' = true) :
    (Builtin.copy_ #[dT, sT] ty #[.slice (some ⟨g, o, none⟩) dLen dCap, .slice (some a) sLen sCap]).run P w =
      .ok (goInt q) (w.setRow g (cur.toList.take o ++ cs ++ cur.toList.drop (o + cs.length)).toArray) := by
  have hl := run_loadCells_list (P := P) w a cs hsrc
  have hst := run_storeCells_at P g o t cs 0 cur w hg (by simpa using hfit) h1
  cases hq' : P.info? elem with
  | none => simp [hq'] at hs
  | some i =>
    have hi : i.size = k := by simpa [hq'] using hs
    simp [Builtin.copy_, run_underlying hu, Builtin.lenOf, Builtin.firstCells, sizeOf, typeInfo, hq', hi, hq, ← hn, hl, hst]

theorem run_overlaps_b {P : Program} (w : World) (tS tR e : TypeId) (ht : P.underlying tS = some (.slice e)) (size : Nat) (hz : ∀ w, (Go.sizeOf e).run P w = .ok size w)
    (a b : Addr) (la ca lb cb : Nat) (hne : a.block ≠ b.block) (tA tB : TypeId) (kA kB : Nat)
    (hsa : w.shape? a.block = some (tA, kA + 1)) (hsb : w.shape? b.block = some (tB, kB + 1)) (hfb : w.frozen? b = false) (hfe : w.frozen? { block := b.block, off := kB + 1 } = false) :
    (Extern.SlicesOverlaps.overlaps #[tS, tS] #[tR] #[.slice (some a) la ca, .slice (some b) lb cb]).run P w = .ok (.bool false) w := by
  have hnb : (a.block != b.block) = true := by simpa using hne
  have hnb' : (a.block == b.block) = false := by simpa using hne
  change Sem.run P (α := Value) (do
    let some t := (#[tS, tS] : Array TypeId)[0]? | stuck "slices.overlaps: no parameter types"
    let .slice elem ← underlying t | stuck "slices.overlaps: slice type expected"
    let size ← sizeOf elem
    match (some a : Option Addr), (some b : Option Addr) with
    | some a, some b =>
      if la = 0 ∨ lb = 0 ∨ size = 0 then pure (Value.bool false)
      else if a.block != b.block && (← frozen a) && (← frozen b) then unsupported .addressObserved
      else do
        if a.block != b.block then do
          noView a; noView b
          if ← mayBeOne a b then return Value.bool ((← choose (.extern "sameAddr.stringBytes" 2)) == 1)
        pure (Value.bool (a.block == b.block && a.off < b.off + lb * size && b.off < a.off + la * size))
    | _, _ => pure (Value.bool false)) w = _
  by_cases h0 : la = 0 ∨ lb = 0 ∨ size = 0
  · simp [run_underlying ht, hz, h0]
  · cases hfa : w.frozen? a <;> cases hfa2 : w.frozen? { block := a.block, off := kA + 1 } <;>
      simp [run_underlying ht, hz, h0, hnb, hnb', frozen, noView, viewAt, mayBeOne, stringish, shape, Sem.run, hsa, hsb, hfb, hfe, hfa, hfa2]

theorem alloc_new_at (w : World) (o : Obj) : (w.alloc o).heap[w.heap.size]? = some o := heap_alloc_new w o

theorem append_ty {P : Program} (ts : Array TypeId) (ty : TypeId) (args : Array Value) (w : World) : (Builtin.append_ ts ty args).run P w = (Builtin.append_ ts 0 args).run P w := rfl
theorem append_types {P : Program} {t u e e' : TypeId} (ht : P.underlying t = some (.slice e)) (hu : P.underlying u = some (.slice e')) (ty : TypeId) (args : Array Value) (w : World) :
    (Builtin.append_ #[t, u] ty args).run P w = (Builtin.append_ #[t, t] ty args).run P w := by
  cases h0 : args[0]? with
  | none => simp [Builtin.append_, h0]
  | some s =>
    cases h1 : args[1]? with
    | none => simp [Builtin.append_, h0, h1]
    | some x => cases s <;> simp [Builtin.append_, h0, h1, run_underlying ht, run_underlying hu]

/-- What Insert leaves in a row: the pieces. -/
theorem room_cells {cur : List Value} {n i : Nat} {c0 c1 : Value} (hi : i < n) (hl : (n + 1) * 2 ≤ cur.length) :
    let mid := cur.take ((i + 1) * 2) ++ (cur.drop (i * 2)).take ((n - i) * 2) ++ cur.drop ((i + 1) * 2 + (n - i) * 2)
    (mid.take (i * 2) ++ [c0, c1] ++ mid.drop (i * 2 + 2)).take ((n + 1) * 2) = (cur.take (n * 2)).take (i * 2) ++ [c0, c1] ++ (cur.take (n * 2)).drop (i * 2) := by
  intro mid
  have hm : mid = cur.take ((i + 1) * 2) ++ (cur.drop (i * 2)).take ((n - i) * 2) ++ cur.drop ((i + 1) * 2 + (n - i) * 2) := rfl
  have hml : mid.length = cur.length := by rw [hm]; simp; omega
  have h1 : (cur.take ((i + 1) * 2)).length = (i + 1) * 2 := by simp; omega
  have h2 : ((cur.drop (i * 2)).take ((n - i) * 2)).length = (n - i) * 2 := by simp; omega
  have e1 : mid.take (i * 2) = cur.take (i * 2) := by
    rw [hm, List.append_assoc, List.take_append_of_le_length (by rw [h1]; omega), List.take_take, Nat.min_eq_left (by omega)]
  have e2 : mid.drop (i * 2 + 2) = (cur.drop (i * 2)).take ((n - i) * 2) ++ cur.drop ((i + 1) * 2 + (n - i) * 2) := by
    rw [hm, List.append_assoc, List.drop_append_of_le_length (by rw [h1]; omega), List.drop_eq_nil_of_le (by rw [h1]; omega), List.nil_append]
  rw [e1, e2, List.take_take, Nat.min_eq_left (show i * 2 ≤ n * 2 by omega), List.drop_take]
  have h3 : (cur.take (i * 2)).length = i * 2 := by simp; omega
  rw [List.take_append, List.take_of_length_le (by simp; omega)]
  congr 1
  rw [List.take_append_of_le_length (by simp; omega), List.take_of_length_le (by simp; omega)]
  congr 1
  omega

theorem shape_of {w : World} {ad : Addr} {c : Value} (h : w.cell? (ad.add 0) = some c) : ∃ t k, w.shape? ad.block = some (t, k + 1) := by
  rw [AX.add_zero] at h
  unfold World.cell? at h
  unfold World.shape?
  split at h
  · next cs e fr hh =>
    split at h
    · cases h
    · have := (Array.getElem?_eq_some_iff.1 h).1
      exact ⟨e, cs.size - 1, by simp; omega⟩
  · cases h

/-- What Insert leaves in a new row. -/
theorem grow_cells {xs zs : List Value} {n i : Nat} {c0 c1 : Value} (hi : i < n) (hl : xs.length = n * 2) (hz : (n + 1 - i) * 2 ≤ zs.length) :
    let row := xs.take (i * 2) ++ zs
    let mid := row.take (i * 2) ++ [c0, c1] ++ row.drop (i * 2 + 2)
    (mid.take ((i + 1) * 2) ++ xs.drop (i * 2) ++ mid.drop ((i + 1) * 2 + (n - i) * 2)).take ((n + 1) * 2) = xs.take (i * 2) ++ [c0, c1] ++ xs.drop (i * 2) := by
  intro row mid
  have h3 : (xs.take (i * 2)).length = i * 2 := by simp; omega
  have hr : row.take (i * 2) = xs.take (i * 2) := by
    show (xs.take (i * 2) ++ zs).take (i * 2) = _
    rw [List.take_append_of_le_length (by omega), List.take_of_length_le (by omega)]
  have hm : mid.take ((i + 1) * 2) = xs.take (i * 2) ++ [c0, c1] := by
    show (row.take (i * 2) ++ [c0, c1] ++ row.drop (i * 2 + 2)).take ((i + 1) * 2) = _
    rw [hr, List.take_append_of_le_length (by simp; omega), List.take_of_length_le (by simp; omega)]
  rw [hm, List.take_append_of_le_length (by simp; omega), List.take_of_length_le (by simp; omega)]

end Go.Proofs.YtgiaplfdpncglaaDoor

/-! AxIns -/
/-
  What Insert leaves, as rows of data.
-/
namespace Go.AX
open Go.RowKit

theorem getElem?_ins {α : Type} {l : List α} {m : Nat} {x : α} (hm : m ≤ l.length) (i : Nat) :
    (l.take m ++ x :: l.drop m)[i]? = if i < m then l[i]? else if i = m then some x else l[i - 1]? := by
  have hl : (l.take m).length = m := by simp; omega
  by_cases h1 : i < m
  · rw [if_pos h1, List.getElem?_append_left (by omega), List.getElem?_take, if_pos h1]
  · rw [if_neg h1, List.getElem?_append_right (by omega), hl]
    by_cases h2 : i = m
    · subst h2; simp
    · rw [if_neg h2]
      obtain ⟨j, rfl⟩ : ∃ j, i = m + (j + 1) := ⟨i - m - 1, by omega⟩
      rw [show m + (j + 1) - m = j + 1 by omega, List.getElem?_cons_succ, List.getElem?_drop]
      congr 1
theorem getElem?_ins2 {α : Type} {l : List α} {m n : Nat} {a b : α} (hl : l.length = n * 2) (hm : m ≤ n) (i j : Nat) (hj : j < 2) :
    (l.take (m * 2) ++ [a, b] ++ l.drop (m * 2))[i * 2 + j]? = if i < m then l[i * 2 + j]? else if i = m then [a, b][j]? else l[(i - 1) * 2 + j]? := by
  have hm2 : m * 2 ≤ n * 2 := Nat.mul_le_mul_right 2 hm
  have h1 : (l.take (m * 2)).length = m * 2 := by simp; omega
  rw [List.append_assoc]
  by_cases hi : i < m
  · have : (i + 1) * 2 ≤ m * 2 := Nat.mul_le_mul_right 2 hi
    rw [if_pos hi, List.getElem?_append_left (by omega), List.getElem?_take, if_pos (by omega)]
  · rw [if_neg hi, List.getElem?_append_right (by omega), h1]
    by_cases he : i = m
    · subst he
      rw [if_pos rfl, show i * 2 + j - i * 2 = j by omega, List.getElem?_append_left (by simpa using hj)]
    · rw [if_neg he]
      have : (m + 1) * 2 ≤ i * 2 := Nat.mul_le_mul_right 2 (by omega)
      rw [List.getElem?_append_right (by simp; omega), List.getElem?_drop]
      congr 1
      simp; omega

/-- Behind an Insert. -/
theorem rows_ins {w w' : World} {own : Nat → Prop} {v v' : Value} {e m : Nat} {rows : List (List D)} {xs : List Value} {c0 c1 : Value} {d0 d1 : D}
    (hm : m ≤ rows.length) (hb : BelowBut v w w') (hp : ∀ b, blk v' = some b → blk v = some b ∨ w.heap.size ≤ b)
    (hlen : xs.length = rows.length * 2) (hone : ∀ x ∈ xs, Value.oneCell' x = true) (hrl : ∀ r ∈ rows, r.length = 2)
    (hrd : ∀ (i j : Nat) (r : List D) (d : D) (x : Value), rows[i]? = some r → r[j]? = some d → xs[i * 2 + j]? = some x → Rd w (with1 own v) x d)
    (h0 : Rd w (with1 own v) c0 d0) (h1 : Rd w (with1 own v) c1 d1) (o0 : c0.oneCell' = true) (o1 : c1.oneCell' = true)
    (hown : w'.ownsRow 0 e 2 v' (rows.length + 1) (xs.take (m * 2) ++ [c0, c1] ++ xs.drop (m * 2))) :
    RowsAt w' 0 (with1 own v') e 2 v' (rows.take m ++ [d0, d1] :: rows.drop m) := by
  have hext : Ext (with1 own v) w w' := ⟨hb.size, fun b h1 h2 => hb.block b h1 fun h => h2 (.inr h)⟩
  have ho : ∀ b, with1 own v' b → with1 own v b ∨ w.heap.size ≤ b := by
    rintro b (h | h)
    · exact .inl (.inl h)
    · rcases hp b h with h | h
      · exact .inl (.inr h)
      · exact .inr h
  refine ⟨xs.take (m * 2) ++ [c0, c1] ++ xs.drop (m * 2), ?_, fun x hx => ?_, fun r hr => ?_, fun i j r d x hi hj hx => ?_⟩
  · have : (rows.take m ++ [d0, d1] :: rows.drop m).length = rows.length + 1 := by simp; omega
    rw [this]; exact hown
  · rcases List.mem_append.1 hx with hx | hx
    · rcases List.mem_append.1 hx with hx | hx
      · exact hone x (List.mem_of_mem_take hx)
      · simp at hx; rcases hx with rfl | rfl
        · exact o0
        · exact o1
    · exact hone x (List.mem_of_mem_drop hx)
  · rcases List.mem_append.1 hr with h | h
    · exact hrl r (List.mem_of_mem_take h)
    · rcases List.mem_cons.1 h with rfl | h
      · rfl
      · exact hrl r (List.mem_of_mem_drop h)
  · refine Rd.step hext ho ?_
    rw [getElem?_ins hm] at hi
    have hj2 : j < 2 := by
      have hjl := (List.getElem?_eq_some_iff.1 hj).1
      split at hi
      · rw [hrl r (List.mem_of_getElem? hi)] at hjl; exact hjl
      · split at hi
        · cases hi; simpa using hjl
        · rw [hrl r (List.mem_of_getElem? hi)] at hjl; exact hjl
    rw [getElem?_ins2 hlen hm i j hj2] at hx
    split at hi
    · next h => rw [if_pos h] at hx; exact hrd i j r d x hi hj hx
    · next h =>
      rw [if_neg h] at hx
      split at hi
      · next h' =>
        rw [if_pos h'] at hx
        cases hi
        match j, hj2, hj, hx with
        | 0, _, hj, hx => simp at hj hx; subst hj; subst hx; exact h0
        | 1, _, hj, hx => simp at hj hx; subst hj; subst hx; exact h1
      · next h' => rw [if_neg h'] at hx; exact hrd (i - 1) j r d x hi hj hx

theorem getElem?_del {α : Type} {l : List α} {m : Nat} (hm : m < l.length) (i : Nat) : (l.take m ++ l.drop (m + 1))[i]? = if i < m then l[i]? else l[i + 1]? := by
  have hl : (l.take m).length = m := by simp; omega
  by_cases h1 : i < m
  · rw [if_pos h1, List.getElem?_append_left (by omega), List.getElem?_take, if_pos h1]
  · rw [if_neg h1, List.getElem?_append_right (by omega), hl, List.getElem?_drop]
    congr 1; omega
theorem getElem?_del2 {α : Type} {l : List α} {m n : Nat} (hl : l.length = n * 2) (hm : m < n) (i j : Nat) (hj : j < 2) :
    (l.take (m * 2) ++ l.drop ((m + 1) * 2))[i * 2 + j]? = if i < m then l[i * 2 + j]? else l[(i + 1) * 2 + j]? := by
  have hm2 : m * 2 ≤ n * 2 := Nat.mul_le_mul_right 2 (by omega)
  have h1 : (l.take (m * 2)).length = m * 2 := by simp; omega
  by_cases hi : i < m
  · have : (i + 1) * 2 ≤ m * 2 := Nat.mul_le_mul_right 2 hi
    rw [if_pos hi, List.getElem?_append_left (by omega), List.getElem?_take, if_pos (by omega)]
  · rw [if_neg hi, List.getElem?_append_right (by omega), h1, List.getElem?_drop]
    congr 1; omega
/-- Behind a Delete of one. -/
theorem rows_del {w w' : World} {own : Nat → Prop} {v v' : Value} {e m : Nat} {rows : List (List D)} {xs : List Value}
    (hm : m < rows.length) (hb : BelowBut v w w') (hp : ∀ b, blk v' = some b → blk v = some b ∨ w.heap.size ≤ b)
    (hlen : xs.length = rows.length * 2) (hone : ∀ x ∈ xs, Value.oneCell' x = true) (hrl : ∀ r ∈ rows, r.length = 2)
    (hrd : ∀ (i j : Nat) (r : List D) (d : D) (x : Value), rows[i]? = some r → r[j]? = some d → xs[i * 2 + j]? = some x → Rd w (with1 own v) x d)
    (hown : w'.ownsRow 0 e 2 v' (rows.length - 1) (xs.take (m * 2) ++ xs.drop ((m + 1) * 2))) :
    RowsAt w' 0 (with1 own v') e 2 v' (rows.take m ++ rows.drop (m + 1)) := by
  have hext : Ext (with1 own v) w w' := ⟨hb.size, fun b h1 h2 => hb.block b h1 fun h => h2 (.inr h)⟩
  have ho : ∀ b, with1 own v' b → with1 own v b ∨ w.heap.size ≤ b := by
    rintro b (h | h)
    · exact .inl (.inl h)
    · rcases hp b h with h | h
      · exact .inl (.inr h)
      · exact .inr h
  refine ⟨xs.take (m * 2) ++ xs.drop ((m + 1) * 2), ?_, fun x hx => ?_, fun r hr => ?_, fun i j r d x hi hj hx => ?_⟩
  · have : (rows.take m ++ rows.drop (m + 1)).length = rows.length - 1 := by simp; omega
    rw [this]; exact hown
  · rcases List.mem_append.1 hx with hx | hx
    · exact hone x (List.mem_of_mem_take hx)
    · exact hone x (List.mem_of_mem_drop hx)
  · rcases List.mem_append.1 hr with h | h
    · exact hrl r (List.mem_of_mem_take h)
    · exact hrl r (List.mem_of_mem_drop h)
  · refine Rd.step hext ho ?_
    rw [getElem?_del hm] at hi
    have hj2 : j < 2 := by
      have hjl := (List.getElem?_eq_some_iff.1 hj).1
      split at hi <;> (rw [hrl r (List.mem_of_getElem? hi)] at hjl; exact hjl)
    rw [getElem?_del2 hlen hm i j hj2] at hx
    split at hi
    · next h => rw [if_pos h] at hx; exact hrd i j r d x hi hj hx
    · next h => rw [if_neg h] at hx; exact hrd (i + 1) j r d x hi hj hx

/-- A slice of one element of two cells, read. -/
theorem rd_pair {w : World} {own : Nat → Prop} {v : Value} {d0 d1 : D} (h : Rd w own v (.sl 2 [[d0, d1]])) :
    ∃ ad cp c0 c1, v = .slice (some ad) 1 cp ∧ ¬ own ad.block ∧ ad.block < w.heap.size ∧ w.cell? (ad.add 0) = some c0 ∧ w.cell? (ad.add 1) = some c1 ∧
      c0.oneCell' = true ∧ c1.oneCell' = true ∧ Rd w own c0 d0 ∧ Rd w own c1 d1 := by
  cases h with
  | sl ad cap k rows f hb hs hcap hk hc h1 hr =>
    exact ⟨ad, cap, f 0 0, f 0 1, rfl, hb, hs, by simpa using hc 0 0 _ d0 rfl rfl, by simpa using hc 0 1 _ d1 rfl rfl, h1 0 0 _ d0 rfl rfl, h1 0 1 _ d1 rfl rfl, hr 0 0 _ d0 rfl rfl, hr 0 1 _ d1 rfl rfl⟩

end Go.AX

/-! G13 -/
/-
  Contract of the library's Insert, of one pair into rows: printed by tools/mkins.py from what was done over chains.
-/
namespace Go.Proofs.YtgiaplfdpncglaaDoor
open Go.AX Go.RF Go.RowKit Go.Shelf Go.Lib

set_option maxHeartbeats 4000000 in
set_option maxRecDepth 100000 in
theorem insert_roomP (g n cap i : Nat) (ad : Addr) (cp : Nat) (w : World) (cur : Array Value) (c0 c1 : Value) (hg : w.heap[g]? = some (.cells cur 46 (0, 0))) (hsz : cur.size = cap * 2) (hi : i < n) (hn : n ≤ 268435456) (hc : n + 1 ≤ cap) (hcm : cap ≤ maxLen)
    (had : ad.block ≠ g) (h0 : w.cell? (ad.add 0) = some c0) (h1 : w.cell? (ad.add 1) = some c1) (hone : ∀ v ∈ cur.toList.take (n * 2), v.oneCell' = true) (hc0 : c0.oneCell' = true) (hc1 : c1.oneCell' = true) :
    Calls Tryd.prog 30 #[.slice (some ⟨g, 0, none⟩) n cap, .int .i64 (i : Int), .slice (some ad) 1 cp] w fun e w' =>
      e = .returned (.slice (some ⟨g, 0, none⟩) (n + 1) cap) ∧ ∃ m1 cs', w' = (w.drew.setRow g m1).setRow g cs' ∧ cs'.size = cap * 2 ∧ cs'.toList.take ((n + 1) * 2) = (cur.toList.take (n * 2)).take (i * 2) ++ [c0, c1] ++ (cur.toList.take (n * 2)).drop (i * 2) := by
  have mixed := mixed_ok
  have hz1 : ¬ ((1 : Int) = 0) := by omega
  have hz2 : ¬ ((i : Int) = (n : Int)) := by omega
  have hz3 : ¬ ((cap : Int) < (n : Int) + 1) := by omega
  have hb2 : ¬ (cap = i + 1) := by omega
  have hb4 : ¬ (cap = i) := by omega
  have hin : i ≤ n := by omega
  have hw1 : IntKind.i64.wrap ((i : Int) + 1) = (i : Int) + 1 := by rw [IntKind.wrap_i64]; omega
  have hb1 : (0 : Int) ≤ (i : Int) + 1 := by omega
  have htn : ((i : Int) + 1).toNat = i + 1 := by omega
  have hb3 : (i : Int) ≤ (n : Int) + 1 := by omega
  have hov : ∀ lb cb, (callFunc 37 #[.slice (some ad) 1 cp, .slice (some ⟨g, (i + 1) * 2, none⟩) lb cb]).run Tryd.prog w = .ok (.value (.bool false)) w := fun lb cb => by
    obtain ⟨tA, kA, hsa⟩ := shape_of h0
    have hsb : w.shape? g = some (46, (cap * 2 - 1) + 1) := by
      simp [World.shape?, hg, hsz]; omega
    rw [run_callFunc_extern Tryd.func37 (by kernel_rfl) (by kernel_rfl) (by kernel_rfl) (e := Extern.SlicesOverlaps.overlaps #[22, 22] #[4]) (by kernel_rfl),
      run_overlaps_b w 22 4 46 Tryd.underlying22 2 Tryd.sizeOf46 ad ⟨g, (i + 1) * 2, none⟩ 1 cp lb cb had tA 46 kA (cap * 2 - 1) hsa hsb (by simp [World.frozen?, hg]) (by simp [World.frozen?, hg])]
    rfl
  have hin2 : (Tryd.prog.info? 46).map (·.size) = some 2 := by kernel_rfl
  have hT : Tryd.prog.underlying 23 = some (.slice 46) := Tryd.underlying23
  have hcl : (n + 1) * 2 ≤ cur.size := by rw [hsz]; exact Nat.mul_le_mul_right 2 hc
  have hgd : w.drew.heap[g]? = some (.cells cur 46 (0, 0)) := hg
  have htl : ((cur.toList.drop (i * 2)).take ((n - i) * 2)).length = (n - i) * 2 := by simp; omega
  have hcp1 : ∀ ty dc sc, (Builtin.copy_ #[23, 23] ty #[.slice (some ⟨g, (i + 1) * 2, none⟩) (n - i) dc, .slice (some ⟨g, i * 2, none⟩) (n + 1 - i) sc]).run Tryd.prog w.drew =
      .ok (goInt (n - i : Nat)) (w.drew.setRow g (cur.toList.take ((i + 1) * 2) ++ (cur.toList.drop (i * 2)).take ((n - i) * 2) ++ cur.toList.drop ((i + 1) * 2 + (n - i) * 2)).toArray) := fun ty dc sc => by
    have h := run_copy_k (P := Tryd.prog) w.drew 23 23 ty 46 2 g ((i + 1) * 2) (n - i) dc ⟨g, i * 2, none⟩ (n + 1 - i) sc (n - i) cur 46 ((cur.toList.drop (i * 2)).take ((n - i) * 2)) hT hin2 hgd
      (Nat.min_eq_right (by omega)) htl (fun j v hj => by
        rw [List.getElem?_take] at hj
        split at hj
        · rw [List.getElem?_drop] at hj
          rw [Addr.add_lit]
          simp [World.cell?, hgd]
          simpa using hj
        · cases hj) (by rw [htl]; omega) (fun v hv => ?_)
    · rw [htl] at h
      exact h
    · obtain ⟨j, hj⟩ := List.getElem?_of_mem hv
      rw [List.getElem?_take] at hj
      split at hj
      · rw [List.getElem?_drop] at hj
        refine hone v (List.mem_of_getElem? (i := i * 2 + j) ?_)
        rw [List.getElem?_take, if_pos (by omega)]; exact hj
      · cases hj
  generalize hmid : cur.toList.take ((i + 1) * 2) ++ (cur.toList.drop (i * 2)).take ((n - i) * 2) ++ cur.toList.drop ((i + 1) * 2 + (n - i) * 2) = mid at hcp1
  have hml : mid.length = cur.size := by rw [← hmid]; simp; omega
  have hg1 : (w.drew.setRow g mid.toArray).heap[g]? = some (.cells mid.toArray 46 (0, 0)) := setRow_heap _ _ _ _ _ _ hgd
  have hadc : ∀ j v, [c0, c1][j]? = some v → (w.drew.setRow g mid.toArray).cell? (ad.add j) = some v := fun j v hj => by
    have hk : ∀ q, (w.drew.setRow g mid.toArray).cell? (ad.add q) = w.cell? (ad.add q) := fun q => by
      have hb : (ad.add q).block = ad.block := add_block ad q
      simp only [World.cell?, hb]
      rw [setRow_other _ _ _ _ had]
      rfl
    match j, hj with
    | 0, hj => simp at hj; subst hj; rw [hk]; exact h0
    | 1, hj => simp at hj; subst hj; rw [hk]; exact h1
  have hcp2 : ∀ ty dc, (Builtin.copy_ #[23, 22] ty #[.slice (some ⟨g, i * 2, none⟩) (n + 1 - i) dc, .slice (some ad) 1 cp]).run Tryd.prog (w.drew.setRow g mid.toArray) =
      .ok (goInt (1 : Nat)) ((w.drew.setRow g mid.toArray).setRow g (mid.take (i * 2) ++ [c0, c1] ++ mid.drop (i * 2 + 2)).toArray) := fun ty dc => by
    have h := run_copy_k (P := Tryd.prog) (w.drew.setRow g mid.toArray) 23 22 ty 46 2 g (i * 2) (n + 1 - i) dc ad 1 cp 1 mid.toArray 46 [c0, c1] hT hin2 hg1
      (Nat.min_eq_left (by omega)) rfl hadc (by simp; omega) (by simp [hc0, hc1])
    simpa using h
  go_enter Tryd.func30, Tryd.ntmps30
  go_wp2_with (simp only [hov])
  go_region_law_o (refine step_copy_runI rfl _ _ 23 23 rfl _ _ (by simp [Act.eval, Act.put]) (by simp [Act.eval, Act.put]) (hcp1 _ _ _) ?_)
  go_wp2_with (at_builtin; refine wpList_copy_runI _ rfl _ _ 23 22 rfl _ _ rfl rfl (hcp2 _ _) ?_)
  go_ret
  refine ⟨rfl, _, _, rfl, by simp; omega, ?_⟩
  have := room_cells (cur := cur.toList) (n := n) (i := i) (c0 := c0) (c1 := c1) hi (by simpa using hcl)
  rw [hmid] at this
  simpa using this

set_option maxHeartbeats 4000000 in
set_option maxRecDepth 100000 in
theorem insert_growP (g n cap i : Nat) (ad : Addr) (cp : Nat) (w : World) (cur : Array Value) (c0 c1 : Value) (hg : w.heap[g]? = some (.cells cur 46 (0, 0))) (hsz : cur.size = cap * 2) (hi : i < n) (hn : n ≤ 268435456) (hnc : n ≤ cap) (hc : cap < n + 1) (hcm : cap ≤ maxLen)
    (hadw : ad.block < w.heap.size) (h0 : w.cell? (ad.add 0) = some c0) (h1 : w.cell? (ad.add 1) = some c1) (hone : ∀ v ∈ cur.toList.take (n * 2), v.oneCell' = true) (hc0 : c0.oneCell' = true) (hc1 : c1.oneCell' = true) :
    Calls Tryd.prog 30 #[.slice (some ⟨g, 0, none⟩) n cap, .int .i64 (i : Int), .slice (some ad) 1 cp] w fun e w' =>
      ∃ G, e = .returned (.slice (some ⟨w.heap.size, 0, none⟩) (n + 1) G) ∧ n + 1 ≤ G ∧ G ≤ maxLen ∧ Below w.heap.size w w' ∧ ∃ cs', w'.heap[w.heap.size]? = some (.cells cs' 46 (0, 0)) ∧ cs'.size = G * 2 ∧
        cs'.toList.take ((n + 1) * 2) = (cur.toList.take (n * 2)).take (i * 2) ++ [c0, c1] ++ (cur.toList.take (n * 2)).drop (i * 2) := by
  have mixed := mixed_ok
  have hz1 : ¬ ((1 : Int) = 0) := by omega
  have hz2 : ¬ ((i : Int) = (n : Int)) := by omega
  have hz3 : (cap : Int) < (n : Int) + 1 := by omega
  have hin : i ≤ n := by omega
  have hw1 : IntKind.i64.wrap ((i : Int) + 1) = (i : Int) + 1 := by rw [IntKind.wrap_i64]; omega
  have hb1 : (0 : Int) ≤ (i : Int) + 1 := by omega
  have htn : ((i : Int) + 1).toNat = i + 1 := by omega
  have hb3 : (i : Int) ≤ (n : Int) := by omega
  have hci : ¬ (cap = i) := by omega
  have hin2 : (Tryd.prog.info? 46).map (·.size) = some 2 := by kernel_rfl
  have hT : Tryd.prog.underlying 23 = some (.slice 46) := Tryd.underlying23
  have hcl : n * 2 ≤ cur.size := by rw [hsz]; exact Nat.mul_le_mul_right 2 hnc
  have hgw : g < w.heap.size := by
    rcases Nat.lt_or_ge g w.heap.size with h | h
    · exact h
    · rw [Array.getElem?_eq_none h] at hg; cases hg
  generalize hxs : cur.toList.take (n * 2) = xs at hone
  have hxl : xs.length = n * 2 := by rw [← hxs]; simp; omega
  have hcell : ∀ (W : World), W.heap[g]? = w.heap[g]? → ∀ j v, xs[j]? = some v → W.cell? ⟨g, j, none⟩ = some v := fun W hW j v hj => by
    rw [← hxs, List.getElem?_take] at hj
    split at hj
    · simp [World.cell?, hW, hg]
      simpa using hj
    · cases hj
  have htb : ∃ ti, tget tbl 46 = some ti ∧ ti.n = 2 ∧ ti.bytes = 24 ∧ ti.zero = [.string ⟨#[]⟩, .int .i64 0] := ⟨_, rfl, rfl, rfl, rfl⟩
  obtain ⟨ti, ht1, ht2, ht3, ht4⟩ := htb
  obtain ⟨i0, hi0, hzs, hzb, z, hz0, hzc⟩ := (tbl_ok _ _ ht1).info
  rw [ht2] at hzs
  rw [ht3] at hzb
  rw [ht4] at hzc
  have hzz : z.cells.size = 2 := by rw [← Array.length_toList, hzc]; rfl
  have hold : (Builtin.firstCells i0.size i (.slice (some ⟨g, 0, none⟩) i cap)).run Tryd.prog w.drew = .ok (xs.take (i * 2)).toArray w.drew := by
    rw [hzs]
    exact run_firstCells_some w.drew 2 i ⟨g, 0, none⟩ i cap (xs.take (i * 2)) (by rw [List.length_take]; omega) (fun j v hj => by
      rw [Addr.add_lit, Nat.zero_add]
      rw [List.getElem?_take] at hj
      split at hj
      · exact hcell w.drew rfl j v hj
      · cases hj)
  obtain ⟨G, hG⟩ : ∃ G, G = grownCap w (n + 1) cap 46 := ⟨_, rfl⟩
  have hGn : n + 1 ≤ G := by rw [hG]; exact grownCap_ge w _ _ _
  have hGm : G ≤ maxLen := by rw [hG]; exact grownCap_le_maxLen w (n + 1) cap 46 (by unfold maxLen; omega)
  have hG63 : G ≤ 9223372036854775807 := by unfold maxLen at hGm; omega
  obtain ⟨zs, hzs2⟩ : ∃ zs : Array Value, zs = Builtin.zeroCells z.cells (n + 1 - i) ++ Builtin.zeroCells z.cells (G - (n + 1)) := ⟨_, rfl⟩
  have hzl : zs.size = (G - i) * 2 := by rw [hzs2]; simp [size_zeroCells, hzz]; omega
  obtain ⟨ROW, hROW⟩ : ∃ ROW : Array Value, ROW = (xs.take (i * 2)).toArray ++ zs := ⟨_, rfl⟩
  have hRl : ROW.size = G * 2 := by rw [hROW]; simp [hzl]; omega
  have hrz : ∀ ty, (Builtin.append_ #[23, 3] ty #[.slice (some ⟨g, 0, none⟩) i cap, .int .i64 ((n : Int) + 1 - (i : Int))]).run Tryd.prog w =
      .ok (.slice (some ⟨w.heap.size, 0, none⟩) (n + 1) G) (w.drew.alloc (.cells ROW 46)) := fun ty => by
    have h := Lib.run_append_grow_zeros (P := Tryd.prog) w 23 3 ty 46 i0 z .i64 .i64 hT Tryd.underlying3 hi0 hz0 (some ⟨g, 0, none⟩) i cap (xs.take (i * 2)) hold (n + 1 - i) (by omega) (by omega) (by omega) (by omega) (by rw [hzb]; omega)
      (by rw [hzb, show i + (n + 1 - i) = n + 1 by omega]; exact growslice_fits hc (by omega))
    rw [show i + (n + 1 - i) = n + 1 by omega, ← hG, Array.append_assoc, ← hzs2, ← hROW] at h
    rw [show (n : Int) + 1 - (i : Int) = ((n + 1 - i : Nat) : Int) by omega]
    exact h
  have hGi : ¬ (G = i) := by omega
  have hGim : ¬ (G = i + 1) := by omega
  have hgs : ¬ w.heap.size = g := by omega
  obtain ⟨mid, hmid⟩ : ∃ mid : List Value, mid = ROW.toList.take (i * 2) ++ [c0, c1] ++ ROW.toList.drop (i * 2 + 2) := ⟨_, rfl⟩
  have hml : mid.length = G * 2 := by rw [hmid]; simp; omega
  obtain ⟨fin, hfin⟩ : ∃ fin : List Value, fin = mid.take ((i + 1) * 2) ++ xs.drop (i * 2) ++ mid.drop ((i + 1) * 2 + (n - i) * 2) := ⟨_, rfl⟩
  have hfl : fin.length = G * 2 := by rw [hfin]; simp; omega
  have hN : (w.alloc (.cells ROW 46)).heap[w.heap.size]? = some (.cells ROW 46 (0, 0)) := alloc_new_at w _
  have hadc : ∀ (W : World), W.heap = (w.alloc (.cells ROW 46)).heap → ∀ j v, [c0, c1][j]? = some v → W.cell? (ad.add j) = some v := fun W hW j v hj => by
    have hk : ∀ q, W.cell? (ad.add q) = w.cell? (ad.add q) := fun q => by
      have hb : (ad.add q).block = ad.block := add_block ad q
      simp only [World.cell?, hb, hW]
      rw [Below.heap_alloc w _ _ hadw]
    match j, hj with
    | 0, hj => simp at hj; subst hj; rw [hk]; exact h0
    | 1, hj => simp at hj; subst hj; rw [hk]; exact h1
  have hcpA : ∀ (W : World), W.heap = (w.alloc (.cells ROW 46)).heap → ∀ ty dc, (Builtin.copy_ #[23, 22] ty #[.slice (some ⟨w.heap.size, i * 2, none⟩) (n + 1 - i) dc, .slice (some ad) 1 cp]).run Tryd.prog W =
      .ok (goInt (1 : Nat)) (W.setRow w.heap.size mid.toArray) := fun W hW ty dc => by
    have h := run_copy_k (P := Tryd.prog) W 23 22 ty 46 2 w.heap.size (i * 2) (n + 1 - i) dc ad 1 cp 1 ROW 46 [c0, c1] hT hin2 (by rw [hW]; exact hN)
      (Nat.min_eq_left (by omega)) rfl (hadc W hW) (by simp; omega) (by simp [hc0, hc1])
    rw [hmid]
    simpa using h
  have hdl : (xs.drop (i * 2)).length = (n - i) * 2 := by rw [List.length_drop, hxl]; omega
  have hcpB : ∀ (W : World), W.heap[w.heap.size]? = some (.cells mid.toArray 46 (0, 0)) → W.heap[g]? = w.heap[g]? → ∀ ty dc sc, (Builtin.copy_ #[23, 23] ty #[.slice (some ⟨w.heap.size, (i + 1) * 2, none⟩) (n - i) dc, .slice (some ⟨g, i * 2, none⟩) (n - i) sc]).run Tryd.prog W =
      .ok (goInt (n - i : Nat)) (W.setRow w.heap.size fin.toArray) := fun W hW hWg ty dc sc => by
    have h := run_copy_k (P := Tryd.prog) W 23 23 ty 46 2 w.heap.size ((i + 1) * 2) (n - i) dc ⟨g, i * 2, none⟩ (n - i) sc (n - i) mid.toArray 46 (xs.drop (i * 2)) hT hin2 hW
      (Nat.min_self _) hdl (fun j v hj => by
        rw [Addr.add_lit]
        rw [List.getElem?_drop] at hj
        exact hcell W hWg _ v hj) (by rw [hdl]; simp; omega) (fun v hv => hone v (List.mem_of_mem_drop hv))
    rw [hdl] at h
    rw [hfin]
    simpa using h
  have hE : ((w.alloc (.cells ROW 46)).drew).heap = (w.alloc (.cells ROW 46)).heap := rfl
  have hB1 : ∀ (W : World), W.heap = (w.alloc (.cells ROW 46)).heap → (W.setRow w.heap.size mid.toArray).drew.heap[w.heap.size]? = some (.cells mid.toArray 46 (0, 0)) := fun W hW => setRow_heap W _ _ _ _ _ (by rw [hW]; exact hN)
  have hB2 : ∀ (W : World), W.heap = (w.alloc (.cells ROW 46)).heap → (W.setRow w.heap.size mid.toArray).drew.heap[g]? = w.heap[g]? := fun W hW => by
    show (W.setRow w.heap.size mid.toArray).heap[g]? = _
    rw [setRow_other _ _ _ _ (by omega), hW]
    exact Below.heap_alloc w _ _ hgw
  have hlast : fin.take ((n + 1) * 2) = xs.take (i * 2) ++ [c0, c1] ++ xs.drop (i * 2) := by
    have h := grow_cells (xs := xs) (zs := zs.toList) (n := n) (i := i) (c0 := c0) (c1 := c1) hi hxl (by rw [Array.length_toList, hzl]; exact Nat.mul_le_mul_right 2 (by omega))
    rw [hfin, hmid, hROW]
    simpa using h
  clear hzs2 hROW hmid hfin hG
  go_enter Tryd.func30, Tryd.ntmps30
  go_wp2_with (first
    | (at_builtin; refine Lib.wpList_append_run _ rfl _ _ _ _ rfl _ _ rfl rfl _ _ (hrz _) ?_)
    | (at_builtin; refine wpList_copy_runI _ rfl _ _ 23 22 rfl _ _ rfl rfl (hcpA _ rfl _ _) ?_))
  go_region_law_o (refine step_copy_runI rfl _ _ 23 23 rfl (.slice (some ⟨w.heap.size, (i + 1) * 2, none⟩) (n - i) (G - (i + 1))) (.slice (some ⟨g, i * 2, none⟩) (n - i) (cap - i)) (by simp [Act.eval, Act.put]) (by simp [Act.eval, Act.put]) (hcpB ((w.alloc (.cells ROW 46)).drew.setRow w.heap.size mid.toArray).drew (hB1 _ hE) (hB2 _ hE) _ _ _) ?_)
  go_wp2
  go_ret
  refine ⟨G, rfl, hGn, hGm, ⟨rfl, rfl, rfl, by simp [setRow_size], fun k hk => ?_⟩, fin.toArray, setRow_heap _ _ _ _ _ _ (hB1 _ hE), by simp [hfl], by simpa using hlast⟩
  rw [setRow_other _ _ _ _ (by omega)]
  show ((w.alloc (.cells ROW 46)).drew.setRow w.heap.size mid.toArray).heap[k]? = _
  rw [setRow_other _ _ _ _ (by omega)]
  exact Below.heap_alloc w _ _ hk

set_option maxHeartbeats 4000000 in
set_option maxRecDepth 100000 in
theorem insert_endP (v : Value) (n : Nat) (xs : List Value) (ad : Addr) (cp : Nat) (w : World) (c0 c1 : Value) (hown : w.ownsRow 0 46 2 v n xs) (hn : n ≤ 268435456)
    (h0 : w.cell? (ad.add 0) = some c0) (h1 : w.cell? (ad.add 1) = some c1) (hc0 : c0.oneCell' = true) (hc1 : c1.oneCell' = true) :
    Calls Tryd.prog 30 #[v, .int .i64 (n : Int), .slice (some ad) 1 cp] w fun e w' =>
      ∃ v', e = .returned v' ∧ w'.ownsRow 0 46 2 v' (n + 1) (xs ++ [c0, c1]) ∧ w.grownBy w' v.ownBlock ∧ (v'.ownBlock = v.ownBlock ∨ v'.ownBlock = some w.heap.size) := by
  have mixed := mixed_ok
  have hz1 : ¬ ((1 : Int) = 0) := by omega
  have hT : Tryd.prog.underlying 23 = some (.slice 46) := Tryd.underlying23
  have htb : ∃ ti, tget tbl 46 = some ti ∧ ti.n = 2 ∧ ti.bytes = 24 ∧ ti.zero = [.string ⟨#[]⟩, .int .i64 0] := ⟨_, rfl, rfl, rfl, rfl⟩
  obtain ⟨ti, ht1, ht2, ht3, ht4⟩ := htb
  obtain ⟨i0, hi0, hzs, hzb, z, hz0, hzc⟩ := (tbl_ok _ _ ht1).info
  rw [ht2] at hzs
  rw [ht3] at hzb
  rw [ht4] at hzc
  have hzz : z.cells.size = 2 := by rw [← Array.length_toList, hzc]; rfl
  have hnews : ∀ j u, [c0, c1][j]? = some u → w.cell? (ad.add j) = some u := fun j u hj => by
    match j, hj with
    | 0, hj => simp at hj; subst hj; exact h0
    | 1, hj => simp at hj; subst hj; exact h1
  have hone : ∀ u ∈ [c0, c1], u.oneCell' = true := by simp [hc0, hc1]
  obtain ⟨R, hR⟩ : ∃ R : Value → World → Prop, R = fun v' w' => w'.ownsRow 0 46 2 v' (n + 1) (xs ++ [c0, c1]) ∧ w.grownBy w' v.ownBlock ∧ (v'.ownBlock = v.ownBlock ∨ v'.ownBlock = some w.heap.size) := ⟨_, rfl⟩
  have hmk : ∀ v' w', w'.ownsRow 0 46 2 v' (n + 1) (xs ++ [c0, c1]) → w.grownBy w' v.ownBlock → (v'.ownBlock = v.ownBlock ∨ v'.ownBlock = some w.heap.size) → R v' w' := fun v' w' a b c => by rw [hR]; exact ⟨a, b, c⟩
  suffices h : Calls Tryd.prog 30 #[v, .int .i64 (n : Int), .slice (some ad) 1 cp] w fun e w' => ∃ v', e = .returned v' ∧ R v' w' by
    refine h.mono fun e w' => ?_
    rintro ⟨v', a, b⟩
    rw [hR] at b
    exact ⟨v', a, b⟩
  clear hR
  have hb : n + 1 ≤ maxLen := by unfold maxLen; omega
  have hv : (v = .slice none 0 0 ∧ n = 0) ∨ ∃ g cap, v = .slice (some ⟨g, 0, none⟩) n cap ∧ n ≤ cap := by
    rcases hown.2 with h | ⟨g, cap, cur, e, _, _, h, _⟩
    · exact .inl h
    · exact .inr ⟨g, cap, e, h⟩
  obtain ⟨v', w', hr, q1, q2, _, q4⟩ := run_append_own_at (P := Tryd.prog) w 0 23 0 46 i0 z 2 24 hT hi0 hz0 hzs hzb hzz (by decide) v n xs hown ad 1 cp [c0, c1] rfl hnews hone hb (by omega) (Nat.zero_le _)
  have hR := hmk v' w' q1 q2 q4
  have hap : ∀ ty, (Builtin.append_ #[23, 22] ty #[v, .slice (some ad) 1 cp]).run Tryd.prog w = .ok v' w' := fun ty => (append_types hT Tryd.underlying22 ty _ w).trans ((append_ty _ _ _ w).trans hr)
  clear hmk q1 q2 q4 hr hown hnews
  rcases hv with ⟨rfl, rfl⟩ | ⟨g, cap, rfl, hnc⟩
  · go_enter Tryd.func30, Tryd.ntmps30
    go_wp2_with (at_builtin; refine Lib.wpList_append_run _ rfl _ _ 23 22 rfl _ _ rfl rfl _ _ (hap _) ?_)
    go_ret
    exact ⟨_, rfl, hR⟩
  · go_enter Tryd.func30, Tryd.ntmps30
    go_wp2_with (at_builtin; refine Lib.wpList_append_run _ rfl _ _ 23 22 rfl _ _ rfl rfl _ _ (hap _) ?_)
    all_goals
      go_ret
      exact ⟨_, rfl, hR⟩

theorem upd_insertP (rows : List (List D)) (m : Nat) (d0 d1 : D) (hm : m ≤ rows.length) (hl : rows.length ≤ 268435456) :
    FnUpd Tryd.prog 30 46 2 rows [.d (dint m), .d (.sl 2 [[d0, d1]])] (rows.take m ++ [d0, d1] :: rows.drop m) := by
  refine ⟨⟨_, Tryd.func30, by kernel_rfl, by kernel_rfl⟩, fun w own v vs hown hR hsep ha => ?_⟩
  match vs, ha with
  | [v1, v2], ⟨h1, h2, _⟩ =>
    have e1 := rd_v h1
    subst e1
    obtain ⟨ad, cp, c0, c1, rfl, hnb, hadw, hc0, hc1, o0, o1, r0, r1⟩ := rd_pair h2
    obtain ⟨xs, hrow, hone, hrl, hrd⟩ := hR
    have hbv : blk v = v.ownBlock := blk_own hrow
    have hxl := hrow.1
    by_cases hmn : m = rows.length
    · subst hmn
      refine (insert_endP v rows.length xs ad cp w c0 c1 hrow hl hc0 hc1 o0 o1).mono fun e w' => ?_
      rintro ⟨v', rfl, q1, q2, q3⟩
      have hp : ∀ b, blk v' = some b → blk v = some b ∨ w.heap.size ≤ b := fun b hb => by
        rw [blk_own q1] at hb
        rw [hbv]
        rcases q3 with h | h
        · rw [h] at hb; exact .inl hb
        · rw [h] at hb; cases hb; exact .inr (Nat.le_refl _)
      have hbb : BelowBut v w w' := ⟨q2.os, q2.tape, q2.output, q2.size, fun b hb hn => q2.block b hb fun h => hn (by rw [hbv, h])⟩
      refine ⟨v', rfl, hbb, hp, rows_ins (Nat.le_refl _) hbb hp hxl hone hrl hrd r0 r1 o0 o1 ?_⟩
      rw [List.take_of_length_le (by omega), List.drop_eq_nil_of_le (by omega), List.append_nil]
      exact q1
    · rcases hrow.2 with ⟨_, h0⟩ | ⟨g, cap, cur, rfl, _, hg, hnc, hcm, hsz, htk⟩
      · omega
      · have hadg : ad.block ≠ g := fun h => hnb (.inr (by rw [h]; rfl))
        by_cases hroom : rows.length + 1 ≤ cap
        · refine (insert_roomP g rows.length cap m ad cp w cur c0 c1 hg hsz (by omega) hl hroom hcm hadg hc0 hc1 (by rw [htk]; exact hone) o0 o1).mono fun e w' => ?_
          rintro ⟨rfl, m1, cs', rfl, q1, q2⟩
          have hp : ∀ b, blk (.slice (some ⟨g, 0, none⟩) (rows.length + 1) cap) = some b → blk (.slice (some ⟨g, 0, none⟩) rows.length cap) = some b ∨ w.heap.size ≤ b := fun b hb => .inl hb
          have hbb : BelowBut (.slice (some ⟨g, 0, none⟩) rows.length cap) w ((w.drew.setRow g m1).setRow g cs') := ⟨rfl, rfl, rfl, by simp [setRow_size], fun b hb hn => by
            have hbg : b ≠ g := fun h => hn (by rw [h]; rfl)
            rw [setRow_other _ _ _ _ hbg, setRow_other _ _ _ _ hbg]; rfl⟩
          refine ⟨_, rfl, hbb, hp, rows_ins hm hbb hp hxl hone hrl hrd r0 r1 o0 o1 ⟨by simp; omega, .inr ⟨g, cap, cs', rfl, Nat.zero_le _, setRow_heap _ _ _ _ _ _ (setRow_heap _ _ _ _ _ _ hg), hroom, hcm, q1, ?_⟩⟩⟩
          rw [q2, htk]
        · refine (insert_growP g rows.length cap m ad cp w cur c0 c1 hg hsz (by omega) hl hnc (by omega) hcm hadw hc0 hc1 (by rw [htk]; exact hone) o0 o1).mono fun e w' => ?_
          rintro ⟨G, rfl, q1, q2, hB, cs', q3, q4, q5⟩
          have hp : ∀ b, blk (.slice (some ⟨w.heap.size, 0, none⟩) (rows.length + 1) G) = some b → blk (.slice (some ⟨g, 0, none⟩) rows.length cap) = some b ∨ w.heap.size ≤ b := fun b hb => .inr (by cases hb; exact Nat.le_refl _)
          have hbb : BelowBut (.slice (some ⟨g, 0, none⟩) rows.length cap) w w' := ⟨hB.os, hB.tape, hB.output, hB.size, fun b hb _ => hB.block b hb⟩
          refine ⟨_, rfl, hbb, hp, rows_ins hm hbb hp hxl hone hrl hrd r0 r1 o0 o1 ⟨by simp; omega, .inr ⟨_, G, cs', rfl, Nat.zero_le _, q3, q1, q2, q4, ?_⟩⟩⟩
          rw [q5, htk]

end Go.Proofs.YtgiaplfdpncglaaDoor

/-! G14 -/
/-
  Contract of the library's Delete, of one pair out of rows.
-/
namespace Go.Proofs.YtgiaplfdpncglaaDoor
open Go.AX Go.RF Go.RowKit Go.Shelf Go.Lib

theorem step_append_runI {P : Program} {ops : Array Oper} {o : Oper} {a : Act} {w : World} {K : Act → World → Prop} {Q : Exit → Act → World → Prop} {E : Prop}
    (hg : o.guard = none) (d x : Operand) (dT sT : TypeId) (hop : o.op = Op.call { callee := Callee.builtin Builtin.append, args := #[d, x], argTypes := #[dT, sT] })
    (v u : Value) (hd : a.eval d = v) (hx : a.eval x = u) {v' : Value} {w' : World} (hr : (Builtin.append_ #[dT, sT] o.type #[v, u]).run P w = .ok v' w') (hK : K (a.put o.dst v') w') :
    if Region.wanted o (yielded ops a.tmps) = true then Oper.wp P o a w K Q else E := by
  have hw : Region.wanted o (yielded ops a.tmps) = true := by simp [Region.wanted, hg]
  rw [if_pos hw]
  unfold Oper.wp
  simp [execOp, hop, resolve, invoke, builtin, hd, hx, hr, Result.andThen]
  exact hK
theorem wpList_clear_runI {P : Program} {ops : Array Oper} {rest : List Oper} {o : Oper} {a : Act} {w : World} {Q : Exit → Act → World → Prop} (hgd : o.guard = none) (x : Operand) (t : TypeId)
    (ho : o.op = .call { callee := .builtin .clear, args := #[x], argTypes := #[t] }) (u : Value) (hx : a.eval x = u) {v' : Value} {w' : World}
    (hr : (Builtin.clear_ #[t] o.type #[u]).run P w = .ok v' w') (h : wpList P ops Q rest (a.put o.dst v') w') : wpList P ops Q (o :: rest) a w := by
  refine wpList_plain hgd fun K hK => ?_
  unfold Oper.wp
  simp [execOp, ho, resolve, invoke, builtin, hx, hr, Result.andThen]
  exact hK _ _ h

/-- What Delete leaves: the pieces. -/
theorem del_cells {cur zs : List Value} {n m : Nat} (hm : m < n) (hl : n * 2 ≤ cur.length) :
    let news := (cur.drop ((m + 1) * 2)).take ((n - (m + 1)) * 2)
    let m1 := cur.take (m * 2) ++ news ++ cur.drop (m * 2 + news.length)
    (m1.take ((m + (n - (m + 1))) * 2) ++ zs ++ m1.drop ((m + (n - (m + 1))) * 2 + zs.length)).take ((n - 1) * 2) = (cur.take (n * 2)).take (m * 2) ++ (cur.take (n * 2)).drop ((m + 1) * 2) := by
  intro news m1
  have h1 : (cur.take (m * 2)).length = m * 2 := by simp; omega
  have h2 : news.length = (n - (m + 1)) * 2 := by simp [news]; omega
  have hk : (m + (n - (m + 1))) * 2 = (n - 1) * 2 := by congr 1; omega
  have h3 : m1.take ((n - 1) * 2) = cur.take (m * 2) ++ news := by
    show (cur.take (m * 2) ++ news ++ cur.drop (m * 2 + news.length)).take ((n - 1) * 2) = _
    rw [List.take_append_of_le_length (by rw [List.length_append, h1, h2]; omega), List.take_of_length_le (by rw [List.length_append, h1, h2]; omega)]
  rw [hk, h3, List.append_assoc, List.take_append_of_le_length (by rw [List.length_append, h1, h2]; omega), List.take_of_length_le (by rw [List.length_append, h1, h2]; omega)]
  rw [List.take_take, Nat.min_eq_left (by omega), List.drop_take, show n * 2 - (m + 1) * 2 = (n - (m + 1)) * 2 by omega]

set_option maxHeartbeats 4000000 in
set_option maxRecDepth 100000 in
theorem delete_walk (g n cap m : Nat) (w : World) (cur : Array Value) (hg : w.heap[g]? = some (.cells cur 46 (0, 0))) (hsz : cur.size = cap * 2) (hm : m < n) (hn : n ≤ 268435456) (hnc : n ≤ cap) (hcm : cap ≤ maxLen) (hone : ∀ v ∈ cur.toList.take (n * 2), v.oneCell' = true) :
    Calls Tryd.prog 31 #[.slice (some ⟨g, 0, none⟩) n cap, .int .i64 (m : Int), .int .i64 ((m : Int) + 1)] w fun e w' =>
      e = .returned (.slice (some ⟨g, 0, none⟩) (n - 1) cap) ∧ ∃ m1 cs', w' = (w.drew.setRow g m1).setRow g cs' ∧ cs'.size = cap * 2 ∧ cs'.toList.take ((n - 1) * 2) = (cur.toList.take (n * 2)).take (m * 2) ++ (cur.toList.take (n * 2)).drop ((m + 1) * 2) := by
  have mixed := mixed_ok
  have hnm : ¬ ((m : Int) = (m : Int) + 1) := by omega
  have hT : Tryd.prog.underlying 23 = some (.slice 46) := Tryd.underlying23
  have htb : ∃ ti, tget tbl 46 = some ti ∧ ti.n = 2 ∧ ti.zero = [.string ⟨#[]⟩, .int .i64 0] := ⟨_, rfl, rfl, rfl⟩
  obtain ⟨ti, ht1, ht2, ht4⟩ := htb
  obtain ⟨i0, hi0, hzs, _, z, hz0, hzc⟩ := (tbl_ok _ _ ht1).info
  rw [ht2] at hzs
  rw [ht4] at hzc
  have hcl : n * 2 ≤ cur.size := by rw [hsz]; exact Nat.mul_le_mul_right 2 hnc
  obtain ⟨news, hnews⟩ : ∃ news, news = (cur.toList.drop ((m + 1) * 2)).take ((n - (m + 1)) * 2) := ⟨_, rfl⟩
  have hnl : news.length = (n - (m + 1)) * 2 := by rw [hnews]; simp; omega
  obtain ⟨m1, hm1⟩ : ∃ m1 : List Value, m1 = cur.toList.take (m * 2) ++ news ++ cur.toList.drop (m * 2 + news.length) := ⟨_, rfl⟩
  have hm1l : m1.length = cur.size := by rw [hm1]; simp; omega
  obtain ⟨zs, hzs2⟩ : ∃ zs : List Value, zs = [.string ⟨#[]⟩, .int .i64 0] := ⟨_, rfl⟩
  obtain ⟨m2, hm2⟩ : ∃ m2 : List Value, m2 = m1.take ((m + (n - (m + 1))) * 2) ++ zs ++ m1.drop ((m + (n - (m + 1))) * 2 + zs.length) := ⟨_, rfl⟩
  have hm2l : m2.length = cur.size := by rw [hm2, hzs2]; simp; omega
  have hlast : m2.take ((n - 1) * 2) = (cur.toList.take (n * 2)).take (m * 2) ++ (cur.toList.take (n * 2)).drop ((m + 1) * 2) := by
    have h := del_cells (cur := cur.toList) (zs := zs) hm (by simpa using hcl)
    rw [hm2, hm1, hnews]
    exact h
  have hap : ∀ (A : Addr), (cap = m + 1 ∨ A = ⟨g, (m + 1) * 2, none⟩) → ∀ ty, (Builtin.append_ #[23, 23] ty #[.slice (some ⟨g, 0, none⟩) m cap, .slice (some A) (n - (m + 1)) (cap - (m + 1))]).run Tryd.prog w.drew =
      .ok (.slice (some ⟨g, 0, none⟩) (m + (n - (m + 1))) cap) (w.drew.setRow g m1.toArray) := fun A hA ty => by
    have hnw : ∀ j u, news[j]? = some u → w.drew.cell? (A.add j) = some u := fun j u hj => by
      rcases hA with hA | rfl
      · have : news = [] := List.eq_nil_of_length_eq_zero (by rw [hnl]; omega)
        rw [this] at hj; simp at hj
      · rw [hnews, List.getElem?_take] at hj
        split at hj
        · rw [List.getElem?_drop] at hj
          rw [Addr.add_lit]
          have hgd : w.drew.heap[g]? = some (.cells cur 46 (0, 0)) := hg
          simp [World.cell?, hgd]
          simpa using hj
        · cases hj
    have ho1 : ∀ u ∈ news, u.oneCell' = true := fun u hu => by
      obtain ⟨j, hj⟩ := List.getElem?_of_mem hu
      rw [hnews, List.getElem?_take] at hj
      split at hj
      · rw [List.getElem?_drop] at hj
        refine hone u (List.mem_of_getElem? (i := (m + 1) * 2 + j) ?_)
        rw [List.getElem?_take, if_pos (by omega)]; exact hj
      · cases hj
    have h := run_append_room (P := Tryd.prog) (w := w.drew) (ty := ty) 23 46 i0 hT hi0 g m cap cur hg A (n - (m + 1)) (cap - (m + 1)) news (by rw [hzs]; exact hnl) hnw ho1 (by omega) (by rw [hzs, hnl]; omega)
    rw [hzs] at h
    rw [hm1]
    exact h
  have hg1 : (w.drew.setRow g m1.toArray).heap[g]? = some (.cells m1.toArray 46 (0, 0)) := setRow_heap _ _ _ _ _ _ hg
  have hclr : ∀ ty, (Builtin.clear_ #[23] ty #[.slice (some ⟨g, (m + (n - (m + 1))) * 2, none⟩) (n - (m + (n - (m + 1)))) (cap - (m + (n - (m + 1))))]).run Tryd.prog (w.drew.setRow g m1.toArray) =
      .ok (.tuple #[]) ((w.drew.setRow g m1.toArray).setRow g m2.toArray) := fun ty => by
    have e1 : n - (m + (n - (m + 1))) = 1 := by omega
    have hst := run_storeCells_at Tryd.prog g ((m + (n - (m + 1))) * 2) 46 zs 0 m1.toArray (w.drew.setRow g m1.toArray) hg1 (by rw [hzs2]; simp; omega) (by rw [hzs2]; simp [Value.oneCell'])
    have hzz : (Builtin.zeroCells z.cells 1).toList = zs := by
      rw [hzs2, ← hzc]
      have h2 : z.cells.size = 2 := by rw [← Array.length_toList, hzc]; rfl
      apply List.ext_getElem
      · simp [Builtin.zeroCells, h2]
      · intro i h3 h4
        have h5 : i < 2 := by simpa [h2] using h4
        simp [Builtin.zeroCells, Nat.mod_eq_of_lt h5, h2]
        exact getElem!_pos z.cells i (by omega)
    have hzv : (zeroValue 46).run Tryd.prog (w.drew.setRow g m1.toArray) = .ok z (w.drew.setRow g m1.toArray) := by simp [zeroValue, typeInfo, hi0, hz0]
    rw [e1]
    simp only [Nat.add_zero] at hst
    simp [Builtin.clear_, run_underlying hT, hzv, hzz, hst, hm2]
  have hi1 : m ≤ cap := by omega
  have hi2 : m + 1 ≤ cap := by omega
  have hi3 : m + 1 ≤ n := by omega
  clear hm1 hm2 hnews hzs2
  have hj1 : (0 : Int) ≤ (m : Int) + 1 := by omega
  have hj2 : (m : Int) + 1 ≤ (n : Int) := by omega
  have hj3 : (m : Int) ≤ (m : Int) + 1 := by omega
  have htn : ((m : Int) + 1).toNat = m + 1 := by omega
  by_cases hcj : cap = m + 1
  · have hap1 := hap ⟨g, 0, none⟩ (.inl hcj)
    obtain rfl : n = m + 1 := by omega
    subst hcj
    have hap2 : ∀ ty, (Builtin.append_ #[23, 23] ty #[.slice (some ⟨g, 0, none⟩) m (m + 1), .slice (some ⟨g, 0, none⟩) 0 0]).run Tryd.prog w.drew = .ok (.slice (some ⟨g, 0, none⟩) m (m + 1)) (w.drew.setRow g m1.toArray) := fun ty => by simpa using hap1 ty
    have hclr2 : ∀ ty, (Builtin.clear_ #[23] ty #[.slice (some ⟨g, m * 2, none⟩) 1 1]).run Tryd.prog (w.drew.setRow g m1.toArray) = .ok (.tuple #[]) ((w.drew.setRow g m1.toArray).setRow g m2.toArray) := fun ty => by
      have h := hclr ty
      rw [show m + 1 - (m + 1) = 0 by omega, show m + 0 = m by omega, show m + 1 - m = 1 by omega] at h
      exact h
    clear hap hap1 hclr
    go_enter Tryd.func31, Tryd.ntmps31
    go_wp2_with fail
    go_region_law_o (refine step_append_runI rfl _ _ 23 23 rfl (.slice (some ⟨g, 0, none⟩) m (m + 1)) (.slice (some ⟨g, 0, none⟩) 0 0) (by simp [Act.eval, Act.put]) (by simp [Act.eval, Act.put]) (hap2 _) ?_)
    go_wp2_with (at_builtin; refine wpList_clear_runI rfl _ 23 rfl _ rfl (hclr2 _) ?_)
    go_ret
    exact ⟨by rw [show m + 1 - 1 = m by omega]; rfl, _, _, rfl, by simp [hm2l, hsz], by simpa using hlast⟩
  · have hap1 := hap ⟨g, (m + 1) * 2, none⟩ (.inr rfl)
    clear hap
    go_enter Tryd.func31, Tryd.ntmps31
    go_wp2_with fail
    go_region_law_o (refine step_append_runI rfl _ _ 23 23 rfl (.slice (some ⟨g, 0, none⟩) m cap) (.slice (some ⟨g, (m + 1) * 2, none⟩) (n - (m + 1)) (cap - (m + 1))) (by simp [Act.eval, Act.put]) (by simp [Act.eval, Act.put]) (hap1 _) ?_)
    go_wp2_with (at_builtin; refine wpList_clear_runI rfl _ 23 rfl _ rfl (hclr _) ?_)
    go_ret
    exact ⟨by rw [show n - 1 = m + (n - (m + 1)) by omega]; rfl, _, _, rfl, by simp [hm2l, hsz], by simpa using hlast⟩

theorem upd_delete (rows : List (List D)) (m : Nat) (hm : m < rows.length) (hl : rows.length ≤ 268435456) :
    FnUpd Tryd.prog 31 46 2 rows [.d (dint m), .d (dint ((m : Int) + 1))] (rows.take m ++ rows.drop (m + 1)) := by
  refine ⟨⟨_, Tryd.func31, by kernel_rfl, by kernel_rfl⟩, fun w own v vs hown hR hsep ha => ?_⟩
  match vs, ha with
  | [v1, v2], ⟨h1, h2, _⟩ =>
    have e1 := rd_v h1
    have e2 := rd_v h2
    subst e1 e2
    obtain ⟨xs, hrow, hone, hrl, hrd⟩ := hR
    have hxl := hrow.1
    rcases hrow.2 with ⟨_, h0⟩ | ⟨g, cap, cur, rfl, _, hg, hnc, hcm, hsz, htk⟩
    · omega
    · refine (delete_walk g rows.length cap m w cur hg hsz hm hl hnc hcm (by rw [htk]; exact hone)).mono fun e w' => ?_
      rintro ⟨rfl, m1, cs', rfl, q1, q2⟩
      have hp : ∀ b, blk (.slice (some ⟨g, 0, none⟩) (rows.length - 1) cap) = some b → blk (.slice (some ⟨g, 0, none⟩) rows.length cap) = some b ∨ w.heap.size ≤ b := fun b hb => .inl hb
      have hbb : BelowBut (.slice (some ⟨g, 0, none⟩) rows.length cap) w ((w.drew.setRow g m1).setRow g cs') := ⟨rfl, rfl, rfl, by simp [setRow_size], fun b hb hn => by
        have hbg : b ≠ g := fun h => hn (by rw [h]; rfl)
        rw [setRow_other _ _ _ _ hbg, setRow_other _ _ _ _ hbg]; rfl⟩
      refine ⟨_, rfl, hbb, hp, rows_del hm hbb hp hxl hone hrl hrd ⟨by simp; omega, .inr ⟨g, cap, cs', rfl, Nat.zero_le _, setRow_heap _ _ _ _ _ _ (setRow_heap _ _ _ _ _ _ hg), by omega, hcm, q1, ?_⟩⟩⟩
      rw [q2, htk]

end Go.Proofs.YtgiaplfdpncglaaDoor

/-! R2 -/
/-
  Contracts of the program's Get, Put, Drop and Round of rows.
-/
namespace Go.Proofs.YtgiaplfdpncglaaDoor
open Go.AX Go.RF Go.RowKit

set_option maxRecDepth 100000
set_option maxHeartbeats 8000000

/-! ### Rows in order: what a key has, given, taken -/
def putS (k : Str) (n : Int) : List Pair → List Pair
  | [] => [⟨k, n⟩]
  | p :: r => if p.key = k then ⟨k, n⟩ :: r else if slt p.key k = true then p :: putS k n r else ⟨k, n⟩ :: p :: r
def dropS (k : Str) : List Pair → List Pair
  | [] => []
  | p :: r => if p.key = k then r else p :: dropS k r

theorem atr_some {l : List Pair} {k : Str} {m : Nat} (h : isAtR l k m = true) : ∃ c, l[m]? = some c ∧ c.key = k := by
  unfold isAtR isAtK at h
  split at h
  · next c hc => exact ⟨c, hc, by simpa using h⟩
  · cases h
theorem atk_tail {d : Pair} {l : List Pair} {k : Str} {m : Nat} (hm : AtK Pair.key (d :: l) k (m + 1)) : AtK Pair.key l k m :=
  ⟨by have := hm.le; simpa using this, fun x c hx hlt => hm.lt (x + 1) c (by simpa using hx) (by omega), fun x c hx hge => hm.ge (x + 1) c (by simpa using hx) (by omega)⟩
theorem get_some {k : Str} : ∀ {l : List Pair} {m : Nat} {c : Pair}, AtK Pair.key l k m → l[m]? = some c → c.key = k → RF.get l k = (c.n, true)
  | [], m, c, _, h, _ => by simp at h
  | d :: l, 0, c, _, h, hk => by simp at h; subst h; simp [RF.get, hk]
  | d :: l, m + 1, c, hm, h, hk => by
    have h1 := hm.lt 0 d rfl (by omega)
    simp only [RF.get]
    rw [if_neg (slt_ne h1), get_some (atk_tail hm) (by simpa using h) hk]
theorem get_none {k : Str} : ∀ {l : List Pair} {m : Nat}, AtK Pair.key l k m → isAtR l k m = false → Srt Pair.key l → RF.get l k = (0, false)
  | [], m, _, _, _ => rfl
  | d :: l, 0, hm, hn, hs => by
    have h1 : d.key ≠ k := by simpa [isAtR, isAtK] using hn
    have h2 := hm.ge 0 d rfl (Nat.le_refl _)
    have h0 : ∀ p ∈ l, p.key ≠ k := fun p hp e => by
      have h3 := (List.pairwise_cons.1 hs).1 p hp
      rw [e] at h3
      rw [h3] at h2; cases h2
    simp only [RF.get]
    rw [if_neg h1]
    clear hm hn hs h1 h2
    induction l with
    | nil => rfl
    | cons p l ih =>
      simp only [RF.get]
      rw [if_neg (h0 p (List.mem_cons_self ..))]
      exact ih fun q hq => h0 q (List.mem_cons_of_mem _ hq)
  | d :: l, m + 1, hm, hn, hs => by
    have h1 := hm.lt 0 d rfl (by omega)
    simp only [RF.get]
    rw [if_neg (slt_ne h1)]
    exact get_none (atk_tail hm) (by simpa [isAtR, isAtK] using hn) (List.pairwise_cons.1 hs).2
theorem putS_found {k : Str} {n : Int} : ∀ {l : List Pair} {m : Nat} {c : Pair}, AtK Pair.key l k m → l[m]? = some c → c.key = k → putS k n l = l.set m ⟨c.key, n⟩
  | [], m, c, _, h, _ => by simp at h
  | d :: l, 0, c, _, h, hk => by
    simp at h; subst h
    simp only [putS]
    rw [if_pos hk, List.set_cons_zero, hk]
  | d :: l, m + 1, c, hm, h, hk => by
    have h1 := hm.lt 0 d rfl (by omega)
    simp only [putS]
    rw [if_neg (slt_ne h1), if_pos h1, putS_found (atk_tail hm) (by simpa using h) hk, List.set_cons_succ]
theorem putS_new {k : Str} {n : Int} : ∀ {l : List Pair} {m : Nat}, AtK Pair.key l k m → isAtR l k m = false → putS k n l = l.take m ++ ⟨k, n⟩ :: l.drop m
  | [], m, hm, _ => by
    obtain rfl : m = 0 := by simpa using hm.le
    rfl
  | d :: l, 0, hm, hn => by
    have h1 : d.key ≠ k := by simpa [isAtR, isAtK] using hn
    have h2 := hm.ge 0 d rfl (Nat.le_refl _)
    simp only [putS]
    rw [if_neg h1, if_neg (by rw [h2]; simp)]
    rfl
  | d :: l, m + 1, hm, hn => by
    have h1 := hm.lt 0 d rfl (by omega)
    simp only [putS]
    rw [if_neg (slt_ne h1), if_pos h1, putS_new (atk_tail hm) (by simpa [isAtR, isAtK] using hn)]
    rfl
theorem dropS_found {k : Str} : ∀ {l : List Pair} {m : Nat} {c : Pair}, AtK Pair.key l k m → l[m]? = some c → c.key = k → dropS k l = l.take m ++ l.drop (m + 1)
  | [], m, c, _, h, _ => by simp at h
  | d :: l, 0, c, _, h, hk => by
    simp at h; subst h
    simp [dropS, hk]
  | d :: l, m + 1, c, hm, h, hk => by
    have h1 := hm.lt 0 d rfl (by omega)
    simp only [dropS]
    rw [if_neg (slt_ne h1), dropS_found (atk_tail hm) (by simpa using h) hk]
    rfl
theorem dropS_none {k : Str} : ∀ {l : List Pair}, (∀ p ∈ l, p.key ≠ k) → dropS k l = l
  | [], _ => rfl
  | d :: l, h => by
    simp only [dropS]
    rw [if_neg (h d (List.mem_cons_self ..)), dropS_none fun p hp => h p (List.mem_cons_of_mem _ hp)]
theorem not_at {l : List Pair} {k : Str} {m : Nat} (hm : AtK Pair.key l k m) (hn : isAtR l k m = false) (hs : Srt Pair.key l) : ∀ p ∈ l, p.key ≠ k := by
  intro p hp e
  obtain ⟨i, hi⟩ := List.getElem?_of_mem hp
  rcases Nat.lt_trichotomy i m with h | h | h
  · have := hm.lt i p hi h; rw [e, slt_irrefl] at this; cases this
  · subst h
    unfold isAtR isAtK at hn
    rw [hi] at hn
    simp [e] at hn
  · have hil := (List.getElem?_eq_some_iff.1 hi).1
    have h1 := hm.ge m (l[m]'(by omega)) (List.getElem?_eq_getElem (by omega)) (Nat.le_refl _)
    have h2 := hs.lt (List.getElem?_eq_getElem (show m < l.length by omega)) hi h
    rw [e] at h2
    rw [h2] at h1; cases h1
theorem dropS_at {l : List Pair} {k : Str} {m : Nat} (hm : AtK Pair.key l k m) (hn : isAtR l k m = false) (hs : Srt Pair.key l) : dropS k l = l := dropS_none (not_at hm hn hs)

theorem putGo_done {k : Str} {n : Int} {h : Bool} : ∀ {l out : List Pair}, (∀ p ∈ l, p.key ≠ k) → putGo k n h true out l = out ++ l
  | [], out, _ => by simp [putGo]
  | p :: l, out, hl => by
    simp only [putGo]
    rw [if_neg (hl p (List.mem_cons_self ..))]
    simp only [Bool.true_or, Bool.not_true, Bool.false_and, Bool.false_eq_true, if_false]
    rw [putGo_done fun q hq => hl q (List.mem_cons_of_mem _ hq)]
    simp
theorem putGo_srt {k : Str} {n : Int} {h : Bool} : ∀ {l out : List Pair}, Srt Pair.key l → putGo k n h false out l = out ++ (if h = true then putS k n l else dropS k l)
  | [], out, _ => by cases h <;> simp [putGo, putS, dropS]
  | p :: l, out, hs => by
    obtain ⟨h1, h2⟩ := List.pairwise_cons.1 hs
    cases hl : slt p.key k with
    | true =>
      have hk : p.key ≠ k := slt_ne hl
      simp only [putGo, hl]
      rw [if_neg hk]
      simp only [Bool.not_true, Bool.or_false, Bool.not_false, Bool.and_false, Bool.false_and, Bool.false_eq_true, if_false]
      rw [putGo_srt h2]
      cases h <;> simp [putS, dropS, hk, hl]
    | false =>
      have hne : ∀ q ∈ l, q.key ≠ k := fun q hq e => by
        have h3 := h1 q hq
        rw [e] at h3
        rw [h3] at hl; cases hl
      simp only [putGo, hl]
      simp only [Bool.not_false, Bool.or_true, Bool.true_and, Bool.and_true]
      rw [putGo_done hne]
      by_cases hk : p.key = k
      · cases h <;> simp [putS, dropS, hk]
      · cases h <;> simp [putS, dropS, hk, hl, dropS_none hne]
theorem put_true {l : List Pair} (hs : Srt Pair.key l) (k : Str) (n : Int) : put l k n true = putS k n l := by
  unfold put; rw [putGo_srt hs]; rfl
theorem put_false {l : List Pair} (hs : Srt Pair.key l) (k : Str) (n : Int) : put l k n false = dropS k l := by
  unfold put; rw [putGo_srt hs]; rfl
theorem putS_mem {k : Str} {n : Int} : ∀ {l : List Pair} {p : Pair}, p ∈ putS k n l → p ∈ l ∨ p = ⟨k, n⟩
  | [], p, h => by simp [putS] at h; exact .inr h
  | q :: l, p, h => by
    simp only [putS] at h
    split at h
    · rcases List.mem_cons.1 h with h | h
      · exact .inr h
      · exact .inl (List.mem_cons_of_mem _ h)
    · split at h
      · rcases List.mem_cons.1 h with h | h
        · exact .inl (h ▸ List.mem_cons_self ..)
        · rcases putS_mem h with h | h
          · exact .inl (List.mem_cons_of_mem _ h)
          · exact .inr h
      · rcases List.mem_cons.1 h with h | h
        · exact .inr h
        · exact .inl h
theorem dropS_sub {k : Str} : ∀ l : List Pair, (dropS k l).Sublist l
  | [] => List.Sublist.slnil
  | p :: l => by
    simp only [dropS]
    split
    · exact List.sublist_cons_self ..
    · exact (dropS_sub l).cons_cons _
theorem putS_srt {k : Str} {n : Int} : ∀ {l : List Pair}, Srt Pair.key l → Srt Pair.key (putS k n l)
  | [], _ => List.pairwise_singleton ..
  | c :: l, hs => by
    obtain ⟨h1, h2⟩ := List.pairwise_cons.1 hs
    simp only [putS]
    by_cases hk : c.key = k
    · rw [if_pos hk]
      exact List.pairwise_cons.2 ⟨fun d hd => by show slt k d.key = true; rw [← hk]; exact h1 d hd, h2⟩
    · rw [if_neg hk]
      split
      · next h3 =>
        refine List.pairwise_cons.2 ⟨fun d hd => ?_, putS_srt h2⟩
        rcases putS_mem hd with h | rfl
        · exact h1 d h
        · exact h3
      · next h3 =>
        have h4 : slt k c.key = true := by
          rcases slt_tri c.key k with h | h | h
          · exact absurd h h3
          · exact absurd h hk
          · exact h
        refine List.pairwise_cons.2 ⟨fun d hd => ?_, hs⟩
        rcases List.mem_cons.1 hd with rfl | hd
        · exact h4
        · exact slt_trans h4 (h1 d hd)
theorem dropS_srt {k : Str} {l : List Pair} (hs : Srt Pair.key l) : Srt Pair.key (dropS k l) := hs.sublist (dropS_sub l)
theorem putS_len {k : Str} {n : Int} : ∀ l : List Pair, (putS k n l).length ≤ l.length + 1
  | [] => by simp [putS]
  | p :: l => by
    have := putS_len (k := k) (n := n) l
    simp only [putS]
    split
    · simp
    · split <;> simp <;> omega
theorem dropS_len {k : Str} (l : List Pair) : (dropS k l).length ≤ l.length := (dropS_sub l).length_le

/-! ### The walks -/
theorem ok_pround (n : Int) (hn : inI n) : FnOk Tryd.prog 27 [.d (dint n)] (.one (dint (round n))) := by
  refine fnOk_of tbl_ok mixed_ok Tryd.func27 rfl (by kernel_rfl) rfl rfl fun w0 own0 => ?_
  repeat (first | ((with_reducible apply s1); exact rfl) | (with_reducible first | apply CW.seq | apply CW.block | apply CW.region | apply CW.draw | apply CW.skip | apply CW.exit | apply CW.ret | apply q_then | apply q_then_exit | apply q_then_ret | apply q_block | apply q_block_ret | apply q_block_hit | apply q_ret | apply q_end | apply q_loop_exit | apply q_loop_ret | apply q_loopT_exit | apply q_loopT_ret | apply RW.nil) | ((with_reducible apply s3); exact rfl; exact by_k) | ((with_reducible apply s2); exact rfl; exact by_k) | ((with_reducible apply s4); exact rfl) | ((with_reducible apply s5); (first | ((with_reducible apply a_bin); (iterate 2 exact rfl); exact bin_rem (by omega); exact rfl) | exact by_oa); exact by_g) | ((with_reducible apply CW.cond_t); exact rfl; exact by_ks) | ((with_reducible apply CW.cond_f); exact rfl; exact by_ks) | ((with_reducible apply q_block_miss); exact rfl) | (refine And.intro (show chk [] [] _ _ = true by kernel_rfl) ?_))
  refine .one (.tmp rfl (.one (.d (dle_eq ?_))))
  have h1 : n.tdiv 1073741825 * 1073741825 + n.tmod 1073741825 = n := Int.tdiv_mul_add_tmod n 1073741825
  show dint _ = dint _
  congr 1
  unfold round
  omega

theorem ok_pget (l : List Pair) (k : Str) (hl : l.length ≤ 268435456) (hs : Srt Pair.key l) : FnOk Tryd.prog 18 [.d (encRows l), .d (dstr k)] (.tup [dint (RF.get l k).1, dbool (RF.get l k).2]) := by
  refine fnOk_of tbl_ok mixed_ok Tryd.func18 rfl (by kernel_rfl) rfl rfl fun w0 own0 => ?_
  obtain ⟨m, hm⟩ := hs.at k
  have hf := ok_rfind l k m hl hm
  cases hb : isAtR l k m with
  | true =>
    obtain ⟨c, hc, hck⟩ := atr_some hb
    rw [hb] at hf
    rw [get_some hm hc hck]
    repeat (first | ((with_reducible apply s1); exact rfl) | (with_reducible first | apply CW.seq | apply CW.block | apply CW.region | apply CW.draw | apply CW.skip | apply CW.exit | apply CW.ret | apply q_then | apply q_then_exit | apply q_then_ret | apply q_block | apply q_block_ret | apply q_block_hit | apply q_ret | apply q_end | apply q_loop_exit | apply q_loop_ret | apply q_loopT_exit | apply q_loopT_ret | apply RW.nil) | ((with_reducible apply s3); exact rfl; exact by_k) | ((with_reducible apply s2); exact rfl; exact by_k) | ((with_reducible apply s4); exact rfl) | ((with_reducible apply s5); (first | (focus ((with_reducible apply a_call); exact hf; exact rfl; (repeat (first | exact SubsE.nil | (apply SubsE.cons; exact rfl; (first | exact .d (.refl _) | exact .d (.nil _) | exact .agg rfl (.refl _) | exact .pd | exact .ptr rfl); (first | exact trivial | exact ⟨rfl, trivial⟩)))); done)) | exact by_oa); exact by_g) | ((with_reducible apply CW.cond_t); exact rfl; exact by_ks) | ((with_reducible apply CW.cond_f); exact rfl; exact by_ks) | ((with_reducible apply q_block_miss); exact rfl) | (refine And.intro (show chk [] [] _ _ = true by kernel_rfl) ?_))
    exact .two (.tmp rfl (.one (.d (.refl _)))) (.tmp rfl (.one (.d (.refl _))))
  | false =>
    rw [hb] at hf
    rw [get_none hm hb hs]
    repeat (first | ((with_reducible apply s1); exact rfl) | (with_reducible first | apply CW.seq | apply CW.block | apply CW.region | apply CW.draw | apply CW.skip | apply CW.exit | apply CW.ret | apply q_then | apply q_then_exit | apply q_then_ret | apply q_block | apply q_block_ret | apply q_block_hit | apply q_ret | apply q_end | apply q_loop_exit | apply q_loop_ret | apply q_loopT_exit | apply q_loopT_ret | apply RW.nil) | ((with_reducible apply s3); exact rfl; exact by_k) | ((with_reducible apply s2); exact rfl; exact by_k) | ((with_reducible apply s4); exact rfl) | ((with_reducible apply s5); (first | (focus ((with_reducible apply a_call); exact hf; exact rfl; (repeat (first | exact SubsE.nil | (apply SubsE.cons; exact rfl; (first | exact .d (.refl _) | exact .d (.nil _) | exact .agg rfl (.refl _) | exact .pd | exact .ptr rfl); (first | exact trivial | exact ⟨rfl, trivial⟩)))); done)) | exact by_oa); exact by_g) | ((with_reducible apply CW.cond_t); exact rfl; exact by_ks) | ((with_reducible apply CW.cond_f); exact rfl; exact by_ks) | ((with_reducible apply q_block_miss); exact rfl) | (refine And.intro (show chk [] [] _ _ = true by kernel_rfl) ?_))
    exact .two (.tmp rfl (.one (.d (.refl _)))) (.tmp rfl (.one (.d (.refl _))))

theorem ok_pput (l : List Pair) (k : Str) (n : Int) (hl : l.length ≤ 268435456) (hs : Srt Pair.key l) : FnOk Tryd.prog 19 [.d (encRows l), .d (dstr k), .d (dint n)] (.one (encRows (putS k n l))) := by
  refine fnOk_of tbl_ok mixed_ok Tryd.func19 rfl (by kernel_rfl) rfl rfl fun w0 own0 => ?_
  obtain ⟨m, hm⟩ := hs.at k
  have hml := hm.le
  have hf := ok_rfind l k m hl hm
  have hn := new_clone_pair (l.map Pair.enc) (by simp; omega)
  cases hb : isAtR l k m with
  | true =>
    obtain ⟨c, hc, hck⟩ := atr_some hb
    have hmlt := (List.getElem?_eq_some_iff.1 hc).1
    rw [hb] at hf
    rw [putS_found hm hc hck]
    repeat (first | ((with_reducible apply s1); exact rfl) | (with_reducible first | apply CW.seq | apply CW.block | apply CW.region | apply CW.draw | apply CW.skip | apply CW.exit | apply CW.ret | apply q_then | apply q_then_exit | apply q_then_ret | apply q_block | apply q_block_ret | apply q_block_hit | apply q_ret | apply q_end | apply q_loop_exit | apply q_loop_ret | apply q_loopT_exit | apply q_loopT_ret | apply RW.nil) | ((with_reducible apply s3); exact rfl; exact by_k) | ((with_reducible apply s2); exact rfl; exact by_k) | ((with_reducible apply s4); exact rfl) | ((with_reducible apply s5); (first | (focus ((with_reducible apply a_call); exact hf; exact rfl; (repeat (first | exact SubsE.nil | (apply SubsE.cons; exact rfl; (first | exact .d (.refl _) | exact .d (.nil _) | exact .agg rfl (.refl _) | exact .pd | exact .ptr rfl); (first | exact trivial | exact ⟨rfl, trivial⟩)))); done)) | (focus ((with_reducible apply a_callnew); exact hn; (iterate 2 exact rfl); (repeat (first | exact SubsE.nil | (apply SubsE.cons; exact rfl; (first | exact .d (.refl _) | exact .d (.nil _) | exact .agg rfl (.refl _) | exact .pd | exact .ptr rfl); (first | exact trivial | exact ⟨rfl, trivial⟩)))); done)) | exact by_oa); exact by_g) | ((with_reducible apply CW.cond_t); exact rfl; exact by_ks) | ((with_reducible apply CW.cond_f); exact rfl; exact by_ks) | ((with_reducible apply q_block_miss); exact rfl) | (refine And.intro (show chk [] [] _ _ = true by kernel_rfl) ?_))
    refine .one (.tmp rfl (.one (.own rfl (by simp) (dle_eq ?_))))
    show D.sl 2 _ = D.sl 2 _
    congr 1
    rw [List.map_set]
    congr 1
  | false =>
    rw [hb] at hf
    rw [putS_new hm hb]
    have hi := upd_insertP (l.map Pair.enc) m (dstr k) (dint n) (by simp; omega) (by simp; omega)
    repeat (first | ((with_reducible apply s1); exact rfl) | (with_reducible first | apply CW.seq | apply CW.block | apply CW.region | apply CW.draw | apply CW.skip | apply CW.exit | apply CW.ret | apply q_then | apply q_then_exit | apply q_then_ret | apply q_block | apply q_block_ret | apply q_block_hit | apply q_ret | apply q_end | apply q_loop_exit | apply q_loop_ret | apply q_loopT_exit | apply q_loopT_ret | apply RW.nil) | ((with_reducible apply s3); exact rfl; exact by_k) | ((with_reducible apply s2); exact rfl; exact by_k) | ((with_reducible apply s4); exact rfl) | ((with_reducible apply s5); (first | (focus ((with_reducible apply a_call); exact hf; exact rfl; (repeat (first | exact SubsE.nil | (apply SubsE.cons; exact rfl; (first | exact .d (.refl _) | exact .d (.nil _) | exact .agg rfl (.refl _) | exact .pd | exact .ptr rfl); (first | exact trivial | exact ⟨rfl, trivial⟩)))); done)) | (focus ((with_reducible apply a_callnew); exact hn; (iterate 2 exact rfl); (repeat (first | exact SubsE.nil | (apply SubsE.cons; exact rfl; (first | exact .d (.refl _) | exact .d (.nil _) | exact .agg rfl (.refl _) | exact .pd | exact .ptr rfl); (first | exact trivial | exact ⟨rfl, trivial⟩)))); done)) | (focus ((with_reducible apply a_upd); exact hi; (iterate 3 exact rfl); (focus first | exact rfl | (simp; done) | (simp; omega)); exact rfl; (repeat (first | exact SubsE.nil | (apply SubsE.cons; exact rfl; (first | exact .d (.refl _) | exact .d (.nil _) | exact .agg rfl (.refl _) | exact .pd | exact .ptr rfl); (first | exact trivial | exact ⟨rfl, trivial⟩)))); done)) | exact by_oa); exact by_g) | ((with_reducible apply CW.cond_t); exact rfl; exact by_ks) | ((with_reducible apply CW.cond_f); exact rfl; exact by_ks) | ((with_reducible apply q_block_miss); exact rfl) | (refine And.intro (show chk [] [] _ _ = true by kernel_rfl) ?_))
    refine .one (.tmp rfl (.one (.own rfl (by simp) (dle_eq ?_))))
    show D.sl 2 _ = D.sl 2 _
    congr 1
    simp [Pair.enc]

theorem ok_pdrop (l : List Pair) (k : Str) (hl : l.length ≤ 268435456) (hs : Srt Pair.key l) : FnOk Tryd.prog 20 [.d (encRows l), .d (dstr k)] (.one (encRows (dropS k l))) := by
  refine fnOk_of tbl_ok mixed_ok Tryd.func20 rfl (by kernel_rfl) rfl rfl fun w0 own0 => ?_
  obtain ⟨m, hm⟩ := hs.at k
  have hml := hm.le
  have hf := ok_rfind l k m hl hm
  have hn := new_clone_pair (l.map Pair.enc) (by simp; omega)
  cases hb : isAtR l k m with
  | true =>
    obtain ⟨c, hc, hck⟩ := atr_some hb
    have hmlt := (List.getElem?_eq_some_iff.1 hc).1
    rw [hb] at hf
    rw [dropS_found hm hc hck]
    have hd := upd_delete (l.map Pair.enc) m (by simpa using hmlt) (by simp; omega)
    repeat (first | ((with_reducible apply s1); exact rfl) | (with_reducible first | apply CW.seq | apply CW.block | apply CW.region | apply CW.draw | apply CW.skip | apply CW.exit | apply CW.ret | apply q_then | apply q_then_exit | apply q_then_ret | apply q_block | apply q_block_ret | apply q_block_hit | apply q_ret | apply q_end | apply q_loop_exit | apply q_loop_ret | apply q_loopT_exit | apply q_loopT_ret | apply RW.nil) | ((with_reducible apply s3); exact rfl; exact by_k) | ((with_reducible apply s2); exact rfl; exact by_k) | ((with_reducible apply s4); exact rfl) | ((with_reducible apply s5); (first | (focus ((with_reducible apply a_call); exact hf; exact rfl; (repeat (first | exact SubsE.nil | (apply SubsE.cons; exact rfl; (first | exact .d (.refl _) | exact .d (.nil _) | exact .agg rfl (.refl _) | exact .pd | exact .ptr rfl); (first | exact trivial | exact ⟨rfl, trivial⟩)))); done)) | (focus ((with_reducible apply a_callnew); exact hn; (iterate 2 exact rfl); (repeat (first | exact SubsE.nil | (apply SubsE.cons; exact rfl; (first | exact .d (.refl _) | exact .d (.nil _) | exact .agg rfl (.refl _) | exact .pd | exact .ptr rfl); (first | exact trivial | exact ⟨rfl, trivial⟩)))); done)) | (focus ((with_reducible apply a_upd); exact hd; (iterate 3 exact rfl); (focus first | exact rfl | (simp; done) | (simp; omega)); exact rfl; (repeat (first | exact SubsE.nil | (apply SubsE.cons; exact rfl; (first | exact .d (.refl _) | exact .d (.nil _) | exact .agg rfl (.refl _) | exact .pd | exact .ptr rfl); (first | exact trivial | exact ⟨rfl, trivial⟩)))); done)) | exact by_oa); exact by_g) | ((with_reducible apply CW.cond_t); exact rfl; exact by_ks) | ((with_reducible apply CW.cond_f); exact rfl; exact by_ks) | ((with_reducible apply q_block_miss); exact rfl) | (refine And.intro (show chk [] [] _ _ = true by kernel_rfl) ?_))
    refine .one (.tmp rfl (.one (.own rfl (by simp) (dle_eq ?_))))
    show D.sl 2 _ = D.sl 2 _
    congr 1
    simp
  | false =>
    rw [hb] at hf
    rw [dropS_at hm hb hs]
    repeat (first | ((with_reducible apply s1); exact rfl) | (with_reducible first | apply CW.seq | apply CW.block | apply CW.region | apply CW.draw | apply CW.skip | apply CW.exit | apply CW.ret | apply q_then | apply q_then_exit | apply q_then_ret | apply q_block | apply q_block_ret | apply q_block_hit | apply q_ret | apply q_end | apply q_loop_exit | apply q_loop_ret | apply q_loopT_exit | apply q_loopT_ret | apply RW.nil) | ((with_reducible apply s3); exact rfl; exact by_k) | ((with_reducible apply s2); exact rfl; exact by_k) | ((with_reducible apply s4); exact rfl) | ((with_reducible apply s5); (first | (focus ((with_reducible apply a_call); exact hf; exact rfl; (repeat (first | exact SubsE.nil | (apply SubsE.cons; exact rfl; (first | exact .d (.refl _) | exact .d (.nil _) | exact .agg rfl (.refl _) | exact .pd | exact .ptr rfl); (first | exact trivial | exact ⟨rfl, trivial⟩)))); done)) | (focus ((with_reducible apply a_callnew); exact hn; (iterate 2 exact rfl); (repeat (first | exact SubsE.nil | (apply SubsE.cons; exact rfl; (first | exact .d (.refl _) | exact .d (.nil _) | exact .agg rfl (.refl _) | exact .pd | exact .ptr rfl); (first | exact trivial | exact ⟨rfl, trivial⟩)))); done)) | exact by_oa); exact by_g) | ((with_reducible apply CW.cond_t); exact rfl; exact by_ks) | ((with_reducible apply CW.cond_f); exact rfl; exact by_ks) | ((with_reducible apply q_block_miss); exact rfl) | (refine And.intro (show chk [] [] _ _ = true by kernel_rfl) ?_))
    exact .one (.tmp rfl (.one (.own rfl (by simp) (.refl _))))

end Go.Proofs.YtgiaplfdpncglaaDoor
