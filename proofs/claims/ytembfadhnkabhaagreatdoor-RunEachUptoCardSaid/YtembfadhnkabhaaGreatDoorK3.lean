/-
  Part 3 of what the claim leans on: F5 F8 F14 F13 F17 F18 F15 F3 F16 F19 F20 F21 AxPin AxPin2 AxPin3 G1 G3.
-/
import Derived.Test.YtembfadhnkabhaaGreatDoorK2

/-! F5 -/
/-
  Contract of the references' WrongDeed.
-/
namespace Go.Proofs.YtembfadhnkabhaaGreatDoor
open Go.AX Go.RF

set_option maxRecDepth 100000
set_option maxHeartbeats 4000000

theorem ls_first {l : List Str} {r : List (List Str)} {v : Int} (h : lsGo (l :: r) = v) : (keysWrong l = 0 ∧ lsGo r = v) ∨ (keysWrong l ≠ 0 ∧ keysWrong l = v) := by
  simp only [lsGo] at h
  split at h
  · next h0 => exact .inl ⟨h0, h⟩
  · next h0 => exact .inr ⟨h0, h⟩

theorem ok_wrongDeed (d : Deed) (hr : d.reads.length ≤ 268435456) (hw : d.writes.length ≤ 268435456) (hc : d.code.length ≤ 268435456)
    (hrk : ∀ s ∈ d.reads, s.length ≤ 1073741824) (hwk : ∀ s ∈ d.writes, s.length ≤ 1073741824) : FnOk Tryz.prog 29 [.d (.agg d.enc)] (.one (dint (wrongDeed d))) := by
  refine fnOk_of tbl_ok mixed_ok Tryz.func29 rfl (by kernel_rfl) rfl rfl fun w0 own0 => ?_
  repeat (first | ((with_reducible apply s5); ((with_reducible apply a_bs ([d.reads, d.writes].map fun l => [encStrs l])); (iterate 9 exact rfl); (repeat (first | exact PartsE.nil | (apply PartsE.cons; exact rfl; exact rfl)))); exact by_g) | ((with_reducible apply s1); exact rfl) | (with_reducible first | apply CW.seq | apply CW.block | apply CW.region | apply CW.draw | apply CW.skip | apply CW.exit | apply CW.ret | apply q_then | apply q_then_exit | apply q_then_ret | apply q_block | apply q_block_ret | apply q_block_hit | apply q_ret | apply q_end | apply q_loop_exit | apply q_loop_ret | apply q_loopT_exit | apply q_loopT_ret | apply RW.nil) | ((with_reducible apply s3); exact rfl; exact by_k) | ((with_reducible apply s2); exact rfl; exact by_k) | ((with_reducible apply s4); exact rfl) | ((with_reducible apply s5); (first | exact by_oa); exact by_g) | ((with_reducible apply CW.cond_t); exact rfl; exact by_ks) | ((with_reducible apply CW.cond_f); exact rfl; exact by_ks) | ((with_reducible apply q_block_miss); exact rfl) | (refine And.intro (show chk [] [] _ _ = true by kernel_rfl) ?_))
  refine CW.loopT (fun j : Nat => [(.s 1, .av (.ptr 0 0)), (.o 0, .ob (.box (d.enc.map AV.d))), (.s 18, .av (.d (.sl 1 ([d.reads, d.writes].map fun l => [encStrs l])))), (.s 19, .av (.d (dint 2))), (.s 20, .av (.d (dint j))), (.nx, .num 1)])
    (fun j => j ≤ [d.reads, d.writes].length ∧ lsGo ([d.reads, d.writes].drop j) = lsGo [d.reads, d.writes]) (fun j => 2 - j) 0 ⟨by simp, rfl⟩ ?_ ?_
  ·
    exact by_less
  · rintro j ⟨hj, hI⟩
    have hj2 : j ≤ 2 := hj
    rcases drop_case hj with ⟨h1, h2⟩ | ⟨l, h1, h2, h3⟩
    · have h2' : j = 2 := h2
      rw [h1] at hI
      have hI' : lsGo [d.reads, d.writes] = 0 := hI.symm
      by_cases h4 : 12 < d.code.length
      ·
        repeat (first | ((with_reducible apply s1); exact rfl) | (with_reducible first | apply CW.seq | apply CW.block | apply CW.region | apply CW.draw | apply CW.skip | apply CW.exit | apply CW.ret | apply q_then | apply q_then_exit | apply q_then_ret | apply q_block | apply q_block_ret | apply q_block_hit | apply q_ret | apply q_end | apply q_loop_exit | apply q_loop_ret | apply q_loopT_exit | apply q_loopT_ret | apply RW.nil) | ((with_reducible apply s3); exact rfl; exact by_k) | ((with_reducible apply s2); exact rfl; exact by_k) | ((with_reducible apply s4); exact rfl) | ((with_reducible apply s5); (first | exact by_oa); exact by_g) | ((with_reducible apply CW.cond_t); exact rfl; exact by_ks) | ((with_reducible apply CW.cond_f); exact rfl; exact by_ks) | ((with_reducible apply q_block_miss); exact rfl) | (refine And.intro (show chk [] [] _ _ = true by kernel_rfl) ?_))
        exact .one (.tmp rfl (.one (.d (dle_int (by simp [wrongDeed, hI', h4])))))
      ·
        repeat (first | ((with_reducible apply s1); exact rfl) | (with_reducible first | apply CW.seq | apply CW.block | apply CW.region | apply CW.draw | apply CW.skip | apply CW.exit | apply CW.ret | apply q_then | apply q_then_exit | apply q_then_ret | apply q_block | apply q_block_ret | apply q_block_hit | apply q_ret | apply q_end | apply q_loop_exit | apply q_loop_ret | apply q_loopT_exit | apply q_loopT_ret | apply RW.nil) | ((with_reducible apply s3); exact rfl; exact by_k) | ((with_reducible apply s2); exact rfl; exact by_k) | ((with_reducible apply s4); exact rfl) | ((with_reducible apply s5); (first | exact by_oa); exact by_g) | ((with_reducible apply CW.cond_t); exact rfl; exact by_ks) | ((with_reducible apply CW.cond_f); exact rfl; exact by_ks) | ((with_reducible apply q_block_miss); exact rfl) | (refine And.intro (show chk [] [] _ _ = true by kernel_rfl) ?_))
        refine CW.loopT (fun k : Nat => [(.s 1, .av (.ptr 0 0)), (.o 0, .ob (.box (d.enc.map AV.d))), (.s 51, .av (.d (encCode d.code))), (.s 52, .av (.d (dint d.code.length))), (.s 53, .av (.d (dint k))), (.nx, .num 1)])
          (fun k => k ≤ d.code.length ∧ codeGo d k (d.code.drop k) = codeGo d 0 d.code) (fun k => d.code.length - k) 0 ⟨by omega, rfl⟩ ?_ ?_
        ·
          exact by_less
        · rintro k ⟨hk, hC⟩
          rcases drop_case hk with ⟨h5, h6⟩ | ⟨i, h5, h6, h7⟩
          · rw [h5] at hC
            simp only [codeGo] at hC
            repeat (first | ((with_reducible apply s1); exact rfl) | (with_reducible first | apply CW.seq | apply CW.block | apply CW.region | apply CW.draw | apply CW.skip | apply CW.exit | apply CW.ret | apply q_then | apply q_then_exit | apply q_then_ret | apply q_block | apply q_block_ret | apply q_block_hit | apply q_ret | apply q_end | apply q_loop_exit | apply q_loop_ret | apply q_loopT_exit | apply q_loopT_ret | apply RW.nil) | ((with_reducible apply s3); exact rfl; exact by_k) | ((with_reducible apply s2); exact rfl; exact by_k) | ((with_reducible apply s4); exact rfl) | ((with_reducible apply s5); (first | exact by_oa); exact by_g) | ((with_reducible apply CW.cond_t); exact rfl; exact by_ks) | ((with_reducible apply CW.cond_f); exact rfl; exact by_ks) | ((with_reducible apply q_block_miss); exact rfl) | (refine And.intro (show chk [] [] _ _ = true by kernel_rfl) ?_))
            exact .one (.tmp rfl (.one (.d (dle_int (by rw [wrongDeed, if_pos hI', if_neg h4, hC])))))
          · rw [h5] at hC
            have hbad : wrongIns d ((d.code.length : Int) - 1 - k) i ≠ 0 → wrongIns d ((d.code.length : Int) - 1 - k) i = wrongDeed d := fun h0 => by
              rw [codeGo, if_neg h0] at hC
              rw [wrongDeed, if_pos hI', if_neg h4, hC]
            have hgood : wrongIns d ((d.code.length : Int) - 1 - k) i = 0 → codeGo d (k + 1) (d.code.drop (k + 1)) = codeGo d 0 d.code := fun h0 => by
              rw [codeGo, if_pos h0] at hC
              exact hC
            clear hC h5
            obtain ⟨kd0, ia, ib, n, key⟩ := i
            by_cases hk1 : kd0 < 1
            ·
              repeat (first | ((with_reducible apply s1); exact rfl) | (with_reducible first | apply CW.seq | apply CW.block | apply CW.region | apply CW.draw | apply CW.skip | apply CW.exit | apply CW.ret | apply q_then | apply q_then_exit | apply q_then_ret | apply q_block | apply q_block_ret | apply q_block_hit | apply q_ret | apply q_end | apply q_loop_exit | apply q_loop_ret | apply q_loopT_exit | apply q_loopT_ret | apply RW.nil) | ((with_reducible apply s3); exact rfl; exact by_k) | ((with_reducible apply s2); exact rfl; exact by_k) | ((with_reducible apply s4); exact rfl) | ((with_reducible apply s5); (first | exact by_oa); exact by_g) | ((with_reducible apply CW.cond_t); exact rfl; exact by_ks) | ((with_reducible apply CW.cond_f); exact rfl; exact by_ks) | ((with_reducible apply q_block_miss); exact rfl) | (refine And.intro (show chk [] [] _ _ = true by kernel_rfl) ?_))
              have h0 : wrongIns d ((d.code.length : Int) - 1 - k) ⟨kd0, ia, ib, n, key⟩ = 1 := by simp [wrongIns, hk1]
              exact .one (.tmp rfl (.one (.d (dle_int (by rw [← hbad (by rw [h0]; decide), h0])))))
            · by_cases hk9 : 9 < kd0
              ·
                repeat (first | ((with_reducible apply s1); exact rfl) | (with_reducible first | apply CW.seq | apply CW.block | apply CW.region | apply CW.draw | apply CW.skip | apply CW.exit | apply CW.ret | apply q_then | apply q_then_exit | apply q_then_ret | apply q_block | apply q_block_ret | apply q_block_hit | apply q_ret | apply q_end | apply q_loop_exit | apply q_loop_ret | apply q_loopT_exit | apply q_loopT_ret | apply RW.nil) | ((with_reducible apply s3); exact rfl; exact by_k) | ((with_reducible apply s2); exact rfl; exact by_k) | ((with_reducible apply s4); exact rfl) | ((with_reducible apply s5); (first | exact by_oa); exact by_g) | ((with_reducible apply CW.cond_t); exact rfl; exact by_ks) | ((with_reducible apply CW.cond_f); exact rfl; exact by_ks) | ((with_reducible apply q_block_miss); exact rfl) | (refine And.intro (show chk [] [] _ _ = true by kernel_rfl) ?_))
                have h0 : wrongIns d ((d.code.length : Int) - 1 - k) ⟨kd0, ia, ib, n, key⟩ = 1 := by simp [wrongIns, hk9]
                exact .one (.tmp rfl (.one (.d (dle_int (by rw [← hbad (by rw [h0]; decide), h0])))))
              · obtain ⟨kd, rfl⟩ := Int.eq_ofNat_of_zero_le (show 0 ≤ kd0 by omega)
                have hkd : kd < 10 := by omega
                have hcA := ok_has kd 114 hkd
                have hcB := ok_has kd 115 hkd
                have hcK := ok_has kd 107 hkd
                repeat (first | ((with_reducible apply stop_at 21); exact rfl) | ((with_reducible apply s1); exact rfl) | (with_reducible first | apply CW.seq | apply CW.block | apply CW.region | apply CW.draw | apply CW.skip | apply CW.exit | apply CW.ret | apply q_then | apply q_then_exit | apply q_then_ret | apply q_block | apply q_block_ret | apply q_block_hit | apply q_ret | apply q_end | apply q_loop_exit | apply q_loop_ret | apply q_loopT_exit | apply q_loopT_ret | apply RW.nil) | ((with_reducible apply s3); exact rfl; exact by_k) | ((with_reducible apply s2); exact rfl; exact by_k) | ((with_reducible apply s4); exact rfl) | ((with_reducible apply s5); (first | exact by_oa); exact by_g) | ((with_reducible apply CW.cond_t); exact rfl; exact by_ks) | ((with_reducible apply CW.cond_f); exact rfl; exact by_ks) | ((with_reducible apply q_block_miss); exact rfl) | (refine And.intro (show chk [] [] _ _ = true by kernel_rfl) ?_))
                refine Stop.cutk [(.s 9, .av (.d (dint (insA kd))))] [.s 1, .s 51, .s 52, .s 53, .s 7, .s 8, .s 10, .s 11, .s 12, .o 0, .o 1, .nx] ?_ ?_
                · unfold insA
                  cases hA : has kd 114
                  ·
                    repeat (first | ((with_reducible apply s1); exact rfl) | (with_reducible first | apply CW.seq | apply CW.block | apply CW.region | apply CW.draw | apply CW.skip | apply CW.exit | apply CW.ret | apply q_then | apply q_then_exit | apply q_then_ret | apply q_block | apply q_block_ret | apply q_block_hit | apply q_ret | apply q_end | apply q_loop_exit | apply q_loop_ret | apply q_loopT_exit | apply q_loopT_ret | apply RW.nil) | ((with_reducible apply s3); exact rfl; exact by_k) | ((with_reducible apply s2); exact rfl; exact by_k) | ((with_reducible apply s4); exact rfl) | ((with_reducible apply s5); (first | (focus ((with_reducible apply a_call); exact hcA; exact rfl; (repeat (first | exact SubsE.nil | (apply SubsE.cons; exact rfl; (first | exact .d (.refl _) | exact .d (.nil _) | exact .agg rfl (.refl _) | exact .pd | exact .ptr rfl); (first | exact trivial | exact ⟨rfl, trivial⟩)))); done)) | exact by_oa); exact by_g) | ((with_reducible apply CW.cond_t); exact rfl; exact by_ks) | ((with_reducible apply CW.cond_f); exact rfl; exact by_ks) | ((with_reducible apply q_block_miss); exact rfl) | (refine And.intro (show chk [] [] _ _ = true by kernel_rfl) ?_))
                    refine q_cut ?_
                    exact by_less
                  ·
                    repeat (first | ((with_reducible apply s1); exact rfl) | (with_reducible first | apply CW.seq | apply CW.block | apply CW.region | apply CW.draw | apply CW.skip | apply CW.exit | apply CW.ret | apply q_then | apply q_then_exit | apply q_then_ret | apply q_block | apply q_block_ret | apply q_block_hit | apply q_ret | apply q_end | apply q_loop_exit | apply q_loop_ret | apply q_loopT_exit | apply q_loopT_ret | apply RW.nil) | ((with_reducible apply s3); exact rfl; exact by_k) | ((with_reducible apply s2); exact rfl; exact by_k) | ((with_reducible apply s4); exact rfl) | ((with_reducible apply s5); (first | (focus ((with_reducible apply a_call); exact hcA; exact rfl; (repeat (first | exact SubsE.nil | (apply SubsE.cons; exact rfl; (first | exact .d (.refl _) | exact .d (.nil _) | exact .agg rfl (.refl _) | exact .pd | exact .ptr rfl); (first | exact trivial | exact ⟨rfl, trivial⟩)))); done)) | exact by_oa); exact by_g) | ((with_reducible apply CW.cond_t); exact rfl; exact by_ks) | ((with_reducible apply CW.cond_f); exact rfl; exact by_ks) | ((with_reducible apply q_block_miss); exact rfl) | (refine And.intro (show chk [] [] _ _ = true by kernel_rfl) ?_))
                    refine q_cut ?_
                    exact by_less
                repeat (first | ((with_reducible apply stop_at 23); exact rfl) | ((with_reducible apply s1); exact rfl) | (with_reducible first | apply CW.seq | apply CW.block | apply CW.region | apply CW.draw | apply CW.skip | apply CW.exit | apply CW.ret | apply q_then | apply q_then_exit | apply q_then_ret | apply q_block | apply q_block_ret | apply q_block_hit | apply q_ret | apply q_end | apply q_loop_exit | apply q_loop_ret | apply q_loopT_exit | apply q_loopT_ret | apply RW.nil) | ((with_reducible apply s3); exact rfl; exact by_k) | ((with_reducible apply s2); exact rfl; exact by_k) | ((with_reducible apply s4); exact rfl) | ((with_reducible apply s5); (first | exact by_oa); exact by_g) | ((with_reducible apply CW.cond_t); exact rfl; exact by_ks) | ((with_reducible apply CW.cond_f); exact rfl; exact by_ks) | ((with_reducible apply q_block_miss); exact rfl) | (refine And.intro (show chk [] [] _ _ = true by kernel_rfl) ?_))
                refine Stop.cutk [(.s 10, .av (.d (dint (insB kd))))] [.s 1, .s 51, .s 52, .s 53, .s 7, .s 8, .s 9, .s 11, .s 12, .o 0, .o 1, .nx] ?_ ?_
                · unfold insB
                  cases hA : has kd 115
                  ·
                    repeat (first | ((with_reducible apply s1); exact rfl) | (with_reducible first | apply CW.seq | apply CW.block | apply CW.region | apply CW.draw | apply CW.skip | apply CW.exit | apply CW.ret | apply q_then | apply q_then_exit | apply q_then_ret | apply q_block | apply q_block_ret | apply q_block_hit | apply q_ret | apply q_end | apply q_loop_exit | apply q_loop_ret | apply q_loopT_exit | apply q_loopT_ret | apply RW.nil) | ((with_reducible apply s3); exact rfl; exact by_k) | ((with_reducible apply s2); exact rfl; exact by_k) | ((with_reducible apply s4); exact rfl) | ((with_reducible apply s5); (first | (focus ((with_reducible apply a_call); exact hcB; exact rfl; (repeat (first | exact SubsE.nil | (apply SubsE.cons; exact rfl; (first | exact .d (.refl _) | exact .d (.nil _) | exact .agg rfl (.refl _) | exact .pd | exact .ptr rfl); (first | exact trivial | exact ⟨rfl, trivial⟩)))); done)) | exact by_oa); exact by_g) | ((with_reducible apply CW.cond_t); exact rfl; exact by_ks) | ((with_reducible apply CW.cond_f); exact rfl; exact by_ks) | ((with_reducible apply q_block_miss); exact rfl) | (refine And.intro (show chk [] [] _ _ = true by kernel_rfl) ?_))
                    refine q_cut ?_
                    exact by_less
                  ·
                    repeat (first | ((with_reducible apply s1); exact rfl) | (with_reducible first | apply CW.seq | apply CW.block | apply CW.region | apply CW.draw | apply CW.skip | apply CW.exit | apply CW.ret | apply q_then | apply q_then_exit | apply q_then_ret | apply q_block | apply q_block_ret | apply q_block_hit | apply q_ret | apply q_end | apply q_loop_exit | apply q_loop_ret | apply q_loopT_exit | apply q_loopT_ret | apply RW.nil) | ((with_reducible apply s3); exact rfl; exact by_k) | ((with_reducible apply s2); exact rfl; exact by_k) | ((with_reducible apply s4); exact rfl) | ((with_reducible apply s5); (first | (focus ((with_reducible apply a_call); exact hcB; exact rfl; (repeat (first | exact SubsE.nil | (apply SubsE.cons; exact rfl; (first | exact .d (.refl _) | exact .d (.nil _) | exact .agg rfl (.refl _) | exact .pd | exact .ptr rfl); (first | exact trivial | exact ⟨rfl, trivial⟩)))); done)) | exact by_oa); exact by_g) | ((with_reducible apply CW.cond_t); exact rfl; exact by_ks) | ((with_reducible apply CW.cond_f); exact rfl; exact by_ks) | ((with_reducible apply q_block_miss); exact rfl) | (refine And.intro (show chk [] [] _ _ = true by kernel_rfl) ?_))
                    refine q_cut ?_
                    exact by_less
                repeat (first | ((with_reducible apply stop_at 25); exact rfl) | ((with_reducible apply s1); exact rfl) | (with_reducible first | apply CW.seq | apply CW.block | apply CW.region | apply CW.draw | apply CW.skip | apply CW.exit | apply CW.ret | apply q_then | apply q_then_exit | apply q_then_ret | apply q_block | apply q_block_ret | apply q_block_hit | apply q_ret | apply q_end | apply q_loop_exit | apply q_loop_ret | apply q_loopT_exit | apply q_loopT_ret | apply RW.nil) | ((with_reducible apply s3); exact rfl; exact by_k) | ((with_reducible apply s2); exact rfl; exact by_k) | ((with_reducible apply s4); exact rfl) | ((with_reducible apply s5); (first | exact by_oa); exact by_g) | ((with_reducible apply CW.cond_t); exact rfl; exact by_ks) | ((with_reducible apply CW.cond_f); exact rfl; exact by_ks) | ((with_reducible apply q_block_miss); exact rfl) | (refine And.intro (show chk [] [] _ _ = true by kernel_rfl) ?_))
                refine Stop.cutk [(.s 11, .av (.d (dint (if kd = 2 then -1073741824 else 0)))), (.s 12, .av (.d (dint (if kd = 2 then 1073741824 else 0))))] [.s 1, .s 51, .s 52, .s 53, .s 7, .s 8, .s 9, .s 10, .o 0, .o 1, .nx] ?_ ?_
                · by_cases hA : kd = 2
                  · rw [if_pos hA, if_pos hA]
                    repeat (first | ((with_reducible apply s1); exact rfl) | (with_reducible first | apply CW.seq | apply CW.block | apply CW.region | apply CW.draw | apply CW.skip | apply CW.exit | apply CW.ret | apply q_then | apply q_then_exit | apply q_then_ret | apply q_block | apply q_block_ret | apply q_block_hit | apply q_ret | apply q_end | apply q_loop_exit | apply q_loop_ret | apply q_loopT_exit | apply q_loopT_ret | apply RW.nil) | ((with_reducible apply s3); exact rfl; exact by_k) | ((with_reducible apply s2); exact rfl; exact by_k) | ((with_reducible apply s4); exact rfl) | ((with_reducible apply s5); (first | exact by_oa); exact by_g) | ((with_reducible apply CW.cond_t); exact rfl; exact by_ks) | ((with_reducible apply CW.cond_f); exact rfl; exact by_ks) | ((with_reducible apply q_block_miss); exact rfl) | (refine And.intro (show chk [] [] _ _ = true by kernel_rfl) ?_))
                    refine q_cut ?_
                    exact by_less
                  · rw [if_neg hA, if_neg hA]
                    repeat (first | ((with_reducible apply s1); exact rfl) | (with_reducible first | apply CW.seq | apply CW.block | apply CW.region | apply CW.draw | apply CW.skip | apply CW.exit | apply CW.ret | apply q_then | apply q_then_exit | apply q_then_ret | apply q_block | apply q_block_ret | apply q_block_hit | apply q_ret | apply q_end | apply q_loop_exit | apply q_loop_ret | apply q_loopT_exit | apply q_loopT_ret | apply RW.nil) | ((with_reducible apply s3); exact rfl; exact by_k) | ((with_reducible apply s2); exact rfl; exact by_k) | ((with_reducible apply s4); exact rfl) | ((with_reducible apply s5); (first | exact by_oa); exact by_g) | ((with_reducible apply CW.cond_t); exact rfl; exact by_ks) | ((with_reducible apply CW.cond_f); exact rfl; exact by_ks) | ((with_reducible apply q_block_miss); exact rfl) | (refine And.intro (show chk [] [] _ _ = true by kernel_rfl) ?_))
                    refine q_cut ?_
                    exact by_less
                repeat (first | ((with_reducible apply stop_at 27); exact rfl) | ((with_reducible apply s1); exact rfl) | (with_reducible first | apply CW.seq | apply CW.block | apply CW.region | apply CW.draw | apply CW.skip | apply CW.exit | apply CW.ret | apply q_then | apply q_then_exit | apply q_then_ret | apply q_block | apply q_block_ret | apply q_block_hit | apply q_ret | apply q_end | apply q_loop_exit | apply q_loop_ret | apply q_loopT_exit | apply q_loopT_ret | apply RW.nil) | ((with_reducible apply s3); exact rfl; exact by_k) | ((with_reducible apply s2); exact rfl; exact by_k) | ((with_reducible apply s4); exact rfl) | ((with_reducible apply s5); (first | exact by_oa); exact by_g) | ((with_reducible apply CW.cond_t); exact rfl; exact by_ks) | ((with_reducible apply CW.cond_f); exact rfl; exact by_ks) | ((with_reducible apply q_block_miss); exact rfl) | (refine And.intro (show chk [] [] _ _ = true by kernel_rfl) ?_))
                refine Stop.cutk [(.s 11, .av (.d (dint (insLow kd)))), (.s 12, .av (.d (dint (insHigh kd ((d.code.length : Int) - 1 - k)))))] [.s 1, .s 51, .s 52, .s 53, .s 7, .s 8, .s 9, .s 10, .o 0, .o 1, .nx] ?_ ?_
                · by_cases hA : kd = 8
                  · have hB : ¬ kd = 2 := by omega
                    rw [insLow, insHigh, if_neg hB, if_neg hB, if_neg hB, if_neg hB, if_pos hA, if_pos hA]
                    repeat (first | ((with_reducible apply st_bin); exact rfl; exact rfl; (apply bin_sub; simp only [List.length_map]; omega); exact .none rfl; exact rfl) | ((with_reducible apply s1); exact rfl) | (with_reducible first | apply CW.seq | apply CW.block | apply CW.region | apply CW.draw | apply CW.skip | apply CW.exit | apply CW.ret | apply q_then | apply q_then_exit | apply q_then_ret | apply q_block | apply q_block_ret | apply q_block_hit | apply q_ret | apply q_end | apply q_loop_exit | apply q_loop_ret | apply q_loopT_exit | apply q_loopT_ret | apply RW.nil) | ((with_reducible apply s3); exact rfl; exact by_k) | ((with_reducible apply s2); exact rfl; exact by_k) | ((with_reducible apply s4); exact rfl) | ((with_reducible apply s5); (first | exact by_oa); exact by_g) | ((with_reducible apply CW.cond_t); exact rfl; exact by_ks) | ((with_reducible apply CW.cond_f); exact rfl; exact by_ks) | ((with_reducible apply q_block_miss); exact rfl) | (refine And.intro (show chk [] [] _ _ = true by kernel_rfl) ?_))
                    refine q_cut ?_
                    exact by_less
                  · rw [insLow, insHigh, if_neg hA, if_neg hA]
                    repeat (first | ((with_reducible apply s1); exact rfl) | (with_reducible first | apply CW.seq | apply CW.block | apply CW.region | apply CW.draw | apply CW.skip | apply CW.exit | apply CW.ret | apply q_then | apply q_then_exit | apply q_then_ret | apply q_block | apply q_block_ret | apply q_block_hit | apply q_ret | apply q_end | apply q_loop_exit | apply q_loop_ret | apply q_loopT_exit | apply q_loopT_ret | apply RW.nil) | ((with_reducible apply s3); exact rfl; exact by_k) | ((with_reducible apply s2); exact rfl; exact by_k) | ((with_reducible apply s4); exact rfl) | ((with_reducible apply s5); (first | exact by_oa); exact by_g) | ((with_reducible apply CW.cond_t); exact rfl; exact by_ks) | ((with_reducible apply CW.cond_f); exact rfl; exact by_ks) | ((with_reducible apply q_block_miss); exact rfl) | (refine And.intro (show chk [] [] _ _ = true by kernel_rfl) ?_))
                    refine q_cut ?_
                    exact by_less
                repeat (first | (with_reducible apply stop_reg 29) | ((with_reducible apply s1); exact rfl) | (with_reducible first | apply CW.seq | apply CW.block | apply CW.region | apply CW.draw | apply CW.skip | apply CW.exit | apply CW.ret | apply q_then | apply q_then_exit | apply q_then_ret | apply q_block | apply q_block_ret | apply q_block_hit | apply q_ret | apply q_end | apply q_loop_exit | apply q_loop_ret | apply q_loopT_exit | apply q_loopT_ret | apply RW.nil) | ((with_reducible apply s3); exact rfl; exact by_k) | ((with_reducible apply s2); exact rfl; exact by_k) | ((with_reducible apply s4); exact rfl) | ((with_reducible apply s5); (first | exact by_oa); exact by_g) | ((with_reducible apply CW.cond_t); exact rfl; exact by_ks) | ((with_reducible apply CW.cond_f); exact rfl; exact by_ks) | ((with_reducible apply q_block_miss); exact rfl) | (refine And.intro (show chk [] [] _ _ = true by kernel_rfl) ?_))
                refine Stop.cutk [(.s 115, .av (.d (dbool (insOut kd ia ib n ((d.code.length : Int) - 1 - k)))))] [.s 1, .s 51, .s 52, .s 53, .s 8, .o 0, .o 1, .nx] ?_ ?_
                · unfold insOut
                  by_cases c1 : ia < 0
                  · rw [decide_eq_true c1]
                    repeat (first | ((with_reducible apply s1); exact rfl) | (with_reducible first | apply CW.seq | apply CW.block | apply CW.region | apply CW.draw | apply CW.skip | apply CW.exit | apply CW.ret | apply q_then | apply q_then_exit | apply q_then_ret | apply q_block | apply q_block_ret | apply q_block_hit | apply q_ret | apply q_end | apply q_loop_exit | apply q_loop_ret | apply q_loopT_exit | apply q_loopT_ret | apply RW.nil) | ((with_reducible apply s3); exact rfl; exact by_k) | ((with_reducible apply s2); exact rfl; exact by_k) | ((with_reducible apply s4); exact rfl) | ((with_reducible apply s5); (first | exact by_oa); exact by_g) | ((with_reducible apply CW.cond_t); exact rfl; exact by_ks) | ((with_reducible apply CW.cond_f); exact rfl; exact by_ks) | ((with_reducible apply q_block_miss); exact rfl) | (refine And.intro (show chk [] [] _ _ = true by kernel_rfl) ?_))
                    refine q_cut ?_
                    exact by_less
                  rw [decide_eq_false c1, Bool.false_or]
                  by_cases c2 : insA kd < ia
                  · rw [decide_eq_true c2]
                    repeat (first | ((with_reducible apply s1); exact rfl) | (with_reducible first | apply CW.seq | apply CW.block | apply CW.region | apply CW.draw | apply CW.skip | apply CW.exit | apply CW.ret | apply q_then | apply q_then_exit | apply q_then_ret | apply q_block | apply q_block_ret | apply q_block_hit | apply q_ret | apply q_end | apply q_loop_exit | apply q_loop_ret | apply q_loopT_exit | apply q_loopT_ret | apply RW.nil) | ((with_reducible apply s3); exact rfl; exact by_k) | ((with_reducible apply s2); exact rfl; exact by_k) | ((with_reducible apply s4); exact rfl) | ((with_reducible apply s5); (first | exact by_oa); exact by_g) | ((with_reducible apply CW.cond_t); exact rfl; exact by_ks) | ((with_reducible apply CW.cond_f); exact rfl; exact by_ks) | ((with_reducible apply q_block_miss); exact rfl) | (refine And.intro (show chk [] [] _ _ = true by kernel_rfl) ?_))
                    refine q_cut ?_
                    exact by_less
                  rw [decide_eq_false c2, Bool.false_or]
                  by_cases c3 : ib < 0
                  · rw [decide_eq_true c3]
                    repeat (first | ((with_reducible apply s1); exact rfl) | (with_reducible first | apply CW.seq | apply CW.block | apply CW.region | apply CW.draw | apply CW.skip | apply CW.exit | apply CW.ret | apply q_then | apply q_then_exit | apply q_then_ret | apply q_block | apply q_block_ret | apply q_block_hit | apply q_ret | apply q_end | apply q_loop_exit | apply q_loop_ret | apply q_loopT_exit | apply q_loopT_ret | apply RW.nil) | ((with_reducible apply s3); exact rfl; exact by_k) | ((with_reducible apply s2); exact rfl; exact by_k) | ((with_reducible apply s4); exact rfl) | ((with_reducible apply s5); (first | exact by_oa); exact by_g) | ((with_reducible apply CW.cond_t); exact rfl; exact by_ks) | ((with_reducible apply CW.cond_f); exact rfl; exact by_ks) | ((with_reducible apply q_block_miss); exact rfl) | (refine And.intro (show chk [] [] _ _ = true by kernel_rfl) ?_))
                    refine q_cut ?_
                    exact by_less
                  rw [decide_eq_false c3, Bool.false_or]
                  by_cases c4 : insB kd < ib
                  · rw [decide_eq_true c4]
                    repeat (first | ((with_reducible apply s1); exact rfl) | (with_reducible first | apply CW.seq | apply CW.block | apply CW.region | apply CW.draw | apply CW.skip | apply CW.exit | apply CW.ret | apply q_then | apply q_then_exit | apply q_then_ret | apply q_block | apply q_block_ret | apply q_block_hit | apply q_ret | apply q_end | apply q_loop_exit | apply q_loop_ret | apply q_loopT_exit | apply q_loopT_ret | apply RW.nil) | ((with_reducible apply s3); exact rfl; exact by_k) | ((with_reducible apply s2); exact rfl; exact by_k) | ((with_reducible apply s4); exact rfl) | ((with_reducible apply s5); (first | exact by_oa); exact by_g) | ((with_reducible apply CW.cond_t); exact rfl; exact by_ks) | ((with_reducible apply CW.cond_f); exact rfl; exact by_ks) | ((with_reducible apply q_block_miss); exact rfl) | (refine And.intro (show chk [] [] _ _ = true by kernel_rfl) ?_))
                    refine q_cut ?_
                    exact by_less
                  rw [decide_eq_false c4, Bool.false_or]
                  by_cases c5 : n < insLow kd
                  · rw [decide_eq_true c5]
                    repeat (first | ((with_reducible apply s1); exact rfl) | (with_reducible first | apply CW.seq | apply CW.block | apply CW.region | apply CW.draw | apply CW.skip | apply CW.exit | apply CW.ret | apply q_then | apply q_then_exit | apply q_then_ret | apply q_block | apply q_block_ret | apply q_block_hit | apply q_ret | apply q_end | apply q_loop_exit | apply q_loop_ret | apply q_loopT_exit | apply q_loopT_ret | apply RW.nil) | ((with_reducible apply s3); exact rfl; exact by_k) | ((with_reducible apply s2); exact rfl; exact by_k) | ((with_reducible apply s4); exact rfl) | ((with_reducible apply s5); (first | exact by_oa); exact by_g) | ((with_reducible apply CW.cond_t); exact rfl; exact by_ks) | ((with_reducible apply CW.cond_f); exact rfl; exact by_ks) | ((with_reducible apply q_block_miss); exact rfl) | (refine And.intro (show chk [] [] _ _ = true by kernel_rfl) ?_))
                    refine q_cut ?_
                    exact by_less
                  rw [decide_eq_false c5, Bool.false_or]
                  repeat (first | ((with_reducible apply s1); exact rfl) | (with_reducible first | apply CW.seq | apply CW.block | apply CW.region | apply CW.draw | apply CW.skip | apply CW.exit | apply CW.ret | apply q_then | apply q_then_exit | apply q_then_ret | apply q_block | apply q_block_ret | apply q_block_hit | apply q_ret | apply q_end | apply q_loop_exit | apply q_loop_ret | apply q_loopT_exit | apply q_loopT_ret | apply RW.nil) | ((with_reducible apply s3); exact rfl; exact by_k) | ((with_reducible apply s2); exact rfl; exact by_k) | ((with_reducible apply s4); exact rfl) | ((with_reducible apply s5); (first | exact by_oa); exact by_g) | ((with_reducible apply CW.cond_t); exact rfl; exact by_ks) | ((with_reducible apply CW.cond_f); exact rfl; exact by_ks) | ((with_reducible apply q_block_miss); exact rfl) | (refine And.intro (show chk [] [] _ _ = true by kernel_rfl) ?_))
                  refine q_cut ?_
                  exact by_less
                have hw0 : wrongIns d ((d.code.length : Int) - 1 - k) ⟨kd, ia, ib, n, key⟩ = if insOut kd ia ib n ((d.code.length : Int) - 1 - k) = true then 3 else if has kd 107 = false then (if key = [] then 0 else 2)
                    else if isIn (if (kd : Int) = 1 then d.reads else d.writes) key = true then 0 else 9 := by
                  rw [wrongIns, if_neg (by show ¬ ((kd : Int) < 1 ∨ 9 < (kd : Int)); omega)]
                  rfl
                have hcr := ok_in d.reads key (by omega)
                have hcw := ok_in d.writes key (by omega)
                cases hO : insOut kd ia ib n ((d.code.length : Int) - 1 - k)
                · rw [if_neg (by simp [hO])] at hw0
                  cases hK : has kd 107
                  · rw [if_pos hK] at hw0
                    by_cases hkey : key = []
                    · rw [if_pos hkey] at hw0
                      repeat (first | ((with_reducible apply s1); exact rfl) | (with_reducible first | apply CW.seq | apply CW.block | apply CW.region | apply CW.draw | apply CW.skip | apply CW.exit | apply CW.ret | apply q_then | apply q_then_exit | apply q_then_ret | apply q_block | apply q_block_ret | apply q_block_hit | apply q_ret | apply q_end | apply q_loop_exit | apply q_loop_ret | apply q_loopT_exit | apply q_loopT_ret | apply RW.nil) | ((with_reducible apply s3); exact rfl; exact by_k) | ((with_reducible apply s2); exact rfl; exact by_k) | ((with_reducible apply s4); exact rfl) | ((with_reducible apply s5); (first | (focus ((with_reducible apply a_call); exact hcK; exact rfl; (repeat (first | exact SubsE.nil | (apply SubsE.cons; exact rfl; (first | exact .d (.refl _) | exact .d (.nil _) | exact .agg rfl (.refl _) | exact .pd | exact .ptr rfl); (first | exact trivial | exact ⟨rfl, trivial⟩)))); done)) | exact by_oa); exact by_g) | ((with_reducible apply CW.cond_t); exact rfl; exact by_ks) | ((with_reducible apply CW.cond_f); exact rfl; exact by_ks) | ((with_reducible apply q_block_miss); exact rfl) | (refine And.intro (show chk [] [] _ _ = true by kernel_rfl) ?_))
                      refine q_loopT (k + 1) ⟨by omega, hgood hw0⟩ (by omega) ?_
                      exact by_less
                    · rw [if_neg hkey] at hw0
                      repeat (first | ((with_reducible apply s1); exact rfl) | (with_reducible first | apply CW.seq | apply CW.block | apply CW.region | apply CW.draw | apply CW.skip | apply CW.exit | apply CW.ret | apply q_then | apply q_then_exit | apply q_then_ret | apply q_block | apply q_block_ret | apply q_block_hit | apply q_ret | apply q_end | apply q_loop_exit | apply q_loop_ret | apply q_loopT_exit | apply q_loopT_ret | apply RW.nil) | ((with_reducible apply s3); exact rfl; exact by_k) | ((with_reducible apply s2); exact rfl; exact by_k) | ((with_reducible apply s4); exact rfl) | ((with_reducible apply s5); (first | (focus ((with_reducible apply a_call); exact hcK; exact rfl; (repeat (first | exact SubsE.nil | (apply SubsE.cons; exact rfl; (first | exact .d (.refl _) | exact .d (.nil _) | exact .agg rfl (.refl _) | exact .pd | exact .ptr rfl); (first | exact trivial | exact ⟨rfl, trivial⟩)))); done)) | exact by_oa); exact by_g) | ((with_reducible apply CW.cond_t); exact rfl; exact by_ks) | ((with_reducible apply CW.cond_f); exact rfl; exact by_ks) | ((with_reducible apply q_block_miss); exact rfl) | (refine And.intro (show chk [] [] _ _ = true by kernel_rfl) ?_))
                      exact .one (.tmp rfl (.one (.d (dle_int (by rw [← hbad (by rw [hw0]; decide), hw0])))))
                  · rw [if_neg (by simp [hK])] at hw0
                    by_cases hk1' : (kd : Int) = 1
                    · rw [if_pos hk1'] at hw0
                      cases hin : isIn d.reads key
                      · rw [if_neg (by simp [hin])] at hw0
                        repeat (first | ((with_reducible apply s1); exact rfl) | (with_reducible first | apply CW.seq | apply CW.block | apply CW.region | apply CW.draw | apply CW.skip | apply CW.exit | apply CW.ret | apply q_then | apply q_then_exit | apply q_then_ret | apply q_block | apply q_block_ret | apply q_block_hit | apply q_ret | apply q_end | apply q_loop_exit | apply q_loop_ret | apply q_loopT_exit | apply q_loopT_ret | apply RW.nil) | ((with_reducible apply s3); exact rfl; exact by_k) | ((with_reducible apply s2); exact rfl; exact by_k) | ((with_reducible apply s4); exact rfl) | ((with_reducible apply s5); (first | (focus ((with_reducible apply a_call); exact hcK; exact rfl; (repeat (first | exact SubsE.nil | (apply SubsE.cons; exact rfl; (first | exact .d (.refl _) | exact .d (.nil _) | exact .agg rfl (.refl _) | exact .pd | exact .ptr rfl); (first | exact trivial | exact ⟨rfl, trivial⟩)))); done)) | (focus ((with_reducible apply a_call); exact hcr; exact rfl; (repeat (first | exact SubsE.nil | (apply SubsE.cons; exact rfl; (first | exact .d (.refl _) | exact .d (.nil _) | exact .agg rfl (.refl _) | exact .pd | exact .ptr rfl); (first | exact trivial | exact ⟨rfl, trivial⟩)))); done)) | exact by_oa); exact by_g) | ((with_reducible apply CW.cond_t); exact rfl; exact by_ks) | ((with_reducible apply CW.cond_f); exact rfl; exact by_ks) | ((with_reducible apply q_block_miss); exact rfl) | (refine And.intro (show chk [] [] _ _ = true by kernel_rfl) ?_))
                        exact .one (.tmp rfl (.one (.d (dle_int (by rw [← hbad (by rw [hw0]; decide), hw0])))))
                      · rw [if_pos hin] at hw0
                        repeat (first | ((with_reducible apply s1); exact rfl) | (with_reducible first | apply CW.seq | apply CW.block | apply CW.region | apply CW.draw | apply CW.skip | apply CW.exit | apply CW.ret | apply q_then | apply q_then_exit | apply q_then_ret | apply q_block | apply q_block_ret | apply q_block_hit | apply q_ret | apply q_end | apply q_loop_exit | apply q_loop_ret | apply q_loopT_exit | apply q_loopT_ret | apply RW.nil) | ((with_reducible apply s3); exact rfl; exact by_k) | ((with_reducible apply s2); exact rfl; exact by_k) | ((with_reducible apply s4); exact rfl) | ((with_reducible apply s5); (first | (focus ((with_reducible apply a_call); exact hcK; exact rfl; (repeat (first | exact SubsE.nil | (apply SubsE.cons; exact rfl; (first | exact .d (.refl _) | exact .d (.nil _) | exact .agg rfl (.refl _) | exact .pd | exact .ptr rfl); (first | exact trivial | exact ⟨rfl, trivial⟩)))); done)) | (focus ((with_reducible apply a_call); exact hcr; exact rfl; (repeat (first | exact SubsE.nil | (apply SubsE.cons; exact rfl; (first | exact .d (.refl _) | exact .d (.nil _) | exact .agg rfl (.refl _) | exact .pd | exact .ptr rfl); (first | exact trivial | exact ⟨rfl, trivial⟩)))); done)) | exact by_oa); exact by_g) | ((with_reducible apply CW.cond_t); exact rfl; exact by_ks) | ((with_reducible apply CW.cond_f); exact rfl; exact by_ks) | ((with_reducible apply q_block_miss); exact rfl) | (refine And.intro (show chk [] [] _ _ = true by kernel_rfl) ?_))
                        refine q_loopT (k + 1) ⟨by omega, hgood hw0⟩ (by omega) ?_
                        exact by_less
                    · rw [if_neg hk1'] at hw0
                      cases hin : isIn d.writes key
                      · rw [if_neg (by simp [hin])] at hw0
                        repeat (first | ((with_reducible apply s1); exact rfl) | (with_reducible first | apply CW.seq | apply CW.block | apply CW.region | apply CW.draw | apply CW.skip | apply CW.exit | apply CW.ret | apply q_then | apply q_then_exit | apply q_then_ret | apply q_block | apply q_block_ret | apply q_block_hit | apply q_ret | apply q_end | apply q_loop_exit | apply q_loop_ret | apply q_loopT_exit | apply q_loopT_ret | apply RW.nil) | ((with_reducible apply s3); exact rfl; exact by_k) | ((with_reducible apply s2); exact rfl; exact by_k) | ((with_reducible apply s4); exact rfl) | ((with_reducible apply s5); (first | (focus ((with_reducible apply a_call); exact hcK; exact rfl; (repeat (first | exact SubsE.nil | (apply SubsE.cons; exact rfl; (first | exact .d (.refl _) | exact .d (.nil _) | exact .agg rfl (.refl _) | exact .pd | exact .ptr rfl); (first | exact trivial | exact ⟨rfl, trivial⟩)))); done)) | (focus ((with_reducible apply a_call); exact hcw; exact rfl; (repeat (first | exact SubsE.nil | (apply SubsE.cons; exact rfl; (first | exact .d (.refl _) | exact .d (.nil _) | exact .agg rfl (.refl _) | exact .pd | exact .ptr rfl); (first | exact trivial | exact ⟨rfl, trivial⟩)))); done)) | exact by_oa); exact by_g) | ((with_reducible apply CW.cond_t); exact rfl; exact by_ks) | ((with_reducible apply CW.cond_f); exact rfl; exact by_ks) | ((with_reducible apply q_block_miss); exact rfl) | (refine And.intro (show chk [] [] _ _ = true by kernel_rfl) ?_))
                        exact .one (.tmp rfl (.one (.d (dle_int (by rw [← hbad (by rw [hw0]; decide), hw0])))))
                      · rw [if_pos hin] at hw0
                        repeat (first | ((with_reducible apply s1); exact rfl) | (with_reducible first | apply CW.seq | apply CW.block | apply CW.region | apply CW.draw | apply CW.skip | apply CW.exit | apply CW.ret | apply q_then | apply q_then_exit | apply q_then_ret | apply q_block | apply q_block_ret | apply q_block_hit | apply q_ret | apply q_end | apply q_loop_exit | apply q_loop_ret | apply q_loopT_exit | apply q_loopT_ret | apply RW.nil) | ((with_reducible apply s3); exact rfl; exact by_k) | ((with_reducible apply s2); exact rfl; exact by_k) | ((with_reducible apply s4); exact rfl) | ((with_reducible apply s5); (first | (focus ((with_reducible apply a_call); exact hcK; exact rfl; (repeat (first | exact SubsE.nil | (apply SubsE.cons; exact rfl; (first | exact .d (.refl _) | exact .d (.nil _) | exact .agg rfl (.refl _) | exact .pd | exact .ptr rfl); (first | exact trivial | exact ⟨rfl, trivial⟩)))); done)) | (focus ((with_reducible apply a_call); exact hcw; exact rfl; (repeat (first | exact SubsE.nil | (apply SubsE.cons; exact rfl; (first | exact .d (.refl _) | exact .d (.nil _) | exact .agg rfl (.refl _) | exact .pd | exact .ptr rfl); (first | exact trivial | exact ⟨rfl, trivial⟩)))); done)) | exact by_oa); exact by_g) | ((with_reducible apply CW.cond_t); exact rfl; exact by_ks) | ((with_reducible apply CW.cond_f); exact rfl; exact by_ks) | ((with_reducible apply q_block_miss); exact rfl) | (refine And.intro (show chk [] [] _ _ = true by kernel_rfl) ?_))
                        refine q_loopT (k + 1) ⟨by omega, hgood hw0⟩ (by omega) ?_
                        exact by_less
                · rw [if_pos hO] at hw0
                  repeat (first | ((with_reducible apply s1); exact rfl) | (with_reducible first | apply CW.seq | apply CW.block | apply CW.region | apply CW.draw | apply CW.skip | apply CW.exit | apply CW.ret | apply q_then | apply q_then_exit | apply q_then_ret | apply q_block | apply q_block_ret | apply q_block_hit | apply q_ret | apply q_end | apply q_loop_exit | apply q_loop_ret | apply q_loopT_exit | apply q_loopT_ret | apply RW.nil) | ((with_reducible apply s3); exact rfl; exact by_k) | ((with_reducible apply s2); exact rfl; exact by_k) | ((with_reducible apply s4); exact rfl) | ((with_reducible apply s5); (first | exact by_oa); exact by_g) | ((with_reducible apply CW.cond_t); exact rfl; exact by_ks) | ((with_reducible apply CW.cond_f); exact rfl; exact by_ks) | ((with_reducible apply q_block_miss); exact rfl) | (refine And.intro (show chk [] [] _ _ = true by kernel_rfl) ?_))
                  exact .one (.tmp rfl (.one (.d (dle_int (by rw [← hbad (by rw [hw0]; decide), hw0])))))
    · have h3' : j < 2 := h3
      rw [h1] at hI
      have hl : l.length ≤ 268435456 ∧ ∀ s ∈ l, s.length ≤ 1073741824 := by
        have := List.mem_of_getElem? h2
        simp at this
        rcases this with rfl | rfl
        · exact ⟨hr, hrk⟩
        · exact ⟨hw, hwk⟩
      have hbad : keysWrong l ≠ 0 → keysWrong l = wrongDeed d := fun h0 => by
        rcases ls_first hI with ⟨h5, h6⟩ | ⟨h5, h6⟩
        · exact absurd h5 h0
        · rw [wrongDeed, if_neg (by rw [← h6]; exact h0), h6]
      by_cases h4 : 5 < l.length
      · have h6 : keysWrong l = 5 := by rw [keysWrong, if_pos h4]
        repeat (first | ((with_reducible apply s1); exact rfl) | (with_reducible first | apply CW.seq | apply CW.block | apply CW.region | apply CW.draw | apply CW.skip | apply CW.exit | apply CW.ret | apply q_then | apply q_then_exit | apply q_then_ret | apply q_block | apply q_block_ret | apply q_block_hit | apply q_ret | apply q_end | apply q_loop_exit | apply q_loop_ret | apply q_loopT_exit | apply q_loopT_ret | apply RW.nil) | ((with_reducible apply s3); exact rfl; exact by_k) | ((with_reducible apply s2); exact rfl; exact by_k) | ((with_reducible apply s4); exact rfl) | ((with_reducible apply s5); (first | exact by_oa); exact by_g) | ((with_reducible apply CW.cond_t); exact rfl; exact by_ks) | ((with_reducible apply CW.cond_f); exact rfl; exact by_ks) | ((with_reducible apply q_block_miss); exact rfl) | (refine And.intro (show chk [] [] _ _ = true by kernel_rfl) ?_))
        exact .one (.tmp rfl (.one (.d (dle_int (by rw [← h6]; exact hbad (by rw [h6]; decide))))))
      ·
        repeat (first | ((with_reducible apply s1); exact rfl) | (with_reducible first | apply CW.seq | apply CW.block | apply CW.region | apply CW.draw | apply CW.skip | apply CW.exit | apply CW.ret | apply q_then | apply q_then_exit | apply q_then_ret | apply q_block | apply q_block_ret | apply q_block_hit | apply q_ret | apply q_end | apply q_loop_exit | apply q_loop_ret | apply q_loopT_exit | apply q_loopT_ret | apply RW.nil) | ((with_reducible apply s3); exact rfl; exact by_k) | ((with_reducible apply s2); exact rfl; exact by_k) | ((with_reducible apply s4); exact rfl) | ((with_reducible apply s5); (first | exact by_oa); exact by_g) | ((with_reducible apply CW.cond_t); exact rfl; exact by_ks) | ((with_reducible apply CW.cond_f); exact rfl; exact by_ks) | ((with_reducible apply q_block_miss); exact rfl) | (refine And.intro (show chk [] [] _ _ = true by kernel_rfl) ?_))
        refine CW.loopT (fun i : Nat => [(.s 1, .av (.ptr 0 0)), (.o 0, .ob (.box (d.enc.map AV.d))), (.s 18, .av (.d (.sl 1 ([d.reads, d.writes].map fun l => [encStrs l])))), (.s 19, .av (.d (dint 2))), (.s 20, .av (.d (dint j))), (.s 4, .av (.d (encStrs l))), (.s 27, .av (.d (encStrs l))), (.s 28, .av (.d (dint l.length))), (.s 29, .av (.d (dint i))), (.nx, .num 1)])
          (fun i => i ≤ l.length ∧ keysGo l i (l.drop i) = keysWrong l) (fun i => l.length - i) 0 ⟨by omega, by rw [keysWrong, if_neg h4]; rfl⟩ ?_ ?_
        ·
          exact by_less
        · rintro i ⟨hi, hJ⟩
          rcases drop_case hi with ⟨h5, h6⟩ | ⟨k, h5, h6, h7⟩
          · rw [h5] at hJ
            simp only [keysGo] at hJ
            repeat (first | ((with_reducible apply s1); exact rfl) | (with_reducible first | apply CW.seq | apply CW.block | apply CW.region | apply CW.draw | apply CW.skip | apply CW.exit | apply CW.ret | apply q_then | apply q_then_exit | apply q_then_ret | apply q_block | apply q_block_ret | apply q_block_hit | apply q_ret | apply q_end | apply q_loop_exit | apply q_loop_ret | apply q_loopT_exit | apply q_loopT_ret | apply RW.nil) | ((with_reducible apply s3); exact rfl; exact by_k) | ((with_reducible apply s2); exact rfl; exact by_k) | ((with_reducible apply s4); exact rfl) | ((with_reducible apply s5); (first | exact by_oa); exact by_g) | ((with_reducible apply CW.cond_t); exact rfl; exact by_ks) | ((with_reducible apply CW.cond_f); exact rfl; exact by_ks) | ((with_reducible apply q_block_miss); exact rfl) | (refine And.intro (show chk [] [] _ _ = true by kernel_rfl) ?_))
            refine q_loopT (j + 1) ⟨by simp; omega, ?_⟩ (by omega) ?_
            · rcases ls_first hI with ⟨h8, h9⟩ | ⟨h8, h9⟩
              · exact h9
              · exact absurd hJ.symm h8
            ·
              exact by_less
          · rw [h5] at hJ
            simp only [keysGo] at hJ
            have hck := ok_key k (hl.2 k (List.mem_of_getElem? h6))
            have hin : FnOk Tryz.prog 50 [.d (.sl 1 ((l.map encStr1).take i)), .d (dstr k)] (.one (dbool (isIn (l.take i) k))) := by
              rw [← List.map_take]
              exact ok_in (l.take i) k (by rw [List.length_take]; have := hl.1; omega)
            cases h8 : key k
            · rw [if_pos h8] at hJ
              repeat (first | ((with_reducible apply s1); exact rfl) | (with_reducible first | apply CW.seq | apply CW.block | apply CW.region | apply CW.draw | apply CW.skip | apply CW.exit | apply CW.ret | apply q_then | apply q_then_exit | apply q_then_ret | apply q_block | apply q_block_ret | apply q_block_hit | apply q_ret | apply q_end | apply q_loop_exit | apply q_loop_ret | apply q_loopT_exit | apply q_loopT_ret | apply RW.nil) | ((with_reducible apply s3); exact rfl; exact by_k) | ((with_reducible apply s2); exact rfl; exact by_k) | ((with_reducible apply s4); exact rfl) | ((with_reducible apply s5); (first | (focus ((with_reducible apply a_call); exact hck; exact rfl; (repeat (first | exact SubsE.nil | (apply SubsE.cons; exact rfl; (first | exact .d (.refl _) | exact .d (.nil _) | exact .agg rfl (.refl _) | exact .pd | exact .ptr rfl); (first | exact trivial | exact ⟨rfl, trivial⟩)))); done)) | exact by_oa); exact by_g) | ((with_reducible apply CW.cond_t); exact rfl; exact by_ks) | ((with_reducible apply CW.cond_f); exact rfl; exact by_ks) | ((with_reducible apply q_block_miss); exact rfl) | (refine And.intro (show chk [] [] _ _ = true by kernel_rfl) ?_))
              exact .one (.tmp rfl (.one (.d (dle_int (by rw [hJ]; exact hbad (by rw [← hJ]; decide))))))
            · rw [if_neg (by simp [h8])] at hJ
              cases h9 : isIn (l.take i) k
              · rw [if_neg (by simp [h9])] at hJ
                repeat (first | ((with_reducible apply s1); exact rfl) | (with_reducible first | apply CW.seq | apply CW.block | apply CW.region | apply CW.draw | apply CW.skip | apply CW.exit | apply CW.ret | apply q_then | apply q_then_exit | apply q_then_ret | apply q_block | apply q_block_ret | apply q_block_hit | apply q_ret | apply q_end | apply q_loop_exit | apply q_loop_ret | apply q_loopT_exit | apply q_loopT_ret | apply RW.nil) | ((with_reducible apply s3); exact rfl; exact by_k) | ((with_reducible apply s2); exact rfl; exact by_k) | ((with_reducible apply s4); exact rfl) | ((with_reducible apply s5); (first | (focus ((with_reducible apply a_call); exact hck; exact rfl; (repeat (first | exact SubsE.nil | (apply SubsE.cons; exact rfl; (first | exact .d (.refl _) | exact .d (.nil _) | exact .agg rfl (.refl _) | exact .pd | exact .ptr rfl); (first | exact trivial | exact ⟨rfl, trivial⟩)))); done)) | (focus ((with_reducible apply a_call); exact hin; exact rfl; (repeat (first | exact SubsE.nil | (apply SubsE.cons; exact rfl; (first | exact .d (.refl _) | exact .d (.nil _) | exact .agg rfl (.refl _) | exact .pd | exact .ptr rfl); (first | exact trivial | exact ⟨rfl, trivial⟩)))); done)) | exact by_oa); exact by_g) | ((with_reducible apply CW.cond_t); exact rfl; exact by_ks) | ((with_reducible apply CW.cond_f); exact rfl; exact by_ks) | ((with_reducible apply q_block_miss); exact rfl) | (refine And.intro (show chk [] [] _ _ = true by kernel_rfl) ?_))
                refine q_loopT (i + 1) ⟨by omega, hJ⟩ (by omega) ?_
                exact by_less
              · rw [if_pos h9] at hJ
                repeat (first | ((with_reducible apply s1); exact rfl) | (with_reducible first | apply CW.seq | apply CW.block | apply CW.region | apply CW.draw | apply CW.skip | apply CW.exit | apply CW.ret | apply q_then | apply q_then_exit | apply q_then_ret | apply q_block | apply q_block_ret | apply q_block_hit | apply q_ret | apply q_end | apply q_loop_exit | apply q_loop_ret | apply q_loopT_exit | apply q_loopT_ret | apply RW.nil) | ((with_reducible apply s3); exact rfl; exact by_k) | ((with_reducible apply s2); exact rfl; exact by_k) | ((with_reducible apply s4); exact rfl) | ((with_reducible apply s5); (first | (focus ((with_reducible apply a_call); exact hck; exact rfl; (repeat (first | exact SubsE.nil | (apply SubsE.cons; exact rfl; (first | exact .d (.refl _) | exact .d (.nil _) | exact .agg rfl (.refl _) | exact .pd | exact .ptr rfl); (first | exact trivial | exact ⟨rfl, trivial⟩)))); done)) | (focus ((with_reducible apply a_call); exact hin; exact rfl; (repeat (first | exact SubsE.nil | (apply SubsE.cons; exact rfl; (first | exact .d (.refl _) | exact .d (.nil _) | exact .agg rfl (.refl _) | exact .pd | exact .ptr rfl); (first | exact trivial | exact ⟨rfl, trivial⟩)))); done)) | exact by_oa); exact by_g) | ((with_reducible apply CW.cond_t); exact rfl; exact by_ks) | ((with_reducible apply CW.cond_f); exact rfl; exact by_ks) | ((with_reducible apply q_block_miss); exact rfl) | (refine And.intro (show chk [] [] _ _ = true by kernel_rfl) ?_))
                exact .one (.tmp rfl (.one (.d (dle_int (by rw [hJ]; exact hbad (by rw [← hJ]; decide))))))

end Go.Proofs.YtembfadhnkabhaaGreatDoor

/-! F8 -/
/-
  Contracts of the references' RowsAt and Right.
-/
namespace Go.Proofs.YtembfadhnkabhaaGreatDoor
open Go.AX Go.RF

set_option maxRecDepth 100000
set_option maxHeartbeats 4000000

theorem ok_right (l : List Deed) (hl : l.length ≤ 268435456) (hd : ∀ d ∈ l, d.Sm) : FnOk Tryz.prog 10 [.d (encDeeds l)] (.one (dbool (right l))) := by
  refine fnOk_of tbl_ok mixed_ok Tryz.func10 rfl (by kernel_rfl) rfl rfl fun w0 own0 => ?_
  repeat (first | ((with_reducible apply s1); exact rfl) | (with_reducible first | apply CW.seq | apply CW.block | apply CW.region | apply CW.draw | apply CW.skip | apply CW.exit | apply CW.ret | apply q_then | apply q_then_exit | apply q_then_ret | apply q_block | apply q_block_ret | apply q_block_hit | apply q_ret | apply q_end | apply q_loop_exit | apply q_loop_ret | apply q_loopT_exit | apply q_loopT_ret | apply RW.nil) | ((with_reducible apply s3); exact rfl; exact by_k) | ((with_reducible apply s2); exact rfl; exact by_k) | ((with_reducible apply s4); exact rfl) | ((with_reducible apply s5); (first | exact by_oa); exact by_g) | ((with_reducible apply CW.cond_t); exact rfl; exact by_ks) | ((with_reducible apply CW.cond_f); exact rfl; exact by_ks) | ((with_reducible apply q_block_miss); exact rfl) | (refine And.intro (show chk [] [] _ _ = true by kernel_rfl) ?_))
  refine CW.loopT (fun i : Nat => [(.s 5, .av (.d (encDeeds l))), (.s 6, .av (.d (dint l.length))), (.s 7, .av (.d (dint i))), (.nx, .num 0)]) (fun i => i ≤ l.length ∧ right (l.drop i) = right l) (fun i => l.length - i) 0 ⟨by omega, rfl⟩ ?_ ?_
  ·
    exact by_less
  · rintro i ⟨hi, hI⟩
    rcases drop_case hi with ⟨h1, h2⟩ | ⟨d, h1, h2, h3⟩
    ·
      repeat (first | ((with_reducible apply s1); exact rfl) | (with_reducible first | apply CW.seq | apply CW.block | apply CW.region | apply CW.draw | apply CW.skip | apply CW.exit | apply CW.ret | apply q_then | apply q_then_exit | apply q_then_ret | apply q_block | apply q_block_ret | apply q_block_hit | apply q_ret | apply q_end | apply q_loop_exit | apply q_loop_ret | apply q_loopT_exit | apply q_loopT_ret | apply RW.nil) | ((with_reducible apply s3); exact rfl; exact by_k) | ((with_reducible apply s2); exact rfl; exact by_k) | ((with_reducible apply s4); exact rfl) | ((with_reducible apply s5); (first | exact by_oa); exact by_g) | ((with_reducible apply CW.cond_t); exact rfl; exact by_ks) | ((with_reducible apply CW.cond_f); exact rfl; exact by_ks) | ((with_reducible apply q_block_miss); exact rfl) | (refine And.intro (show chk [] [] _ _ = true by kernel_rfl) ?_))
      rw [h1] at hI
      rw [← hI]
      exact .one (.tmp rfl (.one (.d (.refl _))))
    · rw [h1] at hI
      simp only [right] at hI
      have hs := hd d (List.mem_of_getElem? h2)
      have hc := ok_wrongDeed d hs.r hs.w hs.c hs.rk hs.wk
      by_cases h4 : wrongDeed d = 0
      · rw [if_pos h4] at hI
        repeat (first | ((with_reducible apply s1); exact rfl) | (with_reducible first | apply CW.seq | apply CW.block | apply CW.region | apply CW.draw | apply CW.skip | apply CW.exit | apply CW.ret | apply q_then | apply q_then_exit | apply q_then_ret | apply q_block | apply q_block_ret | apply q_block_hit | apply q_ret | apply q_end | apply q_loop_exit | apply q_loop_ret | apply q_loopT_exit | apply q_loopT_ret | apply RW.nil) | ((with_reducible apply s3); exact rfl; exact by_k) | ((with_reducible apply s2); exact rfl; exact by_k) | ((with_reducible apply s4); exact rfl) | ((with_reducible apply s5); (first | (focus ((with_reducible apply a_call); exact hc; exact rfl; (repeat (first | exact SubsE.nil | (apply SubsE.cons; exact rfl; (first | exact .d (.refl _) | exact .d (.nil _) | exact .agg rfl (.refl _) | exact .pd | exact .ptr rfl); (first | exact trivial | exact ⟨rfl, trivial⟩)))); done)) | exact by_oa); exact by_g) | ((with_reducible apply CW.cond_t); exact rfl; exact by_ks) | ((with_reducible apply CW.cond_f); exact rfl; exact by_ks) | ((with_reducible apply q_block_miss); exact rfl) | (refine And.intro (show chk [] [] _ _ = true by kernel_rfl) ?_))
        refine q_loopT (i + 1) ⟨by omega, hI⟩ (by omega) ?_
        exact by_less
      · rw [if_neg h4] at hI
        repeat (first | ((with_reducible apply s1); exact rfl) | (with_reducible first | apply CW.seq | apply CW.block | apply CW.region | apply CW.draw | apply CW.skip | apply CW.exit | apply CW.ret | apply q_then | apply q_then_exit | apply q_then_ret | apply q_block | apply q_block_ret | apply q_block_hit | apply q_ret | apply q_end | apply q_loop_exit | apply q_loop_ret | apply q_loopT_exit | apply q_loopT_ret | apply RW.nil) | ((with_reducible apply s3); exact rfl; exact by_k) | ((with_reducible apply s2); exact rfl; exact by_k) | ((with_reducible apply s4); exact rfl) | ((with_reducible apply s5); (first | (focus ((with_reducible apply a_call); exact hc; exact rfl; (repeat (first | exact SubsE.nil | (apply SubsE.cons; exact rfl; (first | exact .d (.refl _) | exact .d (.nil _) | exact .agg rfl (.refl _) | exact .pd | exact .ptr rfl); (first | exact trivial | exact ⟨rfl, trivial⟩)))); done)) | exact by_oa); exact by_g) | ((with_reducible apply CW.cond_t); exact rfl; exact by_ks) | ((with_reducible apply CW.cond_f); exact rfl; exact by_ks) | ((with_reducible apply q_block_miss); exact rfl) | (refine And.intro (show chk [] [] _ _ = true by kernel_rfl) ?_))
        exact .one (.tmp rfl (.one (.d (dle_bool hI))))

theorem ok_rowsAt (l : List Chain) (b : Int) (hl : l.length ≤ 268435456) (hv : ∀ c ∈ l, c.vs.length ≤ 268435456) : FnOk Tryz.prog 16 [.d (encChains l), .d (dint b)] (.tup [encRows (rowsAt l b).1, dbool (rowsAt l b).2]) := by
  refine fnOk_of tbl_ok mixed_ok Tryz.func16 rfl (by kernel_rfl) rfl rfl fun w0 own0 => ?_
  repeat (first | ((with_reducible apply s1); exact rfl) | (with_reducible first | apply CW.seq | apply CW.block | apply CW.region | apply CW.draw | apply CW.skip | apply CW.exit | apply CW.ret | apply q_then | apply q_then_exit | apply q_then_ret | apply q_block | apply q_block_ret | apply q_block_hit | apply q_ret | apply q_end | apply q_loop_exit | apply q_loop_ret | apply q_loopT_exit | apply q_loopT_ret | apply RW.nil) | ((with_reducible apply s3); exact rfl; exact by_k) | ((with_reducible apply s2); exact rfl; exact by_k) | ((with_reducible apply s4); exact rfl) | ((with_reducible apply s5); (first | exact by_oa); exact by_g) | ((with_reducible apply CW.cond_t); exact rfl; exact by_ks) | ((with_reducible apply CW.cond_f); exact rfl; exact by_ks) | ((with_reducible apply q_block_miss); exact rfl) | (refine And.intro (show chk [] [] _ _ = true by kernel_rfl) ?_))
  refine CW.stut (stut_promote (i := 6) 72 2) ⟨rfl, rfl, trivial⟩ ?_
  refine CW.loopT (fun t : Nat × List Pair => [(.s 0, .av (.d (encChains l))), (.s 1, .av (.d (dint b))), (.s 6, .av (.own 0 t.2.length)), (.o 0, .ob (.arr 72 2 (t.2.map Pair.enc))), (.s 10, .av (.d (encChains l))), (.s 11, .av (.d (dint l.length))), (.s 12, .av (.d (dint t.1))), (.nx, .num 1)])
    (fun t => t.1 ≤ l.length ∧ t.2.length ≤ t.1 ∧ rowsAtGo l b t.2 (l.drop t.1) = rowsAt l b) (fun t => l.length - t.1) (0, []) ⟨by omega, by simp, rfl⟩ ?_ ?_
  ·
    exact by_less
  · rintro ⟨i, out⟩ ⟨hi, ho, hI⟩
    dsimp only at hi ho hI ⊢
    rcases drop_case hi with ⟨h1, h2⟩ | ⟨c, h1, h2, h3⟩
    · rw [h1] at hI
      simp only [rowsAtGo] at hI
      repeat (first | ((with_reducible apply s1); exact rfl) | (with_reducible first | apply CW.seq | apply CW.block | apply CW.region | apply CW.draw | apply CW.skip | apply CW.exit | apply CW.ret | apply q_then | apply q_then_exit | apply q_then_ret | apply q_block | apply q_block_ret | apply q_block_hit | apply q_ret | apply q_end | apply q_loop_exit | apply q_loop_ret | apply q_loopT_exit | apply q_loopT_ret | apply RW.nil) | ((with_reducible apply s3); exact rfl; exact by_k) | ((with_reducible apply s2); exact rfl; exact by_k) | ((with_reducible apply s4); exact rfl) | ((with_reducible apply s5); (first | exact by_oa); exact by_g) | ((with_reducible apply CW.cond_t); exact rfl; exact by_ks) | ((with_reducible apply CW.cond_f); exact rfl; exact by_ks) | ((with_reducible apply q_block_miss); exact rfl) | (refine And.intro (show chk [] [] _ _ = true by kernel_rfl) ?_))
      rw [← hI]
      exact .two (.tmp rfl (.one (.own rfl (by simp) (.refl _)))) (.tmp rfl (.one (.d (.refl _))))
    · rw [h1] at hI
      simp only [rowsAtGo] at hI
      have hc := ok_before l c.key b hl hv
      generalize before l c.key b = v at hc hI
      obtain ⟨vb, vm, vh, vn⟩ := v
      dsimp only at hI
      cases vm
      · rw [if_pos rfl] at hI
        repeat (first | ((with_reducible apply s1); exact rfl) | (with_reducible first | apply CW.seq | apply CW.block | apply CW.region | apply CW.draw | apply CW.skip | apply CW.exit | apply CW.ret | apply q_then | apply q_then_exit | apply q_then_ret | apply q_block | apply q_block_ret | apply q_block_hit | apply q_ret | apply q_end | apply q_loop_exit | apply q_loop_ret | apply q_loopT_exit | apply q_loopT_ret | apply RW.nil) | ((with_reducible apply s3); exact rfl; exact by_k) | ((with_reducible apply s2); exact rfl; exact by_k) | ((with_reducible apply s4); exact rfl) | ((with_reducible apply s5); (first | (focus ((with_reducible apply a_call); exact hc; exact rfl; (repeat (first | exact SubsE.nil | (apply SubsE.cons; exact rfl; (first | exact .d (.refl _) | exact .d (.nil _) | exact .agg rfl (.refl _) | exact .pd | exact .ptr rfl); (first | exact trivial | exact ⟨rfl, trivial⟩)))); done)) | exact by_oa); exact by_g) | ((with_reducible apply CW.cond_t); exact rfl; exact by_ks) | ((with_reducible apply CW.cond_f); exact rfl; exact by_ks) | ((with_reducible apply q_block_miss); exact rfl) | (refine And.intro (show chk [] [] _ _ = true by kernel_rfl) ?_))
        rw [← hI]
        exact .two (.tmp rfl (.one (.d (.nil 2)))) (.tmp rfl (.one (.d (.refl _))))
      · rw [if_neg (by simp)] at hI
        cases vh
        · rw [if_neg (by simp)] at hI
          repeat (first | ((with_reducible apply s1); exact rfl) | (with_reducible first | apply CW.seq | apply CW.block | apply CW.region | apply CW.draw | apply CW.skip | apply CW.exit | apply CW.ret | apply q_then | apply q_then_exit | apply q_then_ret | apply q_block | apply q_block_ret | apply q_block_hit | apply q_ret | apply q_end | apply q_loop_exit | apply q_loop_ret | apply q_loopT_exit | apply q_loopT_ret | apply RW.nil) | ((with_reducible apply s3); exact rfl; exact by_k) | ((with_reducible apply s2); exact rfl; exact by_k) | ((with_reducible apply s4); exact rfl) | ((with_reducible apply s5); (first | (focus ((with_reducible apply a_call); exact hc; exact rfl; (repeat (first | exact SubsE.nil | (apply SubsE.cons; exact rfl; (first | exact .d (.refl _) | exact .d (.nil _) | exact .agg rfl (.refl _) | exact .pd | exact .ptr rfl); (first | exact trivial | exact ⟨rfl, trivial⟩)))); done)) | exact by_oa); exact by_g) | ((with_reducible apply CW.cond_t); exact rfl; exact by_ks) | ((with_reducible apply CW.cond_f); exact rfl; exact by_ks) | ((with_reducible apply q_block_miss); exact rfl) | (refine And.intro (show chk [] [] _ _ = true by kernel_rfl) ?_))
          refine q_loopT (i + 1, out) ⟨by dsimp only; omega, by dsimp only; omega, hI⟩ (by dsimp only; omega) ?_
          exact by_less
        · rw [if_pos rfl] at hI
          repeat (first | ((with_reducible apply s1); exact rfl) | (with_reducible first | apply CW.seq | apply CW.block | apply CW.region | apply CW.draw | apply CW.skip | apply CW.exit | apply CW.ret | apply q_then | apply q_then_exit | apply q_then_ret | apply q_block | apply q_block_ret | apply q_block_hit | apply q_ret | apply q_end | apply q_loop_exit | apply q_loop_ret | apply q_loopT_exit | apply q_loopT_ret | apply RW.nil) | ((with_reducible apply s3); exact rfl; exact by_k) | ((with_reducible apply s2); exact rfl; exact by_k) | ((with_reducible apply s4); exact rfl) | ((with_reducible apply s5); (first | (focus ((with_reducible apply a_call); exact hc; exact rfl; (repeat (first | exact SubsE.nil | (apply SubsE.cons; exact rfl; (first | exact .d (.refl _) | exact .d (.nil _) | exact .agg rfl (.refl _) | exact .pd | exact .ptr rfl); (first | exact trivial | exact ⟨rfl, trivial⟩)))); done)) | exact by_oa); exact by_g) | ((with_reducible apply CW.cond_t); exact rfl; exact by_ks) | ((with_reducible apply CW.cond_f); exact rfl; exact by_ks) | ((with_reducible apply q_block_miss); exact rfl) | (refine And.intro (show chk [] [] _ _ = true by kernel_rfl) ?_))
          refine q_loopT (i + 1, _) ⟨by dsimp only; omega, by dsimp only; simp; omega, hI⟩ (by dsimp only; omega) ?_
          exact by_less

end Go.Proofs.YtembfadhnkabhaaGreatDoor

/-! F14 -/
/-
  Contracts of the references' New, Mark, Clear, Seen, SameEngine of engines.
-/
namespace Go.Proofs.YtembfadhnkabhaaGreatDoor
open Go.AX Go.RF

set_option maxRecDepth 100000
set_option maxHeartbeats 4000000

theorem ok_new (l : List Pair) (hl : l.length ≤ 134217728) : FnOk Tryz.prog 12 [.d (encRows l)] (.one (.agg (newE l).enc)) := by
  refine fnOk_of tbl_ok mixed_ok Tryz.func12 rfl (by kernel_rfl) rfl rfl fun w0 own0 => ?_
  repeat (first | ((with_reducible apply s1); exact rfl) | (with_reducible first | apply CW.seq | apply CW.block | apply CW.region | apply CW.draw | apply CW.skip | apply CW.exit | apply CW.ret | apply q_then | apply q_then_exit | apply q_then_ret | apply q_block | apply q_block_ret | apply q_block_hit | apply q_ret | apply q_end | apply q_loop_exit | apply q_loop_ret | apply q_loopT_exit | apply q_loopT_ret | apply RW.nil) | ((with_reducible apply s3); exact rfl; exact by_k) | ((with_reducible apply s2); exact rfl; exact by_k) | ((with_reducible apply s4); exact rfl) | ((with_reducible apply s5); (first | exact by_oa); exact by_g) | ((with_reducible apply CW.cond_t); exact rfl; exact by_ks) | ((with_reducible apply CW.cond_f); exact rfl; exact by_ks) | ((with_reducible apply q_block_miss); exact rfl) | (refine And.intro (show chk [] [] _ _ = true by kernel_rfl) ?_))
  refine CW.stut (stut_promote_cell (id := 1) (j := 0) 56 2 rfl) ⟨rfl, rfl, trivial⟩ ?_
  refine CW.loopT (fun i : Nat => [sd 7 (encRows l), sd 8 (dint l.length), sd 9 (dint i), sp 2 0, ob 0 noE.enc0, sp 3 1, (.o 1, .ob (.box [.own 2 i, .d (.v nilS), .d (.v nilS), .d (.v nilS), .d (dint 0)])),
      oa 2 56 2 ((l.take i).map fun p => (rowChain p).enc), nxt 3]) (fun i => i ≤ l.length) (fun i => l.length - i) 0 (by omega) ?_ ?_
  ·
    exact by_less
  · rintro i hi
    rcases drop_case hi with ⟨h1, h2⟩ | ⟨p, h1, h2, h3⟩
    · have h4 : (l.take i).map (fun p => (rowChain p).enc) = (l.map rowChain).map Chain.enc := by rw [h2, List.take_length]; simp
      repeat (first | (with_reducible apply stop_reg 7) | ((with_reducible apply s1); exact rfl) | (with_reducible first | apply CW.seq | apply CW.block | apply CW.region | apply CW.draw | apply CW.skip | apply CW.exit | apply CW.ret | apply q_then | apply q_then_exit | apply q_then_ret | apply q_block | apply q_block_ret | apply q_block_hit | apply q_ret | apply q_end | apply q_loop_exit | apply q_loop_ret | apply q_loopT_exit | apply q_loopT_ret | apply RW.nil) | ((with_reducible apply s3); exact rfl; exact by_k) | ((with_reducible apply s2); exact rfl; exact by_k) | ((with_reducible apply s4); exact rfl) | ((with_reducible apply s5); (first | exact by_oa); exact by_g) | ((with_reducible apply CW.cond_t); exact rfl; exact by_ks) | ((with_reducible apply CW.cond_f); exact rfl; exact by_ks) | ((with_reducible apply q_block_miss); exact rfl) | (refine And.intro (show chk [] [] _ _ = true by kernel_rfl) ?_))
      refine Stop.go (CW.stut (stut_freeze_cell (id := 1) (j := 0) (i := 2) rfl (by simp; omega)) ⟨rfl, rfl, trivial⟩ ?_)
      repeat (first | ((with_reducible apply s1); exact rfl) | (with_reducible first | apply CW.seq | apply CW.block | apply CW.region | apply CW.draw | apply CW.skip | apply CW.exit | apply CW.ret | apply q_then | apply q_then_exit | apply q_then_ret | apply q_block | apply q_block_ret | apply q_block_hit | apply q_ret | apply q_end | apply q_loop_exit | apply q_loop_ret | apply q_loopT_exit | apply q_loopT_ret | apply RW.nil) | ((with_reducible apply s3); exact rfl; exact by_k) | ((with_reducible apply s2); exact rfl; exact by_k) | ((with_reducible apply s4); exact rfl) | ((with_reducible apply s5); (first | exact by_oa); exact by_g) | ((with_reducible apply CW.cond_t); exact rfl; exact by_ks) | ((with_reducible apply CW.cond_f); exact rfl; exact by_ks) | ((with_reducible apply q_block_miss); exact rfl) | (refine And.intro (show chk [] [] _ _ = true by kernel_rfl) ?_))
      exact .one (.cell rfl rfl rfl rfl (.aggd (ds := [.sl 2 ((l.take i).map fun p => (rowChain p).enc), .v nilS, .v nilS, .v nilS, dint 0]) rfl
        (DLes.agg (.cons (dle_eq (by rw [h4]; rfl)) (.cons (dle_nil 3) (.cons (dle_nil 1) (.cons (dle_nil 5) (.cons (.refl _) .nil))))))))
    · have h4 : (l.take i).map (fun p => (rowChain p).enc) ++ [(rowChain p).enc] = (l.take (i + 1)).map fun p => (rowChain p).enc := by rw [List.take_add_one, h2]; simp
      repeat (first | ((with_reducible apply s1); exact rfl) | (with_reducible first | apply CW.seq | apply CW.block | apply CW.region | apply CW.draw | apply CW.skip | apply CW.exit | apply CW.ret | apply q_then | apply q_then_exit | apply q_then_ret | apply q_block | apply q_block_ret | apply q_block_hit | apply q_ret | apply q_end | apply q_loop_exit | apply q_loop_ret | apply q_loopT_exit | apply q_loopT_ret | apply RW.nil) | ((with_reducible apply s3); exact rfl; exact by_k) | ((with_reducible apply s2); exact rfl; exact by_k) | ((with_reducible apply s4); exact rfl) | ((with_reducible apply s5); (first | exact by_oa); exact by_g) | ((with_reducible apply CW.cond_t); exact rfl; exact by_ks) | ((with_reducible apply CW.cond_f); exact rfl; exact by_ks) | ((with_reducible apply q_block_miss); exact rfl) | (refine And.intro (show chk [] [] _ _ = true by kernel_rfl) ?_))
      refine q_loopT (i + 1) (by omega) (by omega) ?_
      exact by_less

end Go.Proofs.YtembfadhnkabhaaGreatDoor

/-! F13 -/
/-
  Contract of the references' Add.
-/
namespace Go.Proofs.YtembfadhnkabhaaGreatDoor
open Go.AX Go.RF

set_option maxRecDepth 100000
set_option maxHeartbeats 4000000

theorem ok_add (l : List Chain) (k : Str) (b : Int) (hl : l.length ≤ 268435456) (hs : ∀ c ∈ l, c.vs.length ≤ 268435456) : FnOk Tryz.prog 30 [.d (encChains l), .d (dstr k), .d (dint b)] (.one (encChains (addC l k b))) := by
  refine fnOk_of tbl_ok mixed_ok Tryz.func30 rfl (by kernel_rfl) rfl rfl fun w0 own0 => ?_
  repeat (first | ((with_reducible apply s1); exact rfl) | (with_reducible first | apply CW.seq | apply CW.block | apply CW.region | apply CW.draw | apply CW.skip | apply CW.exit | apply CW.ret | apply q_then | apply q_then_exit | apply q_then_ret | apply q_block | apply q_block_ret | apply q_block_hit | apply q_ret | apply q_end | apply q_loop_exit | apply q_loop_ret | apply q_loopT_exit | apply q_loopT_ret | apply RW.nil) | ((with_reducible apply s3); exact rfl; exact by_k) | ((with_reducible apply s2); exact rfl; exact by_k) | ((with_reducible apply s4); exact rfl) | ((with_reducible apply s5); (first | exact by_oa); exact by_g) | ((with_reducible apply CW.cond_t); exact rfl; exact by_ks) | ((with_reducible apply CW.cond_f); exact rfl; exact by_ks) | ((with_reducible apply q_block_miss); exact rfl) | (refine And.intro (show chk [] [] _ _ = true by kernel_rfl) ?_))
  refine CW.stut (stut_promote (i := 7) 56 2) ⟨rfl, rfl, trivial⟩ ?_
  refine CW.loopT (fun t : Nat × Bool × List Chain => [sd 1 (dstr k), sd 2 (dint b), so 7 0 t.2.2.length, sd 8 (dbool t.2.1), sd 11 (encChains l), sd 12 (dint l.length), sd 13 (dint t.1), oa 0 56 2 (t.2.2.map Chain.enc), nxt 1])
    (fun t => t.1 ≤ l.length ∧ t.2.2.length ≤ 2 * t.1 ∧ addGo k b t.2.1 t.2.2 (l.drop t.1) = addC l k b) (fun t => l.length - t.1) (0, false, []) ⟨by omega, by simp, rfl⟩ ?_ ?_
  ·
    exact by_less
  · rintro ⟨i, done, out⟩ ⟨hi, ho, hI⟩
    dsimp only at hi ho hI ⊢
    rcases drop_case hi with ⟨h1, h2⟩ | ⟨c, h1, h2, h3⟩
    · rw [h1] at hI
      simp only [addGo] at hI
      cases done
      ·
        repeat (first | ((with_reducible apply s1); exact rfl) | (with_reducible first | apply CW.seq | apply CW.block | apply CW.region | apply CW.draw | apply CW.skip | apply CW.exit | apply CW.ret | apply q_then | apply q_then_exit | apply q_then_ret | apply q_block | apply q_block_ret | apply q_block_hit | apply q_ret | apply q_end | apply q_loop_exit | apply q_loop_ret | apply q_loopT_exit | apply q_loopT_ret | apply RW.nil) | ((with_reducible apply s3); exact rfl; exact by_k) | ((with_reducible apply s2); exact rfl; exact by_k) | ((with_reducible apply s4); exact rfl) | ((with_reducible apply s5); (first | exact by_oa); exact by_g) | ((with_reducible apply CW.cond_t); exact rfl; exact by_ks) | ((with_reducible apply CW.cond_f); exact rfl; exact by_ks) | ((with_reducible apply q_block_miss); exact rfl) | (refine And.intro (show chk [] [] _ _ = true by kernel_rfl) ?_))
        exact .one (.tmp rfl (.one (.own rfl (by simp) (dle_eq (by rw [← hI]; simp [encChains]; rfl)))))
      ·
        repeat (first | ((with_reducible apply s1); exact rfl) | (with_reducible first | apply CW.seq | apply CW.block | apply CW.region | apply CW.draw | apply CW.skip | apply CW.exit | apply CW.ret | apply q_then | apply q_then_exit | apply q_then_ret | apply q_block | apply q_block_ret | apply q_block_hit | apply q_ret | apply q_end | apply q_loop_exit | apply q_loop_ret | apply q_loopT_exit | apply q_loopT_ret | apply RW.nil) | ((with_reducible apply s3); exact rfl; exact by_k) | ((with_reducible apply s2); exact rfl; exact by_k) | ((with_reducible apply s4); exact rfl) | ((with_reducible apply s5); (first | exact by_oa); exact by_g) | ((with_reducible apply CW.cond_t); exact rfl; exact by_ks) | ((with_reducible apply CW.cond_f); exact rfl; exact by_ks) | ((with_reducible apply q_block_miss); exact rfl) | (refine And.intro (show chk [] [] _ _ = true by kernel_rfl) ?_))
        exact .one (.tmp rfl (.one (.own rfl (by simp) (dle_eq (by rw [← hI]; rfl)))))
    · rw [h1] at hI
      simp only [addGo] at hI
      have hcv := hs c (List.mem_of_getElem? h2)
      have he : out.map Chain.enc ++ [[dstr c.key, .sl 4 (c.vs.map Version.enc ++ [[dint b, dbool false, dbool false, dint 0]])]] = (out ++ [Chain.mk c.key (c.vs ++ [Version.mk b false false 0])]).map Chain.enc := by
        simp [Chain.enc, encVs, Version.enc]
      have he2 : (out.map Chain.enc ++ [[dstr k, .sl 4 [[dint b, dbool false, dbool false, dint 0]]]]) ++ [c.enc] = ((out ++ [Chain.mk k [Version.mk b false false 0]]) ++ [c]).map Chain.enc := by
        simp [Chain.enc, encVs, Version.enc]
      cases done
      · by_cases h4 : c.key = k
        · simp [h4] at hI
          have h6 : (!(slt c.key k || decide (c.key = k))) = false := by simp [h4]
          repeat (first | (with_reducible apply stop_region 12) | ((with_reducible apply s1); exact rfl) | (with_reducible first | apply CW.seq | apply CW.block | apply CW.region | apply CW.draw | apply CW.skip | apply CW.exit | apply CW.ret | apply q_then | apply q_then_exit | apply q_then_ret | apply q_block | apply q_block_ret | apply q_block_hit | apply q_ret | apply q_end | apply q_loop_exit | apply q_loop_ret | apply q_loopT_exit | apply q_loopT_ret | apply RW.nil) | ((with_reducible apply s3); exact rfl; exact by_k) | ((with_reducible apply s2); exact rfl; exact by_k) | ((with_reducible apply s4); exact rfl) | ((with_reducible apply s5); (first | exact by_oa); exact by_g) | ((with_reducible apply CW.cond_t); exact rfl; exact by_ks) | ((with_reducible apply CW.cond_f); exact rfl; exact by_ks) | ((with_reducible apply q_block_miss); exact rfl) | (refine And.intro (show chk [] [] _ _ = true by kernel_rfl) ?_))
          refine Stop.go (CW.stut (stut_freeze_cell (id := 1) (j := 1) (i := 2) rfl (by simp)) ⟨rfl, rfl, trivial⟩ ?_)
          repeat (first | ((with_reducible apply s1); exact rfl) | (with_reducible first | apply CW.seq | apply CW.block | apply CW.region | apply CW.draw | apply CW.skip | apply CW.exit | apply CW.ret | apply q_then | apply q_then_exit | apply q_then_ret | apply q_block | apply q_block_ret | apply q_block_hit | apply q_ret | apply q_end | apply q_loop_exit | apply q_loop_ret | apply q_loopT_exit | apply q_loopT_ret | apply RW.nil) | ((with_reducible apply s3); exact rfl; exact by_k) | ((with_reducible apply s2); exact rfl; exact by_k) | ((with_reducible apply s4); exact rfl) | ((with_reducible apply s5); (first | exact by_oa); exact by_g) | ((with_reducible apply CW.cond_t); exact rfl; exact by_ks) | ((with_reducible apply CW.cond_f); exact rfl; exact by_ks) | ((with_reducible apply q_block_miss); exact rfl) | (refine And.intro (show chk [] [] _ _ = true by kernel_rfl) ?_))
          refine q_loopT (i + 1, true, out ++ [⟨c.key, c.vs ++ [⟨b, false, false, 0⟩]⟩]) ⟨by dsimp only; omega, by dsimp only; simp; omega, by rw [h4]; exact hI⟩ (by dsimp only; omega) ?_
          exact by_less
        · cases h5 : slt c.key k
          · simp [h4, h5] at hI
            have h6 : (!(slt c.key k || decide (c.key = k))) = true := by simp [h4, h5]
            repeat (first | ((with_reducible apply s1); exact rfl) | (with_reducible first | apply CW.seq | apply CW.block | apply CW.region | apply CW.draw | apply CW.skip | apply CW.exit | apply CW.ret | apply q_then | apply q_then_exit | apply q_then_ret | apply q_block | apply q_block_ret | apply q_block_hit | apply q_ret | apply q_end | apply q_loop_exit | apply q_loop_ret | apply q_loopT_exit | apply q_loopT_ret | apply RW.nil) | ((with_reducible apply s3); exact rfl; exact by_k) | ((with_reducible apply s2); exact rfl; exact by_k) | ((with_reducible apply s4); exact rfl) | ((with_reducible apply s5); (first | exact by_oa); exact by_g) | ((with_reducible apply CW.cond_t); exact rfl; exact by_ks) | ((with_reducible apply CW.cond_f); exact rfl; exact by_ks) | ((with_reducible apply q_block_miss); exact rfl) | (refine And.intro (show chk [] [] _ _ = true by kernel_rfl) ?_))
            refine q_loopT (i + 1, true, (out ++ [⟨k, [⟨b, false, false, 0⟩]⟩]) ++ [c]) ⟨by dsimp only; omega, by dsimp only; simp; omega, by simpa using hI⟩ (by dsimp only; omega) ?_
            exact by_less
          · simp [h4, h5] at hI
            have h6 : (!(slt c.key k || decide (c.key = k))) = false := by simp [h5]
            repeat (first | ((with_reducible apply s1); exact rfl) | (with_reducible first | apply CW.seq | apply CW.block | apply CW.region | apply CW.draw | apply CW.skip | apply CW.exit | apply CW.ret | apply q_then | apply q_then_exit | apply q_then_ret | apply q_block | apply q_block_ret | apply q_block_hit | apply q_ret | apply q_end | apply q_loop_exit | apply q_loop_ret | apply q_loopT_exit | apply q_loopT_ret | apply RW.nil) | ((with_reducible apply s3); exact rfl; exact by_k) | ((with_reducible apply s2); exact rfl; exact by_k) | ((with_reducible apply s4); exact rfl) | ((with_reducible apply s5); (first | exact by_oa); exact by_g) | ((with_reducible apply CW.cond_t); exact rfl; exact by_ks) | ((with_reducible apply CW.cond_f); exact rfl; exact by_ks) | ((with_reducible apply q_block_miss); exact rfl) | (refine And.intro (show chk [] [] _ _ = true by kernel_rfl) ?_))
            refine q_loopT (i + 1, false, out ++ [c]) ⟨by dsimp only; omega, by dsimp only; simp; omega, hI⟩ (by dsimp only; omega) ?_
            exact by_less
      · by_cases h4 : c.key = k
        · simp [h4] at hI
          repeat (first | (with_reducible apply stop_region 12) | ((with_reducible apply s1); exact rfl) | (with_reducible first | apply CW.seq | apply CW.block | apply CW.region | apply CW.draw | apply CW.skip | apply CW.exit | apply CW.ret | apply q_then | apply q_then_exit | apply q_then_ret | apply q_block | apply q_block_ret | apply q_block_hit | apply q_ret | apply q_end | apply q_loop_exit | apply q_loop_ret | apply q_loopT_exit | apply q_loopT_ret | apply RW.nil) | ((with_reducible apply s3); exact rfl; exact by_k) | ((with_reducible apply s2); exact rfl; exact by_k) | ((with_reducible apply s4); exact rfl) | ((with_reducible apply s5); (first | exact by_oa); exact by_g) | ((with_reducible apply CW.cond_t); exact rfl; exact by_ks) | ((with_reducible apply CW.cond_f); exact rfl; exact by_ks) | ((with_reducible apply q_block_miss); exact rfl) | (refine And.intro (show chk [] [] _ _ = true by kernel_rfl) ?_))
          refine Stop.go (CW.stut (stut_freeze_cell (id := 1) (j := 1) (i := 2) rfl (by simp)) ⟨rfl, rfl, trivial⟩ ?_)
          repeat (first | ((with_reducible apply s1); exact rfl) | (with_reducible first | apply CW.seq | apply CW.block | apply CW.region | apply CW.draw | apply CW.skip | apply CW.exit | apply CW.ret | apply q_then | apply q_then_exit | apply q_then_ret | apply q_block | apply q_block_ret | apply q_block_hit | apply q_ret | apply q_end | apply q_loop_exit | apply q_loop_ret | apply q_loopT_exit | apply q_loopT_ret | apply RW.nil) | ((with_reducible apply s3); exact rfl; exact by_k) | ((with_reducible apply s2); exact rfl; exact by_k) | ((with_reducible apply s4); exact rfl) | ((with_reducible apply s5); (first | exact by_oa); exact by_g) | ((with_reducible apply CW.cond_t); exact rfl; exact by_ks) | ((with_reducible apply CW.cond_f); exact rfl; exact by_ks) | ((with_reducible apply q_block_miss); exact rfl) | (refine And.intro (show chk [] [] _ _ = true by kernel_rfl) ?_))
          refine q_loopT (i + 1, true, out ++ [⟨c.key, c.vs ++ [⟨b, false, false, 0⟩]⟩]) ⟨by dsimp only; omega, by dsimp only; simp; omega, by rw [h4]; exact hI⟩ (by dsimp only; omega) ?_
          exact by_less
        · simp [h4] at hI
          repeat (first | ((with_reducible apply s1); exact rfl) | (with_reducible first | apply CW.seq | apply CW.block | apply CW.region | apply CW.draw | apply CW.skip | apply CW.exit | apply CW.ret | apply q_then | apply q_then_exit | apply q_then_ret | apply q_block | apply q_block_ret | apply q_block_hit | apply q_ret | apply q_end | apply q_loop_exit | apply q_loop_ret | apply q_loopT_exit | apply q_loopT_ret | apply RW.nil) | ((with_reducible apply s3); exact rfl; exact by_k) | ((with_reducible apply s2); exact rfl; exact by_k) | ((with_reducible apply s4); exact rfl) | ((with_reducible apply s5); (first | exact by_oa); exact by_g) | ((with_reducible apply CW.cond_t); exact rfl; exact by_ks) | ((with_reducible apply CW.cond_f); exact rfl; exact by_ks) | ((with_reducible apply q_block_miss); exact rfl) | (refine And.intro (show chk [] [] _ _ = true by kernel_rfl) ?_))
          refine q_loopT (i + 1, true, out ++ [c]) ⟨by dsimp only; omega, by dsimp only; simp; omega, hI⟩ (by dsimp only; omega) ?_
          exact by_less

end Go.Proofs.YtembfadhnkabhaaGreatDoor

/-! F17 -/
/-
  Contract of the references' Add of deeds to engines.
-/
namespace Go.Proofs.YtembfadhnkabhaaGreatDoor
open Go.AX Go.RF

set_option maxRecDepth 100000
set_option maxHeartbeats 8000000

/-- How large an engine is, at most. -/
structure Engine.Sz (e : Engine) (N : Nat) : Prop where
  c : e.chains.length ≤ N
  v : ∀ c ∈ e.chains, c.vs.length ≤ N
  d : e.deeds.length ≤ N
  s : e.state.length = e.deeds.length
  n : e.ends.length = e.deeds.length
  b : 0 ≤ e.base ∧ e.base + e.deeds.length ≤ N
  dd : ∀ d ∈ e.deeds, d.Sm
theorem Engine.Sz.sm {e : Engine} {N : Nat} (h : Engine.Sz e N) (hN : N ≤ 134217728) : e.Sm :=
  ⟨by have := h.c; omega, fun c hc => by have := h.v c hc; omega, by have := h.d; omega, by have := h.d; have := h.s; omega, by have := h.d; have := h.n; omega, by have := h.b; omega, h.dd⟩

theorem addGo_true {k : Str} {b : Int} : ∀ (l out : List Chain), (addGo k b true out l).length = out.length + l.length
  | [], out => by simp [addGo]
  | c :: l, out => by
    simp only [addGo, Bool.not_true, Bool.false_and, Bool.true_or]
    split
    · rw [addGo_true l]; simp; omega
    · rw [addGo_true l]; simp; omega
theorem addGo_false {k : Str} {b : Int} : ∀ (l out : List Chain), (addGo k b false out l).length ≤ out.length + l.length + 1
  | [], out => by simp [addGo]
  | c :: l, out => by
    simp only [addGo, Bool.not_false, Bool.true_and, Bool.false_or]
    by_cases h : (!(slt c.key k || decide (c.key = k))) = true
    · rw [h]
      simp only [if_true]
      split
      · rw [addGo_true l]; simp; omega
      · rw [addGo_true l]; simp; omega
    · rw [show (!(slt c.key k || decide (c.key = k))) = false by simpa using h]
      simp only [Bool.false_eq_true, if_false]
      split
      · rw [addGo_true l]; simp; omega
      · refine Nat.le_trans (addGo_false l _) ?_
        simp; omega
theorem addC_len (l : List Chain) (k : Str) (b : Int) : (addC l k b).length ≤ l.length + 1 := by
  have := addGo_false (k := k) (b := b) l []
  unfold addC
  simpa using this
theorem addGo_vs {k : Str} {b : Int} {M : Nat} : ∀ {l : List Chain} {dn : Bool} {out : List Chain}, (∀ c ∈ l, c.vs.length ≤ M) → (∀ c ∈ out, c.vs.length ≤ M + 1) → ∀ c ∈ addGo k b dn out l, c.vs.length ≤ M + 1
  | [], dn, out, _, ho, c, hc => by
    simp only [addGo] at hc
    split at hc
    · exact ho c hc
    · rcases List.mem_append.1 hc with hc | hc
      · exact ho c hc
      · simp at hc; subst hc; simp
  | x :: l, dn, out, hl, ho, c, hc => by
    simp only [addGo] at hc
    have h1 : ∀ (g : Bool), ∀ c ∈ (if g = true then out ++ [⟨k, [⟨b, false, false, 0⟩]⟩] else out), c.vs.length ≤ M + 1 := by
      intro g c hc
      split at hc
      · rcases List.mem_append.1 hc with hc | hc
        · exact ho c hc
        · simp at hc; subst hc; simp
      · exact ho c hc
    have hx := hl x (List.mem_cons_self ..)
    split at hc
    · refine addGo_vs (fun c hc => hl c (List.mem_cons_of_mem _ hc)) (fun c hc => ?_) c hc
      rcases List.mem_append.1 hc with hc | hc
      · exact h1 _ c hc
      · simp at hc; subst hc; simp; omega
    · refine addGo_vs (fun c hc => hl c (List.mem_cons_of_mem _ hc)) (fun c hc => ?_) c hc
      rcases List.mem_append.1 hc with hc | hc
      · exact h1 _ c hc
      · simp at hc; subst hc; omega
theorem addC_vs {l : List Chain} {k : Str} {b : Int} {M : Nat} (h : ∀ c ∈ l, c.vs.length ≤ M) : ∀ c ∈ addC l k b, c.vs.length ≤ M + 1 := addGo_vs h (by simp)
theorem addKeys_sz {b : Int} {M : Nat} : ∀ {ks : List Str} {l : List Chain} {n : Nat}, l.length ≤ n → (∀ c ∈ l, c.vs.length ≤ M) → (addKeys b l ks).length ≤ n + ks.length ∧ ∀ c ∈ addKeys b l ks, c.vs.length ≤ M + ks.length
  | [], l, n, h1, h2 => ⟨h1, h2⟩
  | k :: ks, l, n, h1, h2 => by
    have := addKeys_sz (b := b) (M := M + 1) (ks := ks) (l := addC l k b) (n := n + 1) (Nat.le_trans (addC_len l k b) (by omega)) (addC_vs h2)
    refine ⟨by simp only [addKeys, List.length_cons]; omega, fun c hc => ?_⟩
    have := this.2 c hc
    simp; omega
theorem add1_sz {e : Engine} {N : Nat} (h : Engine.Sz e N) {d : Deed} (hd : d.Sm) (hw : d.writes.length ≤ 5) : Engine.Sz (add1 e d) (N + 5) := by
  have := addKeys_sz (b := e.base + e.deeds.length) (ks := d.writes) h.c h.v
  refine ⟨by have := this.1; simp only [add1]; omega, fun c hc => by have := this.2 c hc; omega, ?_, ?_, ?_, ?_, ?_⟩
  · have := h.d; simp [add1]; omega
  · have := h.s; simp [add1, this]
  · have := h.n; simp [add1, this]
  · have := h.b; simp [add1]; omega
  · intro x hx
    rcases List.mem_append.1 hx with hx | hx
    · exact h.dd x hx
    · simp at hx; subst hx; exact hd

theorem wrong_writes {d : Deed} (h : wrongDeed d = 0) : d.reads.length ≤ 5 ∧ d.writes.length ≤ 5 ∧ d.code.length ≤ 12 := by
  unfold wrongDeed at h
  by_cases h0 : lsGo [d.reads, d.writes] = 0
  · rw [if_pos h0] at h
    simp only [lsGo] at h0
    have hc : d.code.length ≤ 12 := by
      by_cases hc : 12 < d.code.length
      · rw [if_pos hc] at h; simp at h
      · omega
    have key : ∀ l : List Str, keysWrong l = 0 → l.length ≤ 5 := by
      intro l hl
      unfold keysWrong at hl
      by_cases h5 : 5 < l.length
      · rw [if_pos h5] at hl; simp at hl
      · omega
    by_cases h1 : keysWrong d.reads = 0
    · rw [if_pos h1] at h0
      by_cases h2 : keysWrong d.writes = 0
      · exact ⟨key _ h1, key _ h2, hc⟩
      · rw [if_neg h2] at h0; exact absurd h0 h2
    · rw [if_neg h1] at h0; exact absurd h0 h1
  · rw [if_neg h0] at h; exact absurd h h0
theorem wrongs_mem : ∀ {l : List Deed}, wrongs l = 0 → ∀ d ∈ l, wrongDeed d = 0
  | [], _, d, hd => by cases hd
  | x :: l, h, d, hd => by
    simp only [wrongs] at h
    by_cases h0 : wrongDeed x = 0
    · rw [if_pos h0] at h
      rcases List.mem_cons.1 hd with rfl | hd
      · exact h0
      · exact wrongs_mem h d hd
    · rw [if_neg h0] at h; exact absurd h h0

end Go.Proofs.YtembfadhnkabhaaGreatDoor

/-! F18 -/
/-
  Contract of the references' Add of deeds to engines: the walk.
-/
namespace Go.Proofs.YtembfadhnkabhaaGreatDoor
open Go.AX Go.RF

set_option maxRecDepth 100000
set_option maxHeartbeats 8000000

theorem ok_addE (e : Engine) (l : List Deed) (N : Nat) (hz : Engine.Sz e N) (hd : ∀ d ∈ l, d.Sm) (hl : l.length ≤ 10000000) (hN : N + 5 * l.length ≤ 100000000) :
    FnOk Tryz.prog 11 [.d (.agg e.enc), .d (encDeeds l)] (.tup [.agg (addE e l).1.enc, dint (addE e l).2]) := by
  refine fnOk_of tbl_ok mixed_ok Tryz.func11 rfl (by kernel_rfl) rfl rfl fun w0 own0 => ?_
  repeat (first | ((with_reducible apply s1); exact rfl) | (with_reducible first | apply CW.seq | apply CW.block | apply CW.region | apply CW.draw | apply CW.skip | apply CW.exit | apply CW.ret | apply q_then | apply q_then_exit | apply q_then_ret | apply q_block | apply q_block_ret | apply q_block_hit | apply q_ret | apply q_end | apply q_loop_exit | apply q_loop_ret | apply q_loopT_exit | apply q_loopT_ret | apply RW.nil) | ((with_reducible apply s3); exact rfl; exact by_k) | ((with_reducible apply s2); exact rfl; exact by_k) | ((with_reducible apply s4); exact rfl) | ((with_reducible apply s5); (first | exact by_oa); exact by_g) | ((with_reducible apply CW.cond_t); exact rfl; exact by_ks) | ((with_reducible apply CW.cond_f); exact rfl; exact by_ks) | ((with_reducible apply q_block_miss); exact rfl) | (refine And.intro (show chk [] [] _ _ = true by kernel_rfl) ?_))
  refine CW.loopT (fun i : Nat => [sd 1 (encDeeds l), sp 2 0, ob 0 e.enc, sp 4 1, ob 1 noE.enc0, sd 5 (dint 0), sd 13 (encDeeds l), sd 14 (dint l.length), sd 15 (dint i), nxt 2])
    (fun i => i ≤ l.length ∧ wrongs (l.drop i) = wrongs l) (fun i => l.length - i) 0 ⟨by omega, rfl⟩ ?_ ?_
  ·
    exact by_less
  · rintro i ⟨hi, hI⟩
    rcases drop_case hi with ⟨h1, h2⟩ | ⟨d, h1, h2, h3⟩
    · rw [h1] at hI
      have hw0 : wrongs l = 0 := hI.symm
      have hres : addE e l = (addAll e l, 0) := by rw [addE, if_pos hw0]
      clear h1 hI
      rw [hres]
      repeat (first | ((with_reducible apply s1); exact rfl) | (with_reducible first | apply CW.seq | apply CW.block | apply CW.region | apply CW.draw | apply CW.skip | apply CW.exit | apply CW.ret | apply q_then | apply q_then_exit | apply q_then_ret | apply q_block | apply q_block_ret | apply q_block_hit | apply q_ret | apply q_end | apply q_loop_exit | apply q_loop_ret | apply q_loopT_exit | apply q_loopT_ret | apply RW.nil) | ((with_reducible apply s3); exact rfl; exact by_k) | ((with_reducible apply s2); exact rfl; exact by_k) | ((with_reducible apply s4); exact rfl) | ((with_reducible apply s5); (first | exact by_oa); exact by_g) | ((with_reducible apply CW.cond_t); exact rfl; exact by_ks) | ((with_reducible apply CW.cond_f); exact rfl; exact by_ks) | ((with_reducible apply q_block_miss); exact rfl) | (refine And.intro (show chk [] [] _ _ = true by kernel_rfl) ?_))
      refine CW.loopT (fun t : Nat × Engine => [sp 2 0, ob 0 t.2.enc, sp 4 1, ob 1 noE.enc0, sd 5 (dint 0), sd 26 (encDeeds l), sd 27 (dint l.length), sd 28 (dint t.1), nxt 2])
        (fun t => t.1 ≤ l.length ∧ Engine.Sz t.2 (N + 5 * t.1) ∧ addAll t.2 (l.drop t.1) = addAll e l) (fun t => l.length - t.1) (0, e) ⟨by omega, hz, rfl⟩ ?_ ?_
      ·
        exact by_less
      · rintro ⟨i, e'⟩ ⟨hi, hz', hI⟩
        dsimp only at hi hz' hI ⊢
        rcases drop_case hi with ⟨h1, h2⟩ | ⟨d, h1, h2, h3⟩
        · rw [h1] at hI
          simp only [addAll] at hI
          repeat (first | ((with_reducible apply s1); exact rfl) | (with_reducible first | apply CW.seq | apply CW.block | apply CW.region | apply CW.draw | apply CW.skip | apply CW.exit | apply CW.ret | apply q_then | apply q_then_exit | apply q_then_ret | apply q_block | apply q_block_ret | apply q_block_hit | apply q_ret | apply q_end | apply q_loop_exit | apply q_loop_ret | apply q_loopT_exit | apply q_loopT_ret | apply RW.nil) | ((with_reducible apply s3); exact rfl; exact by_k) | ((with_reducible apply s2); exact rfl; exact by_k) | ((with_reducible apply s4); exact rfl) | ((with_reducible apply s5); (first | exact by_oa); exact by_g) | ((with_reducible apply CW.cond_t); exact rfl; exact by_ks) | ((with_reducible apply CW.cond_f); exact rfl; exact by_ks) | ((with_reducible apply q_block_miss); exact rfl) | (refine And.intro (show chk [] [] _ _ = true by kernel_rfl) ?_))
          rw [← hI]
          exact .two (.cell rfl rfl rfl rfl (.aggd (ds := e'.enc) rfl (.refl _))) (.tmp rfl (.one (.d (.refl _))))
        · rw [h1] at hI
          simp only [addAll] at hI
          have hdm := List.mem_of_getElem? h2
          have hds := hd d hdm
          have hww := (wrong_writes (wrongs_mem hw0 d hdm)).2.1
          have hz2 := add1_sz hz' hds hww
          obtain ⟨chs, dds, sts, ens, bs⟩ := e'
          have hzc := hz'.c
          have hzv := hz'.v
          have hzd := hz'.d
          have hzs := hz'.s
          have hzn := hz'.n
          have hzb := hz'.b
          dsimp only at hzc hzv hzd hzs hzn hzb
          repeat (first | ((with_reducible apply s1); exact rfl) | (with_reducible first | apply CW.seq | apply CW.block | apply CW.region | apply CW.draw | apply CW.skip | apply CW.exit | apply CW.ret | apply q_then | apply q_then_exit | apply q_then_ret | apply q_block | apply q_block_ret | apply q_block_hit | apply q_ret | apply q_end | apply q_loop_exit | apply q_loop_ret | apply q_loopT_exit | apply q_loopT_ret | apply RW.nil) | ((with_reducible apply s3); exact rfl; exact by_k) | ((with_reducible apply s2); exact rfl; exact by_k) | ((with_reducible apply s4); exact rfl) | ((with_reducible apply s5); (first | exact by_oa); exact by_g) | ((with_reducible apply CW.cond_t); exact rfl; exact by_ks) | ((with_reducible apply CW.cond_f); exact rfl; exact by_ks) | ((with_reducible apply q_block_miss); exact rfl) | (refine And.intro (show chk [] [] _ _ = true by kernel_rfl) ?_))
          refine CW.loopT (fun t : Nat × List Chain => [sp 2 0, ob 0 (Engine.enc ⟨t.2, dds, sts, ens, bs⟩), sp 4 1, ob 1 noE.enc0, sd 5 (dint 0), sd 26 (encDeeds l), sd 27 (dint l.length), sd 28 (dint i), sp 10 2, ob 2 d.enc, sd 33 (encStrs d.writes), sd 34 (dint d.writes.length), sd 35 (dint t.1), nxt 3])
            (fun t => t.1 ≤ d.writes.length ∧ (t.2.length ≤ N + 5 * i + t.1 ∧ ∀ c ∈ t.2, c.vs.length ≤ N + 5 * i + t.1) ∧ addKeys (bs + dds.length) t.2 (d.writes.drop t.1) = addKeys (bs + dds.length) chs d.writes) (fun t => d.writes.length - t.1) (0, chs) ⟨by omega, ⟨hzc, hzv⟩, rfl⟩ ?_ ?_
          ·
            exact by_less
          · rintro ⟨j, cs⟩ ⟨hj, ⟨hcl, hcv⟩, hJ⟩
            dsimp only at hj hcl hcv hJ ⊢
            rcases drop_case hj with ⟨g1, g2⟩ | ⟨k, g1, g2, g3⟩
            · rw [g1] at hJ
              simp only [addKeys] at hJ
              subst hJ
              repeat (first | (with_reducible apply stop_reg 17) | ((with_reducible apply s1); exact rfl) | (with_reducible first | apply CW.seq | apply CW.block | apply CW.region | apply CW.draw | apply CW.skip | apply CW.exit | apply CW.ret | apply q_then | apply q_then_exit | apply q_then_ret | apply q_block | apply q_block_ret | apply q_block_hit | apply q_ret | apply q_end | apply q_loop_exit | apply q_loop_ret | apply q_loopT_exit | apply q_loopT_ret | apply RW.nil) | ((with_reducible apply s3); exact rfl; exact by_k) | ((with_reducible apply s2); exact rfl; exact by_k) | ((with_reducible apply s4); exact rfl) | ((with_reducible apply s5); (first | exact by_oa); exact by_g) | ((with_reducible apply CW.cond_t); exact rfl; exact by_ks) | ((with_reducible apply CW.cond_f); exact rfl; exact by_ks) | ((with_reducible apply q_block_miss); exact rfl) | (refine And.intro (show chk [] [] _ _ = true by kernel_rfl) ?_))
              refine Stop.go (CW.stut (stut_freeze_cell (id := 0) (j := 1) (i := 3) rfl (by simp)) ⟨rfl, rfl, trivial⟩ ?_)
              repeat (first | (with_reducible apply stop_region 18) | ((with_reducible apply s1); exact rfl) | (with_reducible first | apply CW.seq | apply CW.block | apply CW.region | apply CW.draw | apply CW.skip | apply CW.exit | apply CW.ret | apply q_then | apply q_then_exit | apply q_then_ret | apply q_block | apply q_block_ret | apply q_block_hit | apply q_ret | apply q_end | apply q_loop_exit | apply q_loop_ret | apply q_loopT_exit | apply q_loopT_ret | apply RW.nil) | ((with_reducible apply s3); exact rfl; exact by_k) | ((with_reducible apply s2); exact rfl; exact by_k) | ((with_reducible apply s4); exact rfl) | ((with_reducible apply s5); (first | exact by_oa); exact by_g) | ((with_reducible apply CW.cond_t); exact rfl; exact by_ks) | ((with_reducible apply CW.cond_f); exact rfl; exact by_ks) | ((with_reducible apply q_block_miss); exact rfl) | (refine And.intro (show chk [] [] _ _ = true by kernel_rfl) ?_))
              refine Stop.go (CW.stut (stut_freeze_cell (id := 0) (j := 2) (i := 4) rfl (by simp)) ⟨rfl, rfl, trivial⟩ ?_)
              repeat (first | (with_reducible apply stop_region 19) | ((with_reducible apply s1); exact rfl) | (with_reducible first | apply CW.seq | apply CW.block | apply CW.region | apply CW.draw | apply CW.skip | apply CW.exit | apply CW.ret | apply q_then | apply q_then_exit | apply q_then_ret | apply q_block | apply q_block_ret | apply q_block_hit | apply q_ret | apply q_end | apply q_loop_exit | apply q_loop_ret | apply q_loopT_exit | apply q_loopT_ret | apply RW.nil) | ((with_reducible apply s3); exact rfl; exact by_k) | ((with_reducible apply s2); exact rfl; exact by_k) | ((with_reducible apply s4); exact rfl) | ((with_reducible apply s5); (first | exact by_oa); exact by_g) | ((with_reducible apply CW.cond_t); exact rfl; exact by_ks) | ((with_reducible apply CW.cond_f); exact rfl; exact by_ks) | ((with_reducible apply q_block_miss); exact rfl) | (refine And.intro (show chk [] [] _ _ = true by kernel_rfl) ?_))
              refine Stop.go (CW.stut (stut_freeze_cell (id := 0) (j := 3) (i := 5) rfl (by simp)) ⟨rfl, rfl, trivial⟩ ?_)
              have hbox : [AV.d (encChains (addKeys (bs + dds.length) chs d.writes)), AV.d (.sl 3 (([] ++ dds.map Deed.enc) ++ [d.enc])), AV.d (.sl 1 (([] ++ sts.map encInt1) ++ [[dint 0]])), AV.d (.sl 5 (([] ++ ens.map Done.enc) ++ [done0.enc])), AV.d (dint bs)]
                  = (add1 ⟨chs, dds, sts, ens, bs⟩ d).enc.map AV.d := by
                simp [Engine.enc, add1, encDeeds, encInts, encEnds, encInt1]
              repeat (first | ((with_reducible apply s1); exact rfl) | (with_reducible first | apply CW.seq | apply CW.block | apply CW.region | apply CW.draw | apply CW.skip | apply CW.exit | apply CW.ret | apply q_then | apply q_then_exit | apply q_then_ret | apply q_block | apply q_block_ret | apply q_block_hit | apply q_ret | apply q_end | apply q_loop_exit | apply q_loop_ret | apply q_loopT_exit | apply q_loopT_ret | apply RW.nil) | ((with_reducible apply s3); exact rfl; exact by_k) | ((with_reducible apply s2); exact rfl; exact by_k) | ((with_reducible apply s4); exact rfl) | ((with_reducible apply s5); (first | exact by_oa); exact by_g) | ((with_reducible apply CW.cond_t); exact rfl; exact by_ks) | ((with_reducible apply CW.cond_f); exact rfl; exact by_ks) | ((with_reducible apply q_block_miss); exact rfl) | (refine And.intro (show chk [] [] _ _ = true by kernel_rfl) ?_))
              refine q_loopT (i + 1, add1 ⟨chs, dds, sts, ens, bs⟩ d) ⟨by dsimp only; omega, by dsimp only; rw [show N + 5 * (i + 1) = N + 5 * i + 5 by omega]; exact hz2, hI⟩ (by dsimp only; omega) ?_
              exact by_less
            · rw [g1] at hJ
              simp only [addKeys] at hJ
              have hlen : ((dds.map Deed.enc).length : Int) = dds.length := by simp
              have ca : FnOk Tryz.prog 30 [.d (encChains cs), .d (dstr k), .d (dint (bs + ((dds.map Deed.enc).length : Int)))] (.one (encChains (addC cs k (bs + dds.length)))) := by
                rw [hlen]
                exact ok_add cs k _ (by omega) (fun c hc => by have := hcv c hc; omega)
              repeat (first | ((with_reducible apply s1); exact rfl) | (with_reducible first | apply CW.seq | apply CW.block | apply CW.region | apply CW.draw | apply CW.skip | apply CW.exit | apply CW.ret | apply q_then | apply q_then_exit | apply q_then_ret | apply q_block | apply q_block_ret | apply q_block_hit | apply q_ret | apply q_end | apply q_loop_exit | apply q_loop_ret | apply q_loopT_exit | apply q_loopT_ret | apply RW.nil) | ((with_reducible apply s3); exact rfl; exact by_k) | ((with_reducible apply s2); exact rfl; exact by_k) | ((with_reducible apply s4); exact rfl) | ((with_reducible apply s5); (first | (focus ((with_reducible apply a_call); exact ca; exact rfl; (repeat (first | exact SubsE.nil | (apply SubsE.cons; exact rfl; (first | exact .d (.refl _) | exact .d (.nil _) | exact .agg rfl (.refl _) | exact .pd | exact .ptr rfl); (first | exact trivial | exact ⟨rfl, trivial⟩)))); done)) | exact by_oa); exact by_g) | ((with_reducible apply CW.cond_t); exact rfl; exact by_ks) | ((with_reducible apply CW.cond_f); exact rfl; exact by_ks) | ((with_reducible apply q_block_miss); exact rfl) | (refine And.intro (show chk [] [] _ _ = true by kernel_rfl) ?_))
              refine q_loopT (j + 1, addC cs k (bs + dds.length)) ⟨by dsimp only; omega, ⟨by have := addC_len cs k (bs + dds.length); dsimp only; omega, fun c hc => by have := addC_vs hcv c hc; dsimp only; omega⟩, hJ⟩ (by dsimp only; omega) ?_
              exact by_less
    · rw [h1] at hI
      simp only [wrongs] at hI
      have hds := hd d (List.mem_of_getElem? h2)
      have hc := ok_wrongDeed d hds.r hds.w hds.c hds.rk hds.wk
      by_cases h4 : wrongDeed d = 0
      · rw [if_pos h4] at hI
        repeat (first | ((with_reducible apply s1); exact rfl) | (with_reducible first | apply CW.seq | apply CW.block | apply CW.region | apply CW.draw | apply CW.skip | apply CW.exit | apply CW.ret | apply q_then | apply q_then_exit | apply q_then_ret | apply q_block | apply q_block_ret | apply q_block_hit | apply q_ret | apply q_end | apply q_loop_exit | apply q_loop_ret | apply q_loopT_exit | apply q_loopT_ret | apply RW.nil) | ((with_reducible apply s3); exact rfl; exact by_k) | ((with_reducible apply s2); exact rfl; exact by_k) | ((with_reducible apply s4); exact rfl) | ((with_reducible apply s5); (first | (focus ((with_reducible apply a_call); exact hc; exact rfl; (repeat (first | exact SubsE.nil | (apply SubsE.cons; exact rfl; (first | exact .d (.refl _) | exact .d (.nil _) | exact .agg rfl (.refl _) | exact .pd | exact .ptr rfl); (first | exact trivial | exact ⟨rfl, trivial⟩)))); done)) | exact by_oa); exact by_g) | ((with_reducible apply CW.cond_t); exact rfl; exact by_ks) | ((with_reducible apply CW.cond_f); exact rfl; exact by_ks) | ((with_reducible apply q_block_miss); exact rfl) | (refine And.intro (show chk [] [] _ _ = true by kernel_rfl) ?_))
        refine q_loopT (i + 1) ⟨by omega, hI⟩ (by omega) ?_
        exact by_less
      · rw [if_neg h4] at hI
        have hres : addE e l = (noE, wrongs l) := by rw [addE, if_neg (by rw [← hI]; exact h4)]
        rw [hres]
        repeat (first | ((with_reducible apply s1); exact rfl) | (with_reducible first | apply CW.seq | apply CW.block | apply CW.region | apply CW.draw | apply CW.skip | apply CW.exit | apply CW.ret | apply q_then | apply q_then_exit | apply q_then_ret | apply q_block | apply q_block_ret | apply q_block_hit | apply q_ret | apply q_end | apply q_loop_exit | apply q_loop_ret | apply q_loopT_exit | apply q_loopT_ret | apply RW.nil) | ((with_reducible apply s3); exact rfl; exact by_k) | ((with_reducible apply s2); exact rfl; exact by_k) | ((with_reducible apply s4); exact rfl) | ((with_reducible apply s5); (first | (focus ((with_reducible apply a_call); exact hc; exact rfl; (repeat (first | exact SubsE.nil | (apply SubsE.cons; exact rfl; (first | exact .d (.refl _) | exact .d (.nil _) | exact .agg rfl (.refl _) | exact .pd | exact .ptr rfl); (first | exact trivial | exact ⟨rfl, trivial⟩)))); done)) | exact by_oa); exact by_g) | ((with_reducible apply CW.cond_t); exact rfl; exact by_ks) | ((with_reducible apply CW.cond_f); exact rfl; exact by_ks) | ((with_reducible apply q_block_miss); exact rfl) | (refine And.intro (show chk [] [] _ _ = true by kernel_rfl) ?_))
        exact .two (.cell rfl rfl rfl rfl (.aggd (ds := noE.enc0) rfl (DLes.agg (.cons (dle_nil 2) (.cons (dle_nil 3) (.cons (dle_nil 1) (.cons (dle_nil 5) (.cons (.refl _) .nil)))))))) (.tmp rfl (.one (.d (dle_int hI))))

end Go.Proofs.YtembfadhnkabhaaGreatDoor

/-! F15 -/
/-
  Contracts of the references' Keys, Needs, Ready.
-/
namespace Go.Proofs.YtembfadhnkabhaaGreatDoor
open Go.AX Go.RF

set_option maxRecDepth 100000
set_option maxHeartbeats 4000000

theorem keysGo_len : ∀ (l out : List Str), (keysGo' out l).length ≤ out.length + l.length
  | [], out => by simp [keysGo']
  | k :: r, out => by
    have := keysGo_len r (if isIn out k = true then out else out ++ [k])
    simp only [keysGo']
    split at this <;> simp_all <;> omega
theorem keysD_len {d : Deed} (h : d.Sm) : (keysD d).length ≤ 536870912 := by
  have := keysGo_len (d.reads ++ d.writes) []
  have h1 := h.r
  have h2 := h.w
  simp at this
  unfold keysD
  omega

def needsAt (e : Engine) (at_ : Nat) : List Int := match e.deeds[at_]? with
  | some d => needs e at_ d
  | none => []
def readyGo (e : Engine) : Nat → List Int → List Int
  | _, [] => []
  | i, s :: r => if s = 0 ∧ needsAt e i = [] then (i : Int) :: readyGo e (i + 1) r else readyGo e (i + 1) r
def ready (e : Engine) : List Int := readyGo e 0 e.state

theorem needs_len (cs : List Chain) (base b : Int) (ks : List Str) : ∀ (l : List Nat) (j : Nat), (needsGo cs base b ks j l).length ≤ l.length
  | [], _ => by simp [needsGo]
  | k :: r, j => by
    have := needs_len cs base b ks r 0
    simp only [needsGo]
    split <;> simp <;> omega

end Go.Proofs.YtembfadhnkabhaaGreatDoor

/-! F3 -/
/-
  Contracts of the references' functions on rows, continued.
-/
namespace Go.Proofs.YtembfadhnkabhaaGreatDoor
open Go.AX Go.RF

set_option maxRecDepth 100000
set_option maxHeartbeats 4000000

theorem ok_put (l : List Pair) (k : Str) (n : Int) (hs : Bool) (hl : l.length ≤ 268435456) : FnOk Tryz.prog 57 [.d (encRows l), .d (dstr k), .d (dint n), .d (dbool hs)] (.one (encRows (put l k n hs))) := by
  refine fnOk_of tbl_ok mixed_ok Tryz.func57 rfl (by kernel_rfl) rfl rfl fun w0 own0 => ?_
  repeat (first | ((with_reducible apply s1); exact rfl) | (with_reducible first | apply CW.seq | apply CW.block | apply CW.region | apply CW.draw | apply CW.skip | apply CW.exit | apply CW.ret | apply q_then | apply q_then_exit | apply q_then_ret | apply q_block | apply q_block_ret | apply q_block_hit | apply q_ret | apply q_end | apply q_loop_exit | apply q_loop_ret | apply q_loopT_exit | apply q_loopT_ret | apply RW.nil) | ((with_reducible apply s3); exact rfl; exact by_k) | ((with_reducible apply s2); exact rfl; exact by_k) | ((with_reducible apply s4); exact rfl) | ((with_reducible apply s5); (first | exact by_oa); exact by_g) | ((with_reducible apply CW.cond_t); exact rfl; exact by_ks) | ((with_reducible apply CW.cond_f); exact rfl; exact by_ks) | ((with_reducible apply q_block_miss); exact rfl) | (refine And.intro (show chk [] [] _ _ = true by kernel_rfl) ?_))
  refine CW.stut (stut_promote (i := 9) 72 2) ⟨rfl, rfl, trivial⟩ ?_
  refine CW.loopT (fun t : Nat × Bool × List Pair => [(.s 1, .av (.d (dstr k))), (.s 2, .av (.d (dint n))), (.s 3, .av (.d (dbool hs))), (.s 9, .av (.own 0 t.2.2.length)), (.s 10, .av (.d (dbool t.2.1))), (.s 13, .av (.d (encRows l))), (.s 14, .av (.d (dint l.length))), (.s 15, .av (.d (dint t.1))), (.o 0, .ob (.arr 72 2 (t.2.2.map Pair.enc))), (.nx, .num 1)])
    (fun t => t.1 ≤ l.length ∧ t.2.2.length ≤ 2 * t.1 ∧ putGo k n hs t.2.1 t.2.2 (l.drop t.1) = put l k n hs) (fun t => l.length - t.1) (0, false, []) ⟨by omega, by simp, rfl⟩ ?_ ?_
  ·
    exact by_less
  · rintro ⟨i, done, out⟩ ⟨hi, ho, hI⟩
    dsimp only at hi ho hI ⊢
    rcases drop_case hi with ⟨h1, h2⟩ | ⟨p, h1, h2, h3⟩
    · rw [h1] at hI
      simp only [putGo] at hI
      cases done
      · cases hs
        ·
          repeat (first | ((with_reducible apply s1); exact rfl) | (with_reducible first | apply CW.seq | apply CW.block | apply CW.region | apply CW.draw | apply CW.skip | apply CW.exit | apply CW.ret | apply q_then | apply q_then_exit | apply q_then_ret | apply q_block | apply q_block_ret | apply q_block_hit | apply q_ret | apply q_end | apply q_loop_exit | apply q_loop_ret | apply q_loopT_exit | apply q_loopT_ret | apply RW.nil) | ((with_reducible apply s3); exact rfl; exact by_k) | ((with_reducible apply s2); exact rfl; exact by_k) | ((with_reducible apply s4); exact rfl) | ((with_reducible apply s5); (first | exact by_oa); exact by_g) | ((with_reducible apply CW.cond_t); exact rfl; exact by_ks) | ((with_reducible apply CW.cond_f); exact rfl; exact by_ks) | ((with_reducible apply q_block_miss); exact rfl) | (refine And.intro (show chk [] [] _ _ = true by kernel_rfl) ?_))
          exact .one (.tmp rfl (.one (.own rfl (by simp) (dle_eq (by rw [← hI]; rfl)))))
        ·
          repeat (first | ((with_reducible apply s1); exact rfl) | (with_reducible first | apply CW.seq | apply CW.block | apply CW.region | apply CW.draw | apply CW.skip | apply CW.exit | apply CW.ret | apply q_then | apply q_then_exit | apply q_then_ret | apply q_block | apply q_block_ret | apply q_block_hit | apply q_ret | apply q_end | apply q_loop_exit | apply q_loop_ret | apply q_loopT_exit | apply q_loopT_ret | apply RW.nil) | ((with_reducible apply s3); exact rfl; exact by_k) | ((with_reducible apply s2); exact rfl; exact by_k) | ((with_reducible apply s4); exact rfl) | ((with_reducible apply s5); (first | exact by_oa); exact by_g) | ((with_reducible apply CW.cond_t); exact rfl; exact by_ks) | ((with_reducible apply CW.cond_f); exact rfl; exact by_ks) | ((with_reducible apply q_block_miss); exact rfl) | (refine And.intro (show chk [] [] _ _ = true by kernel_rfl) ?_))
          exact .one (.tmp rfl (.one (.own rfl (by simp) (dle_eq (by rw [← hI]; simp [encRows]; rfl)))))
      ·
        repeat (first | ((with_reducible apply s1); exact rfl) | (with_reducible first | apply CW.seq | apply CW.block | apply CW.region | apply CW.draw | apply CW.skip | apply CW.exit | apply CW.ret | apply q_then | apply q_then_exit | apply q_then_ret | apply q_block | apply q_block_ret | apply q_block_hit | apply q_ret | apply q_end | apply q_loop_exit | apply q_loop_ret | apply q_loopT_exit | apply q_loopT_ret | apply RW.nil) | ((with_reducible apply s3); exact rfl; exact by_k) | ((with_reducible apply s2); exact rfl; exact by_k) | ((with_reducible apply s4); exact rfl) | ((with_reducible apply s5); (first | exact by_oa); exact by_g) | ((with_reducible apply CW.cond_t); exact rfl; exact by_ks) | ((with_reducible apply CW.cond_f); exact rfl; exact by_ks) | ((with_reducible apply q_block_miss); exact rfl) | (refine And.intro (show chk [] [] _ _ = true by kernel_rfl) ?_))
        exact .one (.tmp rfl (.one (.own rfl (by simp) (dle_eq (by rw [← hI]; rfl)))))
    · rw [h1] at hI
      simp only [putGo] at hI
      cases done <;> cases h5 : slt p.key k <;> cases hs <;> simp [h5] at hI <;> by_cases h4 : p.key = k <;> (first | rw [if_pos h4] at hI | rw [if_neg h4] at hI)
      all_goals
        repeat (first | ((with_reducible apply s1); exact rfl) | (with_reducible first | apply CW.seq | apply CW.block | apply CW.region | apply CW.draw | apply CW.skip | apply CW.exit | apply CW.ret | apply q_then | apply q_then_exit | apply q_then_ret | apply q_block | apply q_block_ret | apply q_block_hit | apply q_ret | apply q_end | apply q_loop_exit | apply q_loop_ret | apply q_loopT_exit | apply q_loopT_ret | apply RW.nil) | ((with_reducible apply s3); exact rfl; exact by_k) | ((with_reducible apply s2); exact rfl; exact by_k) | ((with_reducible apply s4); exact rfl) | ((with_reducible apply s5); (first | exact by_oa); exact by_g) | ((with_reducible apply CW.cond_t); exact rfl; exact by_ks) | ((with_reducible apply CW.cond_f); exact rfl; exact by_ks) | ((with_reducible apply q_block_miss); exact rfl) | (refine And.intro (show chk [] [] _ _ = true by kernel_rfl) ?_))
        refine q_loopT (i + 1, _, _) ⟨by omega, ?_, hI⟩ (by dsimp only; omega) ?_
        · dsimp only; (first | omega | (simp; omega))
        ·
          exact by_less

end Go.Proofs.YtembfadhnkabhaaGreatDoor

/-! F16 -/
/-
  Contracts of the references' Do and All.
-/
namespace Go.Proofs.YtembfadhnkabhaaGreatDoor
open Go.AX Go.RF

set_option maxRecDepth 100000
set_option maxHeartbeats 8000000

theorem ld_reg (e : Done) {A : Nat} (h : A < 4) {ti : TI} (hk : ti.kind = .int .i64) : ldA ti ((e.enc.map AV.d).drop (1 + A * 1)) = some (.d (dint (rget e A))) := by
  have : A = 0 ∨ A = 1 ∨ A = 2 ∨ A = 3 := by omega
  rcases this with rfl | rfl | rfl | rfl <;> simp [ldA, hk, Done.enc, rget]
theorem st_reg (e : Done) {A : Nat} (h : A < 4) (x : Int) : putCells (e.enc.map AV.d) (1 + A * 1) [.d (dint x)] = (rset e A x).enc.map AV.d := by
  have : A = 0 ∨ A = 1 ∨ A = 2 ∨ A = 3 := by omega
  rcases this with rfl | rfl | rfl | rfl <;> rfl
theorem fit_reg (e : Done) {A : Nat} (h : A < 4) : Nat.ble ((1 + A * 1) + 1) (e.enc.map AV.d).length = true := by
  simp [Done.enc]; omega

theorem mul_bound {a b : Int} (ha : -1073741824 ≤ a ∧ a ≤ 1073741824) (hb : -1073741824 ≤ b ∧ b ≤ 1073741824) : -1152921504606846976 ≤ a * b ∧ a * b ≤ 1152921504606846976 := by
  have h1 : (a * b).natAbs ≤ 1073741824 * 1073741824 := by
    rw [Int.natAbs_mul]
    exact Nat.mul_le_mul (by omega) (by omega)
  omega

theorem ok_do (r : List Pair) (d : Deed) (hl : r.length ≤ 134217728) (hr : rowsOk r) (hc : d.code.length ≤ 134217728) (hi : ∀ i ∈ d.code, i.Ok) :
    FnOk Tryz.prog 32 [.d (encRows r), .d (.agg d.enc)] (.tup [encRows (doD r d).1, .agg (doD r d).2.enc]) := by
  refine fnOk_of tbl_ok mixed_ok Tryz.func32 rfl (by kernel_rfl) rfl rfl fun w0 own0 => ?_
  repeat (first | ((with_reducible apply s1); exact rfl) | (with_reducible first | apply CW.seq | apply CW.block | apply CW.region | apply CW.draw | apply CW.skip | apply CW.exit | apply CW.ret | apply q_then | apply q_then_exit | apply q_then_ret | apply q_block | apply q_block_ret | apply q_block_hit | apply q_ret | apply q_end | apply q_loop_exit | apply q_loop_ret | apply q_loopT_exit | apply q_loopT_ret | apply RW.nil) | ((with_reducible apply s3); exact rfl; exact by_k) | ((with_reducible apply s2); exact rfl; exact by_k) | ((with_reducible apply s4); exact rfl) | ((with_reducible apply s5); (first | exact by_oa); exact by_g) | ((with_reducible apply CW.cond_t); exact rfl; exact by_ks) | ((with_reducible apply CW.cond_f); exact rfl; exact by_ks) | ((with_reducible apply q_block_miss); exact rfl) | (refine And.intro (show chk [] [] _ _ = true by kernel_rfl) ?_))
  refine CW.loopT (fun t : Nat × Int × List Pair × Done => [sd 0 (encRows r), sp 3 0, ob 0 d.enc, sp 5 1, ob 1 done0.enc, sd 6 (encRows t.2.2.1), sp 7 2, ob 2 t.2.2.2.enc, sd 8 (dint t.2.1), sd 16 (encCode d.code), sd 17 (dint d.code.length), sd 18 (dint t.1), nxt 3])
    (fun t => t.1 ≤ d.code.length ∧ t.2.2.1.length ≤ r.length + t.1 ∧ rowsOk t.2.2.1 ∧ t.2.2.2.Ok ∧ t.2.2.2.failed = false ∧ (0 ≤ t.2.1 ∧ t.2.1 ≤ 1073741824) ∧ doGo r t.2.1 t.2.2.1 t.2.2.2 (d.code.drop t.1) = doD r d)
    (fun t => d.code.length - t.1) (0, 0, r, done0) ⟨by omega, by simp, hr, ⟨by simp [nOk, done0], by simp [nOk, done0], by simp [nOk, done0], by simp [nOk, done0]⟩, rfl, by simp, rfl⟩ ?_ ?_
  ·
    exact by_less
  · rintro ⟨x, sk, now, e⟩ ⟨hx, hn, hrow, hreg, hf, hsk, hI⟩
    dsimp only at hx hn hrow hreg hf hsk hI ⊢
    rcases drop_case hx with ⟨h1, h2⟩ | ⟨i, h1, h2, h3⟩
    · rw [h1] at hI
      simp only [doGo] at hI
      repeat (first | ((with_reducible apply s1); exact rfl) | (with_reducible first | apply CW.seq | apply CW.block | apply CW.region | apply CW.draw | apply CW.skip | apply CW.exit | apply CW.ret | apply q_then | apply q_then_exit | apply q_then_ret | apply q_block | apply q_block_ret | apply q_block_hit | apply q_ret | apply q_end | apply q_loop_exit | apply q_loop_ret | apply q_loopT_exit | apply q_loopT_ret | apply RW.nil) | ((with_reducible apply s3); exact rfl; exact by_k) | ((with_reducible apply s2); exact rfl; exact by_k) | ((with_reducible apply s4); exact rfl) | ((with_reducible apply s5); (first | exact by_oa); exact by_g) | ((with_reducible apply CW.cond_t); exact rfl; exact by_ks) | ((with_reducible apply CW.cond_f); exact rfl; exact by_ks) | ((with_reducible apply q_block_miss); exact rfl) | (refine And.intro (show chk [] [] _ _ = true by kernel_rfl) ?_))
      rw [← hI]
      exact .two (.tmp rfl (.one (.d (.refl _)))) (.cell rfl rfl rfl rfl (.aggd rfl (.refl _)))
    · rw [h1] at hI
      simp only [doGo] at hI
      have hio := hi i (List.mem_of_getElem? h2)
      by_cases h4 : 0 < sk
      · rw [if_pos h4] at hI
        repeat (first | ((with_reducible apply s1); exact rfl) | (with_reducible first | apply CW.seq | apply CW.block | apply CW.region | apply CW.draw | apply CW.skip | apply CW.exit | apply CW.ret | apply q_then | apply q_then_exit | apply q_then_ret | apply q_block | apply q_block_ret | apply q_block_hit | apply q_ret | apply q_end | apply q_loop_exit | apply q_loop_ret | apply q_loopT_exit | apply q_loopT_ret | apply RW.nil) | ((with_reducible apply s3); exact rfl; exact by_k) | ((with_reducible apply s2); exact rfl; exact by_k) | ((with_reducible apply s4); exact rfl) | ((with_reducible apply s5); (first | exact by_oa); exact by_g) | ((with_reducible apply CW.cond_t); exact rfl; exact by_ks) | ((with_reducible apply CW.cond_f); exact rfl; exact by_ks) | ((with_reducible apply q_block_miss); exact rfl) | (refine And.intro (show chk [] [] _ _ = true by kernel_rfl) ?_))
        refine q_loopT (x + 1, sk - 1, now, e) ⟨by dsimp only; omega, by dsimp only; omega, hrow, hreg, hf, by dsimp only; omega, hI⟩ (by dsimp only; omega) ?_
        exact by_less
      rw [if_neg h4] at hI
      obtain ⟨kd, ia, ib, n, key⟩ := i
      obtain ⟨A, rfl⟩ := Int.eq_ofNat_of_zero_le hio.a.1
      obtain ⟨B, rfl⟩ := Int.eq_ofNat_of_zero_le hio.b.1
      have hA : A < 4 := by have := hio.a.2; dsimp only at this; omega
      have hB : B < 4 := by have := hio.b.2; dsimp only at this; omega
      have hga := rget_ok hreg A
      have hgb := rget_ok hreg B
      have hst := fun y => st_reg e hA y
      have hfit := fit_reg e hA
      have hself := rset_self e A
      have hk := hio.k
      have hcn := hio.c
      have hcs := hio.s
      dsimp only [Int.toNat_natCast] at hI hk hcn hcs
      have hkd : kd = 1 ∨ kd = 2 ∨ kd = 3 ∨ kd = 4 ∨ kd = 5 ∨ kd = 6 ∨ kd = 7 ∨ kd = 8 ∨ kd = 9 := by omega
      clear hk hio h1
      unfold nOk at hga hgb
      have cg := ok_get now key (by omega)
      have hh := fun (k : Nat) (h : k < 10) => ok_has k 114 h
      rcases hkd with rfl | rfl | rfl | rfl | rfl | rfl | rfl | rfl | rfl
      · rw [if_pos rfl] at hI
        have ch := hh 1 (by omega)
        rw [show has 1 114 = true from by decide] at ch
        have hs := hst (RF.get now key).1
        repeat (first | ((with_reducible apply s1); exact rfl) | (with_reducible first | apply CW.seq | apply CW.block | apply CW.region | apply CW.draw | apply CW.skip | apply CW.exit | apply CW.ret | apply q_then | apply q_then_exit | apply q_then_ret | apply q_block | apply q_block_ret | apply q_block_hit | apply q_ret | apply q_end | apply q_loop_exit | apply q_loop_ret | apply q_loopT_exit | apply q_loopT_ret | apply RW.nil) | ((with_reducible apply s3); exact rfl; exact by_k) | ((with_reducible apply s2); exact rfl; exact by_k) | ((with_reducible apply s4); exact rfl) | ((with_reducible apply s5); (first | (focus ((with_reducible apply a_call); exact cg; exact rfl; (repeat (first | exact SubsE.nil | (apply SubsE.cons; exact rfl; (first | exact .d (.refl _) | exact .d (.nil _) | exact .agg rfl (.refl _) | exact .pd | exact .ptr rfl); (first | exact trivial | exact ⟨rfl, trivial⟩)))); done)) | (focus ((with_reducible apply a_call); exact ch; exact rfl; (repeat (first | exact SubsE.nil | (apply SubsE.cons; exact rfl; (first | exact .d (.refl _) | exact .d (.nil _) | exact .agg rfl (.refl _) | exact .pd | exact .ptr rfl); (first | exact trivial | exact ⟨rfl, trivial⟩)))); done)) | ((with_reducible apply a_lptr); (iterate 4 exact rfl); exact ld_reg e hA rfl) | ((with_reducible apply a_lptr); (iterate 4 exact rfl); exact ld_reg e hB rfl) | ((with_reducible apply a_store); (iterate 6 exact rfl); exact hfit; exact ⟨rfl, trivial⟩) | exact by_oa); exact by_g) | ((with_reducible apply CW.cond_t); exact rfl; exact by_ks) | ((with_reducible apply CW.cond_f); exact rfl; exact by_ks) | ((with_reducible apply q_block_miss); exact rfl) | (refine And.intro (show chk [] [] _ _ = true by kernel_rfl) ?_))
        refine q_loopT (x + 1, sk, now, rset e A (RF.get now key).1) ⟨by dsimp only; omega, by dsimp only; omega, hrow, rset_ok hreg A (get_ok hrow key), by rw [rset_failed]; exact hf, hsk, hI⟩ (by dsimp only; omega) ?_
        exact by_less
      · rw [if_neg (show ¬ (2 : Int) = 1 by decide), if_pos rfl] at hI
        have ch := hh 2 (by omega)
        rw [show has 2 114 = true from by decide] at ch
        have hs := hst n
        repeat (first | ((with_reducible apply s1); exact rfl) | (with_reducible first | apply CW.seq | apply CW.block | apply CW.region | apply CW.draw | apply CW.skip | apply CW.exit | apply CW.ret | apply q_then | apply q_then_exit | apply q_then_ret | apply q_block | apply q_block_ret | apply q_block_hit | apply q_ret | apply q_end | apply q_loop_exit | apply q_loop_ret | apply q_loopT_exit | apply q_loopT_ret | apply RW.nil) | ((with_reducible apply s3); exact rfl; exact by_k) | ((with_reducible apply s2); exact rfl; exact by_k) | ((with_reducible apply s4); exact rfl) | ((with_reducible apply s5); (first | (focus ((with_reducible apply a_call); exact ch; exact rfl; (repeat (first | exact SubsE.nil | (apply SubsE.cons; exact rfl; (first | exact .d (.refl _) | exact .d (.nil _) | exact .agg rfl (.refl _) | exact .pd | exact .ptr rfl); (first | exact trivial | exact ⟨rfl, trivial⟩)))); done)) | ((with_reducible apply a_lptr); (iterate 4 exact rfl); exact ld_reg e hA rfl) | ((with_reducible apply a_lptr); (iterate 4 exact rfl); exact ld_reg e hB rfl) | ((with_reducible apply a_store); (iterate 6 exact rfl); exact hfit; exact ⟨rfl, trivial⟩) | exact by_oa); exact by_g) | ((with_reducible apply CW.cond_t); exact rfl; exact by_ks) | ((with_reducible apply CW.cond_f); exact rfl; exact by_ks) | ((with_reducible apply q_block_miss); exact rfl) | (refine And.intro (show chk [] [] _ _ = true by kernel_rfl) ?_))
        refine q_loopT (x + 1, sk, now, rset e A n) ⟨by dsimp only; omega, by dsimp only; omega, hrow, rset_ok hreg A (hcn rfl), by rw [rset_failed]; exact hf, hsk, hI⟩ (by dsimp only; omega) ?_
        exact by_less
      · rw [if_neg (show ¬ (3 : Int) = 1 by decide), if_neg (show ¬ (3 : Int) = 2 by decide), if_pos rfl] at hI
        have ch := hh 3 (by omega)
        rw [show has 3 114 = true from by decide] at ch
        have hs := hst (round (rget e A + rget e B))
        have cr := ok_round (rget e A + rget e B) (by omega)
        repeat (first | ((with_reducible apply s1); exact rfl) | (with_reducible first | apply CW.seq | apply CW.block | apply CW.region | apply CW.draw | apply CW.skip | apply CW.exit | apply CW.ret | apply q_then | apply q_then_exit | apply q_then_ret | apply q_block | apply q_block_ret | apply q_block_hit | apply q_ret | apply q_end | apply q_loop_exit | apply q_loop_ret | apply q_loopT_exit | apply q_loopT_ret | apply RW.nil) | ((with_reducible apply s3); exact rfl; exact by_k) | ((with_reducible apply s2); exact rfl; exact by_k) | ((with_reducible apply s4); exact rfl) | ((with_reducible apply s5); (first | (focus ((with_reducible apply a_call); exact cr; exact rfl; (repeat (first | exact SubsE.nil | (apply SubsE.cons; exact rfl; (first | exact .d (.refl _) | exact .d (.nil _) | exact .agg rfl (.refl _) | exact .pd | exact .ptr rfl); (first | exact trivial | exact ⟨rfl, trivial⟩)))); done)) | (focus ((with_reducible apply a_call); exact ch; exact rfl; (repeat (first | exact SubsE.nil | (apply SubsE.cons; exact rfl; (first | exact .d (.refl _) | exact .d (.nil _) | exact .agg rfl (.refl _) | exact .pd | exact .ptr rfl); (first | exact trivial | exact ⟨rfl, trivial⟩)))); done)) | ((with_reducible apply a_lptr); (iterate 4 exact rfl); exact ld_reg e hA rfl) | ((with_reducible apply a_lptr); (iterate 4 exact rfl); exact ld_reg e hB rfl) | ((with_reducible apply a_store); (iterate 6 exact rfl); exact hfit; exact ⟨rfl, trivial⟩) | ((with_reducible apply a_bin); (iterate 2 exact rfl); (apply bin_add; omega); exact rfl) | exact by_oa); exact by_g) | ((with_reducible apply CW.cond_t); exact rfl; exact by_ks) | ((with_reducible apply CW.cond_f); exact rfl; exact by_ks) | ((with_reducible apply q_block_miss); exact rfl) | (refine And.intro (show chk [] [] _ _ = true by kernel_rfl) ?_))
        refine q_loopT (x + 1, sk, now, rset e A (round (rget e A + rget e B))) ⟨by dsimp only; omega, by dsimp only; omega, hrow, rset_ok hreg A (round_ok _), by rw [rset_failed]; exact hf, hsk, hI⟩ (by dsimp only; omega) ?_
        exact by_less
      · rw [if_neg (show ¬ (4 : Int) = 1 by decide), if_neg (show ¬ (4 : Int) = 2 by decide), if_neg (show ¬ (4 : Int) = 3 by decide), if_pos rfl] at hI
        have ch := hh 4 (by omega)
        rw [show has 4 114 = true from by decide] at ch
        have hs := hst (round (rget e A - rget e B))
        have cr := ok_round (rget e A - rget e B) (by omega)
        repeat (first | ((with_reducible apply s1); exact rfl) | (with_reducible first | apply CW.seq | apply CW.block | apply CW.region | apply CW.draw | apply CW.skip | apply CW.exit | apply CW.ret | apply q_then | apply q_then_exit | apply q_then_ret | apply q_block | apply q_block_ret | apply q_block_hit | apply q_ret | apply q_end | apply q_loop_exit | apply q_loop_ret | apply q_loopT_exit | apply q_loopT_ret | apply RW.nil) | ((with_reducible apply s3); exact rfl; exact by_k) | ((with_reducible apply s2); exact rfl; exact by_k) | ((with_reducible apply s4); exact rfl) | ((with_reducible apply s5); (first | (focus ((with_reducible apply a_call); exact cr; exact rfl; (repeat (first | exact SubsE.nil | (apply SubsE.cons; exact rfl; (first | exact .d (.refl _) | exact .d (.nil _) | exact .agg rfl (.refl _) | exact .pd | exact .ptr rfl); (first | exact trivial | exact ⟨rfl, trivial⟩)))); done)) | (focus ((with_reducible apply a_call); exact ch; exact rfl; (repeat (first | exact SubsE.nil | (apply SubsE.cons; exact rfl; (first | exact .d (.refl _) | exact .d (.nil _) | exact .agg rfl (.refl _) | exact .pd | exact .ptr rfl); (first | exact trivial | exact ⟨rfl, trivial⟩)))); done)) | ((with_reducible apply a_lptr); (iterate 4 exact rfl); exact ld_reg e hA rfl) | ((with_reducible apply a_lptr); (iterate 4 exact rfl); exact ld_reg e hB rfl) | ((with_reducible apply a_store); (iterate 6 exact rfl); exact hfit; exact ⟨rfl, trivial⟩) | ((with_reducible apply a_bin); (iterate 2 exact rfl); (apply bin_sub; omega); exact rfl) | exact by_oa); exact by_g) | ((with_reducible apply CW.cond_t); exact rfl; exact by_ks) | ((with_reducible apply CW.cond_f); exact rfl; exact by_ks) | ((with_reducible apply q_block_miss); exact rfl) | (refine And.intro (show chk [] [] _ _ = true by kernel_rfl) ?_))
        refine q_loopT (x + 1, sk, now, rset e A (round (rget e A - rget e B))) ⟨by dsimp only; omega, by dsimp only; omega, hrow, rset_ok hreg A (round_ok _), by rw [rset_failed]; exact hf, hsk, hI⟩ (by dsimp only; omega) ?_
        exact by_less
      · rw [if_neg (show ¬ (5 : Int) = 1 by decide), if_neg (show ¬ (5 : Int) = 2 by decide), if_neg (show ¬ (5 : Int) = 3 by decide), if_neg (show ¬ (5 : Int) = 4 by decide), if_pos rfl] at hI
        have ch := hh 5 (by omega)
        rw [show has 5 114 = true from by decide] at ch
        have hmul : -1152921504606846976 ≤ rget e A * rget e B ∧ rget e A * rget e B ≤ 1152921504606846976 := mul_bound hga hgb
        have hs := hst (round (rget e A * rget e B))
        have cr := ok_round (rget e A * rget e B) (by omega)
        repeat (first | ((with_reducible apply s1); exact rfl) | (with_reducible first | apply CW.seq | apply CW.block | apply CW.region | apply CW.draw | apply CW.skip | apply CW.exit | apply CW.ret | apply q_then | apply q_then_exit | apply q_then_ret | apply q_block | apply q_block_ret | apply q_block_hit | apply q_ret | apply q_end | apply q_loop_exit | apply q_loop_ret | apply q_loopT_exit | apply q_loopT_ret | apply RW.nil) | ((with_reducible apply s3); exact rfl; exact by_k) | ((with_reducible apply s2); exact rfl; exact by_k) | ((with_reducible apply s4); exact rfl) | ((with_reducible apply s5); (first | (focus ((with_reducible apply a_call); exact cr; exact rfl; (repeat (first | exact SubsE.nil | (apply SubsE.cons; exact rfl; (first | exact .d (.refl _) | exact .d (.nil _) | exact .agg rfl (.refl _) | exact .pd | exact .ptr rfl); (first | exact trivial | exact ⟨rfl, trivial⟩)))); done)) | (focus ((with_reducible apply a_call); exact ch; exact rfl; (repeat (first | exact SubsE.nil | (apply SubsE.cons; exact rfl; (first | exact .d (.refl _) | exact .d (.nil _) | exact .agg rfl (.refl _) | exact .pd | exact .ptr rfl); (first | exact trivial | exact ⟨rfl, trivial⟩)))); done)) | ((with_reducible apply a_lptr); (iterate 4 exact rfl); exact ld_reg e hA rfl) | ((with_reducible apply a_lptr); (iterate 4 exact rfl); exact ld_reg e hB rfl) | ((with_reducible apply a_store); (iterate 6 exact rfl); exact hfit; exact ⟨rfl, trivial⟩) | ((with_reducible apply a_bin); (iterate 2 exact rfl); (apply bin_mul; omega); exact rfl) | exact by_oa); exact by_g) | ((with_reducible apply CW.cond_t); exact rfl; exact by_ks) | ((with_reducible apply CW.cond_f); exact rfl; exact by_ks) | ((with_reducible apply q_block_miss); exact rfl) | (refine And.intro (show chk [] [] _ _ = true by kernel_rfl) ?_))
        refine q_loopT (x + 1, sk, now, rset e A (round (rget e A * rget e B))) ⟨by dsimp only; omega, by dsimp only; omega, hrow, rset_ok hreg A (round_ok _), by rw [rset_failed]; exact hf, hsk, hI⟩ (by dsimp only; omega) ?_
        exact by_less
      · rw [if_neg (show ¬ (6 : Int) = 1 by decide), if_neg (show ¬ (6 : Int) = 2 by decide), if_neg (show ¬ (6 : Int) = 3 by decide), if_neg (show ¬ (6 : Int) = 4 by decide), if_neg (show ¬ (6 : Int) = 5 by decide), if_pos rfl] at hI
        have ch := hh 6 (by omega)
        rw [show has 6 114 = true from by decide] at ch
        have hs : putCells (e.enc.map AV.d) (1 + A * 1) [.d (dint (rget e A))] = e.enc.map AV.d := by rw [hst, hself]
        have cp := ok_put now key (rget e A) true (by omega)
        have hpl := put_len now key (rget e A) true
        repeat (first | ((with_reducible apply s1); exact rfl) | (with_reducible first | apply CW.seq | apply CW.block | apply CW.region | apply CW.draw | apply CW.skip | apply CW.exit | apply CW.ret | apply q_then | apply q_then_exit | apply q_then_ret | apply q_block | apply q_block_ret | apply q_block_hit | apply q_ret | apply q_end | apply q_loop_exit | apply q_loop_ret | apply q_loopT_exit | apply q_loopT_ret | apply RW.nil) | ((with_reducible apply s3); exact rfl; exact by_k) | ((with_reducible apply s2); exact rfl; exact by_k) | ((with_reducible apply s4); exact rfl) | ((with_reducible apply s5); (first | (focus ((with_reducible apply a_call); exact cp; exact rfl; (repeat (first | exact SubsE.nil | (apply SubsE.cons; exact rfl; (first | exact .d (.refl _) | exact .d (.nil _) | exact .agg rfl (.refl _) | exact .pd | exact .ptr rfl); (first | exact trivial | exact ⟨rfl, trivial⟩)))); done)) | (focus ((with_reducible apply a_call); exact ch; exact rfl; (repeat (first | exact SubsE.nil | (apply SubsE.cons; exact rfl; (first | exact .d (.refl _) | exact .d (.nil _) | exact .agg rfl (.refl _) | exact .pd | exact .ptr rfl); (first | exact trivial | exact ⟨rfl, trivial⟩)))); done)) | ((with_reducible apply a_lptr); (iterate 4 exact rfl); exact ld_reg e hA rfl) | ((with_reducible apply a_lptr); (iterate 4 exact rfl); exact ld_reg e hB rfl) | ((with_reducible apply a_store); (iterate 6 exact rfl); exact hfit; exact ⟨rfl, trivial⟩) | exact by_oa); exact by_g) | ((with_reducible apply CW.cond_t); exact rfl; exact by_ks) | ((with_reducible apply CW.cond_f); exact rfl; exact by_ks) | ((with_reducible apply q_block_miss); exact rfl) | (refine And.intro (show chk [] [] _ _ = true by kernel_rfl) ?_))
        refine q_loopT (x + 1, sk, put now key (rget e A) true, e) ⟨by dsimp only; omega, by dsimp only; omega, put_ok hrow key (rget_ok hreg A) true, hreg, hf, hsk, hI⟩ (by dsimp only; omega) ?_
        exact by_less
      · rw [if_neg (show ¬ (7 : Int) = 1 by decide), if_neg (show ¬ (7 : Int) = 2 by decide), if_neg (show ¬ (7 : Int) = 3 by decide), if_neg (show ¬ (7 : Int) = 4 by decide), if_neg (show ¬ (7 : Int) = 5 by decide), if_neg (show ¬ (7 : Int) = 6 by decide), if_pos rfl] at hI
        have ch := hh 7 (by omega)
        rw [show has 7 114 = false from by decide] at ch
        have cp := ok_put now key 0 false (by omega)
        have hpl := put_len now key 0 false
        repeat (first | ((with_reducible apply s1); exact rfl) | (with_reducible first | apply CW.seq | apply CW.block | apply CW.region | apply CW.draw | apply CW.skip | apply CW.exit | apply CW.ret | apply q_then | apply q_then_exit | apply q_then_ret | apply q_block | apply q_block_ret | apply q_block_hit | apply q_ret | apply q_end | apply q_loop_exit | apply q_loop_ret | apply q_loopT_exit | apply q_loopT_ret | apply RW.nil) | ((with_reducible apply s3); exact rfl; exact by_k) | ((with_reducible apply s2); exact rfl; exact by_k) | ((with_reducible apply s4); exact rfl) | ((with_reducible apply s5); (first | (focus ((with_reducible apply a_call); exact cp; exact rfl; (repeat (first | exact SubsE.nil | (apply SubsE.cons; exact rfl; (first | exact .d (.refl _) | exact .d (.nil _) | exact .agg rfl (.refl _) | exact .pd | exact .ptr rfl); (first | exact trivial | exact ⟨rfl, trivial⟩)))); done)) | (focus ((with_reducible apply a_call); exact ch; exact rfl; (repeat (first | exact SubsE.nil | (apply SubsE.cons; exact rfl; (first | exact .d (.refl _) | exact .d (.nil _) | exact .agg rfl (.refl _) | exact .pd | exact .ptr rfl); (first | exact trivial | exact ⟨rfl, trivial⟩)))); done)) | ((with_reducible apply a_lptr); (iterate 4 exact rfl); exact ld_reg e hA rfl) | ((with_reducible apply a_lptr); (iterate 4 exact rfl); exact ld_reg e hB rfl) | ((with_reducible apply a_store); (iterate 6 exact rfl); exact hfit; exact ⟨rfl, trivial⟩) | exact by_oa); exact by_g) | ((with_reducible apply CW.cond_t); exact rfl; exact by_ks) | ((with_reducible apply CW.cond_f); exact rfl; exact by_ks) | ((with_reducible apply q_block_miss); exact rfl) | (refine And.intro (show chk [] [] _ _ = true by kernel_rfl) ?_))
        refine q_loopT (x + 1, sk, put now key 0 false, e) ⟨by dsimp only; omega, by dsimp only; omega, put_ok hrow key (by simp [nOk]) false, hreg, hf, hsk, hI⟩ (by dsimp only; omega) ?_
        exact by_less
      · rw [if_neg (show ¬ (8 : Int) = 1 by decide), if_neg (show ¬ (8 : Int) = 2 by decide), if_neg (show ¬ (8 : Int) = 3 by decide), if_neg (show ¬ (8 : Int) = 4 by decide), if_neg (show ¬ (8 : Int) = 5 by decide), if_neg (show ¬ (8 : Int) = 6 by decide), if_neg (show ¬ (8 : Int) = 7 by decide), if_pos rfl] at hI
        have ch := hh 8 (by omega)
        rw [show has 8 114 = true from by decide] at ch
        have hs : putCells (e.enc.map AV.d) (1 + A * 1) [.d (dint (rget e A))] = e.enc.map AV.d := by rw [hst, hself]
        by_cases h5 : rget e A < 1
        · rw [if_pos h5] at hI
          repeat (first | ((with_reducible apply s1); exact rfl) | (with_reducible first | apply CW.seq | apply CW.block | apply CW.region | apply CW.draw | apply CW.skip | apply CW.exit | apply CW.ret | apply q_then | apply q_then_exit | apply q_then_ret | apply q_block | apply q_block_ret | apply q_block_hit | apply q_ret | apply q_end | apply q_loop_exit | apply q_loop_ret | apply q_loopT_exit | apply q_loopT_ret | apply RW.nil) | ((with_reducible apply s3); exact rfl; exact by_k) | ((with_reducible apply s2); exact rfl; exact by_k) | ((with_reducible apply s4); exact rfl) | ((with_reducible apply s5); (first | (focus ((with_reducible apply a_call); exact ch; exact rfl; (repeat (first | exact SubsE.nil | (apply SubsE.cons; exact rfl; (first | exact .d (.refl _) | exact .d (.nil _) | exact .agg rfl (.refl _) | exact .pd | exact .ptr rfl); (first | exact trivial | exact ⟨rfl, trivial⟩)))); done)) | ((with_reducible apply a_lptr); (iterate 4 exact rfl); exact ld_reg e hA rfl) | ((with_reducible apply a_lptr); (iterate 4 exact rfl); exact ld_reg e hB rfl) | ((with_reducible apply a_store); (iterate 6 exact rfl); exact hfit; exact ⟨rfl, trivial⟩) | exact by_oa); exact by_g) | ((with_reducible apply CW.cond_t); exact rfl; exact by_ks) | ((with_reducible apply CW.cond_f); exact rfl; exact by_ks) | ((with_reducible apply q_block_miss); exact rfl) | (refine And.intro (show chk [] [] _ _ = true by kernel_rfl) ?_))
          refine q_loopT (x + 1, n, now, e) ⟨by dsimp only; omega, by dsimp only; omega, hrow, hreg, hf, hcs rfl, hI⟩ (by dsimp only; omega) ?_
          exact by_less
        · rw [if_neg h5] at hI
          repeat (first | ((with_reducible apply s1); exact rfl) | (with_reducible first | apply CW.seq | apply CW.block | apply CW.region | apply CW.draw | apply CW.skip | apply CW.exit | apply CW.ret | apply q_then | apply q_then_exit | apply q_then_ret | apply q_block | apply q_block_ret | apply q_block_hit | apply q_ret | apply q_end | apply q_loop_exit | apply q_loop_ret | apply q_loopT_exit | apply q_loopT_ret | apply RW.nil) | ((with_reducible apply s3); exact rfl; exact by_k) | ((with_reducible apply s2); exact rfl; exact by_k) | ((with_reducible apply s4); exact rfl) | ((with_reducible apply s5); (first | (focus ((with_reducible apply a_call); exact ch; exact rfl; (repeat (first | exact SubsE.nil | (apply SubsE.cons; exact rfl; (first | exact .d (.refl _) | exact .d (.nil _) | exact .agg rfl (.refl _) | exact .pd | exact .ptr rfl); (first | exact trivial | exact ⟨rfl, trivial⟩)))); done)) | ((with_reducible apply a_lptr); (iterate 4 exact rfl); exact ld_reg e hA rfl) | ((with_reducible apply a_lptr); (iterate 4 exact rfl); exact ld_reg e hB rfl) | ((with_reducible apply a_store); (iterate 6 exact rfl); exact hfit; exact ⟨rfl, trivial⟩) | exact by_oa); exact by_g) | ((with_reducible apply CW.cond_t); exact rfl; exact by_ks) | ((with_reducible apply CW.cond_f); exact rfl; exact by_ks) | ((with_reducible apply q_block_miss); exact rfl) | (refine And.intro (show chk [] [] _ _ = true by kernel_rfl) ?_))
          refine q_loopT (x + 1, sk, now, e) ⟨by dsimp only; omega, by dsimp only; omega, hrow, hreg, hf, hsk, hI⟩ (by dsimp only; omega) ?_
          exact by_less
      · rw [if_neg (show ¬ (9 : Int) = 1 by decide), if_neg (show ¬ (9 : Int) = 2 by decide), if_neg (show ¬ (9 : Int) = 3 by decide), if_neg (show ¬ (9 : Int) = 4 by decide), if_neg (show ¬ (9 : Int) = 5 by decide), if_neg (show ¬ (9 : Int) = 6 by decide), if_neg (show ¬ (9 : Int) = 7 by decide), if_neg (show ¬ (9 : Int) = 8 by decide)] at hI
        have ch := hh 9 (by omega)
        rw [show has 9 114 = true from by decide] at ch
        have hs : putCells (e.enc.map AV.d) (1 + A * 1) [.d (dint (rget e A))] = e.enc.map AV.d := by rw [hst, hself]
        by_cases h5 : rget e A < 0
        · rw [if_pos h5] at hI
          repeat (first | ((with_reducible apply s1); exact rfl) | (with_reducible first | apply CW.seq | apply CW.block | apply CW.region | apply CW.draw | apply CW.skip | apply CW.exit | apply CW.ret | apply q_then | apply q_then_exit | apply q_then_ret | apply q_block | apply q_block_ret | apply q_block_hit | apply q_ret | apply q_end | apply q_loop_exit | apply q_loop_ret | apply q_loopT_exit | apply q_loopT_ret | apply RW.nil) | ((with_reducible apply s3); exact rfl; exact by_k) | ((with_reducible apply s2); exact rfl; exact by_k) | ((with_reducible apply s4); exact rfl) | ((with_reducible apply s5); (first | (focus ((with_reducible apply a_call); exact ch; exact rfl; (repeat (first | exact SubsE.nil | (apply SubsE.cons; exact rfl; (first | exact .d (.refl _) | exact .d (.nil _) | exact .agg rfl (.refl _) | exact .pd | exact .ptr rfl); (first | exact trivial | exact ⟨rfl, trivial⟩)))); done)) | ((with_reducible apply a_lptr); (iterate 4 exact rfl); exact ld_reg e hA rfl) | ((with_reducible apply a_lptr); (iterate 4 exact rfl); exact ld_reg e hB rfl) | ((with_reducible apply a_store); (iterate 6 exact rfl); exact hfit; exact ⟨rfl, trivial⟩) | exact by_oa); exact by_g) | ((with_reducible apply CW.cond_t); exact rfl; exact by_ks) | ((with_reducible apply CW.cond_f); exact rfl; exact by_ks) | ((with_reducible apply q_block_miss); exact rfl) | (refine And.intro (show chk [] [] _ _ = true by kernel_rfl) ?_))
          rw [← hI]
          exact .two (.tmp rfl (.one (.d (.refl _)))) (.cell rfl rfl rfl rfl (.aggd rfl (.refl _)))
        · rw [if_neg h5] at hI
          repeat (first | ((with_reducible apply s1); exact rfl) | (with_reducible first | apply CW.seq | apply CW.block | apply CW.region | apply CW.draw | apply CW.skip | apply CW.exit | apply CW.ret | apply q_then | apply q_then_exit | apply q_then_ret | apply q_block | apply q_block_ret | apply q_block_hit | apply q_ret | apply q_end | apply q_loop_exit | apply q_loop_ret | apply q_loopT_exit | apply q_loopT_ret | apply RW.nil) | ((with_reducible apply s3); exact rfl; exact by_k) | ((with_reducible apply s2); exact rfl; exact by_k) | ((with_reducible apply s4); exact rfl) | ((with_reducible apply s5); (first | (focus ((with_reducible apply a_call); exact ch; exact rfl; (repeat (first | exact SubsE.nil | (apply SubsE.cons; exact rfl; (first | exact .d (.refl _) | exact .d (.nil _) | exact .agg rfl (.refl _) | exact .pd | exact .ptr rfl); (first | exact trivial | exact ⟨rfl, trivial⟩)))); done)) | ((with_reducible apply a_lptr); (iterate 4 exact rfl); exact ld_reg e hA rfl) | ((with_reducible apply a_lptr); (iterate 4 exact rfl); exact ld_reg e hB rfl) | ((with_reducible apply a_store); (iterate 6 exact rfl); exact hfit; exact ⟨rfl, trivial⟩) | exact by_oa); exact by_g) | ((with_reducible apply CW.cond_t); exact rfl; exact by_ks) | ((with_reducible apply CW.cond_f); exact rfl; exact by_ks) | ((with_reducible apply q_block_miss); exact rfl) | (refine And.intro (show chk [] [] _ _ = true by kernel_rfl) ?_))
          refine q_loopT (x + 1, sk, now, e) ⟨by dsimp only; omega, by dsimp only; omega, hrow, hreg, hf, hsk, hI⟩ (by dsimp only; omega) ?_
          exact by_less

end Go.Proofs.YtembfadhnkabhaaGreatDoor

/-! F19 -/
/-
  Contract of the references' Go of engines.
-/
namespace Go.Proofs.YtembfadhnkabhaaGreatDoor
open Go.AX Go.RF

set_option maxRecDepth 100000
set_option maxHeartbeats 8000000

def goRows (cs : List Chain) (b : Int) : List Pair → List Str → List Pair
  | r, [] => r
  | r, k :: ks => goRows cs b (if (before cs k b).has = true then put r k (before cs k b).n true else r) ks
def goSets (r : List Pair) (b : Int) : List Chain → List Str → List Chain
  | cs, [] => cs
  | cs, k :: ks => goSets r b (setChains cs k ⟨b, true, (RF.get r k).2, (RF.get r k).1⟩) ks
def goDone (e : Engine) (at_ : Nat) (d : Deed) : List Pair × Done := doD (goRows e.chains (e.base + at_) [] (keysD d)) d
def goNew (e : Engine) (at_ : Nat) (d : Deed) : Engine :=
  ⟨goSets (goDone e at_ d).1 (e.base + at_) e.chains d.writes, e.deeds, e.state.set at_ 1, e.ends.set at_ (goDone e at_ d).2, e.base⟩
def goAt (e : Engine) (at_ : Nat) : Engine × Int := match e.deeds[at_]? with
  | some d => if e.state[at_]? = some 1 then (e, 11) else if needs e at_ d = [] then (goNew e at_ d, 0) else (e, 10)
  | none => (e, 6)
def goE (e : Engine) (at_ : Int) : Engine × Int := if at_ < 0 then (e, 6) else goAt e at_.toNat

/-- Deeds that may be done. -/
structure Deed.Ok (d : Deed) : Prop where
  i : ∀ i ∈ d.code, i.Ok
  r : d.reads.length ≤ 5
  w : d.writes.length ≤ 5
  c : d.code.length ≤ 12
theorem Deed.Ok.keys {d : Deed} (h : Deed.Ok d) : (keysD d).length ≤ 10 := by
  have := keysGo_len (d.reads ++ d.writes) []
  have h1 := h.r
  have h2 := h.w
  simp at this
  unfold keysD
  omega
def chOk (l : List Chain) : Prop := ∀ c ∈ l, ∀ v ∈ c.vs, nOk v.n

theorem bvs_ok {h : Bool} {b : Int} : ∀ {l : List Version} {out : Version}, nOk out.n → (∀ v ∈ l, nOk v.n) → nOk (bvs h b out l).n
  | [], out, ho, _ => ho
  | v :: l, out, ho, hl => by
    simp only [bvs]
    refine bvs_ok ?_ fun w hw => hl w (List.mem_cons_of_mem _ hw)
    split
    · exact hl v (List.mem_cons_self ..)
    · exact ho
theorem beforeGo_ok {k : Str} {b : Int} : ∀ {l : List Chain} {out : Version}, nOk out.n → chOk l → nOk (beforeGo k b out l).n
  | [], out, ho, _ => ho
  | c :: l, out, ho, hl => by
    simp only [beforeGo]
    exact beforeGo_ok (bvs_ok ho (hl c (List.mem_cons_self ..))) fun x hx => hl x (List.mem_cons_of_mem _ hx)
theorem before_ok {l : List Chain} (h : chOk l) (k : Str) (b : Int) : nOk (before l k b).n := beforeGo_ok (by simp [nOk]) h
theorem goRows_ok {cs : List Chain} {b : Int} (h : chOk cs) : ∀ {ks : List Str} {r : List Pair}, rowsOk r → rowsOk (goRows cs b r ks) ∧ (goRows cs b r ks).length ≤ r.length + ks.length
  | [], r, hr => ⟨hr, by simp [goRows]⟩
  | k :: ks, r, hr => by
    simp only [goRows]
    by_cases hh : (before cs k b).has = true
    · rw [if_pos hh]
      have := goRows_ok (b := b) h (ks := ks) (put_ok hr k (before_ok h k b) true)
      refine ⟨this.1, ?_⟩
      have h2 := put_len r k (before cs k b).n true
      have h3 := this.2
      simp; omega
    · rw [if_neg hh]
      have := goRows_ok (b := b) h (ks := ks) hr
      exact ⟨this.1, by have h3 := this.2; simp; omega⟩
theorem doGo_len {r0 : List Pair} : ∀ (l : List Ins) (sk : Int) (now : List Pair) (e : Done), (doGo r0 sk now e l).1.length ≤ max r0.length (now.length + l.length)
  | [], sk, now, e => by simp only [doGo]; simp; omega
  | i :: l, sk, now, e => by
    have ih := fun sk now e => doGo_len (r0 := r0) l sk now e
    have h1 := put_len now i.key (rget e i.a.toNat) true
    have h2 := put_len now i.key 0 false
    simp only [doGo, List.length_cons]
    repeat' split
    all_goals first
      | (refine Nat.le_trans (ih _ _ _) ?_; omega)
      | (simp only []; omega)
theorem doD_len (r : List Pair) (d : Deed) : (doD r d).1.length ≤ r.length + d.code.length := by
  have := doGo_len (r0 := r) d.code 0 r done0
  unfold doD
  omega
theorem setC_len {k : Str} {v : Version} {c : Chain} : (setC k v c).vs.length = c.vs.length := by simp [setC]
theorem set_vs {l : List Chain} {k : Str} {v : Version} {M : Nat} (h : ∀ c ∈ l, c.vs.length ≤ M) : ∀ c ∈ setChains l k v, c.vs.length ≤ M := by
  intro c hc
  obtain ⟨c0, h0, rfl⟩ := List.mem_map.1 hc
  rw [setC_len]; exact h c0 h0

end Go.Proofs.YtembfadhnkabhaaGreatDoor

/-! F20 -/
/-
  Engines as they are built: what holds of them; plain facts.
-/
namespace Go.Proofs.YtembfadhnkabhaaGreatDoor
open Go.AX Go.RF

structure EInv (e : Engine) (N : Nat) : Prop where
  z : Engine.Sz e N
  o : ∀ d ∈ e.deeds, Deed.Ok d
  c : chOk e.chains

theorem EInv.mono {e : Engine} {N M : Nat} (h : EInv e N) (hm : N ≤ M) : EInv e M := by
  obtain ⟨hz, ho, hc⟩ := h
  refine ⟨⟨by have := hz.c; omega, fun c hc => by have := hz.v c hc; omega, by have := hz.d; omega, hz.s, hz.n, by have := hz.b; omega, hz.dd⟩, ho, hc⟩

theorem codeGo_mem {d : Deed} : ∀ {l : List Ins} {k : Nat}, codeGo d k l = 0 → ∀ j i, l[j]? = some i → wrongIns d ((d.code.length : Int) - 1 - ((k + j : Nat) : Int)) i = 0
  | [], k, _, j, i, hj => by simp at hj
  | x :: l, k, h, j, i, hj => by
    simp only [codeGo] at h
    by_cases h0 : wrongIns d ((d.code.length : Int) - 1 - k) x = 0
    · rw [if_pos h0] at h
      cases j with
      | zero => simp at hj; subst hj; simpa using h0
      | succ j =>
        have := codeGo_mem h j i (by simpa using hj)
        rw [show k + (j + 1) = k + 1 + j by omega]
        exact this
    · rw [if_neg h0] at h; exact absurd h h0

theorem has_ins {k : Int} (h : 1 ≤ k ∧ k ≤ 9) : insA k.toNat ≤ 3 ∧ insB k.toNat ≤ 3 := by
  unfold insA insB
  constructor <;> split <;> omega

theorem wrongIns_ok {d : Deed} {m : Int} (hm : m ≤ 11) {i : Ins} (h : wrongIns d m i = 0) : i.Ok := by
  unfold wrongIns at h
  by_cases hk : i.kind < 1 ∨ 9 < i.kind
  · rw [if_pos hk] at h; simp at h
  rw [if_neg hk] at h
  by_cases ho : insOut i.kind.toNat i.a i.b i.n m = true
  · rw [if_pos ho] at h; simp at h
  have hkk : 1 ≤ i.kind ∧ i.kind ≤ 9 := by omega
  have hs := has_ins hkk
  simp only [insOut, Bool.or_eq_true, decide_eq_true_eq, not_or] at ho
  obtain ⟨h1, h2, h3, h4, h5, h6⟩ := ho
  refine ⟨hkk, by omega, by omega, fun hc => ?_, fun hc => ?_⟩
  · rw [hc] at h5 h6
    simp [insLow, insHigh] at h5 h6
    unfold nOk; omega
  · rw [hc] at h5 h6
    simp [insLow, insHigh] at h5 h6
    omega

theorem wrongDeed_ok {d : Deed} (h : wrongDeed d = 0) : Deed.Ok d := by
  obtain ⟨h1, h2, h3⟩ := wrong_writes h
  refine ⟨fun i hi => ?_, h1, h2, h3⟩
  unfold wrongDeed at h
  by_cases h0 : lsGo [d.reads, d.writes] = 0
  · rw [if_pos h0] at h
    by_cases hc : 12 < d.code.length
    · rw [if_pos hc] at h; simp at h
    · rw [if_neg hc] at h
      obtain ⟨j, hj⟩ := List.getElem?_of_mem hi
      exact wrongIns_ok (by omega) (codeGo_mem h j i hj)
  · rw [if_neg h0] at h; exact absurd h h0

theorem addGo_ch {k : Str} {b : Int} {P : Version → Prop} (h0 : P ⟨b, false, false, 0⟩) : ∀ {l : List Chain} {dn : Bool} {out : List Chain}, (∀ c ∈ l, ∀ v ∈ c.vs, P v) → (∀ c ∈ out, ∀ v ∈ c.vs, P v) → ∀ c ∈ addGo k b dn out l, ∀ v ∈ c.vs, P v
  | [], dn, out, _, ho, c, hc => by
    simp only [addGo] at hc
    split at hc
    · exact ho c hc
    · rcases List.mem_append.1 hc with hc | hc
      · exact ho c hc
      · simp at hc; subst hc; simpa using h0
  | x :: l, dn, out, hl, ho, c, hc => by
    simp only [addGo] at hc
    have h1 : ∀ (g : Bool), ∀ c ∈ (if g = true then out ++ [⟨k, [⟨b, false, false, 0⟩]⟩] else out), ∀ v ∈ c.vs, P v := by
      intro g c hc
      split at hc
      · rcases List.mem_append.1 hc with hc | hc
        · exact ho c hc
        · simp at hc; subst hc; simpa using h0
      · exact ho c hc
    have hx := hl x (List.mem_cons_self ..)
    split at hc
    · refine addGo_ch h0 (fun c hc => hl c (List.mem_cons_of_mem _ hc)) (fun c hc => ?_) c hc
      rcases List.mem_append.1 hc with hc | hc
      · exact h1 _ c hc
      · simp at hc; subst hc
        intro v hv
        rcases List.mem_append.1 hv with hv | hv
        · exact hx v hv
        · simp at hv; subst hv; exact h0
    · refine addGo_ch h0 (fun c hc => hl c (List.mem_cons_of_mem _ hc)) (fun c hc => ?_) c hc
      rcases List.mem_append.1 hc with hc | hc
      · exact h1 _ c hc
      · simp at hc; subst hc; exact hx
theorem addC_ok {l : List Chain} (h : chOk l) (k : Str) (b : Int) : chOk (addC l k b) := addGo_ch (P := fun v => nOk v.n) (by simp [nOk]) h (by simp)
theorem addKeys_ok {b : Int} : ∀ {ks : List Str} {l : List Chain}, chOk l → chOk (addKeys b l ks)
  | [], l, h => h
  | k :: ks, l, h => by simp only [addKeys]; exact addKeys_ok (addC_ok h k b)
theorem EInv.add1 {e : Engine} {N : Nat} (h : EInv e N) {d : Deed} (hs : d.Sm) (ho : Deed.Ok d) : EInv (add1 e d) (N + 5) := by
  refine ⟨add1_sz h.z hs ho.w, fun x hx => ?_, addKeys_ok h.c⟩
  rcases List.mem_append.1 hx with hx | hx
  · exact h.o x hx
  · simp at hx; subst hx; exact ho
theorem EInv.addAll : ∀ {l : List Deed} {e : Engine} {N : Nat}, EInv e N → (∀ d ∈ l, d.Sm ∧ Deed.Ok d) → EInv (addAll e l) (N + 5 * l.length)
  | [], e, N, h, _ => h
  | d :: l, e, N, h, hl => by
    have := EInv.addAll (h.add1 (hl d (List.mem_cons_self ..)).1 (hl d (List.mem_cons_self ..)).2) fun x hx => hl x (List.mem_cons_of_mem _ hx)
    simp only [RF.addAll, List.length_cons]
    rw [show N + 5 * (l.length + 1) = N + 5 + 5 * l.length by omega]
    exact this
theorem EInv.addE {e : Engine} {N : Nat} (h : EInv e N) {l : List Deed} (hs : ∀ d ∈ l, d.Sm) (hw : (addE e l).2 = 0) : EInv (addE e l).1 (N + 5 * l.length) := by
  unfold RF.addE at hw ⊢
  by_cases h0 : wrongs l = 0
  · rw [if_pos h0]
    exact h.addAll fun d hd => ⟨hs d hd, wrongDeed_ok (wrongs_mem h0 d hd)⟩
  · rw [if_neg h0] at hw; exact absurd hw h0
theorem newE_inv {r : List Pair} (hr : rowsOk r) : EInv (newE r) (r.length + 1) := by
  refine ⟨⟨by simp [newE], fun c hc => ?_, by simp [newE], by simp [newE], by simp [newE], by simp [newE]; omega, by simp [newE]⟩, by simp [newE], fun c hc v hv => ?_⟩
  · obtain ⟨p, hp, rfl⟩ := List.mem_map.1 hc
    simp [rowChain]
  · obtain ⟨p, hp, rfl⟩ := List.mem_map.1 hc
    simp [rowChain] at hv
    subst hv
    exact hr p hp

theorem doGo_ok {r0 : List Pair} (h0 : rowsOk r0) : ∀ {l : List Ins} {sk : Int} {now : List Pair} {e : Done}, (∀ i ∈ l, i.Ok) → rowsOk now → e.Ok → rowsOk (doGo r0 sk now e l).1 ∧ (doGo r0 sk now e l).2.Ok
  | [], sk, now, e, _, hn, he => ⟨hn, he⟩
  | i :: l, sk, now, e, hl, hn, he => by
    have hio := hl i (List.mem_cons_self ..)
    have ih := fun (sk : Int) (now : List Pair) (e : Done) (h1 : rowsOk now) (h2 : e.Ok) => doGo_ok h0 (l := l) (sk := sk) (now := now) (e := e) (fun j hj => hl j (List.mem_cons_of_mem _ hj)) h1 h2
    simp only [doGo]
    split
    · exact ih _ _ _ hn he
    split
    · exact ih _ _ _ hn (rset_ok he _ (get_ok hn _))
    split
    · next hk => exact ih _ _ _ hn (rset_ok he _ (hio.c hk))
    split
    · exact ih _ _ _ hn (rset_ok he _ (round_ok _))
    split
    · exact ih _ _ _ hn (rset_ok he _ (round_ok _))
    split
    · exact ih _ _ _ hn (rset_ok he _ (round_ok _))
    split
    · exact ih _ _ _ (put_ok hn _ (rget_ok he _) _) he
    split
    · exact ih _ _ _ (put_ok hn _ (by simp [nOk]) _) he
    split
    · exact ih _ _ _ hn he
    split
    · exact ⟨h0, ⟨he.a, he.b, he.c, he.d⟩⟩
    · exact ih _ _ _ hn he
theorem done0_ok : done0.Ok := ⟨by simp [nOk, done0], by simp [nOk, done0], by simp [nOk, done0], by simp [nOk, done0]⟩
theorem doD_ok {r : List Pair} {d : Deed} (h0 : rowsOk r) (hd : Deed.Ok d) : rowsOk (doD r d).1 := (doGo_ok h0 hd.i h0 done0_ok).1
theorem set_ok {l : List Chain} (h : chOk l) (k : Str) {v : Version} (hv : nOk v.n) : chOk (setChains l k v) := by
  intro c hc w hw
  obtain ⟨c0, h0, rfl⟩ := List.mem_map.1 hc
  simp only [setC] at hw
  obtain ⟨w0, hw0, rfl⟩ := List.mem_map.1 hw
  unfold setV
  split
  · exact hv
  · exact h c0 h0 w0 hw0
theorem goSets_ok {r : List Pair} (hr : rowsOk r) {b : Int} {M : Nat} : ∀ {ks : List Str} {l : List Chain}, chOk l → (∀ c ∈ l, c.vs.length ≤ M) → chOk (goSets r b l ks) ∧ (goSets r b l ks).length = l.length ∧ ∀ c ∈ goSets r b l ks, c.vs.length ≤ M
  | [], l, h, hv => ⟨h, rfl, hv⟩
  | k :: ks, l, h, hv => by
    simp only [goSets]
    have := goSets_ok hr (b := b) (ks := ks) (set_ok h k (v := ⟨b, true, (RF.get r k).2, (RF.get r k).1⟩) (get_ok hr k)) (set_vs hv)
    refine ⟨this.1, by rw [this.2.1]; simp [setChains], this.2.2⟩
theorem EInv.goNew {e : Engine} {N : Nat} (h : EInv e N) {A : Nat} {d : Deed} (hd : d ∈ e.deeds) : EInv (goNew e A d) N := by
  obtain ⟨hz, ho, hc⟩ := h
  have hr := doD_ok (goRows_ok (b := e.base + A) hc (ks := keysD d) (r := []) (by simp [rowsOk])).1 (ho d hd)
  have := goSets_ok hr (b := e.base + A) (ks := d.writes) hc hz.v
  refine ⟨⟨?_, this.2.2, hz.d, ?_, ?_, hz.b, hz.dd⟩, ho, this.1⟩
  · show (goSets _ _ _ _).length ≤ N
    rw [goDone, this.2.1]; exact hz.c
  · simp [Proofs.YtembfadhnkabhaaGreatDoor.goNew]; exact hz.s
  · simp [Proofs.YtembfadhnkabhaaGreatDoor.goNew]; exact hz.n
theorem EInv.goE {e : Engine} {N : Nat} (h : EInv e N) (at_ : Int) : EInv (goE e at_).1 N := by
  unfold Proofs.YtembfadhnkabhaaGreatDoor.goE
  split
  · exact h
  unfold goAt
  cases hA : e.deeds[at_.toNat]? with
  | none => exact h
  | some d =>
    dsimp only
    split
    · exact h
    split
    · exact h.goNew (List.mem_of_getElem? hA)
    · exact h
end Go.Proofs.YtembfadhnkabhaaGreatDoor

/-! F21 -/
/-
  Contract of the references' Build of engines.
-/
namespace Go.Proofs.YtembfadhnkabhaaGreatDoor
open Go.AX Go.RF

set_option maxRecDepth 100000
set_option maxHeartbeats 8000000

theorem readyGo_len {e : Engine} : ∀ (l : List Int) (i : Nat), (readyGo e i l).length ≤ l.length
  | [], i => by simp [readyGo]
  | s :: l, i => by
    have := readyGo_len (e := e) l (i + 1)
    simp only [readyGo]
    split <;> simp <;> omega

end Go.Proofs.YtembfadhnkabhaaGreatDoor

/-! AxPin -/
/-
  Functions whose result is a slice of the caller's own; slices of ours lent as data; a slice of ours within another's element (its handle known, and staying).
-/
namespace Go.AX
open Go.RowKit

variable {cx : Cx} {g : Nat → Value} {σ σ' : St} {a : Act} {w w' : World} {nx : Nat} {c : Code} {Q : Exit → St → Prop}
variable {ty : TypeId} {pos : String} {af : Array Edge} {gd : Option (Nat × Bool)} {d : Nat}

/-- The handle v leads to rows, of elements of k cells, in a block from base on. -/
def RowsAt (w : World) (base : Nat) (own : Nat → Prop) (e k : Nat) (v : Value) (rows : List (List D)) : Prop :=
  ∃ xs : List Value, w.ownsRow base e k v rows.length xs ∧ (∀ x ∈ xs, Value.oneCell' x = true) ∧ (∀ r ∈ rows, r.length = k) ∧
    ∀ (i j : Nat) (r : List D) (d : D) (x : Value), rows[i]? = some r → r[j]? = some d → xs[i * k + j]? = some x → Rd w own x d
def with1 (own : Nat → Prop) (v : Value) : Nat → Prop := fun b => own b ∨ blk v = some b

theorem ownsRow_base {base base' : Nat} {e k : Nat} {v : Value} {n : Nat} {xs : List Value} (h : w.ownsRow base e k v n xs) (hb : ∀ b, blk v = some b → base' ≤ b) : w.ownsRow base' e k v n xs := by
  refine ⟨h.1, ?_⟩
  rcases h.2 with h1 | ⟨g, cap, cur, hv, h1, h2⟩
  · exact .inl h1
  · exact .inr ⟨g, cap, cur, hv, hb g (by rw [hv]; rfl), h2⟩
theorem RowsAt.lt {base e k : Nat} {own : Nat → Prop} {v : Value} {rows : List (List D)} (h : RowsAt w base own e k v rows) {b : Nat} (hb : blk v = some b) : base ≤ b ∧ b < w.heap.size := by
  obtain ⟨xs, h1, _⟩ := h
  exact h1.lt b (by rw [← blk_own h1]; exact hb)
theorem RowsAt.re {base base' e k : Nat} {own own' : Nat → Prop} {v : Value} {rows : List (List D)} (h : RowsAt w base own e k v rows) (hb : ∀ b, blk v = some b → base' ≤ b) (ho : ∀ b, own' b → own b) : RowsAt w base' own' e k v rows := by
  obtain ⟨xs, h1, h2, h3, h4⟩ := h
  exact ⟨xs, ownsRow_base h1 hb, h2, h3, fun i j r d x hi hj hx => (h4 i j r d x hi hj hx).less ho⟩

/-- Read as data, by whoever does not keep its block. -/
theorem RowsAt.rd {base e k : Nat} {own own' : Nat → Prop} {v : Value} {rows : List (List D)} (h : RowsAt w base own e k v rows) (ho : ∀ b, own' b → own b ∧ blk v ≠ some b) : Rd w own' v (.sl k rows) := by
  obtain ⟨xs, h1, h2, h3, h4⟩ := h
  rcases h1.2 with ⟨hv, hn⟩ | ⟨b, cap, cur, hv, hb, hh, hle, hcm, hsz, htk⟩
  · obtain rfl : rows = [] := List.eq_nil_of_length_eq_zero hn
    rw [hv]; exact .nil none 0 k
  · have hlt : b < w.heap.size := by
      rcases Nat.lt_or_ge b w.heap.size with h | h
      · exact h
      · rw [Array.getElem?_eq_none h] at hh; cases hh
    have hx : ∀ i j r d, rows[i]? = some r → r[j]? = some d → ∃ x, xs[i * k + j]? = some x ∧ w.cell? ((⟨b, 0, none⟩ : Addr).add (i * k + j)) = some x := by
      intro i j r d hi hj
      have hil := (List.getElem?_eq_some_iff.1 hi).1
      have hjl : j < k := by rw [← h3 r (List.mem_of_getElem? hi)]; exact (List.getElem?_eq_some_iff.1 hj).1
      have hlen : i * k + j < xs.length := by
        rw [h1.1]
        have h5 : (i + 1) * k ≤ rows.length * k := Nat.mul_le_mul_right _ hil
        rw [Nat.add_mul, Nat.one_mul] at h5
        omega
      exact ⟨xs[i * k + j], List.getElem?_eq_getElem hlen, h1.cells (g := b) (by rw [hv]; rfl) _ _ (List.getElem?_eq_getElem hlen)⟩
    have hblk : blk v = some b := by rw [hv]; rfl
    rw [hv]
    refine .sl ⟨b, 0, none⟩ cap k rows (fun i j => xs.getD (i * k + j) undef) (fun h0 => (ho b h0).2 hblk) hlt hle h3 (fun i j r d hi hj => ?_) (fun i j r d hi hj => ?_) fun i j r d hi hj => ?_
    · obtain ⟨x, h5, h6⟩ := hx i j r d hi hj
      rw [h6]; simp [List.getD, h5]
    · obtain ⟨x, h5, h6⟩ := hx i j r d hi hj
      simp only [List.getD, h5, Option.getD_some]
      exact h2 x (List.mem_of_getElem? h5)
    · obtain ⟨x, h5, h6⟩ := hx i j r d hi hj
      simp only [List.getD, h5, Option.getD_some]
      exact (h4 i j r d x hi hj h5).less fun b hb => (ho b hb).1
/-- One cell of it told as something else. -/
theorem RowsAt.at {base e k : Nat} {own : Nat → Prop} {v : Value} {rows : List (List D)} (h : RowsAt w base own e k v rows) {i j : Nat} {r : List D} {x0 : Value} {d' : D} (hi : rows[i]? = some r) (hj : r[j]? = some (.v x0)) (hd : Rd w own x0 d') :
    RowsAt w base own e k v (rows.set i (r.set j d')) := by
  obtain ⟨xs, h1, h2, h3, h4⟩ := h
  have hil := (List.getElem?_eq_some_iff.1 hi).1
  have hjl := (List.getElem?_eq_some_iff.1 hj).1
  refine ⟨xs, by simpa using h1, h2, fun r' hr' => ?_, fun i' j' r' z x hi' hj' hx => ?_⟩
  · rcases List.mem_or_eq_of_mem_set hr' with h | h
    · exact h3 r' h
    · subst h; simp; exact h3 r (List.mem_of_getElem? hi)
  · by_cases he : i = i'
    · subst he
      rw [List.getElem?_set_self hil] at hi'
      cases hi'
      by_cases hf : j = j'
      · subst hf
        rw [List.getElem?_set_self hjl] at hj'
        cases hj'
        have := h4 i j r (.v x0) x hi hj hx
        rw [rd_v this]; exact hd
      · rw [List.getElem?_set_ne hf] at hj'
        exact h4 i j' r z x hi hj' hx
    · rw [List.getElem?_set_ne he] at hi'
      exact h4 i' j' r' z x hi' hj' hx

/-! ### A function whose result is new -/
structure FnNew (P : Program) (f : FuncId) (args : List Arg) (e k : Nat) (rows : List (List D)) : Prop where
  run : ∃ fn, P.funcs[f]? = some fn ∧ (fn.name == "runtime.NumGoroutine") = false ∧ fn.body.isNone = false
  calls : ∀ (w : World) (own : Nat → Prop) (vs : List Value), (∀ b, own b → b < w.heap.size) → ArgsOk w own vs args →
    Calls P f vs.toArray w fun r w' => ∃ v, r = .returned v ∧ Below w.heap.size w w' ∧ RowsAt w' w.heap.size (with1 own v) e k v rows

inductive RetNew (σ : St) (t e k : Nat) (rows : List (List D)) : Prop
  | own {id n : Nat} (h : get σ (.s t) = .av (.own id n)) (ho : get σ (.o id) = .ob (.arr e k rows)) (hn : n = rows.length)
  | nil (h : get σ (.s t) = .av (.d (.v nilS))) (hr : rows = [])
def newQ (t e k : Nat) (rows : List (List D)) : Exit → St → Prop
  | .normal, σ => RetNew σ t e k rows
  | .ret, σ => RetNew σ t e k rows
  | _, _ => False

theorem objRows (hs : SimG cx σ a w g nx) {id e k : Nat} {rows : List (List D)} (ho : get σ (.o id) = .ob (.arr e k rows)) : RowsAt w cx.w0.heap.size (cx.own g σ) e k (g id) rows := (hs.objs id _ ho).2.1
theorem RetNew.ok (hs : SimG cx σ a w g nx) {t e k : Nat} {rows : List (List D)} (h : RetNew σ t e k rows) : RowsAt w cx.w0.heap.size (with1 cx.own0 (a.tmps.getD t undef)) e k (a.tmps.getD t undef) rows := by
  cases h with
  | @own id n h ho hn =>
    have hv : a.tmps.getD t undef = g id := ((hs.slots t _ h).1.2 e k rows ho).2 hn
    rw [hv]
    refine (objRows hs ho).re (fun b hb => obj_ge hs ho hb) fun b hb => ?_
    rcases hb with hb | hb
    · exact .inl hb
    · exact .inr ⟨id, _, ho, hb⟩
  | nil h hr =>
    subst hr
    rw [rd_v (hs.slots t _ h).1]
    exact ⟨[], World.ownsRow_nil _ _ _ _, by simp, by simp, by simp⟩

theorem fnNew_of {P : Program} {T : Tbl} (hT : TOk P T) (hm : P.follows .mixedOrders = true) {f : FuncId} {fn : Func} {c : Code} {t e k : Nat} {args : List Arg} {rows : List (List D)}
    (hf : P.funcs[f]? = some fn) (hb : fn.body = some c) (hname : (fn.name == "runtime.NumGoroutine") = false) (hr : fn.results = #[.tmp t]) (hn : Nat.ble args.length fn.ntmps = true)
    (h : ∀ w0 own0, CW ⟨P, T, hT, hm, fn.ntmps, w0, own0⟩ c (newQ t e k rows) (argSt 0 args)) : FnNew P f args e k rows := by
  refine ⟨⟨fn, hf, hname, by rw [hb]; rfl⟩, fun w own vs hown ha => ?_⟩
  have hsim := entry_sim (P := P) (T := T) (hT := hT) (hm := hm) (n := fn.ntmps) hown ha (by simpa using hn)
  refine calls_of_wp hf hb (wp_mono (h w own _ _ hsim) fun x a' w' he => ?_)
  obtain ⟨σ', ⟨g, nx, hg⟩, hq⟩ := he
  have fin : ∀ hq : RetNew σ' t e k rows, a'.defers = [] ∧ ∃ v, (results fn a'.tmps).run P w' = .ok v w' ∧ ∃ v', Ending.returned v = .returned v' ∧ Below w.heap.size w w' ∧ RowsAt w' w.heap.size (with1 own v') e k v' rows := by
    intro hq
    exact ⟨hg.defers, _, by rw [results_one hr]; simp [rvRun], _, rfl, hg.below, hq.ok hg⟩
  cases x with
  | normal => exact fin hq
  | ret => exact fin hq
  | exit j => exact hq.elim
  | goto j => exact hq.elim
  | panic c => exact hq.elim
  | outgrown => exact hq.elim

/-- As data, too. -/
theorem FnNew.ok {P : Program} {f : FuncId} {args : List Arg} {e k : Nat} {rows : List (List D)} (h : FnNew P f args e k rows) : FnOk P f args (.one (.sl k rows)) := by
  refine ⟨h.run, fun w own vs hown ha => (h.calls w own vs hown ha).mono fun r w' hr => ?_⟩
  obtain ⟨v, rfl, h1, h2⟩ := hr
  exact ⟨v, rfl, h1, h2.rd fun b hb => ⟨.inl hb, fun he => by have := (h2.lt he).1; have := hown b hb; omega⟩⟩

/-- A new object joins the state. -/
theorem SimG.join (hs : SimG cx σ a w g nx) (hb : Below w.heap.size w w') {v : Value} {o : Ob} {e k : Nat} {rows : List (List D)} (hr : RowsAt w' w.heap.size (with1 (cx.own g σ) v) e k v rows)
    (ho : o = .arr e k rows ∨ o = .pin e k rows v) : SimG cx (objSt σ (nx + 1) nx o) a w' (upd g nx v) (nx + 1) := by
  have hge := hs.below.size
  refine SimG.obj hs ⟨.inl ⟨rfl, rfl⟩, hb.mono hge, fun b hb' _ => hb.block b hb', fun b hb' => .inr (hr.lt hb').1⟩ (fun hl => ?_) (by rcases ho with rfl | rfl <;> trivial)
  have hre : RowsAt w' cx.w0.heap.size (cx.own (upd g nx v) (objSt σ (nx + 1) nx o)) e k (upd g nx v nx) rows := by
    rw [upd_same]
    refine hr.re (fun b hb' => by have := (hr.lt hb').1; omega) fun b hb' => ?_
    rcases hb' with h | ⟨id, o', h1, h2⟩
    · exact .inl (.inl h)
    · by_cases hid : id = nx
      · subst hid; rw [upd_same] at h2; exact .inr h2
      · rw [objSt_o hid] at h1
        rw [upd_ne hid] at h2
        exact .inl (.inr ⟨id, o', h1, h2⟩)
  rcases ho with rfl | rfl
  · exact hre
  · exact ⟨upd_same _ _ _, hre⟩

theorem call_run {P : Program} {f : FuncId} {xs : List Operand} {ats : Array TypeId} (hr : ∃ fn, P.funcs[f]? = some fn ∧ (fn.name == "runtime.NumGoroutine") = false ∧ fn.body.isNone = false) :
    (execOp a.eval ⟨some d, .call { callee := .value (.func f), args := ⟨xs⟩, argTypes := ats }, ty, pos, af, gd⟩).run P w = .ok (.enter f (xs.map a.eval).toArray) w := by
  obtain ⟨fn, h1, h2, h3⟩ := hr
  simp only [execOp, resolve, Deferred.ofValue, Act.eval, invoke, callFunc, Sem.run_bind, Sem.run_pure, Result.andThen_ok, run_program, h1, h2, h3, Bool.false_eq_true, if_false]
  simp

theorem ok_callnew {f : FuncId} {xs : List Operand} {avs : List AV} {ys : List Arg} {l : List (Key × Val)} {e k : Nat} {rows : List (List D)} {ats : Array TypeId} (hn : d < cx.n) (hc : FnNew cx.P f ys e k rows) (hsub : Subs xs avs ys l) :
    OpOk cx ⟨some d, .call { callee := .value (.func f), args := ⟨xs⟩, argTypes := ats }, ty, pos, af, gd⟩ ⟨l ++ [(.nx, .num nx)], [(.s d, .av (.own nx rows.length)), (.o nx, .ob (.arr e k rows)), (.nx, .num (nx + 1))]⟩ := by
  rintro σ a w K Q ⟨g, n', hs⟩ hr hK
  have hnx : n' = nx := by
    have h2 := hr.right.1
    rw [hs.hnx] at h2
    simpa using h2
  subst hnx
  have hcall := hc.calls w (cx.own g σ) (xs.map a.eval) (fun b hb => own_lt hs hb) (hsub.ok hs hr.left)
  unfold Oper.wp
  rw [call_run hc.run]
  refine hcall.mono fun r w' he => ?_
  obtain ⟨v, rfl, hb, hres⟩ := he
  have hG := SimG.join hs hb hres (.inl rfl)
  refine hK _ _ (Sim.put hG hn (Below.refl _ _) ?_ (Nat.lt_succ_self _))
  refine ⟨.of get_cons_same, fun e' k' rows' hg => ?_⟩
  rw [get_cons_same] at hg
  cases hg
  exact ⟨Nat.le_refl _, fun _ => by rw [upd_same]⟩

theorem a_callnew {f : FuncId} {xs : List Operand} {avs : List AV} {ys : List Arg} {l : List (Key × Val)} {e k : Nat} {rows : List (List D)} {ats : Array TypeId} (hc : FnNew cx.P f ys e k rows) (hn : get σ .nx = .num nx) (hd : Nat.blt d cx.n = true) (hsub : SubsE σ xs avs ys l) :
    OA cx σ ⟨some d, .call { callee := .value (.func f), args := ⟨xs⟩, argTypes := ats }, ty, pos, af, gd⟩ ⟨l ++ [(.nx, .num nx)], [(.s d, .av (.own nx rows.length)), (.o nx, .ob (.arr e k rows)), (.nx, .num (nx + 1))]⟩ :=
  ⟨ok_callnew (lt_of_blt hd) hc hsub.out.1, hsub.out.2.append ⟨hn, trivial⟩⟩

end Go.AX

/-! AxPin2 -/
/-
  Handles that become known, and ours again; two slices of ours that a call yields, one within the other's element; slices of ours lent, and handed over.
-/
namespace Go.AX
open Go.RowKit

variable {cx : Cx} {g : Nat → Value} {σ σ' : St} {a : Act} {w w' : World} {nx : Nat} {c : Code} {Q : Exit → St → Prop}
variable {ty : TypeId} {pos : String} {af : Array Edge} {gd : Option (Nat × Bool)} {d : Nat}

/-- An object told otherwise. -/
theorem SimG.reob (hs : SimG cx σ a w g nx) {id : Nat} {o o' : Ob} (ho : get σ (.o id) = .ob o) (hle : ObLe g g id o o') (hr : ObOk cx g σ w id o') (hb : o'.bd nx) :
    SimG cx ((.o id, .ob o') :: σ) a w g nx := by
  have hback : ∀ j o1, get ((.o id, .ob o') :: σ) (.o j) = .ob o1 → ∃ o0, get σ (.o j) = .ob o0 ∧ ObLe g g j o0 o1 := by
    intro j o1 hj
    by_cases he : id = j
    · subst he
      rw [get_cons_same] at hj
      cases hj
      exact ⟨_, ho, hle⟩
    · rw [get_cons_ne (by simpa using he)] at hj
      exact ⟨o1, hj, by cases o1 <;> simp [ObLe]⟩
  have hl : Later cx g g σ ((.o id, .ob o') :: σ) w w nx := by
    refine ⟨Ext.refl _ _, Below.refl _ _, fun b hb => ?_, fun j o1 _ h => hback j o1 h⟩
    rcases hb with hb | ⟨j, o1, h1, h2⟩
    · exact .inl (.inl hb)
    · obtain ⟨o0, h3, _⟩ := hback j o1 h1
      exact .inl (.inr ⟨j, o0, h3, h2⟩)
  refine hs.next hl ((get_cons_ne (by simp)).trans hs.hnx) (Nat.le_refl _) hs.size hs.defers (Below.refl _ _) (fun i av hi => .inl ⟨(get_cons_ne (by simp)).symm.trans hi, rfl⟩) (fun j o1 hj => ?_) (fun j j' o1 o2 b h1 h2 => ?_)
  · by_cases he : id = j
    · subst he
      rw [get_cons_same] at hj
      cases hj
      exact .inr ⟨(hs.objs id _ ho).1, hr.step hl rfl (fun _ _ => rfl) hb, hb⟩
    · rw [get_cons_ne (by simpa using he)] at hj
      exact .inl ⟨hj, rfl, fun _ _ => rfl⟩
  · obtain ⟨o3, h3, _⟩ := hback j o1 h1
    obtain ⟨o4, h4, _⟩ := hback j' o2 h2
    exact hs.sep j j' o3 o4 b h3 h4

theorem CW.pin (i id n e k : Nat) (rows : List (List D)) (hi : get σ (.s i) = .av (.own id n)) (ho : get σ (.o id) = .ob (.arr e k rows)) (hn : n = rows.length)
    (h : ∀ x, CW cx c Q ((.s i, .av (.d (.v x))) :: (.o id, .ob (.pin e k rows x)) :: σ)) : CW cx c Q σ := by
  rintro a w ⟨g, nx, hs⟩
  have hv : a.tmps.getD i undef = g id := ((hs.slots i _ hi).1.2 e k rows ho).2 hn
  have hG := hs.reob ho (o' := .pin e k rows (g id)) trivial ⟨rfl, (hs.objs id _ ho).2.1⟩ trivial
  refine h (g id) a w (Sim.retell hG (av := .d (.v (g id))) ?_ trivial)
  rw [hv]; exact Rd.v _
/-! ### Operations of a region in their text's order, each from whatever state that the last one may leave -/
def SW (cx : Cx) (ops : Array Oper) (Q : Exit → St → Prop) (l : List Oper) (σ : St) : Prop :=
  ∀ a w, Sim cx σ a w → wpList cx.P ops (fun e a' w' => ∃ σ', Sim cx σ' a' w' ∧ Q e σ') l a w
theorem CW.regionS {id : Nat} {l : List Oper} (h : SW cx l.toArray Q l σ) : CW cx (.region id l.toArray false) Q σ := fun a w hs => wp_region_lit (h a w hs)
variable {ops : Array Oper} {rest : List Oper} {o : Oper}
theorem SW.rw (h : RW cx ops (fun _ σ' => Q .normal σ') [] rest σ) : SW cx ops Q rest σ := by
  obtain ⟨ts, σ', h1, h2⟩ := h
  exact fun a w hs => wpList_of_steps h1 hs fun a' w' hs' => ⟨σ', hs', h2⟩
theorem SW.step {t : Tr} (hg : o.guard = none) (ho : OA cx σ o t) (h : SW cx ops Q rest (t.wr ++ σ)) : SW cx ops Q (o :: rest) σ := fun a w hs =>
  wpList_plain hg fun K hK => ho.1 σ a w K _ hs ho.2 fun a' w' hs' => hK a' w' (h a' w' hs')
theorem SW.fam {ι : Type} {σs : ι → St} (hg : o.guard = none)
    (ho : ∀ (a : Act) (w : World) (K : Act → World → Prop) (Q : Exit → Act → World → Prop), Sim cx σ a w → (∀ i a' w', Sim cx (σs i) a' w' → K a' w') → o.wp cx.P a w K Q)
    (h : ∀ i, SW cx ops Q rest (σs i)) : SW cx ops Q (o :: rest) σ := fun a w hs =>
  wpList_plain hg fun K hK => ho a w K _ hs fun i a' w' hs' => hK a' w' (h i a' w' hs')

/-! ### Lent as data -/
/-- What a slice of ours reads as: its rows, or those where one cell is another slice of ours. -/
inductive View (σ : St) (id e k : Nat) (rows : List (List D)) : D → List (Key × Val) → Prop
  | plain (h : get σ (.o id) = .ob (.arr e k rows)) : View σ id e k rows (.sl k rows) [(.o id, .ob (.arr e k rows))]
  | pin {i j id2 e2 k2 : Nat} {r : List D} {x : Value} {rows2 : List (List D)} (h : get σ (.o id) = .ob (.arr e k rows)) (hi : rows[i]? = some r) (hj : r[j]? = some (.v x))
      (h2 : get σ (.o id2) = .ob (.pin e2 k2 rows2 x)) : View σ id e k rows (.sl k (rows.set i (r.set j (.sl k2 rows2)))) [(.o id, .ob (.arr e k rows)), (.o id2, .ob (.pin e2 k2 rows2 x))]
def plainR : Res → Bool
  | .one (.v _) => true
  | .tup l => l.all fun x => match x with
    | .v _ => true
    | _ => false
  | _ => false
theorem rd_plain {own own' : Nat → Prop} {v x : Value} (h : Rd w own v (.v x)) : Rd w own' v (.v x) := by
  rw [rd_v h]; exact Rd.v _
theorem plainR_ok {r : Res} (h : plainR r = true) {own own' : Nat → Prop} {v : Value} (hr : ResOk w own v r) : ResOk w own' v r := by
  cases r with
  | one x =>
    cases x with
    | v x => exact rd_plain hr
    | x p => cases h
    | sl k rows => cases h
    | agg c => cases h
  | tup xs =>
    obtain ⟨vs, rfl, h1, h2⟩ := hr
    refine ⟨vs, rfl, h1, fun j c x hx hc => ?_⟩
    have h3 := List.all_eq_true.1 h x (List.mem_of_getElem? hx)
    cases x with
    | v x => exact rd_plain (h2 j c _ hx hc)
    | x p => cases h3
    | sl k rows => cases h3
    | agg c => cases h3

theorem ArgsOk.less {own own' : Nat → Prop} (ho : ∀ b, own' b → own b) : ∀ {vs : List Value} {xs : List Arg}, ArgsOk w own vs xs → ArgsOk w own' vs xs
  | [], [], _ => trivial
  | v :: vs, x :: xs, h => by
    refine ⟨?_, ArgsOk.less ho h.2⟩
    cases x with
    | d y => exact Rd.less ho h.1
    | pd cells =>
      obtain ⟨ad, h1, h2, h3⟩ := h.1
      exact ⟨ad, h1, h2, fun j z hz => by obtain ⟨u, h4, h5, h6⟩ := h3 j z hz; exact ⟨u, h4, h5, h6.less ho⟩⟩

theorem a_lend {f : FuncId} {x : Operand} {xs : List Operand} {avs : List AV} {ys : List Arg} {l lv : List (Key × Val)} {r : Res} {ats : Array TypeId} {id n e k : Nat} {rows : List (List D)} {dd : D}
    (hc : FnOk cx.P f (.d dd :: ys) r) (hx : ev σ x = some (.own id n)) (hv : View σ id e k rows dd lv) (hn : n = rows.length) (hp : plainR r = true) (hd : Nat.blt d cx.n = true) (hsub : SubsE σ xs avs ys l) :
    OA cx σ ⟨some d, .call { callee := .value (.func f), args := ⟨x :: xs⟩, argTypes := ats }, ty, pos, af, gd⟩ ⟨rdOf x (.own id n) ++ (l ++ lv), [(.s d, .av r.av)]⟩ := by
  refine ⟨?_, (ev_out hx).2.append (hsub.out.2.append ?_)⟩
  · rintro σ1 a w K Q ⟨g, nx, hs⟩ hr hK
    have hxv := hs.ev (ev_out hx).1 hr.left
    have hargs := hsub.out.1.ok hs hr.right.left
    have hlv := hr.right.right
    -- the first argument, read by whoever keeps all but that
    have key : ∃ own' : Nat → Prop, (∀ b, own' b → cx.own g σ1 b) ∧ Rd w own' (a.eval x) dd := by
      cases hv with
      | plain h =>
        have ho : get σ1 (.o id) = .ob (.arr e k rows) := hlv.1
        have hval : a.eval x = g id := (hxv.1.2 e k rows ho).2 hn
        refine ⟨fun b => cx.own g σ1 b ∧ blk (g id) ≠ some b, fun b hb => hb.1, ?_⟩
        rw [hval]
        exact (objRows hs ho).rd fun b hb => hb
      | @pin i j id2 e2 k2 r x0 rows2 h hi hj h2 =>
        have ho : get σ1 (.o id) = .ob (.arr e k rows) := hlv.1
        have ho2 : get σ1 (.o id2) = .ob (.pin e2 k2 rows2 x0) := hlv.2.1
        have hval : a.eval x = g id := (hxv.1.2 e k rows ho).2 hn
        obtain ⟨_, ⟨hgx, hp2⟩, _⟩ := hs.objs id2 _ ho2
        have hp2' : RowsAt w cx.w0.heap.size (cx.own g σ1) e2 k2 (g id2) rows2 := hp2
        rw [hgx] at hp2'
        refine ⟨fun b => (cx.own g σ1 b ∧ blk x0 ≠ some b) ∧ blk (g id) ≠ some b, fun b hb => hb.1.1, ?_⟩
        rw [hval]
        have h3 : RowsAt w cx.w0.heap.size (fun b => cx.own g σ1 b ∧ blk x0 ≠ some b) e k (g id) rows := (objRows hs ho).re (fun b hb => ((objRows hs ho).lt hb).1) fun b hb => hb.1
        exact (h3.at hi hj (hp2'.rd fun b hb => hb)).rd fun b hb => hb
    obtain ⟨own', hsub', hrd⟩ := key
    have hcall := hc.calls w own' (a.eval x :: xs.map a.eval) (fun b hb => own_lt hs (hsub' b hb)) ⟨hrd, hargs.less hsub'⟩
    unfold Oper.wp
    rw [call_run hc.run]
    refine hcall.mono fun z w' he => ?_
    obtain ⟨v, rfl, hb, hres⟩ := he
    obtain ⟨h1, h2⟩ := Res.rep (nx := nx) (plainR_ok hp (own' := cx.own g σ1) hres)
    exact hK _ _ (Sim.put hs (lt_of_blt hd) hb h1 h2)
  · cases hv with
    | plain h => exact ⟨h, trivial⟩
    | pin h hi hj h2 => exact ⟨h, h2, trivial⟩

end Go.AX

/-! AxPin3 -/
/-
  A call that yields two slices of the caller's own, one within the other's element; a call that takes a slice of ours and yields one.
-/
namespace Go.AX
open Go.RowKit

variable {cx : Cx} {g : Nat → Value} {σ σ' : St} {a : Act} {w w' : World} {nx : Nat} {c : Code} {Q : Exit → St → Prop}
variable {ty : TypeId} {pos : String} {af : Array Edge} {gd : Option (Nat × Bool)} {d : Nat}

structure FnOwn2 (P : Program) (f : FuncId) (args : List Arg) (e k : Nat) (rowsF : Value → List (List D)) (e2 k2 : Nat) (rows2 : List (List D)) : Prop where
  run : ∃ fn, P.funcs[f]? = some fn ∧ (fn.name == "runtime.NumGoroutine") = false ∧ fn.body.isNone = false
  calls : ∀ (w : World) (own : Nat → Prop) (vs : List Value), (∀ b, own b → b < w.heap.size) → ArgsOk w own vs args →
    Calls P f vs.toArray w fun r w' => ∃ v x, r = .returned v ∧ Below w.heap.size w w' ∧ RowsAt w' w.heap.size (with1 (with1 own v) x) e k v (rowsF x) ∧
      RowsAt w' w.heap.size (with1 (with1 own v) x) e2 k2 x rows2 ∧ ∀ b, blk v = some b → blk x ≠ some b

def own2Q (t e k : Nat) (rowsF : Value → List (List D)) (e2 k2 : Nat) (rows2 : List (List D)) : Exit → St → Prop
  | .normal, σ => ∃ id n id2 x, get σ (.s t) = .av (.own id n) ∧ get σ (.o id) = .ob (.arr e k (rowsF x)) ∧ n = (rowsF x).length ∧ get σ (.o id2) = .ob (.pin e2 k2 rows2 x)
  | .ret, σ => ∃ id n id2 x, get σ (.s t) = .av (.own id n) ∧ get σ (.o id) = .ob (.arr e k (rowsF x)) ∧ n = (rowsF x).length ∧ get σ (.o id2) = .ob (.pin e2 k2 rows2 x)
  | _, _ => False

theorem fnOwn2_of {P : Program} {T : Tbl} (hT : TOk P T) (hm : P.follows .mixedOrders = true) {f : FuncId} {fn : Func} {c : Code} {t e k e2 k2 : Nat} {args : List Arg} {rowsF : Value → List (List D)} {rows2 : List (List D)}
    (hf : P.funcs[f]? = some fn) (hb : fn.body = some c) (hname : (fn.name == "runtime.NumGoroutine") = false) (hr : fn.results = #[.tmp t]) (hn : Nat.ble args.length fn.ntmps = true)
    (h : ∀ w0 own0, CW ⟨P, T, hT, hm, fn.ntmps, w0, own0⟩ c (own2Q t e k rowsF e2 k2 rows2) (argSt 0 args)) : FnOwn2 P f args e k rowsF e2 k2 rows2 := by
  refine ⟨⟨fn, hf, hname, by rw [hb]; rfl⟩, fun w own vs hown ha => ?_⟩
  have hsim := entry_sim (P := P) (T := T) (hT := hT) (hm := hm) (n := fn.ntmps) hown ha (by simpa using hn)
  refine calls_of_wp hf hb (wp_mono (h w own _ _ hsim) fun z a' w' he => ?_)
  obtain ⟨σ', ⟨g, nx, hg⟩, hq⟩ := he
  have fin : ∀ hq : ∃ id n id2 x, get σ' (.s t) = .av (.own id n) ∧ get σ' (.o id) = .ob (.arr e k (rowsF x)) ∧ n = (rowsF x).length ∧ get σ' (.o id2) = .ob (.pin e2 k2 rows2 x),
      a'.defers = [] ∧ ∃ v, (results fn a'.tmps).run P w' = .ok v w' ∧ ∃ v' x, Ending.returned v = .returned v' ∧ Below w.heap.size w w' ∧ RowsAt w' w.heap.size (with1 (with1 own v') x) e k v' (rowsF x) ∧
        RowsAt w' w.heap.size (with1 (with1 own v') x) e2 k2 x rows2 ∧ ∀ b, blk v' = some b → blk x ≠ some b := by
    rintro ⟨id, n, id2, x, h1, h2, h3, h4⟩
    have hv : a'.tmps.getD t undef = g id := ((hg.slots t _ h1).1.2 e k _ h2).2 h3
    obtain ⟨_, ⟨hgx, hp⟩, _⟩ := hg.objs id2 _ h4
    have hp' : RowsAt w' w.heap.size (Cx.own ⟨P, T, hT, hm, fn.ntmps, w, own⟩ g σ') e2 k2 (g id2) rows2 := hp
    have hin : ∀ b, with1 (with1 own (g id)) x b → Cx.own ⟨P, T, hT, hm, fn.ntmps, w, own⟩ g σ' b := by
      rintro b ((hb | hb) | hb)
      · exact .inl hb
      · exact .inr ⟨id, _, h2, hb⟩
      · exact .inr ⟨id2, _, h4, by rw [hgx]; exact hb⟩
    have hR1 := objRows hg h2
    refine ⟨hg.defers, g id, by rw [results_one hr, ← hv]; simp [rvRun], g id, x, rfl, hg.below, hR1.re (fun b hb => (hR1.lt hb).1) hin, ?_, fun b hb hb2 => ?_⟩
    · rw [hgx] at hp'
      exact hp'.re (fun b hb => (hp'.lt hb).1) hin
    · have := hg.sep id id2 _ _ b h2 h4 hb (by rw [hgx]; exact hb2)
      subst this
      rw [h2] at h4; cases h4
  cases z with
  | normal => exact fin hq
  | ret => exact fin hq
  | exit j => exact hq.elim
  | goto j => exact hq.elim
  | panic c => exact hq.elim
  | outgrown => exact hq.elim

theorem SimG.join2 (hs : SimG cx σ a w g nx) (hb : Below w.heap.size w w') {v x : Value} {e k e2 k2 : Nat} {rows rows2 : List (List D)} (h1 : RowsAt w' w.heap.size (with1 (with1 (cx.own g σ) v) x) e k v rows)
    (h2 : RowsAt w' w.heap.size (with1 (with1 (cx.own g σ) v) x) e2 k2 x rows2) (hd : ∀ b, blk v = some b → blk x ≠ some b) :
    SimG cx ((.o nx, .ob (.arr e k rows)) :: (.o (nx + 1), .ob (.pin e2 k2 rows2 x)) :: (.nx, .num (nx + 2)) :: σ) a w' (upd (upd g nx v) (nx + 1) x) (nx + 2) := by
  have hge := hs.below.size
  have hg1 : upd (upd g nx v) (nx + 1) x nx = v := by rw [upd_ne (by omega), upd_same]
  have hg2 : upd (upd g nx v) (nx + 1) x (nx + 1) = x := upd_same _ _ _
  have hg0 : ∀ j, j < nx → upd (upd g nx v) (nx + 1) x j = g j := fun j hj => by rw [upd_ne (by omega), upd_ne (by omega)]
  have hback : ∀ j o, get ((.o nx, .ob (.arr e k rows)) :: (.o (nx + 1), .ob (.pin e2 k2 rows2 x)) :: (.nx, .num (nx + 2)) :: σ) (.o j) = .ob o →
      (j = nx ∧ o = .arr e k rows) ∨ (j = nx + 1 ∧ o = .pin e2 k2 rows2 x) ∨ (j < nx ∧ get σ (.o j) = .ob o) := by
    intro j o hj
    by_cases hj1 : j = nx
    · subst hj1; rw [get_cons_same] at hj; cases hj; exact .inl ⟨rfl, rfl⟩
    · rw [get_cons_ne (by simpa using fun e => hj1 e.symm)] at hj
      by_cases hj2 : j = nx + 1
      · subst hj2; rw [get_cons_same] at hj; cases hj; exact .inr (.inl ⟨rfl, rfl⟩)
      · rw [get_cons_ne (by simpa using fun e => hj2 e.symm), get_cons_ne (by simp)] at hj
        exact .inr (.inr ⟨(hs.objs j o hj).1, hj⟩)
  have hown : ∀ b, cx.own (upd (upd g nx v) (nx + 1) x) ((.o nx, .ob (.arr e k rows)) :: (.o (nx + 1), .ob (.pin e2 k2 rows2 x)) :: (.nx, .num (nx + 2)) :: σ) b → with1 (with1 (cx.own g σ) v) x b := by
    rintro b (h | ⟨j, o, h3, h4⟩)
    · exact .inl (.inl (.inl h))
    · rcases hback j o h3 with ⟨rfl, rfl⟩ | ⟨rfl, rfl⟩ | ⟨hj, h5⟩
      · rw [hg1] at h4; exact .inl (.inr h4)
      · rw [hg2] at h4; exact .inr h4
      · rw [hg0 j hj] at h4; exact .inl (.inl (.inr ⟨j, o, h5, h4⟩))
  have hl : Later cx g (upd (upd g nx v) (nx + 1) x) σ ((.o nx, .ob (.arr e k rows)) :: (.o (nx + 1), .ob (.pin e2 k2 rows2 x)) :: (.nx, .num (nx + 2)) :: σ) w w' nx := by
    refine ⟨Ext.of_below hb, hb.mono hge, fun b hbb => ?_, fun j o hj h3 => ?_⟩
    · rcases hown b hbb with (h | h) | h
      · exact .inl h
      · exact .inr (h1.lt h).1
      · exact .inr (h2.lt h).1
    · rcases hback j o h3 with ⟨rfl, _⟩ | ⟨rfl, _⟩ | ⟨hj', h5⟩
      · omega
      · omega
      · exact ⟨o, h5, by cases o <;> simp [ObLe, hg0 j hj']⟩
  refine hs.next hl (by rw [get_cons_ne (by simp), get_cons_ne (by simp), get_cons_same]) (by omega) hs.size hs.defers (hb.mono hge) (fun j av hj => .inl ⟨?_, rfl⟩) (fun j o hj => ?_) (fun j j' o o' b h3 h4 h5 h6 => ?_)
  · rw [get_cons_ne (by simp), get_cons_ne (by simp), get_cons_ne (by simp)] at hj; exact hj
  · rcases hback j o hj with ⟨rfl, rfl⟩ | ⟨rfl, rfl⟩ | ⟨hj', h5⟩
    · refine .inr ⟨by omega, ?_, trivial⟩
      show RowsAt w' cx.w0.heap.size _ e k _ rows
      rw [hg1]
      exact h1.re (fun b hb' => by have := (h1.lt hb').1; omega) hown
    · refine .inr ⟨by omega, ⟨hg2, ?_⟩, trivial⟩
      show RowsAt w' cx.w0.heap.size _ e2 k2 _ rows2
      rw [hg2]
      exact h2.re (fun b hb' => by have := (h2.lt hb').1; omega) hown
    · exact .inl ⟨h5, hg0 j hj', fun b hb' => hb.block b (own_lt hs (.inr ⟨j, o, h5, hb'⟩))⟩
  · have place : ∀ j o, get ((.o nx, .ob (.arr e k rows)) :: (.o (nx + 1), .ob (.pin e2 k2 rows2 x)) :: (.nx, .num (nx + 2)) :: σ) (.o j) = .ob o → blk (upd (upd g nx v) (nx + 1) x j) = some b →
        (j = nx ∧ blk v = some b ∧ w.heap.size ≤ b) ∨ (j = nx + 1 ∧ blk x = some b ∧ w.heap.size ≤ b) ∨ (j < nx ∧ get σ (.o j) = .ob o ∧ blk (g j) = some b ∧ b < w.heap.size) := by
      intro j o hj hbj
      rcases hback j o hj with ⟨rfl, rfl⟩ | ⟨rfl, rfl⟩ | ⟨hj', h7⟩
      · rw [hg1] at hbj; exact .inl ⟨rfl, hbj, (h1.lt hbj).1⟩
      · rw [hg2] at hbj; exact .inr (.inl ⟨rfl, hbj, (h2.lt hbj).1⟩)
      · rw [hg0 j hj'] at hbj; exact .inr (.inr ⟨hj', h7, hbj, own_lt hs (.inr ⟨j, o, h7, hbj⟩)⟩)
    rcases place j o h3 h5 with ⟨p1, p2, p3⟩ | ⟨p1, p2, p3⟩ | ⟨p1, p2, p3, p4⟩ <;> rcases place j' o' h4 h6 with ⟨q1, q2, q3⟩ | ⟨q1, q2, q3⟩ | ⟨q1, q2, q3, q4⟩
    · omega
    · exact (hd b p2 q2).elim
    · omega
    · exact (hd b q2 p2).elim
    · omega
    · omega
    · omega
    · omega
    · exact hs.sep j j' o o' b p2 q2 p3 q3

theorem fam_own2 {f : FuncId} {xs : List Operand} {avs : List AV} {ys : List Arg} {l : List (Key × Val)} {e k e2 k2 : Nat} {rowsF : Value → List (List D)} {rows2 : List (List D)} {ats : Array TypeId}
    (hc : FnOwn2 cx.P f ys e k rowsF e2 k2 rows2) (hnx : get σ .nx = .num nx) (hd : Nat.blt d cx.n = true) (hsub : SubsE σ xs avs ys l)
    (a : Act) (w : World) (K : Act → World → Prop) (Q : Exit → Act → World → Prop) (hs : Sim cx σ a w)
    (hK : ∀ (x : Value) a' w', Sim cx ((.s d, .av (.own nx (rowsF x).length)) :: (.o nx, .ob (.arr e k (rowsF x))) :: (.o (nx + 1), .ob (.pin e2 k2 rows2 x)) :: (.nx, .num (nx + 2)) :: σ) a' w' → K a' w') :
    Oper.wp cx.P ⟨some d, .call { callee := .value (.func f), args := ⟨xs⟩, argTypes := ats }, ty, pos, af, gd⟩ a w K Q := by
  obtain ⟨g, n', hs⟩ := hs
  obtain rfl : n' = nx := by have := hs.hnx; rw [hnx] at this; simpa using this.symm
  have hcall := hc.calls w (cx.own g σ) (xs.map a.eval) (fun b hb => own_lt hs hb) (hsub.out.1.ok hs hsub.out.2)
  unfold Oper.wp
  rw [call_run hc.run]
  refine hcall.mono fun r w' he => ?_
  obtain ⟨v, x, rfl, hb, h1, h2, h3⟩ := he
  have hG := SimG.join2 hs hb h1 h2 h3
  refine hK x _ _ (Sim.put hG (lt_of_blt hd) (Below.refl _ _) ?_ (show n' < n' + 2 by omega))
  refine ⟨.of get_cons_same, fun e' k' rows' hg => ?_⟩
  rw [get_cons_same] at hg
  cases hg
  exact ⟨Nat.le_refl _, fun _ => by rw [upd_ne (by omega), upd_same]⟩

/-! ### A slice of ours handed over, and another one back -/
/-- From w to w': nothing that was there has turned but the block of v. -/
structure BelowBut (v : Value) (w w' : World) : Prop where
  os : w'.os = w.os
  tape : w'.tape = w.tape
  output : w'.output = w.output
  size : w.heap.size ≤ w'.heap.size
  block : ∀ b, b < w.heap.size → blk v ≠ some b → w'.heap[b]? = w.heap[b]?
end Go.AX

/-! G1 -/
/-
  Contracts of the library's Clone: what comes back is the caller's own.
-/
namespace Go.Proofs.YtembfadhnkabhaaGreatDoor
open Go.AX Go.RF

set_option maxRecDepth 100000
set_option maxHeartbeats 4000000

theorem new_clone_version (rows : List (List D)) (hl : rows.length ≤ 536870912) : FnNew Tryz.prog 83 [.d (.sl 4 rows)] 58 4 rows := by
  refine fnNew_of tbl_ok mixed_ok Tryz.func83 rfl (by kernel_rfl) rfl rfl fun w0 own0 => ?_
  cases rows with
  | nil =>
    refine CW.empty 0 rfl fun p cp => ?_
    cases p with
    | none =>
      repeat (first | ((with_reducible apply s1); exact rfl) | (with_reducible first | apply CW.seq | apply CW.block | apply CW.region | apply CW.draw | apply CW.skip | apply CW.exit | apply CW.ret | apply q_then | apply q_then_exit | apply q_then_ret | apply q_block | apply q_block_ret | apply q_block_hit | apply q_ret | apply q_end | apply q_loop_exit | apply q_loop_ret | apply q_loopT_exit | apply q_loopT_ret | apply RW.nil) | ((with_reducible apply s3); exact rfl; exact by_k) | ((with_reducible apply s2); exact rfl; exact by_k) | ((with_reducible apply s4); exact rfl) | ((with_reducible apply s5); (first | exact by_oa); exact by_g) | ((with_reducible apply CW.cond_t); exact rfl; exact by_ks) | ((with_reducible apply CW.cond_f); exact rfl; exact by_ks) | ((with_reducible apply q_block_miss); exact rfl) | (refine And.intro (show chk [] [] _ _ = true by kernel_rfl) ?_))
      exact RetNew.nil rfl rfl
    | some ad =>
      repeat (first | (with_reducible apply stop_reg 3) | ((with_reducible apply s1); exact rfl) | (with_reducible first | apply CW.seq | apply CW.block | apply CW.region | apply CW.draw | apply CW.skip | apply CW.exit | apply CW.ret | apply q_then | apply q_then_exit | apply q_then_ret | apply q_block | apply q_block_ret | apply q_block_hit | apply q_ret | apply q_end | apply q_loop_exit | apply q_loop_ret | apply q_loopT_exit | apply q_loopT_ret | apply RW.nil) | ((with_reducible apply s3); exact rfl; exact by_k) | ((with_reducible apply s2); exact rfl; exact by_k) | ((with_reducible apply s4); exact rfl) | ((with_reducible apply s5); (first | exact by_oa); exact by_g) | ((with_reducible apply CW.cond_t); exact rfl; exact by_ks) | ((with_reducible apply CW.cond_f); exact rfl; exact by_ks) | ((with_reducible apply q_block_miss); exact rfl) | (refine And.intro (show chk [] [] _ _ = true by kernel_rfl) ?_))
      refine Stop.go (CW.stut (stut_nilv (i := 0) (k := 4)) ⟨rfl, trivial⟩ ?_)
      repeat (first | ((with_reducible apply s1); exact rfl) | (with_reducible first | apply CW.seq | apply CW.block | apply CW.region | apply CW.draw | apply CW.skip | apply CW.exit | apply CW.ret | apply q_then | apply q_then_exit | apply q_then_ret | apply q_block | apply q_block_ret | apply q_block_hit | apply q_ret | apply q_end | apply q_loop_exit | apply q_loop_ret | apply q_loopT_exit | apply q_loopT_ret | apply RW.nil) | ((with_reducible apply s3); exact rfl; exact by_k) | ((with_reducible apply s2); exact rfl; exact by_k) | ((with_reducible apply s4); exact rfl) | ((with_reducible apply s5); (first | exact by_oa); exact by_g) | ((with_reducible apply CW.cond_t); exact rfl; exact by_ks) | ((with_reducible apply CW.cond_f); exact rfl; exact by_ks) | ((with_reducible apply q_block_miss); exact rfl) | (refine And.intro (show chk [] [] _ _ = true by kernel_rfl) ?_))
      exact RetNew.own rfl rfl rfl
  | cons r rows =>
    have hl2 : rows.length ≤ 536870911 := by simp at hl; omega
    repeat (first | ((with_reducible apply s1); exact rfl) | (with_reducible first | apply CW.seq | apply CW.block | apply CW.region | apply CW.draw | apply CW.skip | apply CW.exit | apply CW.ret | apply q_then | apply q_then_exit | apply q_then_ret | apply q_block | apply q_block_ret | apply q_block_hit | apply q_ret | apply q_end | apply q_loop_exit | apply q_loop_ret | apply q_loopT_exit | apply q_loopT_ret | apply RW.nil) | ((with_reducible apply s3); exact rfl; exact by_k) | ((with_reducible apply s2); exact rfl; exact by_k) | ((with_reducible apply s4); exact rfl) | ((with_reducible apply s5); (first | exact by_oa); exact by_g) | ((with_reducible apply CW.cond_t); exact rfl; exact by_ks) | ((with_reducible apply CW.cond_f); exact rfl; exact by_ks) | ((with_reducible apply q_block_miss); exact rfl) | (refine And.intro (show chk [] [] _ _ = true by kernel_rfl) ?_))
    exact RetNew.own rfl rfl (by simp)
theorem ok_clone_version (rows : List (List D)) (hl : rows.length ≤ 536870912) : FnOk Tryz.prog 83 [.d (.sl 4 rows)] (.one (.sl 4 rows)) := (new_clone_version rows hl).ok

theorem new_clone_int (rows : List (List D)) (hl : rows.length ≤ 536870912) : FnNew Tryz.prog 53 [.d (.sl 1 rows)] 3 1 rows := by
  refine fnNew_of tbl_ok mixed_ok Tryz.func53 rfl (by kernel_rfl) rfl rfl fun w0 own0 => ?_
  cases rows with
  | nil =>
    refine CW.empty 0 rfl fun p cp => ?_
    cases p with
    | none =>
      repeat (first | ((with_reducible apply s1); exact rfl) | (with_reducible first | apply CW.seq | apply CW.block | apply CW.region | apply CW.draw | apply CW.skip | apply CW.exit | apply CW.ret | apply q_then | apply q_then_exit | apply q_then_ret | apply q_block | apply q_block_ret | apply q_block_hit | apply q_ret | apply q_end | apply q_loop_exit | apply q_loop_ret | apply q_loopT_exit | apply q_loopT_ret | apply RW.nil) | ((with_reducible apply s3); exact rfl; exact by_k) | ((with_reducible apply s2); exact rfl; exact by_k) | ((with_reducible apply s4); exact rfl) | ((with_reducible apply s5); (first | exact by_oa); exact by_g) | ((with_reducible apply CW.cond_t); exact rfl; exact by_ks) | ((with_reducible apply CW.cond_f); exact rfl; exact by_ks) | ((with_reducible apply q_block_miss); exact rfl) | (refine And.intro (show chk [] [] _ _ = true by kernel_rfl) ?_))
      exact RetNew.nil rfl rfl
    | some ad =>
      repeat (first | (with_reducible apply stop_reg 3) | ((with_reducible apply s1); exact rfl) | (with_reducible first | apply CW.seq | apply CW.block | apply CW.region | apply CW.draw | apply CW.skip | apply CW.exit | apply CW.ret | apply q_then | apply q_then_exit | apply q_then_ret | apply q_block | apply q_block_ret | apply q_block_hit | apply q_ret | apply q_end | apply q_loop_exit | apply q_loop_ret | apply q_loopT_exit | apply q_loopT_ret | apply RW.nil) | ((with_reducible apply s3); exact rfl; exact by_k) | ((with_reducible apply s2); exact rfl; exact by_k) | ((with_reducible apply s4); exact rfl) | ((with_reducible apply s5); (first | exact by_oa); exact by_g) | ((with_reducible apply CW.cond_t); exact rfl; exact by_ks) | ((with_reducible apply CW.cond_f); exact rfl; exact by_ks) | ((with_reducible apply q_block_miss); exact rfl) | (refine And.intro (show chk [] [] _ _ = true by kernel_rfl) ?_))
      refine Stop.go (CW.stut (stut_nilv (i := 0) (k := 1)) ⟨rfl, trivial⟩ ?_)
      repeat (first | ((with_reducible apply s1); exact rfl) | (with_reducible first | apply CW.seq | apply CW.block | apply CW.region | apply CW.draw | apply CW.skip | apply CW.exit | apply CW.ret | apply q_then | apply q_then_exit | apply q_then_ret | apply q_block | apply q_block_ret | apply q_block_hit | apply q_ret | apply q_end | apply q_loop_exit | apply q_loop_ret | apply q_loopT_exit | apply q_loopT_ret | apply RW.nil) | ((with_reducible apply s3); exact rfl; exact by_k) | ((with_reducible apply s2); exact rfl; exact by_k) | ((with_reducible apply s4); exact rfl) | ((with_reducible apply s5); (first | exact by_oa); exact by_g) | ((with_reducible apply CW.cond_t); exact rfl; exact by_ks) | ((with_reducible apply CW.cond_f); exact rfl; exact by_ks) | ((with_reducible apply q_block_miss); exact rfl) | (refine And.intro (show chk [] [] _ _ = true by kernel_rfl) ?_))
      exact RetNew.own rfl rfl rfl
  | cons r rows =>
    have hl2 : rows.length ≤ 536870911 := by simp at hl; omega
    repeat (first | ((with_reducible apply s1); exact rfl) | (with_reducible first | apply CW.seq | apply CW.block | apply CW.region | apply CW.draw | apply CW.skip | apply CW.exit | apply CW.ret | apply q_then | apply q_then_exit | apply q_then_ret | apply q_block | apply q_block_ret | apply q_block_hit | apply q_ret | apply q_end | apply q_loop_exit | apply q_loop_ret | apply q_loopT_exit | apply q_loopT_ret | apply RW.nil) | ((with_reducible apply s3); exact rfl; exact by_k) | ((with_reducible apply s2); exact rfl; exact by_k) | ((with_reducible apply s4); exact rfl) | ((with_reducible apply s5); (first | exact by_oa); exact by_g) | ((with_reducible apply CW.cond_t); exact rfl; exact by_ks) | ((with_reducible apply CW.cond_f); exact rfl; exact by_ks) | ((with_reducible apply q_block_miss); exact rfl) | (refine And.intro (show chk [] [] _ _ = true by kernel_rfl) ?_))
    exact RetNew.own rfl rfl (by simp)
theorem ok_clone_int (rows : List (List D)) (hl : rows.length ≤ 536870912) : FnOk Tryz.prog 53 [.d (.sl 1 rows)] (.one (.sl 1 rows)) := (new_clone_int rows hl).ok

theorem new_clone_done (rows : List (List D)) (hl : rows.length ≤ 536870912) : FnNew Tryz.prog 54 [.d (.sl 5 rows)] 53 5 rows := by
  refine fnNew_of tbl_ok mixed_ok Tryz.func54 rfl (by kernel_rfl) rfl rfl fun w0 own0 => ?_
  cases rows with
  | nil =>
    refine CW.empty 0 rfl fun p cp => ?_
    cases p with
    | none =>
      repeat (first | ((with_reducible apply s1); exact rfl) | (with_reducible first | apply CW.seq | apply CW.block | apply CW.region | apply CW.draw | apply CW.skip | apply CW.exit | apply CW.ret | apply q_then | apply q_then_exit | apply q_then_ret | apply q_block | apply q_block_ret | apply q_block_hit | apply q_ret | apply q_end | apply q_loop_exit | apply q_loop_ret | apply q_loopT_exit | apply q_loopT_ret | apply RW.nil) | ((with_reducible apply s3); exact rfl; exact by_k) | ((with_reducible apply s2); exact rfl; exact by_k) | ((with_reducible apply s4); exact rfl) | ((with_reducible apply s5); (first | exact by_oa); exact by_g) | ((with_reducible apply CW.cond_t); exact rfl; exact by_ks) | ((with_reducible apply CW.cond_f); exact rfl; exact by_ks) | ((with_reducible apply q_block_miss); exact rfl) | (refine And.intro (show chk [] [] _ _ = true by kernel_rfl) ?_))
      exact RetNew.nil rfl rfl
    | some ad =>
      repeat (first | (with_reducible apply stop_reg 3) | ((with_reducible apply s1); exact rfl) | (with_reducible first | apply CW.seq | apply CW.block | apply CW.region | apply CW.draw | apply CW.skip | apply CW.exit | apply CW.ret | apply q_then | apply q_then_exit | apply q_then_ret | apply q_block | apply q_block_ret | apply q_block_hit | apply q_ret | apply q_end | apply q_loop_exit | apply q_loop_ret | apply q_loopT_exit | apply q_loopT_ret | apply RW.nil) | ((with_reducible apply s3); exact rfl; exact by_k) | ((with_reducible apply s2); exact rfl; exact by_k) | ((with_reducible apply s4); exact rfl) | ((with_reducible apply s5); (first | exact by_oa); exact by_g) | ((with_reducible apply CW.cond_t); exact rfl; exact by_ks) | ((with_reducible apply CW.cond_f); exact rfl; exact by_ks) | ((with_reducible apply q_block_miss); exact rfl) | (refine And.intro (show chk [] [] _ _ = true by kernel_rfl) ?_))
      refine Stop.go (CW.stut (stut_nilv (i := 0) (k := 5)) ⟨rfl, trivial⟩ ?_)
      repeat (first | ((with_reducible apply s1); exact rfl) | (with_reducible first | apply CW.seq | apply CW.block | apply CW.region | apply CW.draw | apply CW.skip | apply CW.exit | apply CW.ret | apply q_then | apply q_then_exit | apply q_then_ret | apply q_block | apply q_block_ret | apply q_block_hit | apply q_ret | apply q_end | apply q_loop_exit | apply q_loop_ret | apply q_loopT_exit | apply q_loopT_ret | apply RW.nil) | ((with_reducible apply s3); exact rfl; exact by_k) | ((with_reducible apply s2); exact rfl; exact by_k) | ((with_reducible apply s4); exact rfl) | ((with_reducible apply s5); (first | exact by_oa); exact by_g) | ((with_reducible apply CW.cond_t); exact rfl; exact by_ks) | ((with_reducible apply CW.cond_f); exact rfl; exact by_ks) | ((with_reducible apply q_block_miss); exact rfl) | (refine And.intro (show chk [] [] _ _ = true by kernel_rfl) ?_))
      exact RetNew.own rfl rfl rfl
  | cons r rows =>
    have hl2 : rows.length ≤ 536870911 := by simp at hl; omega
    repeat (first | ((with_reducible apply s1); exact rfl) | (with_reducible first | apply CW.seq | apply CW.block | apply CW.region | apply CW.draw | apply CW.skip | apply CW.exit | apply CW.ret | apply q_then | apply q_then_exit | apply q_then_ret | apply q_block | apply q_block_ret | apply q_block_hit | apply q_ret | apply q_end | apply q_loop_exit | apply q_loop_ret | apply q_loopT_exit | apply q_loopT_ret | apply RW.nil) | ((with_reducible apply s3); exact rfl; exact by_k) | ((with_reducible apply s2); exact rfl; exact by_k) | ((with_reducible apply s4); exact rfl) | ((with_reducible apply s5); (first | exact by_oa); exact by_g) | ((with_reducible apply CW.cond_t); exact rfl; exact by_ks) | ((with_reducible apply CW.cond_f); exact rfl; exact by_ks) | ((with_reducible apply q_block_miss); exact rfl) | (refine And.intro (show chk [] [] _ _ = true by kernel_rfl) ?_))
    exact RetNew.own rfl rfl (by simp)
theorem ok_clone_done (rows : List (List D)) (hl : rows.length ≤ 536870912) : FnOk Tryz.prog 54 [.d (.sl 5 rows)] (.one (.sl 5 rows)) := (new_clone_done rows hl).ok

theorem new_clone_str (rows : List (List D)) (hl : rows.length ≤ 536870912) : FnNew Tryz.prog 69 [.d (.sl 1 rows)] 9 1 rows := by
  refine fnNew_of tbl_ok mixed_ok Tryz.func69 rfl (by kernel_rfl) rfl rfl fun w0 own0 => ?_
  cases rows with
  | nil =>
    refine CW.empty 0 rfl fun p cp => ?_
    cases p with
    | none =>
      repeat (first | ((with_reducible apply s1); exact rfl) | (with_reducible first | apply CW.seq | apply CW.block | apply CW.region | apply CW.draw | apply CW.skip | apply CW.exit | apply CW.ret | apply q_then | apply q_then_exit | apply q_then_ret | apply q_block | apply q_block_ret | apply q_block_hit | apply q_ret | apply q_end | apply q_loop_exit | apply q_loop_ret | apply q_loopT_exit | apply q_loopT_ret | apply RW.nil) | ((with_reducible apply s3); exact rfl; exact by_k) | ((with_reducible apply s2); exact rfl; exact by_k) | ((with_reducible apply s4); exact rfl) | ((with_reducible apply s5); (first | exact by_oa); exact by_g) | ((with_reducible apply CW.cond_t); exact rfl; exact by_ks) | ((with_reducible apply CW.cond_f); exact rfl; exact by_ks) | ((with_reducible apply q_block_miss); exact rfl) | (refine And.intro (show chk [] [] _ _ = true by kernel_rfl) ?_))
      exact RetNew.nil rfl rfl
    | some ad =>
      repeat (first | (with_reducible apply stop_reg 3) | ((with_reducible apply s1); exact rfl) | (with_reducible first | apply CW.seq | apply CW.block | apply CW.region | apply CW.draw | apply CW.skip | apply CW.exit | apply CW.ret | apply q_then | apply q_then_exit | apply q_then_ret | apply q_block | apply q_block_ret | apply q_block_hit | apply q_ret | apply q_end | apply q_loop_exit | apply q_loop_ret | apply q_loopT_exit | apply q_loopT_ret | apply RW.nil) | ((with_reducible apply s3); exact rfl; exact by_k) | ((with_reducible apply s2); exact rfl; exact by_k) | ((with_reducible apply s4); exact rfl) | ((with_reducible apply s5); (first | exact by_oa); exact by_g) | ((with_reducible apply CW.cond_t); exact rfl; exact by_ks) | ((with_reducible apply CW.cond_f); exact rfl; exact by_ks) | ((with_reducible apply q_block_miss); exact rfl) | (refine And.intro (show chk [] [] _ _ = true by kernel_rfl) ?_))
      refine Stop.go (CW.stut (stut_nilv (i := 0) (k := 1)) ⟨rfl, trivial⟩ ?_)
      repeat (first | ((with_reducible apply s1); exact rfl) | (with_reducible first | apply CW.seq | apply CW.block | apply CW.region | apply CW.draw | apply CW.skip | apply CW.exit | apply CW.ret | apply q_then | apply q_then_exit | apply q_then_ret | apply q_block | apply q_block_ret | apply q_block_hit | apply q_ret | apply q_end | apply q_loop_exit | apply q_loop_ret | apply q_loopT_exit | apply q_loopT_ret | apply RW.nil) | ((with_reducible apply s3); exact rfl; exact by_k) | ((with_reducible apply s2); exact rfl; exact by_k) | ((with_reducible apply s4); exact rfl) | ((with_reducible apply s5); (first | exact by_oa); exact by_g) | ((with_reducible apply CW.cond_t); exact rfl; exact by_ks) | ((with_reducible apply CW.cond_f); exact rfl; exact by_ks) | ((with_reducible apply q_block_miss); exact rfl) | (refine And.intro (show chk [] [] _ _ = true by kernel_rfl) ?_))
      exact RetNew.own rfl rfl rfl
  | cons r rows =>
    have hl2 : rows.length ≤ 536870911 := by simp at hl; omega
    repeat (first | ((with_reducible apply s1); exact rfl) | (with_reducible first | apply CW.seq | apply CW.block | apply CW.region | apply CW.draw | apply CW.skip | apply CW.exit | apply CW.ret | apply q_then | apply q_then_exit | apply q_then_ret | apply q_block | apply q_block_ret | apply q_block_hit | apply q_ret | apply q_end | apply q_loop_exit | apply q_loop_ret | apply q_loopT_exit | apply q_loopT_ret | apply RW.nil) | ((with_reducible apply s3); exact rfl; exact by_k) | ((with_reducible apply s2); exact rfl; exact by_k) | ((with_reducible apply s4); exact rfl) | ((with_reducible apply s5); (first | exact by_oa); exact by_g) | ((with_reducible apply CW.cond_t); exact rfl; exact by_ks) | ((with_reducible apply CW.cond_f); exact rfl; exact by_ks) | ((with_reducible apply q_block_miss); exact rfl) | (refine And.intro (show chk [] [] _ _ = true by kernel_rfl) ?_))
    exact RetNew.own rfl rfl (by simp)
theorem ok_clone_str (rows : List (List D)) (hl : rows.length ≤ 536870912) : FnOk Tryz.prog 69 [.d (.sl 1 rows)] (.one (.sl 1 rows)) := (new_clone_str rows hl).ok

theorem new_clone_ins (rows : List (List D)) (hl : rows.length ≤ 536870912) : FnNew Tryz.prog 74 [.d (.sl 5 rows)] 93 5 rows := by
  refine fnNew_of tbl_ok mixed_ok Tryz.func74 rfl (by kernel_rfl) rfl rfl fun w0 own0 => ?_
  cases rows with
  | nil =>
    refine CW.empty 0 rfl fun p cp => ?_
    cases p with
    | none =>
      repeat (first | ((with_reducible apply s1); exact rfl) | (with_reducible first | apply CW.seq | apply CW.block | apply CW.region | apply CW.draw | apply CW.skip | apply CW.exit | apply CW.ret | apply q_then | apply q_then_exit | apply q_then_ret | apply q_block | apply q_block_ret | apply q_block_hit | apply q_ret | apply q_end | apply q_loop_exit | apply q_loop_ret | apply q_loopT_exit | apply q_loopT_ret | apply RW.nil) | ((with_reducible apply s3); exact rfl; exact by_k) | ((with_reducible apply s2); exact rfl; exact by_k) | ((with_reducible apply s4); exact rfl) | ((with_reducible apply s5); (first | exact by_oa); exact by_g) | ((with_reducible apply CW.cond_t); exact rfl; exact by_ks) | ((with_reducible apply CW.cond_f); exact rfl; exact by_ks) | ((with_reducible apply q_block_miss); exact rfl) | (refine And.intro (show chk [] [] _ _ = true by kernel_rfl) ?_))
      exact RetNew.nil rfl rfl
    | some ad =>
      repeat (first | (with_reducible apply stop_reg 3) | ((with_reducible apply s1); exact rfl) | (with_reducible first | apply CW.seq | apply CW.block | apply CW.region | apply CW.draw | apply CW.skip | apply CW.exit | apply CW.ret | apply q_then | apply q_then_exit | apply q_then_ret | apply q_block | apply q_block_ret | apply q_block_hit | apply q_ret | apply q_end | apply q_loop_exit | apply q_loop_ret | apply q_loopT_exit | apply q_loopT_ret | apply RW.nil) | ((with_reducible apply s3); exact rfl; exact by_k) | ((with_reducible apply s2); exact rfl; exact by_k) | ((with_reducible apply s4); exact rfl) | ((with_reducible apply s5); (first | exact by_oa); exact by_g) | ((with_reducible apply CW.cond_t); exact rfl; exact by_ks) | ((with_reducible apply CW.cond_f); exact rfl; exact by_ks) | ((with_reducible apply q_block_miss); exact rfl) | (refine And.intro (show chk [] [] _ _ = true by kernel_rfl) ?_))
      refine Stop.go (CW.stut (stut_nilv (i := 0) (k := 5)) ⟨rfl, trivial⟩ ?_)
      repeat (first | ((with_reducible apply s1); exact rfl) | (with_reducible first | apply CW.seq | apply CW.block | apply CW.region | apply CW.draw | apply CW.skip | apply CW.exit | apply CW.ret | apply q_then | apply q_then_exit | apply q_then_ret | apply q_block | apply q_block_ret | apply q_block_hit | apply q_ret | apply q_end | apply q_loop_exit | apply q_loop_ret | apply q_loopT_exit | apply q_loopT_ret | apply RW.nil) | ((with_reducible apply s3); exact rfl; exact by_k) | ((with_reducible apply s2); exact rfl; exact by_k) | ((with_reducible apply s4); exact rfl) | ((with_reducible apply s5); (first | exact by_oa); exact by_g) | ((with_reducible apply CW.cond_t); exact rfl; exact by_ks) | ((with_reducible apply CW.cond_f); exact rfl; exact by_ks) | ((with_reducible apply q_block_miss); exact rfl) | (refine And.intro (show chk [] [] _ _ = true by kernel_rfl) ?_))
      exact RetNew.own rfl rfl rfl
  | cons r rows =>
    have hl2 : rows.length ≤ 536870911 := by simp at hl; omega
    repeat (first | ((with_reducible apply s1); exact rfl) | (with_reducible first | apply CW.seq | apply CW.block | apply CW.region | apply CW.draw | apply CW.skip | apply CW.exit | apply CW.ret | apply q_then | apply q_then_exit | apply q_then_ret | apply q_block | apply q_block_ret | apply q_block_hit | apply q_ret | apply q_end | apply q_loop_exit | apply q_loop_ret | apply q_loopT_exit | apply q_loopT_ret | apply RW.nil) | ((with_reducible apply s3); exact rfl; exact by_k) | ((with_reducible apply s2); exact rfl; exact by_k) | ((with_reducible apply s4); exact rfl) | ((with_reducible apply s5); (first | exact by_oa); exact by_g) | ((with_reducible apply CW.cond_t); exact rfl; exact by_ks) | ((with_reducible apply CW.cond_f); exact rfl; exact by_ks) | ((with_reducible apply q_block_miss); exact rfl) | (refine And.intro (show chk [] [] _ _ = true by kernel_rfl) ?_))
    exact RetNew.own rfl rfl (by simp)
theorem ok_clone_ins (rows : List (List D)) (hl : rows.length ≤ 536870912) : FnOk Tryz.prog 74 [.d (.sl 5 rows)] (.one (.sl 5 rows)) := (new_clone_ins rows hl).ok

end Go.Proofs.YtembfadhnkabhaaGreatDoor

/-! G3 -/
/-
  Contracts of the program's copies, and of what it counts in engines.
-/
namespace Go.Proofs.YtembfadhnkabhaaGreatDoor
open Go.AX Go.RF

set_option maxRecDepth 100000
set_option maxHeartbeats 4000000

theorem ok_chainOwn (l : List Chain) (hl : l.length ≤ 268435456) (hv : ∀ c ∈ l, c.vs.length ≤ 268435456) : FnOk Tryz.prog 52 [.d (encChains l)] (.one (encChains l)) := by
  refine fnOk_of tbl_ok mixed_ok Tryz.func52 rfl (by kernel_rfl) rfl rfl fun w0 own0 => ?_
  repeat (first | ((with_reducible apply s1); exact rfl) | (with_reducible first | apply CW.seq | apply CW.block | apply CW.region | apply CW.draw | apply CW.skip | apply CW.exit | apply CW.ret | apply q_then | apply q_then_exit | apply q_then_ret | apply q_block | apply q_block_ret | apply q_block_hit | apply q_ret | apply q_end | apply q_loop_exit | apply q_loop_ret | apply q_loopT_exit | apply q_loopT_ret | apply RW.nil) | ((with_reducible apply s3); exact rfl; exact by_k) | ((with_reducible apply s2); exact rfl; exact by_k) | ((with_reducible apply s4); exact rfl) | ((with_reducible apply s5); (first | exact by_oa); exact by_g) | ((with_reducible apply CW.cond_t); exact rfl; exact by_ks) | ((with_reducible apply CW.cond_f); exact rfl; exact by_ks) | ((with_reducible apply q_block_miss); exact rfl) | (refine And.intro (show chk [] [] _ _ = true by kernel_rfl) ?_))
  refine CW.stut (stut_promote (i := 3) 56 2) ⟨rfl, rfl, trivial⟩ ?_
  refine CW.loopT (fun i : Nat => [sd 6 (encChains l), sd 7 (dint l.length), sd 8 (dint i), so 3 0 i, oa 0 56 2 ((l.take i).map Chain.enc), nxt 1]) (fun i => i ≤ l.length) (fun i => l.length - i) 0 (by omega) ?_ ?_
  ·
    exact by_less
  · rintro i hi
    rcases drop_case hi with ⟨h1, h2⟩ | ⟨c, h1, h2, h3⟩
    ·
      repeat (first | ((with_reducible apply s1); exact rfl) | (with_reducible first | apply CW.seq | apply CW.block | apply CW.region | apply CW.draw | apply CW.skip | apply CW.exit | apply CW.ret | apply q_then | apply q_then_exit | apply q_then_ret | apply q_block | apply q_block_ret | apply q_block_hit | apply q_ret | apply q_end | apply q_loop_exit | apply q_loop_ret | apply q_loopT_exit | apply q_loopT_ret | apply RW.nil) | ((with_reducible apply s3); exact rfl; exact by_k) | ((with_reducible apply s2); exact rfl; exact by_k) | ((with_reducible apply s4); exact rfl) | ((with_reducible apply s5); (first | exact by_oa); exact by_g) | ((with_reducible apply CW.cond_t); exact rfl; exact by_ks) | ((with_reducible apply CW.cond_f); exact rfl; exact by_ks) | ((with_reducible apply q_block_miss); exact rfl) | (refine And.intro (show chk [] [] _ _ = true by kernel_rfl) ?_))
      exact .one (.tmp rfl (.one (.own rfl (by simp; omega) (dle_eq (by rw [h2, List.take_length]; rfl)))))
    · have h4 : (l.take i).map Chain.enc ++ [c.enc] = (l.take (i + 1)).map Chain.enc := by rw [List.take_add_one, h2]; simp
      have hcv := hv c (List.mem_of_getElem? h2)
      have hc := ok_clone_version (c.vs.map Version.enc) (by simp; omega)
      repeat (first | ((with_reducible apply s1); exact rfl) | (with_reducible first | apply CW.seq | apply CW.block | apply CW.region | apply CW.draw | apply CW.skip | apply CW.exit | apply CW.ret | apply q_then | apply q_then_exit | apply q_then_ret | apply q_block | apply q_block_ret | apply q_block_hit | apply q_ret | apply q_end | apply q_loop_exit | apply q_loop_ret | apply q_loopT_exit | apply q_loopT_ret | apply RW.nil) | ((with_reducible apply s3); exact rfl; exact by_k) | ((with_reducible apply s2); exact rfl; exact by_k) | ((with_reducible apply s4); exact rfl) | ((with_reducible apply s5); (first | (focus ((with_reducible apply a_call); exact hc; exact rfl; (repeat (first | exact SubsE.nil | (apply SubsE.cons; exact rfl; (first | exact .d (.refl _) | exact .d (.nil _) | exact .agg rfl (.refl _) | exact .pd | exact .ptr rfl); (first | exact trivial | exact ⟨rfl, trivial⟩)))); done)) | exact by_oa); exact by_g) | ((with_reducible apply CW.cond_t); exact rfl; exact by_ks) | ((with_reducible apply CW.cond_f); exact rfl; exact by_ks) | ((with_reducible apply q_block_miss); exact rfl) | (refine And.intro (show chk [] [] _ _ = true by kernel_rfl) ?_))
      refine q_loopT (i + 1) (by omega) (by omega) ?_
      exact by_less

theorem ok_deedOwn (d : Deed) (hs : d.Sm) : FnOk Tryz.prog 46 [.d (.agg d.enc)] (.one (.agg d.enc)) := by
  refine fnOk_of tbl_ok mixed_ok Tryz.func46 rfl (by kernel_rfl) rfl rfl fun w0 own0 => ?_
  have h1 := hs.r
  have h2 := hs.w
  have h3 := hs.c
  have c1 := ok_clone_str (d.reads.map encStr1) (by simp; omega)
  have c2 := ok_clone_str (d.writes.map encStr1) (by simp; omega)
  have c3 := ok_clone_ins (d.code.map Ins.enc) (by simp; omega)
  repeat (first | ((with_reducible apply s1); exact rfl) | (with_reducible first | apply CW.seq | apply CW.block | apply CW.region | apply CW.draw | apply CW.skip | apply CW.exit | apply CW.ret | apply q_then | apply q_then_exit | apply q_then_ret | apply q_block | apply q_block_ret | apply q_block_hit | apply q_ret | apply q_end | apply q_loop_exit | apply q_loop_ret | apply q_loopT_exit | apply q_loopT_ret | apply RW.nil) | ((with_reducible apply s3); exact rfl; exact by_k) | ((with_reducible apply s2); exact rfl; exact by_k) | ((with_reducible apply s4); exact rfl) | ((with_reducible apply s5); (first | (focus ((with_reducible apply a_call); exact c1; exact rfl; (repeat (first | exact SubsE.nil | (apply SubsE.cons; exact rfl; (first | exact .d (.refl _) | exact .d (.nil _) | exact .agg rfl (.refl _) | exact .pd | exact .ptr rfl); (first | exact trivial | exact ⟨rfl, trivial⟩)))); done)) | (focus ((with_reducible apply a_call); exact c2; exact rfl; (repeat (first | exact SubsE.nil | (apply SubsE.cons; exact rfl; (first | exact .d (.refl _) | exact .d (.nil _) | exact .agg rfl (.refl _) | exact .pd | exact .ptr rfl); (first | exact trivial | exact ⟨rfl, trivial⟩)))); done)) | (focus ((with_reducible apply a_call); exact c3; exact rfl; (repeat (first | exact SubsE.nil | (apply SubsE.cons; exact rfl; (first | exact .d (.refl _) | exact .d (.nil _) | exact .agg rfl (.refl _) | exact .pd | exact .ptr rfl); (first | exact trivial | exact ⟨rfl, trivial⟩)))); done)) | exact by_oa); exact by_g) | ((with_reducible apply CW.cond_t); exact rfl; exact by_ks) | ((with_reducible apply CW.cond_f); exact rfl; exact by_ks) | ((with_reducible apply q_block_miss); exact rfl) | (refine And.intro (show chk [] [] _ _ = true by kernel_rfl) ?_))
  exact .one (.cell rfl rfl rfl rfl (.aggd (ds := d.enc) rfl (.refl _)))

theorem ok_planOwn (e : Engine) (hs : e.Sm) : FnOk Tryz.prog 31 [.d (.agg e.enc)] (.one (.agg e.enc)) := by
  refine fnOk_of tbl_ok mixed_ok Tryz.func31 rfl (by kernel_rfl) rfl rfl fun w0 own0 => ?_
  have h1 := hs.c
  have h2 := hs.s
  have h3 := hs.n
  have h4 := hs.d
  have c1 := ok_chainOwn e.chains (by omega) (fun c hc => by have := hs.v c hc; omega)
  have c2 := ok_clone_int (e.state.map encInt1) (by simp; omega)
  have c3 := ok_clone_done (e.ends.map Done.enc) (by simp; omega)
  repeat (first | ((with_reducible apply s1); exact rfl) | (with_reducible first | apply CW.seq | apply CW.block | apply CW.region | apply CW.draw | apply CW.skip | apply CW.exit | apply CW.ret | apply q_then | apply q_then_exit | apply q_then_ret | apply q_block | apply q_block_ret | apply q_block_hit | apply q_ret | apply q_end | apply q_loop_exit | apply q_loop_ret | apply q_loopT_exit | apply q_loopT_ret | apply RW.nil) | ((with_reducible apply s3); exact rfl; exact by_k) | ((with_reducible apply s2); exact rfl; exact by_k) | ((with_reducible apply s4); exact rfl) | ((with_reducible apply s5); (first | (focus ((with_reducible apply a_call); exact c1; exact rfl; (repeat (first | exact SubsE.nil | (apply SubsE.cons; exact rfl; (first | exact .d (.refl _) | exact .d (.nil _) | exact .agg rfl (.refl _) | exact .pd | exact .ptr rfl); (first | exact trivial | exact ⟨rfl, trivial⟩)))); done)) | (focus ((with_reducible apply a_call); exact c2; exact rfl; (repeat (first | exact SubsE.nil | (apply SubsE.cons; exact rfl; (first | exact .d (.refl _) | exact .d (.nil _) | exact .agg rfl (.refl _) | exact .pd | exact .ptr rfl); (first | exact trivial | exact ⟨rfl, trivial⟩)))); done)) | (focus ((with_reducible apply a_call); exact c3; exact rfl; (repeat (first | exact SubsE.nil | (apply SubsE.cons; exact rfl; (first | exact .d (.refl _) | exact .d (.nil _) | exact .agg rfl (.refl _) | exact .pd | exact .ptr rfl); (first | exact trivial | exact ⟨rfl, trivial⟩)))); done)) | exact by_oa); exact by_g) | ((with_reducible apply CW.cond_t); exact rfl; exact by_ks) | ((with_reducible apply CW.cond_f); exact rfl; exact by_ks) | ((with_reducible apply q_block_miss); exact rfl) | (refine And.intro (show chk [] [] _ _ = true by kernel_rfl) ?_))
  refine CW.stut (stut_promote_cell (id := 2) (j := 1) 69 3 rfl) ⟨rfl, rfl, trivial⟩ ?_
  refine CW.loopT (fun i : Nat => [sp 2 1, ob 1 noE.enc0, sp 3 2, (.o 2, .ob (.box [.d (encChains e.chains), .own 3 i, .d (encInts e.state), .d (encEnds e.ends), .d (dint e.base)])), sd 19 (encDeeds e.deeds), sd 20 (dint e.deeds.length), sd 21 (dint i),
      oa 3 69 3 ((e.deeds.take i).map Deed.enc), nxt 4]) (fun i => i ≤ e.deeds.length) (fun i => e.deeds.length - i) 0 (by omega) ?_ ?_
  ·
    exact by_less
  · rintro i hi
    rcases drop_case hi with ⟨h5, h6⟩ | ⟨d, h5, h6, h7⟩
    · have h8 : (e.deeds.take i).map Deed.enc = e.deeds.map Deed.enc := by rw [h6, List.take_length]
      repeat (first | (with_reducible apply stop_reg 7) | ((with_reducible apply s1); exact rfl) | (with_reducible first | apply CW.seq | apply CW.block | apply CW.region | apply CW.draw | apply CW.skip | apply CW.exit | apply CW.ret | apply q_then | apply q_then_exit | apply q_then_ret | apply q_block | apply q_block_ret | apply q_block_hit | apply q_ret | apply q_end | apply q_loop_exit | apply q_loop_ret | apply q_loopT_exit | apply q_loopT_ret | apply RW.nil) | ((with_reducible apply s3); exact rfl; exact by_k) | ((with_reducible apply s2); exact rfl; exact by_k) | ((with_reducible apply s4); exact rfl) | ((with_reducible apply s5); (first | exact by_oa); exact by_g) | ((with_reducible apply CW.cond_t); exact rfl; exact by_ks) | ((with_reducible apply CW.cond_f); exact rfl; exact by_ks) | ((with_reducible apply q_block_miss); exact rfl) | (refine And.intro (show chk [] [] _ _ = true by kernel_rfl) ?_))
      refine Stop.go (CW.stut (stut_freeze_cell (id := 2) (j := 1) (i := 3) rfl (by simp; omega)) ⟨rfl, rfl, trivial⟩ ?_)
      repeat (first | ((with_reducible apply s1); exact rfl) | (with_reducible first | apply CW.seq | apply CW.block | apply CW.region | apply CW.draw | apply CW.skip | apply CW.exit | apply CW.ret | apply q_then | apply q_then_exit | apply q_then_ret | apply q_block | apply q_block_ret | apply q_block_hit | apply q_ret | apply q_end | apply q_loop_exit | apply q_loop_ret | apply q_loopT_exit | apply q_loopT_ret | apply RW.nil) | ((with_reducible apply s3); exact rfl; exact by_k) | ((with_reducible apply s2); exact rfl; exact by_k) | ((with_reducible apply s4); exact rfl) | ((with_reducible apply s5); (first | exact by_oa); exact by_g) | ((with_reducible apply CW.cond_t); exact rfl; exact by_ks) | ((with_reducible apply CW.cond_f); exact rfl; exact by_ks) | ((with_reducible apply q_block_miss); exact rfl) | (refine And.intro (show chk [] [] _ _ = true by kernel_rfl) ?_))
      exact .one (.cell rfl rfl rfl rfl (.aggd (ds := [encChains e.chains, .sl 3 ((e.deeds.take i).map Deed.enc), encInts e.state, encEnds e.ends, dint e.base]) rfl (dle_eq (by rw [h8]; rfl))))
    · have h8 : (e.deeds.take i).map Deed.enc ++ [d.enc] = (e.deeds.take (i + 1)).map Deed.enc := by rw [List.take_add_one, h6]; simp
      have hd := ok_deedOwn d (hs.dd d (List.mem_of_getElem? h6))
      repeat (first | ((with_reducible apply s1); exact rfl) | (with_reducible first | apply CW.seq | apply CW.block | apply CW.region | apply CW.draw | apply CW.skip | apply CW.exit | apply CW.ret | apply q_then | apply q_then_exit | apply q_then_ret | apply q_block | apply q_block_ret | apply q_block_hit | apply q_ret | apply q_end | apply q_loop_exit | apply q_loop_ret | apply q_loopT_exit | apply q_loopT_ret | apply RW.nil) | ((with_reducible apply s3); exact rfl; exact by_k) | ((with_reducible apply s2); exact rfl; exact by_k) | ((with_reducible apply s4); exact rfl) | ((with_reducible apply s5); (first | (focus ((with_reducible apply a_call); exact hd; exact rfl; (repeat (first | exact SubsE.nil | (apply SubsE.cons; exact rfl; (first | exact .d (.refl _) | exact .d (.nil _) | exact .agg rfl (.refl _) | exact .pd | exact .ptr rfl); (first | exact trivial | exact ⟨rfl, trivial⟩)))); done)) | exact by_oa); exact by_g) | ((with_reducible apply CW.cond_t); exact rfl; exact by_ks) | ((with_reducible apply CW.cond_f); exact rfl; exact by_ks) | ((with_reducible apply q_block_miss); exact rfl) | (refine And.intro (show chk [] [] _ _ = true by kernel_rfl) ?_))
      refine q_loopT (i + 1) (by omega) (by omega) ?_
      exact by_less

end Go.Proofs.YtembfadhnkabhaaGreatDoor
