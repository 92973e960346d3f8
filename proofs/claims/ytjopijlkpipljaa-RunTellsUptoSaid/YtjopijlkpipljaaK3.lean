/-
  Part 3 of what the claim leans on: F5 Eq2 F13 F17 G3 AxFam AxFam2 AxPin4 AxPin5 AxBool AxFnD AxMap Rn Sh G2 G8 R2 F3.
-/
import Derived.Test.YtjopijlkpipljaaK2
import Derived.Laws.Small
import Derived.MapKept
import Derived.Shelf.Small.Strs
import Derived.Test.YtjopijlkpipljaaProg

/-! F5 -/
/-
  Contract of the references' WrongDeed.
-/
namespace Go.Proofs.Ytjopijlkpipljaa
open Go.AX Go.RF

set_option maxRecDepth 100000
set_option maxHeartbeats 4000000

theorem ls_first {l : List Str} {r : List (List Str)} {v : Int} (h : lsGo (l :: r) = v) : (keysWrong l = 0 ∧ lsGo r = v) ∨ (keysWrong l ≠ 0 ∧ keysWrong l = v) := by
  simp only [lsGo] at h
  split at h
  · next h0 => exact .inl ⟨h0, h⟩
  · next h0 => exact .inr ⟨h0, h⟩

theorem ok_wrongDeed (d : Deed) (hr : d.reads.length ≤ 268435456) (hw : d.writes.length ≤ 268435456) (hc : d.code.length ≤ 268435456)
    (hrk : ∀ s ∈ d.reads, s.length ≤ 1073741824) (hwk : ∀ s ∈ d.writes, s.length ≤ 1073741824) : FnOk Try.prog 32 [.d (.agg d.enc)] (.one (dint (wrongDeed d))) := by
  refine fnOk_of tbl_ok mixed_ok Try.func32 rfl (by kernel_rfl) rfl rfl fun w0 own0 => ?_
  repeat (first | ((with_reducible apply s5); ((with_reducible apply a_bs ([d.reads, d.writes].map fun l => [encStrs l])); (iterate 9 exact rfl); (repeat (first | exact PartsE.nil | (apply PartsE.cons; exact rfl; exact rfl)))); exact by_g) | ((with_reducible apply s1); exact rfl) | (with_reducible first | apply CW.seq | apply CW.block | apply CW.region | apply CW.draw | apply CW.skip | apply CW.exit | apply CW.ret | apply q_then | apply q_then_exit | apply q_then_ret | apply q_block | apply q_block_ret | apply q_block_hit | apply q_ret | apply q_end | apply q_loop_exit | apply q_loop_ret | apply q_loopT_exit | apply q_loopT_ret | apply RW.nil) | ((with_reducible apply s3); exact rfl; exact by_k) | ((with_reducible apply s2); exact rfl; exact by_k) | ((with_reducible apply s4); exact rfl) | ((with_reducible apply s5); (first | exact by_oa); exact by_g) | ((with_reducible apply CW.cond_t); exact rfl; exact by_ks) | ((with_reducible apply CW.cond_f); exact rfl; exact by_ks) | ((with_reducible apply q_block_miss); exact rfl) | (refine And.intro (show chk [] [] _ _ = true by kernel_rfl) ?_))
  refine CW.loopT (fun j : Nat => [(.s 1, .av (.ptr 0 0)), (.o 0, .ob (.box (d.enc.map AV.d))), (.s 18, .av (.d (.sl 1 ([d.reads, d.writes].map fun l => [encStrs l])))), (.s 19, .av (.d (dint 2))), (.s 20, .av (.d (dint j))), (.nx, .num 1)])
    (fun j => j ≤ [d.reads, d.writes].length ∧ lsGo ([d.reads, d.writes].drop j) = lsGo [d.reads, d.writes]) (fun j => 2 - j) 0 ⟨by simp, rfl⟩ ?_ ?_
  ·
    exact by_less
  · rintro j ⟨hj, hI⟩
    have hj2 : j ≤ 2 := hj
    rcases drop_case hj with ⟨h1, h2⟩ | ⟨l, h1, h2, h3⟩
    · have h2' : j = 2 := h2
      rw [h1] at hI
      have hI' : lsGo [d.reads, d.writes] = 0 := hI.symm
      by_cases h4 : 12 < d.code.length
      ·
        repeat (first | ((with_reducible apply s1); exact rfl) | (with_reducible first | apply CW.seq | apply CW.block | apply CW.region | apply CW.draw | apply CW.skip | apply CW.exit | apply CW.ret | apply q_then | apply q_then_exit | apply q_then_ret | apply q_block | apply q_block_ret | apply q_block_hit | apply q_ret | apply q_end | apply q_loop_exit | apply q_loop_ret | apply q_loopT_exit | apply q_loopT_ret | apply RW.nil) | ((with_reducible apply s3); exact rfl; exact by_k) | ((with_reducible apply s2); exact rfl; exact by_k) | ((with_reducible apply s4); exact rfl) | ((with_reducible apply s5); (first | exact by_oa); exact by_g) | ((with_reducible apply CW.cond_t); exact rfl; exact by_ks) | ((with_reducible apply CW.cond_f); exact rfl; exact by_ks) | ((with_reducible apply q_block_miss); exact rfl) | (refine And.intro (show chk [] [] _ _ = true by kernel_rfl) ?_))
        exact .one (.tmp rfl (.one (.d (dle_int (by simp [wrongDeed, hI', h4])))))
      ·
        repeat (first | ((with_reducible apply s1); exact rfl) | (with_reducible first | apply CW.seq | apply CW.block | apply CW.region | apply CW.draw | apply CW.skip | apply CW.exit | apply CW.ret | apply q_then | apply q_then_exit | apply q_then_ret | apply q_block | apply q_block_ret | apply q_block_hit | apply q_ret | apply q_end | apply q_loop_exit | apply q_loop_ret | apply q_loopT_exit | apply q_loopT_ret | apply RW.nil) | ((with_reducible apply s3); exact rfl; exact by_k) | ((with_reducible apply s2); exact rfl; exact by_k) | ((with_reducible apply s4); exact rfl) | ((with_reducible apply s5); (first | exact by_oa); exact by_g) | ((with_reducible apply CW.cond_t); exact rfl; exact by_ks) | ((with_reducible apply CW.cond_f); exact rfl; exact by_ks) | ((with_reducible apply q_block_miss); exact rfl) | (refine And.intro (show chk [] [] _ _ = true by kernel_rfl) ?_))
        refine CW.loopT (fun k : Nat => [(.s 1, .av (.ptr 0 0)), (.o 0, .ob (.box (d.enc.map AV.d))), (.s 51, .av (.d (encCode d.code))), (.s 52, .av (.d (dint d.code.length))), (.s 53, .av (.d (dint k))), (.nx, .num 1)])
          (fun k => k ≤ d.code.length ∧ codeGo d k (d.code.drop k) = codeGo d 0 d.code) (fun k => d.code.length - k) 0 ⟨by omega, rfl⟩ ?_ ?_
        ·
          exact by_less
        · rintro k ⟨hk, hC⟩
          rcases drop_case hk with ⟨h5, h6⟩ | ⟨i, h5, h6, h7⟩
          · rw [h5] at hC
            simp only [codeGo] at hC
            repeat (first | ((with_reducible apply s1); exact rfl) | (with_reducible first | apply CW.seq | apply CW.block | apply CW.region | apply CW.draw | apply CW.skip | apply CW.exit | apply CW.ret | apply q_then | apply q_then_exit | apply q_then_ret | apply q_block | apply q_block_ret | apply q_block_hit | apply q_ret | apply q_end | apply q_loop_exit | apply q_loop_ret | apply q_loopT_exit | apply q_loopT_ret | apply RW.nil) | ((with_reducible apply s3); exact rfl; exact by_k) | ((with_reducible apply s2); exact rfl; exact by_k) | ((with_reducible apply s4); exact rfl) | ((with_reducible apply s5); (first | exact by_oa); exact by_g) | ((with_reducible apply CW.cond_t); exact rfl; exact by_ks) | ((with_reducible apply CW.cond_f); exact rfl; exact by_ks) | ((with_reducible apply q_block_miss); exact rfl) | (refine And.intro (show chk [] [] _ _ = true by kernel_rfl) ?_))
            exact .one (.tmp rfl (.one (.d (dle_int (by rw [wrongDeed, if_pos hI', if_neg h4, hC])))))
          · rw [h5] at hC
            have hbad : wrongIns d ((d.code.length : Int) - 1 - k) i ≠ 0 → wrongIns d ((d.code.length : Int) - 1 - k) i = wrongDeed d := fun h0 => by
              rw [codeGo, if_neg h0] at hC
              rw [wrongDeed, if_pos hI', if_neg h4, hC]
            have hgood : wrongIns d ((d.code.length : Int) - 1 - k) i = 0 → codeGo d (k + 1) (d.code.drop (k + 1)) = codeGo d 0 d.code := fun h0 => by
              rw [codeGo, if_pos h0] at hC
              exact hC
            clear hC h5
            obtain ⟨kd0, ia, ib, n, key⟩ := i
            by_cases hk1 : kd0 < 1
            ·
              repeat (first | ((with_reducible apply s1); exact rfl) | (with_reducible first | apply CW.seq | apply CW.block | apply CW.region | apply CW.draw | apply CW.skip | apply CW.exit | apply CW.ret | apply q_then | apply q_then_exit | apply q_then_ret | apply q_block | apply q_block_ret | apply q_block_hit | apply q_ret | apply q_end | apply q_loop_exit | apply q_loop_ret | apply q_loopT_exit | apply q_loopT_ret | apply RW.nil) | ((with_reducible apply s3); exact rfl; exact by_k) | ((with_reducible apply s2); exact rfl; exact by_k) | ((with_reducible apply s4); exact rfl) | ((with_reducible apply s5); (first | exact by_oa); exact by_g) | ((with_reducible apply CW.cond_t); exact rfl; exact by_ks) | ((with_reducible apply CW.cond_f); exact rfl; exact by_ks) | ((with_reducible apply q_block_miss); exact rfl) | (refine And.intro (show chk [] [] _ _ = true by kernel_rfl) ?_))
              have h0 : wrongIns d ((d.code.length : Int) - 1 - k) ⟨kd0, ia, ib, n, key⟩ = 1 := by simp [wrongIns, hk1]
              exact .one (.tmp rfl (.one (.d (dle_int (by rw [← hbad (by rw [h0]; decide), h0])))))
            · by_cases hk9 : 9 < kd0
              ·
                repeat (first | ((with_reducible apply s1); exact rfl) | (with_reducible first | apply CW.seq | apply CW.block | apply CW.region | apply CW.draw | apply CW.skip | apply CW.exit | apply CW.ret | apply q_then | apply q_then_exit | apply q_then_ret | apply q_block | apply q_block_ret | apply q_block_hit | apply q_ret | apply q_end | apply q_loop_exit | apply q_loop_ret | apply q_loopT_exit | apply q_loopT_ret | apply RW.nil) | ((with_reducible apply s3); exact rfl; exact by_k) | ((with_reducible apply s2); exact rfl; exact by_k) | ((with_reducible apply s4); exact rfl) | ((with_reducible apply s5); (first | exact by_oa); exact by_g) | ((with_reducible apply CW.cond_t); exact rfl; exact by_ks) | ((with_reducible apply CW.cond_f); exact rfl; exact by_ks) | ((with_reducible apply q_block_miss); exact rfl) | (refine And.intro (show chk [] [] _ _ = true by kernel_rfl) ?_))
                have h0 : wrongIns d ((d.code.length : Int) - 1 - k) ⟨kd0, ia, ib, n, key⟩ = 1 := by simp [wrongIns, hk9]
                exact .one (.tmp rfl (.one (.d (dle_int (by rw [← hbad (by rw [h0]; decide), h0])))))
              · obtain ⟨kd, rfl⟩ := Int.eq_ofNat_of_zero_le (show 0 ≤ kd0 by omega)
                have hkd : kd < 10 := by omega
                have hcA := ok_has kd 114 hkd
                have hcB := ok_has kd 115 hkd
                have hcK := ok_has kd 107 hkd
                repeat (first | ((with_reducible apply stop_at 21); exact rfl) | ((with_reducible apply s1); exact rfl) | (with_reducible first | apply CW.seq | apply CW.block | apply CW.region | apply CW.draw | apply CW.skip | apply CW.exit | apply CW.ret | apply q_then | apply q_then_exit | apply q_then_ret | apply q_block | apply q_block_ret | apply q_block_hit | apply q_ret | apply q_end | apply q_loop_exit | apply q_loop_ret | apply q_loopT_exit | apply q_loopT_ret | apply RW.nil) | ((with_reducible apply s3); exact rfl; exact by_k) | ((with_reducible apply s2); exact rfl; exact by_k) | ((with_reducible apply s4); exact rfl) | ((with_reducible apply s5); (first | exact by_oa); exact by_g) | ((with_reducible apply CW.cond_t); exact rfl; exact by_ks) | ((with_reducible apply CW.cond_f); exact rfl; exact by_ks) | ((with_reducible apply q_block_miss); exact rfl) | (refine And.intro (show chk [] [] _ _ = true by kernel_rfl) ?_))
                refine Stop.cutk [(.s 9, .av (.d (dint (insA kd))))] [.s 1, .s 51, .s 52, .s 53, .s 7, .s 8, .s 10, .s 11, .s 12, .o 0, .o 1, .nx] ?_ ?_
                · unfold insA
                  cases hA : has kd 114
                  ·
                    repeat (first | ((with_reducible apply s1); exact rfl) | (with_reducible first | apply CW.seq | apply CW.block | apply CW.region | apply CW.draw | apply CW.skip | apply CW.exit | apply CW.ret | apply q_then | apply q_then_exit | apply q_then_ret | apply q_block | apply q_block_ret | apply q_block_hit | apply q_ret | apply q_end | apply q_loop_exit | apply q_loop_ret | apply q_loopT_exit | apply q_loopT_ret | apply RW.nil) | ((with_reducible apply s3); exact rfl; exact by_k) | ((with_reducible apply s2); exact rfl; exact by_k) | ((with_reducible apply s4); exact rfl) | ((with_reducible apply s5); (first | (focus ((with_reducible apply a_call); exact hcA; exact rfl; (repeat (first | exact SubsE.nil | (apply SubsE.cons; exact rfl; (first | exact .d (.refl _) | exact .d (.nil _) | exact .agg rfl (.refl _) | exact .pd | exact .ptr rfl); (first | exact trivial | exact ⟨rfl, trivial⟩)))); done)) | exact by_oa); exact by_g) | ((with_reducible apply CW.cond_t); exact rfl; exact by_ks) | ((with_reducible apply CW.cond_f); exact rfl; exact by_ks) | ((with_reducible apply q_block_miss); exact rfl) | (refine And.intro (show chk [] [] _ _ = true by kernel_rfl) ?_))
                    refine q_cut ?_
                    exact by_less
                  ·
                    repeat (first | ((with_reducible apply s1); exact rfl) | (with_reducible first | apply CW.seq | apply CW.block | apply CW.region | apply CW.draw | apply CW.skip | apply CW.exit | apply CW.ret | apply q_then | apply q_then_exit | apply q_then_ret | apply q_block | apply q_block_ret | apply q_block_hit | apply q_ret | apply q_end | apply q_loop_exit | apply q_loop_ret | apply q_loopT_exit | apply q_loopT_ret | apply RW.nil) | ((with_reducible apply s3); exact rfl; exact by_k) | ((with_reducible apply s2); exact rfl; exact by_k) | ((with_reducible apply s4); exact rfl) | ((with_reducible apply s5); (first | (focus ((with_reducible apply a_call); exact hcA; exact rfl; (repeat (first | exact SubsE.nil | (apply SubsE.cons; exact rfl; (first | exact .d (.refl _) | exact .d (.nil _) | exact .agg rfl (.refl _) | exact .pd | exact .ptr rfl); (first | exact trivial | exact ⟨rfl, trivial⟩)))); done)) | exact by_oa); exact by_g) | ((with_reducible apply CW.cond_t); exact rfl; exact by_ks) | ((with_reducible apply CW.cond_f); exact rfl; exact by_ks) | ((with_reducible apply q_block_miss); exact rfl) | (refine And.intro (show chk [] [] _ _ = true by kernel_rfl) ?_))
                    refine q_cut ?_
                    exact by_less
                repeat (first | ((with_reducible apply stop_at 23); exact rfl) | ((with_reducible apply s1); exact rfl) | (with_reducible first | apply CW.seq | apply CW.block | apply CW.region | apply CW.draw | apply CW.skip | apply CW.exit | apply CW.ret | apply q_then | apply q_then_exit | apply q_then_ret | apply q_block | apply q_block_ret | apply q_block_hit | apply q_ret | apply q_end | apply q_loop_exit | apply q_loop_ret | apply q_loopT_exit | apply q_loopT_ret | apply RW.nil) | ((with_reducible apply s3); exact rfl; exact by_k) | ((with_reducible apply s2); exact rfl; exact by_k) | ((with_reducible apply s4); exact rfl) | ((with_reducible apply s5); (first | exact by_oa); exact by_g) | ((with_reducible apply CW.cond_t); exact rfl; exact by_ks) | ((with_reducible apply CW.cond_f); exact rfl; exact by_ks) | ((with_reducible apply q_block_miss); exact rfl) | (refine And.intro (show chk [] [] _ _ = true by kernel_rfl) ?_))
                refine Stop.cutk [(.s 10, .av (.d (dint (insB kd))))] [.s 1, .s 51, .s 52, .s 53, .s 7, .s 8, .s 9, .s 11, .s 12, .o 0, .o 1, .nx] ?_ ?_
                · unfold insB
                  cases hA : has kd 115
                  ·
                    repeat (first | ((with_reducible apply s1); exact rfl) | (with_reducible first | apply CW.seq | apply CW.block | apply CW.region | apply CW.draw | apply CW.skip | apply CW.exit | apply CW.ret | apply q_then | apply q_then_exit | apply q_then_ret | apply q_block | apply q_block_ret | apply q_block_hit | apply q_ret | apply q_end | apply q_loop_exit | apply q_loop_ret | apply q_loopT_exit | apply q_loopT_ret | apply RW.nil) | ((with_reducible apply s3); exact rfl; exact by_k) | ((with_reducible apply s2); exact rfl; exact by_k) | ((with_reducible apply s4); exact rfl) | ((with_reducible apply s5); (first | (focus ((with_reducible apply a_call); exact hcB; exact rfl; (repeat (first | exact SubsE.nil | (apply SubsE.cons; exact rfl; (first | exact .d (.refl _) | exact .d (.nil _) | exact .agg rfl (.refl _) | exact .pd | exact .ptr rfl); (first | exact trivial | exact ⟨rfl, trivial⟩)))); done)) | exact by_oa); exact by_g) | ((with_reducible apply CW.cond_t); exact rfl; exact by_ks) | ((with_reducible apply CW.cond_f); exact rfl; exact by_ks) | ((with_reducible apply q_block_miss); exact rfl) | (refine And.intro (show chk [] [] _ _ = true by kernel_rfl) ?_))
                    refine q_cut ?_
                    exact by_less
                  ·
                    repeat (first | ((with_reducible apply s1); exact rfl) | (with_reducible first | apply CW.seq | apply CW.block | apply CW.region | apply CW.draw | apply CW.skip | apply CW.exit | apply CW.ret | apply q_then | apply q_then_exit | apply q_then_ret | apply q_block | apply q_block_ret | apply q_block_hit | apply q_ret | apply q_end | apply q_loop_exit | apply q_loop_ret | apply q_loopT_exit | apply q_loopT_ret | apply RW.nil) | ((with_reducible apply s3); exact rfl; exact by_k) | ((with_reducible apply s2); exact rfl; exact by_k) | ((with_reducible apply s4); exact rfl) | ((with_reducible apply s5); (first | (focus ((with_reducible apply a_call); exact hcB; exact rfl; (repeat (first | exact SubsE.nil | (apply SubsE.cons; exact rfl; (first | exact .d (.refl _) | exact .d (.nil _) | exact .agg rfl (.refl _) | exact .pd | exact .ptr rfl); (first | exact trivial | exact ⟨rfl, trivial⟩)))); done)) | exact by_oa); exact by_g) | ((with_reducible apply CW.cond_t); exact rfl; exact by_ks) | ((with_reducible apply CW.cond_f); exact rfl; exact by_ks) | ((with_reducible apply q_block_miss); exact rfl) | (refine And.intro (show chk [] [] _ _ = true by kernel_rfl) ?_))
                    refine q_cut ?_
                    exact by_less
                repeat (first | ((with_reducible apply stop_at 25); exact rfl) | ((with_reducible apply s1); exact rfl) | (with_reducible first | apply CW.seq | apply CW.block | apply CW.region | apply CW.draw | apply CW.skip | apply CW.exit | apply CW.ret | apply q_then | apply q_then_exit | apply q_then_ret | apply q_block | apply q_block_ret | apply q_block_hit | apply q_ret | apply q_end | apply q_loop_exit | apply q_loop_ret | apply q_loopT_exit | apply q_loopT_ret | apply RW.nil) | ((with_reducible apply s3); exact rfl; exact by_k) | ((with_reducible apply s2); exact rfl; exact by_k) | ((with_reducible apply s4); exact rfl) | ((with_reducible apply s5); (first | exact by_oa); exact by_g) | ((with_reducible apply CW.cond_t); exact rfl; exact by_ks) | ((with_reducible apply CW.cond_f); exact rfl; exact by_ks) | ((with_reducible apply q_block_miss); exact rfl) | (refine And.intro (show chk [] [] _ _ = true by kernel_rfl) ?_))
                refine Stop.cutk [(.s 11, .av (.d (dint (if kd = 2 then -1073741824 else 0)))), (.s 12, .av (.d (dint (if kd = 2 then 1073741824 else 0))))] [.s 1, .s 51, .s 52, .s 53, .s 7, .s 8, .s 9, .s 10, .o 0, .o 1, .nx] ?_ ?_
                · by_cases hA : kd = 2
                  · rw [if_pos hA, if_pos hA]
                    repeat (first | ((with_reducible apply s1); exact rfl) | (with_reducible first | apply CW.seq | apply CW.block | apply CW.region | apply CW.draw | apply CW.skip | apply CW.exit | apply CW.ret | apply q_then | apply q_then_exit | apply q_then_ret | apply q_block | apply q_block_ret | apply q_block_hit | apply q_ret | apply q_end | apply q_loop_exit | apply q_loop_ret | apply q_loopT_exit | apply q_loopT_ret | apply RW.nil) | ((with_reducible apply s3); exact rfl; exact by_k) | ((with_reducible apply s2); exact rfl; exact by_k) | ((with_reducible apply s4); exact rfl) | ((with_reducible apply s5); (first | exact by_oa); exact by_g) | ((with_reducible apply CW.cond_t); exact rfl; exact by_ks) | ((with_reducible apply CW.cond_f); exact rfl; exact by_ks) | ((with_reducible apply q_block_miss); exact rfl) | (refine And.intro (show chk [] [] _ _ = true by kernel_rfl) ?_))
                    refine q_cut ?_
                    exact by_less
                  · rw [if_neg hA, if_neg hA]
                    repeat (first | ((with_reducible apply s1); exact rfl) | (with_reducible first | apply CW.seq | apply CW.block | apply CW.region | apply CW.draw | apply CW.skip | apply CW.exit | apply CW.ret | apply q_then | apply q_then_exit | apply q_then_ret | apply q_block | apply q_block_ret | apply q_block_hit | apply q_ret | apply q_end | apply q_loop_exit | apply q_loop_ret | apply q_loopT_exit | apply q_loopT_ret | apply RW.nil) | ((with_reducible apply s3); exact rfl; exact by_k) | ((with_reducible apply s2); exact rfl; exact by_k) | ((with_reducible apply s4); exact rfl) | ((with_reducible apply s5); (first | exact by_oa); exact by_g) | ((with_reducible apply CW.cond_t); exact rfl; exact by_ks) | ((with_reducible apply CW.cond_f); exact rfl; exact by_ks) | ((with_reducible apply q_block_miss); exact rfl) | (refine And.intro (show chk [] [] _ _ = true by kernel_rfl) ?_))
                    refine q_cut ?_
                    exact by_less
                repeat (first | ((with_reducible apply stop_at 27); exact rfl) | ((with_reducible apply s1); exact rfl) | (with_reducible first | apply CW.seq | apply CW.block | apply CW.region | apply CW.draw | apply CW.skip | apply CW.exit | apply CW.ret | apply q_then | apply q_then_exit | apply q_then_ret | apply q_block | apply q_block_ret | apply q_block_hit | apply q_ret | apply q_end | apply q_loop_exit | apply q_loop_ret | apply q_loopT_exit | apply q_loopT_ret | apply RW.nil) | ((with_reducible apply s3); exact rfl; exact by_k) | ((with_reducible apply s2); exact rfl; exact by_k) | ((with_reducible apply s4); exact rfl) | ((with_reducible apply s5); (first | exact by_oa); exact by_g) | ((with_reducible apply CW.cond_t); exact rfl; exact by_ks) | ((with_reducible apply CW.cond_f); exact rfl; exact by_ks) | ((with_reducible apply q_block_miss); exact rfl) | (refine And.intro (show chk [] [] _ _ = true by kernel_rfl) ?_))
                refine Stop.cutk [(.s 11, .av (.d (dint (insLow kd)))), (.s 12, .av (.d (dint (insHigh kd ((d.code.length : Int) - 1 - k)))))] [.s 1, .s 51, .s 52, .s 53, .s 7, .s 8, .s 9, .s 10, .o 0, .o 1, .nx] ?_ ?_
                · by_cases hA : kd = 8
                  · have hB : ¬ kd = 2 := by omega
                    rw [insLow, insHigh, if_neg hB, if_neg hB, if_neg hB, if_neg hB, if_pos hA, if_pos hA]
                    repeat (first | ((with_reducible apply st_bin); exact rfl; exact rfl; (apply bin_sub; simp only [List.length_map]; omega); exact .none rfl; exact rfl) | ((with_reducible apply s1); exact rfl) | (with_reducible first | apply CW.seq | apply CW.block | apply CW.region | apply CW.draw | apply CW.skip | apply CW.exit | apply CW.ret | apply q_then | apply q_then_exit | apply q_then_ret | apply q_block | apply q_block_ret | apply q_block_hit | apply q_ret | apply q_end | apply q_loop_exit | apply q_loop_ret | apply q_loopT_exit | apply q_loopT_ret | apply RW.nil) | ((with_reducible apply s3); exact rfl; exact by_k) | ((with_reducible apply s2); exact rfl; exact by_k) | ((with_reducible apply s4); exact rfl) | ((with_reducible apply s5); (first | exact by_oa); exact by_g) | ((with_reducible apply CW.cond_t); exact rfl; exact by_ks) | ((with_reducible apply CW.cond_f); exact rfl; exact by_ks) | ((with_reducible apply q_block_miss); exact rfl) | (refine And.intro (show chk [] [] _ _ = true by kernel_rfl) ?_))
                    refine q_cut ?_
                    exact by_less
                  · rw [insLow, insHigh, if_neg hA, if_neg hA]
                    repeat (first | ((with_reducible apply s1); exact rfl) | (with_reducible first | apply CW.seq | apply CW.block | apply CW.region | apply CW.draw | apply CW.skip | apply CW.exit | apply CW.ret | apply q_then | apply q_then_exit | apply q_then_ret | apply q_block | apply q_block_ret | apply q_block_hit | apply q_ret | apply q_end | apply q_loop_exit | apply q_loop_ret | apply q_loopT_exit | apply q_loopT_ret | apply RW.nil) | ((with_reducible apply s3); exact rfl; exact by_k) | ((with_reducible apply s2); exact rfl; exact by_k) | ((with_reducible apply s4); exact rfl) | ((with_reducible apply s5); (first | exact by_oa); exact by_g) | ((with_reducible apply CW.cond_t); exact rfl; exact by_ks) | ((with_reducible apply CW.cond_f); exact rfl; exact by_ks) | ((with_reducible apply q_block_miss); exact rfl) | (refine And.intro (show chk [] [] _ _ = true by kernel_rfl) ?_))
                    refine q_cut ?_
                    exact by_less
                repeat (first | (with_reducible apply stop_reg 29) | ((with_reducible apply s1); exact rfl) | (with_reducible first | apply CW.seq | apply CW.block | apply CW.region | apply CW.draw | apply CW.skip | apply CW.exit | apply CW.ret | apply q_then | apply q_then_exit | apply q_then_ret | apply q_block | apply q_block_ret | apply q_block_hit | apply q_ret | apply q_end | apply q_loop_exit | apply q_loop_ret | apply q_loopT_exit | apply q_loopT_ret | apply RW.nil) | ((with_reducible apply s3); exact rfl; exact by_k) | ((with_reducible apply s2); exact rfl; exact by_k) | ((with_reducible apply s4); exact rfl) | ((with_reducible apply s5); (first | exact by_oa); exact by_g) | ((with_reducible apply CW.cond_t); exact rfl; exact by_ks) | ((with_reducible apply CW.cond_f); exact rfl; exact by_ks) | ((with_reducible apply q_block_miss); exact rfl) | (refine And.intro (show chk [] [] _ _ = true by kernel_rfl) ?_))
                refine Stop.cutk [(.s 115, .av (.d (dbool (insOut kd ia ib n ((d.code.length : Int) - 1 - k)))))] [.s 1, .s 51, .s 52, .s 53, .s 8, .o 0, .o 1, .nx] ?_ ?_
                · unfold insOut
                  by_cases c1 : ia < 0
                  · rw [decide_eq_true c1]
                    repeat (first | ((with_reducible apply s1); exact rfl) | (with_reducible first | apply CW.seq | apply CW.block | apply CW.region | apply CW.draw | apply CW.skip | apply CW.exit | apply CW.ret | apply q_then | apply q_then_exit | apply q_then_ret | apply q_block | apply q_block_ret | apply q_block_hit | apply q_ret | apply q_end | apply q_loop_exit | apply q_loop_ret | apply q_loopT_exit | apply q_loopT_ret | apply RW.nil) | ((with_reducible apply s3); exact rfl; exact by_k) | ((with_reducible apply s2); exact rfl; exact by_k) | ((with_reducible apply s4); exact rfl) | ((with_reducible apply s5); (first | exact by_oa); exact by_g) | ((with_reducible apply CW.cond_t); exact rfl; exact by_ks) | ((with_reducible apply CW.cond_f); exact rfl; exact by_ks) | ((with_reducible apply q_block_miss); exact rfl) | (refine And.intro (show chk [] [] _ _ = true by kernel_rfl) ?_))
                    refine q_cut ?_
                    exact by_less
                  rw [decide_eq_false c1, Bool.false_or]
                  by_cases c2 : insA kd < ia
                  · rw [decide_eq_true c2]
                    repeat (first | ((with_reducible apply s1); exact rfl) | (with_reducible first | apply CW.seq | apply CW.block | apply CW.region | apply CW.draw | apply CW.skip | apply CW.exit | apply CW.ret | apply q_then | apply q_then_exit | apply q_then_ret | apply q_block | apply q_block_ret | apply q_block_hit | apply q_ret | apply q_end | apply q_loop_exit | apply q_loop_ret | apply q_loopT_exit | apply q_loopT_ret | apply RW.nil) | ((with_reducible apply s3); exact rfl; exact by_k) | ((with_reducible apply s2); exact rfl; exact by_k) | ((with_reducible apply s4); exact rfl) | ((with_reducible apply s5); (first | exact by_oa); exact by_g) | ((with_reducible apply CW.cond_t); exact rfl; exact by_ks) | ((with_reducible apply CW.cond_f); exact rfl; exact by_ks) | ((with_reducible apply q_block_miss); exact rfl) | (refine And.intro (show chk [] [] _ _ = true by kernel_rfl) ?_))
                    refine q_cut ?_
                    exact by_less
                  rw [decide_eq_false c2, Bool.false_or]
                  by_cases c3 : ib < 0
                  · rw [decide_eq_true c3]
                    repeat (first | ((with_reducible apply s1); exact rfl) | (with_reducible first | apply CW.seq | apply CW.block | apply CW.region | apply CW.draw | apply CW.skip | apply CW.exit | apply CW.ret | apply q_then | apply q_then_exit | apply q_then_ret | apply q_block | apply q_block_ret | apply q_block_hit | apply q_ret | apply q_end | apply q_loop_exit | apply q_loop_ret | apply q_loopT_exit | apply q_loopT_ret | apply RW.nil) | ((with_reducible apply s3); exact rfl; exact by_k) | ((with_reducible apply s2); exact rfl; exact by_k) | ((with_reducible apply s4); exact rfl) | ((with_reducible apply s5); (first | exact by_oa); exact by_g) | ((with_reducible apply CW.cond_t); exact rfl; exact by_ks) | ((with_reducible apply CW.cond_f); exact rfl; exact by_ks) | ((with_reducible apply q_block_miss); exact rfl) | (refine And.intro (show chk [] [] _ _ = true by kernel_rfl) ?_))
                    refine q_cut ?_
                    exact by_less
                  rw [decide_eq_false c3, Bool.false_or]
                  by_cases c4 : insB kd < ib
                  · rw [decide_eq_true c4]
                    repeat (first | ((with_reducible apply s1); exact rfl) | (with_reducible first | apply CW.seq | apply CW.block | apply CW.region | apply CW.draw | apply CW.skip | apply CW.exit | apply CW.ret | apply q_then | apply q_then_exit | apply q_then_ret | apply q_block | apply q_block_ret | apply q_block_hit | apply q_ret | apply q_end | apply q_loop_exit | apply q_loop_ret | apply q_loopT_exit | apply q_loopT_ret | apply RW.nil) | ((with_reducible apply s3); exact rfl; exact by_k) | ((with_reducible apply s2); exact rfl; exact by_k) | ((with_reducible apply s4); exact rfl) | ((with_reducible apply s5); (first | exact by_oa); exact by_g) | ((with_reducible apply CW.cond_t); exact rfl; exact by_ks) | ((with_reducible apply CW.cond_f); exact rfl; exact by_ks) | ((with_reducible apply q_block_miss); exact rfl) | (refine And.intro (show chk [] [] _ _ = true by kernel_rfl) ?_))
                    refine q_cut ?_
                    exact by_less
                  rw [decide_eq_false c4, Bool.false_or]
                  by_cases c5 : n < insLow kd
                  · rw [decide_eq_true c5]
                    repeat (first | ((with_reducible apply s1); exact rfl) | (with_reducible first | apply CW.seq | apply CW.block | apply CW.region | apply CW.draw | apply CW.skip | apply CW.exit | apply CW.ret | apply q_then | apply q_then_exit | apply q_then_ret | apply q_block | apply q_block_ret | apply q_block_hit | apply q_ret | apply q_end | apply q_loop_exit | apply q_loop_ret | apply q_loopT_exit | apply q_loopT_ret | apply RW.nil) | ((with_reducible apply s3); exact rfl; exact by_k) | ((with_reducible apply s2); exact rfl; exact by_k) | ((with_reducible apply s4); exact rfl) | ((with_reducible apply s5); (first | exact by_oa); exact by_g) | ((with_reducible apply CW.cond_t); exact rfl; exact by_ks) | ((with_reducible apply CW.cond_f); exact rfl; exact by_ks) | ((with_reducible apply q_block_miss); exact rfl) | (refine And.intro (show chk [] [] _ _ = true by kernel_rfl) ?_))
                    refine q_cut ?_
                    exact by_less
                  rw [decide_eq_false c5, Bool.false_or]
                  repeat (first | ((with_reducible apply s1); exact rfl) | (with_reducible first | apply CW.seq | apply CW.block | apply CW.region | apply CW.draw | apply CW.skip | apply CW.exit | apply CW.ret | apply q_then | apply q_then_exit | apply q_then_ret | apply q_block | apply q_block_ret | apply q_block_hit | apply q_ret | apply q_end | apply q_loop_exit | apply q_loop_ret | apply q_loopT_exit | apply q_loopT_ret | apply RW.nil) | ((with_reducible apply s3); exact rfl; exact by_k) | ((with_reducible apply s2); exact rfl; exact by_k) | ((with_reducible apply s4); exact rfl) | ((with_reducible apply s5); (first | exact by_oa); exact by_g) | ((with_reducible apply CW.cond_t); exact rfl; exact by_ks) | ((with_reducible apply CW.cond_f); exact rfl; exact by_ks) | ((with_reducible apply q_block_miss); exact rfl) | (refine And.intro (show chk [] [] _ _ = true by kernel_rfl) ?_))
                  refine q_cut ?_
                  exact by_less
                have hw0 : wrongIns d ((d.code.length : Int) - 1 - k) ⟨kd, ia, ib, n, key⟩ = if insOut kd ia ib n ((d.code.length : Int) - 1 - k) = true then 3 else if has kd 107 = false then (if key = [] then 0 else 2)
                    else if isIn (if (kd : Int) = 1 then d.reads else d.writes) key = true then 0 else 9 := by
                  rw [wrongIns, if_neg (by show ¬ ((kd : Int) < 1 ∨ 9 < (kd : Int)); omega)]
                  rfl
                have hcr := ok_in d.reads key (by omega)
                have hcw := ok_in d.writes key (by omega)
                cases hO : insOut kd ia ib n ((d.code.length : Int) - 1 - k)
                · rw [if_neg (by simp [hO])] at hw0
                  cases hK : has kd 107
                  · rw [if_pos hK] at hw0
                    by_cases hkey : key = []
                    · rw [if_pos hkey] at hw0
                      repeat (first | ((with_reducible apply s1); exact rfl) | (with_reducible first | apply CW.seq | apply CW.block | apply CW.region | apply CW.draw | apply CW.skip | apply CW.exit | apply CW.ret | apply q_then | apply q_then_exit | apply q_then_ret | apply q_block | apply q_block_ret | apply q_block_hit | apply q_ret | apply q_end | apply q_loop_exit | apply q_loop_ret | apply q_loopT_exit | apply q_loopT_ret | apply RW.nil) | ((with_reducible apply s3); exact rfl; exact by_k) | ((with_reducible apply s2); exact rfl; exact by_k) | ((with_reducible apply s4); exact rfl) | ((with_reducible apply s5); (first | (focus ((with_reducible apply a_call); exact hcK; exact rfl; (repeat (first | exact SubsE.nil | (apply SubsE.cons; exact rfl; (first | exact .d (.refl _) | exact .d (.nil _) | exact .agg rfl (.refl _) | exact .pd | exact .ptr rfl); (first | exact trivial | exact ⟨rfl, trivial⟩)))); done)) | exact by_oa); exact by_g) | ((with_reducible apply CW.cond_t); exact rfl; exact by_ks) | ((with_reducible apply CW.cond_f); exact rfl; exact by_ks) | ((with_reducible apply q_block_miss); exact rfl) | (refine And.intro (show chk [] [] _ _ = true by kernel_rfl) ?_))
                      refine q_loopT (k + 1) ⟨by omega, hgood hw0⟩ (by omega) ?_
                      exact by_less
                    · rw [if_neg hkey] at hw0
                      repeat (first | ((with_reducible apply s1); exact rfl) | (with_reducible first | apply CW.seq | apply CW.block | apply CW.region | apply CW.draw | apply CW.skip | apply CW.exit | apply CW.ret | apply q_then | apply q_then_exit | apply q_then_ret | apply q_block | apply q_block_ret | apply q_block_hit | apply q_ret | apply q_end | apply q_loop_exit | apply q_loop_ret | apply q_loopT_exit | apply q_loopT_ret | apply RW.nil) | ((with_reducible apply s3); exact rfl; exact by_k) | ((with_reducible apply s2); exact rfl; exact by_k) | ((with_reducible apply s4); exact rfl) | ((with_reducible apply s5); (first | (focus ((with_reducible apply a_call); exact hcK; exact rfl; (repeat (first | exact SubsE.nil | (apply SubsE.cons; exact rfl; (first | exact .d (.refl _) | exact .d (.nil _) | exact .agg rfl (.refl _) | exact .pd | exact .ptr rfl); (first | exact trivial | exact ⟨rfl, trivial⟩)))); done)) | exact by_oa); exact by_g) | ((with_reducible apply CW.cond_t); exact rfl; exact by_ks) | ((with_reducible apply CW.cond_f); exact rfl; exact by_ks) | ((with_reducible apply q_block_miss); exact rfl) | (refine And.intro (show chk [] [] _ _ = true by kernel_rfl) ?_))
                      exact .one (.tmp rfl (.one (.d (dle_int (by rw [← hbad (by rw [hw0]; decide), hw0])))))
                  · rw [if_neg (by simp [hK])] at hw0
                    by_cases hk1' : (kd : Int) = 1
                    · rw [if_pos hk1'] at hw0
                      cases hin : isIn d.reads key
                      · rw [if_neg (by simp [hin])] at hw0
                        repeat (first | ((with_reducible apply s1); exact rfl) | (with_reducible first | apply CW.seq | apply CW.block | apply CW.region | apply CW.draw | apply CW.skip | apply CW.exit | apply CW.ret | apply q_then | apply q_then_exit | apply q_then_ret | apply q_block | apply q_block_ret | apply q_block_hit | apply q_ret | apply q_end | apply q_loop_exit | apply q_loop_ret | apply q_loopT_exit | apply q_loopT_ret | apply RW.nil) | ((with_reducible apply s3); exact rfl; exact by_k) | ((with_reducible apply s2); exact rfl; exact by_k) | ((with_reducible apply s4); exact rfl) | ((with_reducible apply s5); (first | (focus ((with_reducible apply a_call); exact hcK; exact rfl; (repeat (first | exact SubsE.nil | (apply SubsE.cons; exact rfl; (first | exact .d (.refl _) | exact .d (.nil _) | exact .agg rfl (.refl _) | exact .pd | exact .ptr rfl); (first | exact trivial | exact ⟨rfl, trivial⟩)))); done)) | (focus ((with_reducible apply a_call); exact hcr; exact rfl; (repeat (first | exact SubsE.nil | (apply SubsE.cons; exact rfl; (first | exact .d (.refl _) | exact .d (.nil _) | exact .agg rfl (.refl _) | exact .pd | exact .ptr rfl); (first | exact trivial | exact ⟨rfl, trivial⟩)))); done)) | exact by_oa); exact by_g) | ((with_reducible apply CW.cond_t); exact rfl; exact by_ks) | ((with_reducible apply CW.cond_f); exact rfl; exact by_ks) | ((with_reducible apply q_block_miss); exact rfl) | (refine And.intro (show chk [] [] _ _ = true by kernel_rfl) ?_))
                        exact .one (.tmp rfl (.one (.d (dle_int (by rw [← hbad (by rw [hw0]; decide), hw0])))))
                      · rw [if_pos hin] at hw0
                        repeat (first | ((with_reducible apply s1); exact rfl) | (with_reducible first | apply CW.seq | apply CW.block | apply CW.region | apply CW.draw | apply CW.skip | apply CW.exit | apply CW.ret | apply q_then | apply q_then_exit | apply q_then_ret | apply q_block | apply q_block_ret | apply q_block_hit | apply q_ret | apply q_end | apply q_loop_exit | apply q_loop_ret | apply q_loopT_exit | apply q_loopT_ret | apply RW.nil) | ((with_reducible apply s3); exact rfl; exact by_k) | ((with_reducible apply s2); exact rfl; exact by_k) | ((with_reducible apply s4); exact rfl) | ((with_reducible apply s5); (first | (focus ((with_reducible apply a_call); exact hcK; exact rfl; (repeat (first | exact SubsE.nil | (apply SubsE.cons; exact rfl; (first | exact .d (.refl _) | exact .d (.nil _) | exact .agg rfl (.refl _) | exact .pd | exact .ptr rfl); (first | exact trivial | exact ⟨rfl, trivial⟩)))); done)) | (focus ((with_reducible apply a_call); exact hcr; exact rfl; (repeat (first | exact SubsE.nil | (apply SubsE.cons; exact rfl; (first | exact .d (.refl _) | exact .d (.nil _) | exact .agg rfl (.refl _) | exact .pd | exact .ptr rfl); (first | exact trivial | exact ⟨rfl, trivial⟩)))); done)) | exact by_oa); exact by_g) | ((with_reducible apply CW.cond_t); exact rfl; exact by_ks) | ((with_reducible apply CW.cond_f); exact rfl; exact by_ks) | ((with_reducible apply q_block_miss); exact rfl) | (refine And.intro (show chk [] [] _ _ = true by kernel_rfl) ?_))
                        refine q_loopT (k + 1) ⟨by omega, hgood hw0⟩ (by omega) ?_
                        exact by_less
                    · rw [if_neg hk1'] at hw0
                      cases hin : isIn d.writes key
                      · rw [if_neg (by simp [hin])] at hw0
                        repeat (first | ((with_reducible apply s1); exact rfl) | (with_reducible first | apply CW.seq | apply CW.block | apply CW.region | apply CW.draw | apply CW.skip | apply CW.exit | apply CW.ret | apply q_then | apply q_then_exit | apply q_then_ret | apply q_block | apply q_block_ret | apply q_block_hit | apply q_ret | apply q_end | apply q_loop_exit | apply q_loop_ret | apply q_loopT_exit | apply q_loopT_ret | apply RW.nil) | ((with_reducible apply s3); exact rfl; exact by_k) | ((with_reducible apply s2); exact rfl; exact by_k) | ((with_reducible apply s4); exact rfl) | ((with_reducible apply s5); (first | (focus ((with_reducible apply a_call); exact hcK; exact rfl; (repeat (first | exact SubsE.nil | (apply SubsE.cons; exact rfl; (first | exact .d (.refl _) | exact .d (.nil _) | exact .agg rfl (.refl _) | exact .pd | exact .ptr rfl); (first | exact trivial | exact ⟨rfl, trivial⟩)))); done)) | (focus ((with_reducible apply a_call); exact hcw; exact rfl; (repeat (first | exact SubsE.nil | (apply SubsE.cons; exact rfl; (first | exact .d (.refl _) | exact .d (.nil _) | exact .agg rfl (.refl _) | exact .pd | exact .ptr rfl); (first | exact trivial | exact ⟨rfl, trivial⟩)))); done)) | exact by_oa); exact by_g) | ((with_reducible apply CW.cond_t); exact rfl; exact by_ks) | ((with_reducible apply CW.cond_f); exact rfl; exact by_ks) | ((with_reducible apply q_block_miss); exact rfl) | (refine And.intro (show chk [] [] _ _ = true by kernel_rfl) ?_))
                        exact .one (.tmp rfl (.one (.d (dle_int (by rw [← hbad (by rw [hw0]; decide), hw0])))))
                      · rw [if_pos hin] at hw0
                        repeat (first | ((with_reducible apply s1); exact rfl) | (with_reducible first | apply CW.seq | apply CW.block | apply CW.region | apply CW.draw | apply CW.skip | apply CW.exit | apply CW.ret | apply q_then | apply q_then_exit | apply q_then_ret | apply q_block | apply q_block_ret | apply q_block_hit | apply q_ret | apply q_end | apply q_loop_exit | apply q_loop_ret | apply q_loopT_exit | apply q_loopT_ret | apply RW.nil) | ((with_reducible apply s3); exact rfl; exact by_k) | ((with_reducible apply s2); exact rfl; exact by_k) | ((with_reducible apply s4); exact rfl) | ((with_reducible apply s5); (first | (focus ((with_reducible apply a_call); exact hcK; exact rfl; (repeat (first | exact SubsE.nil | (apply SubsE.cons; exact rfl; (first | exact .d (.refl _) | exact .d (.nil _) | exact .agg rfl (.refl _) | exact .pd | exact .ptr rfl); (first | exact trivial | exact ⟨rfl, trivial⟩)))); done)) | (focus ((with_reducible apply a_call); exact hcw; exact rfl; (repeat (first | exact SubsE.nil | (apply SubsE.cons; exact rfl; (first | exact .d (.refl _) | exact .d (.nil _) | exact .agg rfl (.refl _) | exact .pd | exact .ptr rfl); (first | exact trivial | exact ⟨rfl, trivial⟩)))); done)) | exact by_oa); exact by_g) | ((with_reducible apply CW.cond_t); exact rfl; exact by_ks) | ((with_reducible apply CW.cond_f); exact rfl; exact by_ks) | ((with_reducible apply q_block_miss); exact rfl) | (refine And.intro (show chk [] [] _ _ = true by kernel_rfl) ?_))
                        refine q_loopT (k + 1) ⟨by omega, hgood hw0⟩ (by omega) ?_
                        exact by_less
                · rw [if_pos hO] at hw0
                  repeat (first | ((with_reducible apply s1); exact rfl) | (with_reducible first | apply CW.seq | apply CW.block | apply CW.region | apply CW.draw | apply CW.skip | apply CW.exit | apply CW.ret | apply q_then | apply q_then_exit | apply q_then_ret | apply q_block | apply q_block_ret | apply q_block_hit | apply q_ret | apply q_end | apply q_loop_exit | apply q_loop_ret | apply q_loopT_exit | apply q_loopT_ret | apply RW.nil) | ((with_reducible apply s3); exact rfl; exact by_k) | ((with_reducible apply s2); exact rfl; exact by_k) | ((with_reducible apply s4); exact rfl) | ((with_reducible apply s5); (first | exact by_oa); exact by_g) | ((with_reducible apply CW.cond_t); exact rfl; exact by_ks) | ((with_reducible apply CW.cond_f); exact rfl; exact by_ks) | ((with_reducible apply q_block_miss); exact rfl) | (refine And.intro (show chk [] [] _ _ = true by kernel_rfl) ?_))
                  exact .one (.tmp rfl (.one (.d (dle_int (by rw [← hbad (by rw [hw0]; decide), hw0])))))
    · have h3' : j < 2 := h3
      rw [h1] at hI
      have hl : l.length ≤ 268435456 ∧ ∀ s ∈ l, s.length ≤ 1073741824 := by
        have := List.mem_of_getElem? h2
        simp at this
        rcases this with rfl | rfl
        · exact ⟨hr, hrk⟩
        · exact ⟨hw, hwk⟩
      have hbad : keysWrong l ≠ 0 → keysWrong l = wrongDeed d := fun h0 => by
        rcases ls_first hI with ⟨h5, h6⟩ | ⟨h5, h6⟩
        · exact absurd h5 h0
        · rw [wrongDeed, if_neg (by rw [← h6]; exact h0), h6]
      by_cases h4 : 5 < l.length
      · have h6 : keysWrong l = 5 := by rw [keysWrong, if_pos h4]
        repeat (first | ((with_reducible apply s1); exact rfl) | (with_reducible first | apply CW.seq | apply CW.block | apply CW.region | apply CW.draw | apply CW.skip | apply CW.exit | apply CW.ret | apply q_then | apply q_then_exit | apply q_then_ret | apply q_block | apply q_block_ret | apply q_block_hit | apply q_ret | apply q_end | apply q_loop_exit | apply q_loop_ret | apply q_loopT_exit | apply q_loopT_ret | apply RW.nil) | ((with_reducible apply s3); exact rfl; exact by_k) | ((with_reducible apply s2); exact rfl; exact by_k) | ((with_reducible apply s4); exact rfl) | ((with_reducible apply s5); (first | exact by_oa); exact by_g) | ((with_reducible apply CW.cond_t); exact rfl; exact by_ks) | ((with_reducible apply CW.cond_f); exact rfl; exact by_ks) | ((with_reducible apply q_block_miss); exact rfl) | (refine And.intro (show chk [] [] _ _ = true by kernel_rfl) ?_))
        exact .one (.tmp rfl (.one (.d (dle_int (by rw [← h6]; exact hbad (by rw [h6]; decide))))))
      ·
        repeat (first | ((with_reducible apply s1); exact rfl) | (with_reducible first | apply CW.seq | apply CW.block | apply CW.region | apply CW.draw | apply CW.skip | apply CW.exit | apply CW.ret | apply q_then | apply q_then_exit | apply q_then_ret | apply q_block | apply q_block_ret | apply q_block_hit | apply q_ret | apply q_end | apply q_loop_exit | apply q_loop_ret | apply q_loopT_exit | apply q_loopT_ret | apply RW.nil) | ((with_reducible apply s3); exact rfl; exact by_k) | ((with_reducible apply s2); exact rfl; exact by_k) | ((with_reducible apply s4); exact rfl) | ((with_reducible apply s5); (first | exact by_oa); exact by_g) | ((with_reducible apply CW.cond_t); exact rfl; exact by_ks) | ((with_reducible apply CW.cond_f); exact rfl; exact by_ks) | ((with_reducible apply q_block_miss); exact rfl) | (refine And.intro (show chk [] [] _ _ = true by kernel_rfl) ?_))
        refine CW.loopT (fun i : Nat => [(.s 1, .av (.ptr 0 0)), (.o 0, .ob (.box (d.enc.map AV.d))), (.s 18, .av (.d (.sl 1 ([d.reads, d.writes].map fun l => [encStrs l])))), (.s 19, .av (.d (dint 2))), (.s 20, .av (.d (dint j))), (.s 4, .av (.d (encStrs l))), (.s 27, .av (.d (encStrs l))), (.s 28, .av (.d (dint l.length))), (.s 29, .av (.d (dint i))), (.nx, .num 1)])
          (fun i => i ≤ l.length ∧ keysGo l i (l.drop i) = keysWrong l) (fun i => l.length - i) 0 ⟨by omega, by rw [keysWrong, if_neg h4]; rfl⟩ ?_ ?_
        ·
          exact by_less
        · rintro i ⟨hi, hJ⟩
          rcases drop_case hi with ⟨h5, h6⟩ | ⟨k, h5, h6, h7⟩
          · rw [h5] at hJ
            simp only [keysGo] at hJ
            repeat (first | ((with_reducible apply s1); exact rfl) | (with_reducible first | apply CW.seq | apply CW.block | apply CW.region | apply CW.draw | apply CW.skip | apply CW.exit | apply CW.ret | apply q_then | apply q_then_exit | apply q_then_ret | apply q_block | apply q_block_ret | apply q_block_hit | apply q_ret | apply q_end | apply q_loop_exit | apply q_loop_ret | apply q_loopT_exit | apply q_loopT_ret | apply RW.nil) | ((with_reducible apply s3); exact rfl; exact by_k) | ((with_reducible apply s2); exact rfl; exact by_k) | ((with_reducible apply s4); exact rfl) | ((with_reducible apply s5); (first | exact by_oa); exact by_g) | ((with_reducible apply CW.cond_t); exact rfl; exact by_ks) | ((with_reducible apply CW.cond_f); exact rfl; exact by_ks) | ((with_reducible apply q_block_miss); exact rfl) | (refine And.intro (show chk [] [] _ _ = true by kernel_rfl) ?_))
            refine q_loopT (j + 1) ⟨by simp; omega, ?_⟩ (by omega) ?_
            · rcases ls_first hI with ⟨h8, h9⟩ | ⟨h8, h9⟩
              · exact h9
              · exact absurd hJ.symm h8
            ·
              exact by_less
          · rw [h5] at hJ
            simp only [keysGo] at hJ
            have hck := ok_key k (hl.2 k (List.mem_of_getElem? h6))
            have hin : FnOk Try.prog 50 [.d (.sl 1 ((l.map encStr1).take i)), .d (dstr k)] (.one (dbool (isIn (l.take i) k))) := by
              rw [← List.map_take]
              exact ok_in (l.take i) k (by rw [List.length_take]; have := hl.1; omega)
            cases h8 : key k
            · rw [if_pos h8] at hJ
              repeat (first | ((with_reducible apply s1); exact rfl) | (with_reducible first | apply CW.seq | apply CW.block | apply CW.region | apply CW.draw | apply CW.skip | apply CW.exit | apply CW.ret | apply q_then | apply q_then_exit | apply q_then_ret | apply q_block | apply q_block_ret | apply q_block_hit | apply q_ret | apply q_end | apply q_loop_exit | apply q_loop_ret | apply q_loopT_exit | apply q_loopT_ret | apply RW.nil) | ((with_reducible apply s3); exact rfl; exact by_k) | ((with_reducible apply s2); exact rfl; exact by_k) | ((with_reducible apply s4); exact rfl) | ((with_reducible apply s5); (first | (focus ((with_reducible apply a_call); exact hck; exact rfl; (repeat (first | exact SubsE.nil | (apply SubsE.cons; exact rfl; (first | exact .d (.refl _) | exact .d (.nil _) | exact .agg rfl (.refl _) | exact .pd | exact .ptr rfl); (first | exact trivial | exact ⟨rfl, trivial⟩)))); done)) | exact by_oa); exact by_g) | ((with_reducible apply CW.cond_t); exact rfl; exact by_ks) | ((with_reducible apply CW.cond_f); exact rfl; exact by_ks) | ((with_reducible apply q_block_miss); exact rfl) | (refine And.intro (show chk [] [] _ _ = true by kernel_rfl) ?_))
              exact .one (.tmp rfl (.one (.d (dle_int (by rw [hJ]; exact hbad (by rw [← hJ]; decide))))))
            · rw [if_neg (by simp [h8])] at hJ
              cases h9 : isIn (l.take i) k
              · rw [if_neg (by simp [h9])] at hJ
                repeat (first | ((with_reducible apply s1); exact rfl) | (with_reducible first | apply CW.seq | apply CW.block | apply CW.region | apply CW.draw | apply CW.skip | apply CW.exit | apply CW.ret | apply q_then | apply q_then_exit | apply q_then_ret | apply q_block | apply q_block_ret | apply q_block_hit | apply q_ret | apply q_end | apply q_loop_exit | apply q_loop_ret | apply q_loopT_exit | apply q_loopT_ret | apply RW.nil) | ((with_reducible apply s3); exact rfl; exact by_k) | ((with_reducible apply s2); exact rfl; exact by_k) | ((with_reducible apply s4); exact rfl) | ((with_reducible apply s5); (first | (focus ((with_reducible apply a_call); exact hck; exact rfl; (repeat (first | exact SubsE.nil | (apply SubsE.cons; exact rfl; (first | exact .d (.refl _) | exact .d (.nil _) | exact .agg rfl (.refl _) | exact .pd | exact .ptr rfl); (first | exact trivial | exact ⟨rfl, trivial⟩)))); done)) | (focus ((with_reducible apply a_call); exact hin; exact rfl; (repeat (first | exact SubsE.nil | (apply SubsE.cons; exact rfl; (first | exact .d (.refl _) | exact .d (.nil _) | exact .agg rfl (.refl _) | exact .pd | exact .ptr rfl); (first | exact trivial | exact ⟨rfl, trivial⟩)))); done)) | exact by_oa); exact by_g) | ((with_reducible apply CW.cond_t); exact rfl; exact by_ks) | ((with_reducible apply CW.cond_f); exact rfl; exact by_ks) | ((with_reducible apply q_block_miss); exact rfl) | (refine And.intro (show chk [] [] _ _ = true by kernel_rfl) ?_))
                refine q_loopT (i + 1) ⟨by omega, hJ⟩ (by omega) ?_
                exact by_less
              · rw [if_pos h9] at hJ
                repeat (first | ((with_reducible apply s1); exact rfl) | (with_reducible first | apply CW.seq | apply CW.block | apply CW.region | apply CW.draw | apply CW.skip | apply CW.exit | apply CW.ret | apply q_then | apply q_then_exit | apply q_then_ret | apply q_block | apply q_block_ret | apply q_block_hit | apply q_ret | apply q_end | apply q_loop_exit | apply q_loop_ret | apply q_loopT_exit | apply q_loopT_ret | apply RW.nil) | ((with_reducible apply s3); exact rfl; exact by_k) | ((with_reducible apply s2); exact rfl; exact by_k) | ((with_reducible apply s4); exact rfl) | ((with_reducible apply s5); (first | (focus ((with_reducible apply a_call); exact hck; exact rfl; (repeat (first | exact SubsE.nil | (apply SubsE.cons; exact rfl; (first | exact .d (.refl _) | exact .d (.nil _) | exact .agg rfl (.refl _) | exact .pd | exact .ptr rfl); (first | exact trivial | exact ⟨rfl, trivial⟩)))); done)) | (focus ((with_reducible apply a_call); exact hin; exact rfl; (repeat (first | exact SubsE.nil | (apply SubsE.cons; exact rfl; (first | exact .d (.refl _) | exact .d (.nil _) | exact .agg rfl (.refl _) | exact .pd | exact .ptr rfl); (first | exact trivial | exact ⟨rfl, trivial⟩)))); done)) | exact by_oa); exact by_g) | ((with_reducible apply CW.cond_t); exact rfl; exact by_ks) | ((with_reducible apply CW.cond_f); exact rfl; exact by_ks) | ((with_reducible apply q_block_miss); exact rfl) | (refine And.intro (show chk [] [] _ _ = true by kernel_rfl) ?_))
                exact .one (.tmp rfl (.one (.d (dle_int (by rw [hJ]; exact hbad (by rw [← hJ]; decide))))))

end Go.Proofs.Ytjopijlkpipljaa

/-! Eq2 -/
/-
  Ends held against each other.
-/
namespace Go.Proofs.Ytjopijlkpipljaa
open Go.AX Go.RF

theorem eq_regs (n : Nat) (a0 a1 a2 a3 b0 b1 b2 b3 : Int) (w : World) : (Op.equalIn (n + 2) 51 (.agg #[i64 a0, i64 a1, i64 a2, i64 a3]) (.agg #[i64 b0, i64 b1, i64 b2, i64 b3])).run Try.prog w = .ok (decide (a0 = b0 ∧ a1 = b1 ∧ a2 = b2 ∧ a3 = b3)) w := by
  have hs : ∀ w, (sizeOf 3).run Try.prog w = .ok 1 w := by
    intro w
    obtain ⟨i, h1, h2⟩ : ∃ i, Try.prog.info? 3 = some i ∧ i.size = 1 := by
      have := tbl_ok 3 _ rfl
      obtain ⟨i, h1, h2, _⟩ := this.info
      exact ⟨i, h1, h2⟩
    simp [sizeOf, typeInfo, h1, h2]
  unfold Op.equalIn
  simp only [Sem.run_bind, run_underlying Try.underlying51, Result.andThen_ok, hs]
  simp [Std.Legacy.Range.forIn_eq_forIn_range', List.range', Std.Legacy.Range.size, part, Try.isAgg3, run_equalIn_int, Try.underlying3]
  by_cases h0 : a0 = b0 <;> by_cases h1 : a1 = b1 <;> by_cases h2 : a2 = b2 <;> by_cases h3 : a3 = b3 <;> simp [h0, h1, h2, h3]

def Done.vals (e : Done) : List Value := [.bool e.failed, i64 e.r0, i64 e.r1, i64 e.r2, i64 e.r3]

theorem eq_done (a b : Done) (w : World) : (Op.equalIn 10000 53 (.agg (Done.vals a).toArray) (.agg (Done.vals b).toArray)).run Try.prog w = .ok (decide (a = b)) w := by
  rw [run_equalIn_agg (P := Try.prog) w 9999 53 _ _ (by kernel_rfl) (by kernel_rfl)]
  obtain ⟨f, a0, a1, a2, a3⟩ := a
  obtain ⟨g, b0, b1, b2, b3⟩ := b
  have hs : ∀ w, (sizeOf 51).run Try.prog w = .ok 4 w := by
    intro w
    obtain ⟨i, h1, h2⟩ : ∃ i, Try.prog.info? 51 = some i ∧ i.size = 4 := by
      have := tbl_ok 51 _ rfl
      obtain ⟨i, h1, h2, _⟩ := this.info
      exact ⟨i, h1, h2⟩
    simp [sizeOf, typeInfo, h1, h2]
  have hp : ∀ (f : Bool) (a0 a1 a2 a3 : Int) (w : World), (part 51 #[.bool f, i64 a0, i64 a1, i64 a2, i64 a3] 1).run Try.prog w = .ok (.agg #[i64 a0, i64 a1, i64 a2, i64 a3]) w := by
    intro f a0 a1 a2 a3 w
    simp [part, Try.isAgg51, hs]
  have hb : ∀ (f : Bool) (a0 a1 a2 a3 : Int) (w : World), (part 4 #[.bool f, i64 a0, i64 a1, i64 a2, i64 a3] 0).run Try.prog w = .ok (.bool f) w := by
    intro f a0 a1 a2 a3 w
    simp [part, Try.isAgg4]
  have he := fun w => eq_regs 9997 a0 a1 a2 a3 b0 b1 b2 b3 w
  simp only [Program.fieldsOf, Try.underlying53, Op.eqFields, Done.vals]
  simp [hb, hp, he, run_equalIn_bool', Try.underlying4]
  by_cases e1 : f = g
  · subst e1
    by_cases h0 : a0 = b0 <;> by_cases h1 : a1 = b1 <;> by_cases h2 : a2 = b2 <;> by_cases h3 : a3 = b3 <;> simp [h0, h1, h2, h3]
  · simp [e1]

theorem neq_done (a b : Done) : BinR Try.prog .neq 53 (.agg (Done.vals a).toArray) (.agg (Done.vals b).toArray) (.bool (!decide (a = b))) := by
  intro w x y
  rw [Sem.run_bind, run_eqGuard_agg _ _ _ _ _ _ _ (by kernel_rfl), Result.andThen_ok, run_neq_struct, eq_done]
  rfl

theorem eq_ins (a b : Ins) (w : World) : (Op.equalIn 10000 95 (.agg #[i64 a.kind, i64 a.a, i64 a.b, i64 a.n, str a.key]) (.agg #[i64 b.kind, i64 b.a, i64 b.b, i64 b.n, str b.key])).run Try.prog w = .ok (decide (a = b)) w := by
  rw [run_equalIn_agg (P := Try.prog) w 9999 95 _ _ (by kernel_rfl) (by kernel_rfl)]
  obtain ⟨k1, a1, b1, n1, s1⟩ := a
  obtain ⟨k2, a2, b2, n2, s2⟩ := b
  simp only [Program.fieldsOf, Try.underlying95, Op.eqFields]
  simp [part, Try.isAgg9, Try.isAgg3, str, run_equalIn_string, run_equalIn_int, Try.underlying9, Try.underlying3]
  by_cases e1 : k1 = k2 <;> by_cases e2 : a1 = a2 <;> by_cases e3 : b1 = b2 <;> by_cases e4 : n1 = n2 <;> by_cases e5 : s1 = s2 <;> simp [e1, e2, e3, e4, e5]
theorem neq_ins (a b : Ins) : BinR Try.prog .neq 95 (.agg #[i64 a.kind, i64 a.a, i64 a.b, i64 a.n, str a.key]) (.agg #[i64 b.kind, i64 b.a, i64 b.b, i64 b.n, str b.key]) (.bool (!decide (a = b))) := by
  intro w x y
  rw [Sem.run_bind, run_eqGuard_agg _ _ _ _ _ _ _ (by kernel_rfl), Result.andThen_ok, run_neq_struct, eq_ins]
  rfl

end Go.Proofs.Ytjopijlkpipljaa

/-! F13 -/
/-
  Contract of the references' Add.
-/
namespace Go.Proofs.Ytjopijlkpipljaa
open Go.AX Go.RF

set_option maxRecDepth 100000
set_option maxHeartbeats 4000000

theorem ok_add (l : List Chain) (k : Str) (b : Int) (hl : l.length ≤ 268435456) (hs : ∀ c ∈ l, c.vs.length ≤ 268435456) : FnOk Try.prog 33 [.d (encChains l), .d (dstr k), .d (dint b)] (.one (encChains (addC l k b))) := by
  refine fnOk_of tbl_ok mixed_ok Try.func33 rfl (by kernel_rfl) rfl rfl fun w0 own0 => ?_
  repeat (first | ((with_reducible apply s1); exact rfl) | (with_reducible first | apply CW.seq | apply CW.block | apply CW.region | apply CW.draw | apply CW.skip | apply CW.exit | apply CW.ret | apply q_then | apply q_then_exit | apply q_then_ret | apply q_block | apply q_block_ret | apply q_block_hit | apply q_ret | apply q_end | apply q_loop_exit | apply q_loop_ret | apply q_loopT_exit | apply q_loopT_ret | apply RW.nil) | ((with_reducible apply s3); exact rfl; exact by_k) | ((with_reducible apply s2); exact rfl; exact by_k) | ((with_reducible apply s4); exact rfl) | ((with_reducible apply s5); (first | exact by_oa); exact by_g) | ((with_reducible apply CW.cond_t); exact rfl; exact by_ks) | ((with_reducible apply CW.cond_f); exact rfl; exact by_ks) | ((with_reducible apply q_block_miss); exact rfl) | (refine And.intro (show chk [] [] _ _ = true by kernel_rfl) ?_))
  refine CW.stut (stut_promote (i := 7) 72 2) ⟨rfl, rfl, trivial⟩ ?_
  refine CW.loopT (fun t : Nat × Bool × List Chain => [sd 1 (dstr k), sd 2 (dint b), so 7 0 t.2.2.length, sd 8 (dbool t.2.1), sd 11 (encChains l), sd 12 (dint l.length), sd 13 (dint t.1), oa 0 72 2 (t.2.2.map Chain.enc), nxt 1])
    (fun t => t.1 ≤ l.length ∧ t.2.2.length ≤ 2 * t.1 ∧ addGo k b t.2.1 t.2.2 (l.drop t.1) = addC l k b) (fun t => l.length - t.1) (0, false, []) ⟨by omega, by simp, rfl⟩ ?_ ?_
  ·
    exact by_less
  · rintro ⟨i, done, out⟩ ⟨hi, ho, hI⟩
    dsimp only at hi ho hI ⊢
    rcases drop_case hi with ⟨h1, h2⟩ | ⟨c, h1, h2, h3⟩
    · rw [h1] at hI
      simp only [addGo] at hI
      cases done
      ·
        repeat (first | ((with_reducible apply s1); exact rfl) | (with_reducible first | apply CW.seq | apply CW.block | apply CW.region | apply CW.draw | apply CW.skip | apply CW.exit | apply CW.ret | apply q_then | apply q_then_exit | apply q_then_ret | apply q_block | apply q_block_ret | apply q_block_hit | apply q_ret | apply q_end | apply q_loop_exit | apply q_loop_ret | apply q_loopT_exit | apply q_loopT_ret | apply RW.nil) | ((with_reducible apply s3); exact rfl; exact by_k) | ((with_reducible apply s2); exact rfl; exact by_k) | ((with_reducible apply s4); exact rfl) | ((with_reducible apply s5); (first | exact by_oa); exact by_g) | ((with_reducible apply CW.cond_t); exact rfl; exact by_ks) | ((with_reducible apply CW.cond_f); exact rfl; exact by_ks) | ((with_reducible apply q_block_miss); exact rfl) | (refine And.intro (show chk [] [] _ _ = true by kernel_rfl) ?_))
        exact .one (.tmp rfl (.one (.own rfl (by simp) (dle_eq (by rw [← hI]; simp [encChains]; rfl)))))
      ·
        repeat (first | ((with_reducible apply s1); exact rfl) | (with_reducible first | apply CW.seq | apply CW.block | apply CW.region | apply CW.draw | apply CW.skip | apply CW.exit | apply CW.ret | apply q_then | apply q_then_exit | apply q_then_ret | apply q_block | apply q_block_ret | apply q_block_hit | apply q_ret | apply q_end | apply q_loop_exit | apply q_loop_ret | apply q_loopT_exit | apply q_loopT_ret | apply RW.nil) | ((with_reducible apply s3); exact rfl; exact by_k) | ((with_reducible apply s2); exact rfl; exact by_k) | ((with_reducible apply s4); exact rfl) | ((with_reducible apply s5); (first | exact by_oa); exact by_g) | ((with_reducible apply CW.cond_t); exact rfl; exact by_ks) | ((with_reducible apply CW.cond_f); exact rfl; exact by_ks) | ((with_reducible apply q_block_miss); exact rfl) | (refine And.intro (show chk [] [] _ _ = true by kernel_rfl) ?_))
        exact .one (.tmp rfl (.one (.own rfl (by simp) (dle_eq (by rw [← hI]; rfl)))))
    · rw [h1] at hI
      simp only [addGo] at hI
      have hcv := hs c (List.mem_of_getElem? h2)
      have he : out.map Chain.enc ++ [[dstr c.key, .sl 4 (c.vs.map Version.enc ++ [[dint b, dbool false, dbool false, dint 0]])]] = (out ++ [Chain.mk c.key (c.vs ++ [Version.mk b false false 0])]).map Chain.enc := by
        simp [Chain.enc, encVs, Version.enc]
      have he2 : (out.map Chain.enc ++ [[dstr k, .sl 4 [[dint b, dbool false, dbool false, dint 0]]]]) ++ [c.enc] = ((out ++ [Chain.mk k [Version.mk b false false 0]]) ++ [c]).map Chain.enc := by
        simp [Chain.enc, encVs, Version.enc]
      cases done
      · by_cases h4 : c.key = k
        · simp [h4] at hI
          have h6 : (!(slt c.key k || decide (c.key = k))) = false := by simp [h4]
          repeat (first | (with_reducible apply stop_region 12) | ((with_reducible apply s1); exact rfl) | (with_reducible first | apply CW.seq | apply CW.block | apply CW.region | apply CW.draw | apply CW.skip | apply CW.exit | apply CW.ret | apply q_then | apply q_then_exit | apply q_then_ret | apply q_block | apply q_block_ret | apply q_block_hit | apply q_ret | apply q_end | apply q_loop_exit | apply q_loop_ret | apply q_loopT_exit | apply q_loopT_ret | apply RW.nil) | ((with_reducible apply s3); exact rfl; exact by_k) | ((with_reducible apply s2); exact rfl; exact by_k) | ((with_reducible apply s4); exact rfl) | ((with_reducible apply s5); (first | exact by_oa); exact by_g) | ((with_reducible apply CW.cond_t); exact rfl; exact by_ks) | ((with_reducible apply CW.cond_f); exact rfl; exact by_ks) | ((with_reducible apply q_block_miss); exact rfl) | (refine And.intro (show chk [] [] _ _ = true by kernel_rfl) ?_))
          refine Stop.go (CW.stut (stut_freeze_cell (id := 1) (j := 1) (i := 2) rfl (by simp)) ⟨rfl, rfl, trivial⟩ ?_)
          repeat (first | ((with_reducible apply s1); exact rfl) | (with_reducible first | apply CW.seq | apply CW.block | apply CW.region | apply CW.draw | apply CW.skip | apply CW.exit | apply CW.ret | apply q_then | apply q_then_exit | apply q_then_ret | apply q_block | apply q_block_ret | apply q_block_hit | apply q_ret | apply q_end | apply q_loop_exit | apply q_loop_ret | apply q_loopT_exit | apply q_loopT_ret | apply RW.nil) | ((with_reducible apply s3); exact rfl; exact by_k) | ((with_reducible apply s2); exact rfl; exact by_k) | ((with_reducible apply s4); exact rfl) | ((with_reducible apply s5); (first | exact by_oa); exact by_g) | ((with_reducible apply CW.cond_t); exact rfl; exact by_ks) | ((with_reducible apply CW.cond_f); exact rfl; exact by_ks) | ((with_reducible apply q_block_miss); exact rfl) | (refine And.intro (show chk [] [] _ _ = true by kernel_rfl) ?_))
          refine q_loopT (i + 1, true, out ++ [⟨c.key, c.vs ++ [⟨b, false, false, 0⟩]⟩]) ⟨by dsimp only; omega, by dsimp only; simp; omega, by rw [h4]; exact hI⟩ (by dsimp only; omega) ?_
          exact by_less
        · cases h5 : slt c.key k
          · simp [h4, h5] at hI
            have h6 : (!(slt c.key k || decide (c.key = k))) = true := by simp [h4, h5]
            repeat (first | ((with_reducible apply s1); exact rfl) | (with_reducible first | apply CW.seq | apply CW.block | apply CW.region | apply CW.draw | apply CW.skip | apply CW.exit | apply CW.ret | apply q_then | apply q_then_exit | apply q_then_ret | apply q_block | apply q_block_ret | apply q_block_hit | apply q_ret | apply q_end | apply q_loop_exit | apply q_loop_ret | apply q_loopT_exit | apply q_loopT_ret | apply RW.nil) | ((with_reducible apply s3); exact rfl; exact by_k) | ((with_reducible apply s2); exact rfl; exact by_k) | ((with_reducible apply s4); exact rfl) | ((with_reducible apply s5); (first | exact by_oa); exact by_g) | ((with_reducible apply CW.cond_t); exact rfl; exact by_ks) | ((with_reducible apply CW.cond_f); exact rfl; exact by_ks) | ((with_reducible apply q_block_miss); exact rfl) | (refine And.intro (show chk [] [] _ _ = true by kernel_rfl) ?_))
            refine q_loopT (i + 1, true, (out ++ [⟨k, [⟨b, false, false, 0⟩]⟩]) ++ [c]) ⟨by dsimp only; omega, by dsimp only; simp; omega, by simpa using hI⟩ (by dsimp only; omega) ?_
            exact by_less
          · simp [h4, h5] at hI
            have h6 : (!(slt c.key k || decide (c.key = k))) = false := by simp [h5]
            repeat (first | ((with_reducible apply s1); exact rfl) | (with_reducible first | apply CW.seq | apply CW.block | apply CW.region | apply CW.draw | apply CW.skip | apply CW.exit | apply CW.ret | apply q_then | apply q_then_exit | apply q_then_ret | apply q_block | apply q_block_ret | apply q_block_hit | apply q_ret | apply q_end | apply q_loop_exit | apply q_loop_ret | apply q_loopT_exit | apply q_loopT_ret | apply RW.nil) | ((with_reducible apply s3); exact rfl; exact by_k) | ((with_reducible apply s2); exact rfl; exact by_k) | ((with_reducible apply s4); exact rfl) | ((with_reducible apply s5); (first | exact by_oa); exact by_g) | ((with_reducible apply CW.cond_t); exact rfl; exact by_ks) | ((with_reducible apply CW.cond_f); exact rfl; exact by_ks) | ((with_reducible apply q_block_miss); exact rfl) | (refine And.intro (show chk [] [] _ _ = true by kernel_rfl) ?_))
            refine q_loopT (i + 1, false, out ++ [c]) ⟨by dsimp only; omega, by dsimp only; simp; omega, hI⟩ (by dsimp only; omega) ?_
            exact by_less
      · by_cases h4 : c.key = k
        · simp [h4] at hI
          repeat (first | (with_reducible apply stop_region 12) | ((with_reducible apply s1); exact rfl) | (with_reducible first | apply CW.seq | apply CW.block | apply CW.region | apply CW.draw | apply CW.skip | apply CW.exit | apply CW.ret | apply q_then | apply q_then_exit | apply q_then_ret | apply q_block | apply q_block_ret | apply q_block_hit | apply q_ret | apply q_end | apply q_loop_exit | apply q_loop_ret | apply q_loopT_exit | apply q_loopT_ret | apply RW.nil) | ((with_reducible apply s3); exact rfl; exact by_k) | ((with_reducible apply s2); exact rfl; exact by_k) | ((with_reducible apply s4); exact rfl) | ((with_reducible apply s5); (first | exact by_oa); exact by_g) | ((with_reducible apply CW.cond_t); exact rfl; exact by_ks) | ((with_reducible apply CW.cond_f); exact rfl; exact by_ks) | ((with_reducible apply q_block_miss); exact rfl) | (refine And.intro (show chk [] [] _ _ = true by kernel_rfl) ?_))
          refine Stop.go (CW.stut (stut_freeze_cell (id := 1) (j := 1) (i := 2) rfl (by simp)) ⟨rfl, rfl, trivial⟩ ?_)
          repeat (first | ((with_reducible apply s1); exact rfl) | (with_reducible first | apply CW.seq | apply CW.block | apply CW.region | apply CW.draw | apply CW.skip | apply CW.exit | apply CW.ret | apply q_then | apply q_then_exit | apply q_then_ret | apply q_block | apply q_block_ret | apply q_block_hit | apply q_ret | apply q_end | apply q_loop_exit | apply q_loop_ret | apply q_loopT_exit | apply q_loopT_ret | apply RW.nil) | ((with_reducible apply s3); exact rfl; exact by_k) | ((with_reducible apply s2); exact rfl; exact by_k) | ((with_reducible apply s4); exact rfl) | ((with_reducible apply s5); (first | exact by_oa); exact by_g) | ((with_reducible apply CW.cond_t); exact rfl; exact by_ks) | ((with_reducible apply CW.cond_f); exact rfl; exact by_ks) | ((with_reducible apply q_block_miss); exact rfl) | (refine And.intro (show chk [] [] _ _ = true by kernel_rfl) ?_))
          refine q_loopT (i + 1, true, out ++ [⟨c.key, c.vs ++ [⟨b, false, false, 0⟩]⟩]) ⟨by dsimp only; omega, by dsimp only; simp; omega, by rw [h4]; exact hI⟩ (by dsimp only; omega) ?_
          exact by_less
        · simp [h4] at hI
          repeat (first | ((with_reducible apply s1); exact rfl) | (with_reducible first | apply CW.seq | apply CW.block | apply CW.region | apply CW.draw | apply CW.skip | apply CW.exit | apply CW.ret | apply q_then | apply q_then_exit | apply q_then_ret | apply q_block | apply q_block_ret | apply q_block_hit | apply q_ret | apply q_end | apply q_loop_exit | apply q_loop_ret | apply q_loopT_exit | apply q_loopT_ret | apply RW.nil) | ((with_reducible apply s3); exact rfl; exact by_k) | ((with_reducible apply s2); exact rfl; exact by_k) | ((with_reducible apply s4); exact rfl) | ((with_reducible apply s5); (first | exact by_oa); exact by_g) | ((with_reducible apply CW.cond_t); exact rfl; exact by_ks) | ((with_reducible apply CW.cond_f); exact rfl; exact by_ks) | ((with_reducible apply q_block_miss); exact rfl) | (refine And.intro (show chk [] [] _ _ = true by kernel_rfl) ?_))
          refine q_loopT (i + 1, true, out ++ [c]) ⟨by dsimp only; omega, by dsimp only; simp; omega, hI⟩ (by dsimp only; omega) ?_
          exact by_less

end Go.Proofs.Ytjopijlkpipljaa

/-! F17 -/
/-
  Contract of the references' Add of deeds to engines.
-/
namespace Go.Proofs.Ytjopijlkpipljaa
open Go.AX Go.RF

set_option maxRecDepth 100000
set_option maxHeartbeats 8000000

/-- How large an engine is, at most. -/
structure Engine.Sz (e : Engine) (N : Nat) : Prop where
  c : e.chains.length ≤ N
  v : ∀ c ∈ e.chains, c.vs.length ≤ N
  d : e.deeds.length ≤ N
  s : e.state.length = e.deeds.length
  n : e.ends.length = e.deeds.length
  b : 0 ≤ e.base ∧ e.base + e.deeds.length ≤ N
  dd : ∀ d ∈ e.deeds, d.Sm
theorem Engine.Sz.sm {e : Engine} {N : Nat} (h : Engine.Sz e N) (hN : N ≤ 134217728) : e.Sm :=
  ⟨by have := h.c; omega, fun c hc => by have := h.v c hc; omega, by have := h.d; omega, by have := h.d; have := h.s; omega, by have := h.d; have := h.n; omega, by have := h.b; omega, h.dd⟩

theorem addGo_true {k : Str} {b : Int} : ∀ (l out : List Chain), (addGo k b true out l).length = out.length + l.length
  | [], out => by simp [addGo]
  | c :: l, out => by
    simp only [addGo, Bool.not_true, Bool.false_and, Bool.true_or]
    split
    · rw [addGo_true l]; simp; omega
    · rw [addGo_true l]; simp; omega
theorem addGo_false {k : Str} {b : Int} : ∀ (l out : List Chain), (addGo k b false out l).length ≤ out.length + l.length + 1
  | [], out => by simp [addGo]
  | c :: l, out => by
    simp only [addGo, Bool.not_false, Bool.true_and, Bool.false_or]
    by_cases h : (!(slt c.key k || decide (c.key = k))) = true
    · rw [h]
      simp only [if_true]
      split
      · rw [addGo_true l]; simp; omega
      · rw [addGo_true l]; simp; omega
    · rw [show (!(slt c.key k || decide (c.key = k))) = false by simpa using h]
      simp only [Bool.false_eq_true, if_false]
      split
      · rw [addGo_true l]; simp; omega
      · refine Nat.le_trans (addGo_false l _) ?_
        simp; omega
theorem addC_len (l : List Chain) (k : Str) (b : Int) : (addC l k b).length ≤ l.length + 1 := by
  have := addGo_false (k := k) (b := b) l []
  unfold addC
  simpa using this
theorem addGo_vs {k : Str} {b : Int} {M : Nat} : ∀ {l : List Chain} {dn : Bool} {out : List Chain}, (∀ c ∈ l, c.vs.length ≤ M) → (∀ c ∈ out, c.vs.length ≤ M + 1) → ∀ c ∈ addGo k b dn out l, c.vs.length ≤ M + 1
  | [], dn, out, _, ho, c, hc => by
    simp only [addGo] at hc
    split at hc
    · exact ho c hc
    · rcases List.mem_append.1 hc with hc | hc
      · exact ho c hc
      · simp at hc; subst hc; simp
  | x :: l, dn, out, hl, ho, c, hc => by
    simp only [addGo] at hc
    have h1 : ∀ (g : Bool), ∀ c ∈ (if g = true then out ++ [⟨k, [⟨b, false, false, 0⟩]⟩] else out), c.vs.length ≤ M + 1 := by
      intro g c hc
      split at hc
      · rcases List.mem_append.1 hc with hc | hc
        · exact ho c hc
        · simp at hc; subst hc; simp
      · exact ho c hc
    have hx := hl x (List.mem_cons_self ..)
    split at hc
    · refine addGo_vs (fun c hc => hl c (List.mem_cons_of_mem _ hc)) (fun c hc => ?_) c hc
      rcases List.mem_append.1 hc with hc | hc
      · exact h1 _ c hc
      · simp at hc; subst hc; simp; omega
    · refine addGo_vs (fun c hc => hl c (List.mem_cons_of_mem _ hc)) (fun c hc => ?_) c hc
      rcases List.mem_append.1 hc with hc | hc
      · exact h1 _ c hc
      · simp at hc; subst hc; omega
theorem addC_vs {l : List Chain} {k : Str} {b : Int} {M : Nat} (h : ∀ c ∈ l, c.vs.length ≤ M) : ∀ c ∈ addC l k b, c.vs.length ≤ M + 1 := addGo_vs h (by simp)
theorem addKeys_sz {b : Int} {M : Nat} : ∀ {ks : List Str} {l : List Chain} {n : Nat}, l.length ≤ n → (∀ c ∈ l, c.vs.length ≤ M) → (addKeys b l ks).length ≤ n + ks.length ∧ ∀ c ∈ addKeys b l ks, c.vs.length ≤ M + ks.length
  | [], l, n, h1, h2 => ⟨h1, h2⟩
  | k :: ks, l, n, h1, h2 => by
    have := addKeys_sz (b := b) (M := M + 1) (ks := ks) (l := addC l k b) (n := n + 1) (Nat.le_trans (addC_len l k b) (by omega)) (addC_vs h2)
    refine ⟨by simp only [addKeys, List.length_cons]; omega, fun c hc => ?_⟩
    have := this.2 c hc
    simp; omega
theorem add1_sz {e : Engine} {N : Nat} (h : Engine.Sz e N) {d : Deed} (hd : d.Sm) (hw : d.writes.length ≤ 5) : Engine.Sz (add1 e d) (N + 5) := by
  have := addKeys_sz (b := e.base + e.deeds.length) (ks := d.writes) h.c h.v
  refine ⟨by have := this.1; simp only [add1]; omega, fun c hc => by have := this.2 c hc; omega, ?_, ?_, ?_, ?_, ?_⟩
  · have := h.d; simp [add1]; omega
  · have := h.s; simp [add1, this]
  · have := h.n; simp [add1, this]
  · have := h.b; simp [add1]; omega
  · intro x hx
    rcases List.mem_append.1 hx with hx | hx
    · exact h.dd x hx
    · simp at hx; subst hx; exact hd

theorem wrong_writes {d : Deed} (h : wrongDeed d = 0) : d.reads.length ≤ 5 ∧ d.writes.length ≤ 5 ∧ d.code.length ≤ 12 := by
  unfold wrongDeed at h
  by_cases h0 : lsGo [d.reads, d.writes] = 0
  · rw [if_pos h0] at h
    simp only [lsGo] at h0
    have hc : d.code.length ≤ 12 := by
      by_cases hc : 12 < d.code.length
      · rw [if_pos hc] at h; simp at h
      · omega
    have key : ∀ l : List Str, keysWrong l = 0 → l.length ≤ 5 := by
      intro l hl
      unfold keysWrong at hl
      by_cases h5 : 5 < l.length
      · rw [if_pos h5] at hl; simp at hl
      · omega
    by_cases h1 : keysWrong d.reads = 0
    · rw [if_pos h1] at h0
      by_cases h2 : keysWrong d.writes = 0
      · exact ⟨key _ h1, key _ h2, hc⟩
      · rw [if_neg h2] at h0; exact absurd h0 h2
    · rw [if_neg h1] at h0; exact absurd h0 h1
  · rw [if_neg h0] at h; exact absurd h h0
theorem wrongs_mem : ∀ {l : List Deed}, wrongs l = 0 → ∀ d ∈ l, wrongDeed d = 0
  | [], _, d, hd => by cases hd
  | x :: l, h, d, hd => by
    simp only [wrongs] at h
    by_cases h0 : wrongDeed x = 0
    · rw [if_pos h0] at h
      rcases List.mem_cons.1 hd with rfl | hd
      · exact h0
      · exact wrongs_mem h d hd
    · rw [if_neg h0] at h; exact absurd h h0

end Go.Proofs.Ytjopijlkpipljaa

/-! G3 -/
/-
  Contracts of the program's copies, and of what it counts in engines.
-/
namespace Go.Proofs.Ytjopijlkpipljaa
open Go.AX Go.RF

set_option maxRecDepth 100000
set_option maxHeartbeats 4000000

theorem ok_chainOwn (l : List Chain) (hl : l.length ≤ 268435456) (hv : ∀ c ∈ l, c.vs.length ≤ 268435456) : FnOk Try.prog 36 [.d (encChains l)] (.one (encChains l)) := by
  refine fnOk_of tbl_ok mixed_ok Try.func36 rfl (by kernel_rfl) rfl rfl fun w0 own0 => ?_
  repeat (first | ((with_reducible apply s1); exact rfl) | (with_reducible first | apply CW.seq | apply CW.block | apply CW.region | apply CW.draw | apply CW.skip | apply CW.exit | apply CW.ret | apply q_then | apply q_then_exit | apply q_then_ret | apply q_block | apply q_block_ret | apply q_block_hit | apply q_ret | apply q_end | apply q_loop_exit | apply q_loop_ret | apply q_loopT_exit | apply q_loopT_ret | apply RW.nil) | ((with_reducible apply s3); exact rfl; exact by_k) | ((with_reducible apply s2); exact rfl; exact by_k) | ((with_reducible apply s4); exact rfl) | ((with_reducible apply s5); (first | exact by_oa); exact by_g) | ((with_reducible apply CW.cond_t); exact rfl; exact by_ks) | ((with_reducible apply CW.cond_f); exact rfl; exact by_ks) | ((with_reducible apply q_block_miss); exact rfl) | (refine And.intro (show chk [] [] _ _ = true by kernel_rfl) ?_))
  refine CW.stut (stut_promote (i := 3) 72 2) ⟨rfl, rfl, trivial⟩ ?_
  refine CW.loopT (fun i : Nat => [sd 6 (encChains l), sd 7 (dint l.length), sd 8 (dint i), so 3 0 i, oa 0 72 2 ((l.take i).map Chain.enc), nxt 1]) (fun i => i ≤ l.length) (fun i => l.length - i) 0 (by omega) ?_ ?_
  ·
    exact by_less
  · rintro i hi
    rcases drop_case hi with ⟨h1, h2⟩ | ⟨c, h1, h2, h3⟩
    ·
      repeat (first | ((with_reducible apply s1); exact rfl) | (with_reducible first | apply CW.seq | apply CW.block | apply CW.region | apply CW.draw | apply CW.skip | apply CW.exit | apply CW.ret | apply q_then | apply q_then_exit | apply q_then_ret | apply q_block | apply q_block_ret | apply q_block_hit | apply q_ret | apply q_end | apply q_loop_exit | apply q_loop_ret | apply q_loopT_exit | apply q_loopT_ret | apply RW.nil) | ((with_reducible apply s3); exact rfl; exact by_k) | ((with_reducible apply s2); exact rfl; exact by_k) | ((with_reducible apply s4); exact rfl) | ((with_reducible apply s5); (first | exact by_oa); exact by_g) | ((with_reducible apply CW.cond_t); exact rfl; exact by_ks) | ((with_reducible apply CW.cond_f); exact rfl; exact by_ks) | ((with_reducible apply q_block_miss); exact rfl) | (refine And.intro (show chk [] [] _ _ = true by kernel_rfl) ?_))
      exact .one (.tmp rfl (.one (.own rfl (by simp; omega) (dle_eq (by rw [h2, List.take_length]; rfl)))))
    · have h4 : (l.take i).map Chain.enc ++ [c.enc] = (l.take (i + 1)).map Chain.enc := by rw [List.take_add_one, h2]; simp
      have hcv := hv c (List.mem_of_getElem? h2)
      have hc := ok_clone_version (c.vs.map Version.enc) (by simp; omega)
      repeat (first | ((with_reducible apply s1); exact rfl) | (with_reducible first | apply CW.seq | apply CW.block | apply CW.region | apply CW.draw | apply CW.skip | apply CW.exit | apply CW.ret | apply q_then | apply q_then_exit | apply q_then_ret | apply q_block | apply q_block_ret | apply q_block_hit | apply q_ret | apply q_end | apply q_loop_exit | apply q_loop_ret | apply q_loopT_exit | apply q_loopT_ret | apply RW.nil) | ((with_reducible apply s3); exact rfl; exact by_k) | ((with_reducible apply s2); exact rfl; exact by_k) | ((with_reducible apply s4); exact rfl) | ((with_reducible apply s5); (first | (focus ((with_reducible apply a_call); exact hc; exact rfl; (repeat (first | exact SubsE.nil | (apply SubsE.cons; exact rfl; (first | exact .d (.refl _) | exact .d (.nil _) | exact .agg rfl (.refl _) | exact .pd | exact .ptr rfl); (first | exact trivial | exact ⟨rfl, trivial⟩)))); done)) | exact by_oa); exact by_g) | ((with_reducible apply CW.cond_t); exact rfl; exact by_ks) | ((with_reducible apply CW.cond_f); exact rfl; exact by_ks) | ((with_reducible apply q_block_miss); exact rfl) | (refine And.intro (show chk [] [] _ _ = true by kernel_rfl) ?_))
      refine q_loopT (i + 1) (by omega) (by omega) ?_
      exact by_less

theorem ok_deedOwn (d : Deed) (hs : d.Sm) : FnOk Try.prog 39 [.d (.agg d.enc)] (.one (.agg d.enc)) := by
  refine fnOk_of tbl_ok mixed_ok Try.func39 rfl (by kernel_rfl) rfl rfl fun w0 own0 => ?_
  have h1 := hs.r
  have h2 := hs.w
  have h3 := hs.c
  have c1 := ok_clone_str (d.reads.map encStr1) (by simp; omega)
  have c2 := ok_clone_str (d.writes.map encStr1) (by simp; omega)
  have c3 := ok_clone_ins (d.code.map Ins.enc) (by simp; omega)
  repeat (first | ((with_reducible apply s1); exact rfl) | (with_reducible first | apply CW.seq | apply CW.block | apply CW.region | apply CW.draw | apply CW.skip | apply CW.exit | apply CW.ret | apply q_then | apply q_then_exit | apply q_then_ret | apply q_block | apply q_block_ret | apply q_block_hit | apply q_ret | apply q_end | apply q_loop_exit | apply q_loop_ret | apply q_loopT_exit | apply q_loopT_ret | apply RW.nil) | ((with_reducible apply s3); exact rfl; exact by_k) | ((with_reducible apply s2); exact rfl; exact by_k) | ((with_reducible apply s4); exact rfl) | ((with_reducible apply s5); (first | (focus ((with_reducible apply a_call); exact c1; exact rfl; (repeat (first | exact SubsE.nil | (apply SubsE.cons; exact rfl; (first | exact .d (.refl _) | exact .d (.nil _) | exact .agg rfl (.refl _) | exact .pd | exact .ptr rfl); (first | exact trivial | exact ⟨rfl, trivial⟩)))); done)) | (focus ((with_reducible apply a_call); exact c2; exact rfl; (repeat (first | exact SubsE.nil | (apply SubsE.cons; exact rfl; (first | exact .d (.refl _) | exact .d (.nil _) | exact .agg rfl (.refl _) | exact .pd | exact .ptr rfl); (first | exact trivial | exact ⟨rfl, trivial⟩)))); done)) | (focus ((with_reducible apply a_call); exact c3; exact rfl; (repeat (first | exact SubsE.nil | (apply SubsE.cons; exact rfl; (first | exact .d (.refl _) | exact .d (.nil _) | exact .agg rfl (.refl _) | exact .pd | exact .ptr rfl); (first | exact trivial | exact ⟨rfl, trivial⟩)))); done)) | exact by_oa); exact by_g) | ((with_reducible apply CW.cond_t); exact rfl; exact by_ks) | ((with_reducible apply CW.cond_f); exact rfl; exact by_ks) | ((with_reducible apply q_block_miss); exact rfl) | (refine And.intro (show chk [] [] _ _ = true by kernel_rfl) ?_))
  exact .one (.cell rfl rfl rfl rfl (.aggd (ds := d.enc) rfl (.refl _)))

theorem ok_planOwn (e : Engine) (hs : e.Sm) : FnOk Try.prog 16 [.d (.agg e.enc)] (.one (.agg e.enc)) := by
  refine fnOk_of tbl_ok mixed_ok Try.func16 rfl (by kernel_rfl) rfl rfl fun w0 own0 => ?_
  have h1 := hs.c
  have h2 := hs.s
  have h3 := hs.n
  have h4 := hs.d
  have c1 := ok_chainOwn e.chains (by omega) (fun c hc => by have := hs.v c hc; omega)
  have c2 := ok_clone_int (e.state.map encInt1) (by simp; omega)
  have c3 := ok_clone_done (e.ends.map Done.enc) (by simp; omega)
  repeat (first | ((with_reducible apply s1); exact rfl) | (with_reducible first | apply CW.seq | apply CW.block | apply CW.region | apply CW.draw | apply CW.skip | apply CW.exit | apply CW.ret | apply q_then | apply q_then_exit | apply q_then_ret | apply q_block | apply q_block_ret | apply q_block_hit | apply q_ret | apply q_end | apply q_loop_exit | apply q_loop_ret | apply q_loopT_exit | apply q_loopT_ret | apply RW.nil) | ((with_reducible apply s3); exact rfl; exact by_k) | ((with_reducible apply s2); exact rfl; exact by_k) | ((with_reducible apply s4); exact rfl) | ((with_reducible apply s5); (first | (focus ((with_reducible apply a_call); exact c1; exact rfl; (repeat (first | exact SubsE.nil | (apply SubsE.cons; exact rfl; (first | exact .d (.refl _) | exact .d (.nil _) | exact .agg rfl (.refl _) | exact .pd | exact .ptr rfl); (first | exact trivial | exact ⟨rfl, trivial⟩)))); done)) | (focus ((with_reducible apply a_call); exact c2; exact rfl; (repeat (first | exact SubsE.nil | (apply SubsE.cons; exact rfl; (first | exact .d (.refl _) | exact .d (.nil _) | exact .agg rfl (.refl _) | exact .pd | exact .ptr rfl); (first | exact trivial | exact ⟨rfl, trivial⟩)))); done)) | (focus ((with_reducible apply a_call); exact c3; exact rfl; (repeat (first | exact SubsE.nil | (apply SubsE.cons; exact rfl; (first | exact .d (.refl _) | exact .d (.nil _) | exact .agg rfl (.refl _) | exact .pd | exact .ptr rfl); (first | exact trivial | exact ⟨rfl, trivial⟩)))); done)) | exact by_oa); exact by_g) | ((with_reducible apply CW.cond_t); exact rfl; exact by_ks) | ((with_reducible apply CW.cond_f); exact rfl; exact by_ks) | ((with_reducible apply q_block_miss); exact rfl) | (refine And.intro (show chk [] [] _ _ = true by kernel_rfl) ?_))
  refine CW.stut (stut_promote_cell (id := 2) (j := 1) 60 3 rfl) ⟨rfl, rfl, trivial⟩ ?_
  refine CW.loopT (fun i : Nat => [sp 2 1, ob 1 noE.enc0, sp 3 2, (.o 2, .ob (.box [.d (encChains e.chains), .own 3 i, .d (encInts e.state), .d (encEnds e.ends), .d (dint e.base)])), sd 19 (encDeeds e.deeds), sd 20 (dint e.deeds.length), sd 21 (dint i),
      oa 3 60 3 ((e.deeds.take i).map Deed.enc), nxt 4]) (fun i => i ≤ e.deeds.length) (fun i => e.deeds.length - i) 0 (by omega) ?_ ?_
  ·
    exact by_less
  · rintro i hi
    rcases drop_case hi with ⟨h5, h6⟩ | ⟨d, h5, h6, h7⟩
    · have h8 : (e.deeds.take i).map Deed.enc = e.deeds.map Deed.enc := by rw [h6, List.take_length]
      repeat (first | (with_reducible apply stop_reg 7) | ((with_reducible apply s1); exact rfl) | (with_reducible first | apply CW.seq | apply CW.block | apply CW.region | apply CW.draw | apply CW.skip | apply CW.exit | apply CW.ret | apply q_then | apply q_then_exit | apply q_then_ret | apply q_block | apply q_block_ret | apply q_block_hit | apply q_ret | apply q_end | apply q_loop_exit | apply q_loop_ret | apply q_loopT_exit | apply q_loopT_ret | apply RW.nil) | ((with_reducible apply s3); exact rfl; exact by_k) | ((with_reducible apply s2); exact rfl; exact by_k) | ((with_reducible apply s4); exact rfl) | ((with_reducible apply s5); (first | exact by_oa); exact by_g) | ((with_reducible apply CW.cond_t); exact rfl; exact by_ks) | ((with_reducible apply CW.cond_f); exact rfl; exact by_ks) | ((with_reducible apply q_block_miss); exact rfl) | (refine And.intro (show chk [] [] _ _ = true by kernel_rfl) ?_))
      refine Stop.go (CW.stut (stut_freeze_cell (id := 2) (j := 1) (i := 3) rfl (by simp; omega)) ⟨rfl, rfl, trivial⟩ ?_)
      repeat (first | ((with_reducible apply s1); exact rfl) | (with_reducible first | apply CW.seq | apply CW.block | apply CW.region | apply CW.draw | apply CW.skip | apply CW.exit | apply CW.ret | apply q_then | apply q_then_exit | apply q_then_ret | apply q_block | apply q_block_ret | apply q_block_hit | apply q_ret | apply q_end | apply q_loop_exit | apply q_loop_ret | apply q_loopT_exit | apply q_loopT_ret | apply RW.nil) | ((with_reducible apply s3); exact rfl; exact by_k) | ((with_reducible apply s2); exact rfl; exact by_k) | ((with_reducible apply s4); exact rfl) | ((with_reducible apply s5); (first | exact by_oa); exact by_g) | ((with_reducible apply CW.cond_t); exact rfl; exact by_ks) | ((with_reducible apply CW.cond_f); exact rfl; exact by_ks) | ((with_reducible apply q_block_miss); exact rfl) | (refine And.intro (show chk [] [] _ _ = true by kernel_rfl) ?_))
      exact .one (.cell rfl rfl rfl rfl (.aggd (ds := [encChains e.chains, .sl 3 ((e.deeds.take i).map Deed.enc), encInts e.state, encEnds e.ends, dint e.base]) rfl (dle_eq (by rw [h8]; rfl))))
    · have h8 : (e.deeds.take i).map Deed.enc ++ [d.enc] = (e.deeds.take (i + 1)).map Deed.enc := by rw [List.take_add_one, h6]; simp
      have hd := ok_deedOwn d (hs.dd d (List.mem_of_getElem? h6))
      repeat (first | ((with_reducible apply s1); exact rfl) | (with_reducible first | apply CW.seq | apply CW.block | apply CW.region | apply CW.draw | apply CW.skip | apply CW.exit | apply CW.ret | apply q_then | apply q_then_exit | apply q_then_ret | apply q_block | apply q_block_ret | apply q_block_hit | apply q_ret | apply q_end | apply q_loop_exit | apply q_loop_ret | apply q_loopT_exit | apply q_loopT_ret | apply RW.nil) | ((with_reducible apply s3); exact rfl; exact by_k) | ((with_reducible apply s2); exact rfl; exact by_k) | ((with_reducible apply s4); exact rfl) | ((with_reducible apply s5); (first | (focus ((with_reducible apply a_call); exact hd; exact rfl; (repeat (first | exact SubsE.nil | (apply SubsE.cons; exact rfl; (first | exact .d (.refl _) | exact .d (.nil _) | exact .agg rfl (.refl _) | exact .pd | exact .ptr rfl); (first | exact trivial | exact ⟨rfl, trivial⟩)))); done)) | exact by_oa); exact by_g) | ((with_reducible apply CW.cond_t); exact rfl; exact by_ks) | ((with_reducible apply CW.cond_f); exact rfl; exact by_ks) | ((with_reducible apply q_block_miss); exact rfl) | (refine And.intro (show chk [] [] _ _ = true by kernel_rfl) ?_))
      refine q_loopT (i + 1) (by omega) (by omega) ?_
      exact by_less

end Go.Proofs.Ytjopijlkpipljaa

/-! AxFam -/
/-
  A region in whatever order, one of whose operations may leave one of many states: all that stand behind it in the text wait for it.
-/
namespace Go.AX
open Go.RowKit

variable {cx : Cx} {σ σ' : St} {a a' : Act} {w w' : World} {ops : Array Oper}

theorem wpAny_but {ts : List Tr} {s0 : Nat} {Q : Exit → Act → World → Prop} (hA : ∀ i o, ops[i]? = some o → i ≠ s0 → ∃ t, ts[i]? = some t ∧ TrOk cx ops o t) (hlen : ts.length = ops.size) (hfit : Fit ops.toList ts) :
    ∀ (fuel : Nat) (listed : Array Bool) (σ : St) (a : Act) (w : World), listed.size = ops.size → listed.getD s0 true = true → Closed ops listed → Run (left ts listed 0) σ → (left ts listed 0).length = fuel → Sim cx σ a w →
      (∀ a' w', Sim cx (fin (left ts listed 0) σ) a' w' → Q .normal a' w') → wpAny cx.P .any ops Q fuel listed a w := by
  intro fuel
  induction fuel with
  | zero =>
    intro listed σ a w hsz hls hcl hrun hl hs hq
    have hnil : left ts listed 0 = [] := List.eq_nil_of_length_eq_zero hl
    refine ⟨?_, hq a w (by rw [hnil]; exact hs)⟩
    refine List.eq_nil_iff_forall_not_mem.2 fun i hi => ?_
    obtain ⟨h1, o, ho, _⟩ := mem_ready.1 hi
    have := left_nil hnil i (by rw [hlen]; exact (Array.getElem?_eq_some_iff.1 ho).1)
    rw [Nat.zero_add, h1] at this
    cases this
  | succ fuel ih =>
    intro listed σ a w hsz hls hcl hrun hl hs hq
    refine ⟨fun hr => ?_, fun i hi => ?_⟩
    · have hne : left ts listed 0 ≠ [] := by intro e; rw [e] at hl; simp at hl
      obtain ⟨i, h1, h2, h3⟩ := left_ne hne
      rw [Nat.zero_add] at h2
      have hi : i < ops.size := by omega
      have hm : i ∈ Region.ready .any ops listed := mem_ready.2 ⟨h2, ops[i], Array.getElem?_eq_getElem hi, fun j hj => by
        have hj' := hfit.down i ops[i] (by simp [hi]) j hj
        have := h3 j hj'
        rw [Nat.zero_add] at this
        rw [← getD_tf (by omega)]; exact this⟩
      rw [hr] at hm
      cases hm
    · obtain ⟨h1, o, ho, h2⟩ := mem_ready.1 hi
      have hi' : i < ops.size := (Array.getElem?_eq_some_iff.1 ho).1
      have his : i ≠ s0 := fun e => by subst e; rw [hls] at h1; cases h1
      obtain ⟨t, ht, htr⟩ := hA i o ho his
      obtain ⟨pre, post, h3, h4, h5⟩ := left_split (k := 0) ht (by rw [Nat.zero_add]; exact h1) (by omega)
      rw [Nat.zero_add] at h4
      rw [h3] at hrun hq hl
      have hap : ∀ s ∈ pre, Apart s t := by
        intro s hsm
        obtain ⟨j, h6, h7, h8⟩ := h5 s hsm
        rw [Nat.zero_add] at h8
        rcases hfit.apart i j s t h6 h7 ht with h9 | h9
        · exfalso
          have hanc : ∀ m, m ∈ edges o → Anc ops.toList j m → False := fun m hm hma => by
            have hml : listed.getD m false = true := h2 m hm
            have hms := hfit.down i o (by simpa using ho) m hm
            have := hcl.anc hsz hma (by rw [getD_tf (by omega)]; exact hml) (by omega)
            rw [← getD_tf (by omega)] at this
            rw [h8] at this; cases this
          cases h9 with
          | one ho' h =>
            rw [show ops.toList[i]? = some o by simpa using ho] at ho'
            cases ho'
            have := h2 j h
            rw [← getD_tf (by omega)] at this
            rw [h8] at this; cases this
          | step ho' h hm =>
            rw [show ops.toList[i]? = some o by simpa using ho] at ho'
            cases ho'
            exact hanc _ h hm
        · exact h9
      obtain ⟨h6, h7⟩ := Run.front hap hrun
      unfold wpOp
      rw [ho]
      have hstep := htr σ a w (wpAny cx.P .any ops Q fuel (listed.setIfInBounds i true)) Q hs h6.1 fun a' w' hs' => by
        refine ih _ _ a' w' (by simp [hsz]) (by simpa only [Array.getD_eq_getD_getElem?, Array.getElem?_setIfInBounds, if_neg his] using hls) (fun i' o' ho' hi2 hli j hj => ?_) (by rw [h4]; exact h6.2) (by rw [h4]; simp at hl ⊢; omega) hs' (fun a2 w2 hs2 => hq a2 w2 ?_)
        · by_cases he : i' = i
          · subst he
            rw [ho] at ho'
            cases ho'
            have hne : j ≠ i' := fun e => by have := hfit.down i' o (by simpa using ho) j hj; omega
            simp only [Array.getD_eq_getD_getElem?, Array.getElem?_setIfInBounds, if_neg (show ¬ i' = j from fun e => hne e.symm)]
            simpa only [Array.getD_eq_getD_getElem?] using h2 j hj
          · have hli' : listed.getD i' true = true := by
              simpa only [Array.getD_eq_getD_getElem?, Array.getElem?_setIfInBounds, if_neg (show ¬ i = i' from fun e => he e.symm)] using hli
            have hjl := hcl i' o' ho' (by simpa using hi2) hli' j hj
            by_cases hji : i = j
            · subst hji
              simp [Array.getD_eq_getD_getElem?, hsz, hi']
            · simpa only [Array.getD_eq_getD_getElem?, Array.getElem?_setIfInBounds, if_neg hji] using hjl
        · rw [h4] at hs2
          exact hs2.eqv h7.symm
      dsimp only
      split
      · rename_i hw; rw [if_pos hw] at hstep; exact .inl hstep
      · rename_i hw; rw [if_neg hw] at hstep; exact hstep


theorem wpAny_fam {ι : Type} {ts : ι → List Tr} {s0 : Nat} {os : Oper} {rs : List (Key × Val)} {Q : Exit → Act → World → Prop} (x0 : ι) (hA : ∀ x i o, ops[i]? = some o → i ≠ s0 → ∃ t, (ts x)[i]? = some t ∧ TrOk cx ops o t)
    (hpre : ∀ x i, i < s0 → (ts x)[i]? = (ts x0)[i]?) (hlen : ∀ x, (ts x).length = ops.size) (hfit : ∀ x, Fit ops.toList (ts x))
    (hos : ops[s0]? = some os) (hgs : os.guard = none) (hrs : ∀ x, ∃ t, (ts x)[s0]? = some t ∧ t.rd = rs)
    (hsp : ∀ (σ : St) (a : Act) (w : World) (K : Act → World → Prop) (Q : Exit → Act → World → Prop), Sim cx σ a w → App σ rs → (∀ x t a' w', (ts x)[s0]? = some t → Sim cx (t.wr ++ σ) a' w' → K a' w') → os.wp cx.P a w K Q)
    (hanc : ∀ i, s0 < i → i < ops.size → Anc ops.toList s0 i) :
    ∀ (fuel : Nat) (listed : Array Bool) (σ : St) (a : Act) (w : World), listed.size = ops.size → listed.getD s0 true = false → Closed ops listed → (∀ x, Run (left (ts x) listed 0) σ) → (∀ x, (left (ts x) listed 0).length = fuel) → Sim cx σ a w →
      (∀ x a' w', Sim cx (fin (left (ts x) listed 0) σ) a' w' → Q .normal a' w') → wpAny cx.P .any ops Q fuel listed a w := by
  intro fuel
  induction fuel with
  | zero =>
    intro listed σ a w hsz hls hcl hrun hl hs hq
    have hnil : left (ts x0) listed 0 = [] := List.eq_nil_of_length_eq_zero (hl x0)
    have := left_nil hnil s0 (by rw [hlen]; exact (Array.getElem?_eq_some_iff.1 hos).1)
    rw [Nat.zero_add, hls] at this
    cases this
  | succ fuel ih =>
    intro listed σ a w hsz hls hcl hrun hl hs hq
    refine ⟨fun hr => ?_, fun i hi => ?_⟩
    · have hne : left (ts x0) listed 0 ≠ [] := by intro e; have := hl x0; rw [e] at this; simp at this
      obtain ⟨i, h1, h2, h3⟩ := left_ne hne
      rw [Nat.zero_add] at h2
      have hi : i < ops.size := by have := hlen x0; omega
      have hm : i ∈ Region.ready .any ops listed := mem_ready.2 ⟨h2, ops[i], Array.getElem?_eq_getElem hi, fun j hj => by
        have hj' := (hfit x0).down i ops[i] (by simp [hi]) j hj
        have := h3 j hj'
        rw [Nat.zero_add] at this
        rw [← getD_tf (by omega)]; exact this⟩
      rw [hr] at hm
      cases hm
    · obtain ⟨h1, o, ho, h2⟩ := mem_ready.1 hi
      have hi' : i < ops.size := (Array.getElem?_eq_some_iff.1 ho).1
      -- the listed places are closed still
      have hcl' : Closed ops (listed.setIfInBounds i true) := fun i' o' ho' hi2 hli j hj => by
        by_cases he : i' = i
        · subst he
          rw [ho] at ho'
          cases ho'
          have hne : j ≠ i' := fun e => by have := (hfit x0).down i' o (by simpa using ho) j hj; omega
          simp only [Array.getD_eq_getD_getElem?, Array.getElem?_setIfInBounds, if_neg (show ¬ i' = j from fun e => hne e.symm)]
          simpa only [Array.getD_eq_getD_getElem?] using h2 j hj
        · have hli' : listed.getD i' true = true := by
            simpa only [Array.getD_eq_getD_getElem?, Array.getElem?_setIfInBounds, if_neg (show ¬ i = i' from fun e => he e.symm)] using hli
          have hjl := hcl i' o' ho' (by simpa using hi2) hli' j hj
          by_cases hji : i = j
          · subst hji
            simp [Array.getD_eq_getD_getElem?, hsz, hi']
          · simpa only [Array.getD_eq_getD_getElem?, Array.getElem?_setIfInBounds, if_neg hji] using hjl
      -- what stands ahead of it in the text, and is still to come, is apart from it
      have hapx : ∀ (x : ι) (t : Tr) (pre : List Tr), (ts x)[i]? = some t → (∀ s ∈ pre, ∃ j, j < i ∧ (ts x)[j]? = some s ∧ listed.getD (0 + j) true = false) → ∀ s ∈ pre, Apart s t := by
        intro x t pre ht h5 s hsm
        obtain ⟨j, h6, h7, h8⟩ := h5 s hsm
        rw [Nat.zero_add] at h8
        rcases (hfit x).apart i j s t h6 h7 ht with h9 | h9
        · exfalso
          have hanc2 : ∀ m, m ∈ edges o → Anc ops.toList j m → False := fun m hm hma => by
            have hml : listed.getD m false = true := h2 m hm
            have hms := (hfit x).down i o (by simpa using ho) m hm
            have := hcl.anc hsz hma (by rw [getD_tf (by omega)]; exact hml) (by omega)
            rw [← getD_tf (by omega)] at this
            rw [h8] at this; cases this
          cases h9 with
          | one ho' h =>
            rw [show ops.toList[i]? = some o by simpa using ho] at ho'
            cases ho'
            have := h2 j h
            rw [← getD_tf (by omega)] at this
            rw [h8] at this; cases this
          | step ho' h hm =>
            rw [show ops.toList[i]? = some o by simpa using ho] at ho'
            cases ho'
            exact hanc2 _ h hm
        · exact h9
      by_cases his : i = s0
      · -- the special one
        subst his
        rw [hos] at ho
        cases ho
        unfold wpOp
        rw [hos]
        have hrs0 : App σ rs := by
          obtain ⟨t, ht, htr⟩ := hrs x0
          obtain ⟨pre, post, h3, h4, h5⟩ := left_split (k := 0) ht (by rw [Nat.zero_add]; exact h1) (by omega)
          have hr0 := hrun x0
          rw [h3] at hr0
          have := (Run.front (hapx x0 t pre ht h5) hr0).1.1
          rwa [htr] at this
        have hstep := hsp σ a w (wpAny cx.P .any ops Q fuel (listed.setIfInBounds i true)) Q hs hrs0 fun x t a' w' ht hs' => by
          obtain ⟨pre, post, h3, h4, h5⟩ := left_split (k := 0) ht (by rw [Nat.zero_add]; exact h1) (by omega)
          rw [Nat.zero_add] at h4
          have hr0 := hrun x
          have hl0 := hl x
          rw [h3] at hr0 hl0
          obtain ⟨h6, h7⟩ := Run.front (hapx x t pre ht h5) hr0
          refine wpAny_but (s0 := i) (hA x) (hlen x) (hfit x) fuel _ _ a' w' (by simp [hsz]) (by simp [Array.getD_eq_getD_getElem?, hsz, hi']) hcl' (by rw [h4]; exact h6.2) (by rw [h4]; simp at hl0 ⊢; omega) hs' fun a2 w2 hs2 => hq x a2 w2 ?_
          rw [h4] at hs2
          rw [h3]
          exact hs2.eqv h7.symm
        dsimp only
        rw [if_pos (by simp [Region.wanted, hgs])]
        exact .inl hstep
      · -- one ahead of it
        have hlt : i < s0 := by
          rcases Nat.lt_or_ge i s0 with h | h
          · exact h
          · exfalso
            have ha := hanc i (by omega) hi'
            cases ha with
            | one ho' h =>
              rw [show ops.toList[i]? = some o by simpa using ho] at ho'
              cases ho'
              have := h2 s0 h
              have hs0 : s0 < ops.size := (Array.getElem?_eq_some_iff.1 hos).1
              rw [← getD_tf (by omega), hls] at this; cases this
            | @step _ _ m _ ho' h hm =>
              rw [show ops.toList[i]? = some o by simpa using ho] at ho'
              cases ho'
              have hml : listed.getD m false = true := h2 m h
              have hms := (hfit x0).down i o (by simpa using ho) m h
              have := hcl.anc hsz hm (by rw [getD_tf (by omega)]; exact hml) (by omega)
              have hs0 : s0 < ops.size := (Array.getElem?_eq_some_iff.1 hos).1
              rw [← getD_tf (by omega), hls] at this; cases this
        obtain ⟨t, ht, htr⟩ := hA x0 i o ho his
        have htx : ∀ x, (ts x)[i]? = some t := fun x => (hpre x i hlt).trans ht
        have hspl : ∀ x, App σ t.rd ∧ Run (left (ts x) (listed.setIfInBounds i true) 0) (t.wr ++ σ) ∧ (left (ts x) (listed.setIfInBounds i true) 0).length = fuel ∧
            Eqv (fin (left (ts x) listed 0) σ) (fin (left (ts x) (listed.setIfInBounds i true) 0) (t.wr ++ σ)) := by
          intro x
          obtain ⟨pre, post, h3, h4, h5⟩ := left_split (k := 0) (htx x) (by rw [Nat.zero_add]; exact h1) (by omega)
          rw [Nat.zero_add] at h4
          have hr0 := hrun x
          have hl0 := hl x
          rw [h3] at hr0 hl0
          obtain ⟨h6, h7⟩ := Run.front (hapx x t pre (htx x) h5) hr0
          rw [h3, h4]
          exact ⟨h6.1, h6.2, by simp at hl0 ⊢; omega, h7⟩
        unfold wpOp
        rw [ho]
        have hstep := htr σ a w (wpAny cx.P .any ops Q fuel (listed.setIfInBounds i true)) Q hs (hspl x0).1 fun a' w' hs' =>
          ih _ _ a' w' (by simp [hsz]) (by simpa only [Array.getD_eq_getD_getElem?, Array.getElem?_setIfInBounds, if_neg his] using hls) hcl' (fun x => (hspl x).2.1) (fun x => (hspl x).2.2.1) hs' fun x a2 w2 hs2 => hq x a2 w2 (hs2.eqv (hspl x).2.2.2.symm)
        dsimp only
        split
        · rename_i hw; rw [if_pos hw] at hstep; exact .inl hstep
        · rename_i hw; rw [if_neg hw] at hstep; exact hstep

end Go.AX

/-! AxFam2 -/
/-
  The same, for a walk.
-/
namespace Go.AX
open Go.RowKit

variable {cx : Cx} {σ σ' : St} {a a' : Act} {w w' : World} {ops : Array Oper} {Q : Exit → St → Prop}
variable {ty : TypeId} {pos : String} {af : Array Edge} {gd : Option (Nat × Bool)} {d nx : Nat} {g : Nat → Value}

theorem Run.append : ∀ {t1 t2 : List Tr} {σ : St}, Run t1 σ → Run t2 (fin t1 σ) → Run (t1 ++ t2) σ ∧ fin (t1 ++ t2) σ = fin t2 (fin t1 σ)
  | [], t2, σ, _, h => ⟨h, rfl⟩
  | t :: t1, t2, σ, h1, h2 => by
    obtain ⟨h3, h4⟩ := Run.append h1.2 h2
    exact ⟨⟨h1.1, h3⟩, h4⟩

/-- All that stand behind the place in the text wait for it. -/
def ancB (s0 : Nat) : Nat → List Oper → Bool
  | _, [] => true
  | i, o :: l => (Nat.ble i s0 || (edges o).any fun j => Nat.ble s0 j && Nat.blt j i) && ancB s0 (i + 1) l
theorem ancB_at {s0 : Nat} : ∀ {l : List Oper} {k i : Nat} {o : Oper}, ancB s0 k l = true → l[i]? = some o → s0 < k + i → ∃ j ∈ edges o, s0 ≤ j ∧ j < k + i
  | [], k, i, o, _, h, _ => by simp at h
  | o' :: l, k, i, o, h, ho, hs => by
    simp only [ancB, Bool.and_eq_true, Bool.or_eq_true] at h
    cases i with
    | zero =>
      obtain rfl : o' = o := by simpa using ho
      rcases h.1 with h1 | h1
      · have := Nat.le_of_ble_eq_true h1; omega
      · obtain ⟨j, hj, hb⟩ := List.any_eq_true.1 h1
        simp only [Bool.and_eq_true] at hb
        exact ⟨j, hj, Nat.le_of_ble_eq_true hb.1, by have := hb.2; simp [Nat.blt_eq] at this; omega⟩
    | succ i =>
      obtain ⟨j, h1, h2, h3⟩ := ancB_at (k := k + 1) (i := i) h.2 (by simpa using ho) (by omega)
      exact ⟨j, h1, h2, by omega⟩
theorem anc_of {s0 : Nat} {l : List Oper} (h : ancB s0 0 l = true) : ∀ (n i : Nat), i < n → s0 < i → i < l.length → Anc l s0 i
  | 0, i, hn, _, _ => by omega
  | n + 1, i, hn, hs, hl => by
    obtain ⟨j, h1, h2, h3⟩ := ancB_at (k := 0) (i := i) h (List.getElem?_eq_getElem hl) (by omega)
    rcases Nat.lt_or_ge s0 j with h4 | h4
    · exact .step (List.getElem?_eq_getElem hl) h1 (anc_of h n j (by omega) h4 (by omega))
    · obtain rfl : j = s0 := by omega
      exact .one (List.getElem?_eq_getElem hl) h1

theorem CW.drawF {ι : Type} (x0 : ι) {id : Nat} {l l1 l2 : List Oper} {os : Oper} {tS : ι → Tr} {rs : List (Key × Val)} (hl : l = l1 ++ os :: l2) (hgs : os.guard = none) (hrs : ∀ x, (tS x).rd = rs)
    (hsp : ∀ (σ : St) (a : Act) (w : World) (K : Act → World → Prop) (Q : Exit → Act → World → Prop), Sim cx σ a w → App σ rs → (∀ x a' w', Sim cx ((tS x).wr ++ σ) a' w' → K a' w') → os.wp cx.P a w K Q)
    (hanc : ancB l1.length 0 l = true)
    (h : RW cx l.toArray (fun ts1 σ1 => App σ1 rs ∧ ∀ x, RW cx l.toArray (fun ts2 σ2 => chk [] [] l (ts1 ++ tS x :: ts2) = true ∧ Q .normal σ2) [] l2 ((tS x).wr ++ σ1)) [] l1 σ) : CW cx (.region id l.toArray true) Q σ := by
  obtain ⟨ts1, σ1, h1, h2, h3⟩ := h
  rw [List.nil_append] at h3
  obtain ⟨F, hF⟩ : ∃ F : ι → List Tr × St, ∀ x, Steps' cx l.toArray l2 ((tS x).wr ++ σ1) (F x).1 (F x).2 ∧ chk [] [] l (ts1 ++ tS x :: (F x).1) = true ∧ Q .normal (F x).2 := by
    refine ⟨fun x => (Classical.choose (h3 x), Classical.choose (Classical.choose_spec (h3 x))), fun x => ?_⟩
    have := Classical.choose_spec (Classical.choose_spec (h3 x))
    exact ⟨this.1, by simpa using this.2.1, this.2.2⟩
  have hlenA : ∀ {ops : Array Oper} {l : List Oper} {ts : List Tr}, All2 cx ops l ts → ts.length = l.length := by
    intro ops l
    induction l with
    | nil => intro ts h; cases ts with
      | nil => rfl
      | cons t ts => exact h.elim
    | cons o l ih => intro ts h; cases ts with
      | nil => exact h.elim
      | cons t ts => simp [ih h.2]
  have hA1 := h1.trs
  have hl1 := hlenA hA1
  have hl2 : ∀ x, (F x).1.length = l2.length := fun x => hlenA (hF x).1.trs
  have hleft : ∀ (ts : List Tr) (n k : Nat), k + ts.length ≤ n → left ts (Array.replicate n false) k = ts := by
    intro ts
    induction ts with
    | nil => intro n k _; rfl
    | cons t ts ih =>
      intro n k hk
      simp at hk
      have h0 : (Array.replicate n false).getD k true = false := by simp [Array.getD, show k < n by omega]
      simp only [left, h0]
      rw [if_neg (by simp), ih n (k + 1) (by omega)]
  have hsz : l.toArray.size = l1.length + (l2.length + 1) := by subst hl; simp
  have hl0 : ∀ x, left (ts1 ++ tS x :: (F x).1) (Array.replicate l.toArray.size false) 0 = ts1 ++ tS x :: (F x).1 := fun x => hleft _ _ _ (by have := hl2 x; rw [hsz]; simp; omega)
  have hrun : ∀ x, Run (ts1 ++ tS x :: (F x).1) σ ∧ fin (ts1 ++ tS x :: (F x).1) σ = (F x).2 := fun x => by
    obtain ⟨r1, r2⟩ := h1.run
    obtain ⟨r3, r4⟩ := (hF x).1.run
    obtain ⟨r5, r6⟩ := Run.append (t2 := tS x :: (F x).1) r1 (by rw [r2]; exact ⟨by rw [hrs]; exact h2, r3⟩)
    exact ⟨r5, by rw [r6, r2]; exact r4⟩
  intro a w hs
  refine wp_region_any cx.mixed (wpAny_fam (ts := fun x => ts1 ++ tS x :: (F x).1) (s0 := l1.length) (os := os) (rs := rs) x0 (fun x i o ho hne => ?_) (fun x i hi => ?_) (fun x => by have := hl2 x; rw [hsz]; simp; omega) (fun x => fit_of_chk (hF x).2.1) (by subst hl; simp) hgs (fun x => ⟨tS x, by simp [← hl1], hrs x⟩)
    (fun σ a w K Q hs ha hK => hsp σ a w K Q hs ha fun x a' w' hs' => hK x (tS x) a' w' (by simp [← hl1]) hs') (fun i hi hil => anc_of hanc (i + 1) i (by omega) hi (by simpa using hil)) l.toArray.size _ σ a _ (by simp) ?_ (fun i o _ hi hli => ?_) (fun x => by rw [hl0]; exact (hrun x).1) (fun x => by rw [hl0]; have := hl2 x; rw [hsz]; simp; omega) hs.drawn fun x a' w' hs' => ⟨(F x).2, by rw [hl0, (hrun x).2] at hs'; exact hs', (hF x).2.2⟩)
  · have ho' : l[i]? = some o := by simpa using ho
    rw [hl] at ho'
    rcases Nat.lt_or_ge i l1.length with hi | hi
    · rw [List.getElem?_append_left hi] at ho'
      obtain ⟨t, h4, h5⟩ := hA1.at ho'
      exact ⟨t, by rw [List.getElem?_append_left (by omega)]; exact h4, h5⟩
    · rw [List.getElem?_append_right hi] at ho'
      obtain ⟨j, rfl⟩ : ∃ j, i = l1.length + (j + 1) := ⟨i - l1.length - 1, by omega⟩
      rw [show l1.length + (j + 1) - l1.length = j + 1 by omega, List.getElem?_cons_succ] at ho'
      obtain ⟨t, h4, h5⟩ := (hF x).1.trs.at ho'
      exact ⟨t, by rw [List.getElem?_append_right (by omega), hl1, show l1.length + (j + 1) - l1.length = j + 1 by omega, List.getElem?_cons_succ]; exact h4, h5⟩
  · show (ts1 ++ tS x :: (F x).1)[i]? = (ts1 ++ tS x0 :: (F x0).1)[i]?
    rw [List.getElem?_append_left (by omega), List.getElem?_append_left (by omega)]
  · simp [Array.getD, hsz]
  · have h9 : i < l.length := by simpa using hi
    simp [Array.getD] at hli
    omega

/-- A call whose result is new, and whose handle is known at once. -/
theorem fam_newpin {f : FuncId} {xs : List Operand} {avs : List AV} {ys : List Arg} {l : List (Key × Val)} {e k : Nat} {rows : List (List D)} {ats : Array TypeId} (hd : Nat.blt d cx.n = true) (hc : FnNew cx.P f ys e k rows) (hsub : Subs xs avs ys l)
    (σ : St) (a : Act) (w : World) (K : Act → World → Prop) (Q : Exit → Act → World → Prop) (hs : Sim cx σ a w) (hr : App σ (l ++ [(.nx, .num nx)]))
    (hK : ∀ (x : Option Addr × Nat × Nat) a' w', Sim cx ([(.s d, .av (.d (.v (.slice x.1 x.2.1 x.2.2)))), (.o nx, .ob (.pin e k rows (.slice x.1 x.2.1 x.2.2))), (.nx, .num (nx + 1))] ++ σ) a' w' → K a' w') :
    Oper.wp cx.P ⟨some d, .call { callee := .value (.func f), args := ⟨xs⟩, argTypes := ats }, ty, pos, af, gd⟩ a w K Q := by
  obtain ⟨g, n', hs⟩ := hs
  have hnx : n' = nx := by
    have h2 := hr.right.1
    rw [hs.hnx] at h2
    simpa using h2
  subst hnx
  have hcall := hc.calls w (cx.own g σ) (xs.map a.eval) (fun b hb => own_lt hs hb) (hsub.ok hs hr.left)
  unfold Oper.wp
  rw [call_run hc.run]
  refine hcall.mono fun r w' he => ?_
  obtain ⟨v, rfl, hb, hres⟩ := he
  have hG := SimG.join hs hb hres (.inr rfl)
  have hsl : ∃ p n c, v = .slice p n c := by
    obtain ⟨xs, h1, _⟩ := hres
    rcases h1.2 with ⟨h, _⟩ | ⟨g, cap, cur, h, _⟩
    · exact ⟨_, _, _, h⟩
    · exact ⟨_, _, _, h⟩
  obtain ⟨p, n, c, rfl⟩ := hsl
  exact hK (p, n, c) _ _ (Sim.put hG (lt_of_blt hd) (Below.refl _ _) (av := .d (.v (.slice p n c))) (Rd.v _) trivial)

theorem own2_ret {t e k e2 k2 id n id2 : Nat} {rowsF : Value → List (List D)} {rows2 : List (List D)} {x : Value} (h1 : get σ (.s t) = .av (.own id n)) (h2 : get σ (.o id) = .ob (.arr e k (rowsF x))) (h3 : n = (rowsF x).length)
    (h4 : get σ (.o id2) = .ob (.pin e2 k2 rows2 x)) : own2Q t e k rowsF e2 k2 rows2 .ret σ := ⟨id, n, id2, x, h1, h2, h3, h4⟩

end Go.AX

/-! AxPin4 -/
/-
  Stutters between a region's operations; facts out of a state; a slice whose handle is known, read and written in place.
-/
namespace Go.AX
open Go.RowKit

variable {cx : Cx} {g : Nat → Value} {σ σ' : St} {a : Act} {w w' : World} {nx : Nat} {c : Code} {Q : Exit → St → Prop}
variable {ty : TypeId} {pos : String} {af : Array Edge} {gd : Option (Nat × Bool)} {d : Nat}
variable {ops : Array Oper} {rest : List Oper} {o : Oper}

theorem SW.s1 {rd wr : List (Key × Val)} (ha : autA cx σ o = some ⟨rd, wr⟩) (h : SW cx ops Q rest (wr ++ σ)) : SW cx ops Q (o :: rest) σ := by
  obtain ⟨dst, op, ty, pos, af, gd⟩ := o
  cases gd with
  | some p => cases ha
  | none =>
    simp only [autA] at ha
    split at ha
    · next hd => 
      obtain ⟨h1, h2⟩ := trA_ok (cx := cx) (ty := ty) (pos := pos) (af := af) (gd := none) hd ha
      exact SW.step rfl ⟨h1, h2⟩ h
    · cases ha
theorem SW.s5 {rd wr : List (Key × Val)} (ho : OA cx σ o ⟨rd, wr⟩) (hg : o.guard = none) (h : SW cx ops Q rest (wr ++ σ)) : SW cx ops Q (o :: rest) σ := SW.step hg ho h
theorem SW.nil (h : Q .normal σ) : SW cx ops Q [] σ := fun a w hs => wpList_nil ⟨σ, hs, h⟩
theorem SW.stut {t : Tr} {l : List Oper} (hs : Stut cx t) (ha : App σ t.rd) (h : SW cx ops Q l (t.wr ++ σ)) : SW cx ops Q l σ := fun a w hsim => h a w (hs σ a w hsim ha)
theorem CW.fact {p : Prop} (hf : ∀ a w, Sim cx σ a w → p) (h : p → CW cx c Q σ) : CW cx c Q σ := fun a w hs => h (hf a w hs) a w hs
theorem SW.fact {p : Prop} {l : List Oper} (hf : ∀ a w, Sim cx σ a w → p) (h : p → SW cx ops Q l σ) : SW cx ops Q l σ := fun a w hs => h (hf a w hs) a w hs
/-- The handle of a slice that has elements. -/
theorem pin_shape {id e k : Nat} {rows : List (List D)} {x : Value} (ho : get σ (.o id) = .ob (.pin e k rows x)) (h0 : rows ≠ []) (a : Act) (w : World) (hs : Sim cx σ a w) : ∃ b cp, x = .slice (some ⟨b, 0, none⟩) rows.length cp := by
  obtain ⟨g, nx, hs⟩ := hs
  obtain ⟨_, ⟨hgx, xs, h1, _⟩, _⟩ := hs.objs id _ ho
  rcases h1.2 with ⟨_, hn⟩ | ⟨b, cap, cur, hv, _⟩
  · exact absurd (List.eq_nil_of_length_eq_zero hn) h0
  · exact ⟨b, cap, by rw [← hgx]; exact hv⟩
theorem pin_slice {id e k : Nat} {rows : List (List D)} {x : Value} (ho : get σ (.o id) = .ob (.pin e k rows x)) (a : Act) (w : World) (hs : Sim cx σ a w) : ∃ p cp, x = .slice p rows.length cp := by
  obtain ⟨g, nx, hs⟩ := hs
  obtain ⟨_, ⟨hgx, xs, h1, _⟩, _⟩ := hs.objs id _ ho
  rcases h1.2 with ⟨hv, hn⟩ | ⟨b, cap, cur, hv, _⟩
  · exact ⟨none, 0, by rw [← hgx, hv, hn]⟩
  · exact ⟨_, cap, by rw [← hgx]; exact hv⟩
/-- A slice value whose handle is known: an element's address; a field's. -/
theorem ok_iav {t : TypeId} {x y : Operand} {b n cp k i : Nat} {kd : IntKind} {ti : TI} (hd : d < cx.n) (hx : EvS x (.d (.v (.slice (some ⟨b, 0, none⟩) n cp)))) (hy : EvS y (.d (.v (.int kd (i : Int))))) (ht : tget cx.T t = some ti) (hk : slK ti = some k) (hi : i < n) :
    OpOk cx ⟨some d, .indexAddr t x y, ty, pos, af, gd⟩ ⟨rdOf x (.d (.v (.slice (some ⟨b, 0, none⟩) n cp))) ++ rdOf y (.d (.v (.int kd (i : Int)))), [(.s d, .av (.d (.v (.pointer (some ⟨b, i * k, none⟩)))))]⟩ := by
  refine ok_val rfl hd fun σ a w g nx hs hr => ?_
  obtain ⟨_, ie, hu, hie, hks, _⟩ := slice_of (cx.hT t ti ht) hk
  have hv := rep_v (hs.ev hx hr.left).1
  have hy' := rep_v (hs.ev hy hr.right).1
  refine ⟨.pointer (some ⟨b, i * k, none⟩), w, ?_, Below.refl _ _, Rd.v _, trivial⟩
  have : (⟨b, 0, none⟩ : Addr).add (i * k) = ⟨b, i * k, none⟩ := by rw [add_lit, Nat.zero_add]
  simp [execOp, hy', hv, Instr.indexAt, asIntOf, run_underlying hu, sizeOf, typeInfo, hie, hks, this]
  omega
theorem ok_fav {t : TypeId} {x : Operand} {b q : Nat} {ti : TI} {fl off : Nat} (hd : d < cx.n) (hx : EvS x (.d (.v (.pointer (some ⟨b, q, none⟩))))) (ht : tget cx.T t = some ti) (hf : fldOff ti fl = some off) :
    OpOk cx ⟨some d, .fieldAddr t x fl, ty, pos, af, gd⟩ ⟨rdOf x (.d (.v (.pointer (some ⟨b, q, none⟩)))), [(.s d, .av (.d (.v (.pointer (some ⟨b, q + off, none⟩)))))]⟩ := by
  refine ok_val rfl hd fun σ a w g nx hs hr => ?_
  have hv := rep_v (hs.ev hx hr).1
  refine ⟨.pointer (some ⟨b, q + off, none⟩), w, ?_, Below.refl _ _, Rd.v _, trivial⟩
  have h2 := fieldAt_of (cx.hT t ti ht) hf ⟨b, q, none⟩ w
  rw [add_lit] at h2
  simp [execOp, hv, h2]

/-- An element's cells are read. -/
theorem ok_load_pin {t : TypeId} {x : Operand} {id n i f e k b cp q : Nat} {rows : List (List D)} {r : List D} {ti : TI} {y : D} (hd : d < cx.n) (hx : EvS x (.d (.v (.pointer (some ⟨b, q, none⟩))))) (ht : tget cx.T t = some ti) (hq : q = i * k + f) (hr : rows[i]? = some r)
    (hl : ldD ti (r.drop f) = some y) :
    OpOk cx ⟨some d, .load t x, ty, pos, af, gd⟩ ⟨rdOf x (.d (.v (.pointer (some ⟨b, q, none⟩)))) ++ [(.o id, .ob (.pin e k rows (.slice (some ⟨b, 0, none⟩) n cp)))], [(.s d, .av (.d y))]⟩ := by
  refine ok_val rfl hd fun σ a w g nx hs hrd => ?_
  have ho : get σ (.o id) = .ob (.pin e k rows (.slice (some ⟨b, 0, none⟩) n cp)) := hrd.right.1
  subst hq
  have hv := rep_v (hs.ev hx hrd.left).1
  obtain ⟨_, ⟨hgx, xs, h1, h2, h3, h4⟩, _⟩ := hs.objs id _ ho
  have hb : blk (g id) = some b := by rw [hgx]; rfl
  have hil := (List.getElem?_eq_some_iff.1 hr).1
  have hrk := h3 r (List.mem_of_getElem? hr)
  have hc : RdCells w (cx.own g σ) ⟨b, i * k + f, none⟩ (r.drop f) := by
    intro j z hz
    rw [List.getElem?_drop] at hz
    have hj : f + j < k := by rw [← hrk]; exact (List.getElem?_eq_some_iff.1 hz).1
    have hlen : i * k + (f + j) < xs.length := by
      rw [h1.1]
      have h5 : (i + 1) * k ≤ rows.length * k := Nat.mul_le_mul_right _ hil
      rw [Nat.add_mul, Nat.one_mul] at h5
      omega
    refine ⟨xs[i * k + (f + j)], ?_, h2 _ (List.getElem_mem _), h4 i (f + j) r z _ hr hz (List.getElem?_eq_getElem hlen)⟩
    rw [add_lit, show i * k + f + j = i * k + (f + j) by omega]
    have := h1.cells (g := b) (by rw [← blk_own h1]; exact hb) (i * k + (f + j)) _ (List.getElem?_eq_getElem hlen)
    rw [add_lit, Nat.zero_add] at this
    exact this
  obtain ⟨v, h5, h6⟩ := run_load_cells (cx.hT t ti ht) hc hl
  have h5' : (loadVar t ⟨b, i * k + f, none⟩).run cx.P w = .ok v w := by simpa [Instr.loadAt, Instr.sureAddr] using h5
  exact ⟨v, w, by simp [execOp, hv, Instr.loadAt, Instr.sureAddr, h5'], Below.refl _ _, h6, trivial⟩

/-- An element's cells are written. -/
theorem ok_store_pin {t : TypeId} {x y : Operand} {id n i f e k b cp q : Nat} {rows : List (List D)} {r new : List D} {av : AV} {ti : TI} (hx : EvS x (.d (.v (.pointer (some ⟨b, q, none⟩))))) (hy : EvS y av) (ht : tget cx.T t = some ti) (hc : dcells av = some new)
    (hq : q = i * k + f) (hr : rows[i]? = some r) (hnn : Nat.beq new.length ti.n = true) (hle : f + new.length ≤ r.length) :
    OpOk cx ⟨none, .store t x y, ty, pos, af, gd⟩ ⟨rdOf x (.d (.v (.pointer (some ⟨b, q, none⟩)))) ++ (rdOf y av ++ [(.o id, .ob (.pin e k rows (.slice (some ⟨b, 0, none⟩) n cp)))]), [(.o id, .ob (.pin e k (rows.set i (splice r f new)) (.slice (some ⟨b, 0, none⟩) n cp)))]⟩ := by
  rintro σ a w K Q ⟨g, nx, hs⟩ hrd hK
  have ho : get σ (.o id) = .ob (.pin e k rows (.slice (some ⟨b, 0, none⟩) n cp)) := hrd.right.right.1
  subst hq
  have hv := rep_v (hs.ev hx hrd.left).1
  obtain ⟨hav, hbd⟩ := hs.ev hy hrd.right.left
  obtain ⟨hidn, ⟨hgx, xs, h1, h2, h3, h4⟩, _⟩ := hs.objs id _ ho
  have hb : blk (g id) = some b := by rw [hgx]; rfl
  obtain ⟨c1, c2, c3⟩ := dcells_ok hs hav hc
  have hF := cx.hT t ti ht
  have hnn' : new.length = ti.n := by simpa using hnn
  have hil := (List.getElem?_eq_some_iff.1 hr).1
  have hrk := h3 r (List.mem_of_getElem? hr)
  have h5 : (i + 1) * k ≤ rows.length * k := Nat.mul_le_mul_right _ hil
  rw [Nat.add_mul, Nat.one_mul] at h5
  rcases h1.2 with ⟨_, h6⟩ | ⟨b', cap, cur, hv', hge, hh, hle', hcm, hsz, htk⟩
  · omega
  have hbb : b' = b := by rw [hv'] at hb; simpa [blk] using hb
  subst hbb
  generalize hX : a.eval y = X at hav c1 c2 c3
  have hlen : X.cells.toList.length = new.length := c1
  have hcap : rows.length * k ≤ cap * k := Nat.mul_le_mul_right _ hle'
  have hst := run_storeCells_at (P := cx.P) b' (i * k + f) e X.cells.toList 0 cur w hh (by rw [hlen]; omega) c2
  simp only [Nat.add_zero] at hst
  have hX' : X.cells.size = ti.n := by rw [← hnn', ← hlen]; simp
  have hrun : (Instr.storeAt t (.pointer (some ⟨b', i * k + f, none⟩)) X).run cx.P w = .ok () (w.setRow b' (splice cur.toList (i * k + f) X.cells.toList).toArray) := by
    simp [Instr.storeAt, Instr.sureAddr, storeVar, sizeOf_of hF w, hX', hst, splice]
  generalize hcs' : (splice cur.toList (i * k + f) X.cells.toList).toArray = cs' at hrun
  have hheap : (w.setRow b' cs').heap[b']? = some (.cells cs' e (0, 0)) := setRow_heap w b' cur cs' e (0, 0) hh
  have hle2 : i * k + f + X.cells.toList.length ≤ cur.toList.length := by rw [hlen]; simp; omega
  have hrows : (rows.set i (splice r f new)).length = rows.length := by simp
  have hOS : ObjStep cx σ g nx nx w (w.setRow b' cs') id (.pin e k (rows.set i (splice r f new)) (.slice (some ⟨b', 0, none⟩) n cp)) (g id) := by
    refine ⟨.inr ⟨rfl, .pin e k rows (.slice (some ⟨b', 0, none⟩) n cp), ho, trivial⟩, ⟨rfl, rfl, rfl, by simp, fun k hk => setRow_other w b' k cs' (by omega)⟩, fun b hb hne => setRow_other w b' b cs' (fun e => hne _ ho (by rw [hv', e]; rfl)), fun b hb => .inl ⟨_, ho, hb⟩⟩
  have hxs' : cs'.toList.take (rows.length * k) = splice xs (i * k + f) X.cells.toList := by
    subst hcs'
    apply List.ext_getElem?
    intro j
    have hxl : xs.length = rows.length * k := h1.1
    rw [List.getElem?_take]
    show (if j < rows.length * k then (splice cur.toList (i * k + f) X.cells.toList)[j]? else none) = _
    rw [splice_get hle2, splice_get (l := xs) (by rw [hxl, hlen]; omega)]
    by_cases hj : j < rows.length * k
    · rw [if_pos hj]
      split
      · rfl
      · rw [← htk, List.getElem?_take, if_pos hj]
    · rw [if_neg hj, if_neg (by rw [hlen]; omega), List.getElem?_eq_none (by omega)]
  have hG := SimG.obj hs hOS (fun hlat => ?_) trivial
  · unfold Oper.wp
    simp only [execOp, hv, hX, Sem.run_bind, hrun, Result.andThen_ok, Sem.run_pure, Oper.upon, Act.put]
    refine hK _ _ (Sim.eqv ⟨_, _, hG⟩ fun k => ?_)
    cases k with
    | s i => rw [objSt_s]; exact (get_cons_ne (by simp)).symm
    | o i =>
      by_cases hi : i = id
      · subst hi; rw [get_cons_same]; exact get_cons_same.symm
      · rw [objSt_o hi]; exact (get_cons_ne (by simpa using fun e => hi e.symm)).symm
    | nx => rw [objSt_nx]; exact hs.hnx.symm.trans (get_cons_ne (by simp)).symm
  · have hsl : (splice xs (i * k + f) X.cells.toList).length = xs.length := splice_len (by rw [h1.1, hlen]; omega)
    refine ⟨(upd_same _ _ _).trans hgx, splice xs (i * k + f) X.cells.toList, ⟨by rw [hsl, h1.1, hrows], .inr ⟨b', cap, cs', ?_, hge, hheap, by rw [hrows]; exact hle', hcm, ?_, by rw [hrows]; exact hxs'⟩⟩, fun x hx => ?_, fun r' hr' => ?_, fun i' j r' z x hi' hj hx => ?_⟩
    · rw [upd_same, hv', hrows]
    · subst hcs'; rw [← hsz]; simpa using splice_len hle2
    · obtain ⟨j, hj⟩ := List.getElem?_of_mem hx
      rw [splice_get (by rw [h1.1, hlen]; omega)] at hj
      split at hj
      · exact c2 x (List.mem_of_getElem? hj)
      · exact h2 x (List.mem_of_getElem? hj)
    · rcases List.mem_or_eq_of_mem_set hr' with h | h
      · exact h3 r' h
      · subst h; rw [splice_len hle, hrk]
    · have hjk : j < k := by
        have hm : r' ∈ rows.set i (splice r f new) := List.mem_of_getElem? hi'
        have : r'.length = k := by
          rcases List.mem_or_eq_of_mem_set hm with h | h
          · exact h3 r' h
          · subst h; rw [splice_len hle, hrk]
        rw [← this]; exact (List.getElem?_eq_some_iff.1 hj).1
      rw [splice_get (by rw [h1.1, hlen]; omega)] at hx
      by_cases hii : i = i'
      · subst hii
        rw [List.getElem?_set_self hil] at hi'
        cases hi'
        rw [splice_get hle] at hj
        by_cases hin : f ≤ j ∧ j < f + new.length
        · rw [if_pos hin] at hj
          rw [if_pos (by rw [hlen]; omega), show i * k + j - (i * k + f) = j - f by omega] at hx
          exact (c3 (j - f) x z hj hx).step hlat.ext hlat.own
        · rw [if_neg hin] at hj
          rw [if_neg (by rw [hlen]; omega)] at hx
          exact (h4 i j r z x hr hj hx).step hlat.ext hlat.own
      · rw [List.getElem?_set_ne hii] at hi'
        have hout : ¬ (i * k + f ≤ i' * k + j ∧ i' * k + j < i * k + f + X.cells.toList.length) := by
          rw [hlen]
          rcases Nat.lt_or_ge i' i with hlt | hge
          · have := Nat.mul_le_mul_right k hlt
            rw [Nat.succ_mul] at this
            omega
          · have := Nat.mul_le_mul_right k (show i + 1 ≤ i' by omega)
            rw [Nat.add_mul, Nat.one_mul] at this
            omega
        rw [if_neg hout] at hx
        exact (h4 i' j r' z x hi' hj hx).step hlat.ext hlat.own


theorem a_iav {t : TypeId} {x y : Operand} {b n cp k i : Nat} {kd : IntKind} {ti : TI} (hx : ev σ x = some (.d (.v (.slice (some ⟨b, 0, none⟩) n cp)))) (hy : ev σ y = some (.d (.v (.int kd (i : Int))))) (ht : tget cx.T t = some ti) (hk : slK ti = some k) (hd : Nat.blt d cx.n = true) (hi : i < n) :
    OA cx σ ⟨some d, .indexAddr t x y, ty, pos, af, gd⟩ ⟨rdOf x (.d (.v (.slice (some ⟨b, 0, none⟩) n cp))) ++ rdOf y (.d (.v (.int kd (i : Int)))), [(.s d, .av (.d (.v (.pointer (some ⟨b, i * k, none⟩)))))]⟩ :=
  ⟨ok_iav (lt_of_blt hd) (ev_out hx).1 (ev_out hy).1 ht hk hi, (ev_out hx).2.append (ev_out hy).2⟩
theorem a_fav {t : TypeId} {x : Operand} {b q : Nat} {ti : TI} {fl off : Nat} (hx : ev σ x = some (.d (.v (.pointer (some ⟨b, q, none⟩))))) (ht : tget cx.T t = some ti) (hf : fldOff ti fl = some off) (hd : Nat.blt d cx.n = true) :
    OA cx σ ⟨some d, .fieldAddr t x fl, ty, pos, af, gd⟩ ⟨rdOf x (.d (.v (.pointer (some ⟨b, q, none⟩)))), [(.s d, .av (.d (.v (.pointer (some ⟨b, q + off, none⟩)))))]⟩ :=
  ⟨ok_fav (lt_of_blt hd) (ev_out hx).1 ht hf, (ev_out hx).2⟩
theorem a_lpin {t : TypeId} {x : Operand} (id i f : Nat) {n e k b cp q : Nat} {rows : List (List D)} {r : List D} {ti : TI} {y : D} (hx : ev σ x = some (.d (.v (.pointer (some ⟨b, q, none⟩))))) (ho : get σ (.o id) = .ob (.pin e k rows (.slice (some ⟨b, 0, none⟩) n cp))) (ht : tget cx.T t = some ti)
    (hd : Nat.blt d cx.n = true) (hr : rows[i]? = some r) (hl : ldD ti (r.drop f) = some y) (hq : q = i * k + f) :
    OA cx σ ⟨some d, .load t x, ty, pos, af, gd⟩ ⟨rdOf x (.d (.v (.pointer (some ⟨b, q, none⟩)))) ++ [(.o id, .ob (.pin e k rows (.slice (some ⟨b, 0, none⟩) n cp)))], [(.s d, .av (.d y))]⟩ :=
  ⟨ok_load_pin (lt_of_blt hd) (ev_out hx).1 ht hq hr hl, (ev_out hx).2.append ⟨ho, trivial⟩⟩
theorem a_spin {t : TypeId} {x y : Operand} (id i f : Nat) {n e k b cp q : Nat} {rows : List (List D)} {r new : List D} {av : AV} {ti : TI} (hx : ev σ x = some (.d (.v (.pointer (some ⟨b, q, none⟩))))) (ho : get σ (.o id) = .ob (.pin e k rows (.slice (some ⟨b, 0, none⟩) n cp))) (hy : ev σ y = some av) (ht : tget cx.T t = some ti)
    (hc : dcells av = some new) (hnn : Nat.beq new.length ti.n = true) (hr : rows[i]? = some r) (hle : Nat.ble (f + new.length) r.length = true) (hq : q = i * k + f) :
    OA cx σ ⟨none, .store t x y, ty, pos, af, gd⟩ ⟨rdOf x (.d (.v (.pointer (some ⟨b, q, none⟩)))) ++ (rdOf y av ++ [(.o id, .ob (.pin e k rows (.slice (some ⟨b, 0, none⟩) n cp)))]), [(.o id, .ob (.pin e k (rows.set i (splice r f new)) (.slice (some ⟨b, 0, none⟩) n cp)))]⟩ :=
  ⟨ok_store_pin (ev_out hx).1 (ev_out hy).1 ht hc hq hr hnn (by simpa using hle), (ev_out hx).2.append ((ev_out hy).2.append ⟨ho, trivial⟩)⟩

end Go.AX

/-! AxPin5 -/
/-
  A slice's length where its handle is known; a slice of ours within another's element, told as data there.
-/
namespace Go.AX
open Go.RowKit

variable {cx : Cx} {g : Nat → Value} {σ σ' : St} {a : Act} {w w' : World} {nx : Nat} {c : Code} {Q : Exit → St → Prop}
variable {ty : TypeId} {pos : String} {af : Array Edge} {gd : Option (Nat × Bool)} {d : Nat}

theorem ok_lenv {t tt : TypeId} {x : Operand} {p : Option Addr} {n cp k : Nat} {ti : TI} (hd : d < cx.n) (hx : EvS x (.d (.v (.slice p n cp)))) (ht : tget cx.T t = some ti) (hk : slK ti = some k) :
    OpOk cx ⟨some d, .call { callee := .builtin .len, args := #[x], argTypes := #[t] }, tt, pos, af, gd⟩ ⟨rdOf x (.d (.v (.slice p n cp))), [(.s d, .av (.d (.v (.int .i64 n))))]⟩ := by
  refine ok_val rfl hd fun σ a w g nx hs hr => ?_
  obtain ⟨_, ie, hu, _⟩ := slice_of (cx.hT t ti ht) hk
  have hv := rep_v (hs.ev hx hr).1
  exact ⟨.int .i64 n, w, by simp [execOp, resolve, invoke, builtin, hv, Builtin.len_, run_underlying hu, goInt], Below.refl _ _, Rd.v _, trivial⟩
theorem a_lenv {t tt : TypeId} {x : Operand} {p : Option Addr} {n cp k : Nat} {ti : TI} (hx : ev σ x = some (.d (.v (.slice p n cp)))) (ht : tget cx.T t = some ti) (hk : slK ti = some k) (hd : Nat.blt d cx.n = true) :
    OA cx σ ⟨some d, .call { callee := .builtin .len, args := #[x], argTypes := #[t] }, tt, pos, af, gd⟩ ⟨rdOf x (.d (.v (.slice p n cp))), [(.s d, .av (.d (.v (.int .i64 n))))]⟩ :=
  ⟨ok_lenv (lt_of_blt hd) (ev_out hx).1 ht hk, (ev_out hx).2⟩

theorem SimG.drop (hG : SimG cx σ a w g nx) (id : Nat) : SimG cx ((.o id, .none) :: σ) a w g nx := by
  have hl := Less.drop ⟨g, nx, hG⟩ id
  have hlat : Later cx g g σ ((.o id, .none) :: σ) w w nx := by
    refine ⟨Ext.refl _ _, Below.refl _ _, fun b hb => ?_, fun j o' _ h => ⟨o', hl.o _ _ h, ?_⟩⟩
    · rcases hb with hb | ⟨j, o, h5, h6⟩
      · exact .inl (.inl hb)
      · exact .inl (.inr ⟨j, o, hl.o _ _ h5, h6⟩)
    · cases o' <;> simp [ObLe]
  exact hG.next hlat ((get_cons_ne (by simp)).trans hG.hnx) (Nat.le_refl _) hG.size hG.defers (Below.refl _ _) (fun j av hj => .inl ⟨hl.s _ _ hj, rfl⟩) (fun j o hj => .inl ⟨hl.o _ _ hj, rfl, fun _ _ => rfl⟩)
    (fun j j' o o' b h1 h2 => hG.sep j j' o o' b (hl.o _ _ h1) (hl.o _ _ h2))

theorem stut_fold {id id2 i j e k e2 k2 : Nat} {rows rows2 : List (List D)} {r : List D} {x : Value} (hi : rows[i]? = some r) (hj : r[j]? = some (.v x)) :
    Stut cx ⟨[(.o id, .ob (.arr e k rows)), (.o id2, .ob (.pin e2 k2 rows2 x))], [(.o id, .ob (.arr e k (rows.set i (r.set j (.sl k2 rows2))))), (.o id2, .none)]⟩ := by
  rintro σ a w ⟨g, nx, hG⟩ hr
  have ho : get σ (.o id) = .ob (.arr e k rows) := hr.1
  have ho2 : get σ (.o id2) = .ob (.pin e2 k2 rows2 x) := hr.2.1
  have hne : id2 ≠ id := fun he => by subst he; rw [ho2] at ho; cases ho
  obtain ⟨_, ⟨hgx, hp⟩, _⟩ := hG.objs id2 _ ho2
  have hp' : RowsAt w cx.w0.heap.size (cx.own g σ) e2 k2 (g id2) rows2 := hp
  have hG3 := hG.drop id2
  have ho' : get ((.o id2, .none) :: σ) (.o id) = .ob (.arr e k rows) := (get_cons_ne (by simpa using hne)).trans ho
  have hown : ∀ b, cx.own g ((.o id2, .none) :: σ) b → cx.own g σ b ∧ blk (g id2) ≠ some b := by
    rintro b (h | ⟨q, o, h1, h2⟩)
    · refine ⟨.inl h, fun hb => ?_⟩
      have h3 := obj_ge hG ho2 hb
      have h4 := hG.own0 b h
      omega
    · have hq : q ≠ id2 := fun e => by subst e; rw [get_cons_same] at h1; cases h1
      rw [get_cons_ne (by simpa using fun e => hq e.symm)] at h1
      exact ⟨.inr ⟨q, o, h1, h2⟩, fun hb => hq (hG.sep q id2 o _ b h1 ho2 h2 hb)⟩
  have hrd : Rd w (cx.own g ((.o id2, .none) :: σ)) x (.sl k2 rows2) := by rw [← hgx]; exact hp'.rd hown
  have hR := (objRows hG3 ho').at hi hj hrd
  exact ⟨g, nx, hG3.reob ho' (o' := .arr e k (rows.set i (r.set j (.sl k2 rows2)))) ⟨rfl, rfl, by simp, fun _ => rfl⟩ hR trivial⟩

end Go.AX

/-! AxBool -/
/-
  Two truths compared; structs compared that were loaded from a variable of ours.
-/
namespace Go.AX
open Go.RowKit

section
variable {P : Program} {t : TypeId}
theorem bin_bneq {a b : Bool} (h : P.underlying t = some .bool) : BinR P .neq t (.bool a) (.bool b) (.bool (!decide (a = b))) := by
  intro w x y
  rw [Sem.run_bind, eqGuard_at_bool, Sem.run_pure, Result.andThen_ok, run_neq_bool _ _ _ _ h]
  cases a <;> cases b <;> rfl
theorem bin_beql {a b : Bool} (h : P.underlying t = some .bool) : BinR P .eql t (.bool a) (.bool b) (.bool (decide (a = b))) := by
  intro w x y
  simp only [Sem.run_bind, eqGuard_at_bool, Sem.run_pure, Result.andThen_ok, binOp, run_equal_bool _ _ _ _ h]
  cases a <;> cases b <;> rfl
end

variable {cx : Cx} {g : Nat → Value} {σ σ' : St} {a : Act} {w w' : World} {nx : Nat}
variable {ty : TypeId} {pos : String} {af : Array Edge} {gd : Option (Nat × Bool)} {d : Nat}

/-- A struct's cells, all plain. -/
inductive AggV : AV → List Value → Prop
  | d {ds : List D} {us : List Value} (h : ds = us.map D.v) : AggV (.d (.agg ds)) us
  | a {cs : List AV} {us : List Value} (h : cs = us.map fun u => AV.d (.v u)) : AggV (.agg cs) us
theorem rep_aggv {v : Value} {av : AV} {us : List Value} (h : AggV av us) (hr : Rep cx g σ w v av) : v = .agg us.toArray := by
  cases h with
  | d h => subst h; exact rd_agg_v hr
  | a h =>
    subst h
    obtain ⟨cs, rfl, hs, _, hr⟩ := hr
    congr 1
    apply Array.ext_getElem?
    intro j
    have hs' : cs.size = us.length := by simpa using hs
    rcases Nat.lt_or_ge j us.length with hj | hj
    · have h1 := hr j cs[j] (.d (.v us[j])) (by simp [List.getElem?_map, List.getElem?_eq_getElem hj]) (Array.getElem?_eq_getElem (by omega))
      have h2 : cs[j] = us[j] := rd_v h1
      rw [Array.getElem?_eq_getElem (by omega)]
      simp [h2]
    · rw [Array.getElem?_eq_none (by omega)]
      simp [hj]
end Go.AX

/-! AxFnD -/
/-
  Pointers, maps and closures told as data; closures made and called.
-/
namespace Go.AX
open Go.RowKit

variable {cx : Cx} {g : Nat → Value} {σ σ' : St} {a : Act} {w w' : World} {nx : Nat}
variable {ty : TypeId} {pos : String} {af : Array Edge} {gd : Option (Nat × Bool)} {d : Nat}

/-! ### As data -/
/-- A pointer to cells that stay. -/
def refP (ds : List D) (w : World) (own : Nat → Prop) (v : Value) : Prop := ∃ ad : Addr, v = .pointer (some ad) ∧ ¬ own ad.block ∧ ad.block < w.heap.size ∧ RdCells w own ad ds
def refD (ds : List D) : D := .x (refP ds)
/-- A map that stays. -/
def mapP (M : List (List UInt8 × List Value)) (w : World) (own : Nat → Prop) (v : Value) : Prop := ∃ b es clock, v = .map (some b) ∧ ¬ own b ∧ b < w.heap.size ∧ w.heap[b]? = some (.map es clock) ∧ MapIs es M
def mapD (M : List (List UInt8 × List Value)) : D := .x (mapP M)
/-- A function with what it captured. -/
def fnP (f : FuncId) (ds : List D) (w : World) (own : Nat → Prop) (v : Value) : Prop := ∃ cs : Array Value, v = .func (.func f) #[] cs ∧ cs.size = ds.length ∧ ∀ (j : Nat) (x : D) (c : Value), ds[j]? = some x → cs[j]? = some c → Rd w own c x
def fnD (f : FuncId) (ds : List D) : D := .x (fnP f ds)

theorem ref_stable (ds : List D) : Stable (refP ds) := by
  rintro own own' w w' v hx ho ⟨ad, rfl, h1, h2, h3⟩
  refine ⟨ad, rfl, fun h => ?_, Nat.lt_of_lt_of_le h2 hx.size, h3.step hx ho fun j => hx.cell (by rw [add_block]; exact h2) (by rw [add_block]; exact h1)⟩
  rcases ho _ h with h | h
  · exact h1 h
  · omega
theorem map_stable (M : List (List UInt8 × List Value)) : Stable (mapP M) := by
  rintro own own' w w' v hx ho ⟨b, es, clock, rfl, h1, h2, h3, h4⟩
  refine ⟨b, es, clock, rfl, fun h => ?_, Nat.lt_of_lt_of_le h2 hx.size, (hx.block b h2 h1).trans h3, h4⟩
  rcases ho _ h with h | h
  · exact h1 h
  · omega
theorem fn_stable (f : FuncId) (ds : List D) : Stable (fnP f ds) := by
  rintro own own' w w' v hx ho ⟨cs, rfl, h1, h2⟩
  exact ⟨cs, rfl, h1, fun j x c hj hc => (h2 j x c hj hc).step hx ho⟩
theorem rd_x {own : Nat → Prop} {v : Value} {p : World → (Nat → Prop) → Value → Prop} (h : Rd w own v (.x p)) : p w own v := by
  generalize hD : D.x p = D0 at h
  cases h with
  | v => cases hD
  | sl => cases hD
  | agg => cases hD
  | nil => cases hD
  | x p v h1 hst hp => cases hD; exact hp
theorem rd_ref {own : Nat → Prop} {v : Value} {ds : List D} (h : refP ds w own v) : Rd w own v (refD ds) := by
  obtain ⟨ad, rfl, _⟩ := id h
  exact .x _ _ rfl (ref_stable ds) h
theorem rd_map {own : Nat → Prop} {v : Value} {M : List (List UInt8 × List Value)} (h : mapP M w own v) : Rd w own v (mapD M) := by
  obtain ⟨b, es, clock, rfl, _⟩ := id h
  exact .x _ _ rfl (map_stable M) h
theorem rd_fn {own : Nat → Prop} {v : Value} {f : FuncId} {ds : List D} (h : fnP f ds w own v) : Rd w own v (fnD f ds) := by
  obtain ⟨cs, rfl, _⟩ := id h
  exact .x _ _ rfl (fn_stable f ds) h

/-! ### A pointer to cells that stay -/
theorem stut_refpd {i : Nat} {ds : List D} : Stut cx ⟨[(.s i, .av (.d (refD ds)))], [(.s i, .av (.pd ds))]⟩ := by
  rintro σ a w ⟨g, nx, hG⟩ hr
  obtain ⟨ad, h1, h2, h3, h4⟩ := rd_x (hG.slots i _ hr.1).1
  exact Sim.retell hG (av := .pd ds) ⟨ad, h1, .inr h2, h3, h4⟩ trivial
theorem own_drop (hs : SimG cx σ a w g nx) {id : Nat} {o : Ob} (ho : get σ (.o id) = .ob o) {b : Nat} (hb : cx.own g ((.o id, .none) :: σ) b) : cx.own g σ b ∧ blk (g id) ≠ some b := by
  rcases hb with h | ⟨j, o1, h1, h2⟩
  · refine ⟨.inl h, fun hb => ?_⟩
    have h3 := obj_ge hs ho hb
    have h4 := hs.own0 b h
    omega
  · by_cases hj : id = j
    · subst hj; rw [get_cons_same] at h1; cases h1
    · rw [get_cons_ne (by simpa using hj)] at h1
      exact ⟨.inr ⟨j, o1, h1, h2⟩, fun hb => hj (hs.sep id j _ o1 b ho h1 hb h2)⟩
/-- A box of ours that is written no more. -/
theorem stut_freezebox {i id : Nat} {cells : List AV} {ds : List D} (hc : cells = ds.map AV.d) : Stut cx ⟨[(.s i, .av (.ptr id 0)), (.o id, .ob (.box cells))], [(.s i, .av (.d (refD ds))), (.o id, .none)]⟩ := by
  subst hc
  rintro σ a w hs hr
  have hs0 := hs
  obtain ⟨g, nx, hG⟩ := hs0
  have ho : get σ (.o id) = .ob (.box (ds.map AV.d)) := hr.2.1
  obtain ⟨b0, hg0, hv⟩ := (hG.slots i _ hr.1).1.2 _ ho
  obtain ⟨_, ⟨b, cs, t, h0, h1, h2, h3, h4, h5⟩, _⟩ := hG.objs id _ ho
  obtain rfl : b0 = b := by rw [hg0] at h0; simpa using h0
  have hl := Less.drop hs id
  have hlat : Later cx g g σ ((.o id, .none) :: σ) w w nx := by
    refine ⟨Ext.refl _ _, Below.refl _ _, fun b hb => .inl (own_drop hG ho hb).1, fun j o' _ h => ⟨o', hl.o _ _ h, ?_⟩⟩
    cases o' <;> simp [ObLe]
  have hG2 : SimG cx ((.o id, .none) :: σ) a w g nx :=
    hG.next hlat ((get_cons_ne (by simp)).trans hG.hnx) (Nat.le_refl _) hG.size hG.defers (Below.refl _ _) (fun j av hj => .inl ⟨hl.s _ _ hj, rfl⟩) (fun j o hj => .inl ⟨hl.o _ _ hj, rfl, fun _ _ => rfl⟩)
      (fun j j' o o' b h1 h2 => hG.sep j j' o o' b (hl.o _ _ h1) (hl.o _ _ h2))
  have hlt : b0 < w.heap.size := by
    rcases Nat.lt_or_ge b0 w.heap.size with h | h
    · exact h
    · rw [Array.getElem?_eq_none h] at h2; cases h2
  refine Sim.retell hG2 (av := .d (refD ds)) (rd_ref ⟨_, hv, fun h => (own_drop hG ho h).2 (by rw [hg0]; rfl), hlt, fun j z hz => ?_⟩) trivial
  have hjl : j < cs.size := by rw [h3]; simpa using (List.getElem?_eq_some_iff.1 hz).1
  have hcs : cs[j]? = some cs[j] := Array.getElem?_eq_getElem hjl
  refine ⟨cs[j], by rw [add_lit]; simp [World.cell?, h2, hcs], h4 _ _ hcs, ?_⟩
  exact Rd.less (fun b hb => (own_drop hG ho hb).1) (h5 j _ (.d z) (by rw [List.getElem?_map, hz]; rfl) hcs)

/-! ### Closures -/
theorem argsOk_get {own : Nat → Prop} : ∀ {vs : List Value} {ds : List D}, ArgsOk w own vs (ds.map Arg.d) → vs.length = ds.length ∧ ∀ (j : Nat) (x : D) (c : Value), ds[j]? = some x → vs[j]? = some c → Rd w own c x
  | [], [], _ => ⟨rfl, by simp⟩
  | v :: vs, y :: ds, h => by
    obtain ⟨h1, h2⟩ := argsOk_get h.2
    refine ⟨by simp [h1], fun j x c hj hc => ?_⟩
    cases j with
    | zero => simp at hj hc; subst hj; subst hc; exact h.1
    | succ j => exact h2 j x c (by simpa using hj) (by simpa using hc)
  | [], y :: ds, h => h.elim
  | v :: vs, [], h => h.elim
theorem argsOk_append {own : Nat → Prop} : ∀ {vs us : List Value} {xs ys : List Arg}, ArgsOk w own vs xs → ArgsOk w own us ys → ArgsOk w own (vs ++ us) (xs ++ ys)
  | [], us, [], ys, _, h => h
  | v :: vs, us, x :: xs, ys, h, h' => ⟨h.1, argsOk_append h.2 h'⟩
  | [], us, x :: xs, ys, h, _ => h.elim
  | v :: vs, us, [], ys, h, _ => h.elim
theorem a_mkfn {f : FuncId} {xs : List Operand} {avs : List AV} {ds : List D} {l : List (Key × Val)} (hd : Nat.blt d cx.n = true) (hsub : SubsE σ xs avs (ds.map Arg.d) l) :
    OA cx σ ⟨some d, .makeFunc (.func f) #[] ⟨xs⟩, ty, pos, af, gd⟩ ⟨l, [(.s d, .av (.d (fnD f ds)))]⟩ := by
  refine ⟨ok_val rfl (lt_of_blt hd) fun σ1 a w g nx hs hr => ⟨.func (.func f) #[] (xs.map a.eval).toArray, w, ?_, Below.refl _ _, ?_, trivial⟩, hsub.out.2⟩
  · simp [execOp, Instr.makeFunc]
  · obtain ⟨h1, h2⟩ := argsOk_get (hsub.out.1.ok hs hr)
    exact rd_fn ⟨_, rfl, by simpa using h1, fun j x c hj hc => h2 j x c hj (by simpa using hc)⟩

/-- What is captured, as a function's arguments. -/
inductive Caps : List D → List Arg → Prop
  | nil : Caps [] []
  | ref {cs ds : List D} {zs : List Arg} (h : Caps ds zs) : Caps (refD cs :: ds) (.pd cs :: zs)
  | d {x : D} {ds : List D} {zs : List Arg} (h : Caps ds zs) : Caps (x :: ds) (.d x :: zs)
theorem Caps.ok {own : Nat → Prop} {ds : List D} {zs : List Arg} (h : Caps ds zs) : ∀ {vs : List Value}, vs.length = ds.length → (∀ (j : Nat) (x : D) (c : Value), ds[j]? = some x → vs[j]? = some c → Rd w own c x) → ArgsOk w own vs zs := by
  induction h with
  | nil =>
    intro vs hl _
    obtain rfl : vs = [] := List.eq_nil_of_length_eq_zero hl
    trivial
  | @ref cs ds zs h ih =>
    intro vs hl hr
    cases vs with
    | nil => simp at hl
    | cons v vs =>
      obtain ⟨ad, h1, _, h2, h3⟩ := rd_x (hr 0 _ v rfl rfl)
      exact ⟨⟨ad, h1, h2, h3⟩, ih (by simpa using hl) fun j x c hj hc => hr (j + 1) x c (by simpa using hj) (by simpa using hc)⟩
  | @d x ds zs h ih =>
    intro vs hl hr
    cases vs with
    | nil => simp at hl
    | cons v vs => exact ⟨hr 0 _ v rfl rfl, ih (by simpa using hl) fun j x c hj hc => hr (j + 1) x c (by simpa using hj) (by simpa using hc)⟩
theorem callfn_run {P : Program} {f : FuncId} {ys : List Arg} {r : Res} (hc : FnOk P f ys r) {ev : Operand → Value} {z : Operand} {xs : List Operand} {ats : Array TypeId} {dd : Option Nat} {cs : Array Value} (hv : ev z = .func (.func f) #[] cs) :
    (execOp ev ⟨dd, .call { callee := .value z, args := ⟨xs⟩, argTypes := ats }, ty, pos, af, gd⟩).run P w = .ok (.enter f (xs.map ev ++ cs.toList).toArray) w := by
  obtain ⟨fn, h1, h2, h3⟩ := hc.run
  simp only [execOp, resolve, Deferred.ofValue, hv, invoke, callFunc, Sem.run_bind, Sem.run_pure, Result.andThen_ok, run_program, h1, h2, h3, Bool.false_eq_true, if_false]
  simp
/-- A closure that came as data, called. -/
theorem a_callfn {f : FuncId} {z : Operand} {xs : List Operand} {avs : List AV} {ys zs : List Arg} {l : List (Key × Val)} {r : Res} {ats : Array TypeId} {ds : List D} (hc : FnOk cx.P f (ys ++ zs) r) (hcap : Caps ds zs)
    (hz : ev σ z = some (.d (fnD f ds))) (hd : Nat.blt d cx.n = true) (hsub : SubsE σ xs avs ys l) :
    OA cx σ ⟨some d, .call { callee := .value z, args := ⟨xs⟩, argTypes := ats }, ty, pos, af, gd⟩ ⟨rdOf z (.d (fnD f ds)) ++ l, [(.s d, .av r.av)]⟩ := by
  refine ⟨?_, (ev_out hz).2.append hsub.out.2⟩
  rintro σ1 a w K Q ⟨g, nx, hs⟩ hr hK
  obtain ⟨cs, hv, h1, h2⟩ := rd_x (hs.ev (ev_out hz).1 hr.left).1
  have hcall := hc.calls w (cx.own g σ1) (xs.map a.eval ++ cs.toList) (fun b hb => own_lt hs hb) (argsOk_append (hsub.out.1.ok hs hr.right) (hcap.ok (by simpa using h1) fun j x c hj hc => h2 j x c hj (by simpa using hc)))
  unfold Oper.wp
  rw [callfn_run hc hv]
  refine hcall.mono fun e w' he => ?_
  obtain ⟨v, rfl, hb, hres⟩ := he
  obtain ⟨h1, h2⟩ := Res.rep (nx := nx) hres
  exact hK _ _ (Sim.put hs (lt_of_blt hd) hb h1 h2)

/-- The same, where a map of ours lies in a captured box: told as data to who is called. -/
inductive CapsM (x0 : Value) (M : List (List UInt8 × List Value)) : List D → List Arg → Prop
  | nil : CapsM x0 M [] []
  | map {ds : List D} {zs : List Arg} (h : CapsM x0 M ds zs) : CapsM x0 M (refD [.v x0] :: ds) (.pd [mapD M] :: zs)
  | ref {cs ds : List D} {zs : List Arg} (h : CapsM x0 M ds zs) : CapsM x0 M (refD cs :: ds) (.pd cs :: zs)
theorem CapsM.ok {own own' : Nat → Prop} {x0 : Value} {M : List (List UInt8 × List Value)} (ho : ∀ b, own' b → own b) (hm : Rd w own' x0 (mapD M)) {ds : List D} {zs : List Arg} (h : CapsM x0 M ds zs) :
    ∀ {vs : List Value}, vs.length = ds.length → (∀ (j : Nat) (x : D) (c : Value), ds[j]? = some x → vs[j]? = some c → Rd w own c x) → ArgsOk w own' vs zs := by
  induction h with
  | nil =>
    intro vs hl _
    obtain rfl : vs = [] := List.eq_nil_of_length_eq_zero hl
    trivial
  | @map ds zs h ih =>
    intro vs hl hr
    cases vs with
    | nil => simp at hl
    | cons v vs =>
      obtain ⟨ad, h1, _, h2, h3⟩ := rd_x (hr 0 _ v rfl rfl)
      refine ⟨⟨ad, h1, h2, fun j z hz => ?_⟩, ih (by simpa using hl) fun j x c hj hc => hr (j + 1) x c (by simpa using hj) (by simpa using hc)⟩
      cases j with
      | zero =>
        simp at hz; subst hz
        obtain ⟨u, h4, h5, h6⟩ := h3 0 _ rfl
        rw [rd_v h6] at h4 h5
        exact ⟨x0, h4, h5, hm⟩
      | succ j => simp at hz
  | @ref cs ds zs h ih =>
    intro vs hl hr
    cases vs with
    | nil => simp at hl
    | cons v vs =>
      obtain ⟨ad, h1, _, h2, h3⟩ := rd_x (hr 0 _ v rfl rfl)
      exact ⟨⟨ad, h1, h2, fun j z hz => by obtain ⟨u, h4, h5, h6⟩ := h3 j z hz; exact ⟨u, h4, h5, h6.less ho⟩⟩, ih (by simpa using hl) fun j x c hj hc => hr (j + 1) x c (by simpa using hj) (by simpa using hc)⟩
theorem a_callfnM {f : FuncId} {z : Operand} {xs : List Operand} {avs : List AV} {ys zs : List Arg} {l : List (Key × Val)} {r : Res} {ats : Array TypeId} {ds : List D} {id : Nat} {x0 : Value} {M : List (List UInt8 × List Value)}
    (hc : FnOk cx.P f (ys ++ zs) r) (hcap : CapsM x0 M ds zs) (hp : plainR r = true) (ho : get σ (.o id) = .ob (.mp M x0)) (hz : ev σ z = some (.d (fnD f ds))) (hd : Nat.blt d cx.n = true) (hsub : SubsE σ xs avs ys l) :
    OA cx σ ⟨some d, .call { callee := .value z, args := ⟨xs⟩, argTypes := ats }, ty, pos, af, gd⟩ ⟨rdOf z (.d (fnD f ds)) ++ (l ++ [(.o id, .ob (.mp M x0))]), [(.s d, .av r.av)]⟩ := by
  refine ⟨?_, (ev_out hz).2.append (hsub.out.2.append ⟨ho, trivial⟩)⟩
  rintro σ1 a w K Q ⟨g, nx, hs⟩ hr hK
  have ho1 : get σ1 (.o id) = .ob (.mp M x0) := hr.right.right.1
  obtain ⟨cs, hv, h1, h2⟩ := rd_x (hs.ev (ev_out hz).1 hr.left).1
  obtain ⟨_, ⟨hgx, b, es, clock, hx0, hge, hh, hmi⟩, _⟩ := hs.objs id _ ho1
  have hblt : b < w.heap.size := by
    rcases Nat.lt_or_ge b w.heap.size with h | h
    · exact h
    · rw [Array.getElem?_eq_none h] at hh; cases hh
  have hm : Rd w (fun c => cx.own g σ1 c ∧ blk x0 ≠ some c) x0 (mapD M) := rd_map ⟨b, es, clock, hx0, fun h => h.2 (by rw [hx0]; rfl), hblt, hh, hmi⟩
  have hcall := hc.calls w (fun c => cx.own g σ1 c ∧ blk x0 ≠ some c) (xs.map a.eval ++ cs.toList) (fun b hb => own_lt hs hb.1)
    (argsOk_append ((hsub.out.1.ok hs hr.right.left).less fun b hb => hb.1) (hcap.ok (fun b hb => hb.1) hm (by simpa using h1) fun j x c hj hc => h2 j x c hj (by simpa using hc)))
  unfold Oper.wp
  rw [callfn_run hc hv]
  refine hcall.mono fun e w' he => ?_
  obtain ⟨v, rfl, hb, hres⟩ := he
  obtain ⟨h1, h2⟩ := Res.rep (nx := nx) (plainR_ok hp (own' := cx.own g σ1) hres)
  exact hK _ _ (Sim.put hs (lt_of_blt hd) hb h1 h2)

/-! ### Maps of ours -/
def mget (M : List (List UInt8 × List Value)) (k : List UInt8) : Option (List Value) := match M with
  | [] => none
  | (s, v) :: r => if s = k then some v else mget r k
def mset (M : List (List UInt8 × List Value)) (k : List UInt8) (v : List Value) : List (List UInt8 × List Value) := match M with
  | [] => [(k, v)]
  | (s, u) :: r => if s = k then (s, v) :: r else (s, u) :: mset r k v
/-- Where a key is found. -/
def mfind (k : List UInt8) : List (List UInt8 × List Value) → Nat → Option (Nat × List Value)
  | [], _ => none
  | (s, v) :: r, i => if s = k then some (i, v) else mfind k r (i + 1)
theorem findNow_eq (k : List UInt8) : ∀ {es : List MapEntry} {M : List (List UInt8 × List Value)} (i : Nat), es.map (fun e => (e.key, e.val)) = M.map (fun p => (Value.string ⟨p.1.toArray⟩, Value.agg p.2.toArray)) →
    Instr.findNow .string (.string ⟨k.toArray⟩) es i = some ((mfind k M i).map fun p => (p.1, Value.agg p.2.toArray))
  | [], [], i, _ => rfl
  | [], p :: M, i, h => by simp at h
  | e :: es, [], i, h => by simp at h
  | e :: es, (s, v) :: M, i, h => by
    simp only [List.map_cons, List.cons.injEq, Prod.mk.injEq] at h
    obtain ⟨⟨h1, h2⟩, h3⟩ := h
    obtain ⟨r, hr, hiff⟩ := MapKept.sameNow_of_keys (d := .string) (a := .string ⟨k.toArray⟩) (b := .string ⟨s.toArray⟩) (by simp [MapKept.IsKey]) (by simp [MapKept.IsKey])
    rw [← h1] at hr
    have hs' : r = true ↔ s = k := by
      rw [hiff]
      simp only [Value.string.injEq, ByteArray.mk.injEq]
      constructor
      · intro h
        have := congrArg Array.toList h
        simpa using this.symm
      · rintro rfl; rfl
    simp only [Instr.findNow, hr, mfind]
    by_cases hs : s = k
    · rw [if_pos hs]
      have hrt := hs'.2 hs
      subst hrt
      simp [h2]
    · rw [if_neg hs]
      have hrf : r = false := by
        cases r with
        | false => rfl
        | true => exact absurd (hs'.1 rfl) hs
      subst hrf
      exact findNow_eq k (i + 1) h3
theorem mfind_get (k : List UInt8) : ∀ (M : List (List UInt8 × List Value)) (i : Nat), (mfind k M i).map (·.2) = mget M k
  | [], _ => rfl
  | (s, v) :: M, i => by
    simp only [mfind, mget]
    split
    · rfl
    · exact mfind_get k M (i + 1)

end Go.AX

/-! AxMap -/
/-
  Maps of ours: made, written, read; maps told as data, read.
-/
namespace Go.AX
open Go.RowKit

variable {cx : Cx} {g : Nat → Value} {σ σ' : St} {a : Act} {w w' : World} {nx : Nat}
variable {ty : TypeId} {pos : String} {af : Array Edge} {gd : Option (Nat × Bool)} {d : Nat}

/-- A type of maps from texts to structs. -/
structure MapTy (cx : Cx) (t te : TypeId) (ti : TI) : Prop where
  u : ∃ tk, cx.P.underlying t = some (.map tk te) ∧ cx.P.underlying tk = some .string
  e : tget cx.T te = some ti
  two : ti.zero.length ≠ 1
theorem MapTy.zero {t te : TypeId} {ti : TI} (h : MapTy cx t te ti) (w : World) : (zeroValue te).run cx.P w = .ok (.agg ti.zero.toArray) w := by
  obtain ⟨i, hi, _, _, z, hz, hc⟩ := (cx.hT te ti h.e).info
  have hag : z = .agg ti.zero.toArray := by
    cases z with
    | agg cs =>
      have : cs.toList = ti.zero := hc
      rw [← this]
    | _ => exact absurd (by rw [← hc]; rfl) h.two
  subst hag
  simp [zeroValue, typeInfo, hi, hz]
def mlook (ti : TI) (M : List (List UInt8 × List Value)) (k : List UInt8) : List Value := (mget M k).getD ti.zero
theorem run_mlook {t te : TypeId} {ti : TI} (h : MapTy cx t te ti) {b : Nat} {es : Array MapEntry} {clock : Nat} {M : List (List UInt8 × List Value)} (hb : w.heap[b]? = some (.map es clock)) (hm : MapIs es M) (k : List UInt8) :
    (Instr.lookup t (.map (some b)) (.string ⟨k.toArray⟩) true).run cx.P w = .ok (.tuple #[.agg (mlook ti M k).toArray, .bool (mget M k).isSome]) w := by
  obtain ⟨tk, h1, h2⟩ := h.u
  have hf := findNow_eq k 0 hm
  have hg := mfind_get k M 0
  have hck : (Instr.checkKey es.isEmpty 10000 tk (.string ⟨k.toArray⟩)).run cx.P w = .ok () w := MapKept.run_checkKey h2 (by simp [MapKept.IsKey]) _ 9999
  have hz := h.zero w
  cases hfd : mfind k M 0 with
  | none =>
    rw [hfd] at hf hg
    simp only [Option.map_none] at hf hg
    simp [Instr.lookup, run_underlying h1, MapKept.run_getObj_map hb, hck, Instr.findKey, run_underlying h2, hf, hz, mlook, ← hg, Result.andThen]
  | some p =>
    rw [hfd] at hf hg
    simp only [Option.map_some] at hf hg
    simp [Instr.lookup, run_underlying h1, MapKept.run_getObj_map hb, hck, Instr.findKey, run_underlying h2, hf, mlook, ← hg, Result.andThen]

theorem tup_rep {us : List Value} {r : Bool} (h1 : ∀ u ∈ us, u.oneCell' = true) : Rep cx g σ w (.tuple #[.agg us.toArray, .bool r]) (.tup [.d (.agg (us.map D.v)), .d (.v (.bool r))]) := by
  refine ⟨_, rfl, rfl, fun j c av hj hc => ?_⟩
  match j, hj, hc with
  | 0, hj, hc =>
    simp at hj hc; subst hj; subst hc
    refine .agg _ _ (by simp) (fun j c hc => h1 c ?_) fun j x c hx hc => ?_
    · exact List.mem_of_getElem? (by simpa using hc)
    · rw [List.getElem?_map] at hx
      simp at hc
      rw [hc] at hx
      simp at hx; subst hx
      exact Rd.v _
  | 1, hj, hc => simp at hj hc; subst hj; subst hc; exact Rd.v _
theorem mget_mem {M : List (List UInt8 × List Value)} {k : List UInt8} {us : List Value} (h : mget M k = some us) : ∃ p ∈ M, p.2 = us := by
  induction M with
  | nil => cases h
  | cons q M ih =>
    obtain ⟨s, v⟩ := q
    simp only [mget] at h
    split at h
    · cases h; exact ⟨_, List.mem_cons_self .., rfl⟩
    · obtain ⟨p, h1, h2⟩ := ih h
      exact ⟨p, List.mem_cons_of_mem _ h1, h2⟩
theorem mlook_one {ti : TI} {M : List (List UInt8 × List Value)} {k : List UInt8} (hz : ∀ u ∈ ti.zero, u.oneCell' = true) (hM : ∀ p ∈ M, ∀ u ∈ p.2, u.oneCell' = true) : ∀ u ∈ mlook ti M k, u.oneCell' = true := by
  intro u hu
  unfold mlook at hu
  cases hg : mget M k with
  | none => rw [hg] at hu; exact hz u hu
  | some us =>
    rw [hg] at hu
    obtain ⟨p, h1, rfl⟩ := mget_mem hg
    exact hM p h1 u hu
theorem tup_bd {x y : D} : (AV.tup [.d x, .d y]).bd nx := by
  intro av hav
  simp at hav
  rcases hav with rfl | rfl <;> trivial

/-- A map of ours, read. -/
theorem a_mlook {t te : TypeId} {ti : TI} {x y : Operand} {x0 : Value} {k : List UInt8} {M : List (List UInt8 × List Value)} (id : Nat) (h : MapTy cx t te ti) (hz : ∀ u ∈ ti.zero, u.oneCell' = true) (hM : ∀ p ∈ M, ∀ u ∈ p.2, u.oneCell' = true)
    (hx : ev σ x = some (.d (.v x0))) (hy : ev σ y = some (.d (.v (.string ⟨k.toArray⟩)))) (ho : get σ (.o id) = .ob (.mp M x0)) (hd : Nat.blt d cx.n = true) :
    OA cx σ ⟨some d, .lookup t x y true, ty, pos, af, gd⟩ ⟨rdOf x (.d (.v x0)) ++ (rdOf y (.d (.v (.string ⟨k.toArray⟩))) ++ [(.o id, .ob (.mp M x0))]), [(.s d, .av (.tup [.d (.agg ((mlook ti M k).map D.v)), .d (.v (.bool (mget M k).isSome))]))]⟩ := by
  refine ⟨ok_val rfl (lt_of_blt hd) fun σ1 a w g nx hs hr => ?_, (ev_out hx).2.append ((ev_out hy).2.append ⟨ho, trivial⟩)⟩
  have hv := rep_v (hs.ev (ev_out hx).1 hr.left).1
  have hk := rep_v (hs.ev (ev_out hy).1 hr.right.left).1
  obtain ⟨_, ⟨hgx, b, es, clock, hx0, hge, hh, hmi⟩, _⟩ := hs.objs id _ hr.right.right.1
  refine ⟨_, w, ?_, Below.refl _ _, tup_rep (mlook_one hz hM), tup_bd⟩
  have := run_mlook (w := w) h hh hmi k
  simp [execOp, hv, hk, hx0, this]
/-- A map that stays, read. -/
theorem a_mlookd {t te : TypeId} {ti : TI} {x y : Operand} {k : List UInt8} {M : List (List UInt8 × List Value)} (h : MapTy cx t te ti) (hz : ∀ u ∈ ti.zero, u.oneCell' = true) (hM : ∀ p ∈ M, ∀ u ∈ p.2, u.oneCell' = true)
    (hx : ev σ x = some (.d (mapD M))) (hy : ev σ y = some (.d (.v (.string ⟨k.toArray⟩)))) (hd : Nat.blt d cx.n = true) :
    OA cx σ ⟨some d, .lookup t x y true, ty, pos, af, gd⟩ ⟨rdOf x (.d (mapD M)) ++ rdOf y (.d (.v (.string ⟨k.toArray⟩))), [(.s d, .av (.tup [.d (.agg ((mlook ti M k).map D.v)), .d (.v (.bool (mget M k).isSome))]))]⟩ := by
  refine ⟨ok_val rfl (lt_of_blt hd) fun σ1 a w g nx hs hr => ?_, (ev_out hx).2.append (ev_out hy).2⟩
  obtain ⟨b, es, clock, hx0, _, _, hh, hmi⟩ := rd_x (hs.ev (ev_out hx).1 hr.left).1
  have hk := rep_v (hs.ev (ev_out hy).1 hr.right).1
  refine ⟨_, w, ?_, Below.refl _ _, tup_rep (mlook_one hz hM), tup_bd⟩
  have := run_mlook (w := w) h hh hmi k
  simp [execOp, hx0, hk, this]

/-! ### Written -/
theorem mfind_some {k : List UInt8} {us v : List Value} : ∀ {M : List (List UInt8 × List Value)} {j i : Nat}, mfind k M j = some (i, v) → ∃ n, i = j + n ∧ M[n]? = some (k, v) ∧ mset M k us = M.set n (k, us)
  | [], j, i, h => by cases h
  | (s, u) :: M, j, i, h => by
    simp only [mfind] at h
    by_cases hs : s = k
    · rw [if_pos hs] at h
      cases h
      exact ⟨0, rfl, by simp [hs], by simp [mset, hs]⟩
    · rw [if_neg hs] at h
      obtain ⟨n, h1, h2, h3⟩ := mfind_some (us := us) h
      exact ⟨n + 1, by omega, by simpa using h2, by simp [mset, hs, h3]⟩
theorem mfind_none {k : List UInt8} {us : List Value} : ∀ {M : List (List UInt8 × List Value)} {j : Nat}, mfind k M j = none → mset M k us = M ++ [(k, us)]
  | [], j, _ => rfl
  | (s, u) :: M, j, h => by
    simp only [mfind] at h
    by_cases hs : s = k
    · rw [if_pos hs] at h; cases h
    · rw [if_neg hs] at h
      simp [mset, hs, mfind_none h]
theorem run_mset {t te : TypeId} {ti : TI} (h : MapTy cx t te ti) {b : Nat} {es : Array MapEntry} {clock : Nat} {M : List (List UInt8 × List Value)} (hb : w.heap[b]? = some (.map es clock)) (hm : MapIs es M) (k : List UInt8) (us : List Value) :
    ∃ es' clock', (Instr.mapUpdate t (.map (some b)) (.string ⟨k.toArray⟩) (.agg us.toArray)).run cx.P w = .ok () { w with heap := w.heap.setIfInBounds b (.map es' clock') } ∧ MapIs es' (mset M k us) := by
  obtain ⟨tk, h1, h2⟩ := h.u
  have hf := findNow_eq k 0 hm
  have hck : (Instr.checkKey false 10000 tk (.string ⟨k.toArray⟩)).run cx.P w = .ok () w := MapKept.run_checkKey h2 (by simp [MapKept.IsKey]) _ 9999
  have hset : ∀ o, (setObj b o).run cx.P w = .ok () { w with heap := w.heap.setIfInBounds b o } := fun o => MapKept.run_setObj_map o hb
  cases hfd : mfind k M 0 with
  | none =>
    rw [hfd] at hf
    simp only [Option.map_none] at hf
    refine ⟨es.push ⟨.string ⟨k.toArray⟩, .agg us.toArray, clock⟩, clock + 1, ?_, ?_⟩
    · simp [Instr.mapUpdate, run_underlying h1, MapKept.run_getObj_map hb, hck, Instr.findKey, run_underlying h2, hf, hset, Result.andThen]
    · rw [mfind_none hfd]
      unfold MapIs at hm ⊢
      simp [hm]
  | some p =>
    obtain ⟨i, v⟩ := p
    rw [hfd] at hf
    simp only [Option.map_some] at hf
    obtain ⟨n, hn, h3, h4⟩ := mfind_some (us := us) hfd
    obtain rfl : i = n := by omega
    have hes : (es.toList.map fun e => (e.key, e.val))[i]? = some (Value.string ⟨k.toArray⟩, Value.agg v.toArray) := by
      unfold MapIs at hm
      rw [hm, List.getElem?_map, h3]; rfl
    obtain ⟨e, he, hek⟩ : ∃ e, es[i]? = some e ∧ e.key = Value.string ⟨k.toArray⟩ := by
      rw [List.getElem?_map] at hes
      cases hx : es.toList[i]? with
      | none => rw [hx] at hes; cases hes
      | some e =>
        rw [hx] at hes
        simp at hes
        exact ⟨e, by simpa using hx, hes.1⟩
    refine ⟨es.modify i fun e => { e with key := .string ⟨k.toArray⟩, val := .agg us.toArray }, clock, ?_, ?_⟩
    · have hst : (Instr.keyThatStays (((es[i]?).map (·.key)).getD (.string ⟨k.toArray⟩)) (.string ⟨k.toArray⟩)).run cx.P w = .ok (.string ⟨k.toArray⟩) w := by
        rw [he]
        simp only [Option.map_some, Option.getD_some, hek]
        have hbb : ((⟨k.toArray⟩ : ByteArray) == ⟨k.toArray⟩) = true := (MapKept.bytes_beq _ _).2 rfl
        simp [Instr.keyThatStays, Instr.sameBits, hbb]
      simp [Instr.mapUpdate, run_underlying h1, MapKept.run_getObj_map hb, hck, Instr.findKey, run_underlying h2, hf, hst, hset, Result.andThen]
    · rw [h4]
      unfold MapIs at hm ⊢
      rw [List.map_set, ← hm]
      apply List.ext_getElem?
      intro j
      rw [List.getElem?_map, Array.getElem?_toList, Array.getElem?_modify]
      by_cases hj : i = j
      · subst hj
        have hlt := (Array.getElem?_eq_some_iff.1 he).1
        rw [if_pos rfl, List.getElem?_set_self (by simpa using hlt), he]
        rfl
      · rw [if_neg hj, List.getElem?_set_ne hj, List.getElem?_map, Array.getElem?_toList]

theorem a_mset {t te : TypeId} {ti : TI} {x y z : Operand} {x0 : Value} {av : AV} {k : List UInt8} {us : List Value} {M : List (List UInt8 × List Value)} (id : Nat) (h : MapTy cx t te ti)
    (hx : ev σ x = some (.d (.v x0))) (hy : ev σ y = some (.d (.v (.string ⟨k.toArray⟩)))) (hz : ev σ z = some av) (hu : AggV av us) (ho : get σ (.o id) = .ob (.mp M x0)) :
    OA cx σ ⟨none, .mapUpdate t x y z, ty, pos, af, gd⟩ ⟨rdOf x (.d (.v x0)) ++ (rdOf y (.d (.v (.string ⟨k.toArray⟩))) ++ (rdOf z av ++ [(.o id, .ob (.mp M x0))])), [(.o id, .ob (.mp (mset M k us) x0))]⟩ := by
  refine ⟨?_, (ev_out hx).2.append ((ev_out hy).2.append ((ev_out hz).2.append ⟨ho, trivial⟩))⟩
  rintro σ1 a w K Q ⟨g, nx, hs⟩ hr hK
  have hv := rep_v (hs.ev (ev_out hx).1 hr.left).1
  have hk := rep_v (hs.ev (ev_out hy).1 hr.right.left).1
  have hzv := rep_aggv hu (hs.ev (ev_out hz).1 hr.right.right.left).1
  have ho1 : get σ1 (.o id) = .ob (.mp M x0) := hr.right.right.right.1
  obtain ⟨hid, ⟨hgx, b, es, clock, hx0, hge, hh, hmi⟩, _⟩ := hs.objs id _ ho1
  obtain ⟨es', clock', hrun, hmi'⟩ := run_mset (w := w) h hh hmi k us
  have hblt : b < w.heap.size := by
    rcases Nat.lt_or_ge b w.heap.size with h | h
    · exact h
    · rw [Array.getElem?_eq_none h] at hh; cases hh
  have hgb : blk (g id) = some b := by rw [hgx, hx0]; rfl
  have hoth : ∀ c, c ≠ b → ({ w with heap := w.heap.setIfInBounds b (.map es' clock') } : World).heap[c]? = w.heap[c]? := fun c hc => by
    show (w.heap.setIfInBounds b _)[c]? = _
    rw [Array.getElem?_setIfInBounds, if_neg (fun e => hc e.symm)]
  have hst : ObjStep cx σ1 g nx nx w { w with heap := w.heap.setIfInBounds b (.map es' clock') } id (.mp (mset M k us) x0) (g id) := by
    refine ⟨.inr ⟨rfl, _, ho1, trivial⟩, ⟨rfl, rfl, rfl, by simp, fun c hc => hoth c (by have := hs.below.size; omega)⟩, fun c hc hn => hoth c fun e => hn _ ho1 (by rw [hgb, e]), fun c hc => .inl ⟨_, ho1, hc⟩⟩
  have hG := SimG.obj hs hst (fun _ => ⟨by rw [upd_same]; exact hgx, b, es', clock', hx0, hge, by show (w.heap.setIfInBounds b _)[b]? = _; rw [Array.getElem?_setIfInBounds, if_pos rfl, if_pos hblt], hmi'⟩) trivial
  unfold Oper.wp
  have hex : (execOp a.eval ⟨none, .mapUpdate t x y z, ty, pos, af, gd⟩).run cx.P w = .ok .skip { w with heap := w.heap.setIfInBounds b (.map es' clock') } := by
    simp [execOp, hv, hk, hzv, hx0, hrun]
  rw [hex]
  refine hK _ _ (Sim.eqv ⟨_, _, hG⟩ fun q => ?_)
  cases q with
  | s i => rw [objSt_s]; exact (get_cons_ne (by simp)).symm
  | o i =>
    by_cases hi : i = id
    · subst hi; rw [get_cons_same]; exact get_cons_same.symm
    · rw [objSt_o hi]; exact (get_cons_ne (by simpa using fun e => hi e.symm)).symm
  | nx => rw [objSt_nx]; exact hs.hnx.symm.trans (get_cons_ne (by simp)).symm

/-- Made: whatever handle it has. -/
theorem fam_mkmap {t : TypeId} {n0 : Nat} (hn : get σ .nx = .num n0) (hd : Nat.blt d cx.n = true) (a : Act) (w : World) (K : Act → World → Prop) (Q : Exit → Act → World → Prop) (hs : Sim cx σ a w)
    (hK : ∀ (x : Value) a' w', Sim cx ([(.s d, .av (.d (.v x))), (.o n0, .ob (.mp [] x)), (.nx, .num (n0 + 1))] ++ σ) a' w' → K a' w') :
    (⟨some d, .makeMap t none, ty, pos, af, gd⟩ : Oper).wp cx.P a w K Q := by
  obtain ⟨g, nx, hs⟩ := hs
  have hnx : nx = n0 := by
    have h2 := hs.hnx
    rw [hn] at h2
    simpa using h2.symm
  subst hnx
  have hex : (execOp a.eval ⟨some d, .makeMap t none, ty, pos, af, gd⟩).run cx.P w = .ok (.value (.map (some w.heap.size))) (w.alloc (.map #[] 0)) := by
    simp [execOp, Instr.makeMap, newObj]
    rfl
  have hb : Below w.heap.size w (w.alloc (.map #[] 0)) := (Below.refl _ _).alloc (Nat.le_refl _) _
  have hst : ObjStep cx σ g nx (nx + 1) w (w.alloc (.map #[] 0)) nx (.mp [] (.map (some w.heap.size))) (.map (some w.heap.size)) :=
    ⟨.inl ⟨rfl, rfl⟩, hb.mono hs.below.size, fun c hc _ => hb.block c hc, fun c hc => .inr (by cases hc; exact Nat.le_refl _)⟩
  have hG := SimG.obj hs hst (fun _ => ⟨upd_same _ _ _, w.heap.size, #[], 0, rfl, hs.below.size, heap_alloc_new w _, rfl⟩) trivial
  refine wp_val rfl hex (hK (.map (some w.heap.size)) _ _ ?_)
  refine Sim.eqv (Sim.put hG (lt_of_blt hd) (Below.refl _ _) (av := .d (.v (.map (some w.heap.size)))) (Rd.v _) trivial) fun q => ?_
  cases q with
  | s i =>
    by_cases hi : i = d
    · subst hi; rw [get_cons_same]; exact get_cons_same.symm
    · rw [get_cons_ne (by simpa using fun e => hi e.symm), objSt_s]
      exact ((get_cons_ne (by simpa using fun e => hi e.symm)).trans ((get_cons_ne (by simp)).trans (get_cons_ne (by simp)))).symm
  | o i =>
    rw [get_cons_ne (by simp)]
    by_cases hi : i = nx
    · subst hi; rw [get_cons_same]; exact ((get_cons_ne (by simp)).trans get_cons_same).symm
    · rw [objSt_o hi]
      exact ((get_cons_ne (by simp)).trans ((get_cons_ne (by simpa using fun e => hi e.symm)).trans (get_cons_ne (by simp)))).symm
  | nx =>
    rw [get_cons_ne (by simp), objSt_nx]
    exact ((get_cons_ne (by simp)).trans ((get_cons_ne (by simp)).trans get_cons_same)).symm

theorem map_known {id : Nat} {M : List (List UInt8 × List Value)} {x : Value} (ho : get σ (.o id) = .ob (.mp M x)) (a : Act) (w : World) (hs : Sim cx σ a w) : ∃ b, x = .map (some b) := by
  obtain ⟨g, nx, hs⟩ := hs
  obtain ⟨_, ⟨_, b, _, _, h, _⟩, _⟩ := hs.objs id _ ho
  exact ⟨b, h⟩
/-- A pointer into a box of ours is not nil. -/
theorem a_nilp {x : Operand} {id off : Nat} {cells : List AV} (hx : ev σ x = some (.ptr id off)) (ho : get σ (.o id) = .ob (.box cells)) (hd : Nat.blt d cx.n = true) :
    OA cx σ ⟨some d, .nilCheck x, ty, pos, af, gd⟩ ⟨rdOf x (.ptr id off) ++ [(.o id, .ob (.box cells))], [(.s d, .av (.ptr id off))]⟩ :=
  ⟨ok_nilCheck_ptr (lt_of_blt hd) (ev_out hx).1, (ev_out hx).2.append ⟨ho, trivial⟩⟩

end Go.AX

/-! Rn -/
/-
  What the program's Run of a deed computes, on data.
-/
namespace Go.RF
open Go.AX

abbrev Mk := List (Str × (Bool × Int))
def mG : Mk → Str → Option (Bool × Int)
  | [], _ => none
  | (s, c) :: r, k => if s = k then some c else mG r k
def mS : Mk → Str → Bool × Int → Mk
  | [], k, c => [(k, c)]
  | (s, u) :: r, k, c => if s = k then (s, c) :: r else (s, u) :: mS r k c
def chV (c : Bool × Int) : List Value := [.bool c.1, .int .i64 c.2]
def encM (m : Mk) : List (Str × List Value) := m.map fun p => (p.1, chV p.2)
theorem mget_enc (m : Mk) (k : Str) : mget (encM m) k = (mG m k).map chV := by
  induction m with
  | nil => rfl
  | cons p m ih =>
    obtain ⟨s, c⟩ := p
    simp only [encM, List.map_cons, mget, mG]
    by_cases h : s = k
    · rw [if_pos h, if_pos h]; rfl
    · rw [if_neg h, if_neg h]; exact ih
theorem mset_enc (m : Mk) (k : Str) (c : Bool × Int) : mset (encM m) k (chV c) = encM (mS m k c) := by
  induction m with
  | nil => rfl
  | cons p m ih =>
    obtain ⟨s, u⟩ := p
    simp only [encM, List.map_cons, mset, mS]
    by_cases h : s = k
    · rw [if_pos h, if_pos h]; rfl
    · rw [if_neg h, if_neg h]
      show (s, chV u) :: mset (encM m) k (chV c) = _
      rw [ih]; rfl
theorem encM_one (m : Mk) : ∀ p ∈ encM m, ∀ u ∈ p.2, Value.oneCell' u = true := by
  intro p hp u hu
  obtain ⟨q, _, rfl⟩ := List.mem_map.1 hp
  simp [chV] at hu
  rcases hu with rfl | rfl <;> rfl
theorem mG_mS (m : Mk) (k k' : Str) (c : Bool × Int) : mG (mS m k c) k' = if k = k' then some c else mG m k' := by
  induction m with
  | nil => simp [mS, mG]
  | cons p m ih =>
    obtain ⟨s, u⟩ := p
    simp only [mS]
    by_cases hs : s = k
    · rw [if_pos hs]
      simp only [mG]
      by_cases h : k = k'
      · simp [hs, h]
      · rw [if_neg (by rw [hs]; exact h), if_neg h, if_neg (by rw [hs]; exact h)]
    · rw [if_neg hs]
      simp only [mG, ih]
      by_cases h : s = k'
      · rw [if_pos h, if_neg (fun e => hs (by rw [h, e])), if_pos h]
      · rw [if_neg h, if_neg h]

def seeM (view : Str → Int × Bool) (m : Mk) (k : Str) : Int := match mG m k with
  | some c => c.2
  | none => (view k).1

/-- A deed's instructions, one by one: what keys have been given, the registers. -/
def runGo (view : Str → Int × Bool) : Int → Mk → Done → List Ins → Mk × Done
  | _, m, e, [] => (m, e)
  | sk, m, e, i :: r =>
    if 0 < sk then runGo view (sk - 1) m e r
    else if i.kind = 1 then runGo view sk m (rset e i.a.toNat (seeM view m i.key)) r
    else if i.kind = 2 then runGo view sk m (rset e i.a.toNat i.n) r
    else if i.kind = 3 then runGo view sk m (rset e i.a.toNat (round (rget e i.a.toNat + rget e i.b.toNat))) r
    else if i.kind = 4 then runGo view sk m (rset e i.a.toNat (round (rget e i.a.toNat - rget e i.b.toNat))) r
    else if i.kind = 5 then runGo view sk m (rset e i.a.toNat (round (rget e i.a.toNat * rget e i.b.toNat))) r
    else if i.kind = 6 then runGo view sk (mS m i.key (true, rget e i.a.toNat)) e r
    else if i.kind = 7 then runGo view sk (mS m i.key (false, 0)) e r
    else if i.kind = 8 then runGo view (if rget e i.a.toNat < 1 then i.n else sk) m e r
    else if rget e i.a.toNat < 0 then (m, bustE e) else runGo view sk m e r
theorem runGo_skip (view : Str → Int × Bool) (m : Mk) (e : Done) : ∀ (n : Nat) (l : List Ins), runGo view n m e l = runGo view 0 m e (l.drop n)
  | 0, l => rfl
  | n + 1, [] => by simp [runGo]
  | n + 1, i :: l => by
    simp only [runGo]
    rw [if_pos (by omega), show (((n + 1 : Nat) : Int) - 1) = (n : Int) by omega, runGo_skip view m e n l, List.drop_succ_cons]
def chg (m : Mk) : List Str → List (Str × (Bool × Int))
  | [] => []
  | k :: r => match mG m k with
    | some c => (k, c) :: chg m r
    | none => chg m r
def runM (view : Str → Int × Bool) (d : Deed) : Mk × Done := runGo view 0 [] done0 d.code
def runC (view : Str → Int × Bool) (d : Deed) : List (Str × (Bool × Int)) := if (runM view d).2.failed = true then [] else chg (runM view d).1 d.writes
def chVer (c : Str × (Bool × Int)) : Version := ⟨0, true, c.2.1, c.2.2⟩
def runRes (view : Str → Int × Bool) (d : Deed) : List D := [.agg (runM view d).2.enc, encVs ((runC view d).map chVer), encStrs ((runC view d).map (·.1))]

theorem chg_len (m : Mk) : ∀ l : List Str, (chg m l).length ≤ l.length
  | [] => by simp [chg]
  | k :: r => by
    have := chg_len m r
    simp only [chg]
    split <;> simp <;> omega
def mOk (m : Mk) : Prop := ∀ k c, mG m k = some c → nOk c.2
theorem mOk_nil : mOk [] := by intro k c h; cases h
theorem mOk_set {m : Mk} (h : mOk m) (k : Str) {c : Bool × Int} (hc : nOk c.2) : mOk (mS m k c) := by
  intro k' c' h'
  rw [mG_mS] at h'
  split at h'
  · cases h'; exact hc
  · exact h k' c' h'
theorem see_ok {view : Str → Int × Bool} {m : Mk} (hv : ∀ k, nOk (view k).1) (hm : mOk m) (k : Str) : nOk (seeM view m k) := by
  unfold seeM
  split
  · next c h => exact hm k c h
  · exact hv k

end Go.RF

/-! Sh -/
/-
  The library's comparison of texts, at this program's numbers.
-/
namespace Go.Proofs
open Go.Shelf Go.RowKit
def Try.lays106_ren : Go.Shelf.Ren := ⟨fun | 106 => 60 | 213 => 76 | 265 => 83 | n => n, fun | 9 => 9 | 3 => 3 | n => n, fun | n => n⟩
theorem Try.lays106 : Go.Proofs.Lays.n106 Try.prog Try.lays106_ren := {
  mixed := by kernel_rfl
  f106 := Try.func60.trans (congrArg some (by kernel_rfl))
  f213 := Try.func76.trans (congrArg some (by kernel_rfl))
  f265 := Try.func83.trans (congrArg some (by kernel_rfl))
  t3 := Try.underlying3
  a3 := Try.isAgg3
  z3 := Try.sizeOf3
  v3 := Try.zeroValue3
  t9 := Try.underlying9
  a9 := Try.isAgg9
  z9 := Try.sizeOf9
  v9 := Try.zeroValue9 }
theorem Try.strings_Compare (a b : ByteArray) (w : World) :
    Calls Try.prog 60 #[.string a, .string b] w fun e w' => e = .returned (.int .i64 (Lib.compareBytes a.data.toList b.data.toList)) ∧ w' = w := Any.strings_Compare Try.lays106 a b w
end Go.Proofs

/-! G2 -/
/-
  Contracts of the program's find in chains: texts held against each other, and the library's search by halves.
-/
namespace Go.Proofs.Ytjopijlkpipljaa
open Go.AX Go.RF Go.RowKit

set_option maxRecDepth 100000
set_option maxHeartbeats 4000000

def cmpT (a b : Str) : Int := if slt a b = true then -1 else if a = b then 0 else 1

theorem compare_eq : ∀ (a b : Str), Lib.compareBytes a b = cmpT a b
  | [], [] => by simp [Lib.compareBytes, cmpT, bl_nil]
  | [], b :: r => by simp [Lib.compareBytes, cmpT, bl_nil_cons]
  | a :: l, [] => by simp [Lib.compareBytes, cmpT, bl_nil]
  | a :: l, b :: r => by
    simp only [Lib.compareBytes, cmpT, bl_cons]
    by_cases h1 : a < b
    · simp [h1]
    · by_cases h2 : b < a
      · have h3 : ¬ a = b := fun h => by subst h; exact h1 h2
        simp [h1, h2, h3]
      · have h3 : a = b := UInt8.le_antisymm (UInt8.not_lt.1 h2) (UInt8.not_lt.1 h1)
        subst h3
        rw [compare_eq l r]
        simp [h1, cmpT]
theorem cmpT_lt {a b : Str} : cmpT a b < 0 ↔ slt a b = true := by
  unfold cmpT
  split
  · next h => simp [h]
  · next h => split <;> simp [h]
theorem cmpT_zero {a b : Str} : cmpT a b = 0 ↔ a = b := by
  unfold cmpT
  split
  · next h =>
    constructor
    · intro h0; simp at h0
    · intro h0; subst h0; rw [slt_irrefl] at h; cases h
  · split <;> simp_all

theorem ok_compare (a b : Str) : FnOk Try.prog 60 [.d (dstr a), .d (dstr b)] (.one (dint (cmpT a b))) := by
  refine ⟨⟨_, Try.func60, rfl, rfl⟩, fun w own vs hown ha => ?_⟩
  match vs, ha with
  | [x, y], ⟨h1, h2, _⟩ =>
    obtain rfl : x = str a := rd_v h1
    obtain rfl : y = str b := rd_v h2
    refine (Try.strings_Compare ⟨a.toArray⟩ ⟨b.toArray⟩ w).mono fun e w' he => ?_
    obtain ⟨rfl, rfl⟩ := he
    exact ⟨_, rfl, Below.refl _ _, by rw [← compare_eq]; exact Rd.v _⟩

theorem ok_find1 (c : Chain) (k : Str) : FnOk Try.prog 59 [.d (.agg c.enc), .d (dstr k)] (.one (dint (cmpT c.key k))) := by
  refine fnOk_of tbl_ok mixed_ok Try.func59 rfl (by kernel_rfl) rfl rfl fun w0 own0 => ?_
  have hc := ok_compare c.key k
  repeat (first | ((with_reducible apply s1); exact rfl) | (with_reducible first | apply CW.seq | apply CW.block | apply CW.region | apply CW.draw | apply CW.skip | apply CW.exit | apply CW.ret | apply q_then | apply q_then_exit | apply q_then_ret | apply q_block | apply q_block_ret | apply q_block_hit | apply q_ret | apply q_end | apply q_loop_exit | apply q_loop_ret | apply q_loopT_exit | apply q_loopT_ret | apply RW.nil) | ((with_reducible apply s3); exact rfl; exact by_k) | ((with_reducible apply s2); exact rfl; exact by_k) | ((with_reducible apply s4); exact rfl) | ((with_reducible apply s5); (first | (focus ((with_reducible apply a_call); exact hc; exact rfl; (repeat (first | exact SubsE.nil | (apply SubsE.cons; exact rfl; (first | exact .d (.refl _) | exact .d (.nil _) | exact .agg rfl (.refl _) | exact .pd | exact .ptr rfl); (first | exact trivial | exact ⟨rfl, trivial⟩)))); done)) | exact by_oa); exact by_g) | ((with_reducible apply CW.cond_t); exact rfl; exact by_ks) | ((with_reducible apply CW.cond_f); exact rfl; exact by_ks) | ((with_reducible apply q_block_miss); exact rfl) | (refine And.intro (show chk [] [] _ _ = true by kernel_rfl) ?_))
  exact .one (.tmp rfl (.one (.d (.refl _))))

abbrev At (l : List Chain) (k : Str) (m : Nat) : Prop := AtK Chain.key l k m
abbrev isAt (l : List Chain) (k : Str) (m : Nat) : Bool := isAtK Chain.key l k m

theorem ok_bsearch (l : List Chain) (k : Str) (m : Nat) (hl : l.length ≤ 268435456) (hm : At l k m) :
    FnOk Try.prog 58 [.d (encChains l), .d (dstr k), .d (.v (.func (.func 59) #[] #[]))] (.tup [dint m, dbool (isAt l k m)]) := by
  refine fnOk_of tbl_ok mixed_ok Try.func58 rfl (by kernel_rfl) rfl rfl fun w0 own0 => ?_
  have hml := hm.le
  repeat (first | ((with_reducible apply s1); exact rfl) | (with_reducible first | apply CW.seq | apply CW.block | apply CW.region | apply CW.draw | apply CW.skip | apply CW.exit | apply CW.ret | apply q_then | apply q_then_exit | apply q_then_ret | apply q_block | apply q_block_ret | apply q_block_hit | apply q_ret | apply q_end | apply q_loop_exit | apply q_loop_ret | apply q_loopT_exit | apply q_loopT_ret | apply RW.nil) | ((with_reducible apply s3); exact rfl; exact by_k) | ((with_reducible apply s2); exact rfl; exact by_k) | ((with_reducible apply s4); exact rfl) | ((with_reducible apply s5); (first | exact by_oa); exact by_g) | ((with_reducible apply CW.cond_t); exact rfl; exact by_ks) | ((with_reducible apply CW.cond_f); exact rfl; exact by_ks) | ((with_reducible apply q_block_miss); exact rfl) | (refine And.intro (show chk [] [] _ _ = true by kernel_rfl) ?_))
  refine CW.loopT (fun t : Nat × Nat => [sd 0 (encChains l), sd 1 (dstr k), sd 2 (.v (.func (.func 59) #[] #[])), sd 8 (dint l.length), sd 9 (dint t.1), sd 10 (dint t.2), nxt 0])
    (fun t => t.1 ≤ m ∧ m ≤ t.2 ∧ t.2 ≤ l.length) (fun t => t.2 - t.1) (0, l.length) ⟨by omega, hm.le, by omega⟩ ?_ ?_
  ·
    exact by_less
  · rintro ⟨i, j⟩ ⟨h1, h2, h3⟩
    dsimp only at h1 h2 h3 ⊢
    by_cases h4 : i < j
    · obtain ⟨c, hc⟩ : ∃ c, l[(i + j) / 2]? = some c := ⟨l[(i + j) / 2]'(by omega), List.getElem?_eq_getElem (by omega)⟩
      have hcall := ok_find1 c k
      repeat (first | (with_reducible apply stop_reg 4) | ((with_reducible apply s1); exact rfl) | (with_reducible first | apply CW.seq | apply CW.block | apply CW.region | apply CW.draw | apply CW.skip | apply CW.exit | apply CW.ret | apply q_then | apply q_then_exit | apply q_then_ret | apply q_block | apply q_block_ret | apply q_block_hit | apply q_ret | apply q_end | apply q_loop_exit | apply q_loop_ret | apply q_loopT_exit | apply q_loopT_ret | apply RW.nil) | ((with_reducible apply s3); exact rfl; exact by_k) | ((with_reducible apply s2); exact rfl; exact by_k) | ((with_reducible apply s4); exact rfl) | ((with_reducible apply s5); (first | exact by_oa); exact by_g) | ((with_reducible apply CW.cond_t); exact rfl; exact by_ks) | ((with_reducible apply CW.cond_f); exact rfl; exact by_ks) | ((with_reducible apply q_block_miss); exact rfl) | (refine And.intro (show chk [] [] _ _ = true by kernel_rfl) ?_))
      refine Stop.cutk [sd 11 (dint ((i + j) / 2 : Nat))] [.s 0, .s 1, .s 2, .s 8, .s 9, .s 10, .nx] ?_ ?_
      ·
        repeat (first | ((with_reducible apply s1); exact rfl) | (with_reducible first | apply CW.seq | apply CW.block | apply CW.region | apply CW.draw | apply CW.skip | apply CW.exit | apply CW.ret | apply q_then | apply q_then_exit | apply q_then_ret | apply q_block | apply q_block_ret | apply q_block_hit | apply q_ret | apply q_end | apply q_loop_exit | apply q_loop_ret | apply q_loopT_exit | apply q_loopT_ret | apply RW.nil) | ((with_reducible apply s3); exact rfl; exact by_k) | ((with_reducible apply s2); exact rfl; exact by_k) | ((with_reducible apply s4); exact rfl) | ((with_reducible apply s5); (first | ((with_reducible apply a_bin); (iterate 2 exact rfl); exact bin_half; exact rfl) | exact by_oa); exact by_g) | ((with_reducible apply CW.cond_t); exact rfl; exact by_ks) | ((with_reducible apply CW.cond_f); exact rfl; exact by_ks) | ((with_reducible apply q_block_miss); exact rfl) | (refine And.intro (show chk [] [] _ _ = true by kernel_rfl) ?_))
        refine q_cut ?_
        exact by_less
      have hcz := @cmpT_lt c.key k
      by_cases h5 : cmpT c.key k < 0
      · have h6 : (i + j) / 2 < m := by
          rcases Nat.lt_or_ge ((i + j) / 2) m with h | h
          · exact h
          · have := hm.ge _ c hc h
            rw [hcz.1 h5] at this; cases this
        repeat (first | ((with_reducible apply s1); exact rfl) | (with_reducible first | apply CW.seq | apply CW.block | apply CW.region | apply CW.draw | apply CW.skip | apply CW.exit | apply CW.ret | apply q_then | apply q_then_exit | apply q_then_ret | apply q_block | apply q_block_ret | apply q_block_hit | apply q_ret | apply q_end | apply q_loop_exit | apply q_loop_ret | apply q_loopT_exit | apply q_loopT_ret | apply RW.nil) | ((with_reducible apply s3); exact rfl; exact by_k) | ((with_reducible apply s2); exact rfl; exact by_k) | ((with_reducible apply s4); exact rfl) | ((with_reducible apply s5); (first | (focus ((with_reducible apply a_callv); exact hcall; (iterate 2 exact rfl); (repeat (first | exact SubsE.nil | (apply SubsE.cons; exact rfl; (first | exact .d (.refl _) | exact .d (.nil _) | exact .agg rfl (.refl _) | exact .pd | exact .ptr rfl); (first | exact trivial | exact ⟨rfl, trivial⟩)))); done)) | exact by_oa); exact by_g) | ((with_reducible apply CW.cond_t); exact rfl; exact by_ks) | ((with_reducible apply CW.cond_f); exact rfl; exact by_ks) | ((with_reducible apply q_block_miss); exact rfl) | (refine And.intro (show chk [] [] _ _ = true by kernel_rfl) ?_))
        refine q_loopT ((i + j) / 2 + 1, j) ⟨by dsimp only; omega, h2, h3⟩ (by dsimp only; omega) ?_
        exact by_less
      · have h6 : m ≤ (i + j) / 2 := by
          rcases Nat.lt_or_ge ((i + j) / 2) m with h | h
          · exact absurd (hcz.2 (hm.lt _ c hc h)) h5
          · exact h
        repeat (first | ((with_reducible apply s1); exact rfl) | (with_reducible first | apply CW.seq | apply CW.block | apply CW.region | apply CW.draw | apply CW.skip | apply CW.exit | apply CW.ret | apply q_then | apply q_then_exit | apply q_then_ret | apply q_block | apply q_block_ret | apply q_block_hit | apply q_ret | apply q_end | apply q_loop_exit | apply q_loop_ret | apply q_loopT_exit | apply q_loopT_ret | apply RW.nil) | ((with_reducible apply s3); exact rfl; exact by_k) | ((with_reducible apply s2); exact rfl; exact by_k) | ((with_reducible apply s4); exact rfl) | ((with_reducible apply s5); (first | (focus ((with_reducible apply a_callv); exact hcall; (iterate 2 exact rfl); (repeat (first | exact SubsE.nil | (apply SubsE.cons; exact rfl; (first | exact .d (.refl _) | exact .d (.nil _) | exact .agg rfl (.refl _) | exact .pd | exact .ptr rfl); (first | exact trivial | exact ⟨rfl, trivial⟩)))); done)) | exact by_oa); exact by_g) | ((with_reducible apply CW.cond_t); exact rfl; exact by_ks) | ((with_reducible apply CW.cond_f); exact rfl; exact by_ks) | ((with_reducible apply q_block_miss); exact rfl) | (refine And.intro (show chk [] [] _ _ = true by kernel_rfl) ?_))
        refine q_loopT (i, (i + j) / 2) ⟨h1, h6, by dsimp only; omega⟩ (by dsimp only; omega) ?_
        exact by_less
    · obtain rfl : i = m := by omega
      cases hc : l[i]? with
      | none =>
        have h5 : l.length ≤ i := by
          rcases Nat.lt_or_ge i l.length with h | h
          · rw [List.getElem?_eq_getElem h] at hc; cases hc
          · exact h
        repeat (first | ((with_reducible apply s1); exact rfl) | (with_reducible first | apply CW.seq | apply CW.block | apply CW.region | apply CW.draw | apply CW.skip | apply CW.exit | apply CW.ret | apply q_then | apply q_then_exit | apply q_then_ret | apply q_block | apply q_block_ret | apply q_block_hit | apply q_ret | apply q_end | apply q_loop_exit | apply q_loop_ret | apply q_loopT_exit | apply q_loopT_ret | apply RW.nil) | ((with_reducible apply s3); exact rfl; exact by_k) | ((with_reducible apply s2); exact rfl; exact by_k) | ((with_reducible apply s4); exact rfl) | ((with_reducible apply s5); (first | exact by_oa); exact by_g) | ((with_reducible apply CW.cond_t); exact rfl; exact by_ks) | ((with_reducible apply CW.cond_f); exact rfl; exact by_ks) | ((with_reducible apply q_block_miss); exact rfl) | (refine And.intro (show chk [] [] _ _ = true by kernel_rfl) ?_))
        exact .two (.tmp rfl (.one (.d (.refl _)))) (.tmp rfl (.one (.d (dle_bool (by simp [isAtK, hc])))))
      | some c =>
        have h5 : i < l.length := (List.getElem?_eq_some_iff.1 hc).1
        have hcall := ok_find1 c k
        repeat (first | ((with_reducible apply s1); exact rfl) | (with_reducible first | apply CW.seq | apply CW.block | apply CW.region | apply CW.draw | apply CW.skip | apply CW.exit | apply CW.ret | apply q_then | apply q_then_exit | apply q_then_ret | apply q_block | apply q_block_ret | apply q_block_hit | apply q_ret | apply q_end | apply q_loop_exit | apply q_loop_ret | apply q_loopT_exit | apply q_loopT_ret | apply RW.nil) | ((with_reducible apply s3); exact rfl; exact by_k) | ((with_reducible apply s2); exact rfl; exact by_k) | ((with_reducible apply s4); exact rfl) | ((with_reducible apply s5); (first | (focus ((with_reducible apply a_callv); exact hcall; (iterate 2 exact rfl); (repeat (first | exact SubsE.nil | (apply SubsE.cons; exact rfl; (first | exact .d (.refl _) | exact .d (.nil _) | exact .agg rfl (.refl _) | exact .pd | exact .ptr rfl); (first | exact trivial | exact ⟨rfl, trivial⟩)))); done)) | exact by_oa); exact by_g) | ((with_reducible apply CW.cond_t); exact rfl; exact by_ks) | ((with_reducible apply CW.cond_f); exact rfl; exact by_ks) | ((with_reducible apply q_block_miss); exact rfl) | (refine And.intro (show chk [] [] _ _ = true by kernel_rfl) ?_))
        refine .two (.tmp rfl (.one (.d (.refl _)))) (.tmp rfl (.one (.d (dle_bool ?_))))
        rw [show isAt l k i = decide (c.key = k) by simp [isAt, isAtK, hc]]
        show decide (cmpT c.key k = 0) = decide (c.key = k)
        rw [decide_eq_decide]
        exact cmpT_zero

theorem ok_find (l : List Chain) (k : Str) (m : Nat) (hl : l.length ≤ 268435456) (hm : At l k m) : FnOk Try.prog 43 [.d (encChains l), .d (dstr k)] (.tup [dint m, dbool (isAt l k m)]) := by
  refine fnOk_of tbl_ok mixed_ok Try.func43 rfl (by kernel_rfl) rfl rfl fun w0 own0 => ?_
  have hc := ok_bsearch l k m hl hm
  repeat (first | ((with_reducible apply s1); exact rfl) | (with_reducible first | apply CW.seq | apply CW.block | apply CW.region | apply CW.draw | apply CW.skip | apply CW.exit | apply CW.ret | apply q_then | apply q_then_exit | apply q_then_ret | apply q_block | apply q_block_ret | apply q_block_hit | apply q_ret | apply q_end | apply q_loop_exit | apply q_loop_ret | apply q_loopT_exit | apply q_loopT_ret | apply RW.nil) | ((with_reducible apply s3); exact rfl; exact by_k) | ((with_reducible apply s2); exact rfl; exact by_k) | ((with_reducible apply s4); exact rfl) | ((with_reducible apply s5); (first | (focus ((with_reducible apply a_call); exact hc; exact rfl; (repeat (first | exact SubsE.nil | (apply SubsE.cons; exact rfl; (first | exact .d (.refl _) | exact .d (.nil _) | exact .agg rfl (.refl _) | exact .pd | exact .ptr rfl); (first | exact trivial | exact ⟨rfl, trivial⟩)))); done)) | exact by_oa); exact by_g) | ((with_reducible apply CW.cond_t); exact rfl; exact by_ks) | ((with_reducible apply CW.cond_f); exact rfl; exact by_ks) | ((with_reducible apply q_block_miss); exact rfl) | (refine And.intro (show chk [] [] _ _ = true by kernel_rfl) ?_))
  exact .two (.tmp rfl (.one (.d (.refl _)))) (.tmp rfl (.one (.d (.refl _))))

end Go.Proofs.Ytjopijlkpipljaa

/-! G8 -/
/-
  Contracts of the program's copies of chains: what comes back is the caller's own, and one chain's versions, too.
-/
namespace Go.Proofs.Ytjopijlkpipljaa
open Go.AX Go.RF

set_option maxRecDepth 100000
set_option maxHeartbeats 8000000

theorem new_chainOwn (l : List Chain) (hl : l.length ≤ 268435456) (hv : ∀ c ∈ l, c.vs.length ≤ 268435456) : FnNew Try.prog 36 [.d (encChains l)] 72 2 (l.map Chain.enc) := by
  refine fnNew_of tbl_ok mixed_ok Try.func36 rfl (by kernel_rfl) rfl rfl fun w0 own0 => ?_
  repeat (first | ((with_reducible apply s1); exact rfl) | (with_reducible first | apply CW.seq | apply CW.block | apply CW.region | apply CW.draw | apply CW.skip | apply CW.exit | apply CW.ret | apply q_then | apply q_then_exit | apply q_then_ret | apply q_block | apply q_block_ret | apply q_block_hit | apply q_ret | apply q_end | apply q_loop_exit | apply q_loop_ret | apply q_loopT_exit | apply q_loopT_ret | apply RW.nil) | ((with_reducible apply s3); exact rfl; exact by_k) | ((with_reducible apply s2); exact rfl; exact by_k) | ((with_reducible apply s4); exact rfl) | ((with_reducible apply s5); (first | exact by_oa); exact by_g) | ((with_reducible apply CW.cond_t); exact rfl; exact by_ks) | ((with_reducible apply CW.cond_f); exact rfl; exact by_ks) | ((with_reducible apply q_block_miss); exact rfl) | (refine And.intro (show chk [] [] _ _ = true by kernel_rfl) ?_))
  refine CW.stut (stut_promote (i := 3) 72 2) ⟨rfl, rfl, trivial⟩ ?_
  refine CW.loopT (fun i : Nat => [sd 6 (encChains l), sd 7 (dint l.length), sd 8 (dint i), so 3 0 i, oa 0 72 2 ((l.take i).map Chain.enc), nxt 1]) (fun i => i ≤ l.length) (fun i => l.length - i) 0 (by omega) ?_ ?_
  ·
    exact by_less
  · rintro i hi
    rcases drop_case hi with ⟨h1, h2⟩ | ⟨c, h1, h2, h3⟩
    · subst h2
      rw [List.take_length]
      repeat (first | ((with_reducible apply s1); exact rfl) | (with_reducible first | apply CW.seq | apply CW.block | apply CW.region | apply CW.draw | apply CW.skip | apply CW.exit | apply CW.ret | apply q_then | apply q_then_exit | apply q_then_ret | apply q_block | apply q_block_ret | apply q_block_hit | apply q_ret | apply q_end | apply q_loop_exit | apply q_loop_ret | apply q_loopT_exit | apply q_loopT_ret | apply RW.nil) | ((with_reducible apply s3); exact rfl; exact by_k) | ((with_reducible apply s2); exact rfl; exact by_k) | ((with_reducible apply s4); exact rfl) | ((with_reducible apply s5); (first | exact by_oa); exact by_g) | ((with_reducible apply CW.cond_t); exact rfl; exact by_ks) | ((with_reducible apply CW.cond_f); exact rfl; exact by_ks) | ((with_reducible apply q_block_miss); exact rfl) | (refine And.intro (show chk [] [] _ _ = true by kernel_rfl) ?_))
      exact RetNew.own rfl rfl (by simp)
    · have h4 : (l.take i).map Chain.enc ++ [c.enc] = (l.take (i + 1)).map Chain.enc := by rw [List.take_add_one, h2]; simp
      have hcv := hv c (List.mem_of_getElem? h2)
      have hc := ok_clone_version (c.vs.map Version.enc) (by simp; omega)
      repeat (first | ((with_reducible apply s1); exact rfl) | (with_reducible first | apply CW.seq | apply CW.block | apply CW.region | apply CW.draw | apply CW.skip | apply CW.exit | apply CW.ret | apply q_then | apply q_then_exit | apply q_then_ret | apply q_block | apply q_block_ret | apply q_block_hit | apply q_ret | apply q_end | apply q_loop_exit | apply q_loop_ret | apply q_loopT_exit | apply q_loopT_ret | apply RW.nil) | ((with_reducible apply s3); exact rfl; exact by_k) | ((with_reducible apply s2); exact rfl; exact by_k) | ((with_reducible apply s4); exact rfl) | ((with_reducible apply s5); (first | (focus ((with_reducible apply a_call); exact hc; exact rfl; (repeat (first | exact SubsE.nil | (apply SubsE.cons; exact rfl; (first | exact .d (.refl _) | exact .d (.nil _) | exact .agg rfl (.refl _) | exact .pd | exact .ptr rfl); (first | exact trivial | exact ⟨rfl, trivial⟩)))); done)) | exact by_oa); exact by_g) | ((with_reducible apply CW.cond_t); exact rfl; exact by_ks) | ((with_reducible apply CW.cond_f); exact rfl; exact by_ks) | ((with_reducible apply q_block_miss); exact rfl) | (refine And.intro (show chk [] [] _ _ = true by kernel_rfl) ?_))
      refine q_loopT (i + 1) (by omega) (by omega) ?_
      exact by_less

def keptRows (l : List Chain) (m : Nat) (c : Chain) (x : Value) : List (List D) := (l.map Chain.enc).set m [dstr c.key, .v x]

theorem own2_chain (l : List Chain) (m : Nat) (c0 : Chain) (h0 : l[m]? = some c0) (hl : l.length ≤ 268435456) (hv : ∀ c ∈ l, c.vs.length ≤ 268435456) :
    FnOwn2 Try.prog 36 [.d (encChains l)] 72 2 (keptRows l m c0) 48 4 (c0.vs.map Version.enc) := by
  refine fnOwn2_of tbl_ok mixed_ok Try.func36 rfl (by kernel_rfl) rfl rfl fun w0 own0 => ?_
  have hml : m < l.length := (List.getElem?_eq_some_iff.1 h0).1
  repeat (first | ((with_reducible apply s1); exact rfl) | (with_reducible first | apply CW.seq | apply CW.block | apply CW.region | apply CW.draw | apply CW.skip | apply CW.exit | apply CW.ret | apply q_then | apply q_then_exit | apply q_then_ret | apply q_block | apply q_block_ret | apply q_block_hit | apply q_ret | apply q_end | apply q_loop_exit | apply q_loop_ret | apply q_loopT_exit | apply q_loopT_ret | apply RW.nil) | ((with_reducible apply s3); exact rfl; exact by_k) | ((with_reducible apply s2); exact rfl; exact by_k) | ((with_reducible apply s4); exact rfl) | ((with_reducible apply s5); (first | exact by_oa); exact by_g) | ((with_reducible apply CW.cond_t); exact rfl; exact by_ks) | ((with_reducible apply CW.cond_f); exact rfl; exact by_ks) | ((with_reducible apply q_block_miss); exact rfl) | (refine And.intro (show chk [] [] _ _ = true by kernel_rfl) ?_))
  refine CW.stut (stut_promote (i := 3) 72 2) ⟨rfl, rfl, trivial⟩ ?_
  refine CW.loopT (fun t : Nat × Option Value => match t.2 with
      | none => [sd 6 (encChains l), sd 7 (dint l.length), sd 8 (dint t.1), so 3 0 t.1, oa 0 72 2 ((l.take t.1).map Chain.enc), nxt 1]
      | some x => [sd 6 (encChains l), sd 7 (dint l.length), sd 8 (dint t.1), so 3 0 t.1, oa 0 72 2 ((keptRows l m c0 x).take t.1), (.o 2, .ob (.pin 48 4 (c0.vs.map Version.enc) x)), nxt 3])
    (fun t => t.1 ≤ l.length ∧ (t.2 = none → t.1 ≤ m) ∧ (t.2 ≠ none → m < t.1)) (fun t => l.length - t.1) (0, none) ⟨by omega, fun _ => Nat.zero_le _, fun h => absurd rfl h⟩ ?_ ?_
  ·
    exact by_less
  · rintro ⟨i, o⟩ ⟨hi, hn, hs⟩
    dsimp only at hi hn hs ⊢
    have hkl : ∀ x, (keptRows l m c0 x).length = l.length := fun x => by simp [keptRows]
    cases o with
    | none =>
      have him := hn rfl
      dsimp only
      rcases drop_case hi with ⟨h1, h2⟩ | ⟨c, h1, h2, h3⟩
      · omega
      · have hcv := hv c (List.mem_of_getElem? h2)
        rcases Nat.lt_or_ge i m with hlt | hge
        · have h4 : (l.take i).map Chain.enc ++ [c.enc] = (l.take (i + 1)).map Chain.enc := by rw [List.take_add_one, h2]; simp
          have hc := ok_clone_version (c.vs.map Version.enc) (by simp; omega)
          repeat (first | ((with_reducible apply s1); exact rfl) | (with_reducible first | apply CW.seq | apply CW.block | apply CW.region | apply CW.draw | apply CW.skip | apply CW.exit | apply CW.ret | apply q_then | apply q_then_exit | apply q_then_ret | apply q_block | apply q_block_ret | apply q_block_hit | apply q_ret | apply q_end | apply q_loop_exit | apply q_loop_ret | apply q_loopT_exit | apply q_loopT_ret | apply RW.nil) | ((with_reducible apply s3); exact rfl; exact by_k) | ((with_reducible apply s2); exact rfl; exact by_k) | ((with_reducible apply s4); exact rfl) | ((with_reducible apply s5); (first | (focus ((with_reducible apply a_call); exact hc; exact rfl; (repeat (first | exact SubsE.nil | (apply SubsE.cons; exact rfl; (first | exact .d (.refl _) | exact .d (.nil _) | exact .agg rfl (.refl _) | exact .pd | exact .ptr rfl); (first | exact trivial | exact ⟨rfl, trivial⟩)))); done)) | exact by_oa); exact by_g) | ((with_reducible apply CW.cond_t); exact rfl; exact by_ks) | ((with_reducible apply CW.cond_f); exact rfl; exact by_ks) | ((with_reducible apply q_block_miss); exact rfl) | (refine And.intro (show chk [] [] _ _ = true by kernel_rfl) ?_))
          refine q_loopT (i + 1, none) ⟨by dsimp only; omega, fun _ => by dsimp only; omega, fun h => absurd rfl h⟩ (by dsimp only; omega) ?_
          exact by_less
        · obtain rfl : i = m := by omega
          obtain rfl : c0 = c := by rw [h0] at h2; exact Option.some.inj h2
          have h4 : ∀ x, (l.take i).map Chain.enc ++ [[dstr c0.key, .v x]] = (keptRows l i c0 x).take (i + 1) := fun x => by
            rw [keptRows, List.take_add_one, List.getElem?_set_self (by simpa using hml), List.take_set_of_le (Nat.le_refl _), List.map_take]; rfl
          have hc := new_clone_version (c0.vs.map Version.enc) (by simp; omega)
          repeat (first | (with_reducible apply stop_region 5) | ((with_reducible apply s1); exact rfl) | (with_reducible first | apply CW.seq | apply CW.block | apply CW.region | apply CW.draw | apply CW.skip | apply CW.exit | apply CW.ret | apply q_then | apply q_then_exit | apply q_then_ret | apply q_block | apply q_block_ret | apply q_block_hit | apply q_ret | apply q_end | apply q_loop_exit | apply q_loop_ret | apply q_loopT_exit | apply q_loopT_ret | apply RW.nil) | ((with_reducible apply s3); exact rfl; exact by_k) | ((with_reducible apply s2); exact rfl; exact by_k) | ((with_reducible apply s4); exact rfl) | ((with_reducible apply s5); (first | exact by_oa); exact by_g) | ((with_reducible apply CW.cond_t); exact rfl; exact by_ks) | ((with_reducible apply CW.cond_f); exact rfl; exact by_ks) | ((with_reducible apply q_block_miss); exact rfl) | (refine And.intro (show chk [] [] _ _ = true by kernel_rfl) ?_))
          refine Stop.go ?_
          apply CW.drawF (x0 := ((none, 0, 0) : Option Addr × Nat × Nat)) (l1 := [_, _, _, _, _]) (l2 := [_, _, _, _]) (tS := fun x => ⟨(rdOf (.tmp 16) (.d (encVs c0.vs)) ++ ([] ++ [])) ++ [(.nx, .num 2)], [(.s 17, .av (.d (.v (.slice x.1 x.2.1 x.2.2)))), (.o 2, .ob (.pin 48 4 (c0.vs.map Version.enc) (.slice x.1 x.2.1 x.2.2))), (.nx, .num 3)]⟩)
            (rs := (rdOf (.tmp 16) (.d (encVs c0.vs)) ++ ([] ++ [])) ++ [(.nx, .num 2)]) 
          · rfl
          · rfl
          · exact fun _ => rfl
          · exact fam_newpin rfl hc (.cons (x := .tmp 16) (av := .d (encVs c0.vs)) trivial (.d (.refl _)) .nil)
          · rfl
          repeat (first | ((with_reducible apply s1); exact rfl) | (with_reducible first | apply CW.seq | apply CW.block | apply CW.region | apply CW.draw | apply CW.skip | apply CW.exit | apply CW.ret | apply q_then | apply q_then_exit | apply q_then_ret | apply q_block | apply q_block_ret | apply q_block_hit | apply q_ret | apply q_end | apply q_loop_exit | apply q_loop_ret | apply q_loopT_exit | apply q_loopT_ret | apply RW.nil) | ((with_reducible apply s3); exact rfl; exact by_k) | ((with_reducible apply s2); exact rfl; exact by_k) | ((with_reducible apply s4); exact rfl) | ((with_reducible apply s5); (first | exact by_oa); exact by_g) | ((with_reducible apply CW.cond_t); exact rfl; exact by_ks) | ((with_reducible apply CW.cond_f); exact rfl; exact by_ks) | ((with_reducible apply q_block_miss); exact rfl) | (refine And.intro (show chk [] [] _ _ = true by kernel_rfl) ?_))
          refine And.intro ⟨rfl, rfl, trivial⟩ fun x => ?_
          obtain ⟨p, n, cp⟩ := x
          have h4' := h4 (.slice p n cp)
          have hk := hkl (.slice p n cp)
          dsimp only
          repeat (first | ((with_reducible apply s1); exact rfl) | (with_reducible first | apply CW.seq | apply CW.block | apply CW.region | apply CW.draw | apply CW.skip | apply CW.exit | apply CW.ret | apply q_then | apply q_then_exit | apply q_then_ret | apply q_block | apply q_block_ret | apply q_block_hit | apply q_ret | apply q_end | apply q_loop_exit | apply q_loop_ret | apply q_loopT_exit | apply q_loopT_ret | apply RW.nil) | ((with_reducible apply s3); exact rfl; exact by_k) | ((with_reducible apply s2); exact rfl; exact by_k) | ((with_reducible apply s4); exact rfl) | ((with_reducible apply s5); (first | exact by_oa); exact by_g) | ((with_reducible apply CW.cond_t); exact rfl; exact by_ks) | ((with_reducible apply CW.cond_f); exact rfl; exact by_ks) | ((with_reducible apply q_block_miss); exact rfl) | (refine And.intro (show chk [] [] _ _ = true by kernel_rfl) ?_))
          refine q_loopT (i + 1, some (.slice p n cp)) ⟨by dsimp only; omega, fun h => (by cases h), fun _ => by dsimp only; omega⟩ (by dsimp only; omega) ?_
          exact by_less
    | some x =>
      have him := hs (by simp)
      have hk := hkl x
      dsimp only
      rcases drop_case hi with ⟨h1, h2⟩ | ⟨c, h1, h2, h3⟩
      · subst h2
        rw [List.take_of_length_le (by rw [hkl]; exact Nat.le_refl _)]
        repeat (first | ((with_reducible apply s1); exact rfl) | (with_reducible first | apply CW.seq | apply CW.block | apply CW.region | apply CW.draw | apply CW.skip | apply CW.exit | apply CW.ret | apply q_then | apply q_then_exit | apply q_then_ret | apply q_block | apply q_block_ret | apply q_block_hit | apply q_ret | apply q_end | apply q_loop_exit | apply q_loop_ret | apply q_loopT_exit | apply q_loopT_ret | apply RW.nil) | ((with_reducible apply s3); exact rfl; exact by_k) | ((with_reducible apply s2); exact rfl; exact by_k) | ((with_reducible apply s4); exact rfl) | ((with_reducible apply s5); (first | exact by_oa); exact by_g) | ((with_reducible apply CW.cond_t); exact rfl; exact by_ks) | ((with_reducible apply CW.cond_f); exact rfl; exact by_ks) | ((with_reducible apply q_block_miss); exact rfl) | (refine And.intro (show chk [] [] _ _ = true by kernel_rfl) ?_))
        exact own2_ret (id2 := 2) rfl rfl (hkl x).symm rfl
      · have hcv := hv c (List.mem_of_getElem? h2)
        have h4 : (keptRows l m c0 x).take i ++ [c.enc] = (keptRows l m c0 x).take (i + 1) := by
          rw [List.take_add_one, keptRows, List.getElem?_set_ne (by omega)]; simp [h2]
        have hc := ok_clone_version (c.vs.map Version.enc) (by simp; omega)
        repeat (first | ((with_reducible apply s1); exact rfl) | (with_reducible first | apply CW.seq | apply CW.block | apply CW.region | apply CW.draw | apply CW.skip | apply CW.exit | apply CW.ret | apply q_then | apply q_then_exit | apply q_then_ret | apply q_block | apply q_block_ret | apply q_block_hit | apply q_ret | apply q_end | apply q_loop_exit | apply q_loop_ret | apply q_loopT_exit | apply q_loopT_ret | apply RW.nil) | ((with_reducible apply s3); exact rfl; exact by_k) | ((with_reducible apply s2); exact rfl; exact by_k) | ((with_reducible apply s4); exact rfl) | ((with_reducible apply s5); (first | (focus ((with_reducible apply a_call); exact hc; exact rfl; (repeat (first | exact SubsE.nil | (apply SubsE.cons; exact rfl; (first | exact .d (.refl _) | exact .d (.nil _) | exact .agg rfl (.refl _) | exact .pd | exact .ptr rfl); (first | exact trivial | exact ⟨rfl, trivial⟩)))); done)) | exact by_oa); exact by_g) | ((with_reducible apply CW.cond_t); exact rfl; exact by_ks) | ((with_reducible apply CW.cond_f); exact rfl; exact by_ks) | ((with_reducible apply q_block_miss); exact rfl) | (refine And.intro (show chk [] [] _ _ = true by kernel_rfl) ?_))
        refine q_loopT (i + 1, some x) ⟨by dsimp only; omega, fun h => (by cases h), fun _ => by dsimp only; omega⟩ (by dsimp only; omega) ?_
        exact by_less

end Go.Proofs.Ytjopijlkpipljaa

/-! R2 -/
/-
  Contracts of the program's Get, Put, Drop and Round of rows.
-/
namespace Go.Proofs.Ytjopijlkpipljaa
open Go.AX Go.RF Go.RowKit

set_option maxRecDepth 100000
set_option maxHeartbeats 8000000

/-! ### Rows in order: what a key has, given, taken -/
def putS (k : Str) (n : Int) : List Pair → List Pair
  | [] => [⟨k, n⟩]
  | p :: r => if p.key = k then ⟨k, n⟩ :: r else if slt p.key k = true then p :: putS k n r else ⟨k, n⟩ :: p :: r
def dropS (k : Str) : List Pair → List Pair
  | [] => []
  | p :: r => if p.key = k then r else p :: dropS k r

theorem dropS_none {k : Str} : ∀ {l : List Pair}, (∀ p ∈ l, p.key ≠ k) → dropS k l = l
  | [], _ => rfl
  | d :: l, h => by
    simp only [dropS]
    rw [if_neg (h d (List.mem_cons_self ..)), dropS_none fun p hp => h p (List.mem_cons_of_mem _ hp)]
theorem putGo_done {k : Str} {n : Int} {h : Bool} : ∀ {l out : List Pair}, (∀ p ∈ l, p.key ≠ k) → putGo k n h true out l = out ++ l
  | [], out, _ => by simp [putGo]
  | p :: l, out, hl => by
    simp only [putGo]
    rw [if_neg (hl p (List.mem_cons_self ..))]
    simp only [Bool.true_or, Bool.not_true, Bool.false_and, Bool.false_eq_true, if_false]
    rw [putGo_done fun q hq => hl q (List.mem_cons_of_mem _ hq)]
    simp
theorem putGo_srt {k : Str} {n : Int} {h : Bool} : ∀ {l out : List Pair}, Srt Pair.key l → putGo k n h false out l = out ++ (if h = true then putS k n l else dropS k l)
  | [], out, _ => by cases h <;> simp [putGo, putS, dropS]
  | p :: l, out, hs => by
    obtain ⟨h1, h2⟩ := List.pairwise_cons.1 hs
    cases hl : slt p.key k with
    | true =>
      have hk : p.key ≠ k := slt_ne hl
      simp only [putGo, hl]
      rw [if_neg hk]
      simp only [Bool.not_true, Bool.or_false, Bool.not_false, Bool.and_false, Bool.false_and, Bool.false_eq_true, if_false]
      rw [putGo_srt h2]
      cases h <;> simp [putS, dropS, hk, hl]
    | false =>
      have hne : ∀ q ∈ l, q.key ≠ k := fun q hq e => by
        have h3 := h1 q hq
        rw [e] at h3
        rw [h3] at hl; cases hl
      simp only [putGo, hl]
      simp only [Bool.not_false, Bool.or_true, Bool.true_and, Bool.and_true]
      rw [putGo_done hne]
      by_cases hk : p.key = k
      · cases h <;> simp [putS, dropS, hk]
      · cases h <;> simp [putS, dropS, hk, hl, dropS_none hne]
theorem put_true {l : List Pair} (hs : Srt Pair.key l) (k : Str) (n : Int) : put l k n true = putS k n l := by
  unfold put; rw [putGo_srt hs]; rfl
theorem put_false {l : List Pair} (hs : Srt Pair.key l) (k : Str) (n : Int) : put l k n false = dropS k l := by
  unfold put; rw [putGo_srt hs]; rfl
theorem putS_mem {k : Str} {n : Int} : ∀ {l : List Pair} {p : Pair}, p ∈ putS k n l → p ∈ l ∨ p = ⟨k, n⟩
  | [], p, h => by simp [putS] at h; exact .inr h
  | q :: l, p, h => by
    simp only [putS] at h
    split at h
    · rcases List.mem_cons.1 h with h | h
      · exact .inr h
      · exact .inl (List.mem_cons_of_mem _ h)
    · split at h
      · rcases List.mem_cons.1 h with h | h
        · exact .inl (h ▸ List.mem_cons_self ..)
        · rcases putS_mem h with h | h
          · exact .inl (List.mem_cons_of_mem _ h)
          · exact .inr h
      · rcases List.mem_cons.1 h with h | h
        · exact .inr h
        · exact .inl h
theorem dropS_sub {k : Str} : ∀ l : List Pair, (dropS k l).Sublist l
  | [] => List.Sublist.slnil
  | p :: l => by
    simp only [dropS]
    split
    · exact List.sublist_cons_self ..
    · exact (dropS_sub l).cons_cons _
theorem putS_srt {k : Str} {n : Int} : ∀ {l : List Pair}, Srt Pair.key l → Srt Pair.key (putS k n l)
  | [], _ => List.pairwise_singleton ..
  | c :: l, hs => by
    obtain ⟨h1, h2⟩ := List.pairwise_cons.1 hs
    simp only [putS]
    by_cases hk : c.key = k
    · rw [if_pos hk]
      exact List.pairwise_cons.2 ⟨fun d hd => by show slt k d.key = true; rw [← hk]; exact h1 d hd, h2⟩
    · rw [if_neg hk]
      split
      · next h3 =>
        refine List.pairwise_cons.2 ⟨fun d hd => ?_, putS_srt h2⟩
        rcases putS_mem hd with h | rfl
        · exact h1 d h
        · exact h3
      · next h3 =>
        have h4 : slt k c.key = true := by
          rcases slt_tri c.key k with h | h | h
          · exact absurd h h3
          · exact absurd h hk
          · exact h
        refine List.pairwise_cons.2 ⟨fun d hd => ?_, hs⟩
        rcases List.mem_cons.1 hd with rfl | hd
        · exact h4
        · exact slt_trans h4 (h1 d hd)
theorem dropS_srt {k : Str} {l : List Pair} (hs : Srt Pair.key l) : Srt Pair.key (dropS k l) := hs.sublist (dropS_sub l)
/-! ### The walks -/
theorem ok_pround (n : Int) (hn : inI n) : FnOk Try.prog 46 [.d (dint n)] (.one (dint (round n))) := by
  refine fnOk_of tbl_ok mixed_ok Try.func46 rfl (by kernel_rfl) rfl rfl fun w0 own0 => ?_
  repeat (first | ((with_reducible apply s1); exact rfl) | (with_reducible first | apply CW.seq | apply CW.block | apply CW.region | apply CW.draw | apply CW.skip | apply CW.exit | apply CW.ret | apply q_then | apply q_then_exit | apply q_then_ret | apply q_block | apply q_block_ret | apply q_block_hit | apply q_ret | apply q_end | apply q_loop_exit | apply q_loop_ret | apply q_loopT_exit | apply q_loopT_ret | apply RW.nil) | ((with_reducible apply s3); exact rfl; exact by_k) | ((with_reducible apply s2); exact rfl; exact by_k) | ((with_reducible apply s4); exact rfl) | ((with_reducible apply s5); (first | ((with_reducible apply a_bin); (iterate 2 exact rfl); exact bin_rem (by omega); exact rfl) | exact by_oa); exact by_g) | ((with_reducible apply CW.cond_t); exact rfl; exact by_ks) | ((with_reducible apply CW.cond_f); exact rfl; exact by_ks) | ((with_reducible apply q_block_miss); exact rfl) | (refine And.intro (show chk [] [] _ _ = true by kernel_rfl) ?_))
  refine .one (.tmp rfl (.one (.d (dle_eq ?_))))
  have h1 : n.tdiv 1073741825 * 1073741825 + n.tmod 1073741825 = n := Int.tdiv_mul_add_tmod n 1073741825
  show dint _ = dint _
  congr 1
  unfold round
  omega

end Go.Proofs.Ytjopijlkpipljaa

/-! F3 -/
/-
  Contracts of the references' functions on rows, continued.
-/
namespace Go.Proofs.Ytjopijlkpipljaa
open Go.AX Go.RF

set_option maxRecDepth 100000
set_option maxHeartbeats 4000000

theorem ok_put (l : List Pair) (k : Str) (n : Int) (hs : Bool) (hl : l.length ≤ 268435456) : FnOk Try.prog 25 [.d (encRows l), .d (dstr k), .d (dint n), .d (dbool hs)] (.one (encRows (put l k n hs))) := by
  refine fnOk_of tbl_ok mixed_ok Try.func25 rfl (by kernel_rfl) rfl rfl fun w0 own0 => ?_
  repeat (first | ((with_reducible apply s1); exact rfl) | (with_reducible first | apply CW.seq | apply CW.block | apply CW.region | apply CW.draw | apply CW.skip | apply CW.exit | apply CW.ret | apply q_then | apply q_then_exit | apply q_then_ret | apply q_block | apply q_block_ret | apply q_block_hit | apply q_ret | apply q_end | apply q_loop_exit | apply q_loop_ret | apply q_loopT_exit | apply q_loopT_ret | apply RW.nil) | ((with_reducible apply s3); exact rfl; exact by_k) | ((with_reducible apply s2); exact rfl; exact by_k) | ((with_reducible apply s4); exact rfl) | ((with_reducible apply s5); (first | exact by_oa); exact by_g) | ((with_reducible apply CW.cond_t); exact rfl; exact by_ks) | ((with_reducible apply CW.cond_f); exact rfl; exact by_ks) | ((with_reducible apply q_block_miss); exact rfl) | (refine And.intro (show chk [] [] _ _ = true by kernel_rfl) ?_))
  refine CW.stut (stut_promote (i := 9) 41 2) ⟨rfl, rfl, trivial⟩ ?_
  refine CW.loopT (fun t : Nat × Bool × List Pair => [(.s 1, .av (.d (dstr k))), (.s 2, .av (.d (dint n))), (.s 3, .av (.d (dbool hs))), (.s 9, .av (.own 0 t.2.2.length)), (.s 10, .av (.d (dbool t.2.1))), (.s 13, .av (.d (encRows l))), (.s 14, .av (.d (dint l.length))), (.s 15, .av (.d (dint t.1))), (.o 0, .ob (.arr 41 2 (t.2.2.map Pair.enc))), (.nx, .num 1)])
    (fun t => t.1 ≤ l.length ∧ t.2.2.length ≤ 2 * t.1 ∧ putGo k n hs t.2.1 t.2.2 (l.drop t.1) = put l k n hs) (fun t => l.length - t.1) (0, false, []) ⟨by omega, by simp, rfl⟩ ?_ ?_
  ·
    exact by_less
  · rintro ⟨i, done, out⟩ ⟨hi, ho, hI⟩
    dsimp only at hi ho hI ⊢
    rcases drop_case hi with ⟨h1, h2⟩ | ⟨p, h1, h2, h3⟩
    · rw [h1] at hI
      simp only [putGo] at hI
      cases done
      · cases hs
        ·
          repeat (first | ((with_reducible apply s1); exact rfl) | (with_reducible first | apply CW.seq | apply CW.block | apply CW.region | apply CW.draw | apply CW.skip | apply CW.exit | apply CW.ret | apply q_then | apply q_then_exit | apply q_then_ret | apply q_block | apply q_block_ret | apply q_block_hit | apply q_ret | apply q_end | apply q_loop_exit | apply q_loop_ret | apply q_loopT_exit | apply q_loopT_ret | apply RW.nil) | ((with_reducible apply s3); exact rfl; exact by_k) | ((with_reducible apply s2); exact rfl; exact by_k) | ((with_reducible apply s4); exact rfl) | ((with_reducible apply s5); (first | exact by_oa); exact by_g) | ((with_reducible apply CW.cond_t); exact rfl; exact by_ks) | ((with_reducible apply CW.cond_f); exact rfl; exact by_ks) | ((with_reducible apply q_block_miss); exact rfl) | (refine And.intro (show chk [] [] _ _ = true by kernel_rfl) ?_))
          exact .one (.tmp rfl (.one (.own rfl (by simp) (dle_eq (by rw [← hI]; rfl)))))
        ·
          repeat (first | ((with_reducible apply s1); exact rfl) | (with_reducible first | apply CW.seq | apply CW.block | apply CW.region | apply CW.draw | apply CW.skip | apply CW.exit | apply CW.ret | apply q_then | apply q_then_exit | apply q_then_ret | apply q_block | apply q_block_ret | apply q_block_hit | apply q_ret | apply q_end | apply q_loop_exit | apply q_loop_ret | apply q_loopT_exit | apply q_loopT_ret | apply RW.nil) | ((with_reducible apply s3); exact rfl; exact by_k) | ((with_reducible apply s2); exact rfl; exact by_k) | ((with_reducible apply s4); exact rfl) | ((with_reducible apply s5); (first | exact by_oa); exact by_g) | ((with_reducible apply CW.cond_t); exact rfl; exact by_ks) | ((with_reducible apply CW.cond_f); exact rfl; exact by_ks) | ((with_reducible apply q_block_miss); exact rfl) | (refine And.intro (show chk [] [] _ _ = true by kernel_rfl) ?_))
          exact .one (.tmp rfl (.one (.own rfl (by simp) (dle_eq (by rw [← hI]; simp [encRows]; rfl)))))
      ·
        repeat (first | ((with_reducible apply s1); exact rfl) | (with_reducible first | apply CW.seq | apply CW.block | apply CW.region | apply CW.draw | apply CW.skip | apply CW.exit | apply CW.ret | apply q_then | apply q_then_exit | apply q_then_ret | apply q_block | apply q_block_ret | apply q_block_hit | apply q_ret | apply q_end | apply q_loop_exit | apply q_loop_ret | apply q_loopT_exit | apply q_loopT_ret | apply RW.nil) | ((with_reducible apply s3); exact rfl; exact by_k) | ((with_reducible apply s2); exact rfl; exact by_k) | ((with_reducible apply s4); exact rfl) | ((with_reducible apply s5); (first | exact by_oa); exact by_g) | ((with_reducible apply CW.cond_t); exact rfl; exact by_ks) | ((with_reducible apply CW.cond_f); exact rfl; exact by_ks) | ((with_reducible apply q_block_miss); exact rfl) | (refine And.intro (show chk [] [] _ _ = true by kernel_rfl) ?_))
        exact .one (.tmp rfl (.one (.own rfl (by simp) (dle_eq (by rw [← hI]; rfl)))))
    · rw [h1] at hI
      simp only [putGo] at hI
      cases done <;> cases h5 : slt p.key k <;> cases hs <;> simp [h5] at hI <;> by_cases h4 : p.key = k <;> (first | rw [if_pos h4] at hI | rw [if_neg h4] at hI)
      all_goals
        repeat (first | ((with_reducible apply s1); exact rfl) | (with_reducible first | apply CW.seq | apply CW.block | apply CW.region | apply CW.draw | apply CW.skip | apply CW.exit | apply CW.ret | apply q_then | apply q_then_exit | apply q_then_ret | apply q_block | apply q_block_ret | apply q_block_hit | apply q_ret | apply q_end | apply q_loop_exit | apply q_loop_ret | apply q_loopT_exit | apply q_loopT_ret | apply RW.nil) | ((with_reducible apply s3); exact rfl; exact by_k) | ((with_reducible apply s2); exact rfl; exact by_k) | ((with_reducible apply s4); exact rfl) | ((with_reducible apply s5); (first | exact by_oa); exact by_g) | ((with_reducible apply CW.cond_t); exact rfl; exact by_ks) | ((with_reducible apply CW.cond_f); exact rfl; exact by_ks) | ((with_reducible apply q_block_miss); exact rfl) | (refine And.intro (show chk [] [] _ _ = true by kernel_rfl) ?_))
        refine q_loopT (i + 1, _, _) ⟨by omega, ?_, hI⟩ (by dsimp only; omega) ?_
        · dsimp only; (first | omega | (simp; omega))
        ·
          exact by_less

end Go.Proofs.Ytjopijlkpipljaa
