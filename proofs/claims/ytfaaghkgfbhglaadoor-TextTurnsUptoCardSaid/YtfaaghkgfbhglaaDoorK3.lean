/-
  Part 3 of what the claim leans on: F5 F17 F19 F20 P14 P15 ShTxt AxMap AxGen AxGen2 AxBsO G1 G3 P1 P4 P5 G15 H9 H2 H3 H7 H10 ShTrim R3 G20 G21.
-/
import Derived.Test.YtfaaghkgfbhglaaDoorK2
import Derived.Lib.ItoaLen
import Derived.Lib.Split
import Derived.Lib.Join
import Derived.Shelf.Strings.Split
import Derived.Shelf.Small.Wraps
import Derived.Shelf.Strings.OnBuilder
import Derived.Test.YtfaaghkgfbhglaaDoorProg
import Derived.Lib.SlTrimSet
import Derived.Shelf.Strings.SlTrimAscii

/-! F5 -/
/-
  Contract of the references' WrongDeed.
-/
namespace Go.Proofs.YtfaaghkgfbhglaaDoor
open Go.AX Go.RF

set_option maxRecDepth 100000
set_option maxHeartbeats 4000000

theorem ls_first {l : List Str} {r : List (List Str)} {v : Int} (h : lsGo (l :: r) = v) : (keysWrong l = 0 ∧ lsGo r = v) ∨ (keysWrong l ≠ 0 ∧ keysWrong l = v) := by
  simp only [lsGo] at h
  split at h
  · next h0 => exact .inl ⟨h0, h⟩
  · next h0 => exact .inr ⟨h0, h⟩

theorem ok_wrongDeed (d : Deed) (hr : d.reads.length ≤ 268435456) (hw : d.writes.length ≤ 268435456) (hc : d.code.length ≤ 268435456)
    (hrk : ∀ s ∈ d.reads, s.length ≤ 1073741824) (hwk : ∀ s ∈ d.writes, s.length ≤ 1073741824) : FnOk Tryd.prog 5 [.d (.agg d.enc)] (.one (dint (wrongDeed d))) := by
  refine fnOk_of tbl_ok mixed_ok Tryd.func5 rfl (by kernel_rfl) rfl rfl fun w0 own0 => ?_
  repeat (first|((with_reducible apply s5); ((with_reducible apply a_bs ([d.reads, d.writes].map fun l => [encStrs l])); (iterate 9 exact rfl); (repeat (first | exact PartsE.nil | (apply PartsE.cons; exact rfl; exact rfl)))); exact by_g)|((with_reducible apply s1); exact rfl)|(with_reducible first|apply CW.seq|apply CW.block|apply CW.region|apply CW.draw|apply CW.skip|apply CW.exit|apply CW.ret|apply q_then|apply q_then_exit|apply q_then_ret|apply q_block|apply q_block_ret|apply q_block_hit|apply q_ret|apply q_end|apply q_loop_exit|apply q_loop_ret|apply q_loopT_exit|apply q_loopT_ret|apply RW.nil)|((with_reducible apply s3); exact rfl; exact by_k)|((with_reducible apply s2); exact rfl; exact by_k)|((with_reducible apply s4); exact rfl)|((with_reducible apply s5); exact by_oa; exact by_g)|((with_reducible apply CW.cond_t); exact rfl; exact by_ks)|((with_reducible apply CW.cond_f); exact rfl; exact by_ks)|((with_reducible apply q_block_miss); exact rfl)|(refine And.intro (show chk [] [] _ _ = true by kernel_rfl) ?_))
  refine CW.loopT (fun j : Nat => [(.s 1, .av (.ptr 0 0)), (.o 0, .ob (.box (d.enc.map AV.d))), (.s 18, .av (.d (.sl 1 ([d.reads, d.writes].map fun l => [encStrs l])))), (.s 19, .av (.d (dint 2))), (.s 20, .av (.d (dint j))), (.nx, .num 1)])
    (fun j => j ≤ [d.reads, d.writes].length ∧ lsGo ([d.reads, d.writes].drop j) = lsGo [d.reads, d.writes]) (fun j => 2 - j) 0 ⟨by simp, rfl⟩ ?_ ?_
  ·
    exact by_less
  · rintro j ⟨hj, hI⟩
    have hj2 : j ≤ 2 := hj
    rcases drop_case hj with ⟨h1, h2⟩ | ⟨l, h1, h2, h3⟩
    · have h2' : j = 2 := h2
      rw [h1] at hI
      have hI' : lsGo [d.reads, d.writes] = 0 := hI.symm
      by_cases h4 : 12 < d.code.length
      ·
        repeat (first|((with_reducible apply s1); exact rfl)|(with_reducible first|apply CW.seq|apply CW.block|apply CW.region|apply CW.draw|apply CW.skip|apply CW.exit|apply CW.ret|apply q_then|apply q_then_exit|apply q_then_ret|apply q_block|apply q_block_ret|apply q_block_hit|apply q_ret|apply q_end|apply q_loop_exit|apply q_loop_ret|apply q_loopT_exit|apply q_loopT_ret|apply RW.nil)|((with_reducible apply s3); exact rfl; exact by_k)|((with_reducible apply s2); exact rfl; exact by_k)|((with_reducible apply s4); exact rfl)|((with_reducible apply s5); exact by_oa; exact by_g)|((with_reducible apply CW.cond_t); exact rfl; exact by_ks)|((with_reducible apply CW.cond_f); exact rfl; exact by_ks)|((with_reducible apply q_block_miss); exact rfl)|(refine And.intro (show chk [] [] _ _ = true by kernel_rfl) ?_))
        exact .one (.tmp rfl (.one (.d (dle_int (by simp [wrongDeed, hI', h4])))))
      ·
        repeat (first|((with_reducible apply s1); exact rfl)|(with_reducible first|apply CW.seq|apply CW.block|apply CW.region|apply CW.draw|apply CW.skip|apply CW.exit|apply CW.ret|apply q_then|apply q_then_exit|apply q_then_ret|apply q_block|apply q_block_ret|apply q_block_hit|apply q_ret|apply q_end|apply q_loop_exit|apply q_loop_ret|apply q_loopT_exit|apply q_loopT_ret|apply RW.nil)|((with_reducible apply s3); exact rfl; exact by_k)|((with_reducible apply s2); exact rfl; exact by_k)|((with_reducible apply s4); exact rfl)|((with_reducible apply s5); exact by_oa; exact by_g)|((with_reducible apply CW.cond_t); exact rfl; exact by_ks)|((with_reducible apply CW.cond_f); exact rfl; exact by_ks)|((with_reducible apply q_block_miss); exact rfl)|(refine And.intro (show chk [] [] _ _ = true by kernel_rfl) ?_))
        refine CW.loopT (fun k : Nat => [(.s 1, .av (.ptr 0 0)), (.o 0, .ob (.box (d.enc.map AV.d))), (.s 51, .av (.d (encCode d.code))), (.s 52, .av (.d (dint d.code.length))), (.s 53, .av (.d (dint k))), (.nx, .num 1)])
          (fun k => k ≤ d.code.length ∧ codeGo d k (d.code.drop k) = codeGo d 0 d.code) (fun k => d.code.length - k) 0 ⟨by omega, rfl⟩ ?_ ?_
        ·
          exact by_less
        · rintro k ⟨hk, hC⟩
          rcases drop_case hk with ⟨h5, h6⟩ | ⟨i, h5, h6, h7⟩
          · rw [h5] at hC
            simp only [codeGo] at hC
            repeat (first|((with_reducible apply s1); exact rfl)|(with_reducible first|apply CW.seq|apply CW.block|apply CW.region|apply CW.draw|apply CW.skip|apply CW.exit|apply CW.ret|apply q_then|apply q_then_exit|apply q_then_ret|apply q_block|apply q_block_ret|apply q_block_hit|apply q_ret|apply q_end|apply q_loop_exit|apply q_loop_ret|apply q_loopT_exit|apply q_loopT_ret|apply RW.nil)|((with_reducible apply s3); exact rfl; exact by_k)|((with_reducible apply s2); exact rfl; exact by_k)|((with_reducible apply s4); exact rfl)|((with_reducible apply s5); exact by_oa; exact by_g)|((with_reducible apply CW.cond_t); exact rfl; exact by_ks)|((with_reducible apply CW.cond_f); exact rfl; exact by_ks)|((with_reducible apply q_block_miss); exact rfl)|(refine And.intro (show chk [] [] _ _ = true by kernel_rfl) ?_))
            exact .one (.tmp rfl (.one (.d (dle_int (by rw [wrongDeed, if_pos hI', if_neg h4, hC])))))
          · rw [h5] at hC
            have hbad : wrongIns d ((d.code.length : Int) - 1 - k) i ≠ 0 → wrongIns d ((d.code.length : Int) - 1 - k) i = wrongDeed d := fun h0 => by
              rw [codeGo, if_neg h0] at hC
              rw [wrongDeed, if_pos hI', if_neg h4, hC]
            have hgood : wrongIns d ((d.code.length : Int) - 1 - k) i = 0 → codeGo d (k + 1) (d.code.drop (k + 1)) = codeGo d 0 d.code := fun h0 => by
              rw [codeGo, if_pos h0] at hC
              exact hC
            clear hC h5
            obtain ⟨kd0, ia, ib, n, key⟩ := i
            by_cases hk1 : kd0 < 1
            ·
              repeat (first|((with_reducible apply s1); exact rfl)|(with_reducible first|apply CW.seq|apply CW.block|apply CW.region|apply CW.draw|apply CW.skip|apply CW.exit|apply CW.ret|apply q_then|apply q_then_exit|apply q_then_ret|apply q_block|apply q_block_ret|apply q_block_hit|apply q_ret|apply q_end|apply q_loop_exit|apply q_loop_ret|apply q_loopT_exit|apply q_loopT_ret|apply RW.nil)|((with_reducible apply s3); exact rfl; exact by_k)|((with_reducible apply s2); exact rfl; exact by_k)|((with_reducible apply s4); exact rfl)|((with_reducible apply s5); exact by_oa; exact by_g)|((with_reducible apply CW.cond_t); exact rfl; exact by_ks)|((with_reducible apply CW.cond_f); exact rfl; exact by_ks)|((with_reducible apply q_block_miss); exact rfl)|(refine And.intro (show chk [] [] _ _ = true by kernel_rfl) ?_))
              have h0 : wrongIns d ((d.code.length : Int) - 1 - k) ⟨kd0, ia, ib, n, key⟩ = 1 := by simp [wrongIns, hk1]
              exact .one (.tmp rfl (.one (.d (dle_int (by rw [← hbad (by rw [h0]; decide), h0])))))
            · by_cases hk9 : 9 < kd0
              ·
                repeat (first|((with_reducible apply s1); exact rfl)|(with_reducible first|apply CW.seq|apply CW.block|apply CW.region|apply CW.draw|apply CW.skip|apply CW.exit|apply CW.ret|apply q_then|apply q_then_exit|apply q_then_ret|apply q_block|apply q_block_ret|apply q_block_hit|apply q_ret|apply q_end|apply q_loop_exit|apply q_loop_ret|apply q_loopT_exit|apply q_loopT_ret|apply RW.nil)|((with_reducible apply s3); exact rfl; exact by_k)|((with_reducible apply s2); exact rfl; exact by_k)|((with_reducible apply s4); exact rfl)|((with_reducible apply s5); exact by_oa; exact by_g)|((with_reducible apply CW.cond_t); exact rfl; exact by_ks)|((with_reducible apply CW.cond_f); exact rfl; exact by_ks)|((with_reducible apply q_block_miss); exact rfl)|(refine And.intro (show chk [] [] _ _ = true by kernel_rfl) ?_))
                have h0 : wrongIns d ((d.code.length : Int) - 1 - k) ⟨kd0, ia, ib, n, key⟩ = 1 := by simp [wrongIns, hk9]
                exact .one (.tmp rfl (.one (.d (dle_int (by rw [← hbad (by rw [h0]; decide), h0])))))
              · obtain ⟨kd, rfl⟩ := Int.eq_ofNat_of_zero_le (show 0 ≤ kd0 by omega)
                have hkd : kd < 10 := by omega
                have hcA := ok_has kd 114 hkd
                have hcB := ok_has kd 115 hkd
                have hcK := ok_has kd 107 hkd
                repeat (first|((with_reducible apply stop_at 21); exact rfl)|((with_reducible apply s1); exact rfl)|(with_reducible first|apply CW.seq|apply CW.block|apply CW.region|apply CW.draw|apply CW.skip|apply CW.exit|apply CW.ret|apply q_then|apply q_then_exit|apply q_then_ret|apply q_block|apply q_block_ret|apply q_block_hit|apply q_ret|apply q_end|apply q_loop_exit|apply q_loop_ret|apply q_loopT_exit|apply q_loopT_ret|apply RW.nil)|((with_reducible apply s3); exact rfl; exact by_k)|((with_reducible apply s2); exact rfl; exact by_k)|((with_reducible apply s4); exact rfl)|((with_reducible apply s5); exact by_oa; exact by_g)|((with_reducible apply CW.cond_t); exact rfl; exact by_ks)|((with_reducible apply CW.cond_f); exact rfl; exact by_ks)|((with_reducible apply q_block_miss); exact rfl)|(refine And.intro (show chk [] [] _ _ = true by kernel_rfl) ?_))
                refine Stop.cutk [(.s 9, .av (.d (dint (insA kd))))] [.s 1, .s 51, .s 52, .s 53, .s 7, .s 8, .s 10, .s 11, .s 12, .o 0, .o 1, .nx] ?_ ?_
                · unfold insA
                  cases hA : has kd 114
                  ·
                    repeat (first|((with_reducible apply s1); exact rfl)|(with_reducible first|apply CW.seq|apply CW.block|apply CW.region|apply CW.draw|apply CW.skip|apply CW.exit|apply CW.ret|apply q_then|apply q_then_exit|apply q_then_ret|apply q_block|apply q_block_ret|apply q_block_hit|apply q_ret|apply q_end|apply q_loop_exit|apply q_loop_ret|apply q_loopT_exit|apply q_loopT_ret|apply RW.nil)|((with_reducible apply s3); exact rfl; exact by_k)|((with_reducible apply s2); exact rfl; exact by_k)|((with_reducible apply s4); exact rfl)|((with_reducible apply s5); (first|exact a_call hcA rfl by_sub|exact by_oa); exact by_g)|((with_reducible apply CW.cond_t); exact rfl; exact by_ks)|((with_reducible apply CW.cond_f); exact rfl; exact by_ks)|((with_reducible apply q_block_miss); exact rfl)|(refine And.intro (show chk [] [] _ _ = true by kernel_rfl) ?_))
                    refine q_cut ?_
                    exact by_less
                  ·
                    repeat (first|((with_reducible apply s1); exact rfl)|(with_reducible first|apply CW.seq|apply CW.block|apply CW.region|apply CW.draw|apply CW.skip|apply CW.exit|apply CW.ret|apply q_then|apply q_then_exit|apply q_then_ret|apply q_block|apply q_block_ret|apply q_block_hit|apply q_ret|apply q_end|apply q_loop_exit|apply q_loop_ret|apply q_loopT_exit|apply q_loopT_ret|apply RW.nil)|((with_reducible apply s3); exact rfl; exact by_k)|((with_reducible apply s2); exact rfl; exact by_k)|((with_reducible apply s4); exact rfl)|((with_reducible apply s5); (first|exact a_call hcA rfl by_sub|exact by_oa); exact by_g)|((with_reducible apply CW.cond_t); exact rfl; exact by_ks)|((with_reducible apply CW.cond_f); exact rfl; exact by_ks)|((with_reducible apply q_block_miss); exact rfl)|(refine And.intro (show chk [] [] _ _ = true by kernel_rfl) ?_))
                    refine q_cut ?_
                    exact by_less
                repeat (first|((with_reducible apply stop_at 23); exact rfl)|((with_reducible apply s1); exact rfl)|(with_reducible first|apply CW.seq|apply CW.block|apply CW.region|apply CW.draw|apply CW.skip|apply CW.exit|apply CW.ret|apply q_then|apply q_then_exit|apply q_then_ret|apply q_block|apply q_block_ret|apply q_block_hit|apply q_ret|apply q_end|apply q_loop_exit|apply q_loop_ret|apply q_loopT_exit|apply q_loopT_ret|apply RW.nil)|((with_reducible apply s3); exact rfl; exact by_k)|((with_reducible apply s2); exact rfl; exact by_k)|((with_reducible apply s4); exact rfl)|((with_reducible apply s5); exact by_oa; exact by_g)|((with_reducible apply CW.cond_t); exact rfl; exact by_ks)|((with_reducible apply CW.cond_f); exact rfl; exact by_ks)|((with_reducible apply q_block_miss); exact rfl)|(refine And.intro (show chk [] [] _ _ = true by kernel_rfl) ?_))
                refine Stop.cutk [(.s 10, .av (.d (dint (insB kd))))] [.s 1, .s 51, .s 52, .s 53, .s 7, .s 8, .s 9, .s 11, .s 12, .o 0, .o 1, .nx] ?_ ?_
                · unfold insB
                  cases hA : has kd 115
                  ·
                    repeat (first|((with_reducible apply s1); exact rfl)|(with_reducible first|apply CW.seq|apply CW.block|apply CW.region|apply CW.draw|apply CW.skip|apply CW.exit|apply CW.ret|apply q_then|apply q_then_exit|apply q_then_ret|apply q_block|apply q_block_ret|apply q_block_hit|apply q_ret|apply q_end|apply q_loop_exit|apply q_loop_ret|apply q_loopT_exit|apply q_loopT_ret|apply RW.nil)|((with_reducible apply s3); exact rfl; exact by_k)|((with_reducible apply s2); exact rfl; exact by_k)|((with_reducible apply s4); exact rfl)|((with_reducible apply s5); (first|exact a_call hcB rfl by_sub|exact by_oa); exact by_g)|((with_reducible apply CW.cond_t); exact rfl; exact by_ks)|((with_reducible apply CW.cond_f); exact rfl; exact by_ks)|((with_reducible apply q_block_miss); exact rfl)|(refine And.intro (show chk [] [] _ _ = true by kernel_rfl) ?_))
                    refine q_cut ?_
                    exact by_less
                  ·
                    repeat (first|((with_reducible apply s1); exact rfl)|(with_reducible first|apply CW.seq|apply CW.block|apply CW.region|apply CW.draw|apply CW.skip|apply CW.exit|apply CW.ret|apply q_then|apply q_then_exit|apply q_then_ret|apply q_block|apply q_block_ret|apply q_block_hit|apply q_ret|apply q_end|apply q_loop_exit|apply q_loop_ret|apply q_loopT_exit|apply q_loopT_ret|apply RW.nil)|((with_reducible apply s3); exact rfl; exact by_k)|((with_reducible apply s2); exact rfl; exact by_k)|((with_reducible apply s4); exact rfl)|((with_reducible apply s5); (first|exact a_call hcB rfl by_sub|exact by_oa); exact by_g)|((with_reducible apply CW.cond_t); exact rfl; exact by_ks)|((with_reducible apply CW.cond_f); exact rfl; exact by_ks)|((with_reducible apply q_block_miss); exact rfl)|(refine And.intro (show chk [] [] _ _ = true by kernel_rfl) ?_))
                    refine q_cut ?_
                    exact by_less
                repeat (first|((with_reducible apply stop_at 25); exact rfl)|((with_reducible apply s1); exact rfl)|(with_reducible first|apply CW.seq|apply CW.block|apply CW.region|apply CW.draw|apply CW.skip|apply CW.exit|apply CW.ret|apply q_then|apply q_then_exit|apply q_then_ret|apply q_block|apply q_block_ret|apply q_block_hit|apply q_ret|apply q_end|apply q_loop_exit|apply q_loop_ret|apply q_loopT_exit|apply q_loopT_ret|apply RW.nil)|((with_reducible apply s3); exact rfl; exact by_k)|((with_reducible apply s2); exact rfl; exact by_k)|((with_reducible apply s4); exact rfl)|((with_reducible apply s5); exact by_oa; exact by_g)|((with_reducible apply CW.cond_t); exact rfl; exact by_ks)|((with_reducible apply CW.cond_f); exact rfl; exact by_ks)|((with_reducible apply q_block_miss); exact rfl)|(refine And.intro (show chk [] [] _ _ = true by kernel_rfl) ?_))
                refine Stop.cutk [(.s 11, .av (.d (dint (if kd = 2 then -1073741824 else 0)))), (.s 12, .av (.d (dint (if kd = 2 then 1073741824 else 0))))] [.s 1, .s 51, .s 52, .s 53, .s 7, .s 8, .s 9, .s 10, .o 0, .o 1, .nx] ?_ ?_
                · by_cases hA : kd = 2
                  · rw [if_pos hA, if_pos hA]
                    repeat (first|((with_reducible apply s1); exact rfl)|(with_reducible first|apply CW.seq|apply CW.block|apply CW.region|apply CW.draw|apply CW.skip|apply CW.exit|apply CW.ret|apply q_then|apply q_then_exit|apply q_then_ret|apply q_block|apply q_block_ret|apply q_block_hit|apply q_ret|apply q_end|apply q_loop_exit|apply q_loop_ret|apply q_loopT_exit|apply q_loopT_ret|apply RW.nil)|((with_reducible apply s3); exact rfl; exact by_k)|((with_reducible apply s2); exact rfl; exact by_k)|((with_reducible apply s4); exact rfl)|((with_reducible apply s5); exact by_oa; exact by_g)|((with_reducible apply CW.cond_t); exact rfl; exact by_ks)|((with_reducible apply CW.cond_f); exact rfl; exact by_ks)|((with_reducible apply q_block_miss); exact rfl)|(refine And.intro (show chk [] [] _ _ = true by kernel_rfl) ?_))
                    refine q_cut ?_
                    exact by_less
                  · rw [if_neg hA, if_neg hA]
                    repeat (first|((with_reducible apply s1); exact rfl)|(with_reducible first|apply CW.seq|apply CW.block|apply CW.region|apply CW.draw|apply CW.skip|apply CW.exit|apply CW.ret|apply q_then|apply q_then_exit|apply q_then_ret|apply q_block|apply q_block_ret|apply q_block_hit|apply q_ret|apply q_end|apply q_loop_exit|apply q_loop_ret|apply q_loopT_exit|apply q_loopT_ret|apply RW.nil)|((with_reducible apply s3); exact rfl; exact by_k)|((with_reducible apply s2); exact rfl; exact by_k)|((with_reducible apply s4); exact rfl)|((with_reducible apply s5); exact by_oa; exact by_g)|((with_reducible apply CW.cond_t); exact rfl; exact by_ks)|((with_reducible apply CW.cond_f); exact rfl; exact by_ks)|((with_reducible apply q_block_miss); exact rfl)|(refine And.intro (show chk [] [] _ _ = true by kernel_rfl) ?_))
                    refine q_cut ?_
                    exact by_less
                repeat (first|((with_reducible apply stop_at 27); exact rfl)|((with_reducible apply s1); exact rfl)|(with_reducible first|apply CW.seq|apply CW.block|apply CW.region|apply CW.draw|apply CW.skip|apply CW.exit|apply CW.ret|apply q_then|apply q_then_exit|apply q_then_ret|apply q_block|apply q_block_ret|apply q_block_hit|apply q_ret|apply q_end|apply q_loop_exit|apply q_loop_ret|apply q_loopT_exit|apply q_loopT_ret|apply RW.nil)|((with_reducible apply s3); exact rfl; exact by_k)|((with_reducible apply s2); exact rfl; exact by_k)|((with_reducible apply s4); exact rfl)|((with_reducible apply s5); exact by_oa; exact by_g)|((with_reducible apply CW.cond_t); exact rfl; exact by_ks)|((with_reducible apply CW.cond_f); exact rfl; exact by_ks)|((with_reducible apply q_block_miss); exact rfl)|(refine And.intro (show chk [] [] _ _ = true by kernel_rfl) ?_))
                refine Stop.cutk [(.s 11, .av (.d (dint (insLow kd)))), (.s 12, .av (.d (dint (insHigh kd ((d.code.length : Int) - 1 - k)))))] [.s 1, .s 51, .s 52, .s 53, .s 7, .s 8, .s 9, .s 10, .o 0, .o 1, .nx] ?_ ?_
                · by_cases hA : kd = 8
                  · have hB : ¬ kd = 2 := by omega
                    rw [insLow, insHigh, if_neg hB, if_neg hB, if_neg hB, if_neg hB, if_pos hA, if_pos hA]
                    repeat (first|((with_reducible apply st_bin); exact rfl; exact rfl; (apply bin_sub; simp only [List.length_map]; omega); exact .none rfl; exact rfl)|((with_reducible apply s1); exact rfl)|(with_reducible first|apply CW.seq|apply CW.block|apply CW.region|apply CW.draw|apply CW.skip|apply CW.exit|apply CW.ret|apply q_then|apply q_then_exit|apply q_then_ret|apply q_block|apply q_block_ret|apply q_block_hit|apply q_ret|apply q_end|apply q_loop_exit|apply q_loop_ret|apply q_loopT_exit|apply q_loopT_ret|apply RW.nil)|((with_reducible apply s3); exact rfl; exact by_k)|((with_reducible apply s2); exact rfl; exact by_k)|((with_reducible apply s4); exact rfl)|((with_reducible apply s5); exact by_oa; exact by_g)|((with_reducible apply CW.cond_t); exact rfl; exact by_ks)|((with_reducible apply CW.cond_f); exact rfl; exact by_ks)|((with_reducible apply q_block_miss); exact rfl)|(refine And.intro (show chk [] [] _ _ = true by kernel_rfl) ?_))
                    refine q_cut ?_
                    exact by_less
                  · rw [insLow, insHigh, if_neg hA, if_neg hA]
                    repeat (first|((with_reducible apply s1); exact rfl)|(with_reducible first|apply CW.seq|apply CW.block|apply CW.region|apply CW.draw|apply CW.skip|apply CW.exit|apply CW.ret|apply q_then|apply q_then_exit|apply q_then_ret|apply q_block|apply q_block_ret|apply q_block_hit|apply q_ret|apply q_end|apply q_loop_exit|apply q_loop_ret|apply q_loopT_exit|apply q_loopT_ret|apply RW.nil)|((with_reducible apply s3); exact rfl; exact by_k)|((with_reducible apply s2); exact rfl; exact by_k)|((with_reducible apply s4); exact rfl)|((with_reducible apply s5); exact by_oa; exact by_g)|((with_reducible apply CW.cond_t); exact rfl; exact by_ks)|((with_reducible apply CW.cond_f); exact rfl; exact by_ks)|((with_reducible apply q_block_miss); exact rfl)|(refine And.intro (show chk [] [] _ _ = true by kernel_rfl) ?_))
                    refine q_cut ?_
                    exact by_less
                repeat (first|(with_reducible apply stop_reg 29)|((with_reducible apply s1); exact rfl)|(with_reducible first|apply CW.seq|apply CW.block|apply CW.region|apply CW.draw|apply CW.skip|apply CW.exit|apply CW.ret|apply q_then|apply q_then_exit|apply q_then_ret|apply q_block|apply q_block_ret|apply q_block_hit|apply q_ret|apply q_end|apply q_loop_exit|apply q_loop_ret|apply q_loopT_exit|apply q_loopT_ret|apply RW.nil)|((with_reducible apply s3); exact rfl; exact by_k)|((with_reducible apply s2); exact rfl; exact by_k)|((with_reducible apply s4); exact rfl)|((with_reducible apply s5); exact by_oa; exact by_g)|((with_reducible apply CW.cond_t); exact rfl; exact by_ks)|((with_reducible apply CW.cond_f); exact rfl; exact by_ks)|((with_reducible apply q_block_miss); exact rfl)|(refine And.intro (show chk [] [] _ _ = true by kernel_rfl) ?_))
                refine Stop.cutk [(.s 115, .av (.d (dbool (insOut kd ia ib n ((d.code.length : Int) - 1 - k)))))] [.s 1, .s 51, .s 52, .s 53, .s 8, .o 0, .o 1, .nx] ?_ ?_
                · unfold insOut
                  by_cases c1 : ia < 0
                  · rw [decide_eq_true c1]
                    repeat (first|((with_reducible apply s1); exact rfl)|(with_reducible first|apply CW.seq|apply CW.block|apply CW.region|apply CW.draw|apply CW.skip|apply CW.exit|apply CW.ret|apply q_then|apply q_then_exit|apply q_then_ret|apply q_block|apply q_block_ret|apply q_block_hit|apply q_ret|apply q_end|apply q_loop_exit|apply q_loop_ret|apply q_loopT_exit|apply q_loopT_ret|apply RW.nil)|((with_reducible apply s3); exact rfl; exact by_k)|((with_reducible apply s2); exact rfl; exact by_k)|((with_reducible apply s4); exact rfl)|((with_reducible apply s5); exact by_oa; exact by_g)|((with_reducible apply CW.cond_t); exact rfl; exact by_ks)|((with_reducible apply CW.cond_f); exact rfl; exact by_ks)|((with_reducible apply q_block_miss); exact rfl)|(refine And.intro (show chk [] [] _ _ = true by kernel_rfl) ?_))
                    refine q_cut ?_
                    exact by_less
                  rw [decide_eq_false c1, Bool.false_or]
                  by_cases c2 : insA kd < ia
                  · rw [decide_eq_true c2]
                    repeat (first|((with_reducible apply s1); exact rfl)|(with_reducible first|apply CW.seq|apply CW.block|apply CW.region|apply CW.draw|apply CW.skip|apply CW.exit|apply CW.ret|apply q_then|apply q_then_exit|apply q_then_ret|apply q_block|apply q_block_ret|apply q_block_hit|apply q_ret|apply q_end|apply q_loop_exit|apply q_loop_ret|apply q_loopT_exit|apply q_loopT_ret|apply RW.nil)|((with_reducible apply s3); exact rfl; exact by_k)|((with_reducible apply s2); exact rfl; exact by_k)|((with_reducible apply s4); exact rfl)|((with_reducible apply s5); exact by_oa; exact by_g)|((with_reducible apply CW.cond_t); exact rfl; exact by_ks)|((with_reducible apply CW.cond_f); exact rfl; exact by_ks)|((with_reducible apply q_block_miss); exact rfl)|(refine And.intro (show chk [] [] _ _ = true by kernel_rfl) ?_))
                    refine q_cut ?_
                    exact by_less
                  rw [decide_eq_false c2, Bool.false_or]
                  by_cases c3 : ib < 0
                  · rw [decide_eq_true c3]
                    repeat (first|((with_reducible apply s1); exact rfl)|(with_reducible first|apply CW.seq|apply CW.block|apply CW.region|apply CW.draw|apply CW.skip|apply CW.exit|apply CW.ret|apply q_then|apply q_then_exit|apply q_then_ret|apply q_block|apply q_block_ret|apply q_block_hit|apply q_ret|apply q_end|apply q_loop_exit|apply q_loop_ret|apply q_loopT_exit|apply q_loopT_ret|apply RW.nil)|((with_reducible apply s3); exact rfl; exact by_k)|((with_reducible apply s2); exact rfl; exact by_k)|((with_reducible apply s4); exact rfl)|((with_reducible apply s5); exact by_oa; exact by_g)|((with_reducible apply CW.cond_t); exact rfl; exact by_ks)|((with_reducible apply CW.cond_f); exact rfl; exact by_ks)|((with_reducible apply q_block_miss); exact rfl)|(refine And.intro (show chk [] [] _ _ = true by kernel_rfl) ?_))
                    refine q_cut ?_
                    exact by_less
                  rw [decide_eq_false c3, Bool.false_or]
                  by_cases c4 : insB kd < ib
                  · rw [decide_eq_true c4]
                    repeat (first|((with_reducible apply s1); exact rfl)|(with_reducible first|apply CW.seq|apply CW.block|apply CW.region|apply CW.draw|apply CW.skip|apply CW.exit|apply CW.ret|apply q_then|apply q_then_exit|apply q_then_ret|apply q_block|apply q_block_ret|apply q_block_hit|apply q_ret|apply q_end|apply q_loop_exit|apply q_loop_ret|apply q_loopT_exit|apply q_loopT_ret|apply RW.nil)|((with_reducible apply s3); exact rfl; exact by_k)|((with_reducible apply s2); exact rfl; exact by_k)|((with_reducible apply s4); exact rfl)|((with_reducible apply s5); exact by_oa; exact by_g)|((with_reducible apply CW.cond_t); exact rfl; exact by_ks)|((with_reducible apply CW.cond_f); exact rfl; exact by_ks)|((with_reducible apply q_block_miss); exact rfl)|(refine And.intro (show chk [] [] _ _ = true by kernel_rfl) ?_))
                    refine q_cut ?_
                    exact by_less
                  rw [decide_eq_false c4, Bool.false_or]
                  by_cases c5 : n < insLow kd
                  · rw [decide_eq_true c5]
                    repeat (first|((with_reducible apply s1); exact rfl)|(with_reducible first|apply CW.seq|apply CW.block|apply CW.region|apply CW.draw|apply CW.skip|apply CW.exit|apply CW.ret|apply q_then|apply q_then_exit|apply q_then_ret|apply q_block|apply q_block_ret|apply q_block_hit|apply q_ret|apply q_end|apply q_loop_exit|apply q_loop_ret|apply q_loopT_exit|apply q_loopT_ret|apply RW.nil)|((with_reducible apply s3); exact rfl; exact by_k)|((with_reducible apply s2); exact rfl; exact by_k)|((with_reducible apply s4); exact rfl)|((with_reducible apply s5); exact by_oa; exact by_g)|((with_reducible apply CW.cond_t); exact rfl; exact by_ks)|((with_reducible apply CW.cond_f); exact rfl; exact by_ks)|((with_reducible apply q_block_miss); exact rfl)|(refine And.intro (show chk [] [] _ _ = true by kernel_rfl) ?_))
                    refine q_cut ?_
                    exact by_less
                  rw [decide_eq_false c5, Bool.false_or]
                  repeat (first|((with_reducible apply s1); exact rfl)|(with_reducible first|apply CW.seq|apply CW.block|apply CW.region|apply CW.draw|apply CW.skip|apply CW.exit|apply CW.ret|apply q_then|apply q_then_exit|apply q_then_ret|apply q_block|apply q_block_ret|apply q_block_hit|apply q_ret|apply q_end|apply q_loop_exit|apply q_loop_ret|apply q_loopT_exit|apply q_loopT_ret|apply RW.nil)|((with_reducible apply s3); exact rfl; exact by_k)|((with_reducible apply s2); exact rfl; exact by_k)|((with_reducible apply s4); exact rfl)|((with_reducible apply s5); exact by_oa; exact by_g)|((with_reducible apply CW.cond_t); exact rfl; exact by_ks)|((with_reducible apply CW.cond_f); exact rfl; exact by_ks)|((with_reducible apply q_block_miss); exact rfl)|(refine And.intro (show chk [] [] _ _ = true by kernel_rfl) ?_))
                  refine q_cut ?_
                  exact by_less
                have hw0 : wrongIns d ((d.code.length : Int) - 1 - k) ⟨kd, ia, ib, n, key⟩ = if insOut kd ia ib n ((d.code.length : Int) - 1 - k) = true then 3 else if has kd 107 = false then (if key = [] then 0 else 2)
                    else if isIn (if (kd : Int) = 1 then d.reads else d.writes) key = true then 0 else 9 := by
                  rw [wrongIns, if_neg (by show ¬ ((kd : Int) < 1 ∨ 9 < (kd : Int)); omega)]
                  rfl
                have hcr := ok_in d.reads key (by omega)
                have hcw := ok_in d.writes key (by omega)
                cases hO : insOut kd ia ib n ((d.code.length : Int) - 1 - k)
                · rw [if_neg (by simp [hO])] at hw0
                  cases hK : has kd 107
                  · rw [if_pos hK] at hw0
                    by_cases hkey : key = []
                    · rw [if_pos hkey] at hw0
                      repeat (first|((with_reducible apply s1); exact rfl)|(with_reducible first|apply CW.seq|apply CW.block|apply CW.region|apply CW.draw|apply CW.skip|apply CW.exit|apply CW.ret|apply q_then|apply q_then_exit|apply q_then_ret|apply q_block|apply q_block_ret|apply q_block_hit|apply q_ret|apply q_end|apply q_loop_exit|apply q_loop_ret|apply q_loopT_exit|apply q_loopT_ret|apply RW.nil)|((with_reducible apply s3); exact rfl; exact by_k)|((with_reducible apply s2); exact rfl; exact by_k)|((with_reducible apply s4); exact rfl)|((with_reducible apply s5); (first|exact a_call hcK rfl by_sub|exact by_oa); exact by_g)|((with_reducible apply CW.cond_t); exact rfl; exact by_ks)|((with_reducible apply CW.cond_f); exact rfl; exact by_ks)|((with_reducible apply q_block_miss); exact rfl)|(refine And.intro (show chk [] [] _ _ = true by kernel_rfl) ?_))
                      refine q_loopT (k + 1) ⟨by omega, hgood hw0⟩ (by omega) ?_
                      exact by_less
                    · rw [if_neg hkey] at hw0
                      repeat (first|((with_reducible apply s1); exact rfl)|(with_reducible first|apply CW.seq|apply CW.block|apply CW.region|apply CW.draw|apply CW.skip|apply CW.exit|apply CW.ret|apply q_then|apply q_then_exit|apply q_then_ret|apply q_block|apply q_block_ret|apply q_block_hit|apply q_ret|apply q_end|apply q_loop_exit|apply q_loop_ret|apply q_loopT_exit|apply q_loopT_ret|apply RW.nil)|((with_reducible apply s3); exact rfl; exact by_k)|((with_reducible apply s2); exact rfl; exact by_k)|((with_reducible apply s4); exact rfl)|((with_reducible apply s5); (first|exact a_call hcK rfl by_sub|exact by_oa); exact by_g)|((with_reducible apply CW.cond_t); exact rfl; exact by_ks)|((with_reducible apply CW.cond_f); exact rfl; exact by_ks)|((with_reducible apply q_block_miss); exact rfl)|(refine And.intro (show chk [] [] _ _ = true by kernel_rfl) ?_))
                      exact .one (.tmp rfl (.one (.d (dle_int (by rw [← hbad (by rw [hw0]; decide), hw0])))))
                  · rw [if_neg (by simp [hK])] at hw0
                    by_cases hk1' : (kd : Int) = 1
                    · rw [if_pos hk1'] at hw0
                      cases hin : isIn d.reads key
                      · rw [if_neg (by simp [hin])] at hw0
                        repeat (first|((with_reducible apply s1); exact rfl)|(with_reducible first|apply CW.seq|apply CW.block|apply CW.region|apply CW.draw|apply CW.skip|apply CW.exit|apply CW.ret|apply q_then|apply q_then_exit|apply q_then_ret|apply q_block|apply q_block_ret|apply q_block_hit|apply q_ret|apply q_end|apply q_loop_exit|apply q_loop_ret|apply q_loopT_exit|apply q_loopT_ret|apply RW.nil)|((with_reducible apply s3); exact rfl; exact by_k)|((with_reducible apply s2); exact rfl; exact by_k)|((with_reducible apply s4); exact rfl)|((with_reducible apply s5); (first|exact a_call hcK rfl by_sub|exact a_call hcr rfl by_sub|exact by_oa); exact by_g)|((with_reducible apply CW.cond_t); exact rfl; exact by_ks)|((with_reducible apply CW.cond_f); exact rfl; exact by_ks)|((with_reducible apply q_block_miss); exact rfl)|(refine And.intro (show chk [] [] _ _ = true by kernel_rfl) ?_))
                        exact .one (.tmp rfl (.one (.d (dle_int (by rw [← hbad (by rw [hw0]; decide), hw0])))))
                      · rw [if_pos hin] at hw0
                        repeat (first|((with_reducible apply s1); exact rfl)|(with_reducible first|apply CW.seq|apply CW.block|apply CW.region|apply CW.draw|apply CW.skip|apply CW.exit|apply CW.ret|apply q_then|apply q_then_exit|apply q_then_ret|apply q_block|apply q_block_ret|apply q_block_hit|apply q_ret|apply q_end|apply q_loop_exit|apply q_loop_ret|apply q_loopT_exit|apply q_loopT_ret|apply RW.nil)|((with_reducible apply s3); exact rfl; exact by_k)|((with_reducible apply s2); exact rfl; exact by_k)|((with_reducible apply s4); exact rfl)|((with_reducible apply s5); (first|exact a_call hcK rfl by_sub|exact a_call hcr rfl by_sub|exact by_oa); exact by_g)|((with_reducible apply CW.cond_t); exact rfl; exact by_ks)|((with_reducible apply CW.cond_f); exact rfl; exact by_ks)|((with_reducible apply q_block_miss); exact rfl)|(refine And.intro (show chk [] [] _ _ = true by kernel_rfl) ?_))
                        refine q_loopT (k + 1) ⟨by omega, hgood hw0⟩ (by omega) ?_
                        exact by_less
                    · rw [if_neg hk1'] at hw0
                      cases hin : isIn d.writes key
                      · rw [if_neg (by simp [hin])] at hw0
                        repeat (first|((with_reducible apply s1); exact rfl)|(with_reducible first|apply CW.seq|apply CW.block|apply CW.region|apply CW.draw|apply CW.skip|apply CW.exit|apply CW.ret|apply q_then|apply q_then_exit|apply q_then_ret|apply q_block|apply q_block_ret|apply q_block_hit|apply q_ret|apply q_end|apply q_loop_exit|apply q_loop_ret|apply q_loopT_exit|apply q_loopT_ret|apply RW.nil)|((with_reducible apply s3); exact rfl; exact by_k)|((with_reducible apply s2); exact rfl; exact by_k)|((with_reducible apply s4); exact rfl)|((with_reducible apply s5); (first|exact a_call hcK rfl by_sub|exact a_call hcw rfl by_sub|exact by_oa); exact by_g)|((with_reducible apply CW.cond_t); exact rfl; exact by_ks)|((with_reducible apply CW.cond_f); exact rfl; exact by_ks)|((with_reducible apply q_block_miss); exact rfl)|(refine And.intro (show chk [] [] _ _ = true by kernel_rfl) ?_))
                        exact .one (.tmp rfl (.one (.d (dle_int (by rw [← hbad (by rw [hw0]; decide), hw0])))))
                      · rw [if_pos hin] at hw0
                        repeat (first|((with_reducible apply s1); exact rfl)|(with_reducible first|apply CW.seq|apply CW.block|apply CW.region|apply CW.draw|apply CW.skip|apply CW.exit|apply CW.ret|apply q_then|apply q_then_exit|apply q_then_ret|apply q_block|apply q_block_ret|apply q_block_hit|apply q_ret|apply q_end|apply q_loop_exit|apply q_loop_ret|apply q_loopT_exit|apply q_loopT_ret|apply RW.nil)|((with_reducible apply s3); exact rfl; exact by_k)|((with_reducible apply s2); exact rfl; exact by_k)|((with_reducible apply s4); exact rfl)|((with_reducible apply s5); (first|exact a_call hcK rfl by_sub|exact a_call hcw rfl by_sub|exact by_oa); exact by_g)|((with_reducible apply CW.cond_t); exact rfl; exact by_ks)|((with_reducible apply CW.cond_f); exact rfl; exact by_ks)|((with_reducible apply q_block_miss); exact rfl)|(refine And.intro (show chk [] [] _ _ = true by kernel_rfl) ?_))
                        refine q_loopT (k + 1) ⟨by omega, hgood hw0⟩ (by omega) ?_
                        exact by_less
                · rw [if_pos hO] at hw0
                  repeat (first|((with_reducible apply s1); exact rfl)|(with_reducible first|apply CW.seq|apply CW.block|apply CW.region|apply CW.draw|apply CW.skip|apply CW.exit|apply CW.ret|apply q_then|apply q_then_exit|apply q_then_ret|apply q_block|apply q_block_ret|apply q_block_hit|apply q_ret|apply q_end|apply q_loop_exit|apply q_loop_ret|apply q_loopT_exit|apply q_loopT_ret|apply RW.nil)|((with_reducible apply s3); exact rfl; exact by_k)|((with_reducible apply s2); exact rfl; exact by_k)|((with_reducible apply s4); exact rfl)|((with_reducible apply s5); exact by_oa; exact by_g)|((with_reducible apply CW.cond_t); exact rfl; exact by_ks)|((with_reducible apply CW.cond_f); exact rfl; exact by_ks)|((with_reducible apply q_block_miss); exact rfl)|(refine And.intro (show chk [] [] _ _ = true by kernel_rfl) ?_))
                  exact .one (.tmp rfl (.one (.d (dle_int (by rw [← hbad (by rw [hw0]; decide), hw0])))))
    · have h3' : j < 2 := h3
      rw [h1] at hI
      have hl : l.length ≤ 268435456 ∧ ∀ s ∈ l, s.length ≤ 1073741824 := by
        have := List.mem_of_getElem? h2
        simp at this
        rcases this with rfl | rfl
        · exact ⟨hr, hrk⟩
        · exact ⟨hw, hwk⟩
      have hbad : keysWrong l ≠ 0 → keysWrong l = wrongDeed d := fun h0 => by
        rcases ls_first hI with ⟨h5, h6⟩ | ⟨h5, h6⟩
        · exact absurd h5 h0
        · rw [wrongDeed, if_neg (by rw [← h6]; exact h0), h6]
      by_cases h4 : 5 < l.length
      · have h6 : keysWrong l = 5 := by rw [keysWrong, if_pos h4]
        repeat (first|((with_reducible apply s1); exact rfl)|(with_reducible first|apply CW.seq|apply CW.block|apply CW.region|apply CW.draw|apply CW.skip|apply CW.exit|apply CW.ret|apply q_then|apply q_then_exit|apply q_then_ret|apply q_block|apply q_block_ret|apply q_block_hit|apply q_ret|apply q_end|apply q_loop_exit|apply q_loop_ret|apply q_loopT_exit|apply q_loopT_ret|apply RW.nil)|((with_reducible apply s3); exact rfl; exact by_k)|((with_reducible apply s2); exact rfl; exact by_k)|((with_reducible apply s4); exact rfl)|((with_reducible apply s5); exact by_oa; exact by_g)|((with_reducible apply CW.cond_t); exact rfl; exact by_ks)|((with_reducible apply CW.cond_f); exact rfl; exact by_ks)|((with_reducible apply q_block_miss); exact rfl)|(refine And.intro (show chk [] [] _ _ = true by kernel_rfl) ?_))
        exact .one (.tmp rfl (.one (.d (dle_int (by rw [← h6]; exact hbad (by rw [h6]; decide))))))
      ·
        repeat (first|((with_reducible apply s1); exact rfl)|(with_reducible first|apply CW.seq|apply CW.block|apply CW.region|apply CW.draw|apply CW.skip|apply CW.exit|apply CW.ret|apply q_then|apply q_then_exit|apply q_then_ret|apply q_block|apply q_block_ret|apply q_block_hit|apply q_ret|apply q_end|apply q_loop_exit|apply q_loop_ret|apply q_loopT_exit|apply q_loopT_ret|apply RW.nil)|((with_reducible apply s3); exact rfl; exact by_k)|((with_reducible apply s2); exact rfl; exact by_k)|((with_reducible apply s4); exact rfl)|((with_reducible apply s5); exact by_oa; exact by_g)|((with_reducible apply CW.cond_t); exact rfl; exact by_ks)|((with_reducible apply CW.cond_f); exact rfl; exact by_ks)|((with_reducible apply q_block_miss); exact rfl)|(refine And.intro (show chk [] [] _ _ = true by kernel_rfl) ?_))
        refine CW.loopT (fun i : Nat => [(.s 1, .av (.ptr 0 0)), (.o 0, .ob (.box (d.enc.map AV.d))), (.s 18, .av (.d (.sl 1 ([d.reads, d.writes].map fun l => [encStrs l])))), (.s 19, .av (.d (dint 2))), (.s 20, .av (.d (dint j))), (.s 4, .av (.d (encStrs l))), (.s 27, .av (.d (encStrs l))), (.s 28, .av (.d (dint l.length))), (.s 29, .av (.d (dint i))), (.nx, .num 1)])
          (fun i => i ≤ l.length ∧ keysGo l i (l.drop i) = keysWrong l) (fun i => l.length - i) 0 ⟨by omega, by rw [keysWrong, if_neg h4]; rfl⟩ ?_ ?_
        ·
          exact by_less
        · rintro i ⟨hi, hJ⟩
          rcases drop_case hi with ⟨h5, h6⟩ | ⟨k, h5, h6, h7⟩
          · rw [h5] at hJ
            simp only [keysGo] at hJ
            repeat (first|((with_reducible apply s1); exact rfl)|(with_reducible first|apply CW.seq|apply CW.block|apply CW.region|apply CW.draw|apply CW.skip|apply CW.exit|apply CW.ret|apply q_then|apply q_then_exit|apply q_then_ret|apply q_block|apply q_block_ret|apply q_block_hit|apply q_ret|apply q_end|apply q_loop_exit|apply q_loop_ret|apply q_loopT_exit|apply q_loopT_ret|apply RW.nil)|((with_reducible apply s3); exact rfl; exact by_k)|((with_reducible apply s2); exact rfl; exact by_k)|((with_reducible apply s4); exact rfl)|((with_reducible apply s5); exact by_oa; exact by_g)|((with_reducible apply CW.cond_t); exact rfl; exact by_ks)|((with_reducible apply CW.cond_f); exact rfl; exact by_ks)|((with_reducible apply q_block_miss); exact rfl)|(refine And.intro (show chk [] [] _ _ = true by kernel_rfl) ?_))
            refine q_loopT (j + 1) ⟨by simp; omega, ?_⟩ (by omega) ?_
            · rcases ls_first hI with ⟨h8, h9⟩ | ⟨h8, h9⟩
              · exact h9
              · exact absurd hJ.symm h8
            ·
              exact by_less
          · rw [h5] at hJ
            simp only [keysGo] at hJ
            have hck := ok_key k (hl.2 k (List.mem_of_getElem? h6))
            have hin : FnOk Tryd.prog 10 [.d (.sl 1 ((l.map encStr1).take i)), .d (dstr k)] (.one (dbool (isIn (l.take i) k))) := by
              rw [← List.map_take]
              exact ok_in (l.take i) k (by rw [List.length_take]; have := hl.1; omega)
            cases h8 : key k
            · rw [if_pos h8] at hJ
              repeat (first|((with_reducible apply s1); exact rfl)|(with_reducible first|apply CW.seq|apply CW.block|apply CW.region|apply CW.draw|apply CW.skip|apply CW.exit|apply CW.ret|apply q_then|apply q_then_exit|apply q_then_ret|apply q_block|apply q_block_ret|apply q_block_hit|apply q_ret|apply q_end|apply q_loop_exit|apply q_loop_ret|apply q_loopT_exit|apply q_loopT_ret|apply RW.nil)|((with_reducible apply s3); exact rfl; exact by_k)|((with_reducible apply s2); exact rfl; exact by_k)|((with_reducible apply s4); exact rfl)|((with_reducible apply s5); (first|exact a_call hck rfl by_sub|exact by_oa); exact by_g)|((with_reducible apply CW.cond_t); exact rfl; exact by_ks)|((with_reducible apply CW.cond_f); exact rfl; exact by_ks)|((with_reducible apply q_block_miss); exact rfl)|(refine And.intro (show chk [] [] _ _ = true by kernel_rfl) ?_))
              exact .one (.tmp rfl (.one (.d (dle_int (by rw [hJ]; exact hbad (by rw [← hJ]; decide))))))
            · rw [if_neg (by simp [h8])] at hJ
              cases h9 : isIn (l.take i) k
              · rw [if_neg (by simp [h9])] at hJ
                repeat (first|((with_reducible apply s1); exact rfl)|(with_reducible first|apply CW.seq|apply CW.block|apply CW.region|apply CW.draw|apply CW.skip|apply CW.exit|apply CW.ret|apply q_then|apply q_then_exit|apply q_then_ret|apply q_block|apply q_block_ret|apply q_block_hit|apply q_ret|apply q_end|apply q_loop_exit|apply q_loop_ret|apply q_loopT_exit|apply q_loopT_ret|apply RW.nil)|((with_reducible apply s3); exact rfl; exact by_k)|((with_reducible apply s2); exact rfl; exact by_k)|((with_reducible apply s4); exact rfl)|((with_reducible apply s5); (first|exact a_call hck rfl by_sub|exact a_call hin rfl by_sub|exact by_oa); exact by_g)|((with_reducible apply CW.cond_t); exact rfl; exact by_ks)|((with_reducible apply CW.cond_f); exact rfl; exact by_ks)|((with_reducible apply q_block_miss); exact rfl)|(refine And.intro (show chk [] [] _ _ = true by kernel_rfl) ?_))
                refine q_loopT (i + 1) ⟨by omega, hJ⟩ (by omega) ?_
                exact by_less
              · rw [if_pos h9] at hJ
                repeat (first|((with_reducible apply s1); exact rfl)|(with_reducible first|apply CW.seq|apply CW.block|apply CW.region|apply CW.draw|apply CW.skip|apply CW.exit|apply CW.ret|apply q_then|apply q_then_exit|apply q_then_ret|apply q_block|apply q_block_ret|apply q_block_hit|apply q_ret|apply q_end|apply q_loop_exit|apply q_loop_ret|apply q_loopT_exit|apply q_loopT_ret|apply RW.nil)|((with_reducible apply s3); exact rfl; exact by_k)|((with_reducible apply s2); exact rfl; exact by_k)|((with_reducible apply s4); exact rfl)|((with_reducible apply s5); (first|exact a_call hck rfl by_sub|exact a_call hin rfl by_sub|exact by_oa); exact by_g)|((with_reducible apply CW.cond_t); exact rfl; exact by_ks)|((with_reducible apply CW.cond_f); exact rfl; exact by_ks)|((with_reducible apply q_block_miss); exact rfl)|(refine And.intro (show chk [] [] _ _ = true by kernel_rfl) ?_))
                exact .one (.tmp rfl (.one (.d (dle_int (by rw [hJ]; exact hbad (by rw [← hJ]; decide))))))

end Go.Proofs.YtfaaghkgfbhglaaDoor

/-! F17 -/
/-
  Contract of the references' Add of deeds to engines.
-/
namespace Go.Proofs.YtfaaghkgfbhglaaDoor
open Go.AX Go.RF

set_option maxRecDepth 100000
set_option maxHeartbeats 8000000

/-- How large an engine is, at most. -/
structure Engine.Sz (e : Engine) (N : Nat) : Prop where
  c : e.chains.length ≤ N
  v : ∀ c ∈ e.chains, c.vs.length ≤ N
  d : e.deeds.length ≤ N
  s : e.state.length = e.deeds.length
  n : e.ends.length = e.deeds.length
  b : 0 ≤ e.base ∧ e.base + e.deeds.length ≤ N
  dd : ∀ d ∈ e.deeds, d.Sm
theorem Engine.Sz.sm {e : Engine} {N : Nat} (h : Engine.Sz e N) (hN : N ≤ 134217728) : e.Sm :=
  ⟨by have := h.c; omega, fun c hc => by have := h.v c hc; omega, by have := h.d; omega, by have := h.d; have := h.s; omega, by have := h.d; have := h.n; omega, by have := h.b; omega, h.dd⟩

theorem wrong_writes {d : Deed} (h : wrongDeed d = 0) : d.reads.length ≤ 5 ∧ d.writes.length ≤ 5 ∧ d.code.length ≤ 12 := by
  unfold wrongDeed at h
  by_cases h0 : lsGo [d.reads, d.writes] = 0
  · rw [if_pos h0] at h
    simp only [lsGo] at h0
    have hc : d.code.length ≤ 12 := by
      by_cases hc : 12 < d.code.length
      · rw [if_pos hc] at h; simp at h
      · omega
    have key : ∀ l : List Str, keysWrong l = 0 → l.length ≤ 5 := by
      intro l hl
      unfold keysWrong at hl
      by_cases h5 : 5 < l.length
      · rw [if_pos h5] at hl; simp at hl
      · omega
    by_cases h1 : keysWrong d.reads = 0
    · rw [if_pos h1] at h0
      by_cases h2 : keysWrong d.writes = 0
      · exact ⟨key _ h1, key _ h2, hc⟩
      · rw [if_neg h2] at h0; exact absurd h0 h2
    · rw [if_neg h1] at h0; exact absurd h0 h1
  · rw [if_neg h0] at h; exact absurd h h0
end Go.Proofs.YtfaaghkgfbhglaaDoor

/-! F19 -/
/-
  Contract of the references' Go of engines.
-/
namespace Go.Proofs.YtfaaghkgfbhglaaDoor
open Go.AX Go.RF

set_option maxRecDepth 100000
set_option maxHeartbeats 8000000

/-- Deeds that may be done. -/
structure Deed.Ok (d : Deed) : Prop where
  i : ∀ i ∈ d.code, i.Ok
  r : d.reads.length ≤ 5
  w : d.writes.length ≤ 5
  c : d.code.length ≤ 12
def chOk (l : List Chain) : Prop := ∀ c ∈ l, ∀ v ∈ c.vs, nOk v.n

end Go.Proofs.YtfaaghkgfbhglaaDoor

/-! F20 -/
/-
  Engines as they are built: what holds of them; plain facts.
-/
namespace Go.Proofs.YtfaaghkgfbhglaaDoor
open Go.AX Go.RF

structure EInv (e : Engine) (N : Nat) : Prop where
  z : Engine.Sz e N
  o : ∀ d ∈ e.deeds, Deed.Ok d
  c : chOk e.chains

theorem EInv.mono {e : Engine} {N M : Nat} (h : EInv e N) (hm : N ≤ M) : EInv e M := by
  obtain ⟨hz, ho, hc⟩ := h
  refine ⟨⟨by have := hz.c; omega, fun c hc => by have := hz.v c hc; omega, by have := hz.d; omega, hz.s, hz.n, by have := hz.b; omega, hz.dd⟩, ho, hc⟩

theorem codeGo_mem {d : Deed} : ∀ {l : List Ins} {k : Nat}, codeGo d k l = 0 → ∀ j i, l[j]? = some i → wrongIns d ((d.code.length : Int) - 1 - ((k + j : Nat) : Int)) i = 0
  | [], k, _, j, i, hj => by simp at hj
  | x :: l, k, h, j, i, hj => by
    simp only [codeGo] at h
    by_cases h0 : wrongIns d ((d.code.length : Int) - 1 - k) x = 0
    · rw [if_pos h0] at h
      cases j with
      | zero => simp at hj; subst hj; simpa using h0
      | succ j =>
        have := codeGo_mem h j i (by simpa using hj)
        rw [show k + (j + 1) = k + 1 + j by omega]
        exact this
    · rw [if_neg h0] at h; exact absurd h h0

theorem has_ins {k : Int} (h : 1 ≤ k ∧ k ≤ 9) : insA k.toNat ≤ 3 ∧ insB k.toNat ≤ 3 := by
  unfold insA insB
  constructor <;> split <;> omega

theorem wrongIns_ok {d : Deed} {m : Int} (hm : m ≤ 11) {i : Ins} (h : wrongIns d m i = 0) : i.Ok := by
  unfold wrongIns at h
  by_cases hk : i.kind < 1 ∨ 9 < i.kind
  · rw [if_pos hk] at h; simp at h
  rw [if_neg hk] at h
  by_cases ho : insOut i.kind.toNat i.a i.b i.n m = true
  · rw [if_pos ho] at h; simp at h
  have hkk : 1 ≤ i.kind ∧ i.kind ≤ 9 := by omega
  have hs := has_ins hkk
  simp only [insOut, Bool.or_eq_true, decide_eq_true_eq, not_or] at ho
  obtain ⟨h1, h2, h3, h4, h5, h6⟩ := ho
  refine ⟨hkk, by omega, by omega, fun hc => ?_, fun hc => ?_⟩
  · rw [hc] at h5 h6
    simp [insLow, insHigh] at h5 h6
    unfold nOk; omega
  · rw [hc] at h5 h6
    simp [insLow, insHigh] at h5 h6
    omega

theorem wrongDeed_ok {d : Deed} (h : wrongDeed d = 0) : Deed.Ok d := by
  obtain ⟨h1, h2, h3⟩ := wrong_writes h
  refine ⟨fun i hi => ?_, h1, h2, h3⟩
  unfold wrongDeed at h
  by_cases h0 : lsGo [d.reads, d.writes] = 0
  · rw [if_pos h0] at h
    by_cases hc : 12 < d.code.length
    · rw [if_pos hc] at h; simp at h
    · rw [if_neg hc] at h
      obtain ⟨j, hj⟩ := List.getElem?_of_mem hi
      exact wrongIns_ok (by omega) (codeGo_mem h j i hj)
  · rw [if_neg h0] at h; exact absurd h h0

end Go.Proofs.YtfaaghkgfbhglaaDoor

/-! P14 -/
/-
  A deed's text, piece by piece.
-/
namespace Go.Proofs.YtfaaghkgfbhglaaDoor
open Go.AX Go.RF

/-- Words, each behind a text. -/
def tailS (sep : Str) : List Str → Str
  | [] => []
  | w :: r => sep ++ (w ++ tailS sep r)
theorem joinS_cons (sep w : Str) : ∀ r : List Str, joinS sep (w :: r) = w ++ tailS sep r
  | [] => by simp [joinS, tailS]
  | x :: r => by
    have := joinS_cons sep x r
    simp only [joinS, tailS] at this ⊢
    rw [this]
theorem printD_eq (d : Deed) : printD d = (wReads ++ tailS [32] d.reads) ++ ([59, 32] ++ ((wWrites ++ tailS [32] d.writes) ++ tailS [59, 32] (d.code.map fun i => joinS [32] (insW i)))) := by
  unfold printD partsD
  rw [joinS_cons, joinS_cons, joinS_cons]
  rfl
theorem insW_eq (i : Ins) : joinS [32] (insW i) = words.getD i.kind.toNat [] ++ tailS [32] ((form i.kind.toNat).map (fieldW i)) := joinS_cons _ _ _
theorem form_let {k : Nat} {c : UInt8} (h : c ∈ form k) : c = 114 ∨ c = 115 ∨ c = 110 ∨ c = 107 := by
  match k, h with
  | 0, h => simp [form, forms] at h
  | 1, h => simp [form, forms] at h; rcases h with rfl | rfl <;> simp
  | 2, h => simp [form, forms] at h; rcases h with rfl | rfl <;> simp
  | 3, h => simp [form, forms] at h; rcases h with rfl | rfl <;> simp
  | 4, h => simp [form, forms] at h; rcases h with rfl | rfl <;> simp
  | 5, h => simp [form, forms] at h; rcases h with rfl | rfl <;> simp
  | 6, h => simp [form, forms] at h; rcases h with rfl | rfl <;> simp
  | 7, h => simp [form, forms] at h; subst h; simp
  | 8, h => simp [form, forms] at h; rcases h with rfl | rfl <;> simp
  | 9, h => simp [form, forms] at h; subst h; simp
  | k + 10, h => simp [form, forms] at h
theorem wrongIns_n {d : Deed} {m : Int} {i : Ins} (h : wrongIns d m i = 0) (hm : m ≤ 1073741824) : -1073741824 ≤ i.n ∧ i.n ≤ 1073741824 := by
  unfold wrongIns at h
  split at h
  · cases h
  split at h
  · cases h
  next h2 =>
    simp only [insOut, Bool.or_eq_true, decide_eq_true_eq, not_or] at h2
    obtain ⟨_, _, _, _, h3, h4⟩ := h2
    unfold insLow at h3
    unfold insHigh at h4
    split at h3 <;> split at h4 <;> (try split at h3) <;> (try split at h4) <;> omega
theorem wrong_n {d : Deed} (h : wrongDeed d = 0) : ∀ i ∈ d.code, -1073741824 ≤ i.n ∧ i.n ≤ 1073741824 := by
  intro i hi
  have hok := wrongDeed_ok h
  unfold wrongDeed at h
  split at h
  · split at h
    · cases h
    · obtain ⟨j, hj⟩ := List.getElem?_of_mem hi
      have := codeGo_mem h j i hj
      exact wrongIns_n this (by have := hok.c; omega)
  · next h1 => exact absurd h h1
theorem itoa_len (n : Int) (h0 : -9223372036854775808 ≤ n) (h1 : n ≤ 9223372036854775807) : (Lib.itoa n).length ≤ 21 := Lib.itoa_length_le n h0 h1
/-- A key that is named in a right deed's instruction is short. -/
theorem key_len {k : Str} (h : key k = true) : k.length ≤ 6 := by
  unfold key at h
  have : ∀ r : Str, keyGo k r = true → k.length ≤ 6 := by
    intro r
    induction r with
    | nil => intro h; simp [keyGo] at h; omega
    | cons c r ih => intro h; simp only [keyGo] at h; split at h; · cases h
                     · exact ih h
  exact this k h

end Go.Proofs.YtfaaghkgfbhglaaDoor

/-! P15 -/
/-
  The library's way to split a text is the references'.
-/
namespace Go.Proofs.YtfaaghkgfbhglaaDoor
open Go.AX Go.RF

def hdS (cur : Str) : List Str → List Str
  | [] => []
  | h :: t => (cur ++ h) :: t
def libS (sep r : Str) : List Str := Lib.splitK sep 0 (Lib.count r sep) r
theorem libS_miss {sep r : Str} (h : Lib.index r sep = -1) : libS sep r = [r] := by
  unfold libS
  rw [Lib.count_miss h]
  rfl
theorem libS_hit {sep r : Str} {i : Nat} (hs : sep ≠ []) (h : Lib.index r sep = i) : libS sep r = r.take i :: libS sep (r.drop (i + sep.length)) := by
  unfold libS
  rw [Lib.count_hit hs h, Nat.add_comm]
  simp only [Lib.splitK]
  have h1 : ¬ (Lib.index r sep == -1) = true := fun e => by have := beq_iff_eq.1 e; omega
  rw [if_neg h1, h, Int.toNat_natCast, Nat.add_zero]
theorem index_cons (b : UInt8) (l sub : Str) : Lib.index (b :: l) sub = if sub.isPrefixOf (b :: l) then 0 else if Lib.index l sub == -1 then -1 else Lib.index l sub + 1 := rfl
theorem prefix_take {sep r : Str} (h : sep.length ≤ r.length) : sep.isPrefixOf r = true ↔ r.take sep.length = sep := by
  rw [List.isPrefixOf_iff_prefix, List.prefix_iff_eq_take]
  exact ⟨fun h => h.symm, fun h => h.symm⟩
theorem splitF_lib {sep : Str} (hs : sep ≠ []) : ∀ (n : Nat) (cur r : Str), r.length ≤ n → splitF sep n cur r = hdS cur (libS sep r)
  | 0, cur, r, h => by
    obtain rfl := List.eq_nil_of_length_eq_zero (show r.length = 0 by omega)
    have : Lib.index [] sep = -1 := by
      cases sep with
      | nil => exact absurd rfl hs
      | cons => rfl
    rw [libS_miss this]
    rfl
  | n + 1, cur, r, h => by
    have hsl : 0 < sep.length := List.length_pos_iff.2 hs
    by_cases h1 : r.length < sep.length
    · have hm : Lib.index r sep = -1 := by
        have h2 := Lib.index_ge r sep
        rcases Int.lt_or_le (Lib.index r sep) 0 with h3 | h3
        · omega
        · have := Lib.index_room r sep h3; omega
      rw [libS_miss hm]
      simp only [splitF]
      rw [if_pos h1]
      rfl
    · match r, h, h1 with
      | [], _, h1 => exact absurd hsl (by simpa using h1)
      | c :: t, h, h1 =>
        simp only [splitF]
        rw [if_neg h1]
        by_cases h2 : (c :: t).take sep.length = sep
        · rw [if_pos h2]
          have hi : Lib.index (c :: t) sep = ((0 : Nat) : Int) := by
            rw [index_cons, if_pos ((prefix_take (by omega)).2 h2)]; rfl
          rw [libS_hit hs hi, splitF_lib hs n [] _ (by simp at h ⊢; omega), Nat.zero_add]
          simp only [List.take_zero, hdS, List.append_nil]
          cases libS sep ((c :: t).drop sep.length) with
          | nil => rfl
          | cons x y => rfl
        · rw [if_neg h2]
          have hp : ¬ sep.isPrefixOf (c :: t) = true := fun e => h2 ((prefix_take (by omega)).1 e)
          have hx := index_cons c t sep
          rw [if_neg hp] at hx
          rw [splitF_lib hs n (cur ++ [c]) t (by simpa using h)]
          rcases Int.lt_or_le (Lib.index t sep) 0 with h3 | h3
          · have h4 : Lib.index t sep = -1 := by have := Lib.index_ge t sep; omega
            rw [h4] at hx
            rw [libS_miss h4, libS_miss (by rw [hx]; rfl)]
            simp [hdS]
          · obtain ⟨i, hi⟩ := Int.eq_ofNat_of_zero_le h3
            rw [hi] at hx
            have hne : ¬ ((i : Int) == -1) = true := fun e => by have := beq_iff_eq.1 e; omega
            rw [if_neg hne] at hx
            rw [libS_hit hs hi, libS_hit hs (show Lib.index (c :: t) sep = ((i + 1 : Nat) : Int) by rw [hx]; omega)]
            simp only [hdS, List.take_succ_cons, List.append_assoc, List.singleton_append]
            rw [show i + 1 + sep.length = (i + sep.length) + 1 by omega, List.drop_succ_cons]
theorem split_lib {s sep : Str} (hs : sep ≠ []) : split s sep = Lib.split s sep := by
  unfold split
  rw [splitF_lib hs s.length [] s (Nat.le_refl _)]
  show hdS [] (libS sep s) = libS sep s
  cases libS sep s with
  | nil => rfl
  | cons x y => rfl
theorem join_lib (sep : Str) : ∀ ws : List Str, Lib.join ws sep = joinS sep ws
  | [] => rfl
  | [w] => by simp [Lib.join, joinS, List.intercalate]
  | w :: x :: r => by
    have := join_lib sep (x :: r)
    unfold Lib.join at this ⊢
    simp only [joinS]
    rw [← this]
    simp [List.intercalate, List.intersperse]

end Go.Proofs.YtfaaghkgfbhglaaDoor

/-! ShTxt -/
/-
  The library's Split, CutPrefix and Join, at this program's numbers of functions and types.
-/
namespace Go.Proofs
open Go.Shelf Go.RowKit
noncomputable def Tryd.lays146_ren : Go.Shelf.Ren := ⟨fun | 138 => 38 | 143 => 39 | 146 => 16 | 195 => 51 | 197 => 52 | 217 => 65 | 218 => 53 | 219 => 54 | 221 => 26 | 224 => 67 | 225 => 66 | 260 => 64 | 266 => 83 | 267 => 68 | 268 => 37 | 314 => 84 | n => n, fun | 0 => 0 | 3 => 3 | 4 => 4 | 5 => 5 | 9 => 9 | 21 => 21 | 31 => 22 | 46 => 95 | 51 => 92 | 105 => 84 | 119 => 111 | 138 => 113 | 139 => 114 | 146 => 115 | n => n, fun | 1 => (Tryd.prog.globals.findIdx? (·.name == "internal/bytealg.MaxLen")).getD 0 | 3 => (Tryd.prog.globals.findIdx? (·.name == "unicode/utf8.first")).getD 0 | 4 => (Tryd.prog.globals.findIdx? (·.name == "unicode/utf8.acceptRanges")).getD 0 | n => n⟩
theorem Tryd.lays146 : Go.Proofs.Lays.n146 Tryd.prog Tryd.lays146_ren := {
  mixed := by kernel_rfl
  f138 := Tryd.func38.trans (congrArg some (by kernel_rfl))
  f143 := Tryd.func39.trans (congrArg some (by kernel_rfl))
  f146 := Tryd.func16.trans (congrArg some (by kernel_rfl))
  f195 := Tryd.func51.trans (congrArg some (by kernel_rfl))
  f197 := Tryd.func52.trans (congrArg some (by kernel_rfl))
  f217 := Tryd.func65.trans (congrArg some (by kernel_rfl))
  f218 := Tryd.func53.trans (congrArg some (by kernel_rfl))
  f219 := Tryd.func54.trans (congrArg some (by kernel_rfl))
  f221 := Tryd.func26.trans (congrArg some (by kernel_rfl))
  f224 := Tryd.func67.trans (congrArg some (by kernel_rfl))
  f225 := Tryd.func66.trans (congrArg some (by kernel_rfl))
  f260 := Tryd.func64.trans (congrArg some (by kernel_rfl))
  f266 := Tryd.func83.trans (congrArg some (by kernel_rfl))
  f267 := Tryd.func68.trans (congrArg some (by kernel_rfl))
  f268 := Tryd.func37.trans (congrArg some (by kernel_rfl))
  f314 := Tryd.func84.trans (congrArg some (by kernel_rfl))
  t0 := Tryd.underlying0
  a0 := Tryd.isAgg0
  z0 := Tryd.sizeOf0
  v0 := Tryd.zeroValue0
  t3 := Tryd.underlying3
  a3 := Tryd.isAgg3
  z3 := Tryd.sizeOf3
  v3 := Tryd.zeroValue3
  t4 := Tryd.underlying4
  a4 := Tryd.isAgg4
  z4 := Tryd.sizeOf4
  v4 := Tryd.zeroValue4
  t5 := Tryd.underlying5
  a5 := Tryd.isAgg5
  z5 := Tryd.sizeOf5
  v5 := Tryd.zeroValue5
  t9 := Tryd.underlying9
  a9 := Tryd.isAgg9
  z9 := Tryd.sizeOf9
  v9 := Tryd.zeroValue9
  t21 := Tryd.underlying21
  a21 := Tryd.isAgg21
  z21 := Tryd.sizeOf21
  v21 := Tryd.zeroValue21
  t31 := Tryd.underlying22
  a31 := Tryd.isAgg22
  z31 := Tryd.sizeOf22
  v31 := Tryd.zeroValue22
  t46 := Tryd.underlying95
  a46 := Tryd.isAgg95
  z46 := Tryd.sizeOf95
  v46 := Tryd.zeroValue95
  t51 := Tryd.underlying92
  a51 := Tryd.isAgg92
  z51 := Tryd.sizeOf92
  v51 := Tryd.zeroValue92
  t105 := Tryd.underlying84
  a105 := Tryd.isAgg84
  z105 := Tryd.sizeOf84
  v105 := Tryd.zeroValue84
  t119 := Tryd.underlying111
  a119 := Tryd.isAgg111
  z119 := Tryd.sizeOf111
  t138 := Tryd.underlying113
  a138 := Tryd.isAgg113
  z138 := Tryd.sizeOf113
  v138 := Tryd.zeroValue113
  t139 := Tryd.underlying114
  a139 := Tryd.isAgg114
  z139 := Tryd.sizeOf114
  v139 := Tryd.zeroValue114
  t146 := Tryd.underlying115
  a146 := Tryd.isAgg115
  z146 := Tryd.sizeOf115
  v146 := Tryd.zeroValue115
  g1 := by kernel_rfl
  g3 := by kernel_rfl
  g4 := by kernel_rfl
  }
noncomputable def Tryd.lays103_ren : Go.Shelf.Ren := ⟨fun | 103 => 28 | 206 => 55 | 210 => 40 | n => n, fun | 3 => 3 | 4 => 4 | 9 => 9 | 24 => 60 | n => n, fun | n => n⟩
theorem Tryd.lays103 : Go.Proofs.Lays.n103 Tryd.prog Tryd.lays103_ren := {
  mixed := by kernel_rfl
  f103 := Tryd.func28.trans (congrArg some (by kernel_rfl))
  f206 := Tryd.func55.trans (congrArg some (by kernel_rfl))
  f210 := Tryd.func40.trans (congrArg some (by kernel_rfl))
  t3 := Tryd.underlying3
  a3 := Tryd.isAgg3
  z3 := Tryd.sizeOf3
  v3 := Tryd.zeroValue3
  t4 := Tryd.underlying4
  a4 := Tryd.isAgg4
  z4 := Tryd.sizeOf4
  v4 := Tryd.zeroValue4
  t9 := Tryd.underlying9
  a9 := Tryd.isAgg9
  z9 := Tryd.sizeOf9
  v9 := Tryd.zeroValue9
  t24 := Tryd.underlying60
  a24 := Tryd.isAgg60
  z24 := Tryd.sizeOf60
  v24 := Tryd.zeroValue60
  }
noncomputable def Tryd.lays156_ren : Go.Shelf.Ren := ⟨fun | 156 => 12 | 165 => 22 | 166 => 23 | 169 => 24 | 240 => 34 | 241 => 35 | 276 => 45 | 277 => 46 | n => n, fun | 0 => 0 | 3 => 3 | 4 => 4 | 5 => 5 | 9 => 9 | 20 => 20 | 31 => 22 | 37 => 49 | 70 => 48 | 72 => 51 | 75 => 54 | 76 => 55 | 80 => 57 | 127 => 69 | 164 => 74 | n => n, fun | n => n⟩
theorem Tryd.lays156 : Go.Proofs.Lays.n156 Tryd.prog Tryd.lays156_ren := {
  mixed := by kernel_rfl
  f156 := Tryd.func12.trans (congrArg some (by kernel_rfl))
  f165 := Tryd.func22.trans (congrArg some (by kernel_rfl))
  f166 := Tryd.func23.trans (congrArg some (by kernel_rfl))
  f169 := Tryd.func24.trans (congrArg some (by kernel_rfl))
  f240 := Tryd.func34.trans (congrArg some (by kernel_rfl))
  f241 := Tryd.func35.trans (congrArg some (by kernel_rfl))
  f276 := Tryd.func45.trans (congrArg some (by kernel_rfl))
  f277 := Tryd.func46.trans (congrArg some (by kernel_rfl))
  t0 := Tryd.underlying0
  a0 := Tryd.isAgg0
  z0 := Tryd.sizeOf0
  v0 := Tryd.zeroValue0
  t3 := Tryd.underlying3
  a3 := Tryd.isAgg3
  z3 := Tryd.sizeOf3
  v3 := Tryd.zeroValue3
  t4 := Tryd.underlying4
  a4 := Tryd.isAgg4
  z4 := Tryd.sizeOf4
  v4 := Tryd.zeroValue4
  t9 := Tryd.underlying9
  a9 := Tryd.isAgg9
  z9 := Tryd.sizeOf9
  v9 := Tryd.zeroValue9
  t20 := Tryd.underlying20
  a20 := Tryd.isAgg20
  z20 := Tryd.sizeOf20
  v20 := Tryd.zeroValue20
  t31 := Tryd.underlying22
  a31 := Tryd.isAgg22
  z31 := Tryd.sizeOf22
  v31 := Tryd.zeroValue22
  t37 := Tryd.underlying49
  a37 := Tryd.isAgg49
  z37 := Tryd.sizeOf49
  v37 := Tryd.zeroValue49
  t70 := Tryd.underlying48
  a70 := Tryd.isAgg48
  z70 := Tryd.sizeOf48
  v70 := Tryd.zeroValue48
  t72 := Tryd.underlying51
  a72 := Tryd.isAgg51
  z72 := Tryd.sizeOf51
  v72 := Tryd.zeroValue51
  t75 := Tryd.underlying54
  a75 := Tryd.isAgg54
  z75 := Tryd.sizeOf54
  v75 := Tryd.zeroValue54
  t76 := Tryd.underlying55
  a76 := Tryd.isAgg55
  z76 := Tryd.sizeOf55
  v76 := Tryd.zeroValue55
  t127 := Tryd.underlying69
  a127 := Tryd.isAgg69
  z127 := Tryd.sizeOf69
  v127 := Tryd.zeroValue69
  t164 := Tryd.underlying74
  a164 := Tryd.isAgg74
  z164 := Tryd.sizeOf74
  v164 := Tryd.zeroValue74
  }
theorem Tryd.bld156 : Go.Proofs.Builder.Extra Tryd.prog Tryd.lays156_ren := {
  sizeBuilder := by kernel_rfl
  liesBuilder := by kernel_rfl
  t5 := Tryd.underlying5
  a5 := Tryd.isAgg5
  z5 := Tryd.sizeOf5
  v5 := Tryd.zeroValue5
  infoByte := by kernel_rfl
  cellsByte := by kernel_rfl
  sizeByte := by kernel_rfl
  neB5 := by decide
  }
end Go.Proofs

/-! AxMap -/
/-
  Maps of ours: made, written, read; maps told as data, read.
-/
namespace Go.AX
open Go.RowKit

variable {cx : Cx} {g : Nat → Value} {σ σ' : St} {a : Act} {w w' : World} {nx : Nat}
variable {ty : TypeId} {pos : String} {af : Array Edge} {gd : Option (Nat × Bool)} {d : Nat}

/-- A type of maps from texts. -/
structure MapTy (cx : Cx) (t te : TypeId) (zv : Value) : Prop where
  u : ∃ tk, cx.P.underlying t = some (.map tk te) ∧ cx.P.underlying tk = some .string
  z : ∀ w, (zeroValue te).run cx.P w = .ok zv w
theorem MapTy.st {t te : TypeId} {ti : TI} (hu : ∃ tk, cx.P.underlying t = some (.map tk te) ∧ cx.P.underlying tk = some .string) (he : tget cx.T te = some ti) (h2 : ti.zero.length ≠ 1) : MapTy cx t te (.agg ti.zero.toArray) := by
  refine ⟨hu, fun w => ?_⟩
  obtain ⟨i, hi, _, _, z, hz, hc⟩ := (cx.hT te ti he).info
  have hag : z = .agg ti.zero.toArray := by
    cases z with
    | agg cs =>
      have : cs.toList = ti.zero := hc
      rw [← this]
    | _ => exact absurd (by rw [← hc]; rfl) h2
  subst hag
  simp [zeroValue, typeInfo, hi, hz]
/-! ### Written -/
end Go.AX

/-! AxGen -/
/-
  Objects of ours told by a predicate, their handles not known: what runs over a text; maps from numbers of whatever kind.
-/
namespace Go.AX
open Go.RowKit

variable {cx : Cx} {g : Nat → Value} {σ σ' : St} {a : Act} {w w' : World} {nx : Nat}
variable {ty : TypeId} {pos : String} {af : Array Edge} {gd : Option (Nat × Bool)} {d : Nat}

/-- A new one. -/
theorem ok_gennew {op : Op} {l : List (Key × Val)} {n0 : Nat} (p : Value → Obj → Prop) (hd : d < cx.n)
    (hex : ∀ σ a w g nx, SimG cx σ a w g nx → App σ l → ∃ v o, (execOp a.eval ⟨some d, op, ty, pos, af, gd⟩).run cx.P w = .ok (.value v) (w.alloc o) ∧ blk v = some w.heap.size ∧ p v o) :
    OpOk cx ⟨some d, op, ty, pos, af, gd⟩ ⟨(.nx, .num n0) :: l, [(.s d, .av (.h n0)), (.o n0, .ob (.gen p)), (.nx, .num (n0 + 1))]⟩ := by
  rintro σ a w K Q ⟨g, nx, hs⟩ hr hK
  obtain ⟨hn, hl⟩ := hr
  have hnx : nx = n0 := by
    have h2 := hs.hnx
    rw [hn] at h2
    simpa using h2.symm
  subst hnx
  obtain ⟨v, o, hrun, hbv, hp⟩ := hex σ a w g nx hs hl
  have hb : Below w.heap.size w (w.alloc o) := (Below.refl _ _).alloc (Nat.le_refl _) _
  have hst : ObjStep cx σ g nx (nx + 1) w (w.alloc o) nx (.gen p) v :=
    ⟨.inl ⟨rfl, rfl⟩, hb.mono hs.below.size, fun c hc _ => hb.block c hc, fun c hc => .inr (by rw [hbv] at hc; cases hc; exact Nat.le_refl _)⟩
  have hG := SimG.obj hs hst (fun _ => ⟨w.heap.size, o, by rw [upd_same]; exact hbv, hs.below.size, heap_alloc_new w _, by rw [upd_same]; exact hp⟩) trivial
  refine wp_val rfl hrun (hK _ _ ?_)
  refine Sim.eqv (Sim.put hG hd (Below.refl _ _) (av := .h nx) ⟨.of get_cons_same, fun p' _ _ => (upd_same _ _ _).symm⟩ (Nat.lt_succ_self nx)) fun q => ?_
  cases q with
  | s i =>
    by_cases hi : i = d
    · subst hi; rw [get_cons_same]; exact get_cons_same.symm
    · rw [get_cons_ne (by simpa using fun e => hi e.symm), objSt_s]
      exact ((get_cons_ne (by simpa using fun e => hi e.symm)).trans ((get_cons_ne (by simp)).trans (get_cons_ne (by simp)))).symm
  | o i =>
    rw [get_cons_ne (by simp)]
    by_cases hi : i = nx
    · subst hi; rw [get_cons_same]; exact ((get_cons_ne (by simp)).trans get_cons_same).symm
    · rw [objSt_o hi]
      exact ((get_cons_ne (by simp)).trans ((get_cons_ne (by simpa using fun e => hi e.symm)).trans (get_cons_ne (by simp)))).symm
  | nx =>
    rw [get_cons_ne (by simp), objSt_nx]
    exact ((get_cons_ne (by simp)).trans ((get_cons_ne (by simp)).trans get_cons_same)).symm

/-- What it holds turns. -/
theorem gen_set (hs : SimG cx σ a w g nx) {id b : Nat} {p p' : Value → Obj → Prop} {o' : Obj} (ho : get σ (.o id) = .ob (.gen p)) (hb : blk (g id) = some b) (hlt : b < w.heap.size) (hp : p' (g id) o') :
    SimG cx (objSt σ nx id (.gen p')) a { w with heap := w.heap.setIfInBounds b o' } (upd g id (g id)) nx := by
  have hoth : ∀ c, c ≠ b → ({ w with heap := w.heap.setIfInBounds b o' } : World).heap[c]? = w.heap[c]? := fun c hc => by
    show (w.heap.setIfInBounds b _)[c]? = _
    rw [Array.getElem?_setIfInBounds, if_neg (fun e => hc e.symm)]
  obtain ⟨hid, ⟨b1, o1, h1, h2, h3, h4⟩, _⟩ := hs.objs id _ ho
  obtain rfl : b1 = b := Option.some.inj (h1.symm.trans hb)
  have hst : ObjStep cx σ g nx nx w { w with heap := w.heap.setIfInBounds b1 o' } id (.gen p') (g id) :=
    ⟨.inr ⟨rfl, _, ho, by simp [ObLe, upd_same]⟩, ⟨rfl, rfl, rfl, by simp, fun c hc => hoth c (by omega)⟩, fun c hc hn => hoth c fun e => hn _ ho (by rw [hb, e]), fun c hc => .inl ⟨_, ho, hc⟩⟩
  exact SimG.obj hs hst (fun _ => ⟨b1, o', by rw [upd_same]; exact hb, h2, by show (w.heap.setIfInBounds b1 _)[b1]? = _; rw [Array.getElem?_setIfInBounds, if_pos rfl, if_pos hlt], by rw [upd_same]; exact hp⟩) trivial
theorem gen_at (hs : SimG cx σ a w g nx) {id : Nat} {p : Value → Obj → Prop} {x : Value} (ho : get σ (.o id) = .ob (.gen p)) (hr : Rep cx g σ w x (.h id)) :
    ∃ b o, blk x = some b ∧ blk (g id) = some b ∧ b < w.heap.size ∧ w.heap[b]? = some o ∧ p x o ∧ x = g id := by
  obtain ⟨_, ⟨b, o, h1, h2, h3, h4⟩, _⟩ := hs.objs id _ ho
  have hx : x = g id := hr.2 _ ho rfl
  refine ⟨b, o, by rw [hx]; exact h1, h1, ?_, h3, by rw [hx]; exact h4, hx⟩
  rcases Nat.lt_or_ge b w.heap.size with h | h
  · exact h
  · rw [Array.getElem?_eq_none h] at h3; cases h3
/-! ### Over a text -/
def ItP (s : List UInt8) (k : Nat) : Value → Obj → Prop := fun v o => (∃ b, v = .pointer (some ⟨b, 0, none⟩)) ∧ o = .stringIter ⟨s.toArray⟩ k
theorem a_range {t : TypeId} {x : Operand} {s : List UInt8} {n0 : Nat} (hn : get σ .nx = .num n0) (hx : ev σ x = some (.d (.v (str s)))) (ht : cx.P.underlying t = some .string) (hd : Nat.blt d cx.n = true) :
    OA cx σ ⟨some d, .range t x, ty, pos, af, gd⟩ ⟨(.nx, .num n0) :: rdOf x (.d (.v (str s))), [(.s d, .av (.h n0)), (.o n0, .ob (.gen (ItP s 0))), (.nx, .num (n0 + 1))]⟩ := by
  refine ⟨ok_gennew (ItP s 0) (lt_of_blt hd) fun σ a w g nx hs hl => ⟨.pointer (some ⟨w.heap.size, 0, none⟩), .stringIter ⟨s.toArray⟩ 0, ?_, rfl, ⟨_, rfl⟩, rfl⟩, hn, (ev_out hx).2⟩
  have hv := rep_v (hs.ev (ev_out hx).1 hl).1
  simp [execOp, hv, Instr.range, run_underlying ht, newObj, Result.andThen]
  rfl
theorem decode_ascii {s : List UInt8} {k : Nat} {c : UInt8} (h : s[k]? = some c) (hc : c.toNat < 128) : Utf8.decode ⟨s.toArray⟩ k = (c.toNat, 1) := by
  have hg : (⟨s.toArray⟩ : ByteArray).get! (k + 0) = c := by
    show s.toArray[k + 0]! = c
    rw [Nat.add_zero, Array.getElem!_eq_getD, Array.getD_eq_getD_getElem?]
    simp [h]
  unfold Utf8.decode
  simp only [hg]
  rw [if_pos hc]
theorem a_next {x : Operand} {s : List UInt8} {k : Nat} {c : UInt8} (id : Nat) (hx : ev σ x = some (.h id)) (ho : get σ (.o id) = .ob (.gen (ItP s k))) (hk : s[k]? = some c) (hc : c.toNat < 128) (hd : Nat.blt d cx.n = true) :
    OA cx σ ⟨some d, .next x true, ty, pos, af, gd⟩ ⟨rdOf x (.h id) ++ [(.o id, .ob (.gen (ItP s k)))],
      [(.s d, .av (.tup [.d (.v (.bool true)), .d (.v (.int .i64 k)), .d (.v (.int .i32 c.toNat))])), (.o id, .ob (.gen (ItP s (k + 1))))]⟩ := by
  refine ⟨?_, (ev_out hx).2.append ⟨ho, trivial⟩⟩
  rintro σ a w K Q ⟨g, nx, hs⟩ hr hK
  have ho := hr.right.1
  obtain ⟨b, o, h1, h2, h3, h4, ⟨⟨b', h7⟩, h5⟩, h6⟩ := gen_at hs ho (hs.ev (ev_out hx).1 hr.left).1
  subst h5
  obtain rfl : b' = b := by rw [h7] at h1; simpa [blk] using h1
  have hkl := (List.getElem?_eq_some_iff.1 hk).1
  have hdec := decode_ascii hk hc
  have hG := gen_set hs (p' := ItP s (k + 1)) (o' := .stringIter ⟨s.toArray⟩ (k + 1)) ho h2 h3 ⟨⟨b', by rw [← h6]; exact h7⟩, rfl⟩
  have hrun : (execOp a.eval ⟨some d, .next x true, ty, pos, af, gd⟩).run cx.P w = .ok (.value (.tuple #[.bool true, .int .i64 k, .int .i32 c.toNat])) { w with heap := w.heap.setIfInBounds b' (.stringIter ⟨s.toArray⟩ (k + 1)) } := by
    have hsz : k < (⟨s.toArray⟩ : ByteArray).size := by show k < s.toArray.size; simpa using hkl
    have hget : (getObj b').run cx.P w = .ok (.stringIter ⟨s.toArray⟩ k) w := by simp [getObj, Sem.run, h4]
    have hset : ∀ o, (setObj b' o).run cx.P w = .ok () { w with heap := w.heap.setIfInBounds b' o } := fun o => by simp [setObj, Sem.run, h4]
    simp [execOp, h7, Instr.next, hget, hset, hsz, hdec, goInt, Result.andThen]
  refine wp_val rfl hrun (hK _ _ (Sim.eqv (Sim.put hG (lt_of_blt hd) (Below.refl _ _) (av := .tup [.d (.v (.bool true)), .d (.v (.int .i64 k)), .d (.v (.int .i32 c.toNat))]) ⟨_, rfl, rfl, fun j x av hj hc => ?_⟩ (by intro av hav; simp at hav; rcases hav with rfl | rfl | rfl <;> trivial)) fun q => ?_))
  · match j, hj, hc with
    | 0, hj, hc => simp at hj hc; subst hj hc; exact Rd.v _
    | 1, hj, hc => simp at hj hc; subst hj hc; exact Rd.v _
    | 2, hj, hc => simp at hj hc; subst hj hc; exact Rd.v _
    | j + 3, hj, hc => simp at hj
  cases q with
  | s i =>
    by_cases hi : i = d
    · subst hi; rw [get_cons_same]; exact get_cons_same.symm
    · rw [get_cons_ne (by simpa using fun e => hi e.symm), objSt_s]
      exact ((get_cons_ne (by simpa using fun e => hi e.symm)).trans (get_cons_ne (by simp))).symm
  | o i =>
    rw [get_cons_ne (by simp)]
    by_cases hi : i = id
    · subst hi; rw [get_cons_same]; exact ((get_cons_ne (by simp)).trans get_cons_same).symm
    · rw [objSt_o hi]
      exact ((get_cons_ne (by simp)).trans (get_cons_ne (by simpa using fun e => hi e.symm))).symm
  | nx =>
    rw [get_cons_ne (by simp), objSt_nx]
    exact (((get_cons_ne (by simp)).trans (get_cons_ne (by simp))).trans hs.hnx).symm
theorem a_nextE {x : Operand} {s : List UInt8} {k : Nat} (id : Nat) (hx : ev σ x = some (.h id)) (ho : get σ (.o id) = .ob (.gen (ItP s k))) (hk : s.length ≤ k) (hd : Nat.blt d cx.n = true) :
    OA cx σ ⟨some d, .next x true, ty, pos, af, gd⟩ ⟨rdOf x (.h id) ++ [(.o id, .ob (.gen (ItP s k)))], [(.s d, .av (.tup [.d (.v (.bool false))]))]⟩ := by
  refine ⟨?_, (ev_out hx).2.append ⟨ho, trivial⟩⟩
  rintro σ a w K Q ⟨g, nx, hs⟩ hr hK
  have ho := hr.right.1
  obtain ⟨b, o, h1, h2, h3, h4, ⟨⟨b', h7⟩, h5⟩, h6⟩ := gen_at hs ho (hs.ev (ev_out hx).1 hr.left).1
  subst h5
  obtain rfl : b' = b := by rw [h7] at h1; simpa [blk] using h1
  have hrun : (execOp a.eval ⟨some d, .next x true, ty, pos, af, gd⟩).run cx.P w = .ok (.value (.tuple #[.bool false])) w := by
    have hsz : ¬ k < (⟨s.toArray⟩ : ByteArray).size := by show ¬ k < s.toArray.size; simp; omega
    have hget : (getObj b').run cx.P w = .ok (.stringIter ⟨s.toArray⟩ k) w := by simp [getObj, Sem.run, h4]
    simp [execOp, h7, Instr.next, hget, hsz, Result.andThen]
  refine wp_val rfl hrun (hK _ _ (Sim.put hs (lt_of_blt hd) (Below.refl _ _) (av := .tup [.d (.v (.bool false))]) ⟨_, rfl, rfl, fun j x av hj hc => ?_⟩ (by intro av hav; simp at hav; subst hav; trivial)))
  match j, hj, hc with
  | 0, hj, hc => simp at hj hc; subst hj hc; exact Rd.v _
  | j + 1, hj, hc => simp at hj

end Go.AX

/-! AxGen2 -/
/-
  Maps of ours from numbers of whatever kind, their handles not known: made, written, read.
-/
namespace Go.AX
open Go.RowKit

variable {cx : Cx} {g : Nat → Value} {σ σ' : St} {a : Act} {w w' : World} {nx : Nat} {kk : IntKind}
variable {ty : TypeId} {pos : String} {af : Array Edge} {gd : Option (Nat × Bool)} {d : Nat}

/-! ### Texts one behind the other -/
theorem bytes_append (a b : List UInt8) : (⟨a.toArray⟩ : ByteArray) ++ ⟨b.toArray⟩ = ⟨(a ++ b).toArray⟩ := by
  apply ByteArray.ext
  simp
theorem bin_sadd {P : Program} {t : TypeId} {a b : List UInt8} (h : a.length + b.length ≤ 4611686018427387904) : BinR P .add t (str a) (str b) (str (a ++ b)) := by
  intro w x y
  have h1 : (⟨a.toArray⟩ : ByteArray).size = a.length := by show a.toArray.size = _; simp
  have h2 : (⟨b.toArray⟩ : ByteArray).size = b.length := by show b.toArray.size = _; simp
  have h3 : ¬ (((⟨a.toArray⟩ : ByteArray).size + (⟨b.toArray⟩ : ByteArray).size : Nat) : Int) > IntKind.i64.max := by
    rw [h1, h2]
    show ¬ ((a.length + b.length : Nat) : Int) > 9223372036854775807
    omega
  simp only [str, Sem.run_bind, eqGuard, Sem.run_pure, Result.andThen_ok, binOp, Op.stringOp]
  rw [if_neg h3, bytes_append]
  rfl

end Go.AX

/-! AxBsO -/
/-
  A literal slice as a slice of ours, to be grown.
-/
namespace Go.AX
open Go.RowKit

variable {cx : Cx} {g : Nat → Value} {σ σ' : St} {a : Act} {w w' : World} {nx : Nat}
variable {ty : TypeId} {pos : String} {af : Array Edge} {gd : Option (Nat × Bool)} {d : Nat}

theorem flatten_len {k : Nat} : ∀ {rs : List (List D)}, (∀ r ∈ rs, r.length = k) → rs.flatten.length = rs.length * k
  | [], _ => by simp
  | r :: rs, h => by
    rw [List.flatten_cons, List.length_append, h r (List.mem_cons_self ..), flatten_len fun x hx => h x (List.mem_cons_of_mem _ hx), List.length_cons, Nat.add_mul, Nat.one_mul, Nat.add_comm]
theorem ok_bsO {t e : TypeId} {n k n0 : Nat} {ps : List (Nat × Operand)} {rs : List (List D)} {l : List (Key × Val)} {ti te : TI} (hn : d < cx.n) (ht : tget cx.T t = some ti) (hk : ti.kind = .sl e k)
    (hte : tget cx.T e = some te) (h1 : ∀ c ∈ te.zero, Value.oneCell' c = true) (hp : Parts ps (numb 0 rs) l) (hrs : ∀ r ∈ rs, r.length = k) (hnl : n = rs.length) (hsm : n * k ≤ 65536) (hpos : n * k ≠ 0) :
    OpOk cx ⟨some d, .buildSlice t n ⟨ps⟩, ty, pos, af, gd⟩ ⟨(.nx, .num n0) :: l, [(.s d, .av (.own n0 n)), (.o n0, .ob (.arr e k rs)), (.nx, .num (n0 + 1))]⟩ := by
  rintro σ a w K Q ⟨g, nx, hs⟩ hr hK
  obtain ⟨hnn, hr⟩ := hr
  have hnx : nx = n0 := by
    have h2 := hs.hnx
    rw [hnn] at h2
    simpa using h2.symm
  subst hnx
  have hF := (cx.hT t ti ht).kind
  rw [hk] at hF
  obtain ⟨hu, ⟨ie, hie, hks⟩, hk0, _⟩ := hF
  obtain ⟨ie', hie', hes, _, z, hz, hzc⟩ := (cx.hT e te hte).info
  rw [hie] at hie'
  cases hie'
  obtain ⟨h2, h3⟩ := hp.ok hs hr
  have hzl : z.cells.size = k := by
    have := (cx.hT e te hte).len
    rw [← hzc] at this
    simp at this
    omega
  have hinit : RdL w (cx.own g σ) ((Array.range (n * ie.size)).map (z.cells[· % z.cells.size]!)).toList (((Array.range (n * ie.size)).map (z.cells[· % z.cells.size]!)).toList.map D.v) := by
    refine zero_rd fun c hc => ?_
    simp only [Array.toList_map, List.mem_map] at hc
    obtain ⟨q, _, rfl⟩ := hc
    refine h1 _ ?_
    rw [← hzc]
    have hlt : q % z.cells.size < z.cells.size := Nat.mod_lt _ (by rw [hzl]; exact Nat.pos_of_ne_zero fun e => hpos (by rw [e, Nat.mul_zero]))
    rw [getElem!_pos z.cells _ hlt]
    simp
  have hfr := fill_rows (k := k) (n := n) (rs := rs) (i := 0) (ds := ((Array.range (n * ie.size)).map (z.cells[· % z.cells.size]!)).toList.map D.v) hrs (by simp [hks]) (by omega)
  rw [Nat.zero_mul, List.take_zero, List.nil_append, List.drop_eq_nil_of_le (by simp [hks, hnl]), List.append_nil] at hfr
  obtain ⟨cs', h4, h5⟩ := fill_ok (cs := (Array.range (n * ie.size)).map (z.cells[· % z.cells.size]!)) h2 h3 hinit hfr
  have hrun := run_buildSlice (P := cx.P) w t e n (ps.map fun p => (p.1, a.eval p.2)).toArray cs' ie z hu hie hz (by rw [hks]; omega) (by rw [hks]; exact hpos) (by rw [← h4, hks])
  have hflen : rs.flatten.length = n * k := by rw [hnl]; exact flatten_len hrs
  have hcl : cs'.size = n * k := by have := h5.1; simp only [Array.length_toList] at this; omega
  have hb : Below w.heap.size w (w.alloc (.cells cs' e)) := (Below.refl _ _).alloc (Nat.le_refl _) _
  have hst : ObjStep cx σ g nx (nx + 1) w (w.alloc (.cells cs' e)) nx (.arr e k rs) (.slice (some ⟨w.heap.size, 0, none⟩) n n) :=
    ⟨.inl ⟨rfl, rfl⟩, hb.mono hs.below.size, fun c hc _ => hb.block c hc, fun c hc => .inr (by cases hc; exact Nat.le_refl _)⟩
  have hn65 : n ≤ 65536 := by
    rcases Nat.eq_zero_or_pos k with h | h
    · exact absurd (by rw [h, Nat.mul_zero]) hpos
    · exact Nat.le_trans (Nat.le_mul_of_pos_right n h) hsm
  have hG := SimG.obj hs hst (fun hl => ⟨cs'.toList, by
      rw [upd_same, ← hnl]
      refine ⟨by simpa using hcl, .inr ⟨w.heap.size, n, cs', rfl, hs.below.size, heap_alloc_new w _, Nat.le_refl _, by unfold maxLen; omega, hcl, ?_⟩⟩
      rw [List.take_of_length_le (by simp [hcl])], h5.2.1, hrs, fun i j r x v hi hj hv => by
      have hf := flat_get hrs hi hj
      exact (h5.2.2 _ v x hf hv).step hl.ext hl.own⟩) trivial
  have hex : (execOp a.eval ⟨some d, .buildSlice t n ⟨ps⟩, ty, pos, af, gd⟩).run cx.P w = .ok (.value (.slice (some ⟨w.heap.size, 0, none⟩) n n)) (w.alloc (.cells cs' e)) := by
    simp only [execOp, List.map_toArray, Sem.run_bind, hrun, Result.andThen_ok, Sem.run_pure]
  refine wp_val rfl hex (hK _ _ ?_)
  refine Sim.eqv (Sim.put hG hn (Below.refl _ _) (av := .own nx n) ⟨.of get_cons_same, fun e' k' rows' hg => ?_⟩ (Nat.lt_succ_self nx)) fun q => ?_
  · rw [get_cons_same] at hg
    simp only [Val.ob.injEq, Ob.arr.injEq] at hg
    obtain ⟨_, _, rfl⟩ := hg
    exact ⟨by omega, fun _ => (upd_same _ _ _).symm⟩
  cases q with
  | s i =>
    by_cases hi : i = d
    · subst hi; rw [get_cons_same]; exact get_cons_same.symm
    · rw [get_cons_ne (by simpa using fun e => hi e.symm), objSt_s]
      exact ((get_cons_ne (by simpa using fun e => hi e.symm)).trans ((get_cons_ne (by simp)).trans (get_cons_ne (by simp)))).symm
  | o i =>
    rw [get_cons_ne (by simp)]
    by_cases hi : i = nx
    · subst hi; rw [get_cons_same]; exact ((get_cons_ne (by simp)).trans get_cons_same).symm
    · rw [objSt_o hi]
      exact ((get_cons_ne (by simp)).trans ((get_cons_ne (by simpa using fun e => hi e.symm)).trans (get_cons_ne (by simp)))).symm
  | nx =>
    rw [get_cons_ne (by simp), objSt_nx]
    exact ((get_cons_ne (by simp)).trans ((get_cons_ne (by simp)).trans get_cons_same)).symm
theorem a_bsO {t e n k n0 : Nat} {ps : List (Nat × Operand)} (rs : List (List D)) {l : List (Key × Val)} {ti te : TI} (hn0 : get σ .nx = .num n0) (ht : tget cx.T t = some ti) (hk : ti.kind = .sl e k)
    (hte : tget cx.T e = some te) (h1 : (te.zero.all Value.oneCell') = true) (hrs : (rs.all fun r => Nat.beq r.length k) = true) (hnl : n = rs.length) (hsm : Nat.ble (n * k) 65536 = true) (hpos : Nat.blt 0 (n * k) = true)
    (hd : Nat.blt d cx.n = true) (hp : PartsE σ ps (numb 0 rs) l) : OA cx σ ⟨some d, .buildSlice t n ⟨ps⟩, ty, pos, af, gd⟩ ⟨(.nx, .num n0) :: l, [(.s d, .av (.own n0 n)), (.o n0, .ob (.arr e k rs)), (.nx, .num (n0 + 1))]⟩ :=
  ⟨ok_bsO (lt_of_blt hd) ht hk hte (fun c hc => List.all_eq_true.1 h1 c hc) hp.out.1 (fun r hr => by simpa using List.all_eq_true.1 hrs r hr) hnl (by simpa using hsm) (Nat.ne_of_gt (lt_of_blt hpos)), hn0, hp.out.2⟩

end Go.AX

/-! G1 -/
/-
  Contracts of the library's Clone: what comes back is the caller's own.
-/
namespace Go.Proofs.YtfaaghkgfbhglaaDoor
open Go.AX Go.RF

set_option maxRecDepth 100000
set_option maxHeartbeats 4000000

theorem new_clone_str (rows : List (List D)) (hl : rows.length ≤ 536870912) : FnNew Tryd.prog 32 [.d (.sl 1 rows)] 9 1 rows := by
  refine fnNew_of tbl_ok mixed_ok Tryd.func32 rfl (by kernel_rfl) rfl rfl fun w0 own0 => ?_
  cases rows with
  | nil =>
    refine CW.empty 0 rfl fun p cp => ?_
    cases p with
    | none =>
      repeat (first|((with_reducible apply s1); exact rfl)|(with_reducible first|apply CW.seq|apply CW.block|apply CW.region|apply CW.draw|apply CW.skip|apply CW.exit|apply CW.ret|apply q_then|apply q_then_exit|apply q_then_ret|apply q_block|apply q_block_ret|apply q_block_hit|apply q_ret|apply q_end|apply q_loop_exit|apply q_loop_ret|apply q_loopT_exit|apply q_loopT_ret|apply RW.nil)|((with_reducible apply s3); exact rfl; exact by_k)|((with_reducible apply s2); exact rfl; exact by_k)|((with_reducible apply s4); exact rfl)|((with_reducible apply s5); exact by_oa; exact by_g)|((with_reducible apply CW.cond_t); exact rfl; exact by_ks)|((with_reducible apply CW.cond_f); exact rfl; exact by_ks)|((with_reducible apply q_block_miss); exact rfl)|(refine And.intro (show chk [] [] _ _ = true by kernel_rfl) ?_))
      exact RetNew.nil rfl rfl
    | some ad =>
      repeat (first|(with_reducible apply stop_reg 3)|((with_reducible apply s1); exact rfl)|(with_reducible first|apply CW.seq|apply CW.block|apply CW.region|apply CW.draw|apply CW.skip|apply CW.exit|apply CW.ret|apply q_then|apply q_then_exit|apply q_then_ret|apply q_block|apply q_block_ret|apply q_block_hit|apply q_ret|apply q_end|apply q_loop_exit|apply q_loop_ret|apply q_loopT_exit|apply q_loopT_ret|apply RW.nil)|((with_reducible apply s3); exact rfl; exact by_k)|((with_reducible apply s2); exact rfl; exact by_k)|((with_reducible apply s4); exact rfl)|((with_reducible apply s5); exact by_oa; exact by_g)|((with_reducible apply CW.cond_t); exact rfl; exact by_ks)|((with_reducible apply CW.cond_f); exact rfl; exact by_ks)|((with_reducible apply q_block_miss); exact rfl)|(refine And.intro (show chk [] [] _ _ = true by kernel_rfl) ?_))
      refine Stop.go (CW.stut (stut_nilv (i := 0) (k := 1)) ⟨rfl, trivial⟩ ?_)
      repeat (first|((with_reducible apply s1); exact rfl)|(with_reducible first|apply CW.seq|apply CW.block|apply CW.region|apply CW.draw|apply CW.skip|apply CW.exit|apply CW.ret|apply q_then|apply q_then_exit|apply q_then_ret|apply q_block|apply q_block_ret|apply q_block_hit|apply q_ret|apply q_end|apply q_loop_exit|apply q_loop_ret|apply q_loopT_exit|apply q_loopT_ret|apply RW.nil)|((with_reducible apply s3); exact rfl; exact by_k)|((with_reducible apply s2); exact rfl; exact by_k)|((with_reducible apply s4); exact rfl)|((with_reducible apply s5); exact by_oa; exact by_g)|((with_reducible apply CW.cond_t); exact rfl; exact by_ks)|((with_reducible apply CW.cond_f); exact rfl; exact by_ks)|((with_reducible apply q_block_miss); exact rfl)|(refine And.intro (show chk [] [] _ _ = true by kernel_rfl) ?_))
      exact RetNew.own rfl rfl rfl
  | cons r rows =>
    have hl2 : rows.length ≤ 536870911 := by simp at hl; omega
    repeat (first|((with_reducible apply s1); exact rfl)|(with_reducible first|apply CW.seq|apply CW.block|apply CW.region|apply CW.draw|apply CW.skip|apply CW.exit|apply CW.ret|apply q_then|apply q_then_exit|apply q_then_ret|apply q_block|apply q_block_ret|apply q_block_hit|apply q_ret|apply q_end|apply q_loop_exit|apply q_loop_ret|apply q_loopT_exit|apply q_loopT_ret|apply RW.nil)|((with_reducible apply s3); exact rfl; exact by_k)|((with_reducible apply s2); exact rfl; exact by_k)|((with_reducible apply s4); exact rfl)|((with_reducible apply s5); exact by_oa; exact by_g)|((with_reducible apply CW.cond_t); exact rfl; exact by_ks)|((with_reducible apply CW.cond_f); exact rfl; exact by_ks)|((with_reducible apply q_block_miss); exact rfl)|(refine And.intro (show chk [] [] _ _ = true by kernel_rfl) ?_))
    exact RetNew.own rfl rfl (by simp)
theorem ok_clone_str (rows : List (List D)) (hl : rows.length ≤ 536870912) : FnOk Tryd.prog 32 [.d (.sl 1 rows)] (.one (.sl 1 rows)) := (new_clone_str rows hl).ok

theorem new_clone_ins (rows : List (List D)) (hl : rows.length ≤ 536870912) : FnNew Tryd.prog 33 [.d (.sl 5 rows)] 35 5 rows := by
  refine fnNew_of tbl_ok mixed_ok Tryd.func33 rfl (by kernel_rfl) rfl rfl fun w0 own0 => ?_
  cases rows with
  | nil =>
    refine CW.empty 0 rfl fun p cp => ?_
    cases p with
    | none =>
      repeat (first|((with_reducible apply s1); exact rfl)|(with_reducible first|apply CW.seq|apply CW.block|apply CW.region|apply CW.draw|apply CW.skip|apply CW.exit|apply CW.ret|apply q_then|apply q_then_exit|apply q_then_ret|apply q_block|apply q_block_ret|apply q_block_hit|apply q_ret|apply q_end|apply q_loop_exit|apply q_loop_ret|apply q_loopT_exit|apply q_loopT_ret|apply RW.nil)|((with_reducible apply s3); exact rfl; exact by_k)|((with_reducible apply s2); exact rfl; exact by_k)|((with_reducible apply s4); exact rfl)|((with_reducible apply s5); exact by_oa; exact by_g)|((with_reducible apply CW.cond_t); exact rfl; exact by_ks)|((with_reducible apply CW.cond_f); exact rfl; exact by_ks)|((with_reducible apply q_block_miss); exact rfl)|(refine And.intro (show chk [] [] _ _ = true by kernel_rfl) ?_))
      exact RetNew.nil rfl rfl
    | some ad =>
      repeat (first|(with_reducible apply stop_reg 3)|((with_reducible apply s1); exact rfl)|(with_reducible first|apply CW.seq|apply CW.block|apply CW.region|apply CW.draw|apply CW.skip|apply CW.exit|apply CW.ret|apply q_then|apply q_then_exit|apply q_then_ret|apply q_block|apply q_block_ret|apply q_block_hit|apply q_ret|apply q_end|apply q_loop_exit|apply q_loop_ret|apply q_loopT_exit|apply q_loopT_ret|apply RW.nil)|((with_reducible apply s3); exact rfl; exact by_k)|((with_reducible apply s2); exact rfl; exact by_k)|((with_reducible apply s4); exact rfl)|((with_reducible apply s5); exact by_oa; exact by_g)|((with_reducible apply CW.cond_t); exact rfl; exact by_ks)|((with_reducible apply CW.cond_f); exact rfl; exact by_ks)|((with_reducible apply q_block_miss); exact rfl)|(refine And.intro (show chk [] [] _ _ = true by kernel_rfl) ?_))
      refine Stop.go (CW.stut (stut_nilv (i := 0) (k := 5)) ⟨rfl, trivial⟩ ?_)
      repeat (first|((with_reducible apply s1); exact rfl)|(with_reducible first|apply CW.seq|apply CW.block|apply CW.region|apply CW.draw|apply CW.skip|apply CW.exit|apply CW.ret|apply q_then|apply q_then_exit|apply q_then_ret|apply q_block|apply q_block_ret|apply q_block_hit|apply q_ret|apply q_end|apply q_loop_exit|apply q_loop_ret|apply q_loopT_exit|apply q_loopT_ret|apply RW.nil)|((with_reducible apply s3); exact rfl; exact by_k)|((with_reducible apply s2); exact rfl; exact by_k)|((with_reducible apply s4); exact rfl)|((with_reducible apply s5); exact by_oa; exact by_g)|((with_reducible apply CW.cond_t); exact rfl; exact by_ks)|((with_reducible apply CW.cond_f); exact rfl; exact by_ks)|((with_reducible apply q_block_miss); exact rfl)|(refine And.intro (show chk [] [] _ _ = true by kernel_rfl) ?_))
      exact RetNew.own rfl rfl rfl
  | cons r rows =>
    have hl2 : rows.length ≤ 536870911 := by simp at hl; omega
    repeat (first|((with_reducible apply s1); exact rfl)|(with_reducible first|apply CW.seq|apply CW.block|apply CW.region|apply CW.draw|apply CW.skip|apply CW.exit|apply CW.ret|apply q_then|apply q_then_exit|apply q_then_ret|apply q_block|apply q_block_ret|apply q_block_hit|apply q_ret|apply q_end|apply q_loop_exit|apply q_loop_ret|apply q_loopT_exit|apply q_loopT_ret|apply RW.nil)|((with_reducible apply s3); exact rfl; exact by_k)|((with_reducible apply s2); exact rfl; exact by_k)|((with_reducible apply s4); exact rfl)|((with_reducible apply s5); exact by_oa; exact by_g)|((with_reducible apply CW.cond_t); exact rfl; exact by_ks)|((with_reducible apply CW.cond_f); exact rfl; exact by_ks)|((with_reducible apply q_block_miss); exact rfl)|(refine And.intro (show chk [] [] _ _ = true by kernel_rfl) ?_))
    exact RetNew.own rfl rfl (by simp)
theorem ok_clone_ins (rows : List (List D)) (hl : rows.length ≤ 536870912) : FnOk Tryd.prog 33 [.d (.sl 5 rows)] (.one (.sl 5 rows)) := (new_clone_ins rows hl).ok

end Go.Proofs.YtfaaghkgfbhglaaDoor

/-! G3 -/
/-
  Contracts of the program's copies, and of what it counts in engines.
-/
namespace Go.Proofs.YtfaaghkgfbhglaaDoor
open Go.AX Go.RF

set_option maxRecDepth 100000
set_option maxHeartbeats 4000000

theorem ok_deedOwn (d : Deed) (hs : d.Sm) : FnOk Tryd.prog 19 [.d (.agg d.enc)] (.one (.agg d.enc)) := by
  refine fnOk_of tbl_ok mixed_ok Tryd.func19 rfl (by kernel_rfl) rfl rfl fun w0 own0 => ?_
  have h1 := hs.r
  have h2 := hs.w
  have h3 := hs.c
  have c1 := ok_clone_str (d.reads.map encStr1) (by simp; omega)
  have c2 := ok_clone_str (d.writes.map encStr1) (by simp; omega)
  have c3 := ok_clone_ins (d.code.map Ins.enc) (by simp; omega)
  repeat (first|((with_reducible apply s1); exact rfl)|(with_reducible first|apply CW.seq|apply CW.block|apply CW.region|apply CW.draw|apply CW.skip|apply CW.exit|apply CW.ret|apply q_then|apply q_then_exit|apply q_then_ret|apply q_block|apply q_block_ret|apply q_block_hit|apply q_ret|apply q_end|apply q_loop_exit|apply q_loop_ret|apply q_loopT_exit|apply q_loopT_ret|apply RW.nil)|((with_reducible apply s3); exact rfl; exact by_k)|((with_reducible apply s2); exact rfl; exact by_k)|((with_reducible apply s4); exact rfl)|((with_reducible apply s5); (first|exact a_call c1 rfl by_sub|exact a_call c2 rfl by_sub|exact a_call c3 rfl by_sub|exact by_oa); exact by_g)|((with_reducible apply CW.cond_t); exact rfl; exact by_ks)|((with_reducible apply CW.cond_f); exact rfl; exact by_ks)|((with_reducible apply q_block_miss); exact rfl)|(refine And.intro (show chk [] [] _ _ = true by kernel_rfl) ?_))
  exact .one (.cell rfl rfl rfl rfl (.aggd (ds := d.enc) rfl (.refl _)))

end Go.Proofs.YtfaaghkgfbhglaaDoor

/-! P1 -/
/-
  Engines as they are built have chains in order, and versions in order: plain facts; what forgetting comes to.
-/
namespace Go.Proofs.YtfaaghkgfbhglaaDoor
open Go.AX Go.RF

def VSrt (l : List Version) : Prop := l.Pairwise fun a b => a.by_ < b.by_
theorem VSrt.cons {v : Version} {l : List Version} : VSrt (v :: l) ↔ (∀ w ∈ l, v.by_ < w.by_) ∧ VSrt l := List.pairwise_cons

/-! ### Rows that are right -/
/-! ### A version more, in order -/
/-! ### Engines -/
end Go.Proofs.YtfaaghkgfbhglaaDoor

/-! P4 -/
/-
  Rows given and taken: plain laws. Keys by Trim.
-/
namespace Go.Proofs.YtfaaghkgfbhglaaDoor
open Go.AX Go.RF

/-! ### What a key has, behind -/
/-! ### In order, and the same members: the same -/
/-! ### Right rows stay right -/
/-! ### Keys, by Trim -/
def alpha : List UInt8 := [97, 98, 99, 100, 101, 102, 103, 104, 105, 106, 107, 108, 109, 110, 111, 112, 113, 114, 115, 116, 117, 118, 119, 120, 121, 122]
theorem alpha_bad (c : UInt8) : alpha.contains c = !bad c := by
  have h : ∀ n : Fin 256, alpha.contains (UInt8.ofFin n) = !bad (UInt8.ofFin n) := by decide +kernel
  have := h c.toFin
  rwa [UInt8.ofFin_toFin] at this
theorem dropWhile_nil {p : UInt8 → Bool} : ∀ {l : List UInt8}, l.dropWhile p = [] ↔ ∀ x ∈ l, p x = true
  | [] => by simp
  | x :: l => by
    cases h : p x with
    | true => rw [List.dropWhile_cons_of_pos h, dropWhile_nil]; simp [h]
    | false => rw [List.dropWhile_cons_of_neg (by simp [h])]; simp [h]
theorem dropWhile_head {p : UInt8 → Bool} : ∀ {l r : List UInt8} {x : UInt8}, l.dropWhile p = x :: r → p x = false
  | [], r, x, h => by simp at h
  | y :: l, r, x, h => by
    cases hy : p y with
    | true => rw [List.dropWhile_cons_of_pos hy] at h; exact dropWhile_head h
    | false => rw [List.dropWhile_cons_of_neg (by simp [hy])] at h; cases h; exact hy
theorem trim_nil {l cs : List UInt8} : Lib.trimS l cs = [] ↔ ∀ x ∈ l, cs.contains x = true := by
  unfold Lib.trimS Lib.trimLeftS Lib.trimRightS
  rw [dropWhile_nil]
  constructor
  · intro h
    have h1 : l.reverse.dropWhile (cs.contains ·) = [] := by
      cases h2 : l.reverse.dropWhile (cs.contains ·) with
      | nil => rfl
      | cons x r =>
        have h3 := dropWhile_head h2
        have h4 := h x (by rw [h2]; simp)
        rw [h3] at h4; cases h4
    intro x hx
    exact dropWhile_nil.1 h1 x (by simpa using hx)
  · intro h x hx
    have h1 : l.reverse.dropWhile (cs.contains ·) = [] := dropWhile_nil.2 fun x hx => h x (by simpa using hx)
    rw [h1] at hx; simp at hx
theorem keyGo_eq {s : Str} : ∀ {r : Str}, keyGo s r = ((r.all fun c => !bad c) && (decide (0 < s.length) && decide (s.length < 7)))
  | [] => by simp [keyGo]
  | c :: r => by
    simp only [keyGo, List.all_cons]
    rw [keyGo_eq]
    cases bad c <;> simp
theorem key_trim (s : Str) : key s = (decide (1 ≤ s.length) && (decide (s.length ≤ 6) && decide (Lib.trimS s alpha = []))) := by
  unfold key
  rw [keyGo_eq]
  have h1 : (s.all fun c => !bad c) = decide (Lib.trimS s alpha = []) := by
    rw [Bool.eq_iff_iff, decide_eq_true_eq, trim_nil, List.all_eq_true]
    simp only [alpha_bad]
  rw [h1]
  have h2 : decide (0 < s.length) = decide (1 ≤ s.length) := by congr 1
  have h3 : decide (s.length < 7) = decide (s.length ≤ 6) := by congr 1; exact propext ⟨fun h => by omega, fun h => by omega⟩
  rw [h2, h3]
  cases decide (Lib.trimS s alpha = []) <;> cases decide (1 ≤ s.length) <;> cases decide (s.length ≤ 6) <;> rfl
end Go.Proofs.YtfaaghkgfbhglaaDoor

/-! P5 -/
/-
  The program's way of doing a deed comes to the references'.
-/
namespace Go.Proofs.YtfaaghkgfbhglaaDoor
open Go.AX Go.RF

/-! ### What has been made, given to rows -/
theorem isIn_true {s : Str} : ∀ {l : List Str}, isIn l s = true → s ∈ l
  | [], h => by cases h
  | x :: l, h => by
    simp only [isIn] at h
    by_cases hx : x = s
    · rw [hx]; exact List.mem_cons_self ..
    · rw [if_neg hx] at h
      exact List.mem_cons_of_mem _ (isIn_true h)
end Go.Proofs.YtfaaghkgfbhglaaDoor

/-! G15 -/
/-
  Contracts of the library's Index and Contains, of texts and of numbers; of the program's Keys.
-/
namespace Go.Proofs.YtfaaghkgfbhglaaDoor
open Go.AX Go.RF

set_option maxRecDepth 100000
set_option maxHeartbeats 8000000

def idxS : Nat → List Str → Str → Int
  | _, [], _ => -1
  | i, x :: l, s => if x = s then (i : Int) else idxS (i + 1) l s
theorem idxS_in : ∀ {l : List Str} {i : Nat} {s : Str}, decide (0 ≤ idxS i l s) = isIn l s
  | [], i, s => rfl
  | x :: l, i, s => by
    by_cases h : x = s
    · simp only [idxS, isIn, if_pos h]; exact decide_eq_true (by omega)
    · simp only [idxS, isIn, if_neg h]; exact idxS_in
theorem ok_indexS (l : List Str) (s : Str) (hl : l.length ≤ 1073741824) : FnOk Tryd.prog 27 [.d (encStrs l), .d (dstr s)] (.one (dint (idxS 0 l s))) := by
  refine fnOk_of tbl_ok mixed_ok Tryd.func27 rfl (by kernel_rfl) rfl rfl fun w0 own0 => ?_
  repeat (first|((with_reducible apply s1); exact rfl)|(with_reducible first|apply CW.seq|apply CW.block|apply CW.region|apply CW.draw|apply CW.skip|apply CW.exit|apply CW.ret|apply q_then|apply q_then_exit|apply q_then_ret|apply q_block|apply q_block_ret|apply q_block_hit|apply q_ret|apply q_end|apply q_loop_exit|apply q_loop_ret|apply q_loopT_exit|apply q_loopT_ret|apply RW.nil)|((with_reducible apply s3); exact rfl; exact by_k)|((with_reducible apply s2); exact rfl; exact by_k)|((with_reducible apply s4); exact rfl)|((with_reducible apply s5); exact by_oa; exact by_g)|((with_reducible apply CW.cond_t); exact rfl; exact by_ks)|((with_reducible apply CW.cond_f); exact rfl; exact by_ks)|((with_reducible apply q_block_miss); exact rfl)|(refine And.intro (show chk [] [] _ _ = true by kernel_rfl) ?_))
  refine CW.loopT (fun t : Nat => [sd 0 (encStrs l), sd 1 (dstr s), sd 6 (encStrs l), sd 7 (dint l.length), sd 8 (dint t), nxt 0])
    (fun t => t ≤ l.length ∧ idxS t (l.drop t) s = idxS 0 l s) (fun t => l.length - t) 0 ⟨by omega, rfl⟩ ?_ ?_
  ·
    exact by_less
  · rintro t ⟨ht, hI⟩
    rcases drop_case ht with ⟨h1, h2⟩ | ⟨x, h1, h2, h3⟩
    · rw [h1, idxS] at hI
      repeat (first|((with_reducible apply s1); exact rfl)|(with_reducible first|apply CW.seq|apply CW.block|apply CW.region|apply CW.draw|apply CW.skip|apply CW.exit|apply CW.ret|apply q_then|apply q_then_exit|apply q_then_ret|apply q_block|apply q_block_ret|apply q_block_hit|apply q_ret|apply q_end|apply q_loop_exit|apply q_loop_ret|apply q_loopT_exit|apply q_loopT_ret|apply RW.nil)|((with_reducible apply s3); exact rfl; exact by_k)|((with_reducible apply s2); exact rfl; exact by_k)|((with_reducible apply s4); exact rfl)|((with_reducible apply s5); exact by_oa; exact by_g)|((with_reducible apply CW.cond_t); exact rfl; exact by_ks)|((with_reducible apply CW.cond_f); exact rfl; exact by_ks)|((with_reducible apply q_block_miss); exact rfl)|(refine And.intro (show chk [] [] _ _ = true by kernel_rfl) ?_))
      rw [← hI]
      exact .one (.tmp rfl (.one (.d (.refl _))))
    · rw [h1, idxS] at hI
      by_cases h : x = s
      · rw [if_pos h] at hI
        have h' : s = x := h.symm
        repeat (first|((with_reducible apply s1); exact rfl)|(with_reducible first|apply CW.seq|apply CW.block|apply CW.region|apply CW.draw|apply CW.skip|apply CW.exit|apply CW.ret|apply q_then|apply q_then_exit|apply q_then_ret|apply q_block|apply q_block_ret|apply q_block_hit|apply q_ret|apply q_end|apply q_loop_exit|apply q_loop_ret|apply q_loopT_exit|apply q_loopT_ret|apply RW.nil)|((with_reducible apply s3); exact rfl; exact by_k)|((with_reducible apply s2); exact rfl; exact by_k)|((with_reducible apply s4); exact rfl)|((with_reducible apply s5); exact by_oa; exact by_g)|((with_reducible apply CW.cond_t); exact rfl; exact by_ks)|((with_reducible apply CW.cond_f); exact rfl; exact by_ks)|((with_reducible apply q_block_miss); exact rfl)|(refine And.intro (show chk [] [] _ _ = true by kernel_rfl) ?_))
        rw [← hI]
        exact .one (.tmp rfl (.one (.d (.refl _))))
      · rw [if_neg h] at hI
        have h' : ¬ s = x := fun e => h e.symm
        repeat (first|((with_reducible apply s1); exact rfl)|(with_reducible first|apply CW.seq|apply CW.block|apply CW.region|apply CW.draw|apply CW.skip|apply CW.exit|apply CW.ret|apply q_then|apply q_then_exit|apply q_then_ret|apply q_block|apply q_block_ret|apply q_block_hit|apply q_ret|apply q_end|apply q_loop_exit|apply q_loop_ret|apply q_loopT_exit|apply q_loopT_ret|apply RW.nil)|((with_reducible apply s3); exact rfl; exact by_k)|((with_reducible apply s2); exact rfl; exact by_k)|((with_reducible apply s4); exact rfl)|((with_reducible apply s5); exact by_oa; exact by_g)|((with_reducible apply CW.cond_t); exact rfl; exact by_ks)|((with_reducible apply CW.cond_f); exact rfl; exact by_ks)|((with_reducible apply q_block_miss); exact rfl)|(refine And.intro (show chk [] [] _ _ = true by kernel_rfl) ?_))
        refine q_loopT (t + 1) ⟨by omega, hI⟩ (by omega) ?_
        exact by_less
theorem ok_containsS (l : List Str) (s : Str) (hl : l.length ≤ 1073741824) : FnOk Tryd.prog 43 [.d (encStrs l), .d (dstr s)] (.one (dbool (isIn l s))) := by
  refine fnOk_of tbl_ok mixed_ok Tryd.func43 rfl (by kernel_rfl) rfl rfl fun w0 own0 => ?_
  have c1 := ok_indexS l s hl
  repeat (first|((with_reducible apply s1); exact rfl)|(with_reducible first|apply CW.seq|apply CW.block|apply CW.region|apply CW.draw|apply CW.skip|apply CW.exit|apply CW.ret|apply q_then|apply q_then_exit|apply q_then_ret|apply q_block|apply q_block_ret|apply q_block_hit|apply q_ret|apply q_end|apply q_loop_exit|apply q_loop_ret|apply q_loopT_exit|apply q_loopT_ret|apply RW.nil)|((with_reducible apply s3); exact rfl; exact by_k)|((with_reducible apply s2); exact rfl; exact by_k)|((with_reducible apply s4); exact rfl)|((with_reducible apply s5); (first|exact a_call c1 rfl by_sub|exact by_oa); exact by_g)|((with_reducible apply CW.cond_t); exact rfl; exact by_ks)|((with_reducible apply CW.cond_f); exact rfl; exact by_ks)|((with_reducible apply q_block_miss); exact rfl)|(refine And.intro (show chk [] [] _ _ = true by kernel_rfl) ?_))
  rw [← idxS_in (i := 0)]
  exact .one (.tmp rfl (.one (.d (.refl _))))

/-! ### Keys -/
end Go.Proofs.YtfaaghkgfbhglaaDoor

/-! H9 -/
/-
  Contracts of the library's Split, Join, CutPrefix; of the program's number, words, fields.
-/
namespace Go.Proofs.YtfaaghkgfbhglaaDoor
open Go.AX Go.RF Go.RowKit

set_option maxRecDepth 100000
set_option maxHeartbeats 8000000

theorem ok_lsplit (s sep : Str) (hs : s.length ≤ 1000000000) (hp : sep ≠ []) : FnOk Tryd.prog 16 [.d (dstr s), .d (dstr sep)] (.one (encStrs (split s sep))) := by
  refine ⟨⟨_, Tryd.func16, by kernel_rfl, by kernel_rfl⟩, fun w own vs hown ha => ?_⟩
  match vs, ha with
  | [x, y], ⟨h1, h2, _⟩ =>
    obtain rfl : x = str s := rd_v h1
    obtain rfl : y = str sep := rd_v h2
    obtain ⟨cs, hv, m, hm⟩ := hown.2.mx _ (show Tryd.prog.globalNamed "internal/bytealg.MaxLen" = some (Tryd.lays146_ren.g 1) by kernel_rfl)
    have hm' : w.cell? ⟨Tryd.lays146_ren.g 1, 0, none⟩ = some (.int .i64 m) := by rw [World.var?_cell (by kernel_rfl) hv 0]; exact hm
    have hl : 1 ≤ (⟨sep.toArray⟩ : ByteArray).size := by
      show 1 ≤ sep.toArray.size
      have := List.length_pos_iff.2 hp
      rw [List.size_toArray]; omega
    refine (Any.strings_Split Tryd.lays146 (by kernel_rfl) ⟨s.toArray⟩ ⟨sep.toArray⟩ m w (by show s.toArray.size < _; simp; omega) hm' hl).mono fun e w' he => ?_
    obtain ⟨rfl, rfl⟩ := he
    have hmap := Lib.splitB_data ⟨sep.toArray⟩ 0 (Lib.countB ⟨s.toArray⟩ ⟨sep.toArray⟩) ⟨s.toArray⟩
    have hlen := Lib.splitB_all ⟨sep.toArray⟩ hl 0 _ ⟨s.toArray⟩ rfl
    have hsp : (Lib.splitB ⟨sep.toArray⟩ 0 (Lib.countB ⟨s.toArray⟩ ⟨sep.toArray⟩) ⟨s.toArray⟩).map (·.data.toList) = split s sep := by
      rw [hmap, split_lib hp]; rfl
    generalize Lib.splitB ⟨sep.toArray⟩ 0 (Lib.countB ⟨s.toArray⟩ ⟨sep.toArray⟩) ⟨s.toArray⟩ = L at hsp hlen
    refine ⟨_, rfl, (Below.refl _ _).alloc (Nat.le_refl _) _, ?_⟩
    rw [← hlen]
    refine rd_new hown.1 ?_ (fun r hr => ?_) L.length ?_
    · have hfl : ((split s sep).map encStr1).flatten = (split s sep).map dstr := by
        induction split s sep with
        | nil => rfl
        | cons x l ih => simp [encStr1, ih]
      rw [hfl, ← hsp]
      refine ⟨by simp, fun c hc => ?_, fun j c x hj hc => ?_⟩
      · simp at hc
        obtain ⟨b, _, rfl⟩ := hc
        rfl
      · simp only [List.map_map, List.getElem?_map, Option.map_eq_some_iff] at hj hc
        obtain ⟨b, hb, rfl⟩ := hj
        obtain ⟨b', hb', rfl⟩ := hc
        rw [hb] at hb'
        cases hb'
        exact Rd.v _
    · obtain ⟨q, _, rfl⟩ := List.mem_map.1 hr
      rfl
    · rw [List.length_map, ← hsp, List.length_map]
theorem ok_join (l : List Str) (sep : Str) (hl : l.length ≤ 1000000) (hj : (joinS sep l).length ≤ 1000000) : FnOk Tryd.prog 12 [.d (encStrs l), .d (dstr sep)] (.one (dstr (joinS sep l))) := by
  refine ⟨⟨_, Tryd.func12, by kernel_rfl, by kernel_rfl⟩, fun w own vs hown ha => ?_⟩
  match vs, ha with
  | [x, y], ⟨h1, h2, _⟩ =>
    obtain rfl : y = str sep := rd_v h2
    have h1' : Rd w own x (.sl 1 (l.map encStr1)) := h1
    generalize hr : l.map encStr1 = rows at h1'
    generalize hd : D.sl 1 rows = dd at h1'
    cases h1' with
    | v => cases hd
    | x => cases hd
    | agg => cases hd
    | nil a cap k =>
      cases hd
      have : l = [] := by simpa using hr
      subst this
      refine (Any.strings_Join_none Tryd.lays156 Tryd.bld156 a cap ⟨sep.toArray⟩ w).mono fun e w' he => ?_
      obtain ⟨rfl, rfl⟩ := he
      exact ⟨_, rfl, Below.refl _ _, Rd.v _⟩
    | sl ad cap k rows' f hb hs hcap hk hc h3 hrd =>
      cases hd
      have hrl : rows.length = l.length := by rw [← hr, List.length_map]
      by_cases h0 : l = []
      · subst h0
        rw [show rows.length = 0 by rw [hrl]; rfl]
        refine (Any.strings_Join_none Tryd.lays156 Tryd.bld156 (some ad) cap ⟨sep.toArray⟩ w).mono fun e w' he => ?_
        obtain ⟨rfl, rfl⟩ := he
        exact ⟨_, rfl, Below.refl _ _, Rd.v _⟩
      have hcell : ∀ (j : Nat) (u : Str), l[j]? = some u → w.cell? (ad.add j) = some (str u) := fun j u hj => by
        have h4 : rows[j]? = some [dstr u] := by rw [← hr, List.getElem?_map, hj]; rfl
        have h5 := hc j 0 _ _ h4 rfl
        rw [Nat.mul_one, Nat.add_zero] at h5
        rw [h5, rd_v (hrd j 0 _ _ h4 rfl)]
      obtain ⟨u0, hu0⟩ : ∃ u, l[0]? = some u := by
        cases l with
        | nil => exact absurd rfl h0
        | cons u l => exact ⟨u, rfl⟩
      obtain ⟨bk, o, sp⟩ := ad
      have hsp : sp = none := by
        have h6 := hcell 0 u0 hu0
        rw [add_zero] at h6
        unfold World.cell? at h6
        split at h6
        · cases sp with
          | none => rfl
          | some q => simp at h6
        · cases h6
      subst hsp
      rw [hrl] at hcap ⊢
      have hjl : Lib.join ((l.map fun u : Str => (⟨u.toArray⟩ : ByteArray)).map (·.data.toList)) (⟨sep.toArray⟩ : ByteArray).data.toList = joinS sep l := by
        have hml : (l.map fun u : Str => (⟨u.toArray⟩ : ByteArray)).map (·.data.toList) = l := by rw [List.map_map]; exact (List.map_congr_left (fun u _ => rfl)).trans (List.map_id l)
        rw [hml, ← join_lib]
      have key := Any.strings_Join Tryd.lays156 Tryd.bld156 bk o cap (l.map fun u => ⟨u.toArray⟩) ⟨sep.toArray⟩ w (fun j b hj => by
        rw [List.getElem?_map] at hj
        cases hlj : l[j]? with
        | none => rw [hlj] at hj; cases hj
        | some u =>
          rw [hlj] at hj
          obtain rfl : (⟨u.toArray⟩ : ByteArray) = b := by simpa using hj
          have := hcell j u hlj
          rw [add_lit] at this
          exact this) hs (by simp; omega) (by simpa using hcap) (by rw [hjl]; omega)
      rw [hjl, List.length_map] at key
      refine key.mono fun e w' he => ?_
      obtain ⟨rfl, hb'⟩ := he
      exact ⟨_, rfl, hb', Rd.v _⟩
theorem ok_cutp (s p : Str) : FnOk Tryd.prog 28 [.d (dstr s), .d (dstr p)] (.tup [dstr (Lib.trimPrefix s p), dbool (Lib.hasPrefix s p)]) := by
  refine ⟨⟨_, Tryd.func28, by kernel_rfl, by kernel_rfl⟩, fun w own vs hown ha => ?_⟩
  match vs, ha with
  | [x, y], ⟨h1, h2, _⟩ =>
    obtain rfl : x = str s := rd_v h1
    obtain rfl : y = str p := rd_v h2
    refine (Any.strings_CutPrefix Tryd.lays103 ⟨s.toArray⟩ ⟨p.toArray⟩ w).mono fun e w' he => ?_
    obtain ⟨rfl, rfl⟩ := he
    exact ⟨_, rfl, Below.refl _ _, tup2 (Rd.v _) (Rd.v _)⟩
theorem ok_number (s : Str) (hs : s.length ≤ 1073741824) : FnOk Tryd.prog 29 [.d (dstr s)] (.tup [dint (atoiV s), dbool (numV s).isSome]) := by
  refine fnOk_of tbl_ok mixed_ok Tryd.func29 rfl (by kernel_rfl) rfl rfl fun w0 own0 => ?_
  have c1 := ok_atoiG s hs
  unfold atoiV atoiE at c1
  unfold atoiV numV
  cases hc : Lib.atoiAll s with
  | ok v =>
    rw [hc] at c1
    have hb := atoi_in hc
    have c2 := ok_itoaG v hb.1 hb.2
    dsimp only at c1 ⊢
    generalize Lib.itoa v = t at c2 ⊢
    by_cases hv : t = s
    · rw [if_pos hv]
      repeat (first|((with_reducible apply s1); exact rfl)|(with_reducible first|apply CW.seq|apply CW.block|apply CW.region|apply CW.draw|apply CW.skip|apply CW.exit|apply CW.ret|apply q_then|apply q_then_exit|apply q_then_ret|apply q_block|apply q_block_ret|apply q_block_hit|apply q_ret|apply q_end|apply q_loop_exit|apply q_loop_ret|apply q_loopT_exit|apply q_loopT_ret|apply RW.nil)|((with_reducible apply s3); exact rfl; exact by_k)|((with_reducible apply s2); exact rfl; exact by_k)|((with_reducible apply s4); exact rfl)|((with_reducible apply s5); (first|exact a_call c1 rfl by_sub|exact a_call c2 rfl by_sub|((with_reducible apply a_noerr); exact rfl; exact Tryd.underlying54; exact rfl)|exact by_oa); exact by_g)|((with_reducible apply CW.cond_t); exact rfl; exact by_ks)|((with_reducible apply CW.cond_f); exact rfl; exact by_ks)|((with_reducible apply q_block_miss); exact rfl)|(refine And.intro (show chk [] [] _ _ = true by kernel_rfl) ?_))
      exact .two (.tmp rfl (.one (.d (.refl _)))) (.tmp rfl (.one (.d (dle_bool (by simp [hv])))))
    · rw [if_neg hv]
      repeat (first|((with_reducible apply s1); exact rfl)|(with_reducible first|apply CW.seq|apply CW.block|apply CW.region|apply CW.draw|apply CW.skip|apply CW.exit|apply CW.ret|apply q_then|apply q_then_exit|apply q_then_ret|apply q_block|apply q_block_ret|apply q_block_hit|apply q_ret|apply q_end|apply q_loop_exit|apply q_loop_ret|apply q_loopT_exit|apply q_loopT_ret|apply RW.nil)|((with_reducible apply s3); exact rfl; exact by_k)|((with_reducible apply s2); exact rfl; exact by_k)|((with_reducible apply s4); exact rfl)|((with_reducible apply s5); (first|exact a_call c1 rfl by_sub|exact a_call c2 rfl by_sub|((with_reducible apply a_noerr); exact rfl; exact Tryd.underlying54; exact rfl)|exact by_oa); exact by_g)|((with_reducible apply CW.cond_t); exact rfl; exact by_ks)|((with_reducible apply CW.cond_f); exact rfl; exact by_ks)|((with_reducible apply q_block_miss); exact rfl)|(refine And.intro (show chk [] [] _ _ = true by kernel_rfl) ?_))
      exact .two (.tmp rfl (.one (.d (.refl _)))) (.tmp rfl (.one (.d (dle_bool (by simp [hv])))))
  | range =>
    rw [hc] at c1
    dsimp only at c1 ⊢
    generalize Lib.atoiSat s = q at c1 ⊢
    repeat (first|((with_reducible apply s1); exact rfl)|(with_reducible first|apply CW.seq|apply CW.block|apply CW.region|apply CW.draw|apply CW.skip|apply CW.exit|apply CW.ret|apply q_then|apply q_then_exit|apply q_then_ret|apply q_block|apply q_block_ret|apply q_block_hit|apply q_ret|apply q_end|apply q_loop_exit|apply q_loop_ret|apply q_loopT_exit|apply q_loopT_ret|apply RW.nil)|((with_reducible apply s3); exact rfl; exact by_k)|((with_reducible apply s2); exact rfl; exact by_k)|((with_reducible apply s4); exact rfl)|((with_reducible apply s5); (first|exact a_call c1 rfl by_sub|((with_reducible apply a_err); exact rfl; exact Tryd.underlying54; exact rfl)|exact by_oa); exact by_g)|((with_reducible apply CW.cond_t); exact rfl; exact by_ks)|((with_reducible apply CW.cond_f); exact rfl; exact by_ks)|((with_reducible apply q_block_miss); exact rfl)|(refine And.intro (show chk [] [] _ _ = true by kernel_rfl) ?_))
    exact .two (.tmp rfl (.one (.d (.refl _)))) (.tmp rfl (.one (.d (.refl _))))
  | _ =>
    rw [hc] at c1
    dsimp only at c1 ⊢
    repeat (first|((with_reducible apply s1); exact rfl)|(with_reducible first|apply CW.seq|apply CW.block|apply CW.region|apply CW.draw|apply CW.skip|apply CW.exit|apply CW.ret|apply q_then|apply q_then_exit|apply q_then_ret|apply q_block|apply q_block_ret|apply q_block_hit|apply q_ret|apply q_end|apply q_loop_exit|apply q_loop_ret|apply q_loopT_exit|apply q_loopT_ret|apply RW.nil)|((with_reducible apply s3); exact rfl; exact by_k)|((with_reducible apply s2); exact rfl; exact by_k)|((with_reducible apply s4); exact rfl)|((with_reducible apply s5); (first|exact a_call c1 rfl by_sub|((with_reducible apply a_err); exact rfl; exact Tryd.underlying54; exact rfl)|exact by_oa); exact by_g)|((with_reducible apply CW.cond_t); exact rfl; exact by_ks)|((with_reducible apply CW.cond_f); exact rfl; exact by_ks)|((with_reducible apply q_block_miss); exact rfl)|(refine And.intro (show chk [] [] _ _ = true by kernel_rfl) ?_))
    exact .two (.tmp rfl (.one (.d (.refl _)))) (.tmp rfl (.one (.d (.refl _))))
theorem ok_twords : FnOk Tryd.prog 13 [] (.one (encStrs words.tail)) := by
  refine fnOk_of tbl_ok mixed_ok Tryd.func13 rfl (by kernel_rfl) rfl rfl fun w0 own0 => ?_
  repeat (first|((with_reducible apply s5); ((with_reducible apply a_bs (words.tail.map encStr1)); (iterate 9 exact rfl); (repeat (first | exact PartsE.nil | (apply PartsE.cons; exact rfl; exact rfl)))); exact by_g)|((with_reducible apply s1); exact rfl)|(with_reducible first|apply CW.seq|apply CW.block|apply CW.region|apply CW.draw|apply CW.skip|apply CW.exit|apply CW.ret|apply q_then|apply q_then_exit|apply q_then_ret|apply q_block|apply q_block_ret|apply q_block_hit|apply q_ret|apply q_end|apply q_loop_exit|apply q_loop_ret|apply q_loopT_exit|apply q_loopT_ret|apply RW.nil)|((with_reducible apply s3); exact rfl; exact by_k)|((with_reducible apply s2); exact rfl; exact by_k)|((with_reducible apply s4); exact rfl)|((with_reducible apply s5); exact by_oa; exact by_g)|((with_reducible apply CW.cond_t); exact rfl; exact by_ks)|((with_reducible apply CW.cond_f); exact rfl; exact by_ks)|((with_reducible apply q_block_miss); exact rfl)|(refine And.intro (show chk [] [] _ _ = true by kernel_rfl) ?_))
  exact .one (.tmp rfl (.one (.d (.refl _))))
theorem fields_at {k : Nat} (h : k < 9) : forms.tail[k]? = some (form (k + 1)) := by
  have : ∀ k : Fin 9, forms.tail[k.val]? = some (form (k.val + 1)) := by decide
  exact this ⟨k, h⟩
theorem ok_fields (k : Nat) (h1 : 1 ≤ k) (h9 : k ≤ 9) : FnOk Tryd.prog 14 [.d (dint k)] (.one (dstr (form k))) := by
  refine fnOk_of tbl_ok mixed_ok Tryd.func14 rfl (by kernel_rfl) rfl rfl fun w0 own0 => ?_
  obtain ⟨j, rfl⟩ : ∃ j, k = j + 1 := ⟨k - 1, by omega⟩
  have h := fields_at (k := j) (by omega)
  have hx : ((j + 1 : Nat) : Int) - 1 = (j : Int) := by omega
  repeat (first|((with_reducible apply s5); ((with_reducible apply a_bs (forms.tail.map encStr1)); (iterate 9 exact rfl); (repeat (first | exact PartsE.nil | (apply PartsE.cons; exact rfl; exact rfl)))); exact by_g)|((with_reducible apply s1); exact rfl)|(with_reducible first|apply CW.seq|apply CW.block|apply CW.region|apply CW.draw|apply CW.skip|apply CW.exit|apply CW.ret|apply q_then|apply q_then_exit|apply q_then_ret|apply q_block|apply q_block_ret|apply q_block_hit|apply q_ret|apply q_end|apply q_loop_exit|apply q_loop_ret|apply q_loopT_exit|apply q_loopT_ret|apply RW.nil)|((with_reducible apply s3); exact rfl; exact by_k)|((with_reducible apply s2); exact rfl; exact by_k)|((with_reducible apply s4); exact rfl)|((with_reducible apply s5); (first|((with_reducible apply a_ia); (iterate 5 exact rfl); rw [hx]; exact idx_map h)|exact by_oa); exact by_g)|((with_reducible apply CW.cond_t); exact rfl; exact by_ks)|((with_reducible apply CW.cond_f); exact rfl; exact by_ks)|((with_reducible apply q_block_miss); exact rfl)|(refine And.intro (show chk [] [] _ _ = true by kernel_rfl) ?_))
  exact .one (.tmp rfl (.one (.d (.refl _))))

end Go.Proofs.YtfaaghkgfbhglaaDoor

/-! H2 -/
/-
  Contract of the references' num, at small numbers as they are written.
-/
namespace Go.Proofs.YtfaaghkgfbhglaaDoor
open Go.AX Go.RF Go.RowKit

set_option maxRecDepth 100000
set_option maxHeartbeats 4000000

theorem numV_ok {s : Str} {v : Int} (h : numV s = some v) : Lib.atoiAll s = .ok v ∧ Lib.itoa v = s := by
  unfold numV at h
  split at h
  · next x hx =>
    split at h
    · next hy => cases h; exact ⟨hx, hy⟩
    · cases h
  · cases h
end Go.Proofs.YtfaaghkgfbhglaaDoor

/-! H3 -/
/-
  Contract of the references' Parse, at the text of a right deed whose numbers are small.
-/
namespace Go.Proofs.YtfaaghkgfbhglaaDoor
open Go.AX Go.RF Go.RowKit

set_option maxRecDepth 100000
set_option maxHeartbeats 16000000

theorem splitF_part (sep : Str) : ∀ (n : Nat) (cur r : Str), ∀ p ∈ splitF sep n cur r, p.length ≤ cur.length + r.length
  | 0, cur, r => by simp [splitF]
  | n + 1, cur, r => by
    rw [splitF_succ]
    split
    · simp
    split
    · intro p hp
      rcases List.mem_cons.1 hp with rfl | hp
      · omega
      · have := splitF_part sep n [] _ p hp
        rw [List.length_nil, List.length_drop] at this
        omega
    cases r with
    | nil => simp
    | cons c t =>
      intro p hp
      have := splitF_part sep n _ _ p hp
      simp at this ⊢
      omega
theorem split_part {s sep : Str} {p : Str} (h : p ∈ split s sep) : p.length ≤ s.length := by
  have := splitF_part sep _ _ _ p h
  simpa using this
theorem split_len (s sep : Str) : (split s sep).length ≤ s.length + 1 := splitF_len sep _ _ _

end Go.Proofs.YtfaaghkgfbhglaaDoor

/-! H7 -/
/-
  Contract of the references' Parse, at whatever text.
-/
namespace Go.Proofs.YtfaaghkgfbhglaaDoor
open Go.AX Go.RF Go.RowKit

set_option maxRecDepth 100000
set_option maxHeartbeats 16000000

def noEnc : List D := [.v nilS, .v nilS, .v nilS]
theorem no_le {s : Str} {e : Int} (h : parseE s = .error e) : DLe (.agg noEnc) (.agg (parseR s).1.enc) := by
  unfold parseR; rw [h]
  exact (DLes.cons (dle_nil 1) (.cons (dle_nil 1) (.cons (dle_nil 5) .nil))).agg
theorem er_le {s : Str} {e : Int} (h : parseE s = .error e) : DLe (dint e) (dint (parseR s).2) := by
  unfold parseR; rw [h]
  exact .refl _
theorem numV_atoi {u : Str} {n : Int} (h : numV u = some n) : atoiV u = n := by
  unfold atoiV; rw [(numV_ok h).1]
theorem split_cons (s sep : Str) : ∃ w r, split s sep = w :: r := by
  cases h : split s sep with
  | nil => exact absurd h (splitF_ne sep _ _ _)
  | cons w r => exact ⟨w, r, rfl⟩
theorem regV_none {u : Str} (h : regV u = none) : u = [] ∨ (∃ c r, u = c :: r ∧ c.toNat ≠ 114) ∨ ∃ r, u = 114 :: r ∧ numV r = none := by
  match u, h with
  | [], _ => exact .inl rfl
  | c :: r, h =>
    by_cases hc : c = 114
    · subst hc; exact .inr (.inr ⟨r, rfl, h⟩)
    · exact .inr (.inl ⟨c, r, rfl, fun e => hc (UInt8.toNat_inj.1 e)⟩)
theorem regV_some {u : Str} {x : Int} (h : regV u = some x) : ∃ r, u = 114 :: r ∧ numV r = some x := by
  match u, h with
  | [], h => simp [regV] at h
  | c :: r, h =>
    by_cases hc : c = 114
    · subst hc; exact ⟨r, rfl, h⟩
    · unfold regV at h
      split at h
      · next r' he => cases he; exact absurd rfl hc
      · cases h

end Go.Proofs.YtfaaghkgfbhglaaDoor

/-! H10 -/
/-
  Contract of the program's instr: the instruction of words.
-/
namespace Go.Proofs.YtfaaghkgfbhglaaDoor
open Go.AX Go.RF Go.RowKit

set_option maxRecDepth 100000
set_option maxHeartbeats 16000000

theorem kind_idx (w : Str) : idxS 0 words.tail w = kindOf w - 1 ∧ 0 ≤ kindOf w ∧ kindOf w < 10 := by
  by_cases h1 : w = [108, 111, 97, 100]
  · subst h1; decide
  by_cases h2 : w = [99, 111, 110, 115, 116]
  · subst h2; decide
  by_cases h3 : w = [97, 100, 100]
  · subst h3; decide
  by_cases h4 : w = [115, 117, 98]
  · subst h4; decide
  by_cases h5 : w = [109, 117, 108]
  · subst h5; decide
  by_cases h6 : w = [115, 116, 111, 114, 101]
  · subst h6; decide
  by_cases h7 : w = [100, 114, 111, 112]
  · subst h7; decide
  by_cases h8 : w = [115, 107, 105, 112]
  · subst h8; decide
  by_cases h9 : w = [102, 97, 105, 108]
  · subst h9; decide
  have hk : kindOf w = 0 := by
    unfold kindOf
    simp [words, kindGo, Ne.symm h1, Ne.symm h2, Ne.symm h3, Ne.symm h4, Ne.symm h5, Ne.symm h6, Ne.symm h7, Ne.symm h8, Ne.symm h9]
  have hi : idxS 0 words.tail w = -1 := by
    simp [words, idxS, Ne.symm h1, Ne.symm h2, Ne.symm h3, Ne.symm h4, Ne.symm h5, Ne.symm h6, Ne.symm h7, Ne.symm h8, Ne.symm h9]
  rw [hk, hi]
  decide
def noIns : Ins := ⟨0, 0, 0, 0, []⟩
def resI : Except Int Ins → Ins × Int
  | .ok i => (i, 0)
  | .error e => (noIns, e)
theorem bin_kind {P : Program} {t : TypeId} {k : Int} (h : 0 ≤ k ∧ k < 10) : BinR P .add t (.int .i64 (k - 1)) (.int .i64 1) (.int .i64 k) := by
  have := bin_add (P := P) (t := t) (a := k - 1) (b := 1) (by omega)
  rwa [show k - 1 + 1 = k by omega] at this
theorem cutp_yes (r : Str) : Lib.trimPrefix (114 :: r) [114] = r ∧ Lib.hasPrefix (114 :: r) [114] = true := by
  have h : Lib.hasPrefix (114 :: r) [114] = true := by simp [Lib.hasPrefix, List.isPrefixOf]
  exact ⟨by unfold Lib.trimPrefix; rw [if_pos h]; rfl, h⟩
theorem cutp_no {u : Str} (h : ∀ r, u ≠ 114 :: r) : Lib.hasPrefix u [114] = false ∧ (Lib.trimPrefix u [114]) = u := by
  have h1 : Lib.hasPrefix u [114] = false := by
    cases u with
    | nil => rfl
    | cons c r =>
      have : c ≠ 114 := fun e => h r (by rw [e])
      simp [Lib.hasPrefix, List.isPrefixOf, this.symm]
  exact ⟨h1, by unfold Lib.trimPrefix; rw [h1]; rfl⟩

theorem ok_tinstr (w : Str) (ws : List Str) (hl : ws.length ≤ 1000000) (hu : ∀ u ∈ ws, u.length ≤ 1000000) :
    FnOk Tryd.prog 17 [.d (encStrs (w :: ws))] (.tup [.agg (resI (insE (w :: ws))).1.enc, dint (resI (insE (w :: ws))).2]) := by
  refine fnOk_of tbl_ok mixed_ok Tryd.func17 rfl (by kernel_rfl) rfl rfl fun w0 own0 => ?_
  have cw := ok_twords
  obtain ⟨hki, hk0, hk9⟩ := kind_idx w
  have ci := ok_indexS words.tail w (by decide)
  rw [hki] at ci
  have hbk := fun {t : TypeId} => bin_kind (P := Tryd.prog) (t := t) ⟨hk0, hk9⟩
  have hw0 : (w :: ws)[0]? = some w := rfl
  obtain ⟨K, hKe⟩ := Int.eq_ofNat_of_zero_le hk0
  by_cases hkz : kindOf w = 0
  · have hE : insE (w :: ws) = .error 1 := by simp only [insE]; rw [if_pos hkz]
    rw [hE]
    rw [hkz] at ci hbk
    repeat (first|((with_reducible apply s1); exact rfl)|(with_reducible first|apply CW.seq|apply CW.block|apply CW.region|apply CW.draw|apply CW.skip|apply CW.exit|apply CW.ret|apply q_then|apply q_then_exit|apply q_then_ret|apply q_block|apply q_block_ret|apply q_block_hit|apply q_ret|apply q_end|apply q_loop_exit|apply q_loop_ret|apply q_loopT_exit|apply q_loopT_ret|apply RW.nil)|((with_reducible apply s3); exact rfl; exact by_k)|((with_reducible apply s2); exact rfl; exact by_k)|((with_reducible apply s4); exact rfl)|((with_reducible apply s5); (first|exact a_call cw rfl by_sub|exact a_call ci rfl by_sub|((with_reducible apply a_bin); exact rfl; exact rfl; exact hbk; exact rfl)|exact by_oa); exact by_g)|((with_reducible apply CW.cond_t); exact rfl; exact by_ks)|((with_reducible apply CW.cond_f); exact rfl; exact by_ks)|((with_reducible apply q_block_miss); exact rfl)|(refine And.intro (show chk [] [] _ _ = true by kernel_rfl) ?_))
    exact .two (.cell rfl rfl rfl rfl (.aggd (ds := noIns.enc) rfl (.refl _))) (.tmp rfl (.one (.d (.refl _))))
  have hins := insE_fill (w := w) (ws := ws) hkz
  have hins2 : ¬ ws.length = (form (kindOf w).toNat).length → insE (w :: ws) = .error 2 := fun h => by simp only [insE]; rw [if_neg hkz, if_neg h]
  rw [hKe] at hins hins2 hkz hk9 ci hbk
  rw [Int.toNat_natCast] at hins hins2
  have cf := ok_fields K (by omega) (by omega)
  have hlet : ∀ c ∈ form K, c = 114 ∨ c = 115 ∨ c = 110 ∨ c = 107 := fun c hc => form_let hc
  have hfl := form_len K
  generalize form K = f at *
  by_cases hlen : ws.length = f.length
  · have hins := hins hlen
    obtain ⟨tg, htg⟩ : ∃ tg, fillI ⟨K, 0, 0, 0, []⟩ f ws = tg := ⟨_, rfl⟩
    rw [htg] at hins
    repeat (first|((with_reducible apply s1); exact rfl)|(with_reducible first|apply CW.seq|apply CW.block|apply CW.region|apply CW.draw|apply CW.skip|apply CW.exit|apply CW.ret|apply q_then|apply q_then_exit|apply q_then_ret|apply q_block|apply q_block_ret|apply q_block_hit|apply q_ret|apply q_end|apply q_loop_exit|apply q_loop_ret|apply q_loopT_exit|apply q_loopT_ret|apply RW.nil)|((with_reducible apply s3); exact rfl; exact by_k)|((with_reducible apply s2); exact rfl; exact by_k)|((with_reducible apply s4); exact rfl)|((with_reducible apply s5); (first|exact a_call cw rfl by_sub|exact a_call ci rfl by_sub|exact a_call cf rfl by_sub|((with_reducible apply a_bin); exact rfl; exact rfl; exact hbk; exact rfl)|((with_reducible apply a_range); exact rfl; exact rfl; exact Tryd.underlying9; exact rfl)|exact by_oa); exact by_g)|((with_reducible apply CW.cond_t); exact rfl; exact by_ks)|((with_reducible apply CW.cond_f); exact rfl; exact by_ks)|((with_reducible apply q_block_miss); exact rfl)|(refine And.intro (show chk [] [] _ _ = true by kernel_rfl) ?_))
    refine CW.loopT (fun t : Nat × Ins => [sd 0 (encStrs (w :: ws)), sp 2 0, ob 0 noIns.enc, sp 4 1, ob 1 t.2.enc, (.s 34, .av (.h 2)), (.o 2, .ob (.gen (ItP f t.1))), nxt 3])
      (fun t => t.1 ≤ f.length ∧ fillI t.2 (f.drop t.1) (ws.drop t.1) = tg) (fun t => f.length - t.1) (0, ⟨K, 0, 0, 0, []⟩) ⟨by dsimp only; omega, htg⟩ ?_ ?_
    ·
      exact by_less
    · rintro ⟨j, i⟩ ⟨hj, hI⟩
      dsimp only at hj hI ⊢
      rcases drop_case hj with ⟨b1, b2⟩ | ⟨c, b1, b2, b3⟩
      · rw [b1, fillI] at hI
        subst hI
        dsimp only at hins
        rw [hins]
        repeat (first|((with_reducible apply s1); exact rfl)|(with_reducible first|apply CW.seq|apply CW.block|apply CW.region|apply CW.draw|apply CW.skip|apply CW.exit|apply CW.ret|apply q_then|apply q_then_exit|apply q_then_ret|apply q_block|apply q_block_ret|apply q_block_hit|apply q_ret|apply q_end|apply q_loop_exit|apply q_loop_ret|apply q_loopT_exit|apply q_loopT_ret|apply RW.nil)|((with_reducible apply s3); exact rfl; exact by_k)|((with_reducible apply s2); exact rfl; exact by_k)|((with_reducible apply s4); exact rfl)|((with_reducible apply s5); (first|((with_reducible apply (a_nextE (k := j) 2)); exact rfl; exact rfl; exact Nat.le_of_eq b2.symm; exact rfl)|exact by_oa); exact by_g)|((with_reducible apply CW.cond_t); exact rfl; exact by_ks)|((with_reducible apply CW.cond_f); exact rfl; exact by_ks)|((with_reducible apply q_block_miss); exact rfl)|(refine And.intro (show chk [] [] _ _ = true by kernel_rfl) ?_))
        exact .two (.cell rfl rfl rfl rfl (.aggd (ds := i.enc) rfl (.refl _))) (.tmp rfl (.one (.d (.refl _))))
      · have hc := hlet c (List.mem_of_getElem? b2)
        have hc1 : c.toNat < 128 := by rcases hc with rfl | rfl | rfl | rfl <;> decide
        have hwj : j < ws.length := by omega
        have hwa : (w :: ws)[j + 1]? = some ws[j] := by simp [List.getElem?_eq_getElem hwj]
        rw [show j + 1 = 1 + j by omega] at hwa
        rw [b1, List.drop_eq_getElem_cons hwj] at hI
        have hul := hu ws[j] (List.getElem_mem hwj)
        generalize ws[j] = u at hwa hI hul
        simp only [fillI] at hI
        have hix : idx ((w :: ws).map encStr1) (1 + (j : Int)) = some (encStr1 u) := by
          have := idx_map (f := encStr1) hwa
          rwa [show ((1 + j : Nat) : Int) = 1 + (j : Int) by omega] at this
        by_cases q1 : c = 107
        · rw [if_pos q1] at hI
          subst q1
          repeat (first|((with_reducible apply s1); exact rfl)|(with_reducible first|apply CW.seq|apply CW.block|apply CW.region|apply CW.draw|apply CW.skip|apply CW.exit|apply CW.ret|apply q_then|apply q_then_exit|apply q_then_ret|apply q_block|apply q_block_ret|apply q_block_hit|apply q_ret|apply q_end|apply q_loop_exit|apply q_loop_ret|apply q_loopT_exit|apply q_loopT_ret|apply RW.nil)|((with_reducible apply s3); exact rfl; exact by_k)|((with_reducible apply s2); exact rfl; exact by_k)|((with_reducible apply s4); exact rfl)|((with_reducible apply s5); (first|((with_reducible apply (a_next (k := j) 2)); exact rfl; exact rfl; exact b2; exact hc1; exact rfl)|((with_reducible apply a_ia); (iterate 5 exact rfl); exact hix)|exact by_oa); exact by_g)|((with_reducible apply CW.cond_t); exact rfl; exact by_ks)|((with_reducible apply CW.cond_f); exact rfl; exact by_ks)|((with_reducible apply q_block_miss); exact rfl)|(refine And.intro (show chk [] [] _ _ = true by kernel_rfl) ?_))
          refine q_loopT (j + 1, { i with key := u }) ⟨by dsimp only; omega, hI⟩ (by dsimp only; omega) ?_
          exact by_less
        rw [if_neg q1] at hI
        by_cases q2 : c = 110
        · rw [if_pos q2] at hI
          subst q2
          have cm := ok_number u (by omega)
          cases hn : numV u with
          | some n =>
            rw [hn] at hI cm
            rw [numV_atoi hn] at cm
            repeat (first|((with_reducible apply s1); exact rfl)|(with_reducible first|apply CW.seq|apply CW.block|apply CW.region|apply CW.draw|apply CW.skip|apply CW.exit|apply CW.ret|apply q_then|apply q_then_exit|apply q_then_ret|apply q_block|apply q_block_ret|apply q_block_hit|apply q_ret|apply q_end|apply q_loop_exit|apply q_loop_ret|apply q_loopT_exit|apply q_loopT_ret|apply RW.nil)|((with_reducible apply s3); exact rfl; exact by_k)|((with_reducible apply s2); exact rfl; exact by_k)|((with_reducible apply s4); exact rfl)|((with_reducible apply s5); (first|exact a_call cm rfl by_sub|((with_reducible apply (a_next (k := j) 2)); exact rfl; exact rfl; exact b2; exact hc1; exact rfl)|((with_reducible apply a_ia); (iterate 5 exact rfl); exact hix)|exact by_oa); exact by_g)|((with_reducible apply CW.cond_t); exact rfl; exact by_ks)|((with_reducible apply CW.cond_f); exact rfl; exact by_ks)|((with_reducible apply q_block_miss); exact rfl)|(refine And.intro (show chk [] [] _ _ = true by kernel_rfl) ?_))
            refine q_loopT (j + 1, { i with n := n }) ⟨by dsimp only; omega, hI⟩ (by dsimp only; omega) ?_
            exact by_less
          | none =>
            rw [hn] at hI cm
            dsimp only at hI
            subst hI
            dsimp only at hins
            rw [hins]
            generalize atoiV u = na at cm
            repeat (first|((with_reducible apply s1); exact rfl)|(with_reducible first|apply CW.seq|apply CW.block|apply CW.region|apply CW.draw|apply CW.skip|apply CW.exit|apply CW.ret|apply q_then|apply q_then_exit|apply q_then_ret|apply q_block|apply q_block_ret|apply q_block_hit|apply q_ret|apply q_end|apply q_loop_exit|apply q_loop_ret|apply q_loopT_exit|apply q_loopT_ret|apply RW.nil)|((with_reducible apply s3); exact rfl; exact by_k)|((with_reducible apply s2); exact rfl; exact by_k)|((with_reducible apply s4); exact rfl)|((with_reducible apply s5); (first|exact a_call cm rfl by_sub|((with_reducible apply (a_next (k := j) 2)); exact rfl; exact rfl; exact b2; exact hc1; exact rfl)|((with_reducible apply a_ia); (iterate 5 exact rfl); exact hix)|exact by_oa); exact by_g)|((with_reducible apply CW.cond_t); exact rfl; exact by_ks)|((with_reducible apply CW.cond_f); exact rfl; exact by_ks)|((with_reducible apply q_block_miss); exact rfl)|(refine And.intro (show chk [] [] _ _ = true by kernel_rfl) ?_))
            exact .two (.cell rfl rfl rfl rfl (.aggd (ds := noIns.enc) rfl (.refl _))) (.tmp rfl (.one (.d (.refl _))))
        rw [if_neg q2] at hI
        have cc := ok_cutp u [114]
        cases hrv : regV u with
        | some n =>
          rw [hrv] at hI
          dsimp only at hI
          obtain ⟨r, rfl, q3⟩ := regV_some hrv
          have cm := ok_number r (by simp at hul; omega)
          rw [q3, numV_atoi q3] at cm
          rw [(cutp_yes r).1, (cutp_yes r).2] at cc
          by_cases q4 : c = 114
          · rw [if_pos q4] at hI
            subst q4
            repeat (first|((with_reducible apply s1); exact rfl)|(with_reducible first|apply CW.seq|apply CW.block|apply CW.region|apply CW.draw|apply CW.skip|apply CW.exit|apply CW.ret|apply q_then|apply q_then_exit|apply q_then_ret|apply q_block|apply q_block_ret|apply q_block_hit|apply q_ret|apply q_end|apply q_loop_exit|apply q_loop_ret|apply q_loopT_exit|apply q_loopT_ret|apply RW.nil)|((with_reducible apply s3); exact rfl; exact by_k)|((with_reducible apply s2); exact rfl; exact by_k)|((with_reducible apply s4); exact rfl)|((with_reducible apply s5); (first|exact a_call cm rfl by_sub|exact a_call cc rfl by_sub|((with_reducible apply (a_next (k := j) 2)); exact rfl; exact rfl; exact b2; exact hc1; exact rfl)|((with_reducible apply a_ia); (iterate 5 exact rfl); exact hix)|exact by_oa); exact by_g)|((with_reducible apply CW.cond_t); exact rfl; exact by_ks)|((with_reducible apply CW.cond_f); exact rfl; exact by_ks)|((with_reducible apply q_block_miss); exact rfl)|(refine And.intro (show chk [] [] _ _ = true by kernel_rfl) ?_))
            refine q_loopT (j + 1, { i with a := n }) ⟨by dsimp only; omega, hI⟩ (by dsimp only; omega) ?_
            exact by_less
          · rw [if_neg q4] at hI
            obtain rfl : c = 115 := by rcases hc with h | h | h | h <;> first | exact h | exact absurd h ‹_›
            repeat (first|((with_reducible apply s1); exact rfl)|(with_reducible first|apply CW.seq|apply CW.block|apply CW.region|apply CW.draw|apply CW.skip|apply CW.exit|apply CW.ret|apply q_then|apply q_then_exit|apply q_then_ret|apply q_block|apply q_block_ret|apply q_block_hit|apply q_ret|apply q_end|apply q_loop_exit|apply q_loop_ret|apply q_loopT_exit|apply q_loopT_ret|apply RW.nil)|((with_reducible apply s3); exact rfl; exact by_k)|((with_reducible apply s2); exact rfl; exact by_k)|((with_reducible apply s4); exact rfl)|((with_reducible apply s5); (first|exact a_call cm rfl by_sub|exact a_call cc rfl by_sub|((with_reducible apply (a_next (k := j) 2)); exact rfl; exact rfl; exact b2; exact hc1; exact rfl)|((with_reducible apply a_ia); (iterate 5 exact rfl); exact hix)|exact by_oa); exact by_g)|((with_reducible apply CW.cond_t); exact rfl; exact by_ks)|((with_reducible apply CW.cond_f); exact rfl; exact by_ks)|((with_reducible apply q_block_miss); exact rfl)|(refine And.intro (show chk [] [] _ _ = true by kernel_rfl) ?_))
            refine q_loopT (j + 1, { i with b := n }) ⟨by dsimp only; omega, hI⟩ (by dsimp only; omega) ?_
            exact by_less
        | none =>
          rw [hrv] at hI
          dsimp only at hI
          subst hI
          dsimp only at hins
          rw [hins]
          have hall : ∃ u' b, FnOk Tryd.prog 28 [.d (dstr u), .d (dstr [114])] (.tup [dstr u', dbool b]) ∧ u'.length ≤ u.length ∧ (b && (numV u').isSome) = false := by
            rcases regV_none hrv with rfl | ⟨c0, r, rfl, q3⟩ | ⟨r, rfl, q3⟩
            · refine ⟨_, _, cc, ?_, ?_⟩
              · rw [(cutp_no (u := []) (by simp)).2]; exact Nat.le_refl _
              · rw [(cutp_no (u := []) (by simp)).1]; rfl
            · have hne : ∀ r', (c0 :: r : Str) ≠ 114 :: r' := fun r' e => by cases e; exact q3 rfl
              refine ⟨_, _, cc, ?_, ?_⟩
              · rw [(cutp_no hne).2]; exact Nat.le_refl _
              · rw [(cutp_no hne).1]; rfl
            · refine ⟨_, _, cc, ?_, ?_⟩
              · rw [(cutp_yes r).1]; simp
              · rw [(cutp_yes r).1, (cutp_yes r).2, q3]; rfl
          obtain ⟨u', b, cc, hul', hb⟩ := hall
          have cm := ok_number u' (by omega)
          generalize atoiV u' = na at cm
          generalize (numV u').isSome = is at cm hb
          have hcs : c = 114 ∨ c = 115 := by rcases hc with h | h | h | h <;> first | exact .inl h | exact .inr h | exact absurd h ‹_›
          rcases hcs with rfl | rfl
          · cases b with
            | true =>
              obtain rfl : is = false := by simpa using hb
              repeat (first|((with_reducible apply s1); exact rfl)|(with_reducible first|apply CW.seq|apply CW.block|apply CW.region|apply CW.draw|apply CW.skip|apply CW.exit|apply CW.ret|apply q_then|apply q_then_exit|apply q_then_ret|apply q_block|apply q_block_ret|apply q_block_hit|apply q_ret|apply q_end|apply q_loop_exit|apply q_loop_ret|apply q_loopT_exit|apply q_loopT_ret|apply RW.nil)|((with_reducible apply s3); exact rfl; exact by_k)|((with_reducible apply s2); exact rfl; exact by_k)|((with_reducible apply s4); exact rfl)|((with_reducible apply s5); (first|exact a_call cm rfl by_sub|exact a_call cc rfl by_sub|((with_reducible apply (a_next (k := j) 2)); exact rfl; exact rfl; exact b2; exact hc1; exact rfl)|((with_reducible apply a_ia); (iterate 5 exact rfl); exact hix)|exact by_oa); exact by_g)|((with_reducible apply CW.cond_t); exact rfl; exact by_ks)|((with_reducible apply CW.cond_f); exact rfl; exact by_ks)|((with_reducible apply q_block_miss); exact rfl)|(refine And.intro (show chk [] [] _ _ = true by kernel_rfl) ?_))
              exact .two (.cell rfl rfl rfl rfl (.aggd (ds := noIns.enc) rfl (.refl _))) (.tmp rfl (.one (.d (.refl _))))
            | false =>
              repeat (first|((with_reducible apply s1); exact rfl)|(with_reducible first|apply CW.seq|apply CW.block|apply CW.region|apply CW.draw|apply CW.skip|apply CW.exit|apply CW.ret|apply q_then|apply q_then_exit|apply q_then_ret|apply q_block|apply q_block_ret|apply q_block_hit|apply q_ret|apply q_end|apply q_loop_exit|apply q_loop_ret|apply q_loopT_exit|apply q_loopT_ret|apply RW.nil)|((with_reducible apply s3); exact rfl; exact by_k)|((with_reducible apply s2); exact rfl; exact by_k)|((with_reducible apply s4); exact rfl)|((with_reducible apply s5); (first|exact a_call cm rfl by_sub|exact a_call cc rfl by_sub|((with_reducible apply (a_next (k := j) 2)); exact rfl; exact rfl; exact b2; exact hc1; exact rfl)|((with_reducible apply a_ia); (iterate 5 exact rfl); exact hix)|exact by_oa); exact by_g)|((with_reducible apply CW.cond_t); exact rfl; exact by_ks)|((with_reducible apply CW.cond_f); exact rfl; exact by_ks)|((with_reducible apply q_block_miss); exact rfl)|(refine And.intro (show chk [] [] _ _ = true by kernel_rfl) ?_))
              exact .two (.cell rfl rfl rfl rfl (.aggd (ds := noIns.enc) rfl (.refl _))) (.tmp rfl (.one (.d (.refl _))))
          · cases b with
            | true =>
              obtain rfl : is = false := by simpa using hb
              repeat (first|((with_reducible apply s1); exact rfl)|(with_reducible first|apply CW.seq|apply CW.block|apply CW.region|apply CW.draw|apply CW.skip|apply CW.exit|apply CW.ret|apply q_then|apply q_then_exit|apply q_then_ret|apply q_block|apply q_block_ret|apply q_block_hit|apply q_ret|apply q_end|apply q_loop_exit|apply q_loop_ret|apply q_loopT_exit|apply q_loopT_ret|apply RW.nil)|((with_reducible apply s3); exact rfl; exact by_k)|((with_reducible apply s2); exact rfl; exact by_k)|((with_reducible apply s4); exact rfl)|((with_reducible apply s5); (first|exact a_call cm rfl by_sub|exact a_call cc rfl by_sub|((with_reducible apply (a_next (k := j) 2)); exact rfl; exact rfl; exact b2; exact hc1; exact rfl)|((with_reducible apply a_ia); (iterate 5 exact rfl); exact hix)|exact by_oa); exact by_g)|((with_reducible apply CW.cond_t); exact rfl; exact by_ks)|((with_reducible apply CW.cond_f); exact rfl; exact by_ks)|((with_reducible apply q_block_miss); exact rfl)|(refine And.intro (show chk [] [] _ _ = true by kernel_rfl) ?_))
              exact .two (.cell rfl rfl rfl rfl (.aggd (ds := noIns.enc) rfl (.refl _))) (.tmp rfl (.one (.d (.refl _))))
            | false =>
              repeat (first|((with_reducible apply s1); exact rfl)|(with_reducible first|apply CW.seq|apply CW.block|apply CW.region|apply CW.draw|apply CW.skip|apply CW.exit|apply CW.ret|apply q_then|apply q_then_exit|apply q_then_ret|apply q_block|apply q_block_ret|apply q_block_hit|apply q_ret|apply q_end|apply q_loop_exit|apply q_loop_ret|apply q_loopT_exit|apply q_loopT_ret|apply RW.nil)|((with_reducible apply s3); exact rfl; exact by_k)|((with_reducible apply s2); exact rfl; exact by_k)|((with_reducible apply s4); exact rfl)|((with_reducible apply s5); (first|exact a_call cm rfl by_sub|exact a_call cc rfl by_sub|((with_reducible apply (a_next (k := j) 2)); exact rfl; exact rfl; exact b2; exact hc1; exact rfl)|((with_reducible apply a_ia); (iterate 5 exact rfl); exact hix)|exact by_oa); exact by_g)|((with_reducible apply CW.cond_t); exact rfl; exact by_ks)|((with_reducible apply CW.cond_f); exact rfl; exact by_ks)|((with_reducible apply q_block_miss); exact rfl)|(refine And.intro (show chk [] [] _ _ = true by kernel_rfl) ?_))
              exact .two (.cell rfl rfl rfl rfl (.aggd (ds := noIns.enc) rfl (.refl _))) (.tmp rfl (.one (.d (.refl _))))
  · rw [hins2 hlen]
    repeat (first|((with_reducible apply s1); exact rfl)|(with_reducible first|apply CW.seq|apply CW.block|apply CW.region|apply CW.draw|apply CW.skip|apply CW.exit|apply CW.ret|apply q_then|apply q_then_exit|apply q_then_ret|apply q_block|apply q_block_ret|apply q_block_hit|apply q_ret|apply q_end|apply q_loop_exit|apply q_loop_ret|apply q_loopT_exit|apply q_loopT_ret|apply RW.nil)|((with_reducible apply s3); exact rfl; exact by_k)|((with_reducible apply s2); exact rfl; exact by_k)|((with_reducible apply s4); exact rfl)|((with_reducible apply s5); (first|exact a_call cw rfl by_sub|exact a_call ci rfl by_sub|exact a_call cf rfl by_sub|((with_reducible apply a_bin); exact rfl; exact rfl; exact hbk; exact rfl)|exact by_oa); exact by_g)|((with_reducible apply CW.cond_t); exact rfl; exact by_ks)|((with_reducible apply CW.cond_f); exact rfl; exact by_ks)|((with_reducible apply q_block_miss); exact rfl)|(refine And.intro (show chk [] [] _ _ = true by kernel_rfl) ?_))
    exact .two (.cell rfl rfl rfl rfl (.aggd (ds := noIns.enc) rfl (.refl _))) (.tmp rfl (.one (.d (.refl _))))

end Go.Proofs.YtfaaghkgfbhglaaDoor

/-! ShTrim -/
/-
  The library's Trim, at this program's numbers (printed by tools/mklays.py 160).
-/
namespace Go.Proofs
open Go.Shelf Go.RowKit
set_option maxRecDepth 100000
noncomputable def Tryd.lays160_ren : Go.Shelf.Ren := ⟨fun | 119 => 96 | 120 => 94 | 137 => 95 | 151 => 89 | 152 => 93 | 160 => 58 | 197 => 52 | 217 => 65 | 224 => 67 | 225 => 66 | 227 => 76 | 228 => 88 | 231 => 74 | 232 => 75 | 233 => 77 | 234 => 78 | 235 => 79 | 236 => 80 | 260 => 64 | 266 => 83 | 271 => 90 | n => n, fun | 0 => 0 | 3 => 3 | 4 => 4 | 5 => 5 | 9 => 9 | 21 => 21 | 46 => 95 | 105 => 84 | 116 => 105 | 117 => 106 | 119 => 111 | 124 => 109 | 138 => 113 | 139 => 114 | n => n, fun | 3 => (Tryd.prog.globals.findIdx? (·.name == "unicode/utf8.first")).getD 0 | 4 => (Tryd.prog.globals.findIdx? (·.name == "unicode/utf8.acceptRanges")).getD 0 | n => n⟩
theorem Tryd.lays160 : Go.Proofs.Lays.n160 Tryd.prog Tryd.lays160_ren := {
  mixed := by kernel_rfl
  f119 := Tryd.func96.trans (congrArg some (by kernel_rfl))
  f120 := Tryd.func94.trans (congrArg some (by kernel_rfl))
  f137 := Tryd.func95.trans (congrArg some (by kernel_rfl))
  f151 := Tryd.func89.trans (congrArg some (by kernel_rfl))
  f152 := Tryd.func93.trans (congrArg some (by kernel_rfl))
  f160 := Tryd.func58.trans (congrArg some (by kernel_rfl))
  f197 := Tryd.func52.trans (congrArg some (by kernel_rfl))
  f217 := Tryd.func65.trans (congrArg some (by kernel_rfl))
  f224 := Tryd.func67.trans (congrArg some (by kernel_rfl))
  f225 := Tryd.func66.trans (congrArg some (by kernel_rfl))
  f227 := Tryd.func76.trans (congrArg some (by kernel_rfl))
  f228 := Tryd.func88.trans (congrArg some (by kernel_rfl))
  f231 := Tryd.func74.trans (congrArg some (by kernel_rfl))
  f232 := Tryd.func75.trans (congrArg some (by kernel_rfl))
  f233 := Tryd.func77.trans (congrArg some (by kernel_rfl))
  f234 := Tryd.func78.trans (congrArg some (by kernel_rfl))
  f235 := Tryd.func79.trans (congrArg some (by kernel_rfl))
  f236 := Tryd.func80.trans (congrArg some (by kernel_rfl))
  f260 := Tryd.func64.trans (congrArg some (by kernel_rfl))
  f266 := Tryd.func83.trans (congrArg some (by kernel_rfl))
  f271 := Tryd.func90.trans (congrArg some (by kernel_rfl))
  t0 := Tryd.underlying0
  a0 := Tryd.isAgg0
  z0 := Tryd.sizeOf0
  v0 := Tryd.zeroValue0
  t3 := Tryd.underlying3
  a3 := Tryd.isAgg3
  z3 := Tryd.sizeOf3
  v3 := Tryd.zeroValue3
  t4 := Tryd.underlying4
  a4 := Tryd.isAgg4
  z4 := Tryd.sizeOf4
  v4 := Tryd.zeroValue4
  t5 := Tryd.underlying5
  a5 := Tryd.isAgg5
  z5 := Tryd.sizeOf5
  v5 := Tryd.zeroValue5
  t9 := Tryd.underlying9
  a9 := Tryd.isAgg9
  z9 := Tryd.sizeOf9
  v9 := Tryd.zeroValue9
  t21 := Tryd.underlying21
  a21 := Tryd.isAgg21
  z21 := Tryd.sizeOf21
  v21 := Tryd.zeroValue21
  t46 := Tryd.underlying95
  a46 := Tryd.isAgg95
  z46 := Tryd.sizeOf95
  v46 := Tryd.zeroValue95
  t105 := Tryd.underlying84
  a105 := Tryd.isAgg84
  z105 := Tryd.sizeOf84
  v105 := Tryd.zeroValue84
  t116 := Tryd.underlying105
  a116 := Tryd.isAgg105
  z116 := Tryd.sizeOf105
  t117 := Tryd.underlying106
  a117 := Tryd.isAgg106
  z117 := Tryd.sizeOf106
  v117 := Tryd.zeroValue106
  t119 := Tryd.underlying111
  a119 := Tryd.isAgg111
  z119 := Tryd.sizeOf111
  t124 := Tryd.underlying109
  a124 := Tryd.isAgg109
  z124 := Tryd.sizeOf109
  v124 := Tryd.zeroValue109
  t138 := Tryd.underlying113
  a138 := Tryd.isAgg113
  z138 := Tryd.sizeOf113
  v138 := Tryd.zeroValue113
  t139 := Tryd.underlying114
  a139 := Tryd.isAgg114
  z139 := Tryd.sizeOf114
  v139 := Tryd.zeroValue114
  g3 := by kernel_rfl
  g4 := by kernel_rfl
  }
end Go.Proofs

/-! R3 -/
/-
  Contracts of the program's Key and Wrong of rows, and of the references' Round at whatever number.
-/
namespace Go.Proofs.YtfaaghkgfbhglaaDoor
open Go.AX Go.RF Go.RowKit

set_option maxRecDepth 100000
set_option maxHeartbeats 8000000

theorem ok_trim (s : Str) (hs : s.length ≤ 1073741824) : FnOk Tryd.prog 58 [.d (dstr s), .d (dstr alpha)] (.one (dstr (Lib.trimS s alpha))) := by
  refine ⟨⟨_, Tryd.func58, by kernel_rfl, by kernel_rfl⟩, fun w own vs hown ha => ?_⟩
  match vs, ha with
  | [x, y], ⟨h1, h2, _⟩ =>
    obtain rfl : x = str s := rd_v h1
    obtain rfl : y = str alpha := rd_v h2
    refine (Any.strings_Trim_laid Tryd.lays160 (by kernel_rfl) ⟨s.toArray⟩ ⟨alpha.toArray⟩ w (by show s.toArray.size ≤ _; simp; omega) (by decide) (ascii_of_all (by decide))).mono fun e w' he => ?_
    obtain ⟨rfl, hb⟩ := he
    exact ⟨_, rfl, hb, Rd.v _⟩

theorem ok_pkey (s : Str) (hs : s.length ≤ 1073741824) : FnOk Tryd.prog 42 [.d (dstr s)] (.one (dbool (key s))) := by
  refine fnOk_of tbl_ok mixed_ok Tryd.func42 rfl (by kernel_rfl) rfl rfl fun w0 own0 => ?_
  have ht := ok_trim s hs
  rw [key_trim]
  by_cases h1 : 1 ≤ s.length
  · by_cases h2 : s.length ≤ 6
    ·
      repeat (first|((with_reducible apply s1); exact rfl)|(with_reducible first|apply CW.seq|apply CW.block|apply CW.region|apply CW.draw|apply CW.skip|apply CW.exit|apply CW.ret|apply q_then|apply q_then_exit|apply q_then_ret|apply q_block|apply q_block_ret|apply q_block_hit|apply q_ret|apply q_end|apply q_loop_exit|apply q_loop_ret|apply q_loopT_exit|apply q_loopT_ret|apply RW.nil)|((with_reducible apply s3); exact rfl; exact by_k)|((with_reducible apply s2); exact rfl; exact by_k)|((with_reducible apply s4); exact rfl)|((with_reducible apply s5); (first|exact a_call ht rfl by_sub|exact by_oa); exact by_g)|((with_reducible apply CW.cond_t); exact rfl; exact by_ks)|((with_reducible apply CW.cond_f); exact rfl; exact by_ks)|((with_reducible apply q_block_miss); exact rfl)|(refine And.intro (show chk [] [] _ _ = true by kernel_rfl) ?_))
      exact .one (.tmp rfl (.one (.d (dle_bool (by simp [h1, h2])))))
    ·
      repeat (first|((with_reducible apply s1); exact rfl)|(with_reducible first|apply CW.seq|apply CW.block|apply CW.region|apply CW.draw|apply CW.skip|apply CW.exit|apply CW.ret|apply q_then|apply q_then_exit|apply q_then_ret|apply q_block|apply q_block_ret|apply q_block_hit|apply q_ret|apply q_end|apply q_loop_exit|apply q_loop_ret|apply q_loopT_exit|apply q_loopT_ret|apply RW.nil)|((with_reducible apply s3); exact rfl; exact by_k)|((with_reducible apply s2); exact rfl; exact by_k)|((with_reducible apply s4); exact rfl)|((with_reducible apply s5); exact by_oa; exact by_g)|((with_reducible apply CW.cond_t); exact rfl; exact by_ks)|((with_reducible apply CW.cond_f); exact rfl; exact by_ks)|((with_reducible apply q_block_miss); exact rfl)|(refine And.intro (show chk [] [] _ _ = true by kernel_rfl) ?_))
      exact .one (.tmp rfl (.one (.d (dle_bool (by simp [h2])))))
  ·
    repeat (first|((with_reducible apply s1); exact rfl)|(with_reducible first|apply CW.seq|apply CW.block|apply CW.region|apply CW.draw|apply CW.skip|apply CW.exit|apply CW.ret|apply q_then|apply q_then_exit|apply q_then_ret|apply q_block|apply q_block_ret|apply q_block_hit|apply q_ret|apply q_end|apply q_loop_exit|apply q_loop_ret|apply q_loopT_exit|apply q_loopT_ret|apply RW.nil)|((with_reducible apply s3); exact rfl; exact by_k)|((with_reducible apply s2); exact rfl; exact by_k)|((with_reducible apply s4); exact rfl)|((with_reducible apply s5); exact by_oa; exact by_g)|((with_reducible apply CW.cond_t); exact rfl; exact by_ks)|((with_reducible apply CW.cond_f); exact rfl; exact by_ks)|((with_reducible apply q_block_miss); exact rfl)|(refine And.intro (show chk [] [] _ _ = true by kernel_rfl) ?_))
    exact .one (.tmp rfl (.one (.d (dle_bool (by simp [h1])))))

end Go.Proofs.YtfaaghkgfbhglaaDoor

/-! G20 -/
/-
  Contracts of the program's Wrong of deeds.
-/
namespace Go.Proofs.YtfaaghkgfbhglaaDoor
open Go.AX Go.RF

set_option maxRecDepth 100000
set_option maxHeartbeats 8000000

def regsN (k : Int) : Int := if k = 3 ∨ k = 4 ∨ k = 5 then 2 else if k = 7 then 0 else 1
def keyedB (k : Int) : Bool := decide (k = 1 ∨ k = 6 ∨ k = 7)
def loI (k : Int) : Int := if k = 2 then -1073741824 else if k = 8 then 1 else 0
def hiI (k m : Int) : Int := if k = 2 then 1073741824 else if k = 8 then m else 0
def outI (n lo hi a b x : Int) : Bool := decide (a < 0 ∨ 4 ≤ a ∨ (n < 1 ∧ a ≠ 0) ∨ b < 0 ∨ 4 ≤ b ∨ (n < 2 ∧ b ≠ 0) ∨ x < lo ∨ hi < x)
def pwrongIns (d : Deed) (m : Int) (i : Ins) : Int :=
  if i.kind < 1 ∨ 9 < i.kind then 1
  else if outI (regsN i.kind) (loI i.kind) (hiI i.kind m) i.a i.b i.n = true then 3
  else if keyedB i.kind = false ∧ i.key ≠ [] then 2
  else if (i.kind = 1 ∧ isIn d.reads i.key = false) ∨ (keyedB i.kind = true ∧ i.kind ≠ 1 ∧ isIn d.writes i.key = false) then 9 else 0

theorem pwrong_eq (d : Deed) (m : Int) (i : Ins) : pwrongIns d m i = wrongIns d m i := by
  unfold pwrongIns wrongIns
  by_cases h : i.kind < 1 ∨ 9 < i.kind
  · rw [if_pos h, if_pos h]
  rw [if_neg h, if_neg h]
  obtain ⟨kd, a, b, n, key⟩ := i
  dsimp only at h ⊢
  have hout : outI (regsN kd) (loI kd) (hiI kd m) a b n = insOut kd.toNat a b n m := by
    have hkd : kd = 1 ∨ kd = 2 ∨ kd = 3 ∨ kd = 4 ∨ kd = 5 ∨ kd = 6 ∨ kd = 7 ∨ kd = 8 ∨ kd = 9 := by omega
    unfold outI insOut
    rw [Bool.eq_iff_iff]
    simp only [Bool.or_eq_true, decide_eq_true_eq]
    rcases hkd with rfl | rfl | rfl | rfl | rfl | rfl | rfl | rfl | rfl
    · rw [show regsN 1 = 1 from rfl, show loI 1 = 0 from rfl, show hiI 1 m = 0 from rfl, show insA (Int.toNat 1) = 3 from rfl, show insB (Int.toNat 1) = 0 from rfl, show insLow (Int.toNat 1) = 0 from rfl, show insHigh (Int.toNat 1) m = 0 from rfl]
      omega
    · rw [show regsN 2 = 1 from rfl, show loI 2 = -1073741824 from rfl, show hiI 2 m = 1073741824 from rfl, show insA (Int.toNat 2) = 3 from rfl, show insB (Int.toNat 2) = 0 from rfl, show insLow (Int.toNat 2) = -1073741824 from rfl, show insHigh (Int.toNat 2) m = 1073741824 from rfl]
      omega
    · rw [show regsN 3 = 2 from rfl, show loI 3 = 0 from rfl, show hiI 3 m = 0 from rfl, show insA (Int.toNat 3) = 3 from rfl, show insB (Int.toNat 3) = 3 from rfl, show insLow (Int.toNat 3) = 0 from rfl, show insHigh (Int.toNat 3) m = 0 from rfl]
      omega
    · rw [show regsN 4 = 2 from rfl, show loI 4 = 0 from rfl, show hiI 4 m = 0 from rfl, show insA (Int.toNat 4) = 3 from rfl, show insB (Int.toNat 4) = 3 from rfl, show insLow (Int.toNat 4) = 0 from rfl, show insHigh (Int.toNat 4) m = 0 from rfl]
      omega
    · rw [show regsN 5 = 2 from rfl, show loI 5 = 0 from rfl, show hiI 5 m = 0 from rfl, show insA (Int.toNat 5) = 3 from rfl, show insB (Int.toNat 5) = 3 from rfl, show insLow (Int.toNat 5) = 0 from rfl, show insHigh (Int.toNat 5) m = 0 from rfl]
      omega
    · rw [show regsN 6 = 1 from rfl, show loI 6 = 0 from rfl, show hiI 6 m = 0 from rfl, show insA (Int.toNat 6) = 3 from rfl, show insB (Int.toNat 6) = 0 from rfl, show insLow (Int.toNat 6) = 0 from rfl, show insHigh (Int.toNat 6) m = 0 from rfl]
      omega
    · rw [show regsN 7 = 0 from rfl, show loI 7 = 0 from rfl, show hiI 7 m = 0 from rfl, show insA (Int.toNat 7) = 0 from rfl, show insB (Int.toNat 7) = 0 from rfl, show insLow (Int.toNat 7) = 0 from rfl, show insHigh (Int.toNat 7) m = 0 from rfl]
      omega
    · rw [show regsN 8 = 1 from rfl, show loI 8 = 1 from rfl, show hiI 8 m = m from rfl, show insA (Int.toNat 8) = 3 from rfl, show insB (Int.toNat 8) = 0 from rfl, show insLow (Int.toNat 8) = 1 from rfl, show insHigh (Int.toNat 8) m = m from rfl]
      omega
    · rw [show regsN 9 = 1 from rfl, show loI 9 = 0 from rfl, show hiI 9 m = 0 from rfl, show insA (Int.toNat 9) = 3 from rfl, show insB (Int.toNat 9) = 0 from rfl, show insLow (Int.toNat 9) = 0 from rfl, show insHigh (Int.toNat 9) m = 0 from rfl]
      omega
  rw [hout]
  split
  · rfl
  have hkd : kd = 1 ∨ kd = 2 ∨ kd = 3 ∨ kd = 4 ∨ kd = 5 ∨ kd = 6 ∨ kd = 7 ∨ kd = 8 ∨ kd = 9 := by omega
  have hk9 : has kd.toNat 107 = keyedB kd := by rcases hkd with rfl | rfl | rfl | rfl | rfl | rfl | rfl | rfl | rfl <;> decide
  rw [hk9]
  cases hkb : keyedB kd with
  | false =>
    have h1 : ¬ kd = 1 := fun e => by subst e; cases hkb
    by_cases hk0 : key = []
    · simp [hk0, h1]
    · simp [hk0]
  | true =>
    simp only [Bool.true_eq_false, false_and, if_false, true_and]
    by_cases h1 : kd = 1
    · simp only [h1, if_true, ne_eq, not_true_eq_false, false_and, or_false, true_and]
      cases isIn d.reads key <;> rfl
    · simp only [h1, if_false, false_and, ne_eq, not_false_eq_true, true_and, false_or]
      cases isIn d.writes key <;> rfl

theorem ok_regs (k : Int) : FnOk Tryd.prog 44 [.d (dint k)] (.one (dint (regsN k))) := by
  refine fnOk_of tbl_ok mixed_ok Tryd.func44 rfl (by kernel_rfl) rfl rfl fun w0 own0 => ?_
  unfold regsN
  by_cases h3 : k = 3
  · rw [if_pos (.inl h3)]
    repeat (first|((with_reducible apply s1); exact rfl)|(with_reducible first|apply CW.seq|apply CW.block|apply CW.region|apply CW.draw|apply CW.skip|apply CW.exit|apply CW.ret|apply q_then|apply q_then_exit|apply q_then_ret|apply q_block|apply q_block_ret|apply q_block_hit|apply q_ret|apply q_end|apply q_loop_exit|apply q_loop_ret|apply q_loopT_exit|apply q_loopT_ret|apply RW.nil)|((with_reducible apply s3); exact rfl; exact by_k)|((with_reducible apply s2); exact rfl; exact by_k)|((with_reducible apply s4); exact rfl)|((with_reducible apply s5); exact by_oa; exact by_g)|((with_reducible apply CW.cond_t); exact rfl; exact by_ks)|((with_reducible apply CW.cond_f); exact rfl; exact by_ks)|((with_reducible apply q_block_miss); exact rfl)|(refine And.intro (show chk [] [] _ _ = true by kernel_rfl) ?_))
    exact .one (.tmp rfl (.one (.d (.refl _))))
  by_cases h4 : k = 4
  · rw [if_pos (.inr (.inl h4))]
    repeat (first|((with_reducible apply s1); exact rfl)|(with_reducible first|apply CW.seq|apply CW.block|apply CW.region|apply CW.draw|apply CW.skip|apply CW.exit|apply CW.ret|apply q_then|apply q_then_exit|apply q_then_ret|apply q_block|apply q_block_ret|apply q_block_hit|apply q_ret|apply q_end|apply q_loop_exit|apply q_loop_ret|apply q_loopT_exit|apply q_loopT_ret|apply RW.nil)|((with_reducible apply s3); exact rfl; exact by_k)|((with_reducible apply s2); exact rfl; exact by_k)|((with_reducible apply s4); exact rfl)|((with_reducible apply s5); exact by_oa; exact by_g)|((with_reducible apply CW.cond_t); exact rfl; exact by_ks)|((with_reducible apply CW.cond_f); exact rfl; exact by_ks)|((with_reducible apply q_block_miss); exact rfl)|(refine And.intro (show chk [] [] _ _ = true by kernel_rfl) ?_))
    exact .one (.tmp rfl (.one (.d (.refl _))))
  by_cases h5 : k = 5
  · rw [if_pos (.inr (.inr h5))]
    repeat (first|((with_reducible apply s1); exact rfl)|(with_reducible first|apply CW.seq|apply CW.block|apply CW.region|apply CW.draw|apply CW.skip|apply CW.exit|apply CW.ret|apply q_then|apply q_then_exit|apply q_then_ret|apply q_block|apply q_block_ret|apply q_block_hit|apply q_ret|apply q_end|apply q_loop_exit|apply q_loop_ret|apply q_loopT_exit|apply q_loopT_ret|apply RW.nil)|((with_reducible apply s3); exact rfl; exact by_k)|((with_reducible apply s2); exact rfl; exact by_k)|((with_reducible apply s4); exact rfl)|((with_reducible apply s5); exact by_oa; exact by_g)|((with_reducible apply CW.cond_t); exact rfl; exact by_ks)|((with_reducible apply CW.cond_f); exact rfl; exact by_ks)|((with_reducible apply q_block_miss); exact rfl)|(refine And.intro (show chk [] [] _ _ = true by kernel_rfl) ?_))
    exact .one (.tmp rfl (.one (.d (.refl _))))
  rw [if_neg (by omega)]
  by_cases h7 : k = 7
  · rw [if_pos h7]
    repeat (first|((with_reducible apply s1); exact rfl)|(with_reducible first|apply CW.seq|apply CW.block|apply CW.region|apply CW.draw|apply CW.skip|apply CW.exit|apply CW.ret|apply q_then|apply q_then_exit|apply q_then_ret|apply q_block|apply q_block_ret|apply q_block_hit|apply q_ret|apply q_end|apply q_loop_exit|apply q_loop_ret|apply q_loopT_exit|apply q_loopT_ret|apply RW.nil)|((with_reducible apply s3); exact rfl; exact by_k)|((with_reducible apply s2); exact rfl; exact by_k)|((with_reducible apply s4); exact rfl)|((with_reducible apply s5); exact by_oa; exact by_g)|((with_reducible apply CW.cond_t); exact rfl; exact by_ks)|((with_reducible apply CW.cond_f); exact rfl; exact by_ks)|((with_reducible apply q_block_miss); exact rfl)|(refine And.intro (show chk [] [] _ _ = true by kernel_rfl) ?_))
    exact .one (.tmp rfl (.one (.d (.refl _))))
  · rw [if_neg h7]
    repeat (first|((with_reducible apply s1); exact rfl)|(with_reducible first|apply CW.seq|apply CW.block|apply CW.region|apply CW.draw|apply CW.skip|apply CW.exit|apply CW.ret|apply q_then|apply q_then_exit|apply q_then_ret|apply q_block|apply q_block_ret|apply q_block_hit|apply q_ret|apply q_end|apply q_loop_exit|apply q_loop_ret|apply q_loopT_exit|apply q_loopT_ret|apply RW.nil)|((with_reducible apply s3); exact rfl; exact by_k)|((with_reducible apply s2); exact rfl; exact by_k)|((with_reducible apply s4); exact rfl)|((with_reducible apply s5); exact by_oa; exact by_g)|((with_reducible apply CW.cond_t); exact rfl; exact by_ks)|((with_reducible apply CW.cond_f); exact rfl; exact by_ks)|((with_reducible apply q_block_miss); exact rfl)|(refine And.intro (show chk [] [] _ _ = true by kernel_rfl) ?_))
    exact .one (.tmp rfl (.one (.d (.refl _))))

theorem ok_instr (d : Deed) (i : Ins) (m : Int) (hr : d.reads.length ≤ 268435456) (hw : d.writes.length ≤ 268435456) :
    FnOk Tryd.prog 31 [.pd d.enc, .d (.agg i.enc), .d (dint m)] (.one (dint (wrongIns d m i))) := by
  refine fnOk_of tbl_ok mixed_ok Tryd.func31 rfl (by kernel_rfl) rfl rfl fun w0 own0 => ?_
  rw [← pwrong_eq]
  have cr := ok_regs i.kind
  have c1 := ok_containsS d.reads i.key (by omega)
  have c2 := ok_containsS d.writes i.key (by omega)
  repeat (first|(with_reducible apply stop_reg 1)|((with_reducible apply s1); exact rfl)|(with_reducible first|apply CW.seq|apply CW.block|apply CW.region|apply CW.draw|apply CW.skip|apply CW.exit|apply CW.ret|apply q_then|apply q_then_exit|apply q_then_ret|apply q_block|apply q_block_ret|apply q_block_hit|apply q_ret|apply q_end|apply q_loop_exit|apply q_loop_ret|apply q_loopT_exit|apply q_loopT_ret|apply RW.nil)|((with_reducible apply s3); exact rfl; exact by_k)|((with_reducible apply s2); exact rfl; exact by_k)|((with_reducible apply s4); exact rfl)|((with_reducible apply s5); exact by_oa; exact by_g)|((with_reducible apply CW.cond_t); exact rfl; exact by_ks)|((with_reducible apply CW.cond_f); exact rfl; exact by_ks)|((with_reducible apply q_block_miss); exact rfl)|(refine And.intro (show chk [] [] _ _ = true by kernel_rfl) ?_))
  refine Stop.cutk [sd 7 (dbool (keyedB i.kind))] [.s 0, .s 2, .s 4, .o 0, .nx] ?_ ?_
  · by_cases h1 : i.kind = 1
    · rw [show keyedB i.kind = true from decide_eq_true (.inl h1)]
      repeat (first|((with_reducible apply s1); exact rfl)|(with_reducible first|apply CW.seq|apply CW.block|apply CW.region|apply CW.draw|apply CW.skip|apply CW.exit|apply CW.ret|apply q_then|apply q_then_exit|apply q_then_ret|apply q_block|apply q_block_ret|apply q_block_hit|apply q_ret|apply q_end|apply q_loop_exit|apply q_loop_ret|apply q_loopT_exit|apply q_loopT_ret|apply RW.nil)|((with_reducible apply s3); exact rfl; exact by_k)|((with_reducible apply s2); exact rfl; exact by_k)|((with_reducible apply s4); exact rfl)|((with_reducible apply s5); exact by_oa; exact by_g)|((with_reducible apply CW.cond_t); exact rfl; exact by_ks)|((with_reducible apply CW.cond_f); exact rfl; exact by_ks)|((with_reducible apply q_block_miss); exact rfl)|(refine And.intro (show chk [] [] _ _ = true by kernel_rfl) ?_))
      refine q_cut ?_
      exact by_less
    by_cases h6 : i.kind = 6
    · rw [show keyedB i.kind = true from decide_eq_true (.inr (.inl h6))]
      repeat (first|((with_reducible apply s1); exact rfl)|(with_reducible first|apply CW.seq|apply CW.block|apply CW.region|apply CW.draw|apply CW.skip|apply CW.exit|apply CW.ret|apply q_then|apply q_then_exit|apply q_then_ret|apply q_block|apply q_block_ret|apply q_block_hit|apply q_ret|apply q_end|apply q_loop_exit|apply q_loop_ret|apply q_loopT_exit|apply q_loopT_ret|apply RW.nil)|((with_reducible apply s3); exact rfl; exact by_k)|((with_reducible apply s2); exact rfl; exact by_k)|((with_reducible apply s4); exact rfl)|((with_reducible apply s5); exact by_oa; exact by_g)|((with_reducible apply CW.cond_t); exact rfl; exact by_ks)|((with_reducible apply CW.cond_f); exact rfl; exact by_ks)|((with_reducible apply q_block_miss); exact rfl)|(refine And.intro (show chk [] [] _ _ = true by kernel_rfl) ?_))
      refine q_cut ?_
      exact by_less
    by_cases h7 : i.kind = 7
    · rw [show keyedB i.kind = true from decide_eq_true (.inr (.inr h7))]
      repeat (first|((with_reducible apply s1); exact rfl)|(with_reducible first|apply CW.seq|apply CW.block|apply CW.region|apply CW.draw|apply CW.skip|apply CW.exit|apply CW.ret|apply q_then|apply q_then_exit|apply q_then_ret|apply q_block|apply q_block_ret|apply q_block_hit|apply q_ret|apply q_end|apply q_loop_exit|apply q_loop_ret|apply q_loopT_exit|apply q_loopT_ret|apply RW.nil)|((with_reducible apply s3); exact rfl; exact by_k)|((with_reducible apply s2); exact rfl; exact by_k)|((with_reducible apply s4); exact rfl)|((with_reducible apply s5); exact by_oa; exact by_g)|((with_reducible apply CW.cond_t); exact rfl; exact by_ks)|((with_reducible apply CW.cond_f); exact rfl; exact by_ks)|((with_reducible apply q_block_miss); exact rfl)|(refine And.intro (show chk [] [] _ _ = true by kernel_rfl) ?_))
      refine q_cut ?_
      exact by_less
    · rw [show keyedB i.kind = false from decide_eq_false (by omega)]
      repeat (first|((with_reducible apply s1); exact rfl)|(with_reducible first|apply CW.seq|apply CW.block|apply CW.region|apply CW.draw|apply CW.skip|apply CW.exit|apply CW.ret|apply q_then|apply q_then_exit|apply q_then_ret|apply q_block|apply q_block_ret|apply q_block_hit|apply q_ret|apply q_end|apply q_loop_exit|apply q_loop_ret|apply q_loopT_exit|apply q_loopT_ret|apply RW.nil)|((with_reducible apply s3); exact rfl; exact by_k)|((with_reducible apply s2); exact rfl; exact by_k)|((with_reducible apply s4); exact rfl)|((with_reducible apply s5); exact by_oa; exact by_g)|((with_reducible apply CW.cond_t); exact rfl; exact by_ks)|((with_reducible apply CW.cond_f); exact rfl; exact by_ks)|((with_reducible apply q_block_miss); exact rfl)|(refine And.intro (show chk [] [] _ _ = true by kernel_rfl) ?_))
      refine q_cut ?_
      exact by_less
  repeat (first|((with_reducible apply stop_at 3); exact rfl)|((with_reducible apply s1); exact rfl)|(with_reducible first|apply CW.seq|apply CW.block|apply CW.region|apply CW.draw|apply CW.skip|apply CW.exit|apply CW.ret|apply q_then|apply q_then_exit|apply q_then_ret|apply q_block|apply q_block_ret|apply q_block_hit|apply q_ret|apply q_end|apply q_loop_exit|apply q_loop_ret|apply q_loopT_exit|apply q_loopT_ret|apply RW.nil)|((with_reducible apply s3); exact rfl; exact by_k)|((with_reducible apply s2); exact rfl; exact by_k)|((with_reducible apply s4); exact rfl)|((with_reducible apply s5); exact by_oa; exact by_g)|((with_reducible apply CW.cond_t); exact rfl; exact by_ks)|((with_reducible apply CW.cond_f); exact rfl; exact by_ks)|((with_reducible apply q_block_miss); exact rfl)|(refine And.intro (show chk [] [] _ _ = true by kernel_rfl) ?_))
  refine Stop.cutk [sd 8 (dint (loI i.kind)), sd 9 (dint (hiI i.kind m))] [.s 0, .s 4, .s 7, .o 0, .nx] ?_ ?_
  · by_cases h2 : i.kind = 2
    · rw [show loI i.kind = -1073741824 from if_pos h2, show hiI i.kind m = 1073741824 from if_pos h2]
      repeat (first|((with_reducible apply s1); exact rfl)|(with_reducible first|apply CW.seq|apply CW.block|apply CW.region|apply CW.draw|apply CW.skip|apply CW.exit|apply CW.ret|apply q_then|apply q_then_exit|apply q_then_ret|apply q_block|apply q_block_ret|apply q_block_hit|apply q_ret|apply q_end|apply q_loop_exit|apply q_loop_ret|apply q_loopT_exit|apply q_loopT_ret|apply RW.nil)|((with_reducible apply s3); exact rfl; exact by_k)|((with_reducible apply s2); exact rfl; exact by_k)|((with_reducible apply s4); exact rfl)|((with_reducible apply s5); exact by_oa; exact by_g)|((with_reducible apply CW.cond_t); exact rfl; exact by_ks)|((with_reducible apply CW.cond_f); exact rfl; exact by_ks)|((with_reducible apply q_block_miss); exact rfl)|(refine And.intro (show chk [] [] _ _ = true by kernel_rfl) ?_))
      refine q_cut ?_
      exact by_less
    by_cases h8 : i.kind = 8
    · rw [show loI i.kind = 1 by unfold loI; rw [if_neg h2, if_pos h8], show hiI i.kind m = m by unfold hiI; rw [if_neg h2, if_pos h8]]
      repeat (first|((with_reducible apply s1); exact rfl)|(with_reducible first|apply CW.seq|apply CW.block|apply CW.region|apply CW.draw|apply CW.skip|apply CW.exit|apply CW.ret|apply q_then|apply q_then_exit|apply q_then_ret|apply q_block|apply q_block_ret|apply q_block_hit|apply q_ret|apply q_end|apply q_loop_exit|apply q_loop_ret|apply q_loopT_exit|apply q_loopT_ret|apply RW.nil)|((with_reducible apply s3); exact rfl; exact by_k)|((with_reducible apply s2); exact rfl; exact by_k)|((with_reducible apply s4); exact rfl)|((with_reducible apply s5); exact by_oa; exact by_g)|((with_reducible apply CW.cond_t); exact rfl; exact by_ks)|((with_reducible apply CW.cond_f); exact rfl; exact by_ks)|((with_reducible apply q_block_miss); exact rfl)|(refine And.intro (show chk [] [] _ _ = true by kernel_rfl) ?_))
      refine q_cut ?_
      exact by_less
    · rw [show loI i.kind = 0 by unfold loI; rw [if_neg h2, if_neg h8], show hiI i.kind m = 0 by unfold hiI; rw [if_neg h2, if_neg h8]]
      repeat (first|((with_reducible apply s1); exact rfl)|(with_reducible first|apply CW.seq|apply CW.block|apply CW.region|apply CW.draw|apply CW.skip|apply CW.exit|apply CW.ret|apply q_then|apply q_then_exit|apply q_then_ret|apply q_block|apply q_block_ret|apply q_block_hit|apply q_ret|apply q_end|apply q_loop_exit|apply q_loop_ret|apply q_loopT_exit|apply q_loopT_ret|apply RW.nil)|((with_reducible apply s3); exact rfl; exact by_k)|((with_reducible apply s2); exact rfl; exact by_k)|((with_reducible apply s4); exact rfl)|((with_reducible apply s5); exact by_oa; exact by_g)|((with_reducible apply CW.cond_t); exact rfl; exact by_ks)|((with_reducible apply CW.cond_f); exact rfl; exact by_ks)|((with_reducible apply q_block_miss); exact rfl)|(refine And.intro (show chk [] [] _ _ = true by kernel_rfl) ?_))
      refine q_cut ?_
      exact by_less
  unfold pwrongIns
  generalize regsN i.kind = n at cr ⊢
  generalize loI i.kind = lo
  generalize hiI i.kind m = hi
  by_cases hk0 : i.kind < 1
  · rw [if_pos (.inl hk0)]
    repeat (first|((with_reducible apply s1); exact rfl)|(with_reducible first|apply CW.seq|apply CW.block|apply CW.region|apply CW.draw|apply CW.skip|apply CW.exit|apply CW.ret|apply q_then|apply q_then_exit|apply q_then_ret|apply q_block|apply q_block_ret|apply q_block_hit|apply q_ret|apply q_end|apply q_loop_exit|apply q_loop_ret|apply q_loopT_exit|apply q_loopT_ret|apply RW.nil)|((with_reducible apply s3); exact rfl; exact by_k)|((with_reducible apply s2); exact rfl; exact by_k)|((with_reducible apply s4); exact rfl)|((with_reducible apply s5); (first|exact a_call cr rfl by_sub|exact by_oa); exact by_g)|((with_reducible apply CW.cond_t); exact rfl; exact by_ks)|((with_reducible apply CW.cond_f); exact rfl; exact by_ks)|((with_reducible apply q_block_miss); exact rfl)|(refine And.intro (show chk [] [] _ _ = true by kernel_rfl) ?_))
    exact .one (.tmp rfl (.one (.d (.refl _))))
  by_cases hk9 : 9 < i.kind
  · rw [if_pos (.inr hk9)]
    repeat (first|((with_reducible apply s1); exact rfl)|(with_reducible first|apply CW.seq|apply CW.block|apply CW.region|apply CW.draw|apply CW.skip|apply CW.exit|apply CW.ret|apply q_then|apply q_then_exit|apply q_then_ret|apply q_block|apply q_block_ret|apply q_block_hit|apply q_ret|apply q_end|apply q_loop_exit|apply q_loop_ret|apply q_loopT_exit|apply q_loopT_ret|apply RW.nil)|((with_reducible apply s3); exact rfl; exact by_k)|((with_reducible apply s2); exact rfl; exact by_k)|((with_reducible apply s4); exact rfl)|((with_reducible apply s5); (first|exact a_call cr rfl by_sub|exact by_oa); exact by_g)|((with_reducible apply CW.cond_t); exact rfl; exact by_ks)|((with_reducible apply CW.cond_f); exact rfl; exact by_ks)|((with_reducible apply q_block_miss); exact rfl)|(refine And.intro (show chk [] [] _ _ = true by kernel_rfl) ?_))
    exact .one (.tmp rfl (.one (.d (.refl _))))
  rw [if_neg (by omega)]
  repeat (first|((with_reducible apply stop_at 11); exact rfl)|((with_reducible apply s1); exact rfl)|(with_reducible first|apply CW.seq|apply CW.block|apply CW.region|apply CW.draw|apply CW.skip|apply CW.exit|apply CW.ret|apply q_then|apply q_then_exit|apply q_then_ret|apply q_block|apply q_block_ret|apply q_block_hit|apply q_ret|apply q_end|apply q_loop_exit|apply q_loop_ret|apply q_loopT_exit|apply q_loopT_ret|apply RW.nil)|((with_reducible apply s3); exact rfl; exact by_k)|((with_reducible apply s2); exact rfl; exact by_k)|((with_reducible apply s4); exact rfl)|((with_reducible apply s5); (first|exact a_call cr rfl by_sub|exact by_oa); exact by_g)|((with_reducible apply CW.cond_t); exact rfl; exact by_ks)|((with_reducible apply CW.cond_f); exact rfl; exact by_ks)|((with_reducible apply q_block_miss); exact rfl)|(refine And.intro (show chk [] [] _ _ = true by kernel_rfl) ?_))
  refine Stop.cutk [sd 43 (dbool (outI n lo hi i.a i.b i.n))] [.s 0, .s 4, .s 7, .o 0, .nx] ?_ ?_
  · have T : (i.a < 0 ∨ 4 ≤ i.a ∨ (n < 1 ∧ i.a ≠ 0) ∨ i.b < 0 ∨ 4 ≤ i.b ∨ (n < 2 ∧ i.b ≠ 0) ∨ i.n < lo ∨ hi < i.n) → outI n lo hi i.a i.b i.n = true := fun h => decide_eq_true h
    have F : ¬ (i.a < 0 ∨ 4 ≤ i.a ∨ (n < 1 ∧ i.a ≠ 0) ∨ i.b < 0 ∨ 4 ≤ i.b ∨ (n < 2 ∧ i.b ≠ 0) ∨ i.n < lo ∨ hi < i.n) → outI n lo hi i.a i.b i.n = false := fun h => decide_eq_false h
    by_cases ha0 : i.a < 0
    · rw [T (by omega)]
      repeat (first|((with_reducible apply s1); exact rfl)|(with_reducible first|apply CW.seq|apply CW.block|apply CW.region|apply CW.draw|apply CW.skip|apply CW.exit|apply CW.ret|apply q_then|apply q_then_exit|apply q_then_ret|apply q_block|apply q_block_ret|apply q_block_hit|apply q_ret|apply q_end|apply q_loop_exit|apply q_loop_ret|apply q_loopT_exit|apply q_loopT_ret|apply RW.nil)|((with_reducible apply s3); exact rfl; exact by_k)|((with_reducible apply s2); exact rfl; exact by_k)|((with_reducible apply s4); exact rfl)|((with_reducible apply s5); exact by_oa; exact by_g)|((with_reducible apply CW.cond_t); exact rfl; exact by_ks)|((with_reducible apply CW.cond_f); exact rfl; exact by_ks)|((with_reducible apply q_block_miss); exact rfl)|(refine And.intro (show chk [] [] _ _ = true by kernel_rfl) ?_))
      refine q_cut ?_
      exact by_less
    by_cases ha4 : 4 ≤ i.a
    · rw [T (by omega)]
      repeat (first|((with_reducible apply s1); exact rfl)|(with_reducible first|apply CW.seq|apply CW.block|apply CW.region|apply CW.draw|apply CW.skip|apply CW.exit|apply CW.ret|apply q_then|apply q_then_exit|apply q_then_ret|apply q_block|apply q_block_ret|apply q_block_hit|apply q_ret|apply q_end|apply q_loop_exit|apply q_loop_ret|apply q_loopT_exit|apply q_loopT_ret|apply RW.nil)|((with_reducible apply s3); exact rfl; exact by_k)|((with_reducible apply s2); exact rfl; exact by_k)|((with_reducible apply s4); exact rfl)|((with_reducible apply s5); exact by_oa; exact by_g)|((with_reducible apply CW.cond_t); exact rfl; exact by_ks)|((with_reducible apply CW.cond_f); exact rfl; exact by_ks)|((with_reducible apply q_block_miss); exact rfl)|(refine And.intro (show chk [] [] _ _ = true by kernel_rfl) ?_))
      refine q_cut ?_
      exact by_less
    by_cases hn1 : n < 1
    · by_cases ha : i.a = 0
      · skip
        by_cases hb0 : i.b < 0
        · rw [T (by omega)]
          repeat (first|((with_reducible apply s1); exact rfl)|(with_reducible first|apply CW.seq|apply CW.block|apply CW.region|apply CW.draw|apply CW.skip|apply CW.exit|apply CW.ret|apply q_then|apply q_then_exit|apply q_then_ret|apply q_block|apply q_block_ret|apply q_block_hit|apply q_ret|apply q_end|apply q_loop_exit|apply q_loop_ret|apply q_loopT_exit|apply q_loopT_ret|apply RW.nil)|((with_reducible apply s3); exact rfl; exact by_k)|((with_reducible apply s2); exact rfl; exact by_k)|((with_reducible apply s4); exact rfl)|((with_reducible apply s5); exact by_oa; exact by_g)|((with_reducible apply CW.cond_t); exact rfl; exact by_ks)|((with_reducible apply CW.cond_f); exact rfl; exact by_ks)|((with_reducible apply q_block_miss); exact rfl)|(refine And.intro (show chk [] [] _ _ = true by kernel_rfl) ?_))
          refine q_cut ?_
          exact by_less
        by_cases hb4 : 4 ≤ i.b
        · rw [T (by omega)]
          repeat (first|((with_reducible apply s1); exact rfl)|(with_reducible first|apply CW.seq|apply CW.block|apply CW.region|apply CW.draw|apply CW.skip|apply CW.exit|apply CW.ret|apply q_then|apply q_then_exit|apply q_then_ret|apply q_block|apply q_block_ret|apply q_block_hit|apply q_ret|apply q_end|apply q_loop_exit|apply q_loop_ret|apply q_loopT_exit|apply q_loopT_ret|apply RW.nil)|((with_reducible apply s3); exact rfl; exact by_k)|((with_reducible apply s2); exact rfl; exact by_k)|((with_reducible apply s4); exact rfl)|((with_reducible apply s5); exact by_oa; exact by_g)|((with_reducible apply CW.cond_t); exact rfl; exact by_ks)|((with_reducible apply CW.cond_f); exact rfl; exact by_ks)|((with_reducible apply q_block_miss); exact rfl)|(refine And.intro (show chk [] [] _ _ = true by kernel_rfl) ?_))
          refine q_cut ?_
          exact by_less
        by_cases hn2 : n < 2
        · by_cases hb : i.b = 0
          · skip
            by_cases hx0 : i.n < lo
            · rw [T (by omega)]
              repeat (first|((with_reducible apply s1); exact rfl)|(with_reducible first|apply CW.seq|apply CW.block|apply CW.region|apply CW.draw|apply CW.skip|apply CW.exit|apply CW.ret|apply q_then|apply q_then_exit|apply q_then_ret|apply q_block|apply q_block_ret|apply q_block_hit|apply q_ret|apply q_end|apply q_loop_exit|apply q_loop_ret|apply q_loopT_exit|apply q_loopT_ret|apply RW.nil)|((with_reducible apply s3); exact rfl; exact by_k)|((with_reducible apply s2); exact rfl; exact by_k)|((with_reducible apply s4); exact rfl)|((with_reducible apply s5); exact by_oa; exact by_g)|((with_reducible apply CW.cond_t); exact rfl; exact by_ks)|((with_reducible apply CW.cond_f); exact rfl; exact by_ks)|((with_reducible apply q_block_miss); exact rfl)|(refine And.intro (show chk [] [] _ _ = true by kernel_rfl) ?_))
              refine q_cut ?_
              exact by_less
            by_cases hx1 : hi < i.n
            · rw [T (by omega)]
              repeat (first|((with_reducible apply s1); exact rfl)|(with_reducible first|apply CW.seq|apply CW.block|apply CW.region|apply CW.draw|apply CW.skip|apply CW.exit|apply CW.ret|apply q_then|apply q_then_exit|apply q_then_ret|apply q_block|apply q_block_ret|apply q_block_hit|apply q_ret|apply q_end|apply q_loop_exit|apply q_loop_ret|apply q_loopT_exit|apply q_loopT_ret|apply RW.nil)|((with_reducible apply s3); exact rfl; exact by_k)|((with_reducible apply s2); exact rfl; exact by_k)|((with_reducible apply s4); exact rfl)|((with_reducible apply s5); exact by_oa; exact by_g)|((with_reducible apply CW.cond_t); exact rfl; exact by_ks)|((with_reducible apply CW.cond_f); exact rfl; exact by_ks)|((with_reducible apply q_block_miss); exact rfl)|(refine And.intro (show chk [] [] _ _ = true by kernel_rfl) ?_))
              refine q_cut ?_
              exact by_less
            rw [F (by omega)]
            repeat (first|((with_reducible apply s1); exact rfl)|(with_reducible first|apply CW.seq|apply CW.block|apply CW.region|apply CW.draw|apply CW.skip|apply CW.exit|apply CW.ret|apply q_then|apply q_then_exit|apply q_then_ret|apply q_block|apply q_block_ret|apply q_block_hit|apply q_ret|apply q_end|apply q_loop_exit|apply q_loop_ret|apply q_loopT_exit|apply q_loopT_ret|apply RW.nil)|((with_reducible apply s3); exact rfl; exact by_k)|((with_reducible apply s2); exact rfl; exact by_k)|((with_reducible apply s4); exact rfl)|((with_reducible apply s5); exact by_oa; exact by_g)|((with_reducible apply CW.cond_t); exact rfl; exact by_ks)|((with_reducible apply CW.cond_f); exact rfl; exact by_ks)|((with_reducible apply q_block_miss); exact rfl)|(refine And.intro (show chk [] [] _ _ = true by kernel_rfl) ?_))
            refine q_cut ?_
            exact by_less
          · rw [T (by omega)]
            repeat (first|((with_reducible apply s1); exact rfl)|(with_reducible first|apply CW.seq|apply CW.block|apply CW.region|apply CW.draw|apply CW.skip|apply CW.exit|apply CW.ret|apply q_then|apply q_then_exit|apply q_then_ret|apply q_block|apply q_block_ret|apply q_block_hit|apply q_ret|apply q_end|apply q_loop_exit|apply q_loop_ret|apply q_loopT_exit|apply q_loopT_ret|apply RW.nil)|((with_reducible apply s3); exact rfl; exact by_k)|((with_reducible apply s2); exact rfl; exact by_k)|((with_reducible apply s4); exact rfl)|((with_reducible apply s5); exact by_oa; exact by_g)|((with_reducible apply CW.cond_t); exact rfl; exact by_ks)|((with_reducible apply CW.cond_f); exact rfl; exact by_ks)|((with_reducible apply q_block_miss); exact rfl)|(refine And.intro (show chk [] [] _ _ = true by kernel_rfl) ?_))
            refine q_cut ?_
            exact by_less
        by_cases hx0 : i.n < lo
        · rw [T (by omega)]
          repeat (first|((with_reducible apply s1); exact rfl)|(with_reducible first|apply CW.seq|apply CW.block|apply CW.region|apply CW.draw|apply CW.skip|apply CW.exit|apply CW.ret|apply q_then|apply q_then_exit|apply q_then_ret|apply q_block|apply q_block_ret|apply q_block_hit|apply q_ret|apply q_end|apply q_loop_exit|apply q_loop_ret|apply q_loopT_exit|apply q_loopT_ret|apply RW.nil)|((with_reducible apply s3); exact rfl; exact by_k)|((with_reducible apply s2); exact rfl; exact by_k)|((with_reducible apply s4); exact rfl)|((with_reducible apply s5); exact by_oa; exact by_g)|((with_reducible apply CW.cond_t); exact rfl; exact by_ks)|((with_reducible apply CW.cond_f); exact rfl; exact by_ks)|((with_reducible apply q_block_miss); exact rfl)|(refine And.intro (show chk [] [] _ _ = true by kernel_rfl) ?_))
          refine q_cut ?_
          exact by_less
        by_cases hx1 : hi < i.n
        · rw [T (by omega)]
          repeat (first|((with_reducible apply s1); exact rfl)|(with_reducible first|apply CW.seq|apply CW.block|apply CW.region|apply CW.draw|apply CW.skip|apply CW.exit|apply CW.ret|apply q_then|apply q_then_exit|apply q_then_ret|apply q_block|apply q_block_ret|apply q_block_hit|apply q_ret|apply q_end|apply q_loop_exit|apply q_loop_ret|apply q_loopT_exit|apply q_loopT_ret|apply RW.nil)|((with_reducible apply s3); exact rfl; exact by_k)|((with_reducible apply s2); exact rfl; exact by_k)|((with_reducible apply s4); exact rfl)|((with_reducible apply s5); exact by_oa; exact by_g)|((with_reducible apply CW.cond_t); exact rfl; exact by_ks)|((with_reducible apply CW.cond_f); exact rfl; exact by_ks)|((with_reducible apply q_block_miss); exact rfl)|(refine And.intro (show chk [] [] _ _ = true by kernel_rfl) ?_))
          refine q_cut ?_
          exact by_less
        rw [F (by omega)]
        repeat (first|((with_reducible apply s1); exact rfl)|(with_reducible first|apply CW.seq|apply CW.block|apply CW.region|apply CW.draw|apply CW.skip|apply CW.exit|apply CW.ret|apply q_then|apply q_then_exit|apply q_then_ret|apply q_block|apply q_block_ret|apply q_block_hit|apply q_ret|apply q_end|apply q_loop_exit|apply q_loop_ret|apply q_loopT_exit|apply q_loopT_ret|apply RW.nil)|((with_reducible apply s3); exact rfl; exact by_k)|((with_reducible apply s2); exact rfl; exact by_k)|((with_reducible apply s4); exact rfl)|((with_reducible apply s5); exact by_oa; exact by_g)|((with_reducible apply CW.cond_t); exact rfl; exact by_ks)|((with_reducible apply CW.cond_f); exact rfl; exact by_ks)|((with_reducible apply q_block_miss); exact rfl)|(refine And.intro (show chk [] [] _ _ = true by kernel_rfl) ?_))
        refine q_cut ?_
        exact by_less
      · rw [T (by omega)]
        repeat (first|((with_reducible apply s1); exact rfl)|(with_reducible first|apply CW.seq|apply CW.block|apply CW.region|apply CW.draw|apply CW.skip|apply CW.exit|apply CW.ret|apply q_then|apply q_then_exit|apply q_then_ret|apply q_block|apply q_block_ret|apply q_block_hit|apply q_ret|apply q_end|apply q_loop_exit|apply q_loop_ret|apply q_loopT_exit|apply q_loopT_ret|apply RW.nil)|((with_reducible apply s3); exact rfl; exact by_k)|((with_reducible apply s2); exact rfl; exact by_k)|((with_reducible apply s4); exact rfl)|((with_reducible apply s5); exact by_oa; exact by_g)|((with_reducible apply CW.cond_t); exact rfl; exact by_ks)|((with_reducible apply CW.cond_f); exact rfl; exact by_ks)|((with_reducible apply q_block_miss); exact rfl)|(refine And.intro (show chk [] [] _ _ = true by kernel_rfl) ?_))
        refine q_cut ?_
        exact by_less
    by_cases hb0 : i.b < 0
    · rw [T (by omega)]
      repeat (first|((with_reducible apply s1); exact rfl)|(with_reducible first|apply CW.seq|apply CW.block|apply CW.region|apply CW.draw|apply CW.skip|apply CW.exit|apply CW.ret|apply q_then|apply q_then_exit|apply q_then_ret|apply q_block|apply q_block_ret|apply q_block_hit|apply q_ret|apply q_end|apply q_loop_exit|apply q_loop_ret|apply q_loopT_exit|apply q_loopT_ret|apply RW.nil)|((with_reducible apply s3); exact rfl; exact by_k)|((with_reducible apply s2); exact rfl; exact by_k)|((with_reducible apply s4); exact rfl)|((with_reducible apply s5); exact by_oa; exact by_g)|((with_reducible apply CW.cond_t); exact rfl; exact by_ks)|((with_reducible apply CW.cond_f); exact rfl; exact by_ks)|((with_reducible apply q_block_miss); exact rfl)|(refine And.intro (show chk [] [] _ _ = true by kernel_rfl) ?_))
      refine q_cut ?_
      exact by_less
    by_cases hb4 : 4 ≤ i.b
    · rw [T (by omega)]
      repeat (first|((with_reducible apply s1); exact rfl)|(with_reducible first|apply CW.seq|apply CW.block|apply CW.region|apply CW.draw|apply CW.skip|apply CW.exit|apply CW.ret|apply q_then|apply q_then_exit|apply q_then_ret|apply q_block|apply q_block_ret|apply q_block_hit|apply q_ret|apply q_end|apply q_loop_exit|apply q_loop_ret|apply q_loopT_exit|apply q_loopT_ret|apply RW.nil)|((with_reducible apply s3); exact rfl; exact by_k)|((with_reducible apply s2); exact rfl; exact by_k)|((with_reducible apply s4); exact rfl)|((with_reducible apply s5); exact by_oa; exact by_g)|((with_reducible apply CW.cond_t); exact rfl; exact by_ks)|((with_reducible apply CW.cond_f); exact rfl; exact by_ks)|((with_reducible apply q_block_miss); exact rfl)|(refine And.intro (show chk [] [] _ _ = true by kernel_rfl) ?_))
      refine q_cut ?_
      exact by_less
    by_cases hn2 : n < 2
    · by_cases hb : i.b = 0
      · skip
        by_cases hx0 : i.n < lo
        · rw [T (by omega)]
          repeat (first|((with_reducible apply s1); exact rfl)|(with_reducible first|apply CW.seq|apply CW.block|apply CW.region|apply CW.draw|apply CW.skip|apply CW.exit|apply CW.ret|apply q_then|apply q_then_exit|apply q_then_ret|apply q_block|apply q_block_ret|apply q_block_hit|apply q_ret|apply q_end|apply q_loop_exit|apply q_loop_ret|apply q_loopT_exit|apply q_loopT_ret|apply RW.nil)|((with_reducible apply s3); exact rfl; exact by_k)|((with_reducible apply s2); exact rfl; exact by_k)|((with_reducible apply s4); exact rfl)|((with_reducible apply s5); exact by_oa; exact by_g)|((with_reducible apply CW.cond_t); exact rfl; exact by_ks)|((with_reducible apply CW.cond_f); exact rfl; exact by_ks)|((with_reducible apply q_block_miss); exact rfl)|(refine And.intro (show chk [] [] _ _ = true by kernel_rfl) ?_))
          refine q_cut ?_
          exact by_less
        by_cases hx1 : hi < i.n
        · rw [T (by omega)]
          repeat (first|((with_reducible apply s1); exact rfl)|(with_reducible first|apply CW.seq|apply CW.block|apply CW.region|apply CW.draw|apply CW.skip|apply CW.exit|apply CW.ret|apply q_then|apply q_then_exit|apply q_then_ret|apply q_block|apply q_block_ret|apply q_block_hit|apply q_ret|apply q_end|apply q_loop_exit|apply q_loop_ret|apply q_loopT_exit|apply q_loopT_ret|apply RW.nil)|((with_reducible apply s3); exact rfl; exact by_k)|((with_reducible apply s2); exact rfl; exact by_k)|((with_reducible apply s4); exact rfl)|((with_reducible apply s5); exact by_oa; exact by_g)|((with_reducible apply CW.cond_t); exact rfl; exact by_ks)|((with_reducible apply CW.cond_f); exact rfl; exact by_ks)|((with_reducible apply q_block_miss); exact rfl)|(refine And.intro (show chk [] [] _ _ = true by kernel_rfl) ?_))
          refine q_cut ?_
          exact by_less
        rw [F (by omega)]
        repeat (first|((with_reducible apply s1); exact rfl)|(with_reducible first|apply CW.seq|apply CW.block|apply CW.region|apply CW.draw|apply CW.skip|apply CW.exit|apply CW.ret|apply q_then|apply q_then_exit|apply q_then_ret|apply q_block|apply q_block_ret|apply q_block_hit|apply q_ret|apply q_end|apply q_loop_exit|apply q_loop_ret|apply q_loopT_exit|apply q_loopT_ret|apply RW.nil)|((with_reducible apply s3); exact rfl; exact by_k)|((with_reducible apply s2); exact rfl; exact by_k)|((with_reducible apply s4); exact rfl)|((with_reducible apply s5); exact by_oa; exact by_g)|((with_reducible apply CW.cond_t); exact rfl; exact by_ks)|((with_reducible apply CW.cond_f); exact rfl; exact by_ks)|((with_reducible apply q_block_miss); exact rfl)|(refine And.intro (show chk [] [] _ _ = true by kernel_rfl) ?_))
        refine q_cut ?_
        exact by_less
      · rw [T (by omega)]
        repeat (first|((with_reducible apply s1); exact rfl)|(with_reducible first|apply CW.seq|apply CW.block|apply CW.region|apply CW.draw|apply CW.skip|apply CW.exit|apply CW.ret|apply q_then|apply q_then_exit|apply q_then_ret|apply q_block|apply q_block_ret|apply q_block_hit|apply q_ret|apply q_end|apply q_loop_exit|apply q_loop_ret|apply q_loopT_exit|apply q_loopT_ret|apply RW.nil)|((with_reducible apply s3); exact rfl; exact by_k)|((with_reducible apply s2); exact rfl; exact by_k)|((with_reducible apply s4); exact rfl)|((with_reducible apply s5); exact by_oa; exact by_g)|((with_reducible apply CW.cond_t); exact rfl; exact by_ks)|((with_reducible apply CW.cond_f); exact rfl; exact by_ks)|((with_reducible apply q_block_miss); exact rfl)|(refine And.intro (show chk [] [] _ _ = true by kernel_rfl) ?_))
        refine q_cut ?_
        exact by_less
    by_cases hx0 : i.n < lo
    · rw [T (by omega)]
      repeat (first|((with_reducible apply s1); exact rfl)|(with_reducible first|apply CW.seq|apply CW.block|apply CW.region|apply CW.draw|apply CW.skip|apply CW.exit|apply CW.ret|apply q_then|apply q_then_exit|apply q_then_ret|apply q_block|apply q_block_ret|apply q_block_hit|apply q_ret|apply q_end|apply q_loop_exit|apply q_loop_ret|apply q_loopT_exit|apply q_loopT_ret|apply RW.nil)|((with_reducible apply s3); exact rfl; exact by_k)|((with_reducible apply s2); exact rfl; exact by_k)|((with_reducible apply s4); exact rfl)|((with_reducible apply s5); exact by_oa; exact by_g)|((with_reducible apply CW.cond_t); exact rfl; exact by_ks)|((with_reducible apply CW.cond_f); exact rfl; exact by_ks)|((with_reducible apply q_block_miss); exact rfl)|(refine And.intro (show chk [] [] _ _ = true by kernel_rfl) ?_))
      refine q_cut ?_
      exact by_less
    by_cases hx1 : hi < i.n
    · rw [T (by omega)]
      repeat (first|((with_reducible apply s1); exact rfl)|(with_reducible first|apply CW.seq|apply CW.block|apply CW.region|apply CW.draw|apply CW.skip|apply CW.exit|apply CW.ret|apply q_then|apply q_then_exit|apply q_then_ret|apply q_block|apply q_block_ret|apply q_block_hit|apply q_ret|apply q_end|apply q_loop_exit|apply q_loop_ret|apply q_loopT_exit|apply q_loopT_ret|apply RW.nil)|((with_reducible apply s3); exact rfl; exact by_k)|((with_reducible apply s2); exact rfl; exact by_k)|((with_reducible apply s4); exact rfl)|((with_reducible apply s5); exact by_oa; exact by_g)|((with_reducible apply CW.cond_t); exact rfl; exact by_ks)|((with_reducible apply CW.cond_f); exact rfl; exact by_ks)|((with_reducible apply q_block_miss); exact rfl)|(refine And.intro (show chk [] [] _ _ = true by kernel_rfl) ?_))
      refine q_cut ?_
      exact by_less
    rw [F (by omega)]
    repeat (first|((with_reducible apply s1); exact rfl)|(with_reducible first|apply CW.seq|apply CW.block|apply CW.region|apply CW.draw|apply CW.skip|apply CW.exit|apply CW.ret|apply q_then|apply q_then_exit|apply q_then_ret|apply q_block|apply q_block_ret|apply q_block_hit|apply q_ret|apply q_end|apply q_loop_exit|apply q_loop_ret|apply q_loopT_exit|apply q_loopT_ret|apply RW.nil)|((with_reducible apply s3); exact rfl; exact by_k)|((with_reducible apply s2); exact rfl; exact by_k)|((with_reducible apply s4); exact rfl)|((with_reducible apply s5); exact by_oa; exact by_g)|((with_reducible apply CW.cond_t); exact rfl; exact by_ks)|((with_reducible apply CW.cond_f); exact rfl; exact by_ks)|((with_reducible apply q_block_miss); exact rfl)|(refine And.intro (show chk [] [] _ _ = true by kernel_rfl) ?_))
    refine q_cut ?_
    exact by_less
  cases ho : outI n lo hi i.a i.b i.n with
  | true =>
    rw [if_pos rfl]
    repeat (first|((with_reducible apply s1); exact rfl)|(with_reducible first|apply CW.seq|apply CW.block|apply CW.region|apply CW.draw|apply CW.skip|apply CW.exit|apply CW.ret|apply q_then|apply q_then_exit|apply q_then_ret|apply q_block|apply q_block_ret|apply q_block_hit|apply q_ret|apply q_end|apply q_loop_exit|apply q_loop_ret|apply q_loopT_exit|apply q_loopT_ret|apply RW.nil)|((with_reducible apply s3); exact rfl; exact by_k)|((with_reducible apply s2); exact rfl; exact by_k)|((with_reducible apply s4); exact rfl)|((with_reducible apply s5); exact by_oa; exact by_g)|((with_reducible apply CW.cond_t); exact rfl; exact by_ks)|((with_reducible apply CW.cond_f); exact rfl; exact by_ks)|((with_reducible apply q_block_miss); exact rfl)|(refine And.intro (show chk [] [] _ _ = true by kernel_rfl) ?_))
    exact .one (.tmp rfl (.one (.d (.refl _))))
  | false =>
    rw [if_neg (by simp)]
    by_cases hkey : i.key = []
    · rw [if_neg (fun h => h.2 hkey)]
      by_cases h1 : i.kind = 1
      · have hk1 : keyedB i.kind = true := decide_eq_true (.inl h1)
        rw [hk1]
        cases hin : isIn d.reads i.key with
        | false =>
          rw [if_pos (.inl ⟨h1, rfl⟩)]
          rw [hin] at c1
          repeat (first|((with_reducible apply s1); exact rfl)|(with_reducible first|apply CW.seq|apply CW.block|apply CW.region|apply CW.draw|apply CW.skip|apply CW.exit|apply CW.ret|apply q_then|apply q_then_exit|apply q_then_ret|apply q_block|apply q_block_ret|apply q_block_hit|apply q_ret|apply q_end|apply q_loop_exit|apply q_loop_ret|apply q_loopT_exit|apply q_loopT_ret|apply RW.nil)|((with_reducible apply s3); exact rfl; exact by_k)|((with_reducible apply s2); exact rfl; exact by_k)|((with_reducible apply s4); exact rfl)|((with_reducible apply s5); (first|exact a_call c1 rfl by_sub|((with_reducible apply a_nilpd); (iterate 2 exact rfl))|exact by_oa); exact by_g)|((with_reducible apply CW.cond_t); exact rfl; exact by_ks)|((with_reducible apply CW.cond_f); exact rfl; exact by_ks)|((with_reducible apply q_block_miss); exact rfl)|(refine And.intro (show chk [] [] _ _ = true by kernel_rfl) ?_))
          exact .one (.tmp rfl (.one (.d (.refl _))))
        | true =>
          rw [if_neg (by simp [h1])]
          rw [hin] at c1
          repeat (first|((with_reducible apply s1); exact rfl)|(with_reducible first|apply CW.seq|apply CW.block|apply CW.region|apply CW.draw|apply CW.skip|apply CW.exit|apply CW.ret|apply q_then|apply q_then_exit|apply q_then_ret|apply q_block|apply q_block_ret|apply q_block_hit|apply q_ret|apply q_end|apply q_loop_exit|apply q_loop_ret|apply q_loopT_exit|apply q_loopT_ret|apply RW.nil)|((with_reducible apply s3); exact rfl; exact by_k)|((with_reducible apply s2); exact rfl; exact by_k)|((with_reducible apply s4); exact rfl)|((with_reducible apply s5); (first|exact a_call c1 rfl by_sub|((with_reducible apply a_nilpd); (iterate 2 exact rfl))|exact by_oa); exact by_g)|((with_reducible apply CW.cond_t); exact rfl; exact by_ks)|((with_reducible apply CW.cond_f); exact rfl; exact by_ks)|((with_reducible apply q_block_miss); exact rfl)|(refine And.intro (show chk [] [] _ _ = true by kernel_rfl) ?_))
          exact .one (.tmp rfl (.one (.d (.refl _))))
      · cases hkb : keyedB i.kind with
        | false =>
          rw [if_neg (by simp [h1])]
          repeat (first|((with_reducible apply s1); exact rfl)|(with_reducible first|apply CW.seq|apply CW.block|apply CW.region|apply CW.draw|apply CW.skip|apply CW.exit|apply CW.ret|apply q_then|apply q_then_exit|apply q_then_ret|apply q_block|apply q_block_ret|apply q_block_hit|apply q_ret|apply q_end|apply q_loop_exit|apply q_loop_ret|apply q_loopT_exit|apply q_loopT_ret|apply RW.nil)|((with_reducible apply s3); exact rfl; exact by_k)|((with_reducible apply s2); exact rfl; exact by_k)|((with_reducible apply s4); exact rfl)|((with_reducible apply s5); exact by_oa; exact by_g)|((with_reducible apply CW.cond_t); exact rfl; exact by_ks)|((with_reducible apply CW.cond_f); exact rfl; exact by_ks)|((with_reducible apply q_block_miss); exact rfl)|(refine And.intro (show chk [] [] _ _ = true by kernel_rfl) ?_))
          exact .one (.tmp rfl (.one (.d (.refl _))))
        | true =>
          cases hin : isIn d.writes i.key with
          | false =>
            rw [if_pos (.inr ⟨rfl, h1, rfl⟩)]
            rw [hin] at c2
            repeat (first|((with_reducible apply s1); exact rfl)|(with_reducible first|apply CW.seq|apply CW.block|apply CW.region|apply CW.draw|apply CW.skip|apply CW.exit|apply CW.ret|apply q_then|apply q_then_exit|apply q_then_ret|apply q_block|apply q_block_ret|apply q_block_hit|apply q_ret|apply q_end|apply q_loop_exit|apply q_loop_ret|apply q_loopT_exit|apply q_loopT_ret|apply RW.nil)|((with_reducible apply s3); exact rfl; exact by_k)|((with_reducible apply s2); exact rfl; exact by_k)|((with_reducible apply s4); exact rfl)|((with_reducible apply s5); (first|exact a_call c2 rfl by_sub|((with_reducible apply a_nilpd); (iterate 2 exact rfl))|exact by_oa); exact by_g)|((with_reducible apply CW.cond_t); exact rfl; exact by_ks)|((with_reducible apply CW.cond_f); exact rfl; exact by_ks)|((with_reducible apply q_block_miss); exact rfl)|(refine And.intro (show chk [] [] _ _ = true by kernel_rfl) ?_))
            exact .one (.tmp rfl (.one (.d (.refl _))))
          | true =>
            rw [if_neg (by simp [h1])]
            rw [hin] at c2
            repeat (first|((with_reducible apply s1); exact rfl)|(with_reducible first|apply CW.seq|apply CW.block|apply CW.region|apply CW.draw|apply CW.skip|apply CW.exit|apply CW.ret|apply q_then|apply q_then_exit|apply q_then_ret|apply q_block|apply q_block_ret|apply q_block_hit|apply q_ret|apply q_end|apply q_loop_exit|apply q_loop_ret|apply q_loopT_exit|apply q_loopT_ret|apply RW.nil)|((with_reducible apply s3); exact rfl; exact by_k)|((with_reducible apply s2); exact rfl; exact by_k)|((with_reducible apply s4); exact rfl)|((with_reducible apply s5); (first|exact a_call c2 rfl by_sub|((with_reducible apply a_nilpd); (iterate 2 exact rfl))|exact by_oa); exact by_g)|((with_reducible apply CW.cond_t); exact rfl; exact by_ks)|((with_reducible apply CW.cond_f); exact rfl; exact by_ks)|((with_reducible apply q_block_miss); exact rfl)|(refine And.intro (show chk [] [] _ _ = true by kernel_rfl) ?_))
            exact .one (.tmp rfl (.one (.d (.refl _))))
    · by_cases h1 : i.kind = 1
      · have hk1 : keyedB i.kind = true := decide_eq_true (.inl h1)
        rw [hk1, if_neg (by simp)]
        cases hin : isIn d.reads i.key with
        | false =>
          rw [if_pos (.inl ⟨h1, rfl⟩)]
          rw [hin] at c1
          repeat (first|((with_reducible apply s1); exact rfl)|(with_reducible first|apply CW.seq|apply CW.block|apply CW.region|apply CW.draw|apply CW.skip|apply CW.exit|apply CW.ret|apply q_then|apply q_then_exit|apply q_then_ret|apply q_block|apply q_block_ret|apply q_block_hit|apply q_ret|apply q_end|apply q_loop_exit|apply q_loop_ret|apply q_loopT_exit|apply q_loopT_ret|apply RW.nil)|((with_reducible apply s3); exact rfl; exact by_k)|((with_reducible apply s2); exact rfl; exact by_k)|((with_reducible apply s4); exact rfl)|((with_reducible apply s5); (first|exact a_call c1 rfl by_sub|((with_reducible apply a_nilpd); (iterate 2 exact rfl))|exact by_oa); exact by_g)|((with_reducible apply CW.cond_t); exact rfl; exact by_ks)|((with_reducible apply CW.cond_f); exact rfl; exact by_ks)|((with_reducible apply q_block_miss); exact rfl)|(refine And.intro (show chk [] [] _ _ = true by kernel_rfl) ?_))
          exact .one (.tmp rfl (.one (.d (.refl _))))
        | true =>
          rw [if_neg (by simp [h1])]
          rw [hin] at c1
          repeat (first|((with_reducible apply s1); exact rfl)|(with_reducible first|apply CW.seq|apply CW.block|apply CW.region|apply CW.draw|apply CW.skip|apply CW.exit|apply CW.ret|apply q_then|apply q_then_exit|apply q_then_ret|apply q_block|apply q_block_ret|apply q_block_hit|apply q_ret|apply q_end|apply q_loop_exit|apply q_loop_ret|apply q_loopT_exit|apply q_loopT_ret|apply RW.nil)|((with_reducible apply s3); exact rfl; exact by_k)|((with_reducible apply s2); exact rfl; exact by_k)|((with_reducible apply s4); exact rfl)|((with_reducible apply s5); (first|exact a_call c1 rfl by_sub|((with_reducible apply a_nilpd); (iterate 2 exact rfl))|exact by_oa); exact by_g)|((with_reducible apply CW.cond_t); exact rfl; exact by_ks)|((with_reducible apply CW.cond_f); exact rfl; exact by_ks)|((with_reducible apply q_block_miss); exact rfl)|(refine And.intro (show chk [] [] _ _ = true by kernel_rfl) ?_))
          exact .one (.tmp rfl (.one (.d (.refl _))))
      · cases hkb : keyedB i.kind with
        | false =>
          rw [if_pos ⟨rfl, hkey⟩]
          repeat (first|((with_reducible apply s1); exact rfl)|(with_reducible first|apply CW.seq|apply CW.block|apply CW.region|apply CW.draw|apply CW.skip|apply CW.exit|apply CW.ret|apply q_then|apply q_then_exit|apply q_then_ret|apply q_block|apply q_block_ret|apply q_block_hit|apply q_ret|apply q_end|apply q_loop_exit|apply q_loop_ret|apply q_loopT_exit|apply q_loopT_ret|apply RW.nil)|((with_reducible apply s3); exact rfl; exact by_k)|((with_reducible apply s2); exact rfl; exact by_k)|((with_reducible apply s4); exact rfl)|((with_reducible apply s5); exact by_oa; exact by_g)|((with_reducible apply CW.cond_t); exact rfl; exact by_ks)|((with_reducible apply CW.cond_f); exact rfl; exact by_ks)|((with_reducible apply q_block_miss); exact rfl)|(refine And.intro (show chk [] [] _ _ = true by kernel_rfl) ?_))
          exact .one (.tmp rfl (.one (.d (.refl _))))
        | true =>
          rw [if_neg (by simp)]
          cases hin : isIn d.writes i.key with
          | false =>
            rw [if_pos (.inr ⟨rfl, h1, rfl⟩)]
            rw [hin] at c2
            repeat (first|((with_reducible apply s1); exact rfl)|(with_reducible first|apply CW.seq|apply CW.block|apply CW.region|apply CW.draw|apply CW.skip|apply CW.exit|apply CW.ret|apply q_then|apply q_then_exit|apply q_then_ret|apply q_block|apply q_block_ret|apply q_block_hit|apply q_ret|apply q_end|apply q_loop_exit|apply q_loop_ret|apply q_loopT_exit|apply q_loopT_ret|apply RW.nil)|((with_reducible apply s3); exact rfl; exact by_k)|((with_reducible apply s2); exact rfl; exact by_k)|((with_reducible apply s4); exact rfl)|((with_reducible apply s5); (first|exact a_call c2 rfl by_sub|((with_reducible apply a_nilpd); (iterate 2 exact rfl))|exact by_oa); exact by_g)|((with_reducible apply CW.cond_t); exact rfl; exact by_ks)|((with_reducible apply CW.cond_f); exact rfl; exact by_ks)|((with_reducible apply q_block_miss); exact rfl)|(refine And.intro (show chk [] [] _ _ = true by kernel_rfl) ?_))
            exact .one (.tmp rfl (.one (.d (.refl _))))
          | true =>
            rw [if_neg (by simp [h1])]
            rw [hin] at c2
            repeat (first|((with_reducible apply s1); exact rfl)|(with_reducible first|apply CW.seq|apply CW.block|apply CW.region|apply CW.draw|apply CW.skip|apply CW.exit|apply CW.ret|apply q_then|apply q_then_exit|apply q_then_ret|apply q_block|apply q_block_ret|apply q_block_hit|apply q_ret|apply q_end|apply q_loop_exit|apply q_loop_ret|apply q_loopT_exit|apply q_loopT_ret|apply RW.nil)|((with_reducible apply s3); exact rfl; exact by_k)|((with_reducible apply s2); exact rfl; exact by_k)|((with_reducible apply s4); exact rfl)|((with_reducible apply s5); (first|exact a_call c2 rfl by_sub|((with_reducible apply a_nilpd); (iterate 2 exact rfl))|exact by_oa); exact by_g)|((with_reducible apply CW.cond_t); exact rfl; exact by_ks)|((with_reducible apply CW.cond_f); exact rfl; exact by_ks)|((with_reducible apply q_block_miss); exact rfl)|(refine And.intro (show chk [] [] _ _ = true by kernel_rfl) ?_))
            exact .one (.tmp rfl (.one (.d (.refl _))))

theorem ok_dkeys (l : List Str) (hl : l.length ≤ 268435456) (hk : ∀ s ∈ l, s.length ≤ 1073741824) : FnOk Tryd.prog 30 [.d (encStrs l)] (.one (dint (keysWrong l))) := by
  refine fnOk_of tbl_ok mixed_ok Tryd.func30 rfl (by kernel_rfl) rfl rfl fun w0 own0 => ?_
  unfold keysWrong
  by_cases h4 : 5 < l.length
  · rw [if_pos h4]
    repeat (first|((with_reducible apply s1); exact rfl)|(with_reducible first|apply CW.seq|apply CW.block|apply CW.region|apply CW.draw|apply CW.skip|apply CW.exit|apply CW.ret|apply q_then|apply q_then_exit|apply q_then_ret|apply q_block|apply q_block_ret|apply q_block_hit|apply q_ret|apply q_end|apply q_loop_exit|apply q_loop_ret|apply q_loopT_exit|apply q_loopT_ret|apply RW.nil)|((with_reducible apply s3); exact rfl; exact by_k)|((with_reducible apply s2); exact rfl; exact by_k)|((with_reducible apply s4); exact rfl)|((with_reducible apply s5); exact by_oa; exact by_g)|((with_reducible apply CW.cond_t); exact rfl; exact by_ks)|((with_reducible apply CW.cond_f); exact rfl; exact by_ks)|((with_reducible apply q_block_miss); exact rfl)|(refine And.intro (show chk [] [] _ _ = true by kernel_rfl) ?_))
    exact .one (.tmp rfl (.one (.d (.refl _))))
  · rw [if_neg h4]
    repeat (first|((with_reducible apply s1); exact rfl)|(with_reducible first|apply CW.seq|apply CW.block|apply CW.region|apply CW.draw|apply CW.skip|apply CW.exit|apply CW.ret|apply q_then|apply q_then_exit|apply q_then_ret|apply q_block|apply q_block_ret|apply q_block_hit|apply q_ret|apply q_end|apply q_loop_exit|apply q_loop_ret|apply q_loopT_exit|apply q_loopT_ret|apply RW.nil)|((with_reducible apply s3); exact rfl; exact by_k)|((with_reducible apply s2); exact rfl; exact by_k)|((with_reducible apply s4); exact rfl)|((with_reducible apply s5); exact by_oa; exact by_g)|((with_reducible apply CW.cond_t); exact rfl; exact by_ks)|((with_reducible apply CW.cond_f); exact rfl; exact by_ks)|((with_reducible apply q_block_miss); exact rfl)|(refine And.intro (show chk [] [] _ _ = true by kernel_rfl) ?_))
    refine CW.loopT (fun t : Nat => [sd 0 (encStrs l), sd 2 (dint 0), sd 8 (encStrs l), sd 9 (dint l.length), sd 10 (dint t), nxt 0])
      (fun t => t ≤ l.length ∧ keysGo l t (l.drop t) = keysGo l 0 l) (fun t => l.length - t) 0 ⟨by omega, rfl⟩ ?_ ?_
    ·
      exact by_less
    · rintro i ⟨hi, hJ⟩
      rcases drop_case hi with ⟨h5, h6⟩ | ⟨k, h5, h6, h7⟩
      · rw [h5, keysGo] at hJ
        repeat (first|((with_reducible apply s1); exact rfl)|(with_reducible first|apply CW.seq|apply CW.block|apply CW.region|apply CW.draw|apply CW.skip|apply CW.exit|apply CW.ret|apply q_then|apply q_then_exit|apply q_then_ret|apply q_block|apply q_block_ret|apply q_block_hit|apply q_ret|apply q_end|apply q_loop_exit|apply q_loop_ret|apply q_loopT_exit|apply q_loopT_ret|apply RW.nil)|((with_reducible apply s3); exact rfl; exact by_k)|((with_reducible apply s2); exact rfl; exact by_k)|((with_reducible apply s4); exact rfl)|((with_reducible apply s5); exact by_oa; exact by_g)|((with_reducible apply CW.cond_t); exact rfl; exact by_ks)|((with_reducible apply CW.cond_f); exact rfl; exact by_ks)|((with_reducible apply q_block_miss); exact rfl)|(refine And.intro (show chk [] [] _ _ = true by kernel_rfl) ?_))
        rw [← hJ]
        exact .one (.tmp rfl (.one (.d (.refl _))))
      · rw [h5, keysGo] at hJ
        have hck := ok_pkey k (hk k (List.mem_of_getElem? h6))
        have hin : FnOk Tryd.prog 43 [.d (.sl 1 ((l.map encStr1).take i)), .d (dstr k)] (.one (dbool (isIn (l.take i) k))) := by
          rw [← List.map_take]
          exact ok_containsS (l.take i) k (by rw [List.length_take]; omega)
        cases h8 : key k with
        | false =>
          rw [h8] at hck
          rw [if_pos h8] at hJ
          repeat (first|((with_reducible apply s1); exact rfl)|(with_reducible first|apply CW.seq|apply CW.block|apply CW.region|apply CW.draw|apply CW.skip|apply CW.exit|apply CW.ret|apply q_then|apply q_then_exit|apply q_then_ret|apply q_block|apply q_block_ret|apply q_block_hit|apply q_ret|apply q_end|apply q_loop_exit|apply q_loop_ret|apply q_loopT_exit|apply q_loopT_ret|apply RW.nil)|((with_reducible apply s3); exact rfl; exact by_k)|((with_reducible apply s2); exact rfl; exact by_k)|((with_reducible apply s4); exact rfl)|((with_reducible apply s5); (first|exact a_call hck rfl by_sub|exact by_oa); exact by_g)|((with_reducible apply CW.cond_t); exact rfl; exact by_ks)|((with_reducible apply CW.cond_f); exact rfl; exact by_ks)|((with_reducible apply q_block_miss); exact rfl)|(refine And.intro (show chk [] [] _ _ = true by kernel_rfl) ?_))
          rw [← hJ]
          exact .one (.tmp rfl (.one (.d (.refl _))))
        | true =>
          rw [h8] at hck
          rw [if_neg (by simp [h8])] at hJ
          cases h9 : isIn (l.take i) k with
          | false =>
            rw [h9] at hin
            rw [if_neg (by simp [h9])] at hJ
            repeat (first|((with_reducible apply s1); exact rfl)|(with_reducible first|apply CW.seq|apply CW.block|apply CW.region|apply CW.draw|apply CW.skip|apply CW.exit|apply CW.ret|apply q_then|apply q_then_exit|apply q_then_ret|apply q_block|apply q_block_ret|apply q_block_hit|apply q_ret|apply q_end|apply q_loop_exit|apply q_loop_ret|apply q_loopT_exit|apply q_loopT_ret|apply RW.nil)|((with_reducible apply s3); exact rfl; exact by_k)|((with_reducible apply s2); exact rfl; exact by_k)|((with_reducible apply s4); exact rfl)|((with_reducible apply s5); (first|exact a_call hck rfl by_sub|exact a_call hin rfl by_sub|exact by_oa); exact by_g)|((with_reducible apply CW.cond_t); exact rfl; exact by_ks)|((with_reducible apply CW.cond_f); exact rfl; exact by_ks)|((with_reducible apply q_block_miss); exact rfl)|(refine And.intro (show chk [] [] _ _ = true by kernel_rfl) ?_))
            refine q_loopT (i + 1) ⟨by omega, hJ⟩ (by omega) ?_
            exact by_less
          | true =>
            rw [h9] at hin
            rw [if_pos h9] at hJ
            repeat (first|((with_reducible apply s1); exact rfl)|(with_reducible first|apply CW.seq|apply CW.block|apply CW.region|apply CW.draw|apply CW.skip|apply CW.exit|apply CW.ret|apply q_then|apply q_then_exit|apply q_then_ret|apply q_block|apply q_block_ret|apply q_block_hit|apply q_ret|apply q_end|apply q_loop_exit|apply q_loop_ret|apply q_loopT_exit|apply q_loopT_ret|apply RW.nil)|((with_reducible apply s3); exact rfl; exact by_k)|((with_reducible apply s2); exact rfl; exact by_k)|((with_reducible apply s4); exact rfl)|((with_reducible apply s5); (first|exact a_call hck rfl by_sub|exact a_call hin rfl by_sub|exact by_oa); exact by_g)|((with_reducible apply CW.cond_t); exact rfl; exact by_ks)|((with_reducible apply CW.cond_f); exact rfl; exact by_ks)|((with_reducible apply q_block_miss); exact rfl)|(refine And.intro (show chk [] [] _ _ = true by kernel_rfl) ?_))
            rw [← hJ]
            exact .one (.tmp rfl (.one (.d (.refl _))))

end Go.Proofs.YtfaaghkgfbhglaaDoor

/-! G21 -/
/-
  Contract of the program's Wrong of deeds.
-/
namespace Go.Proofs.YtfaaghkgfbhglaaDoor
open Go.AX Go.RF

set_option maxRecDepth 100000
set_option maxHeartbeats 8000000

theorem ok_pwrongDeed (d : Deed) (hs : d.Sm) : FnOk Tryd.prog 18 [.d (.agg d.enc)] (.one (dint (wrongDeed d))) := by
  refine fnOk_of tbl_ok mixed_ok Tryd.func18 rfl (by kernel_rfl) rfl rfl fun w0 own0 => ?_
  have hc := hs.c
  repeat (first|((with_reducible apply s5); ((with_reducible apply a_bs ([d.reads, d.writes].map fun l => [encStrs l])); (iterate 9 exact rfl); (repeat (first | exact PartsE.nil | (apply PartsE.cons; exact rfl; exact rfl)))); exact by_g)|((with_reducible apply s1); exact rfl)|(with_reducible first|apply CW.seq|apply CW.block|apply CW.region|apply CW.draw|apply CW.skip|apply CW.exit|apply CW.ret|apply q_then|apply q_then_exit|apply q_then_ret|apply q_block|apply q_block_ret|apply q_block_hit|apply q_ret|apply q_end|apply q_loop_exit|apply q_loop_ret|apply q_loopT_exit|apply q_loopT_ret|apply RW.nil)|((with_reducible apply s3); exact rfl; exact by_k)|((with_reducible apply s2); exact rfl; exact by_k)|((with_reducible apply s4); exact rfl)|((with_reducible apply s5); exact by_oa; exact by_g)|((with_reducible apply CW.cond_t); exact rfl; exact by_ks)|((with_reducible apply CW.cond_f); exact rfl; exact by_ks)|((with_reducible apply q_block_miss); exact rfl)|(refine And.intro (show chk [] [] _ _ = true by kernel_rfl) ?_))
  refine CW.loopT (fun j : Nat => [sp 1 0, ob 0 d.enc, sd 2 (dint 0), sd 13 (.sl 1 ([d.reads, d.writes].map fun l => [encStrs l])), sd 14 (dint 2), sd 15 (dint j), nxt 1])
    (fun j => j ≤ [d.reads, d.writes].length ∧ lsGo ([d.reads, d.writes].drop j) = lsGo [d.reads, d.writes]) (fun j => 2 - j) 0 ⟨by simp, rfl⟩ ?_ ?_
  ·
    exact by_less
  · rintro j ⟨hj, hI⟩
    have hj2 : j ≤ 2 := hj
    rcases drop_case hj with ⟨h1, h2⟩ | ⟨l, h1, h2, h3⟩
    · have h2' : j = 2 := h2
      rw [h1] at hI
      have hI' : lsGo [d.reads, d.writes] = 0 := hI.symm
      unfold wrongDeed
      rw [if_pos hI']
      by_cases h4 : 12 < d.code.length
      · rw [if_pos h4]
        repeat (first|((with_reducible apply s1); exact rfl)|(with_reducible first|apply CW.seq|apply CW.block|apply CW.region|apply CW.draw|apply CW.skip|apply CW.exit|apply CW.ret|apply q_then|apply q_then_exit|apply q_then_ret|apply q_block|apply q_block_ret|apply q_block_hit|apply q_ret|apply q_end|apply q_loop_exit|apply q_loop_ret|apply q_loopT_exit|apply q_loopT_ret|apply RW.nil)|((with_reducible apply s3); exact rfl; exact by_k)|((with_reducible apply s2); exact rfl; exact by_k)|((with_reducible apply s4); exact rfl)|((with_reducible apply s5); exact by_oa; exact by_g)|((with_reducible apply CW.cond_t); exact rfl; exact by_ks)|((with_reducible apply CW.cond_f); exact rfl; exact by_ks)|((with_reducible apply q_block_miss); exact rfl)|(refine And.intro (show chk [] [] _ _ = true by kernel_rfl) ?_))
        exact .one (.tmp rfl (.one (.d (.refl _))))
      · rw [if_neg h4]
        repeat (first|((with_reducible apply s1); exact rfl)|(with_reducible first|apply CW.seq|apply CW.block|apply CW.region|apply CW.draw|apply CW.skip|apply CW.exit|apply CW.ret|apply q_then|apply q_then_exit|apply q_then_ret|apply q_block|apply q_block_ret|apply q_block_hit|apply q_ret|apply q_end|apply q_loop_exit|apply q_loop_ret|apply q_loopT_exit|apply q_loopT_ret|apply RW.nil)|((with_reducible apply s3); exact rfl; exact by_k)|((with_reducible apply s2); exact rfl; exact by_k)|((with_reducible apply s4); exact rfl)|((with_reducible apply s5); exact by_oa; exact by_g)|((with_reducible apply CW.cond_t); exact rfl; exact by_ks)|((with_reducible apply CW.cond_f); exact rfl; exact by_ks)|((with_reducible apply q_block_miss); exact rfl)|(refine And.intro (show chk [] [] _ _ = true by kernel_rfl) ?_))
        refine CW.loopT (fun k : Nat => [sp 1 0, ob 0 d.enc, sd 2 (dint 0), sd 30 (encCode d.code), sd 31 (dint d.code.length), sd 32 (dint k), nxt 1])
          (fun k => k ≤ d.code.length ∧ codeGo d k (d.code.drop k) = codeGo d 0 d.code) (fun k => d.code.length - k) 0 ⟨by omega, rfl⟩ ?_ ?_
        ·
          exact by_less
        · rintro k ⟨hk, hJ⟩
          rcases drop_case hk with ⟨h5, h6⟩ | ⟨i, h5, h6, h7⟩
          · rw [h5, codeGo] at hJ
            repeat (first|((with_reducible apply s1); exact rfl)|(with_reducible first|apply CW.seq|apply CW.block|apply CW.region|apply CW.draw|apply CW.skip|apply CW.exit|apply CW.ret|apply q_then|apply q_then_exit|apply q_then_ret|apply q_block|apply q_block_ret|apply q_block_hit|apply q_ret|apply q_end|apply q_loop_exit|apply q_loop_ret|apply q_loopT_exit|apply q_loopT_ret|apply RW.nil)|((with_reducible apply s3); exact rfl; exact by_k)|((with_reducible apply s2); exact rfl; exact by_k)|((with_reducible apply s4); exact rfl)|((with_reducible apply s5); exact by_oa; exact by_g)|((with_reducible apply CW.cond_t); exact rfl; exact by_ks)|((with_reducible apply CW.cond_f); exact rfl; exact by_ks)|((with_reducible apply q_block_miss); exact rfl)|(refine And.intro (show chk [] [] _ _ = true by kernel_rfl) ?_))
            rw [← hJ]
            exact .one (.tmp rfl (.one (.d (.refl _))))
          · rw [h5, codeGo] at hJ
            have ci : FnOk Tryd.prog 31 [.pd d.enc, .d (.agg i.enc), .d (dint (((d.code.map Ins.enc).length : Int) - 1 - k))] (.one (dint (wrongIns d ((d.code.length : Int) - 1 - k) i))) := by
              rw [List.length_map]; exact ok_instr d i ((d.code.length : Int) - 1 - k) hs.r hs.w
            by_cases h8 : wrongIns d ((d.code.length : Int) - 1 - k) i = 0
            · rw [if_pos h8] at hJ
              rw [h8] at ci
              repeat (first|((with_reducible apply s1); exact rfl)|(with_reducible first|apply CW.seq|apply CW.block|apply CW.region|apply CW.draw|apply CW.skip|apply CW.exit|apply CW.ret|apply q_then|apply q_then_exit|apply q_then_ret|apply q_block|apply q_block_ret|apply q_block_hit|apply q_ret|apply q_end|apply q_loop_exit|apply q_loop_ret|apply q_loopT_exit|apply q_loopT_ret|apply RW.nil)|((with_reducible apply s3); exact rfl; exact by_k)|((with_reducible apply s2); exact rfl; exact by_k)|((with_reducible apply s4); exact rfl)|((with_reducible apply s5); (first|exact a_call ci rfl by_sub|exact by_oa); exact by_g)|((with_reducible apply CW.cond_t); exact rfl; exact by_ks)|((with_reducible apply CW.cond_f); exact rfl; exact by_ks)|((with_reducible apply q_block_miss); exact rfl)|(refine And.intro (show chk [] [] _ _ = true by kernel_rfl) ?_))
              refine q_loopT (k + 1) ⟨by omega, hJ⟩ (by omega) ?_
              exact by_less
            · rw [if_neg h8] at hJ
              repeat (first|((with_reducible apply s1); exact rfl)|(with_reducible first|apply CW.seq|apply CW.block|apply CW.region|apply CW.draw|apply CW.skip|apply CW.exit|apply CW.ret|apply q_then|apply q_then_exit|apply q_then_ret|apply q_block|apply q_block_ret|apply q_block_hit|apply q_ret|apply q_end|apply q_loop_exit|apply q_loop_ret|apply q_loopT_exit|apply q_loopT_ret|apply RW.nil)|((with_reducible apply s3); exact rfl; exact by_k)|((with_reducible apply s2); exact rfl; exact by_k)|((with_reducible apply s4); exact rfl)|((with_reducible apply s5); (first|exact a_call ci rfl by_sub|exact by_oa); exact by_g)|((with_reducible apply CW.cond_t); exact rfl; exact by_ks)|((with_reducible apply CW.cond_f); exact rfl; exact by_ks)|((with_reducible apply q_block_miss); exact rfl)|(refine And.intro (show chk [] [] _ _ = true by kernel_rfl) ?_))
              rw [← hJ]
              exact .one (.tmp rfl (.one (.d (.refl _))))
    · rw [h1, lsGo] at hI
      have h3' : j < 2 := h3
      have hl : l.length ≤ 268435456 ∧ ∀ s ∈ l, s.length ≤ 1073741824 := by
        have := List.mem_of_getElem? h2
        simp at this
        rcases this with rfl | rfl
        · exact ⟨hs.r, hs.rk⟩
        · exact ⟨hs.w, hs.wk⟩
      have ck := ok_dkeys l hl.1 hl.2
      by_cases h8 : keysWrong l = 0
      · rw [if_pos h8] at hI
        rw [h8] at ck
        repeat (first|((with_reducible apply s1); exact rfl)|(with_reducible first|apply CW.seq|apply CW.block|apply CW.region|apply CW.draw|apply CW.skip|apply CW.exit|apply CW.ret|apply q_then|apply q_then_exit|apply q_then_ret|apply q_block|apply q_block_ret|apply q_block_hit|apply q_ret|apply q_end|apply q_loop_exit|apply q_loop_ret|apply q_loopT_exit|apply q_loopT_ret|apply RW.nil)|((with_reducible apply s3); exact rfl; exact by_k)|((with_reducible apply s2); exact rfl; exact by_k)|((with_reducible apply s4); exact rfl)|((with_reducible apply s5); (first|exact a_call ck rfl by_sub|exact by_oa); exact by_g)|((with_reducible apply CW.cond_t); exact rfl; exact by_ks)|((with_reducible apply CW.cond_f); exact rfl; exact by_ks)|((with_reducible apply q_block_miss); exact rfl)|(refine And.intro (show chk [] [] _ _ = true by kernel_rfl) ?_))
        refine q_loopT (j + 1) ⟨by simp; omega, hI⟩ (by omega) ?_
        exact by_less
      · rw [if_neg h8] at hI
        unfold wrongDeed
        rw [if_neg (by rw [← hI]; exact h8)]
        repeat (first|((with_reducible apply s1); exact rfl)|(with_reducible first|apply CW.seq|apply CW.block|apply CW.region|apply CW.draw|apply CW.skip|apply CW.exit|apply CW.ret|apply q_then|apply q_then_exit|apply q_then_ret|apply q_block|apply q_block_ret|apply q_block_hit|apply q_ret|apply q_end|apply q_loop_exit|apply q_loop_ret|apply q_loopT_exit|apply q_loopT_ret|apply RW.nil)|((with_reducible apply s3); exact rfl; exact by_k)|((with_reducible apply s2); exact rfl; exact by_k)|((with_reducible apply s4); exact rfl)|((with_reducible apply s5); (first|exact a_call ck rfl by_sub|exact by_oa); exact by_g)|((with_reducible apply CW.cond_t); exact rfl; exact by_ks)|((with_reducible apply CW.cond_f); exact rfl; exact by_ks)|((with_reducible apply q_block_miss); exact rfl)|(refine And.intro (show chk [] [] _ _ = true by kernel_rfl) ?_))
        rw [← hI]
        exact .one (.tmp rfl (.one (.d (.refl _))))

end Go.Proofs.YtfaaghkgfbhglaaDoor
