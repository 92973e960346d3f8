/-
  Part 4 of what the claim leans on: F10 F12 F14 F18 F9 F15 F3 F16 F19 F20 F21 G4 P1 P2 P4 P5.
-/
import Derived.Test.YtjgbmdonhabmiaaGreatDoorK3
import Derived.Lib.SlTrimSet

/-! F10 -/
/-
  Contract of the references' Clear.
-/
namespace Go.Proofs.YtjgbmdonhabmiaaGreatDoor
open Go.AX Go.RF

set_option maxRecDepth 100000
set_option maxHeartbeats 4000000

theorem ok_clear (l : List Chain) (b : Int) (hl : l.length ≤ 268435456) (hv : ∀ c ∈ l, c.vs.length ≤ 268435456) : FnOk Tryz.prog 42 [.d (encChains l), .d (dint b)] (.one (encChains (clear b l))) := by
  refine fnOk_of tbl_ok mixed_ok Tryz.func42 rfl (by kernel_rfl) rfl rfl fun w0 own0 => ?_
  repeat (first | ((with_reducible apply s1); exact rfl) | (with_reducible first | apply CW.seq | apply CW.block | apply CW.region | apply CW.draw | apply CW.skip | apply CW.exit | apply CW.ret | apply q_then | apply q_then_exit | apply q_then_ret | apply q_block | apply q_block_ret | apply q_block_hit | apply q_ret | apply q_end | apply q_loop_exit | apply q_loop_ret | apply q_loopT_exit | apply q_loopT_ret | apply RW.nil) | ((with_reducible apply s3); exact rfl; exact by_k) | ((with_reducible apply s2); exact rfl; exact by_k) | ((with_reducible apply s4); exact rfl) | ((with_reducible apply s5); (first | exact by_oa); exact by_g) | ((with_reducible apply CW.cond_t); exact rfl; exact by_ks) | ((with_reducible apply CW.cond_f); exact rfl; exact by_ks) | ((with_reducible apply q_block_miss); exact rfl) | (refine And.intro (show chk [] [] _ _ = true by kernel_rfl) ?_))
  refine CW.stut (stut_promote (i := 5) 59 2) ⟨rfl, rfl, trivial⟩ ?_
  refine CW.loopT (fun t : Nat × List Chain => [(.s 1, .av (.d (dint b))), (.s 5, .av (.own 0 t.2.length)), (.o 0, .ob (.arr 59 2 (t.2.map Chain.enc))), (.s 12, .av (.d (encChains l))), (.s 13, .av (.d (dint l.length))), (.s 14, .av (.d (dint t.1))), (.nx, .num 1)])
    (fun t => t.1 ≤ l.length ∧ t.2.length ≤ t.1 ∧ t.2 ++ clear b (l.drop t.1) = clear b l) (fun t => l.length - t.1) (0, []) ⟨by omega, by simp, rfl⟩ ?_ ?_
  ·
    exact by_less
  · rintro ⟨i, out⟩ ⟨hi, ho, hI⟩
    dsimp only at hi ho hI ⊢
    rcases drop_case hi with ⟨h1, h2⟩ | ⟨c, h1, h2, h3⟩
    · rw [h1, clear, List.append_nil] at hI
      repeat (first | ((with_reducible apply s1); exact rfl) | (with_reducible first | apply CW.seq | apply CW.block | apply CW.region | apply CW.draw | apply CW.skip | apply CW.exit | apply CW.ret | apply q_then | apply q_then_exit | apply q_then_ret | apply q_block | apply q_block_ret | apply q_block_hit | apply q_ret | apply q_end | apply q_loop_exit | apply q_loop_ret | apply q_loopT_exit | apply q_loopT_ret | apply RW.nil) | ((with_reducible apply s3); exact rfl; exact by_k) | ((with_reducible apply s2); exact rfl; exact by_k) | ((with_reducible apply s4); exact rfl) | ((with_reducible apply s5); (first | exact by_oa); exact by_g) | ((with_reducible apply CW.cond_t); exact rfl; exact by_ks) | ((with_reducible apply CW.cond_f); exact rfl; exact by_ks) | ((with_reducible apply q_block_miss); exact rfl) | (refine And.intro (show chk [] [] _ _ = true by kernel_rfl) ?_))
      rw [← hI]
      exact .one (.tmp rfl (.one (.own rfl (by simp) (.refl _))))
    · rw [h1, clear] at hI
      have hcv := hv c (List.mem_of_getElem? h2)
      repeat (first | ((with_reducible apply s1); exact rfl) | (with_reducible first | apply CW.seq | apply CW.block | apply CW.region | apply CW.draw | apply CW.skip | apply CW.exit | apply CW.ret | apply q_then | apply q_then_exit | apply q_then_ret | apply q_block | apply q_block_ret | apply q_block_hit | apply q_ret | apply q_end | apply q_loop_exit | apply q_loop_ret | apply q_loopT_exit | apply q_loopT_ret | apply RW.nil) | ((with_reducible apply s3); exact rfl; exact by_k) | ((with_reducible apply s2); exact rfl; exact by_k) | ((with_reducible apply s4); exact rfl) | ((with_reducible apply s5); (first | exact by_oa); exact by_g) | ((with_reducible apply CW.cond_t); exact rfl; exact by_ks) | ((with_reducible apply CW.cond_f); exact rfl; exact by_ks) | ((with_reducible apply q_block_miss); exact rfl) | (refine And.intro (show chk [] [] _ _ = true by kernel_rfl) ?_))
      refine CW.stut (stut_promote_cell (id := 2) (j := 1) 56 4 rfl) ⟨rfl, rfl, trivial⟩ ?_
      refine CW.loopT (fun t : Nat × List Version => [(.s 1, .av (.d (dint b))), (.s 5, .av (.own 0 out.length)), (.o 0, .ob (.arr 59 2 (out.map Chain.enc))), (.s 12, .av (.d (encChains l))), (.s 13, .av (.d (dint l.length))), (.s 14, .av (.d (dint i))),
          (.s 7, .av (.ptr 1 0)), (.o 1, .ob (.box (c.enc.map AV.d))), (.s 8, .av (.ptr 2 0)), (.o 2, .ob (.box [.d (dstr c.key), .own 3 t.2.length])), (.o 3, .ob (.arr 56 4 (t.2.map Version.enc))),
          (.s 22, .av (.d (encVs c.vs))), (.s 23, .av (.d (dint c.vs.length))), (.s 24, .av (.d (dint t.1))), (.nx, .num 4)])
        (fun t => t.1 ≤ c.vs.length ∧ t.2.length ≤ t.1 ∧ t.2 ++ clrV b (c.vs.drop t.1) = clrV b c.vs) (fun t => c.vs.length - t.1) (0, []) ⟨by omega, by simp, rfl⟩ ?_ ?_
      ·
        exact by_less
      · rintro ⟨j, vs⟩ ⟨hj, hvs, hJ⟩
        dsimp only at hj hvs hJ ⊢
        rcases drop_case hj with ⟨h5, h6⟩ | ⟨x, h5, h6, h7⟩
        · rw [h5, clrV, List.append_nil] at hJ
          rw [← hJ] at hI
          repeat (first | (with_reducible apply stop_region 13) | ((with_reducible apply s1); exact rfl) | (with_reducible first | apply CW.seq | apply CW.block | apply CW.region | apply CW.draw | apply CW.skip | apply CW.exit | apply CW.ret | apply q_then | apply q_then_exit | apply q_then_ret | apply q_block | apply q_block_ret | apply q_block_hit | apply q_ret | apply q_end | apply q_loop_exit | apply q_loop_ret | apply q_loopT_exit | apply q_loopT_ret | apply RW.nil) | ((with_reducible apply s3); exact rfl; exact by_k) | ((with_reducible apply s2); exact rfl; exact by_k) | ((with_reducible apply s4); exact rfl) | ((with_reducible apply s5); (first | exact by_oa); exact by_g) | ((with_reducible apply CW.cond_t); exact rfl; exact by_ks) | ((with_reducible apply CW.cond_f); exact rfl; exact by_ks) | ((with_reducible apply q_block_miss); exact rfl) | (refine And.intro (show chk [] [] _ _ = true by kernel_rfl) ?_))
          refine Stop.go (CW.stut (stut_freeze_cell (id := 2) (j := 1) (i := 3) rfl (by simp)) ⟨rfl, rfl, trivial⟩ ?_)
          cases vs with
          | nil =>
            rw [if_pos rfl] at hI
            repeat (first | ((with_reducible apply s1); exact rfl) | (with_reducible first | apply CW.seq | apply CW.block | apply CW.region | apply CW.draw | apply CW.skip | apply CW.exit | apply CW.ret | apply q_then | apply q_then_exit | apply q_then_ret | apply q_block | apply q_block_ret | apply q_block_hit | apply q_ret | apply q_end | apply q_loop_exit | apply q_loop_ret | apply q_loopT_exit | apply q_loopT_ret | apply RW.nil) | ((with_reducible apply s3); exact rfl; exact by_k) | ((with_reducible apply s2); exact rfl; exact by_k) | ((with_reducible apply s4); exact rfl) | ((with_reducible apply s5); (first | exact by_oa); exact by_g) | ((with_reducible apply CW.cond_t); exact rfl; exact by_ks) | ((with_reducible apply CW.cond_f); exact rfl; exact by_ks) | ((with_reducible apply q_block_miss); exact rfl) | (refine And.intro (show chk [] [] _ _ = true by kernel_rfl) ?_))
            refine q_loopT (i + 1, out) ⟨by dsimp only; omega, by dsimp only; omega, hI⟩ (by dsimp only; omega) ?_
            exact by_less
          | cons v0 vs =>
            rw [if_neg (by simp)] at hI
            repeat (first | ((with_reducible apply s1); exact rfl) | (with_reducible first | apply CW.seq | apply CW.block | apply CW.region | apply CW.draw | apply CW.skip | apply CW.exit | apply CW.ret | apply q_then | apply q_then_exit | apply q_then_ret | apply q_block | apply q_block_ret | apply q_block_hit | apply q_ret | apply q_end | apply q_loop_exit | apply q_loop_ret | apply q_loopT_exit | apply q_loopT_ret | apply RW.nil) | ((with_reducible apply s3); exact rfl; exact by_k) | ((with_reducible apply s2); exact rfl; exact by_k) | ((with_reducible apply s4); exact rfl) | ((with_reducible apply s5); (first | exact by_oa); exact by_g) | ((with_reducible apply CW.cond_t); exact rfl; exact by_ks) | ((with_reducible apply CW.cond_f); exact rfl; exact by_ks) | ((with_reducible apply q_block_miss); exact rfl) | (refine And.intro (show chk [] [] _ _ = true by kernel_rfl) ?_))
            refine q_loopT (i + 1, out ++ [⟨c.key, v0 :: vs⟩]) ⟨by dsimp only; omega, by dsimp only; simp; omega, by rw [← hI]; simp⟩ (by dsimp only; omega) ?_
            exact by_less
        · rw [h5, clrV] at hJ
          have hlast : (later b (c.vs.drop (j + 1)) = false ∧ (c.vs.length ≤ j + 1 ∨ ∃ y, c.vs[j + 1]? = some y ∧ j + 1 < c.vs.length ∧ ¬ y.by_ < b)) ∨
              (later b (c.vs.drop (j + 1)) = true ∧ ∃ y, c.vs[j + 1]? = some y ∧ j + 1 < c.vs.length ∧ y.by_ < b) := by
            rcases drop_case (show j + 1 ≤ c.vs.length by omega) with ⟨e1, e2⟩ | ⟨y, e1, e2, e3⟩
            · exact .inl ⟨by rw [e1]; rfl, .inl (by omega)⟩
            · by_cases e4 : y.by_ < b
              · exact .inr ⟨by rw [e1]; simp [later, e4], y, e2, e3, e4⟩
              · exact .inl ⟨by rw [e1]; simp [later, e4], .inr ⟨y, e2, e3, e4⟩⟩
          repeat (first | (with_reducible apply stop_reg 9) | ((with_reducible apply s1); exact rfl) | (with_reducible first | apply CW.seq | apply CW.block | apply CW.region | apply CW.draw | apply CW.skip | apply CW.exit | apply CW.ret | apply q_then | apply q_then_exit | apply q_then_ret | apply q_block | apply q_block_ret | apply q_block_hit | apply q_ret | apply q_end | apply q_loop_exit | apply q_loop_ret | apply q_loopT_exit | apply q_loopT_ret | apply RW.nil) | ((with_reducible apply s3); exact rfl; exact by_k) | ((with_reducible apply s2); exact rfl; exact by_k) | ((with_reducible apply s4); exact rfl) | ((with_reducible apply s5); (first | exact by_oa); exact by_g) | ((with_reducible apply CW.cond_t); exact rfl; exact by_ks) | ((with_reducible apply CW.cond_f); exact rfl; exact by_ks) | ((with_reducible apply q_block_miss); exact rfl) | (refine And.intro (show chk [] [] _ _ = true by kernel_rfl) ?_))
          refine Stop.cutk [(.s 11, .av (.d (dbool (later b (c.vs.drop (j + 1))))))] [.s 1, .s 5, .o 0, .s 12, .s 13, .s 14, .s 7, .o 1, .s 8, .o 2, .o 3, .s 22, .s 23, .s 24, .s 10, .o 4, .nx] ?_ ?_
          · rcases hlast with ⟨e0, e1 | ⟨y, e1, e2, e3⟩⟩ | ⟨e0, y, e1, e2, e3⟩
            · rw [e0]
              repeat (first | ((with_reducible apply s1); exact rfl) | (with_reducible first | apply CW.seq | apply CW.block | apply CW.region | apply CW.draw | apply CW.skip | apply CW.exit | apply CW.ret | apply q_then | apply q_then_exit | apply q_then_ret | apply q_block | apply q_block_ret | apply q_block_hit | apply q_ret | apply q_end | apply q_loop_exit | apply q_loop_ret | apply q_loopT_exit | apply q_loopT_ret | apply RW.nil) | ((with_reducible apply s3); exact rfl; exact by_k) | ((with_reducible apply s2); exact rfl; exact by_k) | ((with_reducible apply s4); exact rfl) | ((with_reducible apply s5); (first | exact by_oa); exact by_g) | ((with_reducible apply CW.cond_t); exact rfl; exact by_ks) | ((with_reducible apply CW.cond_f); exact rfl; exact by_ks) | ((with_reducible apply q_block_miss); exact rfl) | (refine And.intro (show chk [] [] _ _ = true by kernel_rfl) ?_))
              refine q_cut ?_
              exact by_less
            · rw [e0]
              repeat (first | ((with_reducible apply s1); exact rfl) | (with_reducible first | apply CW.seq | apply CW.block | apply CW.region | apply CW.draw | apply CW.skip | apply CW.exit | apply CW.ret | apply q_then | apply q_then_exit | apply q_then_ret | apply q_block | apply q_block_ret | apply q_block_hit | apply q_ret | apply q_end | apply q_loop_exit | apply q_loop_ret | apply q_loopT_exit | apply q_loopT_ret | apply RW.nil) | ((with_reducible apply s3); exact rfl; exact by_k) | ((with_reducible apply s2); exact rfl; exact by_k) | ((with_reducible apply s4); exact rfl) | ((with_reducible apply s5); (first | exact by_oa); exact by_g) | ((with_reducible apply CW.cond_t); exact rfl; exact by_ks) | ((with_reducible apply CW.cond_f); exact rfl; exact by_ks) | ((with_reducible apply q_block_miss); exact rfl) | (refine And.intro (show chk [] [] _ _ = true by kernel_rfl) ?_))
              refine q_cut ?_
              exact by_less
            · rw [e0]
              repeat (first | ((with_reducible apply s1); exact rfl) | (with_reducible first | apply CW.seq | apply CW.block | apply CW.region | apply CW.draw | apply CW.skip | apply CW.exit | apply CW.ret | apply q_then | apply q_then_exit | apply q_then_ret | apply q_block | apply q_block_ret | apply q_block_hit | apply q_ret | apply q_end | apply q_loop_exit | apply q_loop_ret | apply q_loopT_exit | apply q_loopT_ret | apply RW.nil) | ((with_reducible apply s3); exact rfl; exact by_k) | ((with_reducible apply s2); exact rfl; exact by_k) | ((with_reducible apply s4); exact rfl) | ((with_reducible apply s5); (first | exact by_oa); exact by_g) | ((with_reducible apply CW.cond_t); exact rfl; exact by_ks) | ((with_reducible apply CW.cond_f); exact rfl; exact by_ks) | ((with_reducible apply q_block_miss); exact rfl) | (refine And.intro (show chk [] [] _ _ = true by kernel_rfl) ?_))
              refine q_cut ?_
              exact by_less
          generalize hL : later b (c.vs.drop (j + 1)) = L at hJ ⊢
          have hold : old b (c.vs.drop (j + 1)) x = ((L && decide (x.by_ < b)) || (decide (x.by_ < b) && (x.made && !x.has))) := by rw [old, hL]
          clear hlast hL h5
          obtain ⟨xb, xm, xh, xn⟩ := x
          dsimp only at hold
          have hkeep : old b (c.vs.drop (j + 1)) ⟨xb, xm, xh, xn⟩ = false → (vs ++ [⟨xb, xm, xh, xn⟩]) ++ clrV b (c.vs.drop (j + 1)) = clrV b c.vs := fun e => by
            rw [if_neg (by rw [e]; simp)] at hJ
            rw [← hJ]; simp
          have hgone : old b (c.vs.drop (j + 1)) ⟨xb, xm, xh, xn⟩ = true → vs ++ clrV b (c.vs.drop (j + 1)) = clrV b c.vs := fun e => by
            rw [if_pos e] at hJ
            exact hJ
          clear hJ
          by_cases e1 : xb < b
          · cases L
            · cases xm
              ·
                repeat (first | ((with_reducible apply s1); exact rfl) | (with_reducible first | apply CW.seq | apply CW.block | apply CW.region | apply CW.draw | apply CW.skip | apply CW.exit | apply CW.ret | apply q_then | apply q_then_exit | apply q_then_ret | apply q_block | apply q_block_ret | apply q_block_hit | apply q_ret | apply q_end | apply q_loop_exit | apply q_loop_ret | apply q_loopT_exit | apply q_loopT_ret | apply RW.nil) | ((with_reducible apply s3); exact rfl; exact by_k) | ((with_reducible apply s2); exact rfl; exact by_k) | ((with_reducible apply s4); exact rfl) | ((with_reducible apply s5); (first | exact by_oa); exact by_g) | ((with_reducible apply CW.cond_t); exact rfl; exact by_ks) | ((with_reducible apply CW.cond_f); exact rfl; exact by_ks) | ((with_reducible apply q_block_miss); exact rfl) | (refine And.intro (show chk [] [] _ _ = true by kernel_rfl) ?_))
                refine q_loopT (j + 1, vs ++ [⟨xb, false, xh, xn⟩]) ⟨by dsimp only; omega, by dsimp only; simp; omega, hkeep (by simp [hold])⟩ (by dsimp only; omega) ?_
                exact by_less
              · cases xh
                ·
                  repeat (first | ((with_reducible apply s1); exact rfl) | (with_reducible first | apply CW.seq | apply CW.block | apply CW.region | apply CW.draw | apply CW.skip | apply CW.exit | apply CW.ret | apply q_then | apply q_then_exit | apply q_then_ret | apply q_block | apply q_block_ret | apply q_block_hit | apply q_ret | apply q_end | apply q_loop_exit | apply q_loop_ret | apply q_loopT_exit | apply q_loopT_ret | apply RW.nil) | ((with_reducible apply s3); exact rfl; exact by_k) | ((with_reducible apply s2); exact rfl; exact by_k) | ((with_reducible apply s4); exact rfl) | ((with_reducible apply s5); (first | exact by_oa); exact by_g) | ((with_reducible apply CW.cond_t); exact rfl; exact by_ks) | ((with_reducible apply CW.cond_f); exact rfl; exact by_ks) | ((with_reducible apply q_block_miss); exact rfl) | (refine And.intro (show chk [] [] _ _ = true by kernel_rfl) ?_))
                  refine q_loopT (j + 1, vs) ⟨by dsimp only; omega, by dsimp only; omega, hgone (by simp [hold, e1])⟩ (by dsimp only; omega) ?_
                  exact by_less
                ·
                  repeat (first | ((with_reducible apply s1); exact rfl) | (with_reducible first | apply CW.seq | apply CW.block | apply CW.region | apply CW.draw | apply CW.skip | apply CW.exit | apply CW.ret | apply q_then | apply q_then_exit | apply q_then_ret | apply q_block | apply q_block_ret | apply q_block_hit | apply q_ret | apply q_end | apply q_loop_exit | apply q_loop_ret | apply q_loopT_exit | apply q_loopT_ret | apply RW.nil) | ((with_reducible apply s3); exact rfl; exact by_k) | ((with_reducible apply s2); exact rfl; exact by_k) | ((with_reducible apply s4); exact rfl) | ((with_reducible apply s5); (first | exact by_oa); exact by_g) | ((with_reducible apply CW.cond_t); exact rfl; exact by_ks) | ((with_reducible apply CW.cond_f); exact rfl; exact by_ks) | ((with_reducible apply q_block_miss); exact rfl) | (refine And.intro (show chk [] [] _ _ = true by kernel_rfl) ?_))
                  refine q_loopT (j + 1, vs ++ [⟨xb, true, true, xn⟩]) ⟨by dsimp only; omega, by dsimp only; simp; omega, hkeep (by simp [hold])⟩ (by dsimp only; omega) ?_
                  exact by_less
            ·
              repeat (first | ((with_reducible apply s1); exact rfl) | (with_reducible first | apply CW.seq | apply CW.block | apply CW.region | apply CW.draw | apply CW.skip | apply CW.exit | apply CW.ret | apply q_then | apply q_then_exit | apply q_then_ret | apply q_block | apply q_block_ret | apply q_block_hit | apply q_ret | apply q_end | apply q_loop_exit | apply q_loop_ret | apply q_loopT_exit | apply q_loopT_ret | apply RW.nil) | ((with_reducible apply s3); exact rfl; exact by_k) | ((with_reducible apply s2); exact rfl; exact by_k) | ((with_reducible apply s4); exact rfl) | ((with_reducible apply s5); (first | exact by_oa); exact by_g) | ((with_reducible apply CW.cond_t); exact rfl; exact by_ks) | ((with_reducible apply CW.cond_f); exact rfl; exact by_ks) | ((with_reducible apply q_block_miss); exact rfl) | (refine And.intro (show chk [] [] _ _ = true by kernel_rfl) ?_))
              refine q_loopT (j + 1, vs) ⟨by dsimp only; omega, by dsimp only; omega, hgone (by simp [hold, e1])⟩ (by dsimp only; omega) ?_
              exact by_less
          · cases L
            ·
              repeat (first | ((with_reducible apply s1); exact rfl) | (with_reducible first | apply CW.seq | apply CW.block | apply CW.region | apply CW.draw | apply CW.skip | apply CW.exit | apply CW.ret | apply q_then | apply q_then_exit | apply q_then_ret | apply q_block | apply q_block_ret | apply q_block_hit | apply q_ret | apply q_end | apply q_loop_exit | apply q_loop_ret | apply q_loopT_exit | apply q_loopT_ret | apply RW.nil) | ((with_reducible apply s3); exact rfl; exact by_k) | ((with_reducible apply s2); exact rfl; exact by_k) | ((with_reducible apply s4); exact rfl) | ((with_reducible apply s5); (first | exact by_oa); exact by_g) | ((with_reducible apply CW.cond_t); exact rfl; exact by_ks) | ((with_reducible apply CW.cond_f); exact rfl; exact by_ks) | ((with_reducible apply q_block_miss); exact rfl) | (refine And.intro (show chk [] [] _ _ = true by kernel_rfl) ?_))
              refine q_loopT (j + 1, vs ++ [⟨xb, xm, xh, xn⟩]) ⟨by dsimp only; omega, by dsimp only; simp; omega, hkeep (by simp [hold, e1])⟩ (by dsimp only; omega) ?_
              exact by_less
            ·
              repeat (first | ((with_reducible apply s1); exact rfl) | (with_reducible first | apply CW.seq | apply CW.block | apply CW.region | apply CW.draw | apply CW.skip | apply CW.exit | apply CW.ret | apply q_then | apply q_then_exit | apply q_then_ret | apply q_block | apply q_block_ret | apply q_block_hit | apply q_ret | apply q_end | apply q_loop_exit | apply q_loop_ret | apply q_loopT_exit | apply q_loopT_ret | apply RW.nil) | ((with_reducible apply s3); exact rfl; exact by_k) | ((with_reducible apply s2); exact rfl; exact by_k) | ((with_reducible apply s4); exact rfl) | ((with_reducible apply s5); (first | exact by_oa); exact by_g) | ((with_reducible apply CW.cond_t); exact rfl; exact by_ks) | ((with_reducible apply CW.cond_f); exact rfl; exact by_ks) | ((with_reducible apply q_block_miss); exact rfl) | (refine And.intro (show chk [] [] _ _ = true by kernel_rfl) ?_))
              refine q_loopT (j + 1, vs ++ [⟨xb, xm, xh, xn⟩]) ⟨by dsimp only; omega, by dsimp only; simp; omega, hkeep (by simp [hold, e1])⟩ (by dsimp only; omega) ?_
              exact by_less

end Go.Proofs.YtjgbmdonhabmiaaGreatDoor

/-! F12 -/
/-
  Contracts of the references' SameChains.
-/
namespace Go.Proofs.YtjgbmdonhabmiaaGreatDoor
open Go.AX Go.RF

set_option maxRecDepth 100000
set_option maxHeartbeats 4000000

theorem ok_sameChains (l r : List Chain) (hl : l.length ≤ 268435456) (hs : ∀ c ∈ l, c.vs.length ≤ 268435456) : FnOk Tryz.prog 19 [.d (encChains l), .d (encChains r)] (.one (dbool (allB sameC l r))) := by
  refine fnOk_of tbl_ok mixed_ok Tryz.func19 rfl (by kernel_rfl) rfl rfl fun w0 own0 => ?_
  by_cases hlen : l.length = r.length
  ·
    repeat (first | ((with_reducible apply s1); exact rfl) | (with_reducible first | apply CW.seq | apply CW.block | apply CW.region | apply CW.draw | apply CW.skip | apply CW.exit | apply CW.ret | apply q_then | apply q_then_exit | apply q_then_ret | apply q_block | apply q_block_ret | apply q_block_hit | apply q_ret | apply q_end | apply q_loop_exit | apply q_loop_ret | apply q_loopT_exit | apply q_loopT_ret | apply RW.nil) | ((with_reducible apply s3); exact rfl; exact by_k) | ((with_reducible apply s2); exact rfl; exact by_k) | ((with_reducible apply s4); exact rfl) | ((with_reducible apply s5); (first | exact by_oa); exact by_g) | ((with_reducible apply CW.cond_t); exact rfl; exact by_ks) | ((with_reducible apply CW.cond_f); exact rfl; exact by_ks) | ((with_reducible apply q_block_miss); exact rfl) | (refine And.intro (show chk [] [] _ _ = true by kernel_rfl) ?_))
    refine CW.loop (fun k => [sd 0 (encChains l), sd 1 (encChains r), sd 13 (dint l.length), sd 14 (dint k), nxt 0]) (agree sameC l r) ?_ fun k hk => ?_
    ·
      exact by_less
    · rcases agree_case hlen hk with ⟨h1, h1', a, b, h2, h3, h4⟩ | ⟨h1, h2⟩ | ⟨h1, h2, a, b, h3, h4, h5⟩
      · simp only [sameC, Bool.and_eq_true, decide_eq_true_eq] at h4
        obtain ⟨h4, h6⟩ := h4
        have hvl := allB_len h6
        have hav := hs a (List.mem_of_getElem? h2)
        repeat (first | ((with_reducible apply s1); exact rfl) | (with_reducible first | apply CW.seq | apply CW.block | apply CW.region | apply CW.draw | apply CW.skip | apply CW.exit | apply CW.ret | apply q_then | apply q_then_exit | apply q_then_ret | apply q_block | apply q_block_ret | apply q_block_hit | apply q_ret | apply q_end | apply q_loop_exit | apply q_loop_ret | apply q_loopT_exit | apply q_loopT_ret | apply RW.nil) | ((with_reducible apply s3); exact rfl; exact by_k) | ((with_reducible apply s2); exact rfl; exact by_k) | ((with_reducible apply s4); exact rfl) | ((with_reducible apply s5); (first | exact by_oa); exact by_g) | ((with_reducible apply CW.cond_t); exact rfl; exact by_ks) | ((with_reducible apply CW.cond_f); exact rfl; exact by_ks) | ((with_reducible apply q_block_miss); exact rfl) | (refine And.intro (show chk [] [] _ _ = true by kernel_rfl) ?_))
        refine CW.loop (fun j => [sd 0 (encChains l), sd 1 (encChains r), sd 13 (dint l.length), sd 14 (dint k), sd 5 (dint k), sd 48 (dint a.vs.length), sd 49 (dint j), nxt 0]) (agree (fun x y => decide (x = y)) a.vs b.vs) ?_ fun j hj => ?_
        ·
          exact by_less
        · rcases agree_case hvl hj with ⟨g1, g1', x, y, g2, g3, g4⟩ | ⟨g1, g2⟩ | ⟨g1, g2, x, y, g3, g4, g5⟩
          · replace g4 : x = y := by simpa using g4
            repeat (first | ((with_reducible apply s1); exact rfl) | (with_reducible first | apply CW.seq | apply CW.block | apply CW.region | apply CW.draw | apply CW.skip | apply CW.exit | apply CW.ret | apply q_then | apply q_then_exit | apply q_then_ret | apply q_block | apply q_block_ret | apply q_block_hit | apply q_ret | apply q_end | apply q_loop_exit | apply q_loop_ret | apply q_loopT_exit | apply q_loopT_ret | apply RW.nil) | ((with_reducible apply s3); exact rfl; exact by_k) | ((with_reducible apply s2); exact rfl; exact by_k) | ((with_reducible apply s4); exact rfl) | ((with_reducible apply s5); (first | ((with_reducible apply a_agg); exact neq_version x y; (iterate 5 exact rfl)) | exact by_oa); exact by_g) | ((with_reducible apply CW.cond_t); exact rfl; exact by_ks) | ((with_reducible apply CW.cond_f); exact rfl; exact by_ks) | ((with_reducible apply q_block_miss); exact rfl) | (refine And.intro (show chk [] [] _ _ = true by kernel_rfl) ?_))
            refine q_loop g1 ?_
            exact by_less
          ·
            repeat (first | ((with_reducible apply s1); exact rfl) | (with_reducible first | apply CW.seq | apply CW.block | apply CW.region | apply CW.draw | apply CW.skip | apply CW.exit | apply CW.ret | apply q_then | apply q_then_exit | apply q_then_ret | apply q_block | apply q_block_ret | apply q_block_hit | apply q_ret | apply q_end | apply q_loop_exit | apply q_loop_ret | apply q_loopT_exit | apply q_loopT_ret | apply RW.nil) | ((with_reducible apply s3); exact rfl; exact by_k) | ((with_reducible apply s2); exact rfl; exact by_k) | ((with_reducible apply s4); exact rfl) | ((with_reducible apply s5); (first | exact by_oa); exact by_g) | ((with_reducible apply CW.cond_t); exact rfl; exact by_ks) | ((with_reducible apply CW.cond_f); exact rfl; exact by_ks) | ((with_reducible apply q_block_miss); exact rfl) | (refine And.intro (show chk [] [] _ _ = true by kernel_rfl) ?_))
            refine q_loop h1 ?_
            exact by_less
          · rw [g2] at h6; cases h6
      ·
        repeat (first | ((with_reducible apply s1); exact rfl) | (with_reducible first | apply CW.seq | apply CW.block | apply CW.region | apply CW.draw | apply CW.skip | apply CW.exit | apply CW.ret | apply q_then | apply q_then_exit | apply q_then_ret | apply q_block | apply q_block_ret | apply q_block_hit | apply q_ret | apply q_end | apply q_loop_exit | apply q_loop_ret | apply q_loopT_exit | apply q_loopT_ret | apply RW.nil) | ((with_reducible apply s3); exact rfl; exact by_k) | ((with_reducible apply s2); exact rfl; exact by_k) | ((with_reducible apply s4); exact rfl) | ((with_reducible apply s5); (first | exact by_oa); exact by_g) | ((with_reducible apply CW.cond_t); exact rfl; exact by_ks) | ((with_reducible apply CW.cond_f); exact rfl; exact by_ks) | ((with_reducible apply q_block_miss); exact rfl) | (refine And.intro (show chk [] [] _ _ = true by kernel_rfl) ?_))
        exact .one (.tmp rfl (.one (.d (dle_bool h2.symm))))
      · by_cases g1 : a.key = b.key
        · by_cases g2 : a.vs.length = b.vs.length
          · have h6 : allB (fun x y => decide (x = y)) a.vs b.vs = false := by simpa [sameC, g1] using h5
            have hav := hs a (List.mem_of_getElem? h3)
            repeat (first | ((with_reducible apply s1); exact rfl) | (with_reducible first | apply CW.seq | apply CW.block | apply CW.region | apply CW.draw | apply CW.skip | apply CW.exit | apply CW.ret | apply q_then | apply q_then_exit | apply q_then_ret | apply q_block | apply q_block_ret | apply q_block_hit | apply q_ret | apply q_end | apply q_loop_exit | apply q_loop_ret | apply q_loopT_exit | apply q_loopT_ret | apply RW.nil) | ((with_reducible apply s3); exact rfl; exact by_k) | ((with_reducible apply s2); exact rfl; exact by_k) | ((with_reducible apply s4); exact rfl) | ((with_reducible apply s5); (first | exact by_oa); exact by_g) | ((with_reducible apply CW.cond_t); exact rfl; exact by_ks) | ((with_reducible apply CW.cond_f); exact rfl; exact by_ks) | ((with_reducible apply q_block_miss); exact rfl) | (refine And.intro (show chk [] [] _ _ = true by kernel_rfl) ?_))
            refine CW.loop (fun j => [sd 0 (encChains l), sd 1 (encChains r), sd 13 (dint l.length), sd 14 (dint k), sd 5 (dint k), sd 48 (dint a.vs.length), sd 49 (dint j), nxt 0]) (agree (fun x y => decide (x = y)) a.vs b.vs) ?_ fun j hj => ?_
            ·
              exact by_less
            · rcases agree_case g2 hj with ⟨e1, e1', x, y, e2, e3, e4⟩ | ⟨e1, e2⟩ | ⟨e1, e2, x, y, e3, e4, e5⟩
              · replace e4 : x = y := by simpa using e4
                repeat (first | ((with_reducible apply s1); exact rfl) | (with_reducible first | apply CW.seq | apply CW.block | apply CW.region | apply CW.draw | apply CW.skip | apply CW.exit | apply CW.ret | apply q_then | apply q_then_exit | apply q_then_ret | apply q_block | apply q_block_ret | apply q_block_hit | apply q_ret | apply q_end | apply q_loop_exit | apply q_loop_ret | apply q_loopT_exit | apply q_loopT_ret | apply RW.nil) | ((with_reducible apply s3); exact rfl; exact by_k) | ((with_reducible apply s2); exact rfl; exact by_k) | ((with_reducible apply s4); exact rfl) | ((with_reducible apply s5); (first | ((with_reducible apply a_agg); exact neq_version x y; (iterate 5 exact rfl)) | exact by_oa); exact by_g) | ((with_reducible apply CW.cond_t); exact rfl; exact by_ks) | ((with_reducible apply CW.cond_f); exact rfl; exact by_ks) | ((with_reducible apply q_block_miss); exact rfl) | (refine And.intro (show chk [] [] _ _ = true by kernel_rfl) ?_))
                refine q_loop e1 ?_
                exact by_less
              · rw [h6] at e2; cases e2
              · replace e5 : ¬ x = y := by simpa using e5
                repeat (first | ((with_reducible apply s1); exact rfl) | (with_reducible first | apply CW.seq | apply CW.block | apply CW.region | apply CW.draw | apply CW.skip | apply CW.exit | apply CW.ret | apply q_then | apply q_then_exit | apply q_then_ret | apply q_block | apply q_block_ret | apply q_block_hit | apply q_ret | apply q_end | apply q_loop_exit | apply q_loop_ret | apply q_loopT_exit | apply q_loopT_ret | apply RW.nil) | ((with_reducible apply s3); exact rfl; exact by_k) | ((with_reducible apply s2); exact rfl; exact by_k) | ((with_reducible apply s4); exact rfl) | ((with_reducible apply s5); (first | ((with_reducible apply a_agg); exact neq_version x y; (iterate 5 exact rfl)) | exact by_oa); exact by_g) | ((with_reducible apply CW.cond_t); exact rfl; exact by_ks) | ((with_reducible apply CW.cond_f); exact rfl; exact by_ks) | ((with_reducible apply q_block_miss); exact rfl) | (refine And.intro (show chk [] [] _ _ = true by kernel_rfl) ?_))
                exact .one (.tmp rfl (.one (.d (dle_bool h2.symm))))
          ·
            repeat (first | ((with_reducible apply s1); exact rfl) | (with_reducible first | apply CW.seq | apply CW.block | apply CW.region | apply CW.draw | apply CW.skip | apply CW.exit | apply CW.ret | apply q_then | apply q_then_exit | apply q_then_ret | apply q_block | apply q_block_ret | apply q_block_hit | apply q_ret | apply q_end | apply q_loop_exit | apply q_loop_ret | apply q_loopT_exit | apply q_loopT_ret | apply RW.nil) | ((with_reducible apply s3); exact rfl; exact by_k) | ((with_reducible apply s2); exact rfl; exact by_k) | ((with_reducible apply s4); exact rfl) | ((with_reducible apply s5); (first | exact by_oa); exact by_g) | ((with_reducible apply CW.cond_t); exact rfl; exact by_ks) | ((with_reducible apply CW.cond_f); exact rfl; exact by_ks) | ((with_reducible apply q_block_miss); exact rfl) | (refine And.intro (show chk [] [] _ _ = true by kernel_rfl) ?_))
            exact .one (.tmp rfl (.one (.d (dle_bool h2.symm))))
        ·
          repeat (first | ((with_reducible apply s1); exact rfl) | (with_reducible first | apply CW.seq | apply CW.block | apply CW.region | apply CW.draw | apply CW.skip | apply CW.exit | apply CW.ret | apply q_then | apply q_then_exit | apply q_then_ret | apply q_block | apply q_block_ret | apply q_block_hit | apply q_ret | apply q_end | apply q_loop_exit | apply q_loop_ret | apply q_loopT_exit | apply q_loopT_ret | apply RW.nil) | ((with_reducible apply s3); exact rfl; exact by_k) | ((with_reducible apply s2); exact rfl; exact by_k) | ((with_reducible apply s4); exact rfl) | ((with_reducible apply s5); (first | exact by_oa); exact by_g) | ((with_reducible apply CW.cond_t); exact rfl; exact by_ks) | ((with_reducible apply CW.cond_f); exact rfl; exact by_ks) | ((with_reducible apply q_block_miss); exact rfl) | (refine And.intro (show chk [] [] _ _ = true by kernel_rfl) ?_))
          exact .one (.tmp rfl (.one (.d (dle_bool h2.symm))))
  ·
    repeat (first | ((with_reducible apply s1); exact rfl) | (with_reducible first | apply CW.seq | apply CW.block | apply CW.region | apply CW.draw | apply CW.skip | apply CW.exit | apply CW.ret | apply q_then | apply q_then_exit | apply q_then_ret | apply q_block | apply q_block_ret | apply q_block_hit | apply q_ret | apply q_end | apply q_loop_exit | apply q_loop_ret | apply q_loopT_exit | apply q_loopT_ret | apply RW.nil) | ((with_reducible apply s3); exact rfl; exact by_k) | ((with_reducible apply s2); exact rfl; exact by_k) | ((with_reducible apply s4); exact rfl) | ((with_reducible apply s5); (first | exact by_oa); exact by_g) | ((with_reducible apply CW.cond_t); exact rfl; exact by_ks) | ((with_reducible apply CW.cond_f); exact rfl; exact by_ks) | ((with_reducible apply q_block_miss); exact rfl) | (refine And.intro (show chk [] [] _ _ = true by kernel_rfl) ?_))
    refine .one (.tmp rfl (.one (.d (dle_bool ?_))))
    cases hb : allB sameC l r
    · rfl
    · exact absurd (allB_len hb) hlen

end Go.Proofs.YtjgbmdonhabmiaaGreatDoor

/-! F14 -/
/-
  Contracts of the references' New, Mark, Clear, Seen, SameEngine of engines.
-/
namespace Go.Proofs.YtjgbmdonhabmiaaGreatDoor
open Go.AX Go.RF

set_option maxRecDepth 100000
set_option maxHeartbeats 4000000

theorem ok_new (l : List Pair) (hl : l.length ≤ 134217728) : FnOk Tryz.prog 7 [.d (encRows l)] (.one (.agg (newE l).enc)) := by
  refine fnOk_of tbl_ok mixed_ok Tryz.func7 rfl (by kernel_rfl) rfl rfl fun w0 own0 => ?_
  repeat (first | ((with_reducible apply s1); exact rfl) | (with_reducible first | apply CW.seq | apply CW.block | apply CW.region | apply CW.draw | apply CW.skip | apply CW.exit | apply CW.ret | apply q_then | apply q_then_exit | apply q_then_ret | apply q_block | apply q_block_ret | apply q_block_hit | apply q_ret | apply q_end | apply q_loop_exit | apply q_loop_ret | apply q_loopT_exit | apply q_loopT_ret | apply RW.nil) | ((with_reducible apply s3); exact rfl; exact by_k) | ((with_reducible apply s2); exact rfl; exact by_k) | ((with_reducible apply s4); exact rfl) | ((with_reducible apply s5); (first | exact by_oa); exact by_g) | ((with_reducible apply CW.cond_t); exact rfl; exact by_ks) | ((with_reducible apply CW.cond_f); exact rfl; exact by_ks) | ((with_reducible apply q_block_miss); exact rfl) | (refine And.intro (show chk [] [] _ _ = true by kernel_rfl) ?_))
  refine CW.stut (stut_promote_cell (id := 1) (j := 0) 59 2 rfl) ⟨rfl, rfl, trivial⟩ ?_
  refine CW.loopT (fun i : Nat => [sd 7 (encRows l), sd 8 (dint l.length), sd 9 (dint i), sp 2 0, ob 0 noE.enc0, sp 3 1, (.o 1, .ob (.box [.own 2 i, .d (.v nilS), .d (.v nilS), .d (.v nilS), .d (dint 0)])),
      oa 2 59 2 ((l.take i).map fun p => (rowChain p).enc), nxt 3]) (fun i => i ≤ l.length) (fun i => l.length - i) 0 (by omega) ?_ ?_
  ·
    exact by_less
  · rintro i hi
    rcases drop_case hi with ⟨h1, h2⟩ | ⟨p, h1, h2, h3⟩
    · have h4 : (l.take i).map (fun p => (rowChain p).enc) = (l.map rowChain).map Chain.enc := by rw [h2, List.take_length]; simp
      repeat (first | (with_reducible apply stop_reg 7) | ((with_reducible apply s1); exact rfl) | (with_reducible first | apply CW.seq | apply CW.block | apply CW.region | apply CW.draw | apply CW.skip | apply CW.exit | apply CW.ret | apply q_then | apply q_then_exit | apply q_then_ret | apply q_block | apply q_block_ret | apply q_block_hit | apply q_ret | apply q_end | apply q_loop_exit | apply q_loop_ret | apply q_loopT_exit | apply q_loopT_ret | apply RW.nil) | ((with_reducible apply s3); exact rfl; exact by_k) | ((with_reducible apply s2); exact rfl; exact by_k) | ((with_reducible apply s4); exact rfl) | ((with_reducible apply s5); (first | exact by_oa); exact by_g) | ((with_reducible apply CW.cond_t); exact rfl; exact by_ks) | ((with_reducible apply CW.cond_f); exact rfl; exact by_ks) | ((with_reducible apply q_block_miss); exact rfl) | (refine And.intro (show chk [] [] _ _ = true by kernel_rfl) ?_))
      refine Stop.go (CW.stut (stut_freeze_cell (id := 1) (j := 0) (i := 2) rfl (by simp; omega)) ⟨rfl, rfl, trivial⟩ ?_)
      repeat (first | ((with_reducible apply s1); exact rfl) | (with_reducible first | apply CW.seq | apply CW.block | apply CW.region | apply CW.draw | apply CW.skip | apply CW.exit | apply CW.ret | apply q_then | apply q_then_exit | apply q_then_ret | apply q_block | apply q_block_ret | apply q_block_hit | apply q_ret | apply q_end | apply q_loop_exit | apply q_loop_ret | apply q_loopT_exit | apply q_loopT_ret | apply RW.nil) | ((with_reducible apply s3); exact rfl; exact by_k) | ((with_reducible apply s2); exact rfl; exact by_k) | ((with_reducible apply s4); exact rfl) | ((with_reducible apply s5); (first | exact by_oa); exact by_g) | ((with_reducible apply CW.cond_t); exact rfl; exact by_ks) | ((with_reducible apply CW.cond_f); exact rfl; exact by_ks) | ((with_reducible apply q_block_miss); exact rfl) | (refine And.intro (show chk [] [] _ _ = true by kernel_rfl) ?_))
      exact .one (.cell rfl rfl rfl rfl (.aggd (ds := [.sl 2 ((l.take i).map fun p => (rowChain p).enc), .v nilS, .v nilS, .v nilS, dint 0]) rfl
        (DLes.agg (.cons (dle_eq (by rw [h4]; rfl)) (.cons (dle_nil 3) (.cons (dle_nil 1) (.cons (dle_nil 5) (.cons (.refl _) .nil))))))))
    · have h4 : (l.take i).map (fun p => (rowChain p).enc) ++ [(rowChain p).enc] = (l.take (i + 1)).map fun p => (rowChain p).enc := by rw [List.take_add_one, h2]; simp
      repeat (first | ((with_reducible apply s1); exact rfl) | (with_reducible first | apply CW.seq | apply CW.block | apply CW.region | apply CW.draw | apply CW.skip | apply CW.exit | apply CW.ret | apply q_then | apply q_then_exit | apply q_then_ret | apply q_block | apply q_block_ret | apply q_block_hit | apply q_ret | apply q_end | apply q_loop_exit | apply q_loop_ret | apply q_loopT_exit | apply q_loopT_ret | apply RW.nil) | ((with_reducible apply s3); exact rfl; exact by_k) | ((with_reducible apply s2); exact rfl; exact by_k) | ((with_reducible apply s4); exact rfl) | ((with_reducible apply s5); (first | exact by_oa); exact by_g) | ((with_reducible apply CW.cond_t); exact rfl; exact by_ks) | ((with_reducible apply CW.cond_f); exact rfl; exact by_ks) | ((with_reducible apply q_block_miss); exact rfl) | (refine And.intro (show chk [] [] _ _ = true by kernel_rfl) ?_))
      refine q_loopT (i + 1) (by omega) (by omega) ?_
      exact by_less

theorem ok_mark (e : Engine) (hs : e.state.length ≤ 134217728) : FnOk Tryz.prog 41 [.d (.agg e.enc)] (.one (dint (markN e.state))) := by
  refine fnOk_of tbl_ok mixed_ok Tryz.func41 rfl (by kernel_rfl) rfl rfl fun w0 own0 => ?_
  repeat (first | ((with_reducible apply s1); exact rfl) | (with_reducible first | apply CW.seq | apply CW.block | apply CW.region | apply CW.draw | apply CW.skip | apply CW.exit | apply CW.ret | apply q_then | apply q_then_exit | apply q_then_ret | apply q_block | apply q_block_ret | apply q_block_hit | apply q_ret | apply q_end | apply q_loop_exit | apply q_loop_ret | apply q_loopT_exit | apply q_loopT_ret | apply RW.nil) | ((with_reducible apply s3); exact rfl; exact by_k) | ((with_reducible apply s2); exact rfl; exact by_k) | ((with_reducible apply s4); exact rfl) | ((with_reducible apply s5); (first | exact by_oa); exact by_g) | ((with_reducible apply CW.cond_t); exact rfl; exact by_ks) | ((with_reducible apply CW.cond_f); exact rfl; exact by_ks) | ((with_reducible apply q_block_miss); exact rfl) | (refine And.intro (show chk [] [] _ _ = true by kernel_rfl) ?_))
  refine CW.loopT (fun i : Nat => [sp 1 0, ob 0 e.enc, sd 3 (dint i), nxt 1]) (fun i => i ≤ e.state.length ∧ i + markN (e.state.drop i) = markN e.state) (fun i => e.state.length - i) 0 ⟨by omega, by simp⟩ ?_ ?_
  ·
    exact by_less
  · rintro i ⟨hi, hI⟩
    rcases drop_case hi with ⟨h1, h2⟩ | ⟨s, h1, h2, h3⟩
    · rw [h1] at hI
      simp only [markN] at hI
      repeat (first | ((with_reducible apply s1); exact rfl) | (with_reducible first | apply CW.seq | apply CW.block | apply CW.region | apply CW.draw | apply CW.skip | apply CW.exit | apply CW.ret | apply q_then | apply q_then_exit | apply q_then_ret | apply q_block | apply q_block_ret | apply q_block_hit | apply q_ret | apply q_end | apply q_loop_exit | apply q_loop_ret | apply q_loopT_exit | apply q_loopT_ret | apply RW.nil) | ((with_reducible apply s3); exact rfl; exact by_k) | ((with_reducible apply s2); exact rfl; exact by_k) | ((with_reducible apply s4); exact rfl) | ((with_reducible apply s5); (first | exact by_oa); exact by_g) | ((with_reducible apply CW.cond_t); exact rfl; exact by_ks) | ((with_reducible apply CW.cond_f); exact rfl; exact by_ks) | ((with_reducible apply q_block_miss); exact rfl) | (refine And.intro (show chk [] [] _ _ = true by kernel_rfl) ?_))
      exact .one (.tmp rfl (.one (.d (dle_int (by omega)))))
    · rw [h1] at hI
      simp only [markN] at hI
      by_cases h4 : s = 1
      · rw [if_pos h4] at hI
        repeat (first | ((with_reducible apply s1); exact rfl) | (with_reducible first | apply CW.seq | apply CW.block | apply CW.region | apply CW.draw | apply CW.skip | apply CW.exit | apply CW.ret | apply q_then | apply q_then_exit | apply q_then_ret | apply q_block | apply q_block_ret | apply q_block_hit | apply q_ret | apply q_end | apply q_loop_exit | apply q_loop_ret | apply q_loopT_exit | apply q_loopT_ret | apply RW.nil) | ((with_reducible apply s3); exact rfl; exact by_k) | ((with_reducible apply s2); exact rfl; exact by_k) | ((with_reducible apply s4); exact rfl) | ((with_reducible apply s5); (first | exact by_oa); exact by_g) | ((with_reducible apply CW.cond_t); exact rfl; exact by_ks) | ((with_reducible apply CW.cond_f); exact rfl; exact by_ks) | ((with_reducible apply q_block_miss); exact rfl) | (refine And.intro (show chk [] [] _ _ = true by kernel_rfl) ?_))
        refine q_loopT (i + 1) ⟨by omega, by omega⟩ (by omega) ?_
        exact by_less
      · rw [if_neg h4] at hI
        repeat (first | ((with_reducible apply s1); exact rfl) | (with_reducible first | apply CW.seq | apply CW.block | apply CW.region | apply CW.draw | apply CW.skip | apply CW.exit | apply CW.ret | apply q_then | apply q_then_exit | apply q_then_ret | apply q_block | apply q_block_ret | apply q_block_hit | apply q_ret | apply q_end | apply q_loop_exit | apply q_loop_ret | apply q_loopT_exit | apply q_loopT_ret | apply RW.nil) | ((with_reducible apply s3); exact rfl; exact by_k) | ((with_reducible apply s2); exact rfl; exact by_k) | ((with_reducible apply s4); exact rfl) | ((with_reducible apply s5); (first | exact by_oa); exact by_g) | ((with_reducible apply CW.cond_t); exact rfl; exact by_ks) | ((with_reducible apply CW.cond_f); exact rfl; exact by_ks) | ((with_reducible apply q_block_miss); exact rfl) | (refine And.intro (show chk [] [] _ _ = true by kernel_rfl) ?_))
        exact .one (.tmp rfl (.one (.d (dle_int (by omega)))))

theorem markN_le : ∀ l : List Int, markN l ≤ l.length
  | [] => by simp [markN]
  | s :: r => by
    have := markN_le r
    simp only [markN]
    split <;> simp <;> omega

theorem ok_clearE (e : Engine) (hs : e.Sm) (h1 : e.state.length = e.deeds.length) (h2 : e.ends.length = e.deeds.length) : FnOk Tryz.prog 24 [.d (.agg e.enc)] (.one (.agg (clearE e).enc)) := by
  refine fnOk_of tbl_ok mixed_ok Tryz.func24 rfl (by kernel_rfl) rfl rfl fun w0 own0 => ?_
  have hm := ok_mark e hs.s
  have hml := markN_le e.state
  have hd := hs.d
  have hb := hs.b
  have hc := ok_clear e.chains (e.base + markN e.state) (by have := hs.c; omega) (fun c h => by have := hs.v c h; omega)
  repeat (first | ((with_reducible apply s1); exact rfl) | (with_reducible first | apply CW.seq | apply CW.block | apply CW.region | apply CW.draw | apply CW.skip | apply CW.exit | apply CW.ret | apply q_then | apply q_then_exit | apply q_then_ret | apply q_block | apply q_block_ret | apply q_block_hit | apply q_ret | apply q_end | apply q_loop_exit | apply q_loop_ret | apply q_loopT_exit | apply q_loopT_ret | apply RW.nil) | ((with_reducible apply s3); exact rfl; exact by_k) | ((with_reducible apply s2); exact rfl; exact by_k) | ((with_reducible apply s4); exact rfl) | ((with_reducible apply s5); (first | (focus ((with_reducible apply a_call); exact hm; exact rfl; (repeat (first | exact SubsE.nil | (apply SubsE.cons; exact rfl; (first | exact .d (.refl _) | exact .d (.nil _) | exact .agg rfl (.refl _) | exact .pd | exact .ptr rfl); (first | exact trivial | exact ⟨rfl, trivial⟩)))); done)) | (focus ((with_reducible apply a_call); exact hc; exact rfl; (repeat (first | exact SubsE.nil | (apply SubsE.cons; exact rfl; (first | exact .d (.refl _) | exact .d (.nil _) | exact .agg rfl (.refl _) | exact .pd | exact .ptr rfl); (first | exact trivial | exact ⟨rfl, trivial⟩)))); done)) | exact by_oa); exact by_g) | ((with_reducible apply CW.cond_t); exact rfl; exact by_ks) | ((with_reducible apply CW.cond_f); exact rfl; exact by_ks) | ((with_reducible apply q_block_miss); exact rfl) | (refine And.intro (show chk [] [] _ _ = true by kernel_rfl) ?_))
  exact .one (.cell rfl rfl rfl rfl (.aggd (ds := [encChains (clear (e.base + markN e.state) e.chains), .sl 3 ((e.deeds.map Deed.enc).drop (markN e.state)), .sl 1 ((e.state.map encInt1).drop (markN e.state)), .sl 5 ((e.ends.map Done.enc).drop (markN e.state)), dint (e.base + markN e.state)]) rfl
    (dle_eq (by simp [clearE, Engine.enc, encDeeds, encInts, encEnds]))))

theorem ok_sameE (a b : Engine) (hs : a.Sm) : FnOk Tryz.prog 5 [.d (.agg a.enc), .d (.agg b.enc)] (.one (dbool (sameE a b))) := by
  refine fnOk_of tbl_ok mixed_ok Tryz.func5 rfl (by kernel_rfl) rfl rfl fun w0 own0 => ?_
  have c1 := ok_sameChains a.chains b.chains (by have := hs.c; omega) (fun c h => by have := hs.v c h; omega)
  have c2 := ok_sameDeeds a.deeds b.deeds (by have := hs.d; omega) hs.dd
  have c3 := ok_SameInts a.state b.state (by have := hs.s; omega)
  have c4 := ok_sameEnds a.ends b.ends (by have := hs.n; omega)
  unfold sameE
  cases h1 : allB sameC a.chains b.chains
  · rw [h1] at c1
    repeat (first | ((with_reducible apply s1); exact rfl) | (with_reducible first | apply CW.seq | apply CW.block | apply CW.region | apply CW.draw | apply CW.skip | apply CW.exit | apply CW.ret | apply q_then | apply q_then_exit | apply q_then_ret | apply q_block | apply q_block_ret | apply q_block_hit | apply q_ret | apply q_end | apply q_loop_exit | apply q_loop_ret | apply q_loopT_exit | apply q_loopT_ret | apply RW.nil) | ((with_reducible apply s3); exact rfl; exact by_k) | ((with_reducible apply s2); exact rfl; exact by_k) | ((with_reducible apply s4); exact rfl) | ((with_reducible apply s5); (first | (focus ((with_reducible apply a_call); exact c1; exact rfl; (repeat (first | exact SubsE.nil | (apply SubsE.cons; exact rfl; (first | exact .d (.refl _) | exact .d (.nil _) | exact .agg rfl (.refl _) | exact .pd | exact .ptr rfl); (first | exact trivial | exact ⟨rfl, trivial⟩)))); done)) | exact by_oa); exact by_g) | ((with_reducible apply CW.cond_t); exact rfl; exact by_ks) | ((with_reducible apply CW.cond_f); exact rfl; exact by_ks) | ((with_reducible apply q_block_miss); exact rfl) | (refine And.intro (show chk [] [] _ _ = true by kernel_rfl) ?_))
    exact .one (.tmp rfl (.one (.d (.refl _))))
  · rw [h1] at c1
    cases h2 : allB (fun x y => decide (x = y)) a.deeds b.deeds
    · rw [h2] at c2
      repeat (first | ((with_reducible apply s1); exact rfl) | (with_reducible first | apply CW.seq | apply CW.block | apply CW.region | apply CW.draw | apply CW.skip | apply CW.exit | apply CW.ret | apply q_then | apply q_then_exit | apply q_then_ret | apply q_block | apply q_block_ret | apply q_block_hit | apply q_ret | apply q_end | apply q_loop_exit | apply q_loop_ret | apply q_loopT_exit | apply q_loopT_ret | apply RW.nil) | ((with_reducible apply s3); exact rfl; exact by_k) | ((with_reducible apply s2); exact rfl; exact by_k) | ((with_reducible apply s4); exact rfl) | ((with_reducible apply s5); (first | (focus ((with_reducible apply a_call); exact c1; exact rfl; (repeat (first | exact SubsE.nil | (apply SubsE.cons; exact rfl; (first | exact .d (.refl _) | exact .d (.nil _) | exact .agg rfl (.refl _) | exact .pd | exact .ptr rfl); (first | exact trivial | exact ⟨rfl, trivial⟩)))); done)) | (focus ((with_reducible apply a_call); exact c2; exact rfl; (repeat (first | exact SubsE.nil | (apply SubsE.cons; exact rfl; (first | exact .d (.refl _) | exact .d (.nil _) | exact .agg rfl (.refl _) | exact .pd | exact .ptr rfl); (first | exact trivial | exact ⟨rfl, trivial⟩)))); done)) | exact by_oa); exact by_g) | ((with_reducible apply CW.cond_t); exact rfl; exact by_ks) | ((with_reducible apply CW.cond_f); exact rfl; exact by_ks) | ((with_reducible apply q_block_miss); exact rfl) | (refine And.intro (show chk [] [] _ _ = true by kernel_rfl) ?_))
      exact .one (.tmp rfl (.one (.d (.refl _))))
    · rw [h2] at c2
      cases h3 : allB (fun x y => decide (x = y)) a.state b.state
      · rw [h3] at c3
        repeat (first | ((with_reducible apply s1); exact rfl) | (with_reducible first | apply CW.seq | apply CW.block | apply CW.region | apply CW.draw | apply CW.skip | apply CW.exit | apply CW.ret | apply q_then | apply q_then_exit | apply q_then_ret | apply q_block | apply q_block_ret | apply q_block_hit | apply q_ret | apply q_end | apply q_loop_exit | apply q_loop_ret | apply q_loopT_exit | apply q_loopT_ret | apply RW.nil) | ((with_reducible apply s3); exact rfl; exact by_k) | ((with_reducible apply s2); exact rfl; exact by_k) | ((with_reducible apply s4); exact rfl) | ((with_reducible apply s5); (first | (focus ((with_reducible apply a_call); exact c1; exact rfl; (repeat (first | exact SubsE.nil | (apply SubsE.cons; exact rfl; (first | exact .d (.refl _) | exact .d (.nil _) | exact .agg rfl (.refl _) | exact .pd | exact .ptr rfl); (first | exact trivial | exact ⟨rfl, trivial⟩)))); done)) | (focus ((with_reducible apply a_call); exact c2; exact rfl; (repeat (first | exact SubsE.nil | (apply SubsE.cons; exact rfl; (first | exact .d (.refl _) | exact .d (.nil _) | exact .agg rfl (.refl _) | exact .pd | exact .ptr rfl); (first | exact trivial | exact ⟨rfl, trivial⟩)))); done)) | (focus ((with_reducible apply a_call); exact c3; exact rfl; (repeat (first | exact SubsE.nil | (apply SubsE.cons; exact rfl; (first | exact .d (.refl _) | exact .d (.nil _) | exact .agg rfl (.refl _) | exact .pd | exact .ptr rfl); (first | exact trivial | exact ⟨rfl, trivial⟩)))); done)) | exact by_oa); exact by_g) | ((with_reducible apply CW.cond_t); exact rfl; exact by_ks) | ((with_reducible apply CW.cond_f); exact rfl; exact by_ks) | ((with_reducible apply q_block_miss); exact rfl) | (refine And.intro (show chk [] [] _ _ = true by kernel_rfl) ?_))
        exact .one (.tmp rfl (.one (.d (.refl _))))
      · rw [h3] at c3
        cases h4 : allB (fun x y => decide (x = y)) a.ends b.ends
        · rw [h4] at c4
          repeat (first | ((with_reducible apply s1); exact rfl) | (with_reducible first | apply CW.seq | apply CW.block | apply CW.region | apply CW.draw | apply CW.skip | apply CW.exit | apply CW.ret | apply q_then | apply q_then_exit | apply q_then_ret | apply q_block | apply q_block_ret | apply q_block_hit | apply q_ret | apply q_end | apply q_loop_exit | apply q_loop_ret | apply q_loopT_exit | apply q_loopT_ret | apply RW.nil) | ((with_reducible apply s3); exact rfl; exact by_k) | ((with_reducible apply s2); exact rfl; exact by_k) | ((with_reducible apply s4); exact rfl) | ((with_reducible apply s5); (first | (focus ((with_reducible apply a_call); exact c1; exact rfl; (repeat (first | exact SubsE.nil | (apply SubsE.cons; exact rfl; (first | exact .d (.refl _) | exact .d (.nil _) | exact .agg rfl (.refl _) | exact .pd | exact .ptr rfl); (first | exact trivial | exact ⟨rfl, trivial⟩)))); done)) | (focus ((with_reducible apply a_call); exact c2; exact rfl; (repeat (first | exact SubsE.nil | (apply SubsE.cons; exact rfl; (first | exact .d (.refl _) | exact .d (.nil _) | exact .agg rfl (.refl _) | exact .pd | exact .ptr rfl); (first | exact trivial | exact ⟨rfl, trivial⟩)))); done)) | (focus ((with_reducible apply a_call); exact c3; exact rfl; (repeat (first | exact SubsE.nil | (apply SubsE.cons; exact rfl; (first | exact .d (.refl _) | exact .d (.nil _) | exact .agg rfl (.refl _) | exact .pd | exact .ptr rfl); (first | exact trivial | exact ⟨rfl, trivial⟩)))); done)) | (focus ((with_reducible apply a_call); exact c4; exact rfl; (repeat (first | exact SubsE.nil | (apply SubsE.cons; exact rfl; (first | exact .d (.refl _) | exact .d (.nil _) | exact .agg rfl (.refl _) | exact .pd | exact .ptr rfl); (first | exact trivial | exact ⟨rfl, trivial⟩)))); done)) | exact by_oa); exact by_g) | ((with_reducible apply CW.cond_t); exact rfl; exact by_ks) | ((with_reducible apply CW.cond_f); exact rfl; exact by_ks) | ((with_reducible apply q_block_miss); exact rfl) | (refine And.intro (show chk [] [] _ _ = true by kernel_rfl) ?_))
          exact .one (.tmp rfl (.one (.d (.refl _))))
        · rw [h4] at c4
          repeat (first | ((with_reducible apply s1); exact rfl) | (with_reducible first | apply CW.seq | apply CW.block | apply CW.region | apply CW.draw | apply CW.skip | apply CW.exit | apply CW.ret | apply q_then | apply q_then_exit | apply q_then_ret | apply q_block | apply q_block_ret | apply q_block_hit | apply q_ret | apply q_end | apply q_loop_exit | apply q_loop_ret | apply q_loopT_exit | apply q_loopT_ret | apply RW.nil) | ((with_reducible apply s3); exact rfl; exact by_k) | ((with_reducible apply s2); exact rfl; exact by_k) | ((with_reducible apply s4); exact rfl) | ((with_reducible apply s5); (first | (focus ((with_reducible apply a_call); exact c1; exact rfl; (repeat (first | exact SubsE.nil | (apply SubsE.cons; exact rfl; (first | exact .d (.refl _) | exact .d (.nil _) | exact .agg rfl (.refl _) | exact .pd | exact .ptr rfl); (first | exact trivial | exact ⟨rfl, trivial⟩)))); done)) | (focus ((with_reducible apply a_call); exact c2; exact rfl; (repeat (first | exact SubsE.nil | (apply SubsE.cons; exact rfl; (first | exact .d (.refl _) | exact .d (.nil _) | exact .agg rfl (.refl _) | exact .pd | exact .ptr rfl); (first | exact trivial | exact ⟨rfl, trivial⟩)))); done)) | (focus ((with_reducible apply a_call); exact c3; exact rfl; (repeat (first | exact SubsE.nil | (apply SubsE.cons; exact rfl; (first | exact .d (.refl _) | exact .d (.nil _) | exact .agg rfl (.refl _) | exact .pd | exact .ptr rfl); (first | exact trivial | exact ⟨rfl, trivial⟩)))); done)) | (focus ((with_reducible apply a_call); exact c4; exact rfl; (repeat (first | exact SubsE.nil | (apply SubsE.cons; exact rfl; (first | exact .d (.refl _) | exact .d (.nil _) | exact .agg rfl (.refl _) | exact .pd | exact .ptr rfl); (first | exact trivial | exact ⟨rfl, trivial⟩)))); done)) | exact by_oa); exact by_g) | ((with_reducible apply CW.cond_t); exact rfl; exact by_ks) | ((with_reducible apply CW.cond_f); exact rfl; exact by_ks) | ((with_reducible apply q_block_miss); exact rfl) | (refine And.intro (show chk [] [] _ _ = true by kernel_rfl) ?_))
          exact .one (.tmp rfl (.one (.d (.refl _))))

end Go.Proofs.YtjgbmdonhabmiaaGreatDoor

/-! F18 -/
/-
  Contract of the references' Add of deeds to engines: the walk.
-/
namespace Go.Proofs.YtjgbmdonhabmiaaGreatDoor
open Go.AX Go.RF

set_option maxRecDepth 100000
set_option maxHeartbeats 8000000

theorem ok_addE (e : Engine) (l : List Deed) (N : Nat) (hz : Engine.Sz e N) (hd : ∀ d ∈ l, d.Sm) (hl : l.length ≤ 10000000) (hN : N + 5 * l.length ≤ 100000000) :
    FnOk Tryz.prog 10 [.d (.agg e.enc), .d (encDeeds l)] (.tup [.agg (addE e l).1.enc, dint (addE e l).2]) := by
  refine fnOk_of tbl_ok mixed_ok Tryz.func10 rfl (by kernel_rfl) rfl rfl fun w0 own0 => ?_
  repeat (first | ((with_reducible apply s1); exact rfl) | (with_reducible first | apply CW.seq | apply CW.block | apply CW.region | apply CW.draw | apply CW.skip | apply CW.exit | apply CW.ret | apply q_then | apply q_then_exit | apply q_then_ret | apply q_block | apply q_block_ret | apply q_block_hit | apply q_ret | apply q_end | apply q_loop_exit | apply q_loop_ret | apply q_loopT_exit | apply q_loopT_ret | apply RW.nil) | ((with_reducible apply s3); exact rfl; exact by_k) | ((with_reducible apply s2); exact rfl; exact by_k) | ((with_reducible apply s4); exact rfl) | ((with_reducible apply s5); (first | exact by_oa); exact by_g) | ((with_reducible apply CW.cond_t); exact rfl; exact by_ks) | ((with_reducible apply CW.cond_f); exact rfl; exact by_ks) | ((with_reducible apply q_block_miss); exact rfl) | (refine And.intro (show chk [] [] _ _ = true by kernel_rfl) ?_))
  refine CW.loopT (fun i : Nat => [sd 1 (encDeeds l), sp 2 0, ob 0 e.enc, sp 4 1, ob 1 noE.enc0, sd 5 (dint 0), sd 13 (encDeeds l), sd 14 (dint l.length), sd 15 (dint i), nxt 2])
    (fun i => i ≤ l.length ∧ wrongs (l.drop i) = wrongs l) (fun i => l.length - i) 0 ⟨by omega, rfl⟩ ?_ ?_
  ·
    exact by_less
  · rintro i ⟨hi, hI⟩
    rcases drop_case hi with ⟨h1, h2⟩ | ⟨d, h1, h2, h3⟩
    · rw [h1] at hI
      have hw0 : wrongs l = 0 := hI.symm
      have hres : addE e l = (addAll e l, 0) := by rw [addE, if_pos hw0]
      clear h1 hI
      rw [hres]
      repeat (first | ((with_reducible apply s1); exact rfl) | (with_reducible first | apply CW.seq | apply CW.block | apply CW.region | apply CW.draw | apply CW.skip | apply CW.exit | apply CW.ret | apply q_then | apply q_then_exit | apply q_then_ret | apply q_block | apply q_block_ret | apply q_block_hit | apply q_ret | apply q_end | apply q_loop_exit | apply q_loop_ret | apply q_loopT_exit | apply q_loopT_ret | apply RW.nil) | ((with_reducible apply s3); exact rfl; exact by_k) | ((with_reducible apply s2); exact rfl; exact by_k) | ((with_reducible apply s4); exact rfl) | ((with_reducible apply s5); (first | exact by_oa); exact by_g) | ((with_reducible apply CW.cond_t); exact rfl; exact by_ks) | ((with_reducible apply CW.cond_f); exact rfl; exact by_ks) | ((with_reducible apply q_block_miss); exact rfl) | (refine And.intro (show chk [] [] _ _ = true by kernel_rfl) ?_))
      refine CW.loopT (fun t : Nat × Engine => [sp 2 0, ob 0 t.2.enc, sp 4 1, ob 1 noE.enc0, sd 5 (dint 0), sd 26 (encDeeds l), sd 27 (dint l.length), sd 28 (dint t.1), nxt 2])
        (fun t => t.1 ≤ l.length ∧ Engine.Sz t.2 (N + 5 * t.1) ∧ addAll t.2 (l.drop t.1) = addAll e l) (fun t => l.length - t.1) (0, e) ⟨by omega, hz, rfl⟩ ?_ ?_
      ·
        exact by_less
      · rintro ⟨i, e'⟩ ⟨hi, hz', hI⟩
        dsimp only at hi hz' hI ⊢
        rcases drop_case hi with ⟨h1, h2⟩ | ⟨d, h1, h2, h3⟩
        · rw [h1] at hI
          simp only [addAll] at hI
          repeat (first | ((with_reducible apply s1); exact rfl) | (with_reducible first | apply CW.seq | apply CW.block | apply CW.region | apply CW.draw | apply CW.skip | apply CW.exit | apply CW.ret | apply q_then | apply q_then_exit | apply q_then_ret | apply q_block | apply q_block_ret | apply q_block_hit | apply q_ret | apply q_end | apply q_loop_exit | apply q_loop_ret | apply q_loopT_exit | apply q_loopT_ret | apply RW.nil) | ((with_reducible apply s3); exact rfl; exact by_k) | ((with_reducible apply s2); exact rfl; exact by_k) | ((with_reducible apply s4); exact rfl) | ((with_reducible apply s5); (first | exact by_oa); exact by_g) | ((with_reducible apply CW.cond_t); exact rfl; exact by_ks) | ((with_reducible apply CW.cond_f); exact rfl; exact by_ks) | ((with_reducible apply q_block_miss); exact rfl) | (refine And.intro (show chk [] [] _ _ = true by kernel_rfl) ?_))
          rw [← hI]
          exact .two (.cell rfl rfl rfl rfl (.aggd (ds := e'.enc) rfl (.refl _))) (.tmp rfl (.one (.d (.refl _))))
        · rw [h1] at hI
          simp only [addAll] at hI
          have hdm := List.mem_of_getElem? h2
          have hds := hd d hdm
          have hww := (wrong_writes (wrongs_mem hw0 d hdm)).2.1
          have hz2 := add1_sz hz' hds hww
          obtain ⟨chs, dds, sts, ens, bs⟩ := e'
          have hzc := hz'.c
          have hzv := hz'.v
          have hzd := hz'.d
          have hzs := hz'.s
          have hzn := hz'.n
          have hzb := hz'.b
          dsimp only at hzc hzv hzd hzs hzn hzb
          repeat (first | ((with_reducible apply s1); exact rfl) | (with_reducible first | apply CW.seq | apply CW.block | apply CW.region | apply CW.draw | apply CW.skip | apply CW.exit | apply CW.ret | apply q_then | apply q_then_exit | apply q_then_ret | apply q_block | apply q_block_ret | apply q_block_hit | apply q_ret | apply q_end | apply q_loop_exit | apply q_loop_ret | apply q_loopT_exit | apply q_loopT_ret | apply RW.nil) | ((with_reducible apply s3); exact rfl; exact by_k) | ((with_reducible apply s2); exact rfl; exact by_k) | ((with_reducible apply s4); exact rfl) | ((with_reducible apply s5); (first | exact by_oa); exact by_g) | ((with_reducible apply CW.cond_t); exact rfl; exact by_ks) | ((with_reducible apply CW.cond_f); exact rfl; exact by_ks) | ((with_reducible apply q_block_miss); exact rfl) | (refine And.intro (show chk [] [] _ _ = true by kernel_rfl) ?_))
          refine CW.loopT (fun t : Nat × List Chain => [sp 2 0, ob 0 (Engine.enc ⟨t.2, dds, sts, ens, bs⟩), sp 4 1, ob 1 noE.enc0, sd 5 (dint 0), sd 26 (encDeeds l), sd 27 (dint l.length), sd 28 (dint i), sp 10 2, ob 2 d.enc, sd 33 (encStrs d.writes), sd 34 (dint d.writes.length), sd 35 (dint t.1), nxt 3])
            (fun t => t.1 ≤ d.writes.length ∧ (t.2.length ≤ N + 5 * i + t.1 ∧ ∀ c ∈ t.2, c.vs.length ≤ N + 5 * i + t.1) ∧ addKeys (bs + dds.length) t.2 (d.writes.drop t.1) = addKeys (bs + dds.length) chs d.writes) (fun t => d.writes.length - t.1) (0, chs) ⟨by omega, ⟨hzc, hzv⟩, rfl⟩ ?_ ?_
          ·
            exact by_less
          · rintro ⟨j, cs⟩ ⟨hj, ⟨hcl, hcv⟩, hJ⟩
            dsimp only at hj hcl hcv hJ ⊢
            rcases drop_case hj with ⟨g1, g2⟩ | ⟨k, g1, g2, g3⟩
            · rw [g1] at hJ
              simp only [addKeys] at hJ
              subst hJ
              repeat (first | (with_reducible apply stop_reg 17) | ((with_reducible apply s1); exact rfl) | (with_reducible first | apply CW.seq | apply CW.block | apply CW.region | apply CW.draw | apply CW.skip | apply CW.exit | apply CW.ret | apply q_then | apply q_then_exit | apply q_then_ret | apply q_block | apply q_block_ret | apply q_block_hit | apply q_ret | apply q_end | apply q_loop_exit | apply q_loop_ret | apply q_loopT_exit | apply q_loopT_ret | apply RW.nil) | ((with_reducible apply s3); exact rfl; exact by_k) | ((with_reducible apply s2); exact rfl; exact by_k) | ((with_reducible apply s4); exact rfl) | ((with_reducible apply s5); (first | exact by_oa); exact by_g) | ((with_reducible apply CW.cond_t); exact rfl; exact by_ks) | ((with_reducible apply CW.cond_f); exact rfl; exact by_ks) | ((with_reducible apply q_block_miss); exact rfl) | (refine And.intro (show chk [] [] _ _ = true by kernel_rfl) ?_))
              refine Stop.go (CW.stut (stut_freeze_cell (id := 0) (j := 1) (i := 3) rfl (by simp)) ⟨rfl, rfl, trivial⟩ ?_)
              repeat (first | (with_reducible apply stop_region 18) | ((with_reducible apply s1); exact rfl) | (with_reducible first | apply CW.seq | apply CW.block | apply CW.region | apply CW.draw | apply CW.skip | apply CW.exit | apply CW.ret | apply q_then | apply q_then_exit | apply q_then_ret | apply q_block | apply q_block_ret | apply q_block_hit | apply q_ret | apply q_end | apply q_loop_exit | apply q_loop_ret | apply q_loopT_exit | apply q_loopT_ret | apply RW.nil) | ((with_reducible apply s3); exact rfl; exact by_k) | ((with_reducible apply s2); exact rfl; exact by_k) | ((with_reducible apply s4); exact rfl) | ((with_reducible apply s5); (first | exact by_oa); exact by_g) | ((with_reducible apply CW.cond_t); exact rfl; exact by_ks) | ((with_reducible apply CW.cond_f); exact rfl; exact by_ks) | ((with_reducible apply q_block_miss); exact rfl) | (refine And.intro (show chk [] [] _ _ = true by kernel_rfl) ?_))
              refine Stop.go (CW.stut (stut_freeze_cell (id := 0) (j := 2) (i := 4) rfl (by simp)) ⟨rfl, rfl, trivial⟩ ?_)
              repeat (first | (with_reducible apply stop_region 19) | ((with_reducible apply s1); exact rfl) | (with_reducible first | apply CW.seq | apply CW.block | apply CW.region | apply CW.draw | apply CW.skip | apply CW.exit | apply CW.ret | apply q_then | apply q_then_exit | apply q_then_ret | apply q_block | apply q_block_ret | apply q_block_hit | apply q_ret | apply q_end | apply q_loop_exit | apply q_loop_ret | apply q_loopT_exit | apply q_loopT_ret | apply RW.nil) | ((with_reducible apply s3); exact rfl; exact by_k) | ((with_reducible apply s2); exact rfl; exact by_k) | ((with_reducible apply s4); exact rfl) | ((with_reducible apply s5); (first | exact by_oa); exact by_g) | ((with_reducible apply CW.cond_t); exact rfl; exact by_ks) | ((with_reducible apply CW.cond_f); exact rfl; exact by_ks) | ((with_reducible apply q_block_miss); exact rfl) | (refine And.intro (show chk [] [] _ _ = true by kernel_rfl) ?_))
              refine Stop.go (CW.stut (stut_freeze_cell (id := 0) (j := 3) (i := 5) rfl (by simp)) ⟨rfl, rfl, trivial⟩ ?_)
              have hbox : [AV.d (encChains (addKeys (bs + dds.length) chs d.writes)), AV.d (.sl 3 (([] ++ dds.map Deed.enc) ++ [d.enc])), AV.d (.sl 1 (([] ++ sts.map encInt1) ++ [[dint 0]])), AV.d (.sl 5 (([] ++ ens.map Done.enc) ++ [done0.enc])), AV.d (dint bs)]
                  = (add1 ⟨chs, dds, sts, ens, bs⟩ d).enc.map AV.d := by
                simp [Engine.enc, add1, encDeeds, encInts, encEnds, encInt1]
              repeat (first | ((with_reducible apply s1); exact rfl) | (with_reducible first | apply CW.seq | apply CW.block | apply CW.region | apply CW.draw | apply CW.skip | apply CW.exit | apply CW.ret | apply q_then | apply q_then_exit | apply q_then_ret | apply q_block | apply q_block_ret | apply q_block_hit | apply q_ret | apply q_end | apply q_loop_exit | apply q_loop_ret | apply q_loopT_exit | apply q_loopT_ret | apply RW.nil) | ((with_reducible apply s3); exact rfl; exact by_k) | ((with_reducible apply s2); exact rfl; exact by_k) | ((with_reducible apply s4); exact rfl) | ((with_reducible apply s5); (first | exact by_oa); exact by_g) | ((with_reducible apply CW.cond_t); exact rfl; exact by_ks) | ((with_reducible apply CW.cond_f); exact rfl; exact by_ks) | ((with_reducible apply q_block_miss); exact rfl) | (refine And.intro (show chk [] [] _ _ = true by kernel_rfl) ?_))
              refine q_loopT (i + 1, add1 ⟨chs, dds, sts, ens, bs⟩ d) ⟨by dsimp only; omega, by dsimp only; rw [show N + 5 * (i + 1) = N + 5 * i + 5 by omega]; exact hz2, hI⟩ (by dsimp only; omega) ?_
              exact by_less
            · rw [g1] at hJ
              simp only [addKeys] at hJ
              have hlen : ((dds.map Deed.enc).length : Int) = dds.length := by simp
              have ca : FnOk Tryz.prog 30 [.d (encChains cs), .d (dstr k), .d (dint (bs + ((dds.map Deed.enc).length : Int)))] (.one (encChains (addC cs k (bs + dds.length)))) := by
                rw [hlen]
                exact ok_add cs k _ (by omega) (fun c hc => by have := hcv c hc; omega)
              repeat (first | ((with_reducible apply s1); exact rfl) | (with_reducible first | apply CW.seq | apply CW.block | apply CW.region | apply CW.draw | apply CW.skip | apply CW.exit | apply CW.ret | apply q_then | apply q_then_exit | apply q_then_ret | apply q_block | apply q_block_ret | apply q_block_hit | apply q_ret | apply q_end | apply q_loop_exit | apply q_loop_ret | apply q_loopT_exit | apply q_loopT_ret | apply RW.nil) | ((with_reducible apply s3); exact rfl; exact by_k) | ((with_reducible apply s2); exact rfl; exact by_k) | ((with_reducible apply s4); exact rfl) | ((with_reducible apply s5); (first | (focus ((with_reducible apply a_call); exact ca; exact rfl; (repeat (first | exact SubsE.nil | (apply SubsE.cons; exact rfl; (first | exact .d (.refl _) | exact .d (.nil _) | exact .agg rfl (.refl _) | exact .pd | exact .ptr rfl); (first | exact trivial | exact ⟨rfl, trivial⟩)))); done)) | exact by_oa); exact by_g) | ((with_reducible apply CW.cond_t); exact rfl; exact by_ks) | ((with_reducible apply CW.cond_f); exact rfl; exact by_ks) | ((with_reducible apply q_block_miss); exact rfl) | (refine And.intro (show chk [] [] _ _ = true by kernel_rfl) ?_))
              refine q_loopT (j + 1, addC cs k (bs + dds.length)) ⟨by dsimp only; omega, ⟨by have := addC_len cs k (bs + dds.length); dsimp only; omega, fun c hc => by have := addC_vs hcv c hc; dsimp only; omega⟩, hJ⟩ (by dsimp only; omega) ?_
              exact by_less
    · rw [h1] at hI
      simp only [wrongs] at hI
      have hds := hd d (List.mem_of_getElem? h2)
      have hc := ok_wrongDeed d hds.r hds.w hds.c hds.rk hds.wk
      by_cases h4 : wrongDeed d = 0
      · rw [if_pos h4] at hI
        repeat (first | ((with_reducible apply s1); exact rfl) | (with_reducible first | apply CW.seq | apply CW.block | apply CW.region | apply CW.draw | apply CW.skip | apply CW.exit | apply CW.ret | apply q_then | apply q_then_exit | apply q_then_ret | apply q_block | apply q_block_ret | apply q_block_hit | apply q_ret | apply q_end | apply q_loop_exit | apply q_loop_ret | apply q_loopT_exit | apply q_loopT_ret | apply RW.nil) | ((with_reducible apply s3); exact rfl; exact by_k) | ((with_reducible apply s2); exact rfl; exact by_k) | ((with_reducible apply s4); exact rfl) | ((with_reducible apply s5); (first | (focus ((with_reducible apply a_call); exact hc; exact rfl; (repeat (first | exact SubsE.nil | (apply SubsE.cons; exact rfl; (first | exact .d (.refl _) | exact .d (.nil _) | exact .agg rfl (.refl _) | exact .pd | exact .ptr rfl); (first | exact trivial | exact ⟨rfl, trivial⟩)))); done)) | exact by_oa); exact by_g) | ((with_reducible apply CW.cond_t); exact rfl; exact by_ks) | ((with_reducible apply CW.cond_f); exact rfl; exact by_ks) | ((with_reducible apply q_block_miss); exact rfl) | (refine And.intro (show chk [] [] _ _ = true by kernel_rfl) ?_))
        refine q_loopT (i + 1) ⟨by omega, hI⟩ (by omega) ?_
        exact by_less
      · rw [if_neg h4] at hI
        have hres : addE e l = (noE, wrongs l) := by rw [addE, if_neg (by rw [← hI]; exact h4)]
        rw [hres]
        repeat (first | ((with_reducible apply s1); exact rfl) | (with_reducible first | apply CW.seq | apply CW.block | apply CW.region | apply CW.draw | apply CW.skip | apply CW.exit | apply CW.ret | apply q_then | apply q_then_exit | apply q_then_ret | apply q_block | apply q_block_ret | apply q_block_hit | apply q_ret | apply q_end | apply q_loop_exit | apply q_loop_ret | apply q_loopT_exit | apply q_loopT_ret | apply RW.nil) | ((with_reducible apply s3); exact rfl; exact by_k) | ((with_reducible apply s2); exact rfl; exact by_k) | ((with_reducible apply s4); exact rfl) | ((with_reducible apply s5); (first | (focus ((with_reducible apply a_call); exact hc; exact rfl; (repeat (first | exact SubsE.nil | (apply SubsE.cons; exact rfl; (first | exact .d (.refl _) | exact .d (.nil _) | exact .agg rfl (.refl _) | exact .pd | exact .ptr rfl); (first | exact trivial | exact ⟨rfl, trivial⟩)))); done)) | exact by_oa); exact by_g) | ((with_reducible apply CW.cond_t); exact rfl; exact by_ks) | ((with_reducible apply CW.cond_f); exact rfl; exact by_ks) | ((with_reducible apply q_block_miss); exact rfl) | (refine And.intro (show chk [] [] _ _ = true by kernel_rfl) ?_))
        exact .two (.cell rfl rfl rfl rfl (.aggd (ds := noE.enc0) rfl (DLes.agg (.cons (dle_nil 2) (.cons (dle_nil 3) (.cons (dle_nil 1) (.cons (dle_nil 5) (.cons (.refl _) .nil)))))))) (.tmp rfl (.one (.d (dle_int hI))))

end Go.Proofs.YtjgbmdonhabmiaaGreatDoor

/-! F9 -/
/-
  Contract of the references' Set.
-/
namespace Go.Proofs.YtjgbmdonhabmiaaGreatDoor
open Go.AX Go.RF

set_option maxRecDepth 100000
set_option maxHeartbeats 4000000

theorem ok_set (l : List Chain) (k : Str) (v : Version) (hl : l.length ≤ 268435456) (hv : ∀ c ∈ l, c.vs.length ≤ 268435456) : FnOk Tryz.prog 46 [.d (encChains l), .d (dstr k), .d (.agg v.enc)] (.one (encChains (setChains l k v))) := by
  refine fnOk_of tbl_ok mixed_ok Tryz.func46 rfl (by kernel_rfl) rfl rfl fun w0 own0 => ?_
  repeat (first | ((with_reducible apply s1); exact rfl) | (with_reducible first | apply CW.seq | apply CW.block | apply CW.region | apply CW.draw | apply CW.skip | apply CW.exit | apply CW.ret | apply q_then | apply q_then_exit | apply q_then_ret | apply q_block | apply q_block_ret | apply q_block_hit | apply q_ret | apply q_end | apply q_loop_exit | apply q_loop_ret | apply q_loopT_exit | apply q_loopT_ret | apply RW.nil) | ((with_reducible apply s3); exact rfl; exact by_k) | ((with_reducible apply s2); exact rfl; exact by_k) | ((with_reducible apply s4); exact rfl) | ((with_reducible apply s5); (first | exact by_oa); exact by_g) | ((with_reducible apply CW.cond_t); exact rfl; exact by_ks) | ((with_reducible apply CW.cond_f); exact rfl; exact by_ks) | ((with_reducible apply q_block_miss); exact rfl) | (refine And.intro (show chk [] [] _ _ = true by kernel_rfl) ?_))
  refine CW.stut (stut_promote (i := 7) 59 2) ⟨rfl, rfl, trivial⟩ ?_
  refine CW.loopT (fun t : Nat × List Chain => [(.s 1, .av (.d (dstr k))), (.s 5, .av (.ptr 0 0)), (.o 0, .ob (.box (v.enc.map AV.d))), (.s 7, .av (.own 1 t.2.length)), (.o 1, .ob (.arr 59 2 (t.2.map Chain.enc))), (.s 13, .av (.d (encChains l))), (.s 14, .av (.d (dint l.length))), (.s 15, .av (.d (dint t.1))), (.nx, .num 2)])
    (fun t => t.1 ≤ l.length ∧ t.2.length ≤ t.1 ∧ t.2 ++ (l.drop t.1).map (setC k v) = setChains l k v) (fun t => l.length - t.1) (0, []) ⟨by omega, by simp, rfl⟩ ?_ ?_
  ·
    exact by_less
  · rintro ⟨i, out⟩ ⟨hi, ho, hI⟩
    dsimp only at hi ho hI ⊢
    rcases drop_case hi with ⟨h1, h2⟩ | ⟨c, h1, h2, h3⟩
    · rw [h1, List.map_nil, List.append_nil] at hI
      repeat (first | ((with_reducible apply s1); exact rfl) | (with_reducible first | apply CW.seq | apply CW.block | apply CW.region | apply CW.draw | apply CW.skip | apply CW.exit | apply CW.ret | apply q_then | apply q_then_exit | apply q_then_ret | apply q_block | apply q_block_ret | apply q_block_hit | apply q_ret | apply q_end | apply q_loop_exit | apply q_loop_ret | apply q_loopT_exit | apply q_loopT_ret | apply RW.nil) | ((with_reducible apply s3); exact rfl; exact by_k) | ((with_reducible apply s2); exact rfl; exact by_k) | ((with_reducible apply s4); exact rfl) | ((with_reducible apply s5); (first | exact by_oa); exact by_g) | ((with_reducible apply CW.cond_t); exact rfl; exact by_ks) | ((with_reducible apply CW.cond_f); exact rfl; exact by_ks) | ((with_reducible apply q_block_miss); exact rfl) | (refine And.intro (show chk [] [] _ _ = true by kernel_rfl) ?_))
      rw [← hI]
      exact .one (.tmp rfl (.one (.own rfl (by simp) (.refl _))))
    · rw [h1, List.map_cons] at hI
      have hcv := hv c (List.mem_of_getElem? h2)
      repeat (first | ((with_reducible apply s1); exact rfl) | (with_reducible first | apply CW.seq | apply CW.block | apply CW.region | apply CW.draw | apply CW.skip | apply CW.exit | apply CW.ret | apply q_then | apply q_then_exit | apply q_then_ret | apply q_block | apply q_block_ret | apply q_block_hit | apply q_ret | apply q_end | apply q_loop_exit | apply q_loop_ret | apply q_loopT_exit | apply q_loopT_ret | apply RW.nil) | ((with_reducible apply s3); exact rfl; exact by_k) | ((with_reducible apply s2); exact rfl; exact by_k) | ((with_reducible apply s4); exact rfl) | ((with_reducible apply s5); (first | exact by_oa); exact by_g) | ((with_reducible apply CW.cond_t); exact rfl; exact by_ks) | ((with_reducible apply CW.cond_f); exact rfl; exact by_ks) | ((with_reducible apply q_block_miss); exact rfl) | (refine And.intro (show chk [] [] _ _ = true by kernel_rfl) ?_))
      refine CW.stut (stut_promote_cell (id := 3) (j := 1) 56 4 rfl) ⟨rfl, rfl, trivial⟩ ?_
      refine CW.loopT (fun t : Nat × List Version => [(.s 1, .av (.d (dstr k))), (.s 5, .av (.ptr 0 0)), (.o 0, .ob (.box (v.enc.map AV.d))), (.s 7, .av (.own 1 out.length)), (.o 1, .ob (.arr 59 2 (out.map Chain.enc))), (.s 13, .av (.d (encChains l))), (.s 14, .av (.d (dint l.length))), (.s 15, .av (.d (dint i))),
          (.s 9, .av (.ptr 2 0)), (.o 2, .ob (.box (c.enc.map AV.d))), (.s 10, .av (.ptr 3 0)), (.o 3, .ob (.box [.d (dstr c.key), .own 4 t.2.length])), (.o 4, .ob (.arr 56 4 (t.2.map Version.enc))),
          (.s 23, .av (.d (encVs c.vs))), (.s 24, .av (.d (dint c.vs.length))), (.s 25, .av (.d (dint t.1))), (.nx, .num 5)])
        (fun t => t.1 ≤ c.vs.length ∧ t.2.length ≤ t.1 ∧ t.2 ++ (c.vs.drop t.1).map (setV (decide (c.key = k)) v) = c.vs.map (setV (decide (c.key = k)) v)) (fun t => c.vs.length - t.1) (0, []) ⟨by omega, by simp, rfl⟩ ?_ ?_
      ·
        exact by_less
      · rintro ⟨j, vs⟩ ⟨hj, hvs, hJ⟩
        dsimp only at hj hvs hJ ⊢
        rcases drop_case hj with ⟨h5, h6⟩ | ⟨x, h5, h6, h7⟩
        · rw [h5, List.map_nil, List.append_nil] at hJ
          repeat (first | (with_reducible apply stop_region 13) | ((with_reducible apply s1); exact rfl) | (with_reducible first | apply CW.seq | apply CW.block | apply CW.region | apply CW.draw | apply CW.skip | apply CW.exit | apply CW.ret | apply q_then | apply q_then_exit | apply q_then_ret | apply q_block | apply q_block_ret | apply q_block_hit | apply q_ret | apply q_end | apply q_loop_exit | apply q_loop_ret | apply q_loopT_exit | apply q_loopT_ret | apply RW.nil) | ((with_reducible apply s3); exact rfl; exact by_k) | ((with_reducible apply s2); exact rfl; exact by_k) | ((with_reducible apply s4); exact rfl) | ((with_reducible apply s5); (first | exact by_oa); exact by_g) | ((with_reducible apply CW.cond_t); exact rfl; exact by_ks) | ((with_reducible apply CW.cond_f); exact rfl; exact by_ks) | ((with_reducible apply q_block_miss); exact rfl) | (refine And.intro (show chk [] [] _ _ = true by kernel_rfl) ?_))
          refine Stop.go (CW.stut (stut_freeze_cell (id := 3) (j := 1) (i := 4) rfl (by simp)) ⟨rfl, rfl, trivial⟩ ?_)
          repeat (first | ((with_reducible apply s1); exact rfl) | (with_reducible first | apply CW.seq | apply CW.block | apply CW.region | apply CW.draw | apply CW.skip | apply CW.exit | apply CW.ret | apply q_then | apply q_then_exit | apply q_then_ret | apply q_block | apply q_block_ret | apply q_block_hit | apply q_ret | apply q_end | apply q_loop_exit | apply q_loop_ret | apply q_loopT_exit | apply q_loopT_ret | apply RW.nil) | ((with_reducible apply s3); exact rfl; exact by_k) | ((with_reducible apply s2); exact rfl; exact by_k) | ((with_reducible apply s4); exact rfl) | ((with_reducible apply s5); (first | exact by_oa); exact by_g) | ((with_reducible apply CW.cond_t); exact rfl; exact by_ks) | ((with_reducible apply CW.cond_f); exact rfl; exact by_ks) | ((with_reducible apply q_block_miss); exact rfl) | (refine And.intro (show chk [] [] _ _ = true by kernel_rfl) ?_))
          refine q_loopT (i + 1, out ++ [setC k v c]) ⟨by dsimp only; omega, by dsimp only; simp; omega, by rw [← hI]; simp⟩ (by dsimp only; omega) ?_
          rw [show setC k v c = ⟨c.key, vs⟩ by rw [setC, hJ]]
          exact by_less
        · rw [h5, List.map_cons] at hJ
          by_cases h8 : c.key = k
          · by_cases h9 : x.by_ = v.by_
            · rw [setV, if_pos ⟨by simp [h8], h9⟩] at hJ
              repeat (first | ((with_reducible apply s1); exact rfl) | (with_reducible first | apply CW.seq | apply CW.block | apply CW.region | apply CW.draw | apply CW.skip | apply CW.exit | apply CW.ret | apply q_then | apply q_then_exit | apply q_then_ret | apply q_block | apply q_block_ret | apply q_block_hit | apply q_ret | apply q_end | apply q_loop_exit | apply q_loop_ret | apply q_loopT_exit | apply q_loopT_ret | apply RW.nil) | ((with_reducible apply s3); exact rfl; exact by_k) | ((with_reducible apply s2); exact rfl; exact by_k) | ((with_reducible apply s4); exact rfl) | ((with_reducible apply s5); (first | exact by_oa); exact by_g) | ((with_reducible apply CW.cond_t); exact rfl; exact by_ks) | ((with_reducible apply CW.cond_f); exact rfl; exact by_ks) | ((with_reducible apply q_block_miss); exact rfl) | (refine And.intro (show chk [] [] _ _ = true by kernel_rfl) ?_))
              refine q_loopT (j + 1, vs ++ [v]) ⟨by dsimp only; omega, by dsimp only; simp; omega, by rw [← hJ]; simp⟩ (by dsimp only; omega) ?_
              exact by_less
            · rw [setV, if_neg (fun h => h9 h.2)] at hJ
              repeat (first | ((with_reducible apply s1); exact rfl) | (with_reducible first | apply CW.seq | apply CW.block | apply CW.region | apply CW.draw | apply CW.skip | apply CW.exit | apply CW.ret | apply q_then | apply q_then_exit | apply q_then_ret | apply q_block | apply q_block_ret | apply q_block_hit | apply q_ret | apply q_end | apply q_loop_exit | apply q_loop_ret | apply q_loopT_exit | apply q_loopT_ret | apply RW.nil) | ((with_reducible apply s3); exact rfl; exact by_k) | ((with_reducible apply s2); exact rfl; exact by_k) | ((with_reducible apply s4); exact rfl) | ((with_reducible apply s5); (first | exact by_oa); exact by_g) | ((with_reducible apply CW.cond_t); exact rfl; exact by_ks) | ((with_reducible apply CW.cond_f); exact rfl; exact by_ks) | ((with_reducible apply q_block_miss); exact rfl) | (refine And.intro (show chk [] [] _ _ = true by kernel_rfl) ?_))
              refine q_loopT (j + 1, vs ++ [x]) ⟨by dsimp only; omega, by dsimp only; simp; omega, by rw [← hJ]; simp⟩ (by dsimp only; omega) ?_
              exact by_less
          · rw [setV, if_neg (fun h => h8 (by simpa using h.1))] at hJ
            repeat (first | ((with_reducible apply s1); exact rfl) | (with_reducible first | apply CW.seq | apply CW.block | apply CW.region | apply CW.draw | apply CW.skip | apply CW.exit | apply CW.ret | apply q_then | apply q_then_exit | apply q_then_ret | apply q_block | apply q_block_ret | apply q_block_hit | apply q_ret | apply q_end | apply q_loop_exit | apply q_loop_ret | apply q_loopT_exit | apply q_loopT_ret | apply RW.nil) | ((with_reducible apply s3); exact rfl; exact by_k) | ((with_reducible apply s2); exact rfl; exact by_k) | ((with_reducible apply s4); exact rfl) | ((with_reducible apply s5); (first | exact by_oa); exact by_g) | ((with_reducible apply CW.cond_t); exact rfl; exact by_ks) | ((with_reducible apply CW.cond_f); exact rfl; exact by_ks) | ((with_reducible apply q_block_miss); exact rfl) | (refine And.intro (show chk [] [] _ _ = true by kernel_rfl) ?_))
            refine q_loopT (j + 1, vs ++ [x]) ⟨by dsimp only; omega, by dsimp only; simp; omega, by rw [← hJ]; simp⟩ (by dsimp only; omega) ?_
            exact by_less

end Go.Proofs.YtjgbmdonhabmiaaGreatDoor

/-! F15 -/
/-
  Contracts of the references' Keys, Needs, Ready.
-/
namespace Go.Proofs.YtjgbmdonhabmiaaGreatDoor
open Go.AX Go.RF

set_option maxRecDepth 100000
set_option maxHeartbeats 4000000

def orIn (h : Bool) (l : List Str) (s : Str) : Bool := match l with
  | [] => h
  | x :: l => orIn (h || decide (x = s)) l s
theorem orIn_eq : ∀ {l : List Str} {h : Bool} {s : Str}, orIn h l s = (h || isIn l s)
  | [], h, s => by simp [orIn, isIn]
  | x :: l, h, s => by
    simp only [orIn, orIn_eq (l := l), isIn]
    by_cases e : x = s <;> simp [e]

theorem ok_keys (d : Deed) (h1 : d.reads.length ≤ 268435456) (h2 : d.writes.length ≤ 268435456) : FnOk Tryz.prog 17 [.d (.agg d.enc)] (.one (encStrs (keysD d))) := by
  refine fnOk_of tbl_ok mixed_ok Tryz.func17 rfl (by kernel_rfl) rfl rfl fun w0 own0 => ?_
  have hsum : (d.reads ++ d.writes).length ≤ 536870912 := by simp; omega
  repeat (first | ((with_reducible apply s1); exact rfl) | (with_reducible first | apply CW.seq | apply CW.block | apply CW.region | apply CW.draw | apply CW.skip | apply CW.exit | apply CW.ret | apply q_then | apply q_then_exit | apply q_then_ret | apply q_block | apply q_block_ret | apply q_block_hit | apply q_ret | apply q_end | apply q_loop_exit | apply q_loop_ret | apply q_loopT_exit | apply q_loopT_ret | apply RW.nil) | ((with_reducible apply s3); exact rfl; exact by_k) | ((with_reducible apply s2); exact rfl; exact by_k) | ((with_reducible apply s4); exact rfl) | ((with_reducible apply s5); (first | exact by_oa); exact by_g) | ((with_reducible apply CW.cond_t); exact rfl; exact by_ks) | ((with_reducible apply CW.cond_f); exact rfl; exact by_ks) | ((with_reducible apply q_block_miss); exact rfl) | (refine And.intro (show chk [] [] _ _ = true by kernel_rfl) ?_))
  refine CW.stut (stut_freeze (i := 15) (id := 1) (n := (0 + (d.reads.map encStr1).length) + (d.writes.map encStr1).length) (e := 9) (k := 1) (rows := ([] ++ d.reads.map encStr1) ++ d.writes.map encStr1) (by simp)) ⟨rfl, rfl, trivial⟩ ?_
  refine CW.stut (stut_promote (i := 3) 9 1) ⟨rfl, rfl, trivial⟩ ?_
  refine CW.loopT (fun t : Nat × List Str => [sd 15 (encStrs (d.reads ++ d.writes)), sd 16 (dint (d.reads ++ d.writes).length), sd 17 (dint t.1), so 3 2 t.2.length, oa 2 9 1 (t.2.map encStr1), nxt 3])
    (fun t => t.1 ≤ (d.reads ++ d.writes).length ∧ t.2.length ≤ t.1 ∧ keysGo' t.2 ((d.reads ++ d.writes).drop t.1) = keysD d) (fun t => (d.reads ++ d.writes).length - t.1) (0, []) ⟨by omega, by simp, rfl⟩ ?_ ?_
  · have e1 : ([] ++ d.reads.map encStr1) ++ d.writes.map encStr1 = (d.reads ++ d.writes).map encStr1 := by simp
    exact by_less
  · generalize d.reads ++ d.writes = l at hsum
    rintro ⟨i, out⟩ ⟨hi, ho, hI⟩
    dsimp only at hi ho hI ⊢
    rcases drop_case hi with ⟨e1, e2⟩ | ⟨k, e1, e2, e3⟩
    · rw [e1] at hI
      simp only [keysGo'] at hI
      repeat (first | ((with_reducible apply s1); exact rfl) | (with_reducible first | apply CW.seq | apply CW.block | apply CW.region | apply CW.draw | apply CW.skip | apply CW.exit | apply CW.ret | apply q_then | apply q_then_exit | apply q_then_ret | apply q_block | apply q_block_ret | apply q_block_hit | apply q_ret | apply q_end | apply q_loop_exit | apply q_loop_ret | apply q_loopT_exit | apply q_loopT_ret | apply RW.nil) | ((with_reducible apply s3); exact rfl; exact by_k) | ((with_reducible apply s2); exact rfl; exact by_k) | ((with_reducible apply s4); exact rfl) | ((with_reducible apply s5); (first | exact by_oa); exact by_g) | ((with_reducible apply CW.cond_t); exact rfl; exact by_ks) | ((with_reducible apply CW.cond_f); exact rfl; exact by_ks) | ((with_reducible apply q_block_miss); exact rfl) | (refine And.intro (show chk [] [] _ _ = true by kernel_rfl) ?_))
      exact .one (.tmp rfl (.one (.own rfl (by simp) (dle_eq (by rw [← hI]; rfl)))))
    · rw [e1] at hI
      simp only [keysGo'] at hI
      repeat (first | ((with_reducible apply s1); exact rfl) | (with_reducible first | apply CW.seq | apply CW.block | apply CW.region | apply CW.draw | apply CW.skip | apply CW.exit | apply CW.ret | apply q_then | apply q_then_exit | apply q_then_ret | apply q_block | apply q_block_ret | apply q_block_hit | apply q_ret | apply q_end | apply q_loop_exit | apply q_loop_ret | apply q_loopT_exit | apply q_loopT_ret | apply RW.nil) | ((with_reducible apply s3); exact rfl; exact by_k) | ((with_reducible apply s2); exact rfl; exact by_k) | ((with_reducible apply s4); exact rfl) | ((with_reducible apply s5); (first | exact by_oa); exact by_g) | ((with_reducible apply CW.cond_t); exact rfl; exact by_ks) | ((with_reducible apply CW.cond_f); exact rfl; exact by_ks) | ((with_reducible apply q_block_miss); exact rfl) | (refine And.intro (show chk [] [] _ _ = true by kernel_rfl) ?_))
      refine CW.loopT (fun t : Nat × Bool => [sd 15 (encStrs l), sd 16 (dint l.length), sd 17 (dint i), so 3 2 out.length, oa 2 9 1 (out.map encStr1), sd 5 (dstr k), sd 6 (dbool t.2), so 21 2 out.length, sd 22 (dint out.length), sd 23 (dint t.1), nxt 3])
        (fun t => t.1 ≤ out.length ∧ orIn t.2 (out.drop t.1) k = isIn out k) (fun t => out.length - t.1) (0, false) ⟨by omega, by rw [orIn_eq]; simp⟩ ?_ ?_
      ·
        exact by_less
      · rintro ⟨j, h⟩ ⟨hj, hJ⟩
        dsimp only at hj hJ ⊢
        rcases drop_case hj with ⟨g1, g2⟩ | ⟨x, g1, g2, g3⟩
        · rw [g1] at hJ
          simp only [orIn] at hJ
          rw [← hJ] at hI
          cases h
          · rw [if_neg (by simp)] at hI
            repeat (first | ((with_reducible apply s1); exact rfl) | (with_reducible first | apply CW.seq | apply CW.block | apply CW.region | apply CW.draw | apply CW.skip | apply CW.exit | apply CW.ret | apply q_then | apply q_then_exit | apply q_then_ret | apply q_block | apply q_block_ret | apply q_block_hit | apply q_ret | apply q_end | apply q_loop_exit | apply q_loop_ret | apply q_loopT_exit | apply q_loopT_ret | apply RW.nil) | ((with_reducible apply s3); exact rfl; exact by_k) | ((with_reducible apply s2); exact rfl; exact by_k) | ((with_reducible apply s4); exact rfl) | ((with_reducible apply s5); (first | exact by_oa); exact by_g) | ((with_reducible apply CW.cond_t); exact rfl; exact by_ks) | ((with_reducible apply CW.cond_f); exact rfl; exact by_ks) | ((with_reducible apply q_block_miss); exact rfl) | (refine And.intro (show chk [] [] _ _ = true by kernel_rfl) ?_))
            refine q_loopT (i + 1, out ++ [k]) ⟨by dsimp only; omega, by dsimp only; simp; omega, hI⟩ (by dsimp only; omega) ?_
            exact by_less
          · rw [if_pos rfl] at hI
            repeat (first | ((with_reducible apply s1); exact rfl) | (with_reducible first | apply CW.seq | apply CW.block | apply CW.region | apply CW.draw | apply CW.skip | apply CW.exit | apply CW.ret | apply q_then | apply q_then_exit | apply q_then_ret | apply q_block | apply q_block_ret | apply q_block_hit | apply q_ret | apply q_end | apply q_loop_exit | apply q_loop_ret | apply q_loopT_exit | apply q_loopT_ret | apply RW.nil) | ((with_reducible apply s3); exact rfl; exact by_k) | ((with_reducible apply s2); exact rfl; exact by_k) | ((with_reducible apply s4); exact rfl) | ((with_reducible apply s5); (first | exact by_oa); exact by_g) | ((with_reducible apply CW.cond_t); exact rfl; exact by_ks) | ((with_reducible apply CW.cond_f); exact rfl; exact by_ks) | ((with_reducible apply q_block_miss); exact rfl) | (refine And.intro (show chk [] [] _ _ = true by kernel_rfl) ?_))
            refine q_loopT (i + 1, out) ⟨by dsimp only; omega, by dsimp only; omega, hI⟩ (by dsimp only; omega) ?_
            exact by_less
        · rw [g1] at hJ
          simp only [orIn] at hJ
          cases h
          · rw [Bool.false_or] at hJ
            repeat (first | ((with_reducible apply s1); exact rfl) | (with_reducible first | apply CW.seq | apply CW.block | apply CW.region | apply CW.draw | apply CW.skip | apply CW.exit | apply CW.ret | apply q_then | apply q_then_exit | apply q_then_ret | apply q_block | apply q_block_ret | apply q_block_hit | apply q_ret | apply q_end | apply q_loop_exit | apply q_loop_ret | apply q_loopT_exit | apply q_loopT_ret | apply RW.nil) | ((with_reducible apply s3); exact rfl; exact by_k) | ((with_reducible apply s2); exact rfl; exact by_k) | ((with_reducible apply s4); exact rfl) | ((with_reducible apply s5); (first | exact by_oa); exact by_g) | ((with_reducible apply CW.cond_t); exact rfl; exact by_ks) | ((with_reducible apply CW.cond_f); exact rfl; exact by_ks) | ((with_reducible apply q_block_miss); exact rfl) | (refine And.intro (show chk [] [] _ _ = true by kernel_rfl) ?_))
            refine q_loopT (j + 1, decide (x = k)) ⟨by dsimp only; omega, hJ⟩ (by dsimp only; omega) ?_
            exact by_less
          · rw [Bool.true_or] at hJ
            repeat (first | ((with_reducible apply s1); exact rfl) | (with_reducible first | apply CW.seq | apply CW.block | apply CW.region | apply CW.draw | apply CW.skip | apply CW.exit | apply CW.ret | apply q_then | apply q_then_exit | apply q_then_ret | apply q_block | apply q_block_ret | apply q_block_hit | apply q_ret | apply q_end | apply q_loop_exit | apply q_loop_ret | apply q_loopT_exit | apply q_loopT_ret | apply RW.nil) | ((with_reducible apply s3); exact rfl; exact by_k) | ((with_reducible apply s2); exact rfl; exact by_k) | ((with_reducible apply s4); exact rfl) | ((with_reducible apply s5); (first | exact by_oa); exact by_g) | ((with_reducible apply CW.cond_t); exact rfl; exact by_ks) | ((with_reducible apply CW.cond_f); exact rfl; exact by_ks) | ((with_reducible apply q_block_miss); exact rfl) | (refine And.intro (show chk [] [] _ _ = true by kernel_rfl) ?_))
            refine q_loopT (j + 1, true) ⟨by dsimp only; omega, hJ⟩ (by dsimp only; omega) ?_
            exact by_less

theorem keysGo_len : ∀ (l out : List Str), (keysGo' out l).length ≤ out.length + l.length
  | [], out => by simp [keysGo']
  | k :: r, out => by
    have := keysGo_len r (if isIn out k = true then out else out ++ [k])
    simp only [keysGo']
    split at this <;> simp_all <;> omega
theorem keysD_len {d : Deed} (h : d.Sm) : (keysD d).length ≤ 536870912 := by
  have := keysGo_len (d.reads ++ d.writes) []
  have h1 := h.r
  have h2 := h.w
  simp at this
  unfold keysD
  omega

theorem ok_needs (e : Engine) (at_ : Nat) (d : Deed) (hs : e.Sm) (hd : e.deeds[at_]? = some d) : FnOk Tryz.prog 14 [.d (.agg e.enc), .d (dint at_)] (.one (encInts (needs e at_ d))) := by
  refine fnOk_of tbl_ok mixed_ok Tryz.func14 rfl (by kernel_rfl) rfl rfl fun w0 own0 => ?_
  have hdl : at_ < e.deeds.length := (List.getElem?_eq_some_iff.1 hd).1
  have hd1 := hs.d
  have hb := hs.b
  have hdd := hs.dd d (List.mem_of_getElem? hd)
  have ck := ok_keys d hdd.r hdd.w
  have hkl := keysD_len hdd
  have cb := fun k => ok_before e.chains k (e.base + at_) (by have := hs.c; omega) (fun c h => by have := hs.v c h; omega)
  repeat (first | ((with_reducible apply s1); exact rfl) | (with_reducible first | apply CW.seq | apply CW.block | apply CW.region | apply CW.draw | apply CW.skip | apply CW.exit | apply CW.ret | apply q_then | apply q_then_exit | apply q_then_ret | apply q_block | apply q_block_ret | apply q_block_hit | apply q_ret | apply q_end | apply q_loop_exit | apply q_loop_ret | apply q_loopT_exit | apply q_loopT_ret | apply RW.nil) | ((with_reducible apply s3); exact rfl; exact by_k) | ((with_reducible apply s2); exact rfl; exact by_k) | ((with_reducible apply s4); exact rfl) | ((with_reducible apply s5); (first | exact by_oa); exact by_g) | ((with_reducible apply CW.cond_t); exact rfl; exact by_ks) | ((with_reducible apply CW.cond_f); exact rfl; exact by_ks) | ((with_reducible apply q_block_miss); exact rfl) | (refine And.intro (show chk [] [] _ _ = true by kernel_rfl) ?_))
  refine CW.stut (stut_promote (i := 5) 3 1) ⟨rfl, rfl, trivial⟩ ?_
  refine CW.loopT (fun t : Nat × List Int => [sd 1 (dint at_), sp 2 0, ob 0 e.enc, sd 10 (dint at_), sd 11 (dint t.1), so 5 1 t.2.length, oa 1 3 1 (t.2.map encInt1), nxt 2])
    (fun t => t.1 ≤ (List.range at_).length ∧ t.2.length ≤ t.1 ∧ t.2 ++ needsGo e.chains e.base (e.base + at_) (keysD d) 0 ((List.range at_).drop t.1) = needs e at_ d) (fun t => (List.range at_).length - t.1) (0, []) ⟨by omega, by simp, rfl⟩ ?_ ?_
  ·
    exact by_less
  · rintro ⟨i, out⟩ ⟨hi, ho, hI⟩
    dsimp only at hi ho hI ⊢
    have hlr : (List.range at_).length = at_ := by simp
    rcases drop_case hi with ⟨h1, h2⟩ | ⟨i', h1, h2, h3⟩
    · rw [h1] at hI
      simp only [needsGo, List.append_nil] at hI
      rw [hlr] at h2
      repeat (first | ((with_reducible apply s1); exact rfl) | (with_reducible first | apply CW.seq | apply CW.block | apply CW.region | apply CW.draw | apply CW.skip | apply CW.exit | apply CW.ret | apply q_then | apply q_then_exit | apply q_then_ret | apply q_block | apply q_block_ret | apply q_block_hit | apply q_ret | apply q_end | apply q_loop_exit | apply q_loop_ret | apply q_loopT_exit | apply q_loopT_ret | apply RW.nil) | ((with_reducible apply s3); exact rfl; exact by_k) | ((with_reducible apply s2); exact rfl; exact by_k) | ((with_reducible apply s4); exact rfl) | ((with_reducible apply s5); (first | exact by_oa); exact by_g) | ((with_reducible apply CW.cond_t); exact rfl; exact by_ks) | ((with_reducible apply CW.cond_f); exact rfl; exact by_ks) | ((with_reducible apply q_block_miss); exact rfl) | (refine And.intro (show chk [] [] _ _ = true by kernel_rfl) ?_))
      exact .one (.tmp rfl (.one (.own rfl (by simp) (dle_eq (by rw [← hI]; rfl)))))
    · obtain rfl : i' = i := by
        rw [List.getElem?_range (by omega)] at h2
        simpa using h2.symm
      rw [h1] at hI
      simp only [needsGo] at hI
      rw [hlr] at h3
      repeat (first | ((with_reducible apply s1); exact rfl) | (with_reducible first | apply CW.seq | apply CW.block | apply CW.region | apply CW.draw | apply CW.skip | apply CW.exit | apply CW.ret | apply q_then | apply q_then_exit | apply q_then_ret | apply q_block | apply q_block_ret | apply q_block_hit | apply q_ret | apply q_end | apply q_loop_exit | apply q_loop_ret | apply q_loopT_exit | apply q_loopT_ret | apply RW.nil) | ((with_reducible apply s3); exact rfl; exact by_k) | ((with_reducible apply s2); exact rfl; exact by_k) | ((with_reducible apply s4); exact rfl) | ((with_reducible apply s5); (first | (focus ((with_reducible apply a_call); exact ck; exact rfl; (repeat (first | exact SubsE.nil | (apply SubsE.cons; exact rfl; (first | exact .d (.refl _) | exact .d (.nil _) | exact .agg rfl (.refl _) | exact .pd | exact .ptr rfl); (first | exact trivial | exact ⟨rfl, trivial⟩)))); done)) | exact by_oa); exact by_g) | ((with_reducible apply CW.cond_t); exact rfl; exact by_ks) | ((with_reducible apply CW.cond_f); exact rfl; exact by_ks) | ((with_reducible apply q_block_miss); exact rfl) | (refine And.intro (show chk [] [] _ _ = true by kernel_rfl) ?_))
      refine CW.loopT (fun j : Nat => [sd 1 (dint at_), sp 2 0, ob 0 e.enc, sd 10 (dint at_), sd 11 (dint i'), so 5 1 out.length, oa 1 3 1 (out.map encInt1), sd 6 (dint i'), sd 19 (encStrs (keysD d)), sd 20 (dint (keysD d).length), sd 21 (dint j), nxt 2])
        (fun j => j ≤ (keysD d).length ∧ anyHit e.chains (e.base + at_) (e.base + i') ((keysD d).drop j) = anyHit e.chains (e.base + at_) (e.base + i') (keysD d)) (fun j => (keysD d).length - j) 0 ⟨by omega, rfl⟩ ?_ ?_
      ·
        exact by_less
      · rintro j ⟨hj, hJ⟩
        rcases drop_case hj with ⟨g1, g2⟩ | ⟨k, g1, g2, g3⟩
        · rw [g1] at hJ
          simp only [anyHit] at hJ
          rw [if_neg (by rw [← hJ]; simp)] at hI
          repeat (first | ((with_reducible apply s1); exact rfl) | (with_reducible first | apply CW.seq | apply CW.block | apply CW.region | apply CW.draw | apply CW.skip | apply CW.exit | apply CW.ret | apply q_then | apply q_then_exit | apply q_then_ret | apply q_block | apply q_block_ret | apply q_block_hit | apply q_ret | apply q_end | apply q_loop_exit | apply q_loop_ret | apply q_loopT_exit | apply q_loopT_ret | apply RW.nil) | ((with_reducible apply s3); exact rfl; exact by_k) | ((with_reducible apply s2); exact rfl; exact by_k) | ((with_reducible apply s4); exact rfl) | ((with_reducible apply s5); (first | exact by_oa); exact by_g) | ((with_reducible apply CW.cond_t); exact rfl; exact by_ks) | ((with_reducible apply CW.cond_f); exact rfl; exact by_ks) | ((with_reducible apply q_block_miss); exact rfl) | (refine And.intro (show chk [] [] _ _ = true by kernel_rfl) ?_))
          refine q_loopT (i' + 1, out) ⟨by dsimp only; omega, by dsimp only; omega, hI⟩ (by dsimp only; omega) ?_
          exact by_less
        · rw [g1] at hJ
          simp only [anyHit] at hJ
          have cbk := cb k
          obtain ⟨⟨vb, vm, vh, vn⟩, hv⟩ : ∃ v, before e.chains k (e.base + at_) = v := ⟨_, rfl⟩
          rw [hv] at cbk
          rw [show hit e.chains (e.base + at_) (e.base + i') k = (!vm && decide (vb = e.base + i')) by rw [hit, hv]] at hJ
          cases vm
          · by_cases g4 : vb = e.base + i'
            · rw [if_pos (by simp [g4])] at hJ
              rw [if_pos hJ.symm] at hI
              repeat (first | ((with_reducible apply s1); exact rfl) | (with_reducible first | apply CW.seq | apply CW.block | apply CW.region | apply CW.draw | apply CW.skip | apply CW.exit | apply CW.ret | apply q_then | apply q_then_exit | apply q_then_ret | apply q_block | apply q_block_ret | apply q_block_hit | apply q_ret | apply q_end | apply q_loop_exit | apply q_loop_ret | apply q_loopT_exit | apply q_loopT_ret | apply RW.nil) | ((with_reducible apply s3); exact rfl; exact by_k) | ((with_reducible apply s2); exact rfl; exact by_k) | ((with_reducible apply s4); exact rfl) | ((with_reducible apply s5); (first | (focus ((with_reducible apply a_call); exact cbk; exact rfl; (repeat (first | exact SubsE.nil | (apply SubsE.cons; exact rfl; (first | exact .d (.refl _) | exact .d (.nil _) | exact .agg rfl (.refl _) | exact .pd | exact .ptr rfl); (first | exact trivial | exact ⟨rfl, trivial⟩)))); done)) | exact by_oa); exact by_g) | ((with_reducible apply CW.cond_t); exact rfl; exact by_ks) | ((with_reducible apply CW.cond_f); exact rfl; exact by_ks) | ((with_reducible apply q_block_miss); exact rfl) | (refine And.intro (show chk [] [] _ _ = true by kernel_rfl) ?_))
              refine q_loopT (i' + 1, out ++ [(i' : Int)]) ⟨by dsimp only; omega, by dsimp only; simp; omega, by rw [← hI]; simp⟩ (by dsimp only; omega) ?_
              exact by_less
            · rw [if_neg (by simp [g4])] at hJ
              repeat (first | ((with_reducible apply s1); exact rfl) | (with_reducible first | apply CW.seq | apply CW.block | apply CW.region | apply CW.draw | apply CW.skip | apply CW.exit | apply CW.ret | apply q_then | apply q_then_exit | apply q_then_ret | apply q_block | apply q_block_ret | apply q_block_hit | apply q_ret | apply q_end | apply q_loop_exit | apply q_loop_ret | apply q_loopT_exit | apply q_loopT_ret | apply RW.nil) | ((with_reducible apply s3); exact rfl; exact by_k) | ((with_reducible apply s2); exact rfl; exact by_k) | ((with_reducible apply s4); exact rfl) | ((with_reducible apply s5); (first | (focus ((with_reducible apply a_call); exact cbk; exact rfl; (repeat (first | exact SubsE.nil | (apply SubsE.cons; exact rfl; (first | exact .d (.refl _) | exact .d (.nil _) | exact .agg rfl (.refl _) | exact .pd | exact .ptr rfl); (first | exact trivial | exact ⟨rfl, trivial⟩)))); done)) | exact by_oa); exact by_g) | ((with_reducible apply CW.cond_t); exact rfl; exact by_ks) | ((with_reducible apply CW.cond_f); exact rfl; exact by_ks) | ((with_reducible apply q_block_miss); exact rfl) | (refine And.intro (show chk [] [] _ _ = true by kernel_rfl) ?_))
              refine q_loopT (j + 1) ⟨by omega, hJ⟩ (by omega) ?_
              exact by_less
          · rw [if_neg (by simp)] at hJ
            repeat (first | ((with_reducible apply s1); exact rfl) | (with_reducible first | apply CW.seq | apply CW.block | apply CW.region | apply CW.draw | apply CW.skip | apply CW.exit | apply CW.ret | apply q_then | apply q_then_exit | apply q_then_ret | apply q_block | apply q_block_ret | apply q_block_hit | apply q_ret | apply q_end | apply q_loop_exit | apply q_loop_ret | apply q_loopT_exit | apply q_loopT_ret | apply RW.nil) | ((with_reducible apply s3); exact rfl; exact by_k) | ((with_reducible apply s2); exact rfl; exact by_k) | ((with_reducible apply s4); exact rfl) | ((with_reducible apply s5); (first | (focus ((with_reducible apply a_call); exact cbk; exact rfl; (repeat (first | exact SubsE.nil | (apply SubsE.cons; exact rfl; (first | exact .d (.refl _) | exact .d (.nil _) | exact .agg rfl (.refl _) | exact .pd | exact .ptr rfl); (first | exact trivial | exact ⟨rfl, trivial⟩)))); done)) | exact by_oa); exact by_g) | ((with_reducible apply CW.cond_t); exact rfl; exact by_ks) | ((with_reducible apply CW.cond_f); exact rfl; exact by_ks) | ((with_reducible apply q_block_miss); exact rfl) | (refine And.intro (show chk [] [] _ _ = true by kernel_rfl) ?_))
            refine q_loopT (j + 1) ⟨by omega, hJ⟩ (by omega) ?_
            exact by_less

def needsAt (e : Engine) (at_ : Nat) : List Int := match e.deeds[at_]? with
  | some d => needs e at_ d
  | none => []
def readyGo (e : Engine) : Nat → List Int → List Int
  | _, [] => []
  | i, s :: r => if s = 0 ∧ needsAt e i = [] then (i : Int) :: readyGo e (i + 1) r else readyGo e (i + 1) r
def ready (e : Engine) : List Int := readyGo e 0 e.state

theorem needs_len (cs : List Chain) (base b : Int) (ks : List Str) : ∀ (l : List Nat) (j : Nat), (needsGo cs base b ks j l).length ≤ l.length
  | [], _ => by simp [needsGo]
  | k :: r, j => by
    have := needs_len cs base b ks r 0
    simp only [needsGo]
    split <;> simp <;> omega

theorem ok_ready (e : Engine) (hs : e.Sm) (hl : e.state.length = e.deeds.length) : FnOk Tryz.prog 23 [.d (.agg e.enc)] (.one (encInts (ready e))) := by
  refine fnOk_of tbl_ok mixed_ok Tryz.func23 rfl (by kernel_rfl) rfl rfl fun w0 own0 => ?_
  have hd1 := hs.d
  repeat (first | ((with_reducible apply s1); exact rfl) | (with_reducible first | apply CW.seq | apply CW.block | apply CW.region | apply CW.draw | apply CW.skip | apply CW.exit | apply CW.ret | apply q_then | apply q_then_exit | apply q_then_ret | apply q_block | apply q_block_ret | apply q_block_hit | apply q_ret | apply q_end | apply q_loop_exit | apply q_loop_ret | apply q_loopT_exit | apply q_loopT_ret | apply RW.nil) | ((with_reducible apply s3); exact rfl; exact by_k) | ((with_reducible apply s2); exact rfl; exact by_k) | ((with_reducible apply s4); exact rfl) | ((with_reducible apply s5); (first | exact by_oa); exact by_g) | ((with_reducible apply CW.cond_t); exact rfl; exact by_ks) | ((with_reducible apply CW.cond_f); exact rfl; exact by_ks) | ((with_reducible apply q_block_miss); exact rfl) | (refine And.intro (show chk [] [] _ _ = true by kernel_rfl) ?_))
  refine CW.stut (stut_promote (i := 3) 3 1) ⟨rfl, rfl, trivial⟩ ?_
  refine CW.loopT (fun t : Nat × List Int => [sp 1 0, ob 0 e.enc, sd 7 (dint e.deeds.length), sd 8 (dint t.1), so 3 1 t.2.length, oa 1 3 1 (t.2.map encInt1), nxt 2])
    (fun t => t.1 ≤ e.state.length ∧ t.2.length ≤ t.1 ∧ t.2 ++ readyGo e t.1 (e.state.drop t.1) = ready e) (fun t => e.state.length - t.1) (0, []) ⟨by omega, by simp, rfl⟩ ?_ ?_
  ·
    exact by_less
  · rintro ⟨i, out⟩ ⟨hi, ho, hI⟩
    dsimp only at hi ho hI ⊢
    rcases drop_case hi with ⟨h1, h2⟩ | ⟨s, h1, h2, h3⟩
    · rw [h1] at hI
      simp only [readyGo, List.append_nil] at hI
      repeat (first | ((with_reducible apply s1); exact rfl) | (with_reducible first | apply CW.seq | apply CW.block | apply CW.region | apply CW.draw | apply CW.skip | apply CW.exit | apply CW.ret | apply q_then | apply q_then_exit | apply q_then_ret | apply q_block | apply q_block_ret | apply q_block_hit | apply q_ret | apply q_end | apply q_loop_exit | apply q_loop_ret | apply q_loopT_exit | apply q_loopT_ret | apply RW.nil) | ((with_reducible apply s3); exact rfl; exact by_k) | ((with_reducible apply s2); exact rfl; exact by_k) | ((with_reducible apply s4); exact rfl) | ((with_reducible apply s5); (first | exact by_oa); exact by_g) | ((with_reducible apply CW.cond_t); exact rfl; exact by_ks) | ((with_reducible apply CW.cond_f); exact rfl; exact by_ks) | ((with_reducible apply q_block_miss); exact rfl) | (refine And.intro (show chk [] [] _ _ = true by kernel_rfl) ?_))
      exact .one (.tmp rfl (.one (.own rfl (by simp) (dle_eq (by rw [← hI]; rfl)))))
    · rw [h1] at hI
      simp only [readyGo] at hI
      obtain ⟨d, hd⟩ : ∃ d, e.deeds[i]? = some d := ⟨e.deeds[i]'(by omega), List.getElem?_eq_getElem (by omega)⟩
      have cn := ok_needs e i d hs hd
      have hna : needsAt e i = needs e i d := by rw [needsAt, hd]
      have hnl : (needs e i d).length ≤ i := by have := needs_len e.chains e.base (e.base + i) (keysD d) (List.range i) 0; simpa [needs] using this
      by_cases e1 : s = 0
      · by_cases e2 : needs e i d = []
        · rw [if_pos ⟨e1, by rw [hna]; exact e2⟩] at hI
          have e3 : (needs e i d).length = 0 := by rw [e2]; rfl
          repeat (first | ((with_reducible apply s1); exact rfl) | (with_reducible first | apply CW.seq | apply CW.block | apply CW.region | apply CW.draw | apply CW.skip | apply CW.exit | apply CW.ret | apply q_then | apply q_then_exit | apply q_then_ret | apply q_block | apply q_block_ret | apply q_block_hit | apply q_ret | apply q_end | apply q_loop_exit | apply q_loop_ret | apply q_loopT_exit | apply q_loopT_ret | apply RW.nil) | ((with_reducible apply s3); exact rfl; exact by_k) | ((with_reducible apply s2); exact rfl; exact by_k) | ((with_reducible apply s4); exact rfl) | ((with_reducible apply s5); (first | (focus ((with_reducible apply a_call); exact cn; exact rfl; (repeat (first | exact SubsE.nil | (apply SubsE.cons; exact rfl; (first | exact .d (.refl _) | exact .d (.nil _) | exact .agg rfl (.refl _) | exact .pd | exact .ptr rfl); (first | exact trivial | exact ⟨rfl, trivial⟩)))); done)) | exact by_oa); exact by_g) | ((with_reducible apply CW.cond_t); exact rfl; exact by_ks) | ((with_reducible apply CW.cond_f); exact rfl; exact by_ks) | ((with_reducible apply q_block_miss); exact rfl) | (refine And.intro (show chk [] [] _ _ = true by kernel_rfl) ?_))
          refine q_loopT (i + 1, out ++ [(i : Int)]) ⟨by dsimp only; omega, by dsimp only; simp; omega, by rw [← hI]; simp⟩ (by dsimp only; omega) ?_
          exact by_less
        · rw [if_neg (fun h => e2 (by rw [← hna]; exact h.2))] at hI
          have e3 : ¬ (needs e i d).length = 0 := by simpa using e2
          repeat (first | ((with_reducible apply s1); exact rfl) | (with_reducible first | apply CW.seq | apply CW.block | apply CW.region | apply CW.draw | apply CW.skip | apply CW.exit | apply CW.ret | apply q_then | apply q_then_exit | apply q_then_ret | apply q_block | apply q_block_ret | apply q_block_hit | apply q_ret | apply q_end | apply q_loop_exit | apply q_loop_ret | apply q_loopT_exit | apply q_loopT_ret | apply RW.nil) | ((with_reducible apply s3); exact rfl; exact by_k) | ((with_reducible apply s2); exact rfl; exact by_k) | ((with_reducible apply s4); exact rfl) | ((with_reducible apply s5); (first | (focus ((with_reducible apply a_call); exact cn; exact rfl; (repeat (first | exact SubsE.nil | (apply SubsE.cons; exact rfl; (first | exact .d (.refl _) | exact .d (.nil _) | exact .agg rfl (.refl _) | exact .pd | exact .ptr rfl); (first | exact trivial | exact ⟨rfl, trivial⟩)))); done)) | exact by_oa); exact by_g) | ((with_reducible apply CW.cond_t); exact rfl; exact by_ks) | ((with_reducible apply CW.cond_f); exact rfl; exact by_ks) | ((with_reducible apply q_block_miss); exact rfl) | (refine And.intro (show chk [] [] _ _ = true by kernel_rfl) ?_))
          refine q_loopT (i + 1, out) ⟨by dsimp only; omega, by dsimp only; omega, hI⟩ (by dsimp only; omega) ?_
          exact by_less
      · rw [if_neg (fun h => e1 h.1)] at hI
        repeat (first | ((with_reducible apply s1); exact rfl) | (with_reducible first | apply CW.seq | apply CW.block | apply CW.region | apply CW.draw | apply CW.skip | apply CW.exit | apply CW.ret | apply q_then | apply q_then_exit | apply q_then_ret | apply q_block | apply q_block_ret | apply q_block_hit | apply q_ret | apply q_end | apply q_loop_exit | apply q_loop_ret | apply q_loopT_exit | apply q_loopT_ret | apply RW.nil) | ((with_reducible apply s3); exact rfl; exact by_k) | ((with_reducible apply s2); exact rfl; exact by_k) | ((with_reducible apply s4); exact rfl) | ((with_reducible apply s5); (first | (focus ((with_reducible apply a_call); exact cn; exact rfl; (repeat (first | exact SubsE.nil | (apply SubsE.cons; exact rfl; (first | exact .d (.refl _) | exact .d (.nil _) | exact .agg rfl (.refl _) | exact .pd | exact .ptr rfl); (first | exact trivial | exact ⟨rfl, trivial⟩)))); done)) | exact by_oa); exact by_g) | ((with_reducible apply CW.cond_t); exact rfl; exact by_ks) | ((with_reducible apply CW.cond_f); exact rfl; exact by_ks) | ((with_reducible apply q_block_miss); exact rfl) | (refine And.intro (show chk [] [] _ _ = true by kernel_rfl) ?_))
        refine q_loopT (i + 1, out) ⟨by dsimp only; omega, by dsimp only; omega, hI⟩ (by dsimp only; omega) ?_
        exact by_less

end Go.Proofs.YtjgbmdonhabmiaaGreatDoor

/-! F3 -/
/-
  Contracts of the references' functions on rows, continued.
-/
namespace Go.Proofs.YtjgbmdonhabmiaaGreatDoor
open Go.AX Go.RF

set_option maxRecDepth 100000
set_option maxHeartbeats 4000000

theorem ok_put (l : List Pair) (k : Str) (n : Int) (hs : Bool) (hl : l.length ≤ 268435456) : FnOk Tryz.prog 43 [.d (encRows l), .d (dstr k), .d (dint n), .d (dbool hs)] (.one (encRows (put l k n hs))) := by
  refine fnOk_of tbl_ok mixed_ok Tryz.func43 rfl (by kernel_rfl) rfl rfl fun w0 own0 => ?_
  repeat (first | ((with_reducible apply s1); exact rfl) | (with_reducible first | apply CW.seq | apply CW.block | apply CW.region | apply CW.draw | apply CW.skip | apply CW.exit | apply CW.ret | apply q_then | apply q_then_exit | apply q_then_ret | apply q_block | apply q_block_ret | apply q_block_hit | apply q_ret | apply q_end | apply q_loop_exit | apply q_loop_ret | apply q_loopT_exit | apply q_loopT_ret | apply RW.nil) | ((with_reducible apply s3); exact rfl; exact by_k) | ((with_reducible apply s2); exact rfl; exact by_k) | ((with_reducible apply s4); exact rfl) | ((with_reducible apply s5); (first | exact by_oa); exact by_g) | ((with_reducible apply CW.cond_t); exact rfl; exact by_ks) | ((with_reducible apply CW.cond_f); exact rfl; exact by_ks) | ((with_reducible apply q_block_miss); exact rfl) | (refine And.intro (show chk [] [] _ _ = true by kernel_rfl) ?_))
  refine CW.stut (stut_promote (i := 9) 49 2) ⟨rfl, rfl, trivial⟩ ?_
  refine CW.loopT (fun t : Nat × Bool × List Pair => [(.s 1, .av (.d (dstr k))), (.s 2, .av (.d (dint n))), (.s 3, .av (.d (dbool hs))), (.s 9, .av (.own 0 t.2.2.length)), (.s 10, .av (.d (dbool t.2.1))), (.s 13, .av (.d (encRows l))), (.s 14, .av (.d (dint l.length))), (.s 15, .av (.d (dint t.1))), (.o 0, .ob (.arr 49 2 (t.2.2.map Pair.enc))), (.nx, .num 1)])
    (fun t => t.1 ≤ l.length ∧ t.2.2.length ≤ 2 * t.1 ∧ putGo k n hs t.2.1 t.2.2 (l.drop t.1) = put l k n hs) (fun t => l.length - t.1) (0, false, []) ⟨by omega, by simp, rfl⟩ ?_ ?_
  ·
    exact by_less
  · rintro ⟨i, done, out⟩ ⟨hi, ho, hI⟩
    dsimp only at hi ho hI ⊢
    rcases drop_case hi with ⟨h1, h2⟩ | ⟨p, h1, h2, h3⟩
    · rw [h1] at hI
      simp only [putGo] at hI
      cases done
      · cases hs
        ·
          repeat (first | ((with_reducible apply s1); exact rfl) | (with_reducible first | apply CW.seq | apply CW.block | apply CW.region | apply CW.draw | apply CW.skip | apply CW.exit | apply CW.ret | apply q_then | apply q_then_exit | apply q_then_ret | apply q_block | apply q_block_ret | apply q_block_hit | apply q_ret | apply q_end | apply q_loop_exit | apply q_loop_ret | apply q_loopT_exit | apply q_loopT_ret | apply RW.nil) | ((with_reducible apply s3); exact rfl; exact by_k) | ((with_reducible apply s2); exact rfl; exact by_k) | ((with_reducible apply s4); exact rfl) | ((with_reducible apply s5); (first | exact by_oa); exact by_g) | ((with_reducible apply CW.cond_t); exact rfl; exact by_ks) | ((with_reducible apply CW.cond_f); exact rfl; exact by_ks) | ((with_reducible apply q_block_miss); exact rfl) | (refine And.intro (show chk [] [] _ _ = true by kernel_rfl) ?_))
          exact .one (.tmp rfl (.one (.own rfl (by simp) (dle_eq (by rw [← hI]; rfl)))))
        ·
          repeat (first | ((with_reducible apply s1); exact rfl) | (with_reducible first | apply CW.seq | apply CW.block | apply CW.region | apply CW.draw | apply CW.skip | apply CW.exit | apply CW.ret | apply q_then | apply q_then_exit | apply q_then_ret | apply q_block | apply q_block_ret | apply q_block_hit | apply q_ret | apply q_end | apply q_loop_exit | apply q_loop_ret | apply q_loopT_exit | apply q_loopT_ret | apply RW.nil) | ((with_reducible apply s3); exact rfl; exact by_k) | ((with_reducible apply s2); exact rfl; exact by_k) | ((with_reducible apply s4); exact rfl) | ((with_reducible apply s5); (first | exact by_oa); exact by_g) | ((with_reducible apply CW.cond_t); exact rfl; exact by_ks) | ((with_reducible apply CW.cond_f); exact rfl; exact by_ks) | ((with_reducible apply q_block_miss); exact rfl) | (refine And.intro (show chk [] [] _ _ = true by kernel_rfl) ?_))
          exact .one (.tmp rfl (.one (.own rfl (by simp) (dle_eq (by rw [← hI]; simp [encRows]; rfl)))))
      ·
        repeat (first | ((with_reducible apply s1); exact rfl) | (with_reducible first | apply CW.seq | apply CW.block | apply CW.region | apply CW.draw | apply CW.skip | apply CW.exit | apply CW.ret | apply q_then | apply q_then_exit | apply q_then_ret | apply q_block | apply q_block_ret | apply q_block_hit | apply q_ret | apply q_end | apply q_loop_exit | apply q_loop_ret | apply q_loopT_exit | apply q_loopT_ret | apply RW.nil) | ((with_reducible apply s3); exact rfl; exact by_k) | ((with_reducible apply s2); exact rfl; exact by_k) | ((with_reducible apply s4); exact rfl) | ((with_reducible apply s5); (first | exact by_oa); exact by_g) | ((with_reducible apply CW.cond_t); exact rfl; exact by_ks) | ((with_reducible apply CW.cond_f); exact rfl; exact by_ks) | ((with_reducible apply q_block_miss); exact rfl) | (refine And.intro (show chk [] [] _ _ = true by kernel_rfl) ?_))
        exact .one (.tmp rfl (.one (.own rfl (by simp) (dle_eq (by rw [← hI]; rfl)))))
    · rw [h1] at hI
      simp only [putGo] at hI
      cases done <;> cases h5 : slt p.key k <;> cases hs <;> simp [h5] at hI <;> by_cases h4 : p.key = k <;> (first | rw [if_pos h4] at hI | rw [if_neg h4] at hI)
      all_goals
        repeat (first | ((with_reducible apply s1); exact rfl) | (with_reducible first | apply CW.seq | apply CW.block | apply CW.region | apply CW.draw | apply CW.skip | apply CW.exit | apply CW.ret | apply q_then | apply q_then_exit | apply q_then_ret | apply q_block | apply q_block_ret | apply q_block_hit | apply q_ret | apply q_end | apply q_loop_exit | apply q_loop_ret | apply q_loopT_exit | apply q_loopT_ret | apply RW.nil) | ((with_reducible apply s3); exact rfl; exact by_k) | ((with_reducible apply s2); exact rfl; exact by_k) | ((with_reducible apply s4); exact rfl) | ((with_reducible apply s5); (first | exact by_oa); exact by_g) | ((with_reducible apply CW.cond_t); exact rfl; exact by_ks) | ((with_reducible apply CW.cond_f); exact rfl; exact by_ks) | ((with_reducible apply q_block_miss); exact rfl) | (refine And.intro (show chk [] [] _ _ = true by kernel_rfl) ?_))
        refine q_loopT (i + 1, _, _) ⟨by omega, ?_, hI⟩ (by dsimp only; omega) ?_
        · dsimp only; (first | omega | (simp; omega))
        ·
          exact by_less

end Go.Proofs.YtjgbmdonhabmiaaGreatDoor

/-! F16 -/
/-
  Contracts of the references' Do and All.
-/
namespace Go.Proofs.YtjgbmdonhabmiaaGreatDoor
open Go.AX Go.RF

set_option maxRecDepth 100000
set_option maxHeartbeats 8000000

theorem ld_reg (e : Done) {A : Nat} (h : A < 4) {ti : TI} (hk : ti.kind = .int .i64) : ldA ti ((e.enc.map AV.d).drop (1 + A * 1)) = some (.d (dint (rget e A))) := by
  have : A = 0 ∨ A = 1 ∨ A = 2 ∨ A = 3 := by omega
  rcases this with rfl | rfl | rfl | rfl <;> simp [ldA, hk, Done.enc, rget]
theorem st_reg (e : Done) {A : Nat} (h : A < 4) (x : Int) : putCells (e.enc.map AV.d) (1 + A * 1) [.d (dint x)] = (rset e A x).enc.map AV.d := by
  have : A = 0 ∨ A = 1 ∨ A = 2 ∨ A = 3 := by omega
  rcases this with rfl | rfl | rfl | rfl <;> rfl
theorem fit_reg (e : Done) {A : Nat} (h : A < 4) : Nat.ble ((1 + A * 1) + 1) (e.enc.map AV.d).length = true := by
  simp [Done.enc]; omega

theorem mul_bound {a b : Int} (ha : -1073741824 ≤ a ∧ a ≤ 1073741824) (hb : -1073741824 ≤ b ∧ b ≤ 1073741824) : -1152921504606846976 ≤ a * b ∧ a * b ≤ 1152921504606846976 := by
  have h1 : (a * b).natAbs ≤ 1073741824 * 1073741824 := by
    rw [Int.natAbs_mul]
    exact Nat.mul_le_mul (by omega) (by omega)
  omega

theorem ok_do (r : List Pair) (d : Deed) (hl : r.length ≤ 134217728) (hr : rowsOk r) (hc : d.code.length ≤ 134217728) (hi : ∀ i ∈ d.code, i.Ok) :
    FnOk Tryz.prog 44 [.d (encRows r), .d (.agg d.enc)] (.tup [encRows (doD r d).1, .agg (doD r d).2.enc]) := by
  refine fnOk_of tbl_ok mixed_ok Tryz.func44 rfl (by kernel_rfl) rfl rfl fun w0 own0 => ?_
  repeat (first | ((with_reducible apply s1); exact rfl) | (with_reducible first | apply CW.seq | apply CW.block | apply CW.region | apply CW.draw | apply CW.skip | apply CW.exit | apply CW.ret | apply q_then | apply q_then_exit | apply q_then_ret | apply q_block | apply q_block_ret | apply q_block_hit | apply q_ret | apply q_end | apply q_loop_exit | apply q_loop_ret | apply q_loopT_exit | apply q_loopT_ret | apply RW.nil) | ((with_reducible apply s3); exact rfl; exact by_k) | ((with_reducible apply s2); exact rfl; exact by_k) | ((with_reducible apply s4); exact rfl) | ((with_reducible apply s5); (first | exact by_oa); exact by_g) | ((with_reducible apply CW.cond_t); exact rfl; exact by_ks) | ((with_reducible apply CW.cond_f); exact rfl; exact by_ks) | ((with_reducible apply q_block_miss); exact rfl) | (refine And.intro (show chk [] [] _ _ = true by kernel_rfl) ?_))
  refine CW.loopT (fun t : Nat × Int × List Pair × Done => [sd 0 (encRows r), sp 3 0, ob 0 d.enc, sp 5 1, ob 1 done0.enc, sd 6 (encRows t.2.2.1), sp 7 2, ob 2 t.2.2.2.enc, sd 8 (dint t.2.1), sd 16 (encCode d.code), sd 17 (dint d.code.length), sd 18 (dint t.1), nxt 3])
    (fun t => t.1 ≤ d.code.length ∧ t.2.2.1.length ≤ r.length + t.1 ∧ rowsOk t.2.2.1 ∧ t.2.2.2.Ok ∧ t.2.2.2.failed = false ∧ (0 ≤ t.2.1 ∧ t.2.1 ≤ 1073741824) ∧ doGo r t.2.1 t.2.2.1 t.2.2.2 (d.code.drop t.1) = doD r d)
    (fun t => d.code.length - t.1) (0, 0, r, done0) ⟨by omega, by simp, hr, ⟨by simp [nOk, done0], by simp [nOk, done0], by simp [nOk, done0], by simp [nOk, done0]⟩, rfl, by simp, rfl⟩ ?_ ?_
  ·
    exact by_less
  · rintro ⟨x, sk, now, e⟩ ⟨hx, hn, hrow, hreg, hf, hsk, hI⟩
    dsimp only at hx hn hrow hreg hf hsk hI ⊢
    rcases drop_case hx with ⟨h1, h2⟩ | ⟨i, h1, h2, h3⟩
    · rw [h1] at hI
      simp only [doGo] at hI
      repeat (first | ((with_reducible apply s1); exact rfl) | (with_reducible first | apply CW.seq | apply CW.block | apply CW.region | apply CW.draw | apply CW.skip | apply CW.exit | apply CW.ret | apply q_then | apply q_then_exit | apply q_then_ret | apply q_block | apply q_block_ret | apply q_block_hit | apply q_ret | apply q_end | apply q_loop_exit | apply q_loop_ret | apply q_loopT_exit | apply q_loopT_ret | apply RW.nil) | ((with_reducible apply s3); exact rfl; exact by_k) | ((with_reducible apply s2); exact rfl; exact by_k) | ((with_reducible apply s4); exact rfl) | ((with_reducible apply s5); (first | exact by_oa); exact by_g) | ((with_reducible apply CW.cond_t); exact rfl; exact by_ks) | ((with_reducible apply CW.cond_f); exact rfl; exact by_ks) | ((with_reducible apply q_block_miss); exact rfl) | (refine And.intro (show chk [] [] _ _ = true by kernel_rfl) ?_))
      rw [← hI]
      exact .two (.tmp rfl (.one (.d (.refl _)))) (.cell rfl rfl rfl rfl (.aggd rfl (.refl _)))
    · rw [h1] at hI
      simp only [doGo] at hI
      have hio := hi i (List.mem_of_getElem? h2)
      by_cases h4 : 0 < sk
      · rw [if_pos h4] at hI
        repeat (first | ((with_reducible apply s1); exact rfl) | (with_reducible first | apply CW.seq | apply CW.block | apply CW.region | apply CW.draw | apply CW.skip | apply CW.exit | apply CW.ret | apply q_then | apply q_then_exit | apply q_then_ret | apply q_block | apply q_block_ret | apply q_block_hit | apply q_ret | apply q_end | apply q_loop_exit | apply q_loop_ret | apply q_loopT_exit | apply q_loopT_ret | apply RW.nil) | ((with_reducible apply s3); exact rfl; exact by_k) | ((with_reducible apply s2); exact rfl; exact by_k) | ((with_reducible apply s4); exact rfl) | ((with_reducible apply s5); (first | exact by_oa); exact by_g) | ((with_reducible apply CW.cond_t); exact rfl; exact by_ks) | ((with_reducible apply CW.cond_f); exact rfl; exact by_ks) | ((with_reducible apply q_block_miss); exact rfl) | (refine And.intro (show chk [] [] _ _ = true by kernel_rfl) ?_))
        refine q_loopT (x + 1, sk - 1, now, e) ⟨by dsimp only; omega, by dsimp only; omega, hrow, hreg, hf, by dsimp only; omega, hI⟩ (by dsimp only; omega) ?_
        exact by_less
      rw [if_neg h4] at hI
      obtain ⟨kd, ia, ib, n, key⟩ := i
      obtain ⟨A, rfl⟩ := Int.eq_ofNat_of_zero_le hio.a.1
      obtain ⟨B, rfl⟩ := Int.eq_ofNat_of_zero_le hio.b.1
      have hA : A < 4 := by have := hio.a.2; dsimp only at this; omega
      have hB : B < 4 := by have := hio.b.2; dsimp only at this; omega
      have hga := rget_ok hreg A
      have hgb := rget_ok hreg B
      have hst := fun y => st_reg e hA y
      have hfit := fit_reg e hA
      have hself := rset_self e A
      have hk := hio.k
      have hcn := hio.c
      have hcs := hio.s
      dsimp only [Int.toNat_natCast] at hI hk hcn hcs
      have hkd : kd = 1 ∨ kd = 2 ∨ kd = 3 ∨ kd = 4 ∨ kd = 5 ∨ kd = 6 ∨ kd = 7 ∨ kd = 8 ∨ kd = 9 := by omega
      clear hk hio h1
      unfold nOk at hga hgb
      have cg := ok_get now key (by omega)
      have hh := fun (k : Nat) (h : k < 10) => ok_has k 114 h
      rcases hkd with rfl | rfl | rfl | rfl | rfl | rfl | rfl | rfl | rfl
      · rw [if_pos rfl] at hI
        have ch := hh 1 (by omega)
        rw [show has 1 114 = true from by decide] at ch
        have hs := hst (RF.get now key).1
        repeat (first | ((with_reducible apply s1); exact rfl) | (with_reducible first | apply CW.seq | apply CW.block | apply CW.region | apply CW.draw | apply CW.skip | apply CW.exit | apply CW.ret | apply q_then | apply q_then_exit | apply q_then_ret | apply q_block | apply q_block_ret | apply q_block_hit | apply q_ret | apply q_end | apply q_loop_exit | apply q_loop_ret | apply q_loopT_exit | apply q_loopT_ret | apply RW.nil) | ((with_reducible apply s3); exact rfl; exact by_k) | ((with_reducible apply s2); exact rfl; exact by_k) | ((with_reducible apply s4); exact rfl) | ((with_reducible apply s5); (first | (focus ((with_reducible apply a_call); exact cg; exact rfl; (repeat (first | exact SubsE.nil | (apply SubsE.cons; exact rfl; (first | exact .d (.refl _) | exact .d (.nil _) | exact .agg rfl (.refl _) | exact .pd | exact .ptr rfl); (first | exact trivial | exact ⟨rfl, trivial⟩)))); done)) | (focus ((with_reducible apply a_call); exact ch; exact rfl; (repeat (first | exact SubsE.nil | (apply SubsE.cons; exact rfl; (first | exact .d (.refl _) | exact .d (.nil _) | exact .agg rfl (.refl _) | exact .pd | exact .ptr rfl); (first | exact trivial | exact ⟨rfl, trivial⟩)))); done)) | ((with_reducible apply a_lptr); (iterate 4 exact rfl); exact ld_reg e hA rfl) | ((with_reducible apply a_lptr); (iterate 4 exact rfl); exact ld_reg e hB rfl) | ((with_reducible apply a_store); (iterate 6 exact rfl); exact hfit; exact ⟨rfl, trivial⟩) | exact by_oa); exact by_g) | ((with_reducible apply CW.cond_t); exact rfl; exact by_ks) | ((with_reducible apply CW.cond_f); exact rfl; exact by_ks) | ((with_reducible apply q_block_miss); exact rfl) | (refine And.intro (show chk [] [] _ _ = true by kernel_rfl) ?_))
        refine q_loopT (x + 1, sk, now, rset e A (RF.get now key).1) ⟨by dsimp only; omega, by dsimp only; omega, hrow, rset_ok hreg A (get_ok hrow key), by rw [rset_failed]; exact hf, hsk, hI⟩ (by dsimp only; omega) ?_
        exact by_less
      · rw [if_neg (show ¬ (2 : Int) = 1 by decide), if_pos rfl] at hI
        have ch := hh 2 (by omega)
        rw [show has 2 114 = true from by decide] at ch
        have hs := hst n
        repeat (first | ((with_reducible apply s1); exact rfl) | (with_reducible first | apply CW.seq | apply CW.block | apply CW.region | apply CW.draw | apply CW.skip | apply CW.exit | apply CW.ret | apply q_then | apply q_then_exit | apply q_then_ret | apply q_block | apply q_block_ret | apply q_block_hit | apply q_ret | apply q_end | apply q_loop_exit | apply q_loop_ret | apply q_loopT_exit | apply q_loopT_ret | apply RW.nil) | ((with_reducible apply s3); exact rfl; exact by_k) | ((with_reducible apply s2); exact rfl; exact by_k) | ((with_reducible apply s4); exact rfl) | ((with_reducible apply s5); (first | (focus ((with_reducible apply a_call); exact ch; exact rfl; (repeat (first | exact SubsE.nil | (apply SubsE.cons; exact rfl; (first | exact .d (.refl _) | exact .d (.nil _) | exact .agg rfl (.refl _) | exact .pd | exact .ptr rfl); (first | exact trivial | exact ⟨rfl, trivial⟩)))); done)) | ((with_reducible apply a_lptr); (iterate 4 exact rfl); exact ld_reg e hA rfl) | ((with_reducible apply a_lptr); (iterate 4 exact rfl); exact ld_reg e hB rfl) | ((with_reducible apply a_store); (iterate 6 exact rfl); exact hfit; exact ⟨rfl, trivial⟩) | exact by_oa); exact by_g) | ((with_reducible apply CW.cond_t); exact rfl; exact by_ks) | ((with_reducible apply CW.cond_f); exact rfl; exact by_ks) | ((with_reducible apply q_block_miss); exact rfl) | (refine And.intro (show chk [] [] _ _ = true by kernel_rfl) ?_))
        refine q_loopT (x + 1, sk, now, rset e A n) ⟨by dsimp only; omega, by dsimp only; omega, hrow, rset_ok hreg A (hcn rfl), by rw [rset_failed]; exact hf, hsk, hI⟩ (by dsimp only; omega) ?_
        exact by_less
      · rw [if_neg (show ¬ (3 : Int) = 1 by decide), if_neg (show ¬ (3 : Int) = 2 by decide), if_pos rfl] at hI
        have ch := hh 3 (by omega)
        rw [show has 3 114 = true from by decide] at ch
        have hs := hst (round (rget e A + rget e B))
        have cr := ok_round (rget e A + rget e B) (by omega)
        repeat (first | ((with_reducible apply s1); exact rfl) | (with_reducible first | apply CW.seq | apply CW.block | apply CW.region | apply CW.draw | apply CW.skip | apply CW.exit | apply CW.ret | apply q_then | apply q_then_exit | apply q_then_ret | apply q_block | apply q_block_ret | apply q_block_hit | apply q_ret | apply q_end | apply q_loop_exit | apply q_loop_ret | apply q_loopT_exit | apply q_loopT_ret | apply RW.nil) | ((with_reducible apply s3); exact rfl; exact by_k) | ((with_reducible apply s2); exact rfl; exact by_k) | ((with_reducible apply s4); exact rfl) | ((with_reducible apply s5); (first | (focus ((with_reducible apply a_call); exact cr; exact rfl; (repeat (first | exact SubsE.nil | (apply SubsE.cons; exact rfl; (first | exact .d (.refl _) | exact .d (.nil _) | exact .agg rfl (.refl _) | exact .pd | exact .ptr rfl); (first | exact trivial | exact ⟨rfl, trivial⟩)))); done)) | (focus ((with_reducible apply a_call); exact ch; exact rfl; (repeat (first | exact SubsE.nil | (apply SubsE.cons; exact rfl; (first | exact .d (.refl _) | exact .d (.nil _) | exact .agg rfl (.refl _) | exact .pd | exact .ptr rfl); (first | exact trivial | exact ⟨rfl, trivial⟩)))); done)) | ((with_reducible apply a_lptr); (iterate 4 exact rfl); exact ld_reg e hA rfl) | ((with_reducible apply a_lptr); (iterate 4 exact rfl); exact ld_reg e hB rfl) | ((with_reducible apply a_store); (iterate 6 exact rfl); exact hfit; exact ⟨rfl, trivial⟩) | ((with_reducible apply a_bin); (iterate 2 exact rfl); (apply bin_add; omega); exact rfl) | exact by_oa); exact by_g) | ((with_reducible apply CW.cond_t); exact rfl; exact by_ks) | ((with_reducible apply CW.cond_f); exact rfl; exact by_ks) | ((with_reducible apply q_block_miss); exact rfl) | (refine And.intro (show chk [] [] _ _ = true by kernel_rfl) ?_))
        refine q_loopT (x + 1, sk, now, rset e A (round (rget e A + rget e B))) ⟨by dsimp only; omega, by dsimp only; omega, hrow, rset_ok hreg A (round_ok _), by rw [rset_failed]; exact hf, hsk, hI⟩ (by dsimp only; omega) ?_
        exact by_less
      · rw [if_neg (show ¬ (4 : Int) = 1 by decide), if_neg (show ¬ (4 : Int) = 2 by decide), if_neg (show ¬ (4 : Int) = 3 by decide), if_pos rfl] at hI
        have ch := hh 4 (by omega)
        rw [show has 4 114 = true from by decide] at ch
        have hs := hst (round (rget e A - rget e B))
        have cr := ok_round (rget e A - rget e B) (by omega)
        repeat (first | ((with_reducible apply s1); exact rfl) | (with_reducible first | apply CW.seq | apply CW.block | apply CW.region | apply CW.draw | apply CW.skip | apply CW.exit | apply CW.ret | apply q_then | apply q_then_exit | apply q_then_ret | apply q_block | apply q_block_ret | apply q_block_hit | apply q_ret | apply q_end | apply q_loop_exit | apply q_loop_ret | apply q_loopT_exit | apply q_loopT_ret | apply RW.nil) | ((with_reducible apply s3); exact rfl; exact by_k) | ((with_reducible apply s2); exact rfl; exact by_k) | ((with_reducible apply s4); exact rfl) | ((with_reducible apply s5); (first | (focus ((with_reducible apply a_call); exact cr; exact rfl; (repeat (first | exact SubsE.nil | (apply SubsE.cons; exact rfl; (first | exact .d (.refl _) | exact .d (.nil _) | exact .agg rfl (.refl _) | exact .pd | exact .ptr rfl); (first | exact trivial | exact ⟨rfl, trivial⟩)))); done)) | (focus ((with_reducible apply a_call); exact ch; exact rfl; (repeat (first | exact SubsE.nil | (apply SubsE.cons; exact rfl; (first | exact .d (.refl _) | exact .d (.nil _) | exact .agg rfl (.refl _) | exact .pd | exact .ptr rfl); (first | exact trivial | exact ⟨rfl, trivial⟩)))); done)) | ((with_reducible apply a_lptr); (iterate 4 exact rfl); exact ld_reg e hA rfl) | ((with_reducible apply a_lptr); (iterate 4 exact rfl); exact ld_reg e hB rfl) | ((with_reducible apply a_store); (iterate 6 exact rfl); exact hfit; exact ⟨rfl, trivial⟩) | ((with_reducible apply a_bin); (iterate 2 exact rfl); (apply bin_sub; omega); exact rfl) | exact by_oa); exact by_g) | ((with_reducible apply CW.cond_t); exact rfl; exact by_ks) | ((with_reducible apply CW.cond_f); exact rfl; exact by_ks) | ((with_reducible apply q_block_miss); exact rfl) | (refine And.intro (show chk [] [] _ _ = true by kernel_rfl) ?_))
        refine q_loopT (x + 1, sk, now, rset e A (round (rget e A - rget e B))) ⟨by dsimp only; omega, by dsimp only; omega, hrow, rset_ok hreg A (round_ok _), by rw [rset_failed]; exact hf, hsk, hI⟩ (by dsimp only; omega) ?_
        exact by_less
      · rw [if_neg (show ¬ (5 : Int) = 1 by decide), if_neg (show ¬ (5 : Int) = 2 by decide), if_neg (show ¬ (5 : Int) = 3 by decide), if_neg (show ¬ (5 : Int) = 4 by decide), if_pos rfl] at hI
        have ch := hh 5 (by omega)
        rw [show has 5 114 = true from by decide] at ch
        have hmul : -1152921504606846976 ≤ rget e A * rget e B ∧ rget e A * rget e B ≤ 1152921504606846976 := mul_bound hga hgb
        have hs := hst (round (rget e A * rget e B))
        have cr := ok_round (rget e A * rget e B) (by omega)
        repeat (first | ((with_reducible apply s1); exact rfl) | (with_reducible first | apply CW.seq | apply CW.block | apply CW.region | apply CW.draw | apply CW.skip | apply CW.exit | apply CW.ret | apply q_then | apply q_then_exit | apply q_then_ret | apply q_block | apply q_block_ret | apply q_block_hit | apply q_ret | apply q_end | apply q_loop_exit | apply q_loop_ret | apply q_loopT_exit | apply q_loopT_ret | apply RW.nil) | ((with_reducible apply s3); exact rfl; exact by_k) | ((with_reducible apply s2); exact rfl; exact by_k) | ((with_reducible apply s4); exact rfl) | ((with_reducible apply s5); (first | (focus ((with_reducible apply a_call); exact cr; exact rfl; (repeat (first | exact SubsE.nil | (apply SubsE.cons; exact rfl; (first | exact .d (.refl _) | exact .d (.nil _) | exact .agg rfl (.refl _) | exact .pd | exact .ptr rfl); (first | exact trivial | exact ⟨rfl, trivial⟩)))); done)) | (focus ((with_reducible apply a_call); exact ch; exact rfl; (repeat (first | exact SubsE.nil | (apply SubsE.cons; exact rfl; (first | exact .d (.refl _) | exact .d (.nil _) | exact .agg rfl (.refl _) | exact .pd | exact .ptr rfl); (first | exact trivial | exact ⟨rfl, trivial⟩)))); done)) | ((with_reducible apply a_lptr); (iterate 4 exact rfl); exact ld_reg e hA rfl) | ((with_reducible apply a_lptr); (iterate 4 exact rfl); exact ld_reg e hB rfl) | ((with_reducible apply a_store); (iterate 6 exact rfl); exact hfit; exact ⟨rfl, trivial⟩) | ((with_reducible apply a_bin); (iterate 2 exact rfl); (apply bin_mul; omega); exact rfl) | exact by_oa); exact by_g) | ((with_reducible apply CW.cond_t); exact rfl; exact by_ks) | ((with_reducible apply CW.cond_f); exact rfl; exact by_ks) | ((with_reducible apply q_block_miss); exact rfl) | (refine And.intro (show chk [] [] _ _ = true by kernel_rfl) ?_))
        refine q_loopT (x + 1, sk, now, rset e A (round (rget e A * rget e B))) ⟨by dsimp only; omega, by dsimp only; omega, hrow, rset_ok hreg A (round_ok _), by rw [rset_failed]; exact hf, hsk, hI⟩ (by dsimp only; omega) ?_
        exact by_less
      · rw [if_neg (show ¬ (6 : Int) = 1 by decide), if_neg (show ¬ (6 : Int) = 2 by decide), if_neg (show ¬ (6 : Int) = 3 by decide), if_neg (show ¬ (6 : Int) = 4 by decide), if_neg (show ¬ (6 : Int) = 5 by decide), if_pos rfl] at hI
        have ch := hh 6 (by omega)
        rw [show has 6 114 = true from by decide] at ch
        have hs : putCells (e.enc.map AV.d) (1 + A * 1) [.d (dint (rget e A))] = e.enc.map AV.d := by rw [hst, hself]
        have cp := ok_put now key (rget e A) true (by omega)
        have hpl := put_len now key (rget e A) true
        repeat (first | ((with_reducible apply s1); exact rfl) | (with_reducible first | apply CW.seq | apply CW.block | apply CW.region | apply CW.draw | apply CW.skip | apply CW.exit | apply CW.ret | apply q_then | apply q_then_exit | apply q_then_ret | apply q_block | apply q_block_ret | apply q_block_hit | apply q_ret | apply q_end | apply q_loop_exit | apply q_loop_ret | apply q_loopT_exit | apply q_loopT_ret | apply RW.nil) | ((with_reducible apply s3); exact rfl; exact by_k) | ((with_reducible apply s2); exact rfl; exact by_k) | ((with_reducible apply s4); exact rfl) | ((with_reducible apply s5); (first | (focus ((with_reducible apply a_call); exact cp; exact rfl; (repeat (first | exact SubsE.nil | (apply SubsE.cons; exact rfl; (first | exact .d (.refl _) | exact .d (.nil _) | exact .agg rfl (.refl _) | exact .pd | exact .ptr rfl); (first | exact trivial | exact ⟨rfl, trivial⟩)))); done)) | (focus ((with_reducible apply a_call); exact ch; exact rfl; (repeat (first | exact SubsE.nil | (apply SubsE.cons; exact rfl; (first | exact .d (.refl _) | exact .d (.nil _) | exact .agg rfl (.refl _) | exact .pd | exact .ptr rfl); (first | exact trivial | exact ⟨rfl, trivial⟩)))); done)) | ((with_reducible apply a_lptr); (iterate 4 exact rfl); exact ld_reg e hA rfl) | ((with_reducible apply a_lptr); (iterate 4 exact rfl); exact ld_reg e hB rfl) | ((with_reducible apply a_store); (iterate 6 exact rfl); exact hfit; exact ⟨rfl, trivial⟩) | exact by_oa); exact by_g) | ((with_reducible apply CW.cond_t); exact rfl; exact by_ks) | ((with_reducible apply CW.cond_f); exact rfl; exact by_ks) | ((with_reducible apply q_block_miss); exact rfl) | (refine And.intro (show chk [] [] _ _ = true by kernel_rfl) ?_))
        refine q_loopT (x + 1, sk, put now key (rget e A) true, e) ⟨by dsimp only; omega, by dsimp only; omega, put_ok hrow key (rget_ok hreg A) true, hreg, hf, hsk, hI⟩ (by dsimp only; omega) ?_
        exact by_less
      · rw [if_neg (show ¬ (7 : Int) = 1 by decide), if_neg (show ¬ (7 : Int) = 2 by decide), if_neg (show ¬ (7 : Int) = 3 by decide), if_neg (show ¬ (7 : Int) = 4 by decide), if_neg (show ¬ (7 : Int) = 5 by decide), if_neg (show ¬ (7 : Int) = 6 by decide), if_pos rfl] at hI
        have ch := hh 7 (by omega)
        rw [show has 7 114 = false from by decide] at ch
        have cp := ok_put now key 0 false (by omega)
        have hpl := put_len now key 0 false
        repeat (first | ((with_reducible apply s1); exact rfl) | (with_reducible first | apply CW.seq | apply CW.block | apply CW.region | apply CW.draw | apply CW.skip | apply CW.exit | apply CW.ret | apply q_then | apply q_then_exit | apply q_then_ret | apply q_block | apply q_block_ret | apply q_block_hit | apply q_ret | apply q_end | apply q_loop_exit | apply q_loop_ret | apply q_loopT_exit | apply q_loopT_ret | apply RW.nil) | ((with_reducible apply s3); exact rfl; exact by_k) | ((with_reducible apply s2); exact rfl; exact by_k) | ((with_reducible apply s4); exact rfl) | ((with_reducible apply s5); (first | (focus ((with_reducible apply a_call); exact cp; exact rfl; (repeat (first | exact SubsE.nil | (apply SubsE.cons; exact rfl; (first | exact .d (.refl _) | exact .d (.nil _) | exact .agg rfl (.refl _) | exact .pd | exact .ptr rfl); (first | exact trivial | exact ⟨rfl, trivial⟩)))); done)) | (focus ((with_reducible apply a_call); exact ch; exact rfl; (repeat (first | exact SubsE.nil | (apply SubsE.cons; exact rfl; (first | exact .d (.refl _) | exact .d (.nil _) | exact .agg rfl (.refl _) | exact .pd | exact .ptr rfl); (first | exact trivial | exact ⟨rfl, trivial⟩)))); done)) | ((with_reducible apply a_lptr); (iterate 4 exact rfl); exact ld_reg e hA rfl) | ((with_reducible apply a_lptr); (iterate 4 exact rfl); exact ld_reg e hB rfl) | ((with_reducible apply a_store); (iterate 6 exact rfl); exact hfit; exact ⟨rfl, trivial⟩) | exact by_oa); exact by_g) | ((with_reducible apply CW.cond_t); exact rfl; exact by_ks) | ((with_reducible apply CW.cond_f); exact rfl; exact by_ks) | ((with_reducible apply q_block_miss); exact rfl) | (refine And.intro (show chk [] [] _ _ = true by kernel_rfl) ?_))
        refine q_loopT (x + 1, sk, put now key 0 false, e) ⟨by dsimp only; omega, by dsimp only; omega, put_ok hrow key (by simp [nOk]) false, hreg, hf, hsk, hI⟩ (by dsimp only; omega) ?_
        exact by_less
      · rw [if_neg (show ¬ (8 : Int) = 1 by decide), if_neg (show ¬ (8 : Int) = 2 by decide), if_neg (show ¬ (8 : Int) = 3 by decide), if_neg (show ¬ (8 : Int) = 4 by decide), if_neg (show ¬ (8 : Int) = 5 by decide), if_neg (show ¬ (8 : Int) = 6 by decide), if_neg (show ¬ (8 : Int) = 7 by decide), if_pos rfl] at hI
        have ch := hh 8 (by omega)
        rw [show has 8 114 = true from by decide] at ch
        have hs : putCells (e.enc.map AV.d) (1 + A * 1) [.d (dint (rget e A))] = e.enc.map AV.d := by rw [hst, hself]
        by_cases h5 : rget e A < 1
        · rw [if_pos h5] at hI
          repeat (first | ((with_reducible apply s1); exact rfl) | (with_reducible first | apply CW.seq | apply CW.block | apply CW.region | apply CW.draw | apply CW.skip | apply CW.exit | apply CW.ret | apply q_then | apply q_then_exit | apply q_then_ret | apply q_block | apply q_block_ret | apply q_block_hit | apply q_ret | apply q_end | apply q_loop_exit | apply q_loop_ret | apply q_loopT_exit | apply q_loopT_ret | apply RW.nil) | ((with_reducible apply s3); exact rfl; exact by_k) | ((with_reducible apply s2); exact rfl; exact by_k) | ((with_reducible apply s4); exact rfl) | ((with_reducible apply s5); (first | (focus ((with_reducible apply a_call); exact ch; exact rfl; (repeat (first | exact SubsE.nil | (apply SubsE.cons; exact rfl; (first | exact .d (.refl _) | exact .d (.nil _) | exact .agg rfl (.refl _) | exact .pd | exact .ptr rfl); (first | exact trivial | exact ⟨rfl, trivial⟩)))); done)) | ((with_reducible apply a_lptr); (iterate 4 exact rfl); exact ld_reg e hA rfl) | ((with_reducible apply a_lptr); (iterate 4 exact rfl); exact ld_reg e hB rfl) | ((with_reducible apply a_store); (iterate 6 exact rfl); exact hfit; exact ⟨rfl, trivial⟩) | exact by_oa); exact by_g) | ((with_reducible apply CW.cond_t); exact rfl; exact by_ks) | ((with_reducible apply CW.cond_f); exact rfl; exact by_ks) | ((with_reducible apply q_block_miss); exact rfl) | (refine And.intro (show chk [] [] _ _ = true by kernel_rfl) ?_))
          refine q_loopT (x + 1, n, now, e) ⟨by dsimp only; omega, by dsimp only; omega, hrow, hreg, hf, hcs rfl, hI⟩ (by dsimp only; omega) ?_
          exact by_less
        · rw [if_neg h5] at hI
          repeat (first | ((with_reducible apply s1); exact rfl) | (with_reducible first | apply CW.seq | apply CW.block | apply CW.region | apply CW.draw | apply CW.skip | apply CW.exit | apply CW.ret | apply q_then | apply q_then_exit | apply q_then_ret | apply q_block | apply q_block_ret | apply q_block_hit | apply q_ret | apply q_end | apply q_loop_exit | apply q_loop_ret | apply q_loopT_exit | apply q_loopT_ret | apply RW.nil) | ((with_reducible apply s3); exact rfl; exact by_k) | ((with_reducible apply s2); exact rfl; exact by_k) | ((with_reducible apply s4); exact rfl) | ((with_reducible apply s5); (first | (focus ((with_reducible apply a_call); exact ch; exact rfl; (repeat (first | exact SubsE.nil | (apply SubsE.cons; exact rfl; (first | exact .d (.refl _) | exact .d (.nil _) | exact .agg rfl (.refl _) | exact .pd | exact .ptr rfl); (first | exact trivial | exact ⟨rfl, trivial⟩)))); done)) | ((with_reducible apply a_lptr); (iterate 4 exact rfl); exact ld_reg e hA rfl) | ((with_reducible apply a_lptr); (iterate 4 exact rfl); exact ld_reg e hB rfl) | ((with_reducible apply a_store); (iterate 6 exact rfl); exact hfit; exact ⟨rfl, trivial⟩) | exact by_oa); exact by_g) | ((with_reducible apply CW.cond_t); exact rfl; exact by_ks) | ((with_reducible apply CW.cond_f); exact rfl; exact by_ks) | ((with_reducible apply q_block_miss); exact rfl) | (refine And.intro (show chk [] [] _ _ = true by kernel_rfl) ?_))
          refine q_loopT (x + 1, sk, now, e) ⟨by dsimp only; omega, by dsimp only; omega, hrow, hreg, hf, hsk, hI⟩ (by dsimp only; omega) ?_
          exact by_less
      · rw [if_neg (show ¬ (9 : Int) = 1 by decide), if_neg (show ¬ (9 : Int) = 2 by decide), if_neg (show ¬ (9 : Int) = 3 by decide), if_neg (show ¬ (9 : Int) = 4 by decide), if_neg (show ¬ (9 : Int) = 5 by decide), if_neg (show ¬ (9 : Int) = 6 by decide), if_neg (show ¬ (9 : Int) = 7 by decide), if_neg (show ¬ (9 : Int) = 8 by decide)] at hI
        have ch := hh 9 (by omega)
        rw [show has 9 114 = true from by decide] at ch
        have hs : putCells (e.enc.map AV.d) (1 + A * 1) [.d (dint (rget e A))] = e.enc.map AV.d := by rw [hst, hself]
        by_cases h5 : rget e A < 0
        · rw [if_pos h5] at hI
          repeat (first | ((with_reducible apply s1); exact rfl) | (with_reducible first | apply CW.seq | apply CW.block | apply CW.region | apply CW.draw | apply CW.skip | apply CW.exit | apply CW.ret | apply q_then | apply q_then_exit | apply q_then_ret | apply q_block | apply q_block_ret | apply q_block_hit | apply q_ret | apply q_end | apply q_loop_exit | apply q_loop_ret | apply q_loopT_exit | apply q_loopT_ret | apply RW.nil) | ((with_reducible apply s3); exact rfl; exact by_k) | ((with_reducible apply s2); exact rfl; exact by_k) | ((with_reducible apply s4); exact rfl) | ((with_reducible apply s5); (first | (focus ((with_reducible apply a_call); exact ch; exact rfl; (repeat (first | exact SubsE.nil | (apply SubsE.cons; exact rfl; (first | exact .d (.refl _) | exact .d (.nil _) | exact .agg rfl (.refl _) | exact .pd | exact .ptr rfl); (first | exact trivial | exact ⟨rfl, trivial⟩)))); done)) | ((with_reducible apply a_lptr); (iterate 4 exact rfl); exact ld_reg e hA rfl) | ((with_reducible apply a_lptr); (iterate 4 exact rfl); exact ld_reg e hB rfl) | ((with_reducible apply a_store); (iterate 6 exact rfl); exact hfit; exact ⟨rfl, trivial⟩) | exact by_oa); exact by_g) | ((with_reducible apply CW.cond_t); exact rfl; exact by_ks) | ((with_reducible apply CW.cond_f); exact rfl; exact by_ks) | ((with_reducible apply q_block_miss); exact rfl) | (refine And.intro (show chk [] [] _ _ = true by kernel_rfl) ?_))
          rw [← hI]
          exact .two (.tmp rfl (.one (.d (.refl _)))) (.cell rfl rfl rfl rfl (.aggd rfl (.refl _)))
        · rw [if_neg h5] at hI
          repeat (first | ((with_reducible apply s1); exact rfl) | (with_reducible first | apply CW.seq | apply CW.block | apply CW.region | apply CW.draw | apply CW.skip | apply CW.exit | apply CW.ret | apply q_then | apply q_then_exit | apply q_then_ret | apply q_block | apply q_block_ret | apply q_block_hit | apply q_ret | apply q_end | apply q_loop_exit | apply q_loop_ret | apply q_loopT_exit | apply q_loopT_ret | apply RW.nil) | ((with_reducible apply s3); exact rfl; exact by_k) | ((with_reducible apply s2); exact rfl; exact by_k) | ((with_reducible apply s4); exact rfl) | ((with_reducible apply s5); (first | (focus ((with_reducible apply a_call); exact ch; exact rfl; (repeat (first | exact SubsE.nil | (apply SubsE.cons; exact rfl; (first | exact .d (.refl _) | exact .d (.nil _) | exact .agg rfl (.refl _) | exact .pd | exact .ptr rfl); (first | exact trivial | exact ⟨rfl, trivial⟩)))); done)) | ((with_reducible apply a_lptr); (iterate 4 exact rfl); exact ld_reg e hA rfl) | ((with_reducible apply a_lptr); (iterate 4 exact rfl); exact ld_reg e hB rfl) | ((with_reducible apply a_store); (iterate 6 exact rfl); exact hfit; exact ⟨rfl, trivial⟩) | exact by_oa); exact by_g) | ((with_reducible apply CW.cond_t); exact rfl; exact by_ks) | ((with_reducible apply CW.cond_f); exact rfl; exact by_ks) | ((with_reducible apply q_block_miss); exact rfl) | (refine And.intro (show chk [] [] _ _ = true by kernel_rfl) ?_))
          refine q_loopT (x + 1, sk, now, e) ⟨by dsimp only; omega, by dsimp only; omega, hrow, hreg, hf, hsk, hI⟩ (by dsimp only; omega) ?_
          exact by_less

end Go.Proofs.YtjgbmdonhabmiaaGreatDoor

/-! F19 -/
/-
  Contract of the references' Go of engines.
-/
namespace Go.Proofs.YtjgbmdonhabmiaaGreatDoor
open Go.AX Go.RF

set_option maxRecDepth 100000
set_option maxHeartbeats 8000000

def goRows (cs : List Chain) (b : Int) : List Pair → List Str → List Pair
  | r, [] => r
  | r, k :: ks => goRows cs b (if (before cs k b).has = true then put r k (before cs k b).n true else r) ks
def goSets (r : List Pair) (b : Int) : List Chain → List Str → List Chain
  | cs, [] => cs
  | cs, k :: ks => goSets r b (setChains cs k ⟨b, true, (RF.get r k).2, (RF.get r k).1⟩) ks
def goDone (e : Engine) (at_ : Nat) (d : Deed) : List Pair × Done := doD (goRows e.chains (e.base + at_) [] (keysD d)) d
def goNew (e : Engine) (at_ : Nat) (d : Deed) : Engine :=
  ⟨goSets (goDone e at_ d).1 (e.base + at_) e.chains d.writes, e.deeds, e.state.set at_ 1, e.ends.set at_ (goDone e at_ d).2, e.base⟩
def goAt (e : Engine) (at_ : Nat) : Engine × Int := match e.deeds[at_]? with
  | some d => if e.state[at_]? = some 1 then (e, 11) else if needs e at_ d = [] then (goNew e at_ d, 0) else (e, 10)
  | none => (e, 6)
def goE (e : Engine) (at_ : Int) : Engine × Int := if at_ < 0 then (e, 6) else goAt e at_.toNat

/-- Deeds that may be done. -/
structure Deed.Ok (d : Deed) : Prop where
  i : ∀ i ∈ d.code, i.Ok
  r : d.reads.length ≤ 5
  w : d.writes.length ≤ 5
  c : d.code.length ≤ 12
theorem Deed.Ok.keys {d : Deed} (h : Deed.Ok d) : (keysD d).length ≤ 10 := by
  have := keysGo_len (d.reads ++ d.writes) []
  have h1 := h.r
  have h2 := h.w
  simp at this
  unfold keysD
  omega
def chOk (l : List Chain) : Prop := ∀ c ∈ l, ∀ v ∈ c.vs, nOk v.n

theorem bvs_ok {h : Bool} {b : Int} : ∀ {l : List Version} {out : Version}, nOk out.n → (∀ v ∈ l, nOk v.n) → nOk (bvs h b out l).n
  | [], out, ho, _ => ho
  | v :: l, out, ho, hl => by
    simp only [bvs]
    refine bvs_ok ?_ fun w hw => hl w (List.mem_cons_of_mem _ hw)
    split
    · exact hl v (List.mem_cons_self ..)
    · exact ho
theorem beforeGo_ok {k : Str} {b : Int} : ∀ {l : List Chain} {out : Version}, nOk out.n → chOk l → nOk (beforeGo k b out l).n
  | [], out, ho, _ => ho
  | c :: l, out, ho, hl => by
    simp only [beforeGo]
    exact beforeGo_ok (bvs_ok ho (hl c (List.mem_cons_self ..))) fun x hx => hl x (List.mem_cons_of_mem _ hx)
theorem before_ok {l : List Chain} (h : chOk l) (k : Str) (b : Int) : nOk (before l k b).n := beforeGo_ok (by simp [nOk]) h
theorem goRows_ok {cs : List Chain} {b : Int} (h : chOk cs) : ∀ {ks : List Str} {r : List Pair}, rowsOk r → rowsOk (goRows cs b r ks) ∧ (goRows cs b r ks).length ≤ r.length + ks.length
  | [], r, hr => ⟨hr, by simp [goRows]⟩
  | k :: ks, r, hr => by
    simp only [goRows]
    by_cases hh : (before cs k b).has = true
    · rw [if_pos hh]
      have := goRows_ok (b := b) h (ks := ks) (put_ok hr k (before_ok h k b) true)
      refine ⟨this.1, ?_⟩
      have h2 := put_len r k (before cs k b).n true
      have h3 := this.2
      simp; omega
    · rw [if_neg hh]
      have := goRows_ok (b := b) h (ks := ks) hr
      exact ⟨this.1, by have h3 := this.2; simp; omega⟩
theorem doGo_len {r0 : List Pair} : ∀ (l : List Ins) (sk : Int) (now : List Pair) (e : Done), (doGo r0 sk now e l).1.length ≤ max r0.length (now.length + l.length)
  | [], sk, now, e => by simp only [doGo]; simp; omega
  | i :: l, sk, now, e => by
    have ih := fun sk now e => doGo_len (r0 := r0) l sk now e
    have h1 := put_len now i.key (rget e i.a.toNat) true
    have h2 := put_len now i.key 0 false
    simp only [doGo, List.length_cons]
    repeat' split
    all_goals first
      | (refine Nat.le_trans (ih _ _ _) ?_; omega)
      | (simp only []; omega)
theorem doD_len (r : List Pair) (d : Deed) : (doD r d).1.length ≤ r.length + d.code.length := by
  have := doGo_len (r0 := r) d.code 0 r done0
  unfold doD
  omega
theorem setC_len {k : Str} {v : Version} {c : Chain} : (setC k v c).vs.length = c.vs.length := by simp [setC]
theorem set_vs {l : List Chain} {k : Str} {v : Version} {M : Nat} (h : ∀ c ∈ l, c.vs.length ≤ M) : ∀ c ∈ setChains l k v, c.vs.length ≤ M := by
  intro c hc
  obtain ⟨c0, h0, rfl⟩ := List.mem_map.1 hc
  rw [setC_len]; exact h c0 h0

theorem ok_go (e : Engine) (at_ : Int) (N : Nat) (hz : Engine.Sz e N) (hN : N ≤ 100000000) (hd : ∀ d ∈ e.deeds, Deed.Ok d) (hch : chOk e.chains) :
    FnOk Tryz.prog 25 [.d (.agg e.enc), .d (dint at_)] (.tup [.agg (goE e at_).1.enc, dint (goE e at_).2]) := by
  refine fnOk_of tbl_ok mixed_ok Tryz.func25 rfl (by kernel_rfl) rfl rfl fun w0 own0 => ?_
  have hsm := hz.sm (by omega)
  have hc := hz.c
  have hv := hz.v
  have hdl := hz.d
  have hsl := hz.s
  have hnl := hz.n
  have hb := hz.b
  unfold goE
  by_cases a1 : at_ < 0
  · rw [if_pos a1]
    repeat (first | ((with_reducible apply s1); exact rfl) | (with_reducible first | apply CW.seq | apply CW.block | apply CW.region | apply CW.draw | apply CW.skip | apply CW.exit | apply CW.ret | apply q_then | apply q_then_exit | apply q_then_ret | apply q_block | apply q_block_ret | apply q_block_hit | apply q_ret | apply q_end | apply q_loop_exit | apply q_loop_ret | apply q_loopT_exit | apply q_loopT_ret | apply RW.nil) | ((with_reducible apply s3); exact rfl; exact by_k) | ((with_reducible apply s2); exact rfl; exact by_k) | ((with_reducible apply s4); exact rfl) | ((with_reducible apply s5); (first | exact by_oa); exact by_g) | ((with_reducible apply CW.cond_t); exact rfl; exact by_ks) | ((with_reducible apply CW.cond_f); exact rfl; exact by_ks) | ((with_reducible apply q_block_miss); exact rfl) | (refine And.intro (show chk [] [] _ _ = true by kernel_rfl) ?_))
    exact .two (.cell rfl rfl rfl rfl (.aggd (ds := e.enc) rfl (.refl _))) (.tmp rfl (.one (.d (.refl _))))
  rw [if_neg a1]
  obtain ⟨A, rfl⟩ := Int.eq_ofNat_of_zero_le (show 0 ≤ at_ by omega)
  rw [Int.toNat_natCast]
  unfold goAt
  by_cases a2 : e.deeds.length ≤ A
  · rw [List.getElem?_eq_none a2]
    repeat (first | ((with_reducible apply s1); exact rfl) | (with_reducible first | apply CW.seq | apply CW.block | apply CW.region | apply CW.draw | apply CW.skip | apply CW.exit | apply CW.ret | apply q_then | apply q_then_exit | apply q_then_ret | apply q_block | apply q_block_ret | apply q_block_hit | apply q_ret | apply q_end | apply q_loop_exit | apply q_loop_ret | apply q_loopT_exit | apply q_loopT_ret | apply RW.nil) | ((with_reducible apply s3); exact rfl; exact by_k) | ((with_reducible apply s2); exact rfl; exact by_k) | ((with_reducible apply s4); exact rfl) | ((with_reducible apply s5); (first | exact by_oa); exact by_g) | ((with_reducible apply CW.cond_t); exact rfl; exact by_ks) | ((with_reducible apply CW.cond_f); exact rfl; exact by_ks) | ((with_reducible apply q_block_miss); exact rfl) | (refine And.intro (show chk [] [] _ _ = true by kernel_rfl) ?_))
    exact .two (.cell rfl rfl rfl rfl (.aggd (ds := e.enc) rfl (.refl _))) (.tmp rfl (.one (.d (.refl _))))
  have a3 : A < e.deeds.length := by omega
  obtain ⟨d, hA⟩ : ∃ d, e.deeds[A]? = some d := ⟨e.deeds[A], List.getElem?_eq_getElem a3⟩
  obtain ⟨s, hS⟩ : ∃ s, e.state[A]? = some s := ⟨e.state[A]'(by omega), List.getElem?_eq_getElem (by omega)⟩
  obtain ⟨n0, hE⟩ : ∃ n0, e.ends[A]? = some n0 := ⟨e.ends[A]'(by omega), List.getElem?_eq_getElem (by omega)⟩
  rw [hA, hS]
  dsimp only
  have cn := ok_needs e A d hsm hA
  have hnl2 : (needs e A d).length ≤ A := by have := needs_len e.chains e.base (e.base + A) (keysD d) (List.range A) 0; simpa [needs] using this
  by_cases a4 : s = 1
  · rw [if_pos (by rw [a4])]
    repeat (first | ((with_reducible apply s1); exact rfl) | (with_reducible first | apply CW.seq | apply CW.block | apply CW.region | apply CW.draw | apply CW.skip | apply CW.exit | apply CW.ret | apply q_then | apply q_then_exit | apply q_then_ret | apply q_block | apply q_block_ret | apply q_block_hit | apply q_ret | apply q_end | apply q_loop_exit | apply q_loop_ret | apply q_loopT_exit | apply q_loopT_ret | apply RW.nil) | ((with_reducible apply s3); exact rfl; exact by_k) | ((with_reducible apply s2); exact rfl; exact by_k) | ((with_reducible apply s4); exact rfl) | ((with_reducible apply s5); (first | exact by_oa); exact by_g) | ((with_reducible apply CW.cond_t); exact rfl; exact by_ks) | ((with_reducible apply CW.cond_f); exact rfl; exact by_ks) | ((with_reducible apply q_block_miss); exact rfl) | (refine And.intro (show chk [] [] _ _ = true by kernel_rfl) ?_))
    exact .two (.cell rfl rfl rfl rfl (.aggd (ds := e.enc) rfl (.refl _))) (.tmp rfl (.one (.d (.refl _))))
  rw [if_neg (by simpa using a4)]
  by_cases a5 : needs e A d = []
  · rw [if_pos a5]
    have a6 : (needs e A d).length = 0 := by rw [a5]; rfl
    have hdm := List.mem_of_getElem? hA
    have hds := hsm.dd d hdm
    have ck := ok_keys d hds.r hds.w
    have hdo := hd d hdm
    have hkl := hdo.keys
    have hw5 := hdo.w
    repeat (first | ((with_reducible apply s1); exact rfl) | (with_reducible first | apply CW.seq | apply CW.block | apply CW.region | apply CW.draw | apply CW.skip | apply CW.exit | apply CW.ret | apply q_then | apply q_then_exit | apply q_then_ret | apply q_block | apply q_block_ret | apply q_block_hit | apply q_ret | apply q_end | apply q_loop_exit | apply q_loop_ret | apply q_loopT_exit | apply q_loopT_ret | apply RW.nil) | ((with_reducible apply s3); exact rfl; exact by_k) | ((with_reducible apply s2); exact rfl; exact by_k) | ((with_reducible apply s4); exact rfl) | ((with_reducible apply s5); (first | (focus ((with_reducible apply a_call); exact cn; exact rfl; (repeat (first | exact SubsE.nil | (apply SubsE.cons; exact rfl; (first | exact .d (.refl _) | exact .d (.nil _) | exact .agg rfl (.refl _) | exact .pd | exact .ptr rfl); (first | exact trivial | exact ⟨rfl, trivial⟩)))); done)) | (focus ((with_reducible apply a_call); exact ck; exact rfl; (repeat (first | exact SubsE.nil | (apply SubsE.cons; exact rfl; (first | exact .d (.refl _) | exact .d (.nil _) | exact .agg rfl (.refl _) | exact .pd | exact .ptr rfl); (first | exact trivial | exact ⟨rfl, trivial⟩)))); done)) | exact by_oa); exact by_g) | ((with_reducible apply CW.cond_t); exact rfl; exact by_ks) | ((with_reducible apply CW.cond_f); exact rfl; exact by_ks) | ((with_reducible apply q_block_miss); exact rfl) | (refine And.intro (show chk [] [] _ _ = true by kernel_rfl) ?_))
    refine CW.stut (stut_le (i := 6) (dle_nil 2)) ⟨rfl, trivial⟩ ?_
    refine CW.loopT (fun t : Nat × List Pair => [sd 1 (dint A), sp 2 0, ob 0 e.enc, sp 4 1, ob 1 noE.enc0, sd 6 (encRows t.2), sd 43 (encStrs (keysD d)), sd 44 (dint (keysD d).length), sd 45 (dint t.1), nxt 2])
      (fun t => t.1 ≤ (keysD d).length ∧ t.2.length ≤ t.1 ∧ rowsOk t.2 ∧ goRows e.chains (e.base + A) t.2 ((keysD d).drop t.1) = goRows e.chains (e.base + A) [] (keysD d)) (fun t => (keysD d).length - t.1) (0, []) ⟨by omega, by simp, by simp [rowsOk], rfl⟩ ?_ ?_
    ·
      exact by_less
    · rintro ⟨j, r⟩ ⟨hj, hrl, hrk, hJ⟩
      dsimp only at hj hrl hrk hJ ⊢
      rcases drop_case hj with ⟨g1, g2⟩ | ⟨k, g1, g2, g3⟩
      · rw [g1] at hJ
        simp only [goRows] at hJ
        have cd := ok_do r d (by omega) hrk (by have := hdo.c; omega) hdo.i
        have hlw : ∀ r : List Pair, r.length ≤ 134217728 → True := fun _ _ => trivial
        have hout := doD_len r d
        have hdone : goDone e A d = doD r d := by rw [goDone, hJ]
        rw [show goNew e A d = ⟨goSets (doD r d).1 (e.base + A) e.chains d.writes, e.deeds, e.state.set A 1, e.ends.set A (doD r d).2, e.base⟩ by rw [goNew, hdone]]
        have hc12 := hdo.c
        clear hlw hJ hdone hrk
        generalize doD r d = x at cd hout
        obtain ⟨x, en⟩ := x
        dsimp only at cd hout ⊢
        obtain ⟨chs, dds, sts, ens, bs⟩ := e
        dsimp only at hc hv hdl hsl hnl hb hA hS hE a3
        repeat (first | ((with_reducible apply s1); exact rfl) | (with_reducible first | apply CW.seq | apply CW.block | apply CW.region | apply CW.draw | apply CW.skip | apply CW.exit | apply CW.ret | apply q_then | apply q_then_exit | apply q_then_ret | apply q_block | apply q_block_ret | apply q_block_hit | apply q_ret | apply q_end | apply q_loop_exit | apply q_loop_ret | apply q_loopT_exit | apply q_loopT_ret | apply RW.nil) | ((with_reducible apply s3); exact rfl; exact by_k) | ((with_reducible apply s2); exact rfl; exact by_k) | ((with_reducible apply s4); exact rfl) | ((with_reducible apply s5); (first | (focus ((with_reducible apply a_call); exact cd; exact rfl; (repeat (first | exact SubsE.nil | (apply SubsE.cons; exact rfl; (first | exact .d (.refl _) | exact .d (.nil _) | exact .agg rfl (.refl _) | exact .pd | exact .ptr rfl); (first | exact trivial | exact ⟨rfl, trivial⟩)))); done)) | exact by_oa); exact by_g) | ((with_reducible apply CW.cond_t); exact rfl; exact by_ks) | ((with_reducible apply CW.cond_f); exact rfl; exact by_ks) | ((with_reducible apply q_block_miss); exact rfl) | (refine And.intro (show chk [] [] _ _ = true by kernel_rfl) ?_))
        refine CW.loopT (fun t : Nat × List Chain => [sd 1 (dint A), sp 2 0, ob 0 (Engine.enc ⟨t.2, dds, sts, ens, bs⟩), sp 4 1, ob 1 noE.enc0, sd 6 (encRows x), sp 10 2, ob 2 en.enc, sd 80 (encStrs d.writes), sd 81 (dint d.writes.length), sd 82 (dint t.1), nxt 3])
          (fun t => t.1 ≤ d.writes.length ∧ (t.2.length ≤ N ∧ ∀ c ∈ t.2, c.vs.length ≤ N) ∧ goSets x (bs + A) t.2 (d.writes.drop t.1) = goSets x (bs + A) chs d.writes) (fun t => d.writes.length - t.1) (0, chs) ⟨by omega, ⟨hc, hv⟩, rfl⟩ ?_ ?_
        ·
          exact by_less
        · rintro ⟨i, cs⟩ ⟨hi, ⟨hcl, hcv⟩, hK⟩
          dsimp only at hi hcl hcv hK ⊢
          rcases drop_case hi with ⟨e1, e2⟩ | ⟨k, e1, e2, e3⟩
          · rw [e1] at hK
            simp only [goSets] at hK
            rw [← hK]
            have hAs : A < sts.length := by omega
            have hAn : A < ens.length := by omega
            have hS' : ([] ++ sts.map encInt1)[A]? = some (encInt1 s) := by simp [hS]
            have hE' : ([] ++ ens.map Done.enc)[A]? = some n0.enc := by simp [hE]
            repeat (first | (with_reducible apply stop_reg 24) | ((with_reducible apply s1); exact rfl) | (with_reducible first | apply CW.seq | apply CW.block | apply CW.region | apply CW.draw | apply CW.skip | apply CW.exit | apply CW.ret | apply q_then | apply q_then_exit | apply q_then_ret | apply q_block | apply q_block_ret | apply q_block_hit | apply q_ret | apply q_end | apply q_loop_exit | apply q_loop_ret | apply q_loopT_exit | apply q_loopT_ret | apply RW.nil) | ((with_reducible apply s3); exact rfl; exact by_k) | ((with_reducible apply s2); exact rfl; exact by_k) | ((with_reducible apply s4); exact rfl) | ((with_reducible apply s5); (first | exact by_oa); exact by_g) | ((with_reducible apply CW.cond_t); exact rfl; exact by_ks) | ((with_reducible apply CW.cond_f); exact rfl; exact by_ks) | ((with_reducible apply q_block_miss); exact rfl) | (refine And.intro (show chk [] [] _ _ = true by kernel_rfl) ?_))
            refine Stop.go (CW.stut (stut_freeze_cell (id := 0) (j := 2) (i := 3) rfl (by simp)) ⟨rfl, rfl, trivial⟩ ?_)
            repeat (first | (with_reducible apply stop_reg 26) | ((with_reducible apply s1); exact rfl) | (with_reducible first | apply CW.seq | apply CW.block | apply CW.region | apply CW.draw | apply CW.skip | apply CW.exit | apply CW.ret | apply q_then | apply q_then_exit | apply q_then_ret | apply q_block | apply q_block_ret | apply q_block_hit | apply q_ret | apply q_end | apply q_loop_exit | apply q_loop_ret | apply q_loopT_exit | apply q_loopT_ret | apply RW.nil) | ((with_reducible apply s3); exact rfl; exact by_k) | ((with_reducible apply s2); exact rfl; exact by_k) | ((with_reducible apply s4); exact rfl) | ((with_reducible apply s5); (first | exact by_oa); exact by_g) | ((with_reducible apply CW.cond_t); exact rfl; exact by_ks) | ((with_reducible apply CW.cond_f); exact rfl; exact by_ks) | ((with_reducible apply q_block_miss); exact rfl) | (refine And.intro (show chk [] [] _ _ = true by kernel_rfl) ?_))
            refine Stop.go (CW.stut (stut_freeze_cell (id := 0) (j := 3) (i := 4) rfl (by simp)) ⟨rfl, rfl, trivial⟩ ?_)
            repeat (first | ((with_reducible apply s1); exact rfl) | (with_reducible first | apply CW.seq | apply CW.block | apply CW.region | apply CW.draw | apply CW.skip | apply CW.exit | apply CW.ret | apply q_then | apply q_then_exit | apply q_then_ret | apply q_block | apply q_block_ret | apply q_block_hit | apply q_ret | apply q_end | apply q_loop_exit | apply q_loop_ret | apply q_loopT_exit | apply q_loopT_ret | apply RW.nil) | ((with_reducible apply s3); exact rfl; exact by_k) | ((with_reducible apply s2); exact rfl; exact by_k) | ((with_reducible apply s4); exact rfl) | ((with_reducible apply s5); (first | exact by_oa); exact by_g) | ((with_reducible apply CW.cond_t); exact rfl; exact by_ks) | ((with_reducible apply CW.cond_f); exact rfl; exact by_ks) | ((with_reducible apply q_block_miss); exact rfl) | (refine And.intro (show chk [] [] _ _ = true by kernel_rfl) ?_))
            exact .two (.cell rfl rfl rfl rfl (.aggd (ds := [encChains cs, encDeeds dds, .sl 1 (([] ++ sts.map encInt1).set A [dint 1]), .sl 5 (([] ++ ens.map Done.enc).set A en.enc), dint bs]) rfl
              (dle_eq (by simp [Engine.enc, encInts, encEnds, encInt1, List.map_set])))) (.tmp rfl (.one (.d (.refl _))))
          · rw [e1] at hK
            simp only [goSets] at hK
            have cg := ok_get x k (by omega)
            obtain ⟨⟨gn, gh⟩, hg⟩ : ∃ g, RF.get x k = g := ⟨_, rfl⟩
            rw [hg] at cg hK
            have cs' := ok_set cs k ⟨bs + A, true, gh, gn⟩ (by omega) (fun c h => by have := hcv c h; omega)
            repeat (first | ((with_reducible apply s1); exact rfl) | (with_reducible first | apply CW.seq | apply CW.block | apply CW.region | apply CW.draw | apply CW.skip | apply CW.exit | apply CW.ret | apply q_then | apply q_then_exit | apply q_then_ret | apply q_block | apply q_block_ret | apply q_block_hit | apply q_ret | apply q_end | apply q_loop_exit | apply q_loop_ret | apply q_loopT_exit | apply q_loopT_ret | apply RW.nil) | ((with_reducible apply s3); exact rfl; exact by_k) | ((with_reducible apply s2); exact rfl; exact by_k) | ((with_reducible apply s4); exact rfl) | ((with_reducible apply s5); (first | (focus ((with_reducible apply a_call); exact cg; exact rfl; (repeat (first | exact SubsE.nil | (apply SubsE.cons; exact rfl; (first | exact .d (.refl _) | exact .d (.nil _) | exact .agg rfl (.refl _) | exact .pd | exact .ptr rfl); (first | exact trivial | exact ⟨rfl, trivial⟩)))); done)) | (focus ((with_reducible apply a_call); exact cs'; exact rfl; (repeat (first | exact SubsE.nil | (apply SubsE.cons; exact rfl; (first | exact .d (.refl _) | exact .d (.nil _) | exact .agg rfl (.refl _) | exact .pd | exact .ptr rfl); (first | exact trivial | exact ⟨rfl, trivial⟩)))); done)) | exact by_oa); exact by_g) | ((with_reducible apply CW.cond_t); exact rfl; exact by_ks) | ((with_reducible apply CW.cond_f); exact rfl; exact by_ks) | ((with_reducible apply q_block_miss); exact rfl) | (refine And.intro (show chk [] [] _ _ = true by kernel_rfl) ?_))
            refine q_loopT (i + 1, setChains cs k ⟨bs + A, true, gh, gn⟩) ⟨by dsimp only; omega, ⟨by dsimp only; simp [setChains]; exact hcl, set_vs hcv⟩, hK⟩ (by dsimp only; omega) ?_
            exact by_less
      · rw [g1] at hJ
        simp only [goRows] at hJ
        have cb := ok_before e.chains k (e.base + A) (by omega) (fun c h => by have := hv c h; omega)
        have hbn := before_ok hch k (e.base + A)
        obtain ⟨⟨vb, vm, vh, vn⟩, hbv⟩ : ∃ v, before e.chains k (e.base + A) = v := ⟨_, rfl⟩
        rw [hbv] at cb hbn
        have cp := ok_put r k vn true (by omega)
        have hpl := put_len r k vn true
        cases vh
        · rw [if_neg (by rw [hbv]; simp)] at hJ
          repeat (first | ((with_reducible apply s1); exact rfl) | (with_reducible first | apply CW.seq | apply CW.block | apply CW.region | apply CW.draw | apply CW.skip | apply CW.exit | apply CW.ret | apply q_then | apply q_then_exit | apply q_then_ret | apply q_block | apply q_block_ret | apply q_block_hit | apply q_ret | apply q_end | apply q_loop_exit | apply q_loop_ret | apply q_loopT_exit | apply q_loopT_ret | apply RW.nil) | ((with_reducible apply s3); exact rfl; exact by_k) | ((with_reducible apply s2); exact rfl; exact by_k) | ((with_reducible apply s4); exact rfl) | ((with_reducible apply s5); (first | (focus ((with_reducible apply a_call); exact cb; exact rfl; (repeat (first | exact SubsE.nil | (apply SubsE.cons; exact rfl; (first | exact .d (.refl _) | exact .d (.nil _) | exact .agg rfl (.refl _) | exact .pd | exact .ptr rfl); (first | exact trivial | exact ⟨rfl, trivial⟩)))); done)) | exact by_oa); exact by_g) | ((with_reducible apply CW.cond_t); exact rfl; exact by_ks) | ((with_reducible apply CW.cond_f); exact rfl; exact by_ks) | ((with_reducible apply q_block_miss); exact rfl) | (refine And.intro (show chk [] [] _ _ = true by kernel_rfl) ?_))
          refine q_loopT (j + 1, r) ⟨by dsimp only; omega, by dsimp only; omega, hrk, hJ⟩ (by dsimp only; omega) ?_
          exact by_less
        · rw [if_pos (by rw [hbv]), hbv] at hJ
          repeat (first | ((with_reducible apply s1); exact rfl) | (with_reducible first | apply CW.seq | apply CW.block | apply CW.region | apply CW.draw | apply CW.skip | apply CW.exit | apply CW.ret | apply q_then | apply q_then_exit | apply q_then_ret | apply q_block | apply q_block_ret | apply q_block_hit | apply q_ret | apply q_end | apply q_loop_exit | apply q_loop_ret | apply q_loopT_exit | apply q_loopT_ret | apply RW.nil) | ((with_reducible apply s3); exact rfl; exact by_k) | ((with_reducible apply s2); exact rfl; exact by_k) | ((with_reducible apply s4); exact rfl) | ((with_reducible apply s5); (first | (focus ((with_reducible apply a_call); exact cb; exact rfl; (repeat (first | exact SubsE.nil | (apply SubsE.cons; exact rfl; (first | exact .d (.refl _) | exact .d (.nil _) | exact .agg rfl (.refl _) | exact .pd | exact .ptr rfl); (first | exact trivial | exact ⟨rfl, trivial⟩)))); done)) | (focus ((with_reducible apply a_call); exact cp; exact rfl; (repeat (first | exact SubsE.nil | (apply SubsE.cons; exact rfl; (first | exact .d (.refl _) | exact .d (.nil _) | exact .agg rfl (.refl _) | exact .pd | exact .ptr rfl); (first | exact trivial | exact ⟨rfl, trivial⟩)))); done)) | exact by_oa); exact by_g) | ((with_reducible apply CW.cond_t); exact rfl; exact by_ks) | ((with_reducible apply CW.cond_f); exact rfl; exact by_ks) | ((with_reducible apply q_block_miss); exact rfl) | (refine And.intro (show chk [] [] _ _ = true by kernel_rfl) ?_))
          refine q_loopT (j + 1, put r k vn true) ⟨by dsimp only; omega, by dsimp only; omega, put_ok hrk k hbn true, hJ⟩ (by dsimp only; omega) ?_
          exact by_less
  · rw [if_neg a5]
    have a6 : ¬ (needs e A d).length = 0 := by simpa using a5
    repeat (first | ((with_reducible apply s1); exact rfl) | (with_reducible first | apply CW.seq | apply CW.block | apply CW.region | apply CW.draw | apply CW.skip | apply CW.exit | apply CW.ret | apply q_then | apply q_then_exit | apply q_then_ret | apply q_block | apply q_block_ret | apply q_block_hit | apply q_ret | apply q_end | apply q_loop_exit | apply q_loop_ret | apply q_loopT_exit | apply q_loopT_ret | apply RW.nil) | ((with_reducible apply s3); exact rfl; exact by_k) | ((with_reducible apply s2); exact rfl; exact by_k) | ((with_reducible apply s4); exact rfl) | ((with_reducible apply s5); (first | (focus ((with_reducible apply a_call); exact cn; exact rfl; (repeat (first | exact SubsE.nil | (apply SubsE.cons; exact rfl; (first | exact .d (.refl _) | exact .d (.nil _) | exact .agg rfl (.refl _) | exact .pd | exact .ptr rfl); (first | exact trivial | exact ⟨rfl, trivial⟩)))); done)) | exact by_oa); exact by_g) | ((with_reducible apply CW.cond_t); exact rfl; exact by_ks) | ((with_reducible apply CW.cond_f); exact rfl; exact by_ks) | ((with_reducible apply q_block_miss); exact rfl) | (refine And.intro (show chk [] [] _ _ = true by kernel_rfl) ?_))
    exact .two (.cell rfl rfl rfl rfl (.aggd (ds := e.enc) rfl (.refl _))) (.tmp rfl (.one (.d (.refl _))))

end Go.Proofs.YtjgbmdonhabmiaaGreatDoor

/-! F20 -/
/-
  Engines as they are built: what holds of them; plain facts.
-/
namespace Go.Proofs.YtjgbmdonhabmiaaGreatDoor
open Go.AX Go.RF

structure EInv (e : Engine) (N : Nat) : Prop where
  z : Engine.Sz e N
  o : ∀ d ∈ e.deeds, Deed.Ok d
  c : chOk e.chains

theorem EInv.mono {e : Engine} {N M : Nat} (h : EInv e N) (hm : N ≤ M) : EInv e M := by
  obtain ⟨hz, ho, hc⟩ := h
  refine ⟨⟨by have := hz.c; omega, fun c hc => by have := hz.v c hc; omega, by have := hz.d; omega, hz.s, hz.n, by have := hz.b; omega, hz.dd⟩, ho, hc⟩

theorem codeGo_mem {d : Deed} : ∀ {l : List Ins} {k : Nat}, codeGo d k l = 0 → ∀ j i, l[j]? = some i → wrongIns d ((d.code.length : Int) - 1 - ((k + j : Nat) : Int)) i = 0
  | [], k, _, j, i, hj => by simp at hj
  | x :: l, k, h, j, i, hj => by
    simp only [codeGo] at h
    by_cases h0 : wrongIns d ((d.code.length : Int) - 1 - k) x = 0
    · rw [if_pos h0] at h
      cases j with
      | zero => simp at hj; subst hj; simpa using h0
      | succ j =>
        have := codeGo_mem h j i (by simpa using hj)
        rw [show k + (j + 1) = k + 1 + j by omega]
        exact this
    · rw [if_neg h0] at h; exact absurd h h0

theorem has_ins {k : Int} (h : 1 ≤ k ∧ k ≤ 9) : insA k.toNat ≤ 3 ∧ insB k.toNat ≤ 3 := by
  unfold insA insB
  constructor <;> split <;> omega

theorem wrongIns_ok {d : Deed} {m : Int} (hm : m ≤ 11) {i : Ins} (h : wrongIns d m i = 0) : i.Ok := by
  unfold wrongIns at h
  by_cases hk : i.kind < 1 ∨ 9 < i.kind
  · rw [if_pos hk] at h; simp at h
  rw [if_neg hk] at h
  by_cases ho : insOut i.kind.toNat i.a i.b i.n m = true
  · rw [if_pos ho] at h; simp at h
  have hkk : 1 ≤ i.kind ∧ i.kind ≤ 9 := by omega
  have hs := has_ins hkk
  simp only [insOut, Bool.or_eq_true, decide_eq_true_eq, not_or] at ho
  obtain ⟨h1, h2, h3, h4, h5, h6⟩ := ho
  refine ⟨hkk, by omega, by omega, fun hc => ?_, fun hc => ?_⟩
  · rw [hc] at h5 h6
    simp [insLow, insHigh] at h5 h6
    unfold nOk; omega
  · rw [hc] at h5 h6
    simp [insLow, insHigh] at h5 h6
    omega

theorem wrongDeed_ok {d : Deed} (h : wrongDeed d = 0) : Deed.Ok d := by
  obtain ⟨h1, h2, h3⟩ := wrong_writes h
  refine ⟨fun i hi => ?_, h1, h2, h3⟩
  unfold wrongDeed at h
  by_cases h0 : lsGo [d.reads, d.writes] = 0
  · rw [if_pos h0] at h
    by_cases hc : 12 < d.code.length
    · rw [if_pos hc] at h; simp at h
    · rw [if_neg hc] at h
      obtain ⟨j, hj⟩ := List.getElem?_of_mem hi
      exact wrongIns_ok (by omega) (codeGo_mem h j i hj)
  · rw [if_neg h0] at h; exact absurd h h0

theorem addGo_ch {k : Str} {b : Int} {P : Version → Prop} (h0 : P ⟨b, false, false, 0⟩) : ∀ {l : List Chain} {dn : Bool} {out : List Chain}, (∀ c ∈ l, ∀ v ∈ c.vs, P v) → (∀ c ∈ out, ∀ v ∈ c.vs, P v) → ∀ c ∈ addGo k b dn out l, ∀ v ∈ c.vs, P v
  | [], dn, out, _, ho, c, hc => by
    simp only [addGo] at hc
    split at hc
    · exact ho c hc
    · rcases List.mem_append.1 hc with hc | hc
      · exact ho c hc
      · simp at hc; subst hc; simpa using h0
  | x :: l, dn, out, hl, ho, c, hc => by
    simp only [addGo] at hc
    have h1 : ∀ (g : Bool), ∀ c ∈ (if g = true then out ++ [⟨k, [⟨b, false, false, 0⟩]⟩] else out), ∀ v ∈ c.vs, P v := by
      intro g c hc
      split at hc
      · rcases List.mem_append.1 hc with hc | hc
        · exact ho c hc
        · simp at hc; subst hc; simpa using h0
      · exact ho c hc
    have hx := hl x (List.mem_cons_self ..)
    split at hc
    · refine addGo_ch h0 (fun c hc => hl c (List.mem_cons_of_mem _ hc)) (fun c hc => ?_) c hc
      rcases List.mem_append.1 hc with hc | hc
      · exact h1 _ c hc
      · simp at hc; subst hc
        intro v hv
        rcases List.mem_append.1 hv with hv | hv
        · exact hx v hv
        · simp at hv; subst hv; exact h0
    · refine addGo_ch h0 (fun c hc => hl c (List.mem_cons_of_mem _ hc)) (fun c hc => ?_) c hc
      rcases List.mem_append.1 hc with hc | hc
      · exact h1 _ c hc
      · simp at hc; subst hc; exact hx
theorem addC_ok {l : List Chain} (h : chOk l) (k : Str) (b : Int) : chOk (addC l k b) := addGo_ch (P := fun v => nOk v.n) (by simp [nOk]) h (by simp)
theorem addKeys_ok {b : Int} : ∀ {ks : List Str} {l : List Chain}, chOk l → chOk (addKeys b l ks)
  | [], l, h => h
  | k :: ks, l, h => by simp only [addKeys]; exact addKeys_ok (addC_ok h k b)
theorem EInv.add1 {e : Engine} {N : Nat} (h : EInv e N) {d : Deed} (hs : d.Sm) (ho : Deed.Ok d) : EInv (add1 e d) (N + 5) := by
  refine ⟨add1_sz h.z hs ho.w, fun x hx => ?_, addKeys_ok h.c⟩
  rcases List.mem_append.1 hx with hx | hx
  · exact h.o x hx
  · simp at hx; subst hx; exact ho
theorem EInv.addAll : ∀ {l : List Deed} {e : Engine} {N : Nat}, EInv e N → (∀ d ∈ l, d.Sm ∧ Deed.Ok d) → EInv (addAll e l) (N + 5 * l.length)
  | [], e, N, h, _ => h
  | d :: l, e, N, h, hl => by
    have := EInv.addAll (h.add1 (hl d (List.mem_cons_self ..)).1 (hl d (List.mem_cons_self ..)).2) fun x hx => hl x (List.mem_cons_of_mem _ hx)
    simp only [RF.addAll, List.length_cons]
    rw [show N + 5 * (l.length + 1) = N + 5 + 5 * l.length by omega]
    exact this
theorem EInv.addE {e : Engine} {N : Nat} (h : EInv e N) {l : List Deed} (hs : ∀ d ∈ l, d.Sm) (hw : (addE e l).2 = 0) : EInv (addE e l).1 (N + 5 * l.length) := by
  unfold RF.addE at hw ⊢
  by_cases h0 : wrongs l = 0
  · rw [if_pos h0]
    exact h.addAll fun d hd => ⟨hs d hd, wrongDeed_ok (wrongs_mem h0 d hd)⟩
  · rw [if_neg h0] at hw; exact absurd hw h0
theorem newE_inv {r : List Pair} (hr : rowsOk r) : EInv (newE r) (r.length + 1) := by
  refine ⟨⟨by simp [newE], fun c hc => ?_, by simp [newE], by simp [newE], by simp [newE], by simp [newE]; omega, by simp [newE]⟩, by simp [newE], fun c hc v hv => ?_⟩
  · obtain ⟨p, hp, rfl⟩ := List.mem_map.1 hc
    simp [rowChain]
  · obtain ⟨p, hp, rfl⟩ := List.mem_map.1 hc
    simp [rowChain] at hv
    subst hv
    exact hr p hp

theorem doGo_ok {r0 : List Pair} (h0 : rowsOk r0) : ∀ {l : List Ins} {sk : Int} {now : List Pair} {e : Done}, (∀ i ∈ l, i.Ok) → rowsOk now → e.Ok → rowsOk (doGo r0 sk now e l).1 ∧ (doGo r0 sk now e l).2.Ok
  | [], sk, now, e, _, hn, he => ⟨hn, he⟩
  | i :: l, sk, now, e, hl, hn, he => by
    have hio := hl i (List.mem_cons_self ..)
    have ih := fun (sk : Int) (now : List Pair) (e : Done) (h1 : rowsOk now) (h2 : e.Ok) => doGo_ok h0 (l := l) (sk := sk) (now := now) (e := e) (fun j hj => hl j (List.mem_cons_of_mem _ hj)) h1 h2
    simp only [doGo]
    split
    · exact ih _ _ _ hn he
    split
    · exact ih _ _ _ hn (rset_ok he _ (get_ok hn _))
    split
    · next hk => exact ih _ _ _ hn (rset_ok he _ (hio.c hk))
    split
    · exact ih _ _ _ hn (rset_ok he _ (round_ok _))
    split
    · exact ih _ _ _ hn (rset_ok he _ (round_ok _))
    split
    · exact ih _ _ _ hn (rset_ok he _ (round_ok _))
    split
    · exact ih _ _ _ (put_ok hn _ (rget_ok he _) _) he
    split
    · exact ih _ _ _ (put_ok hn _ (by simp [nOk]) _) he
    split
    · exact ih _ _ _ hn he
    split
    · exact ⟨h0, ⟨he.a, he.b, he.c, he.d⟩⟩
    · exact ih _ _ _ hn he
theorem done0_ok : done0.Ok := ⟨by simp [nOk, done0], by simp [nOk, done0], by simp [nOk, done0], by simp [nOk, done0]⟩
theorem doD_ok {r : List Pair} {d : Deed} (h0 : rowsOk r) (hd : Deed.Ok d) : rowsOk (doD r d).1 := (doGo_ok h0 hd.i h0 done0_ok).1
theorem set_ok {l : List Chain} (h : chOk l) (k : Str) {v : Version} (hv : nOk v.n) : chOk (setChains l k v) := by
  intro c hc w hw
  obtain ⟨c0, h0, rfl⟩ := List.mem_map.1 hc
  simp only [setC] at hw
  obtain ⟨w0, hw0, rfl⟩ := List.mem_map.1 hw
  unfold setV
  split
  · exact hv
  · exact h c0 h0 w0 hw0
theorem goSets_ok {r : List Pair} (hr : rowsOk r) {b : Int} {M : Nat} : ∀ {ks : List Str} {l : List Chain}, chOk l → (∀ c ∈ l, c.vs.length ≤ M) → chOk (goSets r b l ks) ∧ (goSets r b l ks).length = l.length ∧ ∀ c ∈ goSets r b l ks, c.vs.length ≤ M
  | [], l, h, hv => ⟨h, rfl, hv⟩
  | k :: ks, l, h, hv => by
    simp only [goSets]
    have := goSets_ok hr (b := b) (ks := ks) (set_ok h k (v := ⟨b, true, (RF.get r k).2, (RF.get r k).1⟩) (get_ok hr k)) (set_vs hv)
    refine ⟨this.1, by rw [this.2.1]; simp [setChains], this.2.2⟩
theorem EInv.goNew {e : Engine} {N : Nat} (h : EInv e N) {A : Nat} {d : Deed} (hd : d ∈ e.deeds) : EInv (goNew e A d) N := by
  obtain ⟨hz, ho, hc⟩ := h
  have hr := doD_ok (goRows_ok (b := e.base + A) hc (ks := keysD d) (r := []) (by simp [rowsOk])).1 (ho d hd)
  have := goSets_ok hr (b := e.base + A) (ks := d.writes) hc hz.v
  refine ⟨⟨?_, this.2.2, hz.d, ?_, ?_, hz.b, hz.dd⟩, ho, this.1⟩
  · show (goSets _ _ _ _).length ≤ N
    rw [goDone, this.2.1]; exact hz.c
  · simp [Proofs.YtjgbmdonhabmiaaGreatDoor.goNew]; exact hz.s
  · simp [Proofs.YtjgbmdonhabmiaaGreatDoor.goNew]; exact hz.n
theorem EInv.goE {e : Engine} {N : Nat} (h : EInv e N) (at_ : Int) : EInv (goE e at_).1 N := by
  unfold Proofs.YtjgbmdonhabmiaaGreatDoor.goE
  split
  · exact h
  unfold goAt
  cases hA : e.deeds[at_.toNat]? with
  | none => exact h
  | some d =>
    dsimp only
    split
    · exact h
    split
    · exact h.goNew (List.mem_of_getElem? hA)
    · exact h
theorem clrV_sub {b : Int} : ∀ {l : List Version} {v : Version}, v ∈ clrV b l → v ∈ l
  | [], v, h => by simp [clrV] at h
  | x :: l, v, h => by
    simp only [clrV] at h
    split at h
    · exact List.mem_cons_of_mem _ (clrV_sub h)
    · rcases List.mem_cons.1 h with rfl | h
      · exact List.mem_cons_self ..
      · exact List.mem_cons_of_mem _ (clrV_sub h)
theorem clrV_len {b : Int} : ∀ (l : List Version), (clrV b l).length ≤ l.length
  | [] => by simp [clrV]
  | x :: l => by
    have := clrV_len (b := b) l
    simp only [clrV]
    split <;> simp <;> omega
theorem clear_mem {b : Int} : ∀ {l : List Chain} {c : Chain}, c ∈ clear b l → ∃ c0 ∈ l, c = ⟨c0.key, clrV b c0.vs⟩
  | [], c, h => by simp [clear] at h
  | x :: l, c, h => by
    simp only [clear] at h
    split at h
    · obtain ⟨c0, h0, h1⟩ := clear_mem h
      exact ⟨c0, List.mem_cons_of_mem _ h0, h1⟩
    · rcases List.mem_cons.1 h with rfl | h
      · exact ⟨x, List.mem_cons_self .., rfl⟩
      · obtain ⟨c0, h0, h1⟩ := clear_mem h
        exact ⟨c0, List.mem_cons_of_mem _ h0, h1⟩
theorem clear_len {b : Int} : ∀ (l : List Chain), (clear b l).length ≤ l.length
  | [] => by simp [clear]
  | x :: l => by
    have := clear_len (b := b) l
    simp only [clear]
    split <;> simp <;> omega
theorem EInv.clearE {e : Engine} {N : Nat} (h : EInv e N) : EInv (clearE e) N := by
  obtain ⟨hz, ho, hc⟩ := h
  have hm := markN_le e.state
  have hsl := hz.s
  have hnl := hz.n
  have hd := hz.d
  have hb := hz.b
  refine ⟨⟨?_, fun c hcc => ?_, ?_, ?_, ?_, ?_, fun d hd => hz.dd d (List.mem_of_mem_drop hd)⟩, fun d hd => ho d (List.mem_of_mem_drop hd), fun c hcc v hv => ?_⟩
  · have := clear_len (b := e.base + markN e.state) e.chains
    have := hz.c
    simp only [RF.clearE]; omega
  · obtain ⟨c0, h0, rfl⟩ := clear_mem hcc
    have := clrV_len (b := e.base + markN e.state) c0.vs
    have := hz.v c0 h0
    simp only []; omega
  · simp only [RF.clearE, List.length_drop]; omega
  · simp only [RF.clearE, List.length_drop]; omega
  · simp only [RF.clearE, List.length_drop]; omega
  · simp only [RF.clearE, List.length_drop]; omega
  · obtain ⟨c0, h0, rfl⟩ := clear_mem hcc
    exact hc c0 h0 v (clrV_sub hv)

end Go.Proofs.YtjgbmdonhabmiaaGreatDoor

/-! F21 -/
/-
  Contract of the references' Build of engines.
-/
namespace Go.Proofs.YtjgbmdonhabmiaaGreatDoor
open Go.AX Go.RF

set_option maxRecDepth 100000
set_option maxHeartbeats 8000000

def pickE (e : Engine) (n : Int) : Engine := if n = 7 then clearE e else if n < 0 then e else match (ready e)[n.toNat]? with
  | some x => (goE e x).1
  | none => e
def pickGo : Nat → Engine → List Int → Engine × List Int
  | 0, e, p => (e, p)
  | _ + 1, e, [] => (e, [])
  | k + 1, e, n :: p => pickGo k (pickE e n) p
def batchE (e : Engine) (b : List Deed) : Engine := if (addE e b).2 = 0 then (addE e b).1 else e
def buildGo : Engine → List (List Deed) → List Int → Engine
  | e, [], _ => e
  | e, b :: bs, p => buildGo (pickGo 3 (batchE e b) p).1 bs (pickGo 3 (batchE e b) p).2
def buildE (r : List Pair) (bs : List (List Deed)) (p : List Int) : Engine := buildGo (newE r) bs p
def sumLen : List (List Deed) → Nat
  | [] => 0
  | b :: bs => b.length + sumLen bs

theorem EInv.pickE {e : Engine} {N : Nat} (h : EInv e N) (n : Int) : EInv (pickE e n) N := by
  unfold Proofs.YtjgbmdonhabmiaaGreatDoor.pickE
  split
  · exact h.clearE
  split
  · exact h
  split
  · exact h.goE _
  · exact h
theorem EInv.batchE {e : Engine} {N : Nat} (h : EInv e N) {b : List Deed} (hs : ∀ d ∈ b, d.Sm) : EInv (batchE e b) (N + 5 * b.length) := by
  unfold Proofs.YtjgbmdonhabmiaaGreatDoor.batchE
  split
  · next hw => exact h.addE hs hw
  · exact h.mono (by omega)
theorem EInv.pickGo : ∀ {k : Nat} {e : Engine} {p : List Int} {N : Nat}, EInv e N → EInv (pickGo k e p).1 N
  | 0, e, p, N, h => h
  | k + 1, e, [], N, h => h
  | k + 1, e, n :: p, N, h => by
    simp only [Proofs.YtjgbmdonhabmiaaGreatDoor.pickGo]
    exact EInv.pickGo (h.pickE n)
theorem EInv.buildGo : ∀ {bs : List (List Deed)} {e : Engine} {p : List Int} {N : Nat}, EInv e N → (∀ b ∈ bs, ∀ d ∈ b, d.Sm) → EInv (buildGo e bs p) (N + 5 * sumLen bs)
  | [], e, p, N, h, _ => h
  | b :: bs, e, p, N, h, hb => by
    simp only [Proofs.YtjgbmdonhabmiaaGreatDoor.buildGo, sumLen]
    have := EInv.buildGo (p := (Proofs.YtjgbmdonhabmiaaGreatDoor.pickGo 3 (Proofs.YtjgbmdonhabmiaaGreatDoor.batchE e b) p).2) ((h.batchE (hb b (List.mem_cons_self ..))).pickGo (k := 3) (p := p)) fun x hx => hb x (List.mem_cons_of_mem _ hx)
    rw [show N + 5 * (b.length + sumLen bs) = N + 5 * b.length + 5 * sumLen bs by omega]
    exact this
theorem sumLen_at : ∀ {bs : List (List Deed)} {j : Nat} {b : List Deed}, bs[j]? = some b → b.length + sumLen (bs.drop (j + 1)) = sumLen (bs.drop j)
  | [], j, b, h => by simp at h
  | x :: bs, 0, b, h => by simp at h; subst h; simp [sumLen]
  | x :: bs, j + 1, b, h => by simpa using sumLen_at (bs := bs) (j := j) (by simpa using h)

theorem readyGo_len {e : Engine} : ∀ (l : List Int) (i : Nat), (readyGo e i l).length ≤ l.length
  | [], i => by simp [readyGo]
  | s :: l, i => by
    have := readyGo_len (e := e) l (i + 1)
    simp only [readyGo]
    split <;> simp <;> omega

theorem ok_rBuild (r : List Pair) (bs : List (List Deed)) (p : List Int) (hr : rowsOk r) (hrl : r.length ≤ 10000000) (hb : ∀ b ∈ bs, b.length ≤ 10000000 ∧ ∀ d ∈ b, d.Sm) (hbl : bs.length ≤ 10000000) (hsum : sumLen bs ≤ 10000000) (hp : p.length ≤ 10000000) :
    FnOk Tryz.prog 8 [.d (encRows r), .d (encBatches bs), .d (encInts p)] (.one (.agg (buildE r bs p).enc)) := by
  refine fnOk_of tbl_ok mixed_ok Tryz.func8 rfl (by kernel_rfl) rfl rfl fun w0 own0 => ?_
  have cn := ok_new r (by omega)
  repeat (first | ((with_reducible apply s1); exact rfl) | (with_reducible first | apply CW.seq | apply CW.block | apply CW.region | apply CW.draw | apply CW.skip | apply CW.exit | apply CW.ret | apply q_then | apply q_then_exit | apply q_then_ret | apply q_block | apply q_block_ret | apply q_block_hit | apply q_ret | apply q_end | apply q_loop_exit | apply q_loop_ret | apply q_loopT_exit | apply q_loopT_ret | apply RW.nil) | ((with_reducible apply s3); exact rfl; exact by_k) | ((with_reducible apply s2); exact rfl; exact by_k) | ((with_reducible apply s4); exact rfl) | ((with_reducible apply s5); (first | (focus ((with_reducible apply a_call); exact cn; exact rfl; (repeat (first | exact SubsE.nil | (apply SubsE.cons; exact rfl; (first | exact .d (.refl _) | exact .d (.nil _) | exact .agg rfl (.refl _) | exact .pd | exact .ptr rfl); (first | exact trivial | exact ⟨rfl, trivial⟩)))); done)) | exact by_oa); exact by_g) | ((with_reducible apply CW.cond_t); exact rfl; exact by_ks) | ((with_reducible apply CW.cond_f); exact rfl; exact by_ks) | ((with_reducible apply q_block_miss); exact rfl) | (refine And.intro (show chk [] [] _ _ = true by kernel_rfl) ?_))
  refine CW.loopT (fun t : Nat × Engine × List Int => [sp 6 0, ob 0 noE.enc0, sp 7 1, ob 1 t.2.1.enc, sd 2 (encInts t.2.2), sd 17 (encBatches bs), sd 18 (dint bs.length), sd 19 (dint t.1), nxt 2])
    (fun t => t.1 ≤ bs.length ∧ t.2.2.length ≤ 10000000 ∧ (∃ M, M + 5 * sumLen (bs.drop t.1) ≤ 90000000 ∧ EInv t.2.1 M) ∧ buildGo t.2.1 (bs.drop t.1) t.2.2 = buildE r bs p) (fun t => bs.length - t.1) (0, newE r, p)
    ⟨by omega, hp, ⟨r.length + 1, by simp; omega, newE_inv hr⟩, rfl⟩ ?_ ?_
  ·
    exact by_less
  · rintro ⟨i, e, q⟩ ⟨hi, hq, ⟨M, hM, hE⟩, hI⟩
    dsimp only at hi hq hM hE hI ⊢
    rcases drop_case hi with ⟨h1, h2⟩ | ⟨b, h1, h2, h3⟩
    · rw [h1] at hI
      simp only [buildGo] at hI
      repeat (first | ((with_reducible apply s1); exact rfl) | (with_reducible first | apply CW.seq | apply CW.block | apply CW.region | apply CW.draw | apply CW.skip | apply CW.exit | apply CW.ret | apply q_then | apply q_then_exit | apply q_then_ret | apply q_block | apply q_block_ret | apply q_block_hit | apply q_ret | apply q_end | apply q_loop_exit | apply q_loop_ret | apply q_loopT_exit | apply q_loopT_ret | apply RW.nil) | ((with_reducible apply s3); exact rfl; exact by_k) | ((with_reducible apply s2); exact rfl; exact by_k) | ((with_reducible apply s4); exact rfl) | ((with_reducible apply s5); (first | exact by_oa); exact by_g) | ((with_reducible apply CW.cond_t); exact rfl; exact by_ks) | ((with_reducible apply CW.cond_f); exact rfl; exact by_ks) | ((with_reducible apply q_block_miss); exact rfl) | (refine And.intro (show chk [] [] _ _ = true by kernel_rfl) ?_))
      exact .one (.cell rfl rfl rfl rfl (.aggd (ds := e.enc) rfl (dle_eq (by rw [hI]))))
    · have hsl := sumLen_at h2
      rw [h1] at hI
      simp only [buildGo] at hI
      obtain ⟨hbl1, hbs⟩ := hb b (List.mem_of_getElem? h2)
      have ca := ok_addE e b M hE.z hbs (by omega) (by omega)
      have hE2 : EInv (batchE e b) (M + 5 * b.length) := hE.batchE hbs
      have hM2 : M + 5 * b.length + 5 * sumLen (bs.drop (i + 1)) ≤ 90000000 := by omega
      repeat (first | ((with_reducible apply stop_at 5); exact rfl) | ((with_reducible apply s1); exact rfl) | (with_reducible first | apply CW.seq | apply CW.block | apply CW.region | apply CW.draw | apply CW.skip | apply CW.exit | apply CW.ret | apply q_then | apply q_then_exit | apply q_then_ret | apply q_block | apply q_block_ret | apply q_block_hit | apply q_ret | apply q_end | apply q_loop_exit | apply q_loop_ret | apply q_loopT_exit | apply q_loopT_ret | apply RW.nil) | ((with_reducible apply s3); exact rfl; exact by_k) | ((with_reducible apply s2); exact rfl; exact by_k) | ((with_reducible apply s4); exact rfl) | ((with_reducible apply s5); (first | exact by_oa); exact by_g) | ((with_reducible apply CW.cond_t); exact rfl; exact by_ks) | ((with_reducible apply CW.cond_f); exact rfl; exact by_ks) | ((with_reducible apply q_block_miss); exact rfl) | (refine And.intro (show chk [] [] _ _ = true by kernel_rfl) ?_))
      refine Stop.cutk [ob 1 (batchE e b).enc] [.s 6, .o 0, .s 7, .s 2, .s 17, .s 18, .s 19, .nx] ?_ ?_
      · unfold batchE
        by_cases h0 : (addE e b).2 = 0
        · rw [if_pos h0]
          repeat (first | ((with_reducible apply s1); exact rfl) | (with_reducible first | apply CW.seq | apply CW.block | apply CW.region | apply CW.draw | apply CW.skip | apply CW.exit | apply CW.ret | apply q_then | apply q_then_exit | apply q_then_ret | apply q_block | apply q_block_ret | apply q_block_hit | apply q_ret | apply q_end | apply q_loop_exit | apply q_loop_ret | apply q_loopT_exit | apply q_loopT_ret | apply RW.nil) | ((with_reducible apply s3); exact rfl; exact by_k) | ((with_reducible apply s2); exact rfl; exact by_k) | ((with_reducible apply s4); exact rfl) | ((with_reducible apply s5); (first | (focus ((with_reducible apply a_call); exact ca; exact rfl; (repeat (first | exact SubsE.nil | (apply SubsE.cons; exact rfl; (first | exact .d (.refl _) | exact .d (.nil _) | exact .agg rfl (.refl _) | exact .pd | exact .ptr rfl); (first | exact trivial | exact ⟨rfl, trivial⟩)))); done)) | exact by_oa); exact by_g) | ((with_reducible apply CW.cond_t); exact rfl; exact by_ks) | ((with_reducible apply CW.cond_f); exact rfl; exact by_ks) | ((with_reducible apply q_block_miss); exact rfl) | (refine And.intro (show chk [] [] _ _ = true by kernel_rfl) ?_))
          refine q_cut ?_
          exact by_less
        · rw [if_neg h0]
          repeat (first | ((with_reducible apply s1); exact rfl) | (with_reducible first | apply CW.seq | apply CW.block | apply CW.region | apply CW.draw | apply CW.skip | apply CW.exit | apply CW.ret | apply q_then | apply q_then_exit | apply q_then_ret | apply q_block | apply q_block_ret | apply q_block_hit | apply q_ret | apply q_end | apply q_loop_exit | apply q_loop_ret | apply q_loopT_exit | apply q_loopT_ret | apply RW.nil) | ((with_reducible apply s3); exact rfl; exact by_k) | ((with_reducible apply s2); exact rfl; exact by_k) | ((with_reducible apply s4); exact rfl) | ((with_reducible apply s5); (first | (focus ((with_reducible apply a_call); exact ca; exact rfl; (repeat (first | exact SubsE.nil | (apply SubsE.cons; exact rfl; (first | exact .d (.refl _) | exact .d (.nil _) | exact .agg rfl (.refl _) | exact .pd | exact .ptr rfl); (first | exact trivial | exact ⟨rfl, trivial⟩)))); done)) | exact by_oa); exact by_g) | ((with_reducible apply CW.cond_t); exact rfl; exact by_ks) | ((with_reducible apply CW.cond_f); exact rfl; exact by_ks) | ((with_reducible apply q_block_miss); exact rfl) | (refine And.intro (show chk [] [] _ _ = true by kernel_rfl) ?_))
          refine q_cut ?_
          exact by_less
      generalize M + 5 * b.length = M2 at hE2 hM2
      generalize batchE e b = e2 at hE2 hI
      clear ca hE hM h1
      repeat (first | ((with_reducible apply s1); exact rfl) | (with_reducible first | apply CW.seq | apply CW.block | apply CW.region | apply CW.draw | apply CW.skip | apply CW.exit | apply CW.ret | apply q_then | apply q_then_exit | apply q_then_ret | apply q_block | apply q_block_ret | apply q_block_hit | apply q_ret | apply q_end | apply q_loop_exit | apply q_loop_ret | apply q_loopT_exit | apply q_loopT_ret | apply RW.nil) | ((with_reducible apply s3); exact rfl; exact by_k) | ((with_reducible apply s2); exact rfl; exact by_k) | ((with_reducible apply s4); exact rfl) | ((with_reducible apply s5); (first | exact by_oa); exact by_g) | ((with_reducible apply CW.cond_t); exact rfl; exact by_ks) | ((with_reducible apply CW.cond_f); exact rfl; exact by_ks) | ((with_reducible apply q_block_miss); exact rfl) | (refine And.intro (show chk [] [] _ _ = true by kernel_rfl) ?_))
      refine CW.loopT (fun t : Nat × Engine × List Int => [sp 6 0, ob 0 noE.enc0, sp 7 1, ob 1 t.2.1.enc, sd 2 (encInts t.2.2), sd 17 (encBatches bs), sd 18 (dint bs.length), sd 19 (dint i), sd 32 (dint t.1), nxt 2])
        (fun t => t.1 ≤ 3 ∧ t.2.2.length ≤ 10000000 ∧ EInv t.2.1 M2 ∧ pickGo (3 - t.1) t.2.1 t.2.2 = pickGo 3 e2 q) (fun t => 3 - t.1) (0, e2, q) ⟨by omega, hq, hE2, rfl⟩ ?_ ?_
      ·
        exact by_less
      · rintro ⟨k, e, q'⟩ ⟨hk, hq', hE, hK⟩
        dsimp only at hk hq' hE hK ⊢
        by_cases k3 : k = 3
        · subst k3
          simp only [Nat.sub_self, pickGo] at hK
          rw [← hK] at hI
          dsimp only at hI
          repeat (first | ((with_reducible apply s1); exact rfl) | (with_reducible first | apply CW.seq | apply CW.block | apply CW.region | apply CW.draw | apply CW.skip | apply CW.exit | apply CW.ret | apply q_then | apply q_then_exit | apply q_then_ret | apply q_block | apply q_block_ret | apply q_block_hit | apply q_ret | apply q_end | apply q_loop_exit | apply q_loop_ret | apply q_loopT_exit | apply q_loopT_ret | apply RW.nil) | ((with_reducible apply s3); exact rfl; exact by_k) | ((with_reducible apply s2); exact rfl; exact by_k) | ((with_reducible apply s4); exact rfl) | ((with_reducible apply s5); (first | exact by_oa); exact by_g) | ((with_reducible apply CW.cond_t); exact rfl; exact by_ks) | ((with_reducible apply CW.cond_f); exact rfl; exact by_ks) | ((with_reducible apply q_block_miss); exact rfl) | (refine And.intro (show chk [] [] _ _ = true by kernel_rfl) ?_))
          refine q_loopT (i + 1, e, q') ⟨by dsimp only; omega, hq', ⟨M2, hM2, hE⟩, hI⟩ (by dsimp only; omega) ?_
          exact by_less
        obtain ⟨j, hj⟩ : ∃ j, 3 - k = j + 1 := ⟨2 - k, by omega⟩
        rw [hj] at hK
        cases q' with
        | nil =>
          simp only [pickGo] at hK
          rw [← hK] at hI
          dsimp only at hI
          repeat (first | ((with_reducible apply s1); exact rfl) | (with_reducible first | apply CW.seq | apply CW.block | apply CW.region | apply CW.draw | apply CW.skip | apply CW.exit | apply CW.ret | apply q_then | apply q_then_exit | apply q_then_ret | apply q_block | apply q_block_ret | apply q_block_hit | apply q_ret | apply q_end | apply q_loop_exit | apply q_loop_ret | apply q_loopT_exit | apply q_loopT_ret | apply RW.nil) | ((with_reducible apply s3); exact rfl; exact by_k) | ((with_reducible apply s2); exact rfl; exact by_k) | ((with_reducible apply s4); exact rfl) | ((with_reducible apply s5); (first | exact by_oa); exact by_g) | ((with_reducible apply CW.cond_t); exact rfl; exact by_ks) | ((with_reducible apply CW.cond_f); exact rfl; exact by_ks) | ((with_reducible apply q_block_miss); exact rfl) | (refine And.intro (show chk [] [] _ _ = true by kernel_rfl) ?_))
          refine q_loopT (i + 1, e, []) ⟨by dsimp only; omega, by simp, ⟨M2, hM2, hE⟩, hI⟩ (by dsimp only; omega) ?_
          exact by_less
        | cons n q' =>
          simp only [pickGo] at hK
          have hn0 : ¬ (n :: q').length = 0 := by simp
          have hp0 : (n :: q')[0]? = some n := rfl
          have hsm := hE.z.sm (by omega)
          have cr := ok_ready e hsm hE.z.s
          have cc := ok_clearE e hsm hE.z.s hE.z.n
          have hrl2 : (ready e).length ≤ 100000000 := by
            have := readyGo_len (e := e) e.state 0
            have h5 := hE.z.d
            have h6 := hE.z.s
            unfold ready; omega
          have hEn := hE.pickE n
          have hql : q'.length ≤ 10000000 := by simp at hq'; omega
          have hjk : j = 3 - (k + 1) := by omega
          subst hjk
          by_cases n7 : n = 7
          · rw [pickE, if_pos n7] at hK hEn
            repeat (first | ((with_reducible apply s1); exact rfl) | (with_reducible first | apply CW.seq | apply CW.block | apply CW.region | apply CW.draw | apply CW.skip | apply CW.exit | apply CW.ret | apply q_then | apply q_then_exit | apply q_then_ret | apply q_block | apply q_block_ret | apply q_block_hit | apply q_ret | apply q_end | apply q_loop_exit | apply q_loop_ret | apply q_loopT_exit | apply q_loopT_ret | apply RW.nil) | ((with_reducible apply s3); exact rfl; exact by_k) | ((with_reducible apply s2); exact rfl; exact by_k) | ((with_reducible apply s4); exact rfl) | ((with_reducible apply s5); (first | (focus ((with_reducible apply a_call); exact cr; exact rfl; (repeat (first | exact SubsE.nil | (apply SubsE.cons; exact rfl; (first | exact .d (.refl _) | exact .d (.nil _) | exact .agg rfl (.refl _) | exact .pd | exact .ptr rfl); (first | exact trivial | exact ⟨rfl, trivial⟩)))); done)) | (focus ((with_reducible apply a_call); exact cc; exact rfl; (repeat (first | exact SubsE.nil | (apply SubsE.cons; exact rfl; (first | exact .d (.refl _) | exact .d (.nil _) | exact .agg rfl (.refl _) | exact .pd | exact .ptr rfl); (first | exact trivial | exact ⟨rfl, trivial⟩)))); done)) | ((with_reducible apply a_ia); (iterate 5 exact rfl); exact idx_map (k := 0) hp0) | ((with_reducible apply a_from); (iterate 5 exact rfl); exact cut_from (n := 1) (by simp)) | exact by_oa); exact by_g) | ((with_reducible apply CW.cond_t); exact rfl; exact by_ks) | ((with_reducible apply CW.cond_f); exact rfl; exact by_ks) | ((with_reducible apply q_block_miss); exact rfl) | (refine And.intro (show chk [] [] _ _ = true by kernel_rfl) ?_))
            refine q_loopT (k + 1, clearE e, q') ⟨by dsimp only; omega, hql, hEn, hK⟩ (by dsimp only; omega) ?_
            exact by_less
          rw [pickE, if_neg n7] at hK hEn
          by_cases n0 : n < 0
          · rw [if_pos n0] at hK hEn
            repeat (first | ((with_reducible apply s1); exact rfl) | (with_reducible first | apply CW.seq | apply CW.block | apply CW.region | apply CW.draw | apply CW.skip | apply CW.exit | apply CW.ret | apply q_then | apply q_then_exit | apply q_then_ret | apply q_block | apply q_block_ret | apply q_block_hit | apply q_ret | apply q_end | apply q_loop_exit | apply q_loop_ret | apply q_loopT_exit | apply q_loopT_ret | apply RW.nil) | ((with_reducible apply s3); exact rfl; exact by_k) | ((with_reducible apply s2); exact rfl; exact by_k) | ((with_reducible apply s4); exact rfl) | ((with_reducible apply s5); (first | (focus ((with_reducible apply a_call); exact cr; exact rfl; (repeat (first | exact SubsE.nil | (apply SubsE.cons; exact rfl; (first | exact .d (.refl _) | exact .d (.nil _) | exact .agg rfl (.refl _) | exact .pd | exact .ptr rfl); (first | exact trivial | exact ⟨rfl, trivial⟩)))); done)) | (focus ((with_reducible apply a_call); exact cc; exact rfl; (repeat (first | exact SubsE.nil | (apply SubsE.cons; exact rfl; (first | exact .d (.refl _) | exact .d (.nil _) | exact .agg rfl (.refl _) | exact .pd | exact .ptr rfl); (first | exact trivial | exact ⟨rfl, trivial⟩)))); done)) | ((with_reducible apply a_ia); (iterate 5 exact rfl); exact idx_map (k := 0) hp0) | ((with_reducible apply a_from); (iterate 5 exact rfl); exact cut_from (n := 1) (by simp)) | exact by_oa); exact by_g) | ((with_reducible apply CW.cond_t); exact rfl; exact by_ks) | ((with_reducible apply CW.cond_f); exact rfl; exact by_ks) | ((with_reducible apply q_block_miss); exact rfl) | (refine And.intro (show chk [] [] _ _ = true by kernel_rfl) ?_))
            refine q_loopT (k + 1, e, q') ⟨by dsimp only; omega, hql, hEn, hK⟩ (by dsimp only; omega) ?_
            exact by_less
          rw [if_neg n0] at hK hEn
          obtain ⟨m, rfl⟩ := Int.eq_ofNat_of_zero_le (show 0 ≤ n by omega)
          rw [Int.toNat_natCast] at hK hEn
          by_cases hm : m < (ready e).length
          · obtain ⟨x, hx⟩ : ∃ x, (ready e)[m]? = some x := ⟨(ready e)[m], List.getElem?_eq_getElem hm⟩
            rw [hx] at hK hEn
            dsimp only at hK hEn
            have cg := ok_go e x M2 hE.z (by omega) hE.o hE.c
            repeat (first | ((with_reducible apply s1); exact rfl) | (with_reducible first | apply CW.seq | apply CW.block | apply CW.region | apply CW.draw | apply CW.skip | apply CW.exit | apply CW.ret | apply q_then | apply q_then_exit | apply q_then_ret | apply q_block | apply q_block_ret | apply q_block_hit | apply q_ret | apply q_end | apply q_loop_exit | apply q_loop_ret | apply q_loopT_exit | apply q_loopT_ret | apply RW.nil) | ((with_reducible apply s3); exact rfl; exact by_k) | ((with_reducible apply s2); exact rfl; exact by_k) | ((with_reducible apply s4); exact rfl) | ((with_reducible apply s5); (first | (focus ((with_reducible apply a_call); exact cr; exact rfl; (repeat (first | exact SubsE.nil | (apply SubsE.cons; exact rfl; (first | exact .d (.refl _) | exact .d (.nil _) | exact .agg rfl (.refl _) | exact .pd | exact .ptr rfl); (first | exact trivial | exact ⟨rfl, trivial⟩)))); done)) | (focus ((with_reducible apply a_call); exact cg; exact rfl; (repeat (first | exact SubsE.nil | (apply SubsE.cons; exact rfl; (first | exact .d (.refl _) | exact .d (.nil _) | exact .agg rfl (.refl _) | exact .pd | exact .ptr rfl); (first | exact trivial | exact ⟨rfl, trivial⟩)))); done)) | ((with_reducible apply a_ia); (iterate 5 exact rfl); exact idx_map (k := 0) hp0) | ((with_reducible apply a_from); (iterate 5 exact rfl); exact cut_from (n := 1) (by simp)) | exact by_oa); exact by_g) | ((with_reducible apply CW.cond_t); exact rfl; exact by_ks) | ((with_reducible apply CW.cond_f); exact rfl; exact by_ks) | ((with_reducible apply q_block_miss); exact rfl) | (refine And.intro (show chk [] [] _ _ = true by kernel_rfl) ?_))
            refine q_loopT (k + 1, (goE e x).1, q') ⟨by dsimp only; omega, hql, hEn, hK⟩ (by dsimp only; omega) ?_
            exact by_less
          · rw [List.getElem?_eq_none (by omega)] at hK hEn
            dsimp only at hK hEn
            repeat (first | ((with_reducible apply s1); exact rfl) | (with_reducible first | apply CW.seq | apply CW.block | apply CW.region | apply CW.draw | apply CW.skip | apply CW.exit | apply CW.ret | apply q_then | apply q_then_exit | apply q_then_ret | apply q_block | apply q_block_ret | apply q_block_hit | apply q_ret | apply q_end | apply q_loop_exit | apply q_loop_ret | apply q_loopT_exit | apply q_loopT_ret | apply RW.nil) | ((with_reducible apply s3); exact rfl; exact by_k) | ((with_reducible apply s2); exact rfl; exact by_k) | ((with_reducible apply s4); exact rfl) | ((with_reducible apply s5); (first | (focus ((with_reducible apply a_call); exact cr; exact rfl; (repeat (first | exact SubsE.nil | (apply SubsE.cons; exact rfl; (first | exact .d (.refl _) | exact .d (.nil _) | exact .agg rfl (.refl _) | exact .pd | exact .ptr rfl); (first | exact trivial | exact ⟨rfl, trivial⟩)))); done)) | ((with_reducible apply a_ia); (iterate 5 exact rfl); exact idx_map (k := 0) hp0) | ((with_reducible apply a_from); (iterate 5 exact rfl); exact cut_from (n := 1) (by simp)) | exact by_oa); exact by_g) | ((with_reducible apply CW.cond_t); exact rfl; exact by_ks) | ((with_reducible apply CW.cond_f); exact rfl; exact by_ks) | ((with_reducible apply q_block_miss); exact rfl) | (refine And.intro (show chk [] [] _ _ = true by kernel_rfl) ?_))
            refine q_loopT (k + 1, e, q') ⟨by dsimp only; omega, hql, hEn, hK⟩ (by dsimp only; omega) ?_
            exact by_less

end Go.Proofs.YtjgbmdonhabmiaaGreatDoor

/-! G4 -/
/-
  Contracts of the program's Clear of chains, Of, Size, Mark.
-/
namespace Go.Proofs.YtjgbmdonhabmiaaGreatDoor
open Go.AX Go.RF

set_option maxRecDepth 100000
set_option maxHeartbeats 8000000

theorem ok_of (l : List Pair) (hl : l.length ≤ 134217728) : FnOk Tryz.prog 22 [.d (encRows l)] (.one (encChains (l.map rowChain))) := by
  refine fnOk_of tbl_ok mixed_ok Tryz.func22 rfl (by kernel_rfl) rfl rfl fun w0 own0 => ?_
  repeat (first | ((with_reducible apply s1); exact rfl) | (with_reducible first | apply CW.seq | apply CW.block | apply CW.region | apply CW.draw | apply CW.skip | apply CW.exit | apply CW.ret | apply q_then | apply q_then_exit | apply q_then_ret | apply q_block | apply q_block_ret | apply q_block_hit | apply q_ret | apply q_end | apply q_loop_exit | apply q_loop_ret | apply q_loopT_exit | apply q_loopT_ret | apply RW.nil) | ((with_reducible apply s3); exact rfl; exact by_k) | ((with_reducible apply s2); exact rfl; exact by_k) | ((with_reducible apply s4); exact rfl) | ((with_reducible apply s5); (first | exact by_oa); exact by_g) | ((with_reducible apply CW.cond_t); exact rfl; exact by_ks) | ((with_reducible apply CW.cond_f); exact rfl; exact by_ks) | ((with_reducible apply q_block_miss); exact rfl) | (refine And.intro (show chk [] [] _ _ = true by kernel_rfl) ?_))
  refine CW.stut (stut_promote (i := 3) 59 2) ⟨rfl, rfl, trivial⟩ ?_
  refine CW.loopT (fun i : Nat => [sd 6 (encRows l), sd 7 (dint l.length), sd 8 (dint i), so 3 0 i, oa 0 59 2 ((l.take i).map fun p => (rowChain p).enc), nxt 1]) (fun i => i ≤ l.length) (fun i => l.length - i) 0 (by omega) ?_ ?_
  ·
    exact by_less
  · rintro i hi
    rcases drop_case hi with ⟨h1, h2⟩ | ⟨p, h1, h2, h3⟩
    ·
      repeat (first | ((with_reducible apply s1); exact rfl) | (with_reducible first | apply CW.seq | apply CW.block | apply CW.region | apply CW.draw | apply CW.skip | apply CW.exit | apply CW.ret | apply q_then | apply q_then_exit | apply q_then_ret | apply q_block | apply q_block_ret | apply q_block_hit | apply q_ret | apply q_end | apply q_loop_exit | apply q_loop_ret | apply q_loopT_exit | apply q_loopT_ret | apply RW.nil) | ((with_reducible apply s3); exact rfl; exact by_k) | ((with_reducible apply s2); exact rfl; exact by_k) | ((with_reducible apply s4); exact rfl) | ((with_reducible apply s5); (first | exact by_oa); exact by_g) | ((with_reducible apply CW.cond_t); exact rfl; exact by_ks) | ((with_reducible apply CW.cond_f); exact rfl; exact by_ks) | ((with_reducible apply q_block_miss); exact rfl) | (refine And.intro (show chk [] [] _ _ = true by kernel_rfl) ?_))
      exact .one (.tmp rfl (.one (.own rfl (by simp; omega) (dle_eq (by rw [h2, List.take_length]; simp [encChains])))))
    · have h4 : (l.take i).map (fun p => (rowChain p).enc) ++ [(rowChain p).enc] = (l.take (i + 1)).map fun p => (rowChain p).enc := by rw [List.take_add_one, h2]; simp
      repeat (first | ((with_reducible apply s1); exact rfl) | (with_reducible first | apply CW.seq | apply CW.block | apply CW.region | apply CW.draw | apply CW.skip | apply CW.exit | apply CW.ret | apply q_then | apply q_then_exit | apply q_then_ret | apply q_block | apply q_block_ret | apply q_block_hit | apply q_ret | apply q_end | apply q_loop_exit | apply q_loop_ret | apply q_loopT_exit | apply q_loopT_ret | apply RW.nil) | ((with_reducible apply s3); exact rfl; exact by_k) | ((with_reducible apply s2); exact rfl; exact by_k) | ((with_reducible apply s4); exact rfl) | ((with_reducible apply s5); (first | exact by_oa); exact by_g) | ((with_reducible apply CW.cond_t); exact rfl; exact by_ks) | ((with_reducible apply CW.cond_f); exact rfl; exact by_ks) | ((with_reducible apply q_block_miss); exact rfl) | (refine And.intro (show chk [] [] _ _ = true by kernel_rfl) ?_))
      refine q_loopT (i + 1) (by omega) (by omega) ?_
      exact by_less

end Go.Proofs.YtjgbmdonhabmiaaGreatDoor

/-! P1 -/
/-
  Engines as they are built have chains in order, and versions in order: plain facts; what forgetting comes to.
-/
namespace Go.Proofs.YtjgbmdonhabmiaaGreatDoor
open Go.AX Go.RF

def VSrt (l : List Version) : Prop := l.Pairwise fun a b => a.by_ < b.by_
theorem VSrt.cons {v : Version} {l : List Version} : VSrt (v :: l) ↔ (∀ w ∈ l, v.by_ < w.by_) ∧ VSrt l := List.pairwise_cons

theorem allB_refl {α : Type} {f : α → α → Bool} (hf : ∀ a, f a a = true) : ∀ l : List α, allB f l l = true
  | [] => rfl
  | a :: l => by simp [allB, hf, allB_refl hf l]
theorem sameC_refl (c : Chain) : sameC c c = true := by simp [sameC, allB_refl]
theorem sameE_refl (e : Engine) : sameE e e = true := by
  simp [sameE, allB_refl, sameC_refl]

/-! ### Rows that are right -/
theorem wrongRowsGo_srt : ∀ {l : List Pair} {i : Nat} {last : Str}, wrongRowsGo (i + 1) last l = 0 → (∀ p ∈ l, slt last p.key = true ∧ key p.key = true ∧ nOk p.n) ∧ Srt Pair.key l
  | [], i, last, _ => ⟨by simp, List.Pairwise.nil⟩
  | p :: l, i, last, h => by
    simp only [wrongRowsGo] at h
    by_cases h1 : key p.key = false
    · rw [if_pos h1] at h; simp at h
    rw [if_neg h1] at h
    by_cases h2 : 0 < i + 1 ∧ sle p.key last = true
    · rw [if_pos h2] at h; simp at h
    rw [if_neg h2] at h
    by_cases h3 : 1073741824 < p.n ∨ p.n < -1073741824
    · rw [if_pos h3] at h; simp at h
    rw [if_neg h3] at h
    obtain ⟨h4, h5⟩ := wrongRowsGo_srt h
    have h6 : slt last p.key = true := by
      have h7 : ¬ sle p.key last = true := fun e => h2 ⟨by omega, e⟩
      simp only [sle, Bool.or_eq_true, decide_eq_true_eq, not_or] at h7
      rcases slt_tri last p.key with h | h | h
      · exact h
      · exact absurd h.symm h7.2
      · exact absurd h h7.1
    refine ⟨fun q hq => ?_, List.pairwise_cons.2 ⟨fun q hq => (h4 q hq).1, h5⟩⟩
    rcases List.mem_cons.1 hq with rfl | hq
    · exact ⟨h6, by simpa using h1, by unfold nOk; omega⟩
    · exact ⟨slt_trans h6 (h4 q hq).1, (h4 q hq).2⟩
theorem wrongRows_srt {l : List Pair} (h : wrongRows l = 0) : Srt Pair.key l ∧ (∀ p ∈ l, key p.key = true) ∧ rowsOk l := by
  cases l with
  | nil => exact ⟨List.Pairwise.nil, by simp, by simp [rowsOk]⟩
  | cons p l =>
    simp only [wrongRows, wrongRowsGo] at h
    by_cases h1 : key p.key = false
    · rw [if_pos h1] at h; simp at h
    rw [if_neg h1, if_neg (by simp)] at h
    by_cases h3 : 1073741824 < p.n ∨ p.n < -1073741824
    · rw [if_pos h3] at h; simp at h
    rw [if_neg h3] at h
    obtain ⟨h4, h5⟩ := wrongRowsGo_srt h
    refine ⟨List.pairwise_cons.2 ⟨fun q hq => (h4 q hq).1, h5⟩, fun q hq => ?_, fun q hq => ?_⟩
    · rcases List.mem_cons.1 hq with rfl | hq
      · simpa using h1
      · exact (h4 q hq).2.1
    · rcases List.mem_cons.1 hq with rfl | hq
      · unfold nOk; omega
      · exact (h4 q hq).2.2

/-! ### A version more, in order -/
def newV (b : Int) : Version := ⟨b, false, false, 0⟩
def addS (k : Str) (b : Int) : List Chain → List Chain
  | [] => [⟨k, [newV b]⟩]
  | c :: r => if c.key = k then ⟨c.key, c.vs ++ [newV b]⟩ :: r else if slt c.key k = true then c :: addS k b r else ⟨k, [newV b]⟩ :: c :: r
theorem addGo_done {k : Str} {b : Int} : ∀ {l out : List Chain}, (∀ c ∈ l, c.key ≠ k) → addGo k b true out l = out ++ l
  | [], out, _ => by simp [addGo]
  | c :: l, out, h => by
    simp only [addGo]
    rw [if_neg (h c (List.mem_cons_self ..))]
    simp only [Bool.not_true, Bool.false_and, Bool.true_or]
    rw [addGo_done fun d hd => h d (List.mem_cons_of_mem _ hd)]
    simp
theorem addGo_srt {k : Str} {b : Int} : ∀ {l out : List Chain}, Srt Chain.key l → addGo k b false out l = out ++ addS k b l
  | [], out, _ => by simp [addGo, addS, newV]
  | c :: l, out, hs => by
    obtain ⟨h1, h2⟩ := List.pairwise_cons.1 hs
    simp only [addGo, addS]
    by_cases hk : c.key = k
    · rw [if_pos hk, if_pos hk]
      simp only [hk, slt_irrefl, decide_true, Bool.or_true, Bool.not_true, Bool.and_false]
      rw [addGo_done fun d hd => ?_]
      · simp [newV]
      · have := h1 d hd
        rw [hk] at this
        exact fun e => slt_ne this e.symm
    · rw [if_neg hk, if_neg hk]
      cases hl : slt c.key k with
      | true =>
        simp only [Bool.true_or, Bool.not_true, Bool.and_false, Bool.or_false]
        rw [addGo_srt h2]
        simp
      | false =>
        simp only [hk, decide_false, Bool.or_false, Bool.not_false, Bool.and_true, Bool.false_or]
        rw [addGo_done fun d hd => ?_]
        · simp [newV]
        · have h3 := h1 d hd
          intro e
          rcases slt_tri c.key k with h | h | h
          · rw [hl] at h; cases h
          · exact hk h
          · rw [e] at h3
            have := slt_trans h h3
            rw [slt_irrefl] at this; cases this
theorem addC_srt {k : Str} {b : Int} {l : List Chain} (hs : Srt Chain.key l) : addC l k b = addS k b l := by
  unfold addC
  rw [addGo_srt hs]
  rfl
theorem addS_mem {k : Str} {b : Int} : ∀ {l : List Chain} {c : Chain}, c ∈ addS k b l → c ∈ l ∨ c = ⟨k, [newV b]⟩ ∨ ∃ c0 ∈ l, c0.key = k ∧ c = ⟨k, c0.vs ++ [newV b]⟩
  | [], c, h => by simp [addS] at h; exact .inr (.inl h)
  | x :: l, c, h => by
    simp only [addS] at h
    by_cases hk : x.key = k
    · rw [if_pos hk] at h
      rcases List.mem_cons.1 h with rfl | h
      · exact .inr (.inr ⟨x, List.mem_cons_self .., hk, by rw [hk]⟩)
      · exact .inl (List.mem_cons_of_mem _ h)
    · rw [if_neg hk] at h
      split at h
      · rcases List.mem_cons.1 h with rfl | h
        · exact .inl (List.mem_cons_self ..)
        · rcases addS_mem h with h | h | ⟨c0, h0, h⟩
          · exact .inl (List.mem_cons_of_mem _ h)
          · exact .inr (.inl h)
          · exact .inr (.inr ⟨c0, List.mem_cons_of_mem _ h0, h⟩)
      · rcases List.mem_cons.1 h with rfl | h
        · exact .inr (.inl rfl)
        · exact .inl h
theorem addS_srt {k : Str} {b : Int} : ∀ {l : List Chain}, Srt Chain.key l → Srt Chain.key (addS k b l)
  | [], _ => List.pairwise_singleton ..
  | c :: l, hs => by
    obtain ⟨h1, h2⟩ := List.pairwise_cons.1 hs
    simp only [addS]
    by_cases hk : c.key = k
    · rw [if_pos hk]; exact List.pairwise_cons.2 ⟨h1, h2⟩
    · rw [if_neg hk]
      cases hl : slt c.key k with
      | true =>
        rw [if_pos rfl]
        refine List.pairwise_cons.2 ⟨fun d hd => ?_, addS_srt h2⟩
        rcases addS_mem hd with h | rfl | ⟨c0, h0, h3, rfl⟩
        · exact h1 d h
        · exact hl
        · exact hl
      | false =>
        rw [if_neg (by simp)]
        have hkc : slt k c.key = true := by
          rcases slt_tri c.key k with h | h | h
          · rw [hl] at h; cases h
          · exact absurd h hk
          · exact h
        refine List.pairwise_cons.2 ⟨fun d hd => ?_, hs⟩
        rcases List.mem_cons.1 hd with rfl | hd
        · exact hkc
        · exact slt_trans hkc (h1 d hd)

/-! ### Engines -/
structure SInv (e : Engine) : Prop where
  k : Srt Chain.key e.chains
  v : ∀ c ∈ e.chains, VSrt c.vs
  b : ∀ c ∈ e.chains, ∀ v ∈ c.vs, v.by_ < e.base + e.deeds.length

theorem newE_srt {r : List Pair} (h : Srt Pair.key r) : SInv (newE r) := by
  refine ⟨List.pairwise_map.2 h, fun c hc => ?_, fun c hc v hv => ?_⟩
  · obtain ⟨p, _, rfl⟩ := List.mem_map.1 hc
    exact List.pairwise_singleton ..
  · obtain ⟨p, _, rfl⟩ := List.mem_map.1 hc
    simp [rowChain] at hv
    subst hv
    simp [newE]

theorem isIn_false {s : Str} : ∀ {l : List Str}, isIn l s = false → s ∉ l
  | [], _, h => by simp at h
  | x :: l, h, hm => by
    simp only [isIn] at h
    by_cases hx : x = s
    · rw [if_pos hx] at h; cases h
    · rw [if_neg hx] at h
      rcases List.mem_cons.1 hm with rfl | hm
      · exact hx rfl
      · exact isIn_false h hm
theorem keysGo_nodup {l : List Str} : ∀ {r : List Str} {i : Nat}, l.drop i = r → (l.take i).Nodup → keysGo l i r = 0 → l.Nodup ∧ ∀ k ∈ r, key k = true
  | [], i, hr, hn, _ => by
    have : l.length ≤ i := by simpa using hr
    rw [List.take_of_length_le this] at hn
    exact ⟨hn, by simp⟩
  | k :: r, i, hr, hn, h => by
    simp only [keysGo] at h
    by_cases h1 : key k = false
    · rw [if_pos h1] at h; simp at h
    rw [if_neg h1] at h
    by_cases h2 : isIn (l.take i) k = true
    · rw [if_pos h2] at h; simp at h
    rw [if_neg h2] at h
    have hk : l[i]? = some k := by
      have : (l.drop i)[0]? = some k := by rw [hr]; rfl
      simpa using this
    have h3 : l.take (i + 1) = l.take i ++ [k] := by rw [List.take_add_one, hk]; rfl
    have hni : k ∉ l.take i := isIn_false (by simpa using h2)
    have := keysGo_nodup (l := l) (r := r) (i := i + 1) (by rw [← List.drop_drop, hr]; rfl) (by
      rw [h3]
      refine List.nodup_append.2 ⟨hn, by simp, fun a ha b hb => ?_⟩
      simp at hb; subst hb
      exact fun e => hni (e ▸ ha)) h
    exact ⟨this.1, fun x hx => by
      rcases List.mem_cons.1 hx with rfl | hx
      · simpa using h1
      · exact this.2 x hx⟩
theorem keysWrong_nodup {l : List Str} (h : keysWrong l = 0) : l.Nodup ∧ (∀ k ∈ l, key k = true) ∧ l.length ≤ 5 := by
  unfold keysWrong at h
  by_cases h1 : 5 < l.length
  · rw [if_pos h1] at h; simp at h
  · rw [if_neg h1] at h
    have := keysGo_nodup (l := l) (r := l) (i := 0) rfl (by simp) h
    exact ⟨this.1, this.2, by omega⟩
theorem wrong_keys {d : Deed} (h : wrongDeed d = 0) : d.reads.Nodup ∧ d.writes.Nodup := by
  unfold wrongDeed at h
  by_cases h0 : lsGo [d.reads, d.writes] = 0
  · simp only [lsGo] at h0
    by_cases h1 : keysWrong d.reads = 0
    · rw [if_pos h1] at h0
      by_cases h2 : keysWrong d.writes = 0
      · exact ⟨(keysWrong_nodup h1).1, (keysWrong_nodup h2).1⟩
      · rw [if_neg h2] at h0; exact absurd h0 h2
    · rw [if_neg h1] at h0; exact absurd h0 h1
  · rw [if_neg h0] at h; exact absurd h h0

theorem addKeys_srt {b : Int} : ∀ {ks : List Str} {l : List Chain}, ks.Nodup → Srt Chain.key l → (∀ c ∈ l, VSrt c.vs ∧ (∀ v ∈ c.vs, v.by_ ≤ b) ∧ (c.key ∈ ks → ∀ v ∈ c.vs, v.by_ < b)) →
    Srt Chain.key (addKeys b l ks) ∧ ∀ c ∈ addKeys b l ks, VSrt c.vs ∧ ∀ v ∈ c.vs, v.by_ ≤ b
  | [], l, _, hs, h => ⟨hs, fun c hc => ⟨(h c hc).1, (h c hc).2.1⟩⟩
  | k :: ks, l, hn, hs, h => by
    obtain ⟨hk, hn⟩ := List.nodup_cons.1 hn
    simp only [addKeys]
    rw [addC_srt hs]
    refine addKeys_srt hn (addS_srt hs) fun c hc => ?_
    rcases addS_mem hc with h0 | rfl | ⟨c0, h0, h1, rfl⟩
    · obtain ⟨h1, h2, h3⟩ := h c h0
      exact ⟨h1, h2, fun hm => h3 (List.mem_cons_of_mem _ hm)⟩
    · exact ⟨List.pairwise_singleton .., fun v hv => by simp at hv; subst hv; exact Int.le_refl _, fun hm => absurd hm hk⟩
    · obtain ⟨h2, h3, h4⟩ := h c0 h0
      have h5 := h4 (by rw [h1]; exact List.mem_cons_self ..)
      refine ⟨List.pairwise_append.2 ⟨h2, List.pairwise_singleton .., fun a ha x hx => ?_⟩, fun v hv => ?_, fun hm => absurd hm hk⟩
      · simp at hx; subst hx; exact h5 a ha
      · rcases List.mem_append.1 hv with hv | hv
        · exact h3 v hv
        · simp at hv; subst hv; exact Int.le_refl _
theorem SInv.add1 {e : Engine} (h : SInv e) {d : Deed} (hw : d.writes.Nodup) : SInv (add1 e d) := by
  have := addKeys_srt (b := e.base + e.deeds.length) hw h.k fun c hc => ⟨h.v c hc, fun v hv => by have := h.b c hc v hv; omega, fun _ v hv => h.b c hc v hv⟩
  refine ⟨this.1, fun c hc => (this.2 c hc).1, fun c hc v hv => ?_⟩
  have := (this.2 c hc).2 v hv
  show v.by_ < e.base + ((e.deeds ++ [d]).length : Nat)
  rw [List.length_append]
  simp only [List.length_singleton]
  omega
theorem SInv.addAll : ∀ {l : List Deed} {e : Engine}, SInv e → (∀ d ∈ l, d.writes.Nodup) → SInv (addAll e l)
  | [], e, h, _ => h
  | d :: l, e, h, hl => by
    simp only [RF.addAll]
    exact SInv.addAll (h.add1 (hl d (List.mem_cons_self ..))) fun x hx => hl x (List.mem_cons_of_mem _ hx)
theorem SInv.addE {e : Engine} (h : SInv e) {l : List Deed} (hw : (addE e l).2 = 0) : SInv (addE e l).1 := by
  unfold RF.addE at hw ⊢
  by_cases h0 : wrongs l = 0
  · rw [if_pos h0]
    exact h.addAll fun d hd => (wrong_keys (wrongs_mem h0 d hd)).2
  · rw [if_neg h0] at hw; exact absurd hw h0

/-- Chains whose keys, and whose versions' deeds, are others' in turn. -/
theorem set_srt {l : List Chain} {k : Str} {v : Version} {N : Int} (hs : Srt Chain.key l) (hv : ∀ c ∈ l, VSrt c.vs ∧ ∀ w ∈ c.vs, w.by_ < N) :
    Srt Chain.key (setChains l k v) ∧ ∀ c ∈ setChains l k v, VSrt c.vs ∧ ∀ w ∈ c.vs, w.by_ < N := by
  have hb : ∀ (h : Bool) (w : Version), (setV h v w).by_ = w.by_ := fun h w => by
    unfold setV
    split
    · next hh => exact hh.2.symm
    · rfl
  refine ⟨List.pairwise_map.2 hs, fun c hc => ?_⟩
  obtain ⟨c0, h0, rfl⟩ := List.mem_map.1 hc
  obtain ⟨h1, h2⟩ := hv c0 h0
  refine ⟨List.pairwise_map.2 (h1.imp fun hab => by rw [hb, hb]; exact hab), fun w hw => ?_⟩
  obtain ⟨w0, hw0, rfl⟩ := List.mem_map.1 hw
  rw [hb]; exact h2 w0 hw0
theorem goSets_srt {r : List Pair} {b N : Int} : ∀ {ks : List Str} {l : List Chain}, Srt Chain.key l → (∀ c ∈ l, VSrt c.vs ∧ ∀ w ∈ c.vs, w.by_ < N) →
    Srt Chain.key (goSets r b l ks) ∧ ∀ c ∈ goSets r b l ks, VSrt c.vs ∧ ∀ w ∈ c.vs, w.by_ < N
  | [], l, hs, hv => ⟨hs, hv⟩
  | k :: ks, l, hs, hv => by
    simp only [goSets]
    have := set_srt (k := k) (v := ⟨b, true, (RF.get r k).2, (RF.get r k).1⟩) hs hv
    exact goSets_srt this.1 this.2
theorem SInv.goNew {e : Engine} (h : SInv e) (A : Nat) (d : Deed) : SInv (goNew e A d) := by
  have := goSets_srt (r := (goDone e A d).1) (b := e.base + A) (ks := d.writes) (N := e.base + e.deeds.length) h.k fun c hc => ⟨h.v c hc, h.b c hc⟩
  exact ⟨this.1, fun c hc => (this.2 c hc).1, fun c hc => (this.2 c hc).2⟩
theorem SInv.goE {e : Engine} (h : SInv e) (at_ : Int) : SInv (goE e at_).1 := by
  unfold Proofs.YtjgbmdonhabmiaaGreatDoor.goE
  split
  · exact h
  unfold goAt
  cases hA : e.deeds[at_.toNat]? with
  | none => exact h
  | some d =>
    dsimp only
    split
    · exact h
    split
    · exact h.goNew _ _
    · exact h
theorem clrV_sublist {b : Int} : ∀ l : List Version, (clrV b l).Sublist l
  | [] => List.Sublist.slnil
  | v :: l => by
    simp only [clrV]
    split
    · exact (clrV_sublist l).cons _
    · exact (clrV_sublist l).cons_cons _
theorem clear_srt {b : Int} : ∀ {l : List Chain}, Srt Chain.key l → Srt Chain.key (clear b l)
  | [], _ => List.Pairwise.nil
  | c :: l, hs => by
    obtain ⟨h1, h2⟩ := List.pairwise_cons.1 hs
    simp only [clear]
    split
    · exact clear_srt h2
    · refine List.pairwise_cons.2 ⟨fun d hd => ?_, clear_srt h2⟩
      obtain ⟨c0, h0, rfl⟩ := clear_mem hd
      exact h1 c0 h0
theorem SInv.clearE {e : Engine} (h : SInv e) : SInv (clearE e) := by
  have hm := markN_le e.state
  refine ⟨clear_srt h.k, fun c hc => ?_, fun c hc v hv => ?_⟩
  · obtain ⟨c0, h0, rfl⟩ := clear_mem hc
    exact List.Pairwise.sublist (clrV_sublist _) (h.v c0 h0)
  · obtain ⟨c0, h0, rfl⟩ := clear_mem hc
    have := h.b c0 h0 v (clrV_sub hv)
    simp only [RF.clearE, List.length_drop]
    omega
theorem SInv.pickE {e : Engine} (h : SInv e) (n : Int) : SInv (pickE e n) := by
  unfold Proofs.YtjgbmdonhabmiaaGreatDoor.pickE
  split
  · exact h.clearE
  split
  · exact h
  split
  · exact h.goE _
  · exact h
theorem SInv.batchE {e : Engine} (h : SInv e) (b : List Deed) : SInv (batchE e b) := by
  unfold Proofs.YtjgbmdonhabmiaaGreatDoor.batchE
  split
  · next hw => exact h.addE hw
  · exact h
theorem SInv.pickGo : ∀ {k : Nat} {e : Engine} {p : List Int}, SInv e → SInv (pickGo k e p).1
  | 0, e, p, h => h
  | k + 1, e, [], h => h
  | k + 1, e, n :: p, h => by
    simp only [Proofs.YtjgbmdonhabmiaaGreatDoor.pickGo]
    exact SInv.pickGo (h.pickE n)
theorem SInv.buildGo : ∀ {bs : List (List Deed)} {e : Engine} {p : List Int}, SInv e → SInv (buildGo e bs p)
  | [], e, p, h => h
  | b :: bs, e, p, h => by
    simp only [Proofs.YtjgbmdonhabmiaaGreatDoor.buildGo]
    exact SInv.buildGo ((h.batchE b).pickGo)
theorem build_srt {r : List Pair} (h : wrongRows r = 0) (bs : List (List Deed)) (p : List Int) : SInv (buildE r bs p) := SInv.buildGo (newE_srt (wrongRows_srt h).1)

end Go.Proofs.YtjgbmdonhabmiaaGreatDoor

/-! P2 -/
/-
  Right chains: in order; rows made into chains, and read again. Plain facts.
-/
namespace Go.Proofs.YtjgbmdonhabmiaaGreatDoor
open Go.AX Go.RF

/-! ### Rows made into chains -/
theorem addS_len {k : Str} {b : Int} : ∀ l : List Chain, (addS k b l).length ≤ l.length + 1
  | [] => by simp [addS]
  | c :: l => by
    have := addS_len (k := k) (b := b) l
    simp only [addS]
    split
    · simp
    · split
      · simp; omega
      · simp
theorem addS_vs {k : Str} {b : Int} {l : List Chain} {N : Nat} (h : ∀ c ∈ l, c.vs.length ≤ N) : ∀ c ∈ addS k b l, c.vs.length ≤ N + 1 := by
  intro c hc
  rcases addS_mem hc with h0 | rfl | ⟨c0, h0, _, rfl⟩
  · have := h c h0; omega
  · simp
  · have := h c0 h0; simp; omega
end Go.Proofs.YtjgbmdonhabmiaaGreatDoor

/-! P4 -/
/-
  Rows given and taken: plain laws. Keys by Trim.
-/
namespace Go.Proofs.YtjgbmdonhabmiaaGreatDoor
open Go.AX Go.RF

/-! ### What a key has, behind -/
theorem get_put {k k' : Str} {n : Int} : ∀ {l : List Pair}, RF.get (putS k n l) k' = if k = k' then (n, true) else RF.get l k'
  | [] => by simp [putS, RF.get]
  | p :: l => by
    simp only [putS]
    by_cases hk : p.key = k
    · rw [if_pos hk]
      simp only [RF.get]
      by_cases h : k = k'
      · simp [h]
      · rw [if_neg h, if_neg h, if_neg (by rw [hk]; exact h)]
    · rw [if_neg hk]
      split
      · simp only [RF.get]
        rw [get_put]
        by_cases h : p.key = k'
        · rw [if_pos h, if_neg (fun e => hk (by rw [h, e])), if_pos h]
        · rw [if_neg h, if_neg h]
      · simp only [RF.get]
theorem get_absent {k : Str} : ∀ {l : List Pair}, (∀ p ∈ l, p.key ≠ k) → RF.get l k = (0, false)
  | [], _ => rfl
  | p :: l, h => by
    simp only [RF.get]
    rw [if_neg (h p (List.mem_cons_self ..)), get_absent fun q hq => h q (List.mem_cons_of_mem _ hq)]
theorem srt_absent {p : Pair} {l : List Pair} (hs : Srt Pair.key (p :: l)) : ∀ q ∈ l, q.key ≠ p.key := fun q hq e => by
  have := (List.pairwise_cons.1 hs).1 q hq
  rw [e, slt_irrefl] at this; cases this
theorem get_drop {k k' : Str} : ∀ {l : List Pair}, Srt Pair.key l → RF.get (dropS k l) k' = if k = k' then (0, false) else RF.get l k'
  | [], _ => by simp [dropS, RF.get]
  | p :: l, hs => by
    simp only [dropS]
    by_cases hk : p.key = k
    · rw [if_pos hk]
      by_cases h : k = k'
      · rw [if_pos h]
        exact get_absent fun q hq => by rw [← h, ← hk]; exact srt_absent hs q hq
      · rw [if_neg h]
        simp only [RF.get]
        rw [if_neg (by rw [hk]; exact h)]
    · rw [if_neg hk]
      simp only [RF.get]
      rw [get_drop (List.pairwise_cons.1 hs).2]
      by_cases h : p.key = k'
      · rw [if_pos h, if_neg (fun e => hk (by rw [h, e])), if_pos h]
      · rw [if_neg h, if_neg h]

/-! ### In order, and the same members: the same -/
/-! ### Right rows stay right -/
/-! ### Keys, by Trim -/
def alpha : List UInt8 := [97, 98, 99, 100, 101, 102, 103, 104, 105, 106, 107, 108, 109, 110, 111, 112, 113, 114, 115, 116, 117, 118, 119, 120, 121, 122]
theorem alpha_bad (c : UInt8) : alpha.contains c = !bad c := by
  have h : ∀ n : Fin 256, alpha.contains (UInt8.ofFin n) = !bad (UInt8.ofFin n) := by decide +kernel
  have := h c.toFin
  rwa [UInt8.ofFin_toFin] at this
theorem dropWhile_nil {p : UInt8 → Bool} : ∀ {l : List UInt8}, l.dropWhile p = [] ↔ ∀ x ∈ l, p x = true
  | [] => by simp
  | x :: l => by
    cases h : p x with
    | true => rw [List.dropWhile_cons_of_pos h, dropWhile_nil]; simp [h]
    | false => rw [List.dropWhile_cons_of_neg (by simp [h])]; simp [h]
theorem dropWhile_head {p : UInt8 → Bool} : ∀ {l r : List UInt8} {x : UInt8}, l.dropWhile p = x :: r → p x = false
  | [], r, x, h => by simp at h
  | y :: l, r, x, h => by
    cases hy : p y with
    | true => rw [List.dropWhile_cons_of_pos hy] at h; exact dropWhile_head h
    | false => rw [List.dropWhile_cons_of_neg (by simp [hy])] at h; cases h; exact hy
theorem trim_nil {l cs : List UInt8} : Lib.trimS l cs = [] ↔ ∀ x ∈ l, cs.contains x = true := by
  unfold Lib.trimS Lib.trimLeftS Lib.trimRightS
  rw [dropWhile_nil]
  constructor
  · intro h
    have h1 : l.reverse.dropWhile (cs.contains ·) = [] := by
      cases h2 : l.reverse.dropWhile (cs.contains ·) with
      | nil => rfl
      | cons x r =>
        have h3 := dropWhile_head h2
        have h4 := h x (by rw [h2]; simp)
        rw [h3] at h4; cases h4
    intro x hx
    exact dropWhile_nil.1 h1 x (by simpa using hx)
  · intro h x hx
    have h1 : l.reverse.dropWhile (cs.contains ·) = [] := dropWhile_nil.2 fun x hx => h x (by simpa using hx)
    rw [h1] at hx; simp at hx
theorem keyGo_eq {s : Str} : ∀ {r : Str}, keyGo s r = ((r.all fun c => !bad c) && (decide (0 < s.length) && decide (s.length < 7)))
  | [] => by simp [keyGo]
  | c :: r => by
    simp only [keyGo, List.all_cons]
    rw [keyGo_eq]
    cases bad c <;> simp
theorem key_trim (s : Str) : key s = (decide (1 ≤ s.length) && (decide (s.length ≤ 6) && decide (Lib.trimS s alpha = []))) := by
  unfold key
  rw [keyGo_eq]
  have h1 : (s.all fun c => !bad c) = decide (Lib.trimS s alpha = []) := by
    rw [Bool.eq_iff_iff, decide_eq_true_eq, trim_nil, List.all_eq_true]
    simp only [alpha_bad]
  rw [h1]
  have h2 : decide (0 < s.length) = decide (1 ≤ s.length) := by congr 1
  have h3 : decide (s.length < 7) = decide (s.length ≤ 6) := by congr 1; exact propext ⟨fun h => by omega, fun h => by omega⟩
  rw [h2, h3]
  cases decide (Lib.trimS s alpha = []) <;> cases decide (1 ≤ s.length) <;> cases decide (s.length ≤ 6) <;> rfl
end Go.Proofs.YtjgbmdonhabmiaaGreatDoor

/-! P5 -/
/-
  The program's way of doing a deed comes to the references'.
-/
namespace Go.Proofs.YtjgbmdonhabmiaaGreatDoor
open Go.AX Go.RF

/-! ### What has been made, given to rows -/
def chOf (c : Bool × Int) : Int × Bool := if c.1 = true then (c.2, true) else (0, false)
def chAt (r : List Pair) (m : Mk) (k : Str) : Int × Bool := match mG m k with
  | some c => chOf c
  | none => RF.get r k
def app1 (out : List Pair) (k : Str) (c : Bool × Int) : List Pair := if c.1 = true then putS k c.2 out else dropS k out
theorem app1_srt {out : List Pair} (h : Srt Pair.key out) (k : Str) (c : Bool × Int) : Srt Pair.key (app1 out k c) := by
  unfold app1; split
  · exact putS_srt h
  · exact dropS_srt h
theorem app1_get {out : List Pair} (h : Srt Pair.key out) (k k' : Str) (c : Bool × Int) : RF.get (app1 out k c) k' = if k = k' then chOf c else RF.get out k' := by
  unfold app1 chOf; split
  · exact get_put
  · exact get_drop h
structure MInv (r : List Pair) (W : List Str) (m : Mk) (now : List Pair) : Prop where
  s : Srt Pair.key now
  a : ∀ k, RF.get now k = chAt r m k
  f : ∀ k c, mG m k = some c → c.1 = false → c.2 = 0
  w : ∀ k c, mG m k = some c → k ∈ W
theorem MInv.set {r now : List Pair} {W : List Str} {m : Mk} (h : MInv r W m now) {k : Str} (hk : k ∈ W) (c : Bool × Int) (hc : c.1 = false → c.2 = 0) : MInv r W (mS m k c) (app1 now k c) := by
  refine ⟨app1_srt h.s k c, fun k' => ?_, fun k' c' hm => ?_, fun k' c' hm => ?_⟩
  · rw [app1_get h.s]
    unfold chAt
    rw [mG_mS]
    by_cases he : k = k'
    · rw [if_pos he, if_pos he]
    · rw [if_neg he, if_neg he]
      exact h.a k'
  · rw [mG_mS] at hm
    split at hm
    · cases hm; exact hc
    · exact h.f k' c' hm
  · rw [mG_mS] at hm
    split at hm
    · next he => rw [← he]; exact hk
    · exact h.w k' c' hm
theorem isIn_true {s : Str} : ∀ {l : List Str}, isIn l s = true → s ∈ l
  | [], h => by cases h
  | x :: l, h => by
    simp only [isIn] at h
    by_cases hx : x = s
    · rw [hx]; exact List.mem_cons_self ..
    · rw [if_neg hx] at h
      exact List.mem_cons_of_mem _ (isIn_true h)
end Go.Proofs.YtjgbmdonhabmiaaGreatDoor
