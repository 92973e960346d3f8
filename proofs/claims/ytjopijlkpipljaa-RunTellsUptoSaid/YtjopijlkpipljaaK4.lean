/-
  Part 4 of what the claim leans on: F16 R4 F1 F6 F7 F10 F12 F14 F18 F9 F15.
-/
import Derived.Test.YtjopijlkpipljaaK3

/-! F16 -/
/-
  Contracts of the references' Do and All.
-/
namespace Go.Proofs.Ytjopijlkpipljaa
open Go.AX Go.RF

set_option maxRecDepth 100000
set_option maxHeartbeats 8000000

theorem ld_reg (e : Done) {A : Nat} (h : A < 4) {ti : TI} (hk : ti.kind = .int .i64) : ldA ti ((e.enc.map AV.d).drop (1 + A * 1)) = some (.d (dint (rget e A))) := by
  have : A = 0 ∨ A = 1 ∨ A = 2 ∨ A = 3 := by omega
  rcases this with rfl | rfl | rfl | rfl <;> simp [ldA, hk, Done.enc, rget]
theorem st_reg (e : Done) {A : Nat} (h : A < 4) (x : Int) : putCells (e.enc.map AV.d) (1 + A * 1) [.d (dint x)] = (rset e A x).enc.map AV.d := by
  have : A = 0 ∨ A = 1 ∨ A = 2 ∨ A = 3 := by omega
  rcases this with rfl | rfl | rfl | rfl <;> rfl
theorem fit_reg (e : Done) {A : Nat} (h : A < 4) : Nat.ble ((1 + A * 1) + 1) (e.enc.map AV.d).length = true := by
  simp [Done.enc]; omega

theorem mul_bound {a b : Int} (ha : -1073741824 ≤ a ∧ a ≤ 1073741824) (hb : -1073741824 ≤ b ∧ b ≤ 1073741824) : -1152921504606846976 ≤ a * b ∧ a * b ≤ 1152921504606846976 := by
  have h1 : (a * b).natAbs ≤ 1073741824 * 1073741824 := by
    rw [Int.natAbs_mul]
    exact Nat.mul_le_mul (by omega) (by omega)
  omega

theorem ok_do (r : List Pair) (d : Deed) (hl : r.length ≤ 134217728) (hr : rowsOk r) (hc : d.code.length ≤ 134217728) (hi : ∀ i ∈ d.code, i.Ok) :
    FnOk Try.prog 26 [.d (encRows r), .d (.agg d.enc)] (.tup [encRows (doD r d).1, .agg (doD r d).2.enc]) := by
  refine fnOk_of tbl_ok mixed_ok Try.func26 rfl (by kernel_rfl) rfl rfl fun w0 own0 => ?_
  repeat (first | ((with_reducible apply s1); exact rfl) | (with_reducible first | apply CW.seq | apply CW.block | apply CW.region | apply CW.draw | apply CW.skip | apply CW.exit | apply CW.ret | apply q_then | apply q_then_exit | apply q_then_ret | apply q_block | apply q_block_ret | apply q_block_hit | apply q_ret | apply q_end | apply q_loop_exit | apply q_loop_ret | apply q_loopT_exit | apply q_loopT_ret | apply RW.nil) | ((with_reducible apply s3); exact rfl; exact by_k) | ((with_reducible apply s2); exact rfl; exact by_k) | ((with_reducible apply s4); exact rfl) | ((with_reducible apply s5); (first | exact by_oa); exact by_g) | ((with_reducible apply CW.cond_t); exact rfl; exact by_ks) | ((with_reducible apply CW.cond_f); exact rfl; exact by_ks) | ((with_reducible apply q_block_miss); exact rfl) | (refine And.intro (show chk [] [] _ _ = true by kernel_rfl) ?_))
  refine CW.loopT (fun t : Nat × Int × List Pair × Done => [sd 0 (encRows r), sp 3 0, ob 0 d.enc, sp 5 1, ob 1 done0.enc, sd 6 (encRows t.2.2.1), sp 7 2, ob 2 t.2.2.2.enc, sd 8 (dint t.2.1), sd 16 (encCode d.code), sd 17 (dint d.code.length), sd 18 (dint t.1), nxt 3])
    (fun t => t.1 ≤ d.code.length ∧ t.2.2.1.length ≤ r.length + t.1 ∧ rowsOk t.2.2.1 ∧ t.2.2.2.Ok ∧ t.2.2.2.failed = false ∧ (0 ≤ t.2.1 ∧ t.2.1 ≤ 1073741824) ∧ doGo r t.2.1 t.2.2.1 t.2.2.2 (d.code.drop t.1) = doD r d)
    (fun t => d.code.length - t.1) (0, 0, r, done0) ⟨by omega, by simp, hr, ⟨by simp [nOk, done0], by simp [nOk, done0], by simp [nOk, done0], by simp [nOk, done0]⟩, rfl, by simp, rfl⟩ ?_ ?_
  ·
    exact by_less
  · rintro ⟨x, sk, now, e⟩ ⟨hx, hn, hrow, hreg, hf, hsk, hI⟩
    dsimp only at hx hn hrow hreg hf hsk hI ⊢
    rcases drop_case hx with ⟨h1, h2⟩ | ⟨i, h1, h2, h3⟩
    · rw [h1] at hI
      simp only [doGo] at hI
      repeat (first | ((with_reducible apply s1); exact rfl) | (with_reducible first | apply CW.seq | apply CW.block | apply CW.region | apply CW.draw | apply CW.skip | apply CW.exit | apply CW.ret | apply q_then | apply q_then_exit | apply q_then_ret | apply q_block | apply q_block_ret | apply q_block_hit | apply q_ret | apply q_end | apply q_loop_exit | apply q_loop_ret | apply q_loopT_exit | apply q_loopT_ret | apply RW.nil) | ((with_reducible apply s3); exact rfl; exact by_k) | ((with_reducible apply s2); exact rfl; exact by_k) | ((with_reducible apply s4); exact rfl) | ((with_reducible apply s5); (first | exact by_oa); exact by_g) | ((with_reducible apply CW.cond_t); exact rfl; exact by_ks) | ((with_reducible apply CW.cond_f); exact rfl; exact by_ks) | ((with_reducible apply q_block_miss); exact rfl) | (refine And.intro (show chk [] [] _ _ = true by kernel_rfl) ?_))
      rw [← hI]
      exact .two (.tmp rfl (.one (.d (.refl _)))) (.cell rfl rfl rfl rfl (.aggd rfl (.refl _)))
    · rw [h1] at hI
      simp only [doGo] at hI
      have hio := hi i (List.mem_of_getElem? h2)
      by_cases h4 : 0 < sk
      · rw [if_pos h4] at hI
        repeat (first | ((with_reducible apply s1); exact rfl) | (with_reducible first | apply CW.seq | apply CW.block | apply CW.region | apply CW.draw | apply CW.skip | apply CW.exit | apply CW.ret | apply q_then | apply q_then_exit | apply q_then_ret | apply q_block | apply q_block_ret | apply q_block_hit | apply q_ret | apply q_end | apply q_loop_exit | apply q_loop_ret | apply q_loopT_exit | apply q_loopT_ret | apply RW.nil) | ((with_reducible apply s3); exact rfl; exact by_k) | ((with_reducible apply s2); exact rfl; exact by_k) | ((with_reducible apply s4); exact rfl) | ((with_reducible apply s5); (first | exact by_oa); exact by_g) | ((with_reducible apply CW.cond_t); exact rfl; exact by_ks) | ((with_reducible apply CW.cond_f); exact rfl; exact by_ks) | ((with_reducible apply q_block_miss); exact rfl) | (refine And.intro (show chk [] [] _ _ = true by kernel_rfl) ?_))
        refine q_loopT (x + 1, sk - 1, now, e) ⟨by dsimp only; omega, by dsimp only; omega, hrow, hreg, hf, by dsimp only; omega, hI⟩ (by dsimp only; omega) ?_
        exact by_less
      rw [if_neg h4] at hI
      obtain ⟨kd, ia, ib, n, key⟩ := i
      obtain ⟨A, rfl⟩ := Int.eq_ofNat_of_zero_le hio.a.1
      obtain ⟨B, rfl⟩ := Int.eq_ofNat_of_zero_le hio.b.1
      have hA : A < 4 := by have := hio.a.2; dsimp only at this; omega
      have hB : B < 4 := by have := hio.b.2; dsimp only at this; omega
      have hga := rget_ok hreg A
      have hgb := rget_ok hreg B
      have hst := fun y => st_reg e hA y
      have hfit := fit_reg e hA
      have hself := rset_self e A
      have hk := hio.k
      have hcn := hio.c
      have hcs := hio.s
      dsimp only [Int.toNat_natCast] at hI hk hcn hcs
      have hkd : kd = 1 ∨ kd = 2 ∨ kd = 3 ∨ kd = 4 ∨ kd = 5 ∨ kd = 6 ∨ kd = 7 ∨ kd = 8 ∨ kd = 9 := by omega
      clear hk hio h1
      unfold nOk at hga hgb
      have cg := ok_get now key (by omega)
      have hh := fun (k : Nat) (h : k < 10) => ok_has k 114 h
      rcases hkd with rfl | rfl | rfl | rfl | rfl | rfl | rfl | rfl | rfl
      · rw [if_pos rfl] at hI
        have ch := hh 1 (by omega)
        rw [show has 1 114 = true from by decide] at ch
        have hs := hst (RF.get now key).1
        repeat (first | ((with_reducible apply s1); exact rfl) | (with_reducible first | apply CW.seq | apply CW.block | apply CW.region | apply CW.draw | apply CW.skip | apply CW.exit | apply CW.ret | apply q_then | apply q_then_exit | apply q_then_ret | apply q_block | apply q_block_ret | apply q_block_hit | apply q_ret | apply q_end | apply q_loop_exit | apply q_loop_ret | apply q_loopT_exit | apply q_loopT_ret | apply RW.nil) | ((with_reducible apply s3); exact rfl; exact by_k) | ((with_reducible apply s2); exact rfl; exact by_k) | ((with_reducible apply s4); exact rfl) | ((with_reducible apply s5); (first | (focus ((with_reducible apply a_call); exact cg; exact rfl; (repeat (first | exact SubsE.nil | (apply SubsE.cons; exact rfl; (first | exact .d (.refl _) | exact .d (.nil _) | exact .agg rfl (.refl _) | exact .pd | exact .ptr rfl); (first | exact trivial | exact ⟨rfl, trivial⟩)))); done)) | (focus ((with_reducible apply a_call); exact ch; exact rfl; (repeat (first | exact SubsE.nil | (apply SubsE.cons; exact rfl; (first | exact .d (.refl _) | exact .d (.nil _) | exact .agg rfl (.refl _) | exact .pd | exact .ptr rfl); (first | exact trivial | exact ⟨rfl, trivial⟩)))); done)) | ((with_reducible apply a_lptr); (iterate 4 exact rfl); exact ld_reg e hA rfl) | ((with_reducible apply a_lptr); (iterate 4 exact rfl); exact ld_reg e hB rfl) | ((with_reducible apply a_store); (iterate 6 exact rfl); exact hfit; exact ⟨rfl, trivial⟩) | exact by_oa); exact by_g) | ((with_reducible apply CW.cond_t); exact rfl; exact by_ks) | ((with_reducible apply CW.cond_f); exact rfl; exact by_ks) | ((with_reducible apply q_block_miss); exact rfl) | (refine And.intro (show chk [] [] _ _ = true by kernel_rfl) ?_))
        refine q_loopT (x + 1, sk, now, rset e A (RF.get now key).1) ⟨by dsimp only; omega, by dsimp only; omega, hrow, rset_ok hreg A (get_ok hrow key), by rw [rset_failed]; exact hf, hsk, hI⟩ (by dsimp only; omega) ?_
        exact by_less
      · rw [if_neg (show ¬ (2 : Int) = 1 by decide), if_pos rfl] at hI
        have ch := hh 2 (by omega)
        rw [show has 2 114 = true from by decide] at ch
        have hs := hst n
        repeat (first | ((with_reducible apply s1); exact rfl) | (with_reducible first | apply CW.seq | apply CW.block | apply CW.region | apply CW.draw | apply CW.skip | apply CW.exit | apply CW.ret | apply q_then | apply q_then_exit | apply q_then_ret | apply q_block | apply q_block_ret | apply q_block_hit | apply q_ret | apply q_end | apply q_loop_exit | apply q_loop_ret | apply q_loopT_exit | apply q_loopT_ret | apply RW.nil) | ((with_reducible apply s3); exact rfl; exact by_k) | ((with_reducible apply s2); exact rfl; exact by_k) | ((with_reducible apply s4); exact rfl) | ((with_reducible apply s5); (first | (focus ((with_reducible apply a_call); exact ch; exact rfl; (repeat (first | exact SubsE.nil | (apply SubsE.cons; exact rfl; (first | exact .d (.refl _) | exact .d (.nil _) | exact .agg rfl (.refl _) | exact .pd | exact .ptr rfl); (first | exact trivial | exact ⟨rfl, trivial⟩)))); done)) | ((with_reducible apply a_lptr); (iterate 4 exact rfl); exact ld_reg e hA rfl) | ((with_reducible apply a_lptr); (iterate 4 exact rfl); exact ld_reg e hB rfl) | ((with_reducible apply a_store); (iterate 6 exact rfl); exact hfit; exact ⟨rfl, trivial⟩) | exact by_oa); exact by_g) | ((with_reducible apply CW.cond_t); exact rfl; exact by_ks) | ((with_reducible apply CW.cond_f); exact rfl; exact by_ks) | ((with_reducible apply q_block_miss); exact rfl) | (refine And.intro (show chk [] [] _ _ = true by kernel_rfl) ?_))
        refine q_loopT (x + 1, sk, now, rset e A n) ⟨by dsimp only; omega, by dsimp only; omega, hrow, rset_ok hreg A (hcn rfl), by rw [rset_failed]; exact hf, hsk, hI⟩ (by dsimp only; omega) ?_
        exact by_less
      · rw [if_neg (show ¬ (3 : Int) = 1 by decide), if_neg (show ¬ (3 : Int) = 2 by decide), if_pos rfl] at hI
        have ch := hh 3 (by omega)
        rw [show has 3 114 = true from by decide] at ch
        have hs := hst (round (rget e A + rget e B))
        have cr := ok_round (rget e A + rget e B) (by omega)
        repeat (first | ((with_reducible apply s1); exact rfl) | (with_reducible first | apply CW.seq | apply CW.block | apply CW.region | apply CW.draw | apply CW.skip | apply CW.exit | apply CW.ret | apply q_then | apply q_then_exit | apply q_then_ret | apply q_block | apply q_block_ret | apply q_block_hit | apply q_ret | apply q_end | apply q_loop_exit | apply q_loop_ret | apply q_loopT_exit | apply q_loopT_ret | apply RW.nil) | ((with_reducible apply s3); exact rfl; exact by_k) | ((with_reducible apply s2); exact rfl; exact by_k) | ((with_reducible apply s4); exact rfl) | ((with_reducible apply s5); (first | (focus ((with_reducible apply a_call); exact cr; exact rfl; (repeat (first | exact SubsE.nil | (apply SubsE.cons; exact rfl; (first | exact .d (.refl _) | exact .d (.nil _) | exact .agg rfl (.refl _) | exact .pd | exact .ptr rfl); (first | exact trivial | exact ⟨rfl, trivial⟩)))); done)) | (focus ((with_reducible apply a_call); exact ch; exact rfl; (repeat (first | exact SubsE.nil | (apply SubsE.cons; exact rfl; (first | exact .d (.refl _) | exact .d (.nil _) | exact .agg rfl (.refl _) | exact .pd | exact .ptr rfl); (first | exact trivial | exact ⟨rfl, trivial⟩)))); done)) | ((with_reducible apply a_lptr); (iterate 4 exact rfl); exact ld_reg e hA rfl) | ((with_reducible apply a_lptr); (iterate 4 exact rfl); exact ld_reg e hB rfl) | ((with_reducible apply a_store); (iterate 6 exact rfl); exact hfit; exact ⟨rfl, trivial⟩) | ((with_reducible apply a_bin); (iterate 2 exact rfl); (apply bin_add; omega); exact rfl) | exact by_oa); exact by_g) | ((with_reducible apply CW.cond_t); exact rfl; exact by_ks) | ((with_reducible apply CW.cond_f); exact rfl; exact by_ks) | ((with_reducible apply q_block_miss); exact rfl) | (refine And.intro (show chk [] [] _ _ = true by kernel_rfl) ?_))
        refine q_loopT (x + 1, sk, now, rset e A (round (rget e A + rget e B))) ⟨by dsimp only; omega, by dsimp only; omega, hrow, rset_ok hreg A (round_ok _), by rw [rset_failed]; exact hf, hsk, hI⟩ (by dsimp only; omega) ?_
        exact by_less
      · rw [if_neg (show ¬ (4 : Int) = 1 by decide), if_neg (show ¬ (4 : Int) = 2 by decide), if_neg (show ¬ (4 : Int) = 3 by decide), if_pos rfl] at hI
        have ch := hh 4 (by omega)
        rw [show has 4 114 = true from by decide] at ch
        have hs := hst (round (rget e A - rget e B))
        have cr := ok_round (rget e A - rget e B) (by omega)
        repeat (first | ((with_reducible apply s1); exact rfl) | (with_reducible first | apply CW.seq | apply CW.block | apply CW.region | apply CW.draw | apply CW.skip | apply CW.exit | apply CW.ret | apply q_then | apply q_then_exit | apply q_then_ret | apply q_block | apply q_block_ret | apply q_block_hit | apply q_ret | apply q_end | apply q_loop_exit | apply q_loop_ret | apply q_loopT_exit | apply q_loopT_ret | apply RW.nil) | ((with_reducible apply s3); exact rfl; exact by_k) | ((with_reducible apply s2); exact rfl; exact by_k) | ((with_reducible apply s4); exact rfl) | ((with_reducible apply s5); (first | (focus ((with_reducible apply a_call); exact cr; exact rfl; (repeat (first | exact SubsE.nil | (apply SubsE.cons; exact rfl; (first | exact .d (.refl _) | exact .d (.nil _) | exact .agg rfl (.refl _) | exact .pd | exact .ptr rfl); (first | exact trivial | exact ⟨rfl, trivial⟩)))); done)) | (focus ((with_reducible apply a_call); exact ch; exact rfl; (repeat (first | exact SubsE.nil | (apply SubsE.cons; exact rfl; (first | exact .d (.refl _) | exact .d (.nil _) | exact .agg rfl (.refl _) | exact .pd | exact .ptr rfl); (first | exact trivial | exact ⟨rfl, trivial⟩)))); done)) | ((with_reducible apply a_lptr); (iterate 4 exact rfl); exact ld_reg e hA rfl) | ((with_reducible apply a_lptr); (iterate 4 exact rfl); exact ld_reg e hB rfl) | ((with_reducible apply a_store); (iterate 6 exact rfl); exact hfit; exact ⟨rfl, trivial⟩) | ((with_reducible apply a_bin); (iterate 2 exact rfl); (apply bin_sub; omega); exact rfl) | exact by_oa); exact by_g) | ((with_reducible apply CW.cond_t); exact rfl; exact by_ks) | ((with_reducible apply CW.cond_f); exact rfl; exact by_ks) | ((with_reducible apply q_block_miss); exact rfl) | (refine And.intro (show chk [] [] _ _ = true by kernel_rfl) ?_))
        refine q_loopT (x + 1, sk, now, rset e A (round (rget e A - rget e B))) ⟨by dsimp only; omega, by dsimp only; omega, hrow, rset_ok hreg A (round_ok _), by rw [rset_failed]; exact hf, hsk, hI⟩ (by dsimp only; omega) ?_
        exact by_less
      · rw [if_neg (show ¬ (5 : Int) = 1 by decide), if_neg (show ¬ (5 : Int) = 2 by decide), if_neg (show ¬ (5 : Int) = 3 by decide), if_neg (show ¬ (5 : Int) = 4 by decide), if_pos rfl] at hI
        have ch := hh 5 (by omega)
        rw [show has 5 114 = true from by decide] at ch
        have hmul : -1152921504606846976 ≤ rget e A * rget e B ∧ rget e A * rget e B ≤ 1152921504606846976 := mul_bound hga hgb
        have hs := hst (round (rget e A * rget e B))
        have cr := ok_round (rget e A * rget e B) (by omega)
        repeat (first | ((with_reducible apply s1); exact rfl) | (with_reducible first | apply CW.seq | apply CW.block | apply CW.region | apply CW.draw | apply CW.skip | apply CW.exit | apply CW.ret | apply q_then | apply q_then_exit | apply q_then_ret | apply q_block | apply q_block_ret | apply q_block_hit | apply q_ret | apply q_end | apply q_loop_exit | apply q_loop_ret | apply q_loopT_exit | apply q_loopT_ret | apply RW.nil) | ((with_reducible apply s3); exact rfl; exact by_k) | ((with_reducible apply s2); exact rfl; exact by_k) | ((with_reducible apply s4); exact rfl) | ((with_reducible apply s5); (first | (focus ((with_reducible apply a_call); exact cr; exact rfl; (repeat (first | exact SubsE.nil | (apply SubsE.cons; exact rfl; (first | exact .d (.refl _) | exact .d (.nil _) | exact .agg rfl (.refl _) | exact .pd | exact .ptr rfl); (first | exact trivial | exact ⟨rfl, trivial⟩)))); done)) | (focus ((with_reducible apply a_call); exact ch; exact rfl; (repeat (first | exact SubsE.nil | (apply SubsE.cons; exact rfl; (first | exact .d (.refl _) | exact .d (.nil _) | exact .agg rfl (.refl _) | exact .pd | exact .ptr rfl); (first | exact trivial | exact ⟨rfl, trivial⟩)))); done)) | ((with_reducible apply a_lptr); (iterate 4 exact rfl); exact ld_reg e hA rfl) | ((with_reducible apply a_lptr); (iterate 4 exact rfl); exact ld_reg e hB rfl) | ((with_reducible apply a_store); (iterate 6 exact rfl); exact hfit; exact ⟨rfl, trivial⟩) | ((with_reducible apply a_bin); (iterate 2 exact rfl); (apply bin_mul; omega); exact rfl) | exact by_oa); exact by_g) | ((with_reducible apply CW.cond_t); exact rfl; exact by_ks) | ((with_reducible apply CW.cond_f); exact rfl; exact by_ks) | ((with_reducible apply q_block_miss); exact rfl) | (refine And.intro (show chk [] [] _ _ = true by kernel_rfl) ?_))
        refine q_loopT (x + 1, sk, now, rset e A (round (rget e A * rget e B))) ⟨by dsimp only; omega, by dsimp only; omega, hrow, rset_ok hreg A (round_ok _), by rw [rset_failed]; exact hf, hsk, hI⟩ (by dsimp only; omega) ?_
        exact by_less
      · rw [if_neg (show ¬ (6 : Int) = 1 by decide), if_neg (show ¬ (6 : Int) = 2 by decide), if_neg (show ¬ (6 : Int) = 3 by decide), if_neg (show ¬ (6 : Int) = 4 by decide), if_neg (show ¬ (6 : Int) = 5 by decide), if_pos rfl] at hI
        have ch := hh 6 (by omega)
        rw [show has 6 114 = true from by decide] at ch
        have hs : putCells (e.enc.map AV.d) (1 + A * 1) [.d (dint (rget e A))] = e.enc.map AV.d := by rw [hst, hself]
        have cp := ok_put now key (rget e A) true (by omega)
        have hpl := put_len now key (rget e A) true
        repeat (first | ((with_reducible apply s1); exact rfl) | (with_reducible first | apply CW.seq | apply CW.block | apply CW.region | apply CW.draw | apply CW.skip | apply CW.exit | apply CW.ret | apply q_then | apply q_then_exit | apply q_then_ret | apply q_block | apply q_block_ret | apply q_block_hit | apply q_ret | apply q_end | apply q_loop_exit | apply q_loop_ret | apply q_loopT_exit | apply q_loopT_ret | apply RW.nil) | ((with_reducible apply s3); exact rfl; exact by_k) | ((with_reducible apply s2); exact rfl; exact by_k) | ((with_reducible apply s4); exact rfl) | ((with_reducible apply s5); (first | (focus ((with_reducible apply a_call); exact cp; exact rfl; (repeat (first | exact SubsE.nil | (apply SubsE.cons; exact rfl; (first | exact .d (.refl _) | exact .d (.nil _) | exact .agg rfl (.refl _) | exact .pd | exact .ptr rfl); (first | exact trivial | exact ⟨rfl, trivial⟩)))); done)) | (focus ((with_reducible apply a_call); exact ch; exact rfl; (repeat (first | exact SubsE.nil | (apply SubsE.cons; exact rfl; (first | exact .d (.refl _) | exact .d (.nil _) | exact .agg rfl (.refl _) | exact .pd | exact .ptr rfl); (first | exact trivial | exact ⟨rfl, trivial⟩)))); done)) | ((with_reducible apply a_lptr); (iterate 4 exact rfl); exact ld_reg e hA rfl) | ((with_reducible apply a_lptr); (iterate 4 exact rfl); exact ld_reg e hB rfl) | ((with_reducible apply a_store); (iterate 6 exact rfl); exact hfit; exact ⟨rfl, trivial⟩) | exact by_oa); exact by_g) | ((with_reducible apply CW.cond_t); exact rfl; exact by_ks) | ((with_reducible apply CW.cond_f); exact rfl; exact by_ks) | ((with_reducible apply q_block_miss); exact rfl) | (refine And.intro (show chk [] [] _ _ = true by kernel_rfl) ?_))
        refine q_loopT (x + 1, sk, put now key (rget e A) true, e) ⟨by dsimp only; omega, by dsimp only; omega, put_ok hrow key (rget_ok hreg A) true, hreg, hf, hsk, hI⟩ (by dsimp only; omega) ?_
        exact by_less
      · rw [if_neg (show ¬ (7 : Int) = 1 by decide), if_neg (show ¬ (7 : Int) = 2 by decide), if_neg (show ¬ (7 : Int) = 3 by decide), if_neg (show ¬ (7 : Int) = 4 by decide), if_neg (show ¬ (7 : Int) = 5 by decide), if_neg (show ¬ (7 : Int) = 6 by decide), if_pos rfl] at hI
        have ch := hh 7 (by omega)
        rw [show has 7 114 = false from by decide] at ch
        have cp := ok_put now key 0 false (by omega)
        have hpl := put_len now key 0 false
        repeat (first | ((with_reducible apply s1); exact rfl) | (with_reducible first | apply CW.seq | apply CW.block | apply CW.region | apply CW.draw | apply CW.skip | apply CW.exit | apply CW.ret | apply q_then | apply q_then_exit | apply q_then_ret | apply q_block | apply q_block_ret | apply q_block_hit | apply q_ret | apply q_end | apply q_loop_exit | apply q_loop_ret | apply q_loopT_exit | apply q_loopT_ret | apply RW.nil) | ((with_reducible apply s3); exact rfl; exact by_k) | ((with_reducible apply s2); exact rfl; exact by_k) | ((with_reducible apply s4); exact rfl) | ((with_reducible apply s5); (first | (focus ((with_reducible apply a_call); exact cp; exact rfl; (repeat (first | exact SubsE.nil | (apply SubsE.cons; exact rfl; (first | exact .d (.refl _) | exact .d (.nil _) | exact .agg rfl (.refl _) | exact .pd | exact .ptr rfl); (first | exact trivial | exact ⟨rfl, trivial⟩)))); done)) | (focus ((with_reducible apply a_call); exact ch; exact rfl; (repeat (first | exact SubsE.nil | (apply SubsE.cons; exact rfl; (first | exact .d (.refl _) | exact .d (.nil _) | exact .agg rfl (.refl _) | exact .pd | exact .ptr rfl); (first | exact trivial | exact ⟨rfl, trivial⟩)))); done)) | ((with_reducible apply a_lptr); (iterate 4 exact rfl); exact ld_reg e hA rfl) | ((with_reducible apply a_lptr); (iterate 4 exact rfl); exact ld_reg e hB rfl) | ((with_reducible apply a_store); (iterate 6 exact rfl); exact hfit; exact ⟨rfl, trivial⟩) | exact by_oa); exact by_g) | ((with_reducible apply CW.cond_t); exact rfl; exact by_ks) | ((with_reducible apply CW.cond_f); exact rfl; exact by_ks) | ((with_reducible apply q_block_miss); exact rfl) | (refine And.intro (show chk [] [] _ _ = true by kernel_rfl) ?_))
        refine q_loopT (x + 1, sk, put now key 0 false, e) ⟨by dsimp only; omega, by dsimp only; omega, put_ok hrow key (by simp [nOk]) false, hreg, hf, hsk, hI⟩ (by dsimp only; omega) ?_
        exact by_less
      · rw [if_neg (show ¬ (8 : Int) = 1 by decide), if_neg (show ¬ (8 : Int) = 2 by decide), if_neg (show ¬ (8 : Int) = 3 by decide), if_neg (show ¬ (8 : Int) = 4 by decide), if_neg (show ¬ (8 : Int) = 5 by decide), if_neg (show ¬ (8 : Int) = 6 by decide), if_neg (show ¬ (8 : Int) = 7 by decide), if_pos rfl] at hI
        have ch := hh 8 (by omega)
        rw [show has 8 114 = true from by decide] at ch
        have hs : putCells (e.enc.map AV.d) (1 + A * 1) [.d (dint (rget e A))] = e.enc.map AV.d := by rw [hst, hself]
        by_cases h5 : rget e A < 1
        · rw [if_pos h5] at hI
          repeat (first | ((with_reducible apply s1); exact rfl) | (with_reducible first | apply CW.seq | apply CW.block | apply CW.region | apply CW.draw | apply CW.skip | apply CW.exit | apply CW.ret | apply q_then | apply q_then_exit | apply q_then_ret | apply q_block | apply q_block_ret | apply q_block_hit | apply q_ret | apply q_end | apply q_loop_exit | apply q_loop_ret | apply q_loopT_exit | apply q_loopT_ret | apply RW.nil) | ((with_reducible apply s3); exact rfl; exact by_k) | ((with_reducible apply s2); exact rfl; exact by_k) | ((with_reducible apply s4); exact rfl) | ((with_reducible apply s5); (first | (focus ((with_reducible apply a_call); exact ch; exact rfl; (repeat (first | exact SubsE.nil | (apply SubsE.cons; exact rfl; (first | exact .d (.refl _) | exact .d (.nil _) | exact .agg rfl (.refl _) | exact .pd | exact .ptr rfl); (first | exact trivial | exact ⟨rfl, trivial⟩)))); done)) | ((with_reducible apply a_lptr); (iterate 4 exact rfl); exact ld_reg e hA rfl) | ((with_reducible apply a_lptr); (iterate 4 exact rfl); exact ld_reg e hB rfl) | ((with_reducible apply a_store); (iterate 6 exact rfl); exact hfit; exact ⟨rfl, trivial⟩) | exact by_oa); exact by_g) | ((with_reducible apply CW.cond_t); exact rfl; exact by_ks) | ((with_reducible apply CW.cond_f); exact rfl; exact by_ks) | ((with_reducible apply q_block_miss); exact rfl) | (refine And.intro (show chk [] [] _ _ = true by kernel_rfl) ?_))
          refine q_loopT (x + 1, n, now, e) ⟨by dsimp only; omega, by dsimp only; omega, hrow, hreg, hf, hcs rfl, hI⟩ (by dsimp only; omega) ?_
          exact by_less
        · rw [if_neg h5] at hI
          repeat (first | ((with_reducible apply s1); exact rfl) | (with_reducible first | apply CW.seq | apply CW.block | apply CW.region | apply CW.draw | apply CW.skip | apply CW.exit | apply CW.ret | apply q_then | apply q_then_exit | apply q_then_ret | apply q_block | apply q_block_ret | apply q_block_hit | apply q_ret | apply q_end | apply q_loop_exit | apply q_loop_ret | apply q_loopT_exit | apply q_loopT_ret | apply RW.nil) | ((with_reducible apply s3); exact rfl; exact by_k) | ((with_reducible apply s2); exact rfl; exact by_k) | ((with_reducible apply s4); exact rfl) | ((with_reducible apply s5); (first | (focus ((with_reducible apply a_call); exact ch; exact rfl; (repeat (first | exact SubsE.nil | (apply SubsE.cons; exact rfl; (first | exact .d (.refl _) | exact .d (.nil _) | exact .agg rfl (.refl _) | exact .pd | exact .ptr rfl); (first | exact trivial | exact ⟨rfl, trivial⟩)))); done)) | ((with_reducible apply a_lptr); (iterate 4 exact rfl); exact ld_reg e hA rfl) | ((with_reducible apply a_lptr); (iterate 4 exact rfl); exact ld_reg e hB rfl) | ((with_reducible apply a_store); (iterate 6 exact rfl); exact hfit; exact ⟨rfl, trivial⟩) | exact by_oa); exact by_g) | ((with_reducible apply CW.cond_t); exact rfl; exact by_ks) | ((with_reducible apply CW.cond_f); exact rfl; exact by_ks) | ((with_reducible apply q_block_miss); exact rfl) | (refine And.intro (show chk [] [] _ _ = true by kernel_rfl) ?_))
          refine q_loopT (x + 1, sk, now, e) ⟨by dsimp only; omega, by dsimp only; omega, hrow, hreg, hf, hsk, hI⟩ (by dsimp only; omega) ?_
          exact by_less
      · rw [if_neg (show ¬ (9 : Int) = 1 by decide), if_neg (show ¬ (9 : Int) = 2 by decide), if_neg (show ¬ (9 : Int) = 3 by decide), if_neg (show ¬ (9 : Int) = 4 by decide), if_neg (show ¬ (9 : Int) = 5 by decide), if_neg (show ¬ (9 : Int) = 6 by decide), if_neg (show ¬ (9 : Int) = 7 by decide), if_neg (show ¬ (9 : Int) = 8 by decide)] at hI
        have ch := hh 9 (by omega)
        rw [show has 9 114 = true from by decide] at ch
        have hs : putCells (e.enc.map AV.d) (1 + A * 1) [.d (dint (rget e A))] = e.enc.map AV.d := by rw [hst, hself]
        by_cases h5 : rget e A < 0
        · rw [if_pos h5] at hI
          repeat (first | ((with_reducible apply s1); exact rfl) | (with_reducible first | apply CW.seq | apply CW.block | apply CW.region | apply CW.draw | apply CW.skip | apply CW.exit | apply CW.ret | apply q_then | apply q_then_exit | apply q_then_ret | apply q_block | apply q_block_ret | apply q_block_hit | apply q_ret | apply q_end | apply q_loop_exit | apply q_loop_ret | apply q_loopT_exit | apply q_loopT_ret | apply RW.nil) | ((with_reducible apply s3); exact rfl; exact by_k) | ((with_reducible apply s2); exact rfl; exact by_k) | ((with_reducible apply s4); exact rfl) | ((with_reducible apply s5); (first | (focus ((with_reducible apply a_call); exact ch; exact rfl; (repeat (first | exact SubsE.nil | (apply SubsE.cons; exact rfl; (first | exact .d (.refl _) | exact .d (.nil _) | exact .agg rfl (.refl _) | exact .pd | exact .ptr rfl); (first | exact trivial | exact ⟨rfl, trivial⟩)))); done)) | ((with_reducible apply a_lptr); (iterate 4 exact rfl); exact ld_reg e hA rfl) | ((with_reducible apply a_lptr); (iterate 4 exact rfl); exact ld_reg e hB rfl) | ((with_reducible apply a_store); (iterate 6 exact rfl); exact hfit; exact ⟨rfl, trivial⟩) | exact by_oa); exact by_g) | ((with_reducible apply CW.cond_t); exact rfl; exact by_ks) | ((with_reducible apply CW.cond_f); exact rfl; exact by_ks) | ((with_reducible apply q_block_miss); exact rfl) | (refine And.intro (show chk [] [] _ _ = true by kernel_rfl) ?_))
          rw [← hI]
          exact .two (.tmp rfl (.one (.d (.refl _)))) (.cell rfl rfl rfl rfl (.aggd rfl (.refl _)))
        · rw [if_neg h5] at hI
          repeat (first | ((with_reducible apply s1); exact rfl) | (with_reducible first | apply CW.seq | apply CW.block | apply CW.region | apply CW.draw | apply CW.skip | apply CW.exit | apply CW.ret | apply q_then | apply q_then_exit | apply q_then_ret | apply q_block | apply q_block_ret | apply q_block_hit | apply q_ret | apply q_end | apply q_loop_exit | apply q_loop_ret | apply q_loopT_exit | apply q_loopT_ret | apply RW.nil) | ((with_reducible apply s3); exact rfl; exact by_k) | ((with_reducible apply s2); exact rfl; exact by_k) | ((with_reducible apply s4); exact rfl) | ((with_reducible apply s5); (first | (focus ((with_reducible apply a_call); exact ch; exact rfl; (repeat (first | exact SubsE.nil | (apply SubsE.cons; exact rfl; (first | exact .d (.refl _) | exact .d (.nil _) | exact .agg rfl (.refl _) | exact .pd | exact .ptr rfl); (first | exact trivial | exact ⟨rfl, trivial⟩)))); done)) | ((with_reducible apply a_lptr); (iterate 4 exact rfl); exact ld_reg e hA rfl) | ((with_reducible apply a_lptr); (iterate 4 exact rfl); exact ld_reg e hB rfl) | ((with_reducible apply a_store); (iterate 6 exact rfl); exact hfit; exact ⟨rfl, trivial⟩) | exact by_oa); exact by_g) | ((with_reducible apply CW.cond_t); exact rfl; exact by_ks) | ((with_reducible apply CW.cond_f); exact rfl; exact by_ks) | ((with_reducible apply q_block_miss); exact rfl) | (refine And.intro (show chk [] [] _ _ = true by kernel_rfl) ?_))
          refine q_loopT (x + 1, sk, now, e) ⟨by dsimp only; omega, by dsimp only; omega, hrow, hreg, hf, hsk, hI⟩ (by dsimp only; omega) ?_
          exact by_less

end Go.Proofs.Ytjopijlkpipljaa

/-! R4 -/
/-
  Contract of the program's Run of a deed.
-/
namespace Go.Proofs.Ytjopijlkpipljaa
open Go.AX Go.RF Go.RowKit

set_option maxRecDepth 100000
set_option maxHeartbeats 8000000

theorem chTy : ∃ ti, tget tbl 90 = some ti ∧ ti.zero = [.bool false, .int .i64 0] := ⟨_, rfl, rfl⟩
theorem mty {n : Nat} {w0 : World} {own0 : Nat → Prop} {ti : TI} (h : tget tbl 90 = some ti) (hz : ti.zero = [.bool false, .int .i64 0]) : MapTy ⟨Try.prog, tbl, tbl_ok, mixed_ok, n, w0, own0⟩ 88 90 ti :=
  ⟨⟨9, Try.underlying88, Try.underlying9⟩, h, by rw [hz]; decide⟩

theorem ok_see (vf : FuncId) (caps : List D) (zs : List Arg) (view : Str → Int × Bool) (hcap : Caps caps zs) (m : Mk) (k : Str) (hv : FnOk Try.prog vf ([.d (dstr k)] ++ zs) (.tup [dint (view k).1, dbool (view k).2])) :
    FnOk Try.prog 45 [.d (dstr k), .pd [mapD (encM m)], .pd [fnD vf caps]] (.one (dint (seeM view m k))) := by
  refine fnOk_of tbl_ok mixed_ok Try.func45 rfl (by kernel_rfl) rfl rfl fun w0 own0 => ?_
  obtain ⟨ti, h1, h2⟩ := chTy
  have hm := mty (n := Try.f45.ntmps) (w0 := w0) (own0 := own0) h1 h2
  have hg := mget_enc m k
  have hz1 : ∀ u ∈ ti.zero, Value.oneCell' u = true := by rw [h2]; decide
  unfold seeM
  cases hk : mG m k with
  | some c =>
    rw [hk] at hg
    have hl : mlook ti (encM m) k = chV c := by simp [mlook, hg]
    have ha := fun {d : Nat} {ty : TypeId} {pos : String} {af : Array Edge} {gd : Option (Nat × Bool)} {σ : St} {x y : Operand} (hx) (hy) (hd) => a_mlookd (σ := σ) (d := d) (ty := ty) (pos := pos) (af := af) (gd := gd) (x := x) (y := y) hm hz1 (encM_one m) (k := k) hx hy hd
    rw [hl, hg] at ha
    repeat (first | ((with_reducible apply s1); exact rfl) | (with_reducible first | apply CW.seq | apply CW.block | apply CW.region | apply CW.draw | apply CW.skip | apply CW.exit | apply CW.ret | apply q_then | apply q_then_exit | apply q_then_ret | apply q_block | apply q_block_ret | apply q_block_hit | apply q_ret | apply q_end | apply q_loop_exit | apply q_loop_ret | apply q_loopT_exit | apply q_loopT_ret | apply RW.nil) | ((with_reducible apply s3); exact rfl; exact by_k) | ((with_reducible apply s2); exact rfl; exact by_k) | ((with_reducible apply s4); exact rfl) | ((with_reducible apply s5); (first | ((with_reducible apply ha); (iterate 3 exact rfl)) | exact by_oa); exact by_g) | ((with_reducible apply CW.cond_t); exact rfl; exact by_ks) | ((with_reducible apply CW.cond_f); exact rfl; exact by_ks) | ((with_reducible apply q_block_miss); exact rfl) | (refine And.intro (show chk [] [] _ _ = true by kernel_rfl) ?_))
    exact .one (.tmp rfl (.one (.d (.refl _))))
  | none =>
    rw [hk] at hg
    have hl : mlook ti (encM m) k = [.bool false, .int .i64 0] := by simp [mlook, hg, h2]
    have ha := fun {d : Nat} {ty : TypeId} {pos : String} {af : Array Edge} {gd : Option (Nat × Bool)} {σ : St} {x y : Operand} (hx) (hy) (hd) => a_mlookd (σ := σ) (d := d) (ty := ty) (pos := pos) (af := af) (gd := gd) (x := x) (y := y) hm hz1 (encM_one m) (k := k) hx hy hd
    rw [hl, hg] at ha
    repeat (first | ((with_reducible apply s1); exact rfl) | (with_reducible first | apply CW.seq | apply CW.block | apply CW.region | apply CW.draw | apply CW.skip | apply CW.exit | apply CW.ret | apply q_then | apply q_then_exit | apply q_then_ret | apply q_block | apply q_block_ret | apply q_block_hit | apply q_ret | apply q_end | apply q_loop_exit | apply q_loop_ret | apply q_loopT_exit | apply q_loopT_ret | apply RW.nil) | ((with_reducible apply s3); exact rfl; exact by_k) | ((with_reducible apply s2); exact rfl; exact by_k) | ((with_reducible apply s4); exact rfl) | ((with_reducible apply s5); (first | ((with_reducible apply ha); (iterate 3 exact rfl)) | (focus (with_reducible apply (a_callfn (ys := [.d (dstr k)]))); exact hv; exact hcap; exact rfl; exact rfl; apply SubsE.cons; exact rfl; exact .d (.refl _); exact trivial; exact SubsE.nil) | exact by_oa); exact by_g) | ((with_reducible apply CW.cond_t); exact rfl; exact by_ks) | ((with_reducible apply CW.cond_f); exact rfl; exact by_ks) | ((with_reducible apply q_block_miss); exact rfl) | (refine And.intro (show chk [] [] _ _ = true by kernel_rfl) ?_))
    exact .one (.tmp rfl (.one (.d (.refl _))))

theorem ok_run (vf : FuncId) (caps : List D) (zs : List Arg) (view : Str → Int × Bool) (d : Deed) (hcap : Caps caps zs) (hv : ∀ k ∈ d.reads, FnOk Try.prog vf ([.d (dstr k)] ++ zs) (.tup [dint (view k).1, dbool (view k).2]))
    (hvn : ∀ k, nOk (view k).1) (hc : d.code.length ≤ 134217728) (hw : d.writes.length ≤ 134217728) (hi : ∀ i ∈ d.code, i.Ok) (hk : ∀ i ∈ d.code, i.kind = 1 → i.key ∈ d.reads) :
    FnOk Try.prog 20 [.d (.agg d.enc), .d (fnD vf caps)] (.tup (runRes view d)) := by
  refine fnOk_of tbl_ok mixed_ok Try.func20 rfl (by kernel_rfl) rfl rfl fun w0 own0 => ?_
  obtain ⟨ti, hti, htz⟩ := chTy
  have hmt := mty (n := Try.f20.ntmps) (w0 := w0) (own0 := own0) hti htz
  have hz1 : ∀ u ∈ ti.zero, Value.oneCell' u = true := by rw [htz]; decide
  repeat (first | ((with_reducible apply stop_at 2); exact rfl) | ((with_reducible apply s1); exact rfl) | (with_reducible first | apply CW.seq | apply CW.block | apply CW.region | apply CW.draw | apply CW.skip | apply CW.exit | apply CW.ret | apply q_then | apply q_then_exit | apply q_then_ret | apply q_block | apply q_block_ret | apply q_block_hit | apply q_ret | apply q_end | apply q_loop_exit | apply q_loop_ret | apply q_loopT_exit | apply q_loopT_ret | apply RW.nil) | ((with_reducible apply s3); exact rfl; exact by_k) | ((with_reducible apply s2); exact rfl; exact by_k) | ((with_reducible apply s4); exact rfl) | ((with_reducible apply s5); (first | exact by_oa); exact by_g) | ((with_reducible apply CW.cond_t); exact rfl; exact by_ks) | ((with_reducible apply CW.cond_f); exact rfl; exact by_ks) | ((with_reducible apply q_block_miss); exact rfl) | (refine And.intro (show chk [] [] _ _ = true by kernel_rfl) ?_))
  refine Stop.go (CW.seq (CW.regionS ?_))
  refine SW.fam rfl (fam_mkmap rfl rfl) fun x0 => ?_
  refine SW.fact (p := ∃ b, x0 = .map (some b)) (map_known (id := 4) (M := []) rfl) ?_
  rintro ⟨b0, rfl⟩
  refine SW.rw ?_
  repeat (first | (with_reducible apply stop_reg 3) | ((with_reducible apply s1); exact rfl) | (with_reducible first | apply CW.seq | apply CW.block | apply CW.region | apply CW.draw | apply CW.skip | apply CW.exit | apply CW.ret | apply q_then | apply q_then_exit | apply q_then_ret | apply q_block | apply q_block_ret | apply q_block_hit | apply q_ret | apply q_end | apply q_loop_exit | apply q_loop_ret | apply q_loopT_exit | apply q_loopT_ret | apply RW.nil) | ((with_reducible apply s3); exact rfl; exact by_k) | ((with_reducible apply s2); exact rfl; exact by_k) | ((with_reducible apply s4); exact rfl) | ((with_reducible apply s5); (first | exact by_oa); exact by_g) | ((with_reducible apply CW.cond_t); exact rfl; exact by_ks) | ((with_reducible apply CW.cond_f); exact rfl; exact by_ks) | ((with_reducible apply q_block_miss); exact rfl) | (refine And.intro (show chk [] [] _ _ = true by kernel_rfl) ?_))
  refine Stop.go (CW.stut (stut_freezebox (i := 8) (id := 5) (ds := [.v (.map (some b0))]) rfl) ⟨rfl, rfl, trivial⟩ ?_)
  refine CW.stut (stut_freezebox (i := 3) (id := 1) (ds := [fnD vf caps]) rfl) ⟨rfl, rfl, trivial⟩ ?_
  repeat (first | (with_reducible apply stop_reg 4) | ((with_reducible apply s1); exact rfl) | (with_reducible first | apply CW.seq | apply CW.block | apply CW.region | apply CW.draw | apply CW.skip | apply CW.exit | apply CW.ret | apply q_then | apply q_then_exit | apply q_then_ret | apply q_block | apply q_block_ret | apply q_block_hit | apply q_ret | apply q_end | apply q_loop_exit | apply q_loop_ret | apply q_loopT_exit | apply q_loopT_ret | apply RW.nil) | ((with_reducible apply s3); exact rfl; exact by_k) | ((with_reducible apply s2); exact rfl; exact by_k) | ((with_reducible apply s4); exact rfl) | ((with_reducible apply s5); (first | ((with_reducible apply (a_mkfn (ds := [refD [.v (.map (some b0))], refD [fnD vf caps]]))); exact rfl; apply SubsE.cons; exact rfl; exact .d (.refl _); exact trivial; apply SubsE.cons; exact rfl; exact .d (.refl _); exact trivial; exact SubsE.nil) | exact by_oa); exact by_g) | ((with_reducible apply CW.cond_t); exact rfl; exact by_ks) | ((with_reducible apply CW.cond_f); exact rfl; exact by_ks) | ((with_reducible apply q_block_miss); exact rfl) | (refine And.intro (show chk [] [] _ _ = true by kernel_rfl) ?_))
  refine Stop.go (CW.stut (stut_refpd (i := 8)) ⟨rfl, trivial⟩ ?_)
  repeat (first | ((with_reducible apply s1); exact rfl) | (with_reducible first | apply CW.seq | apply CW.block | apply CW.region | apply CW.draw | apply CW.skip | apply CW.exit | apply CW.ret | apply q_then | apply q_then_exit | apply q_then_ret | apply q_block | apply q_block_ret | apply q_block_hit | apply q_ret | apply q_end | apply q_loop_exit | apply q_loop_ret | apply q_loopT_exit | apply q_loopT_ret | apply RW.nil) | ((with_reducible apply s3); exact rfl; exact by_k) | ((with_reducible apply s2); exact rfl; exact by_k) | ((with_reducible apply s4); exact rfl) | ((with_reducible apply s5); (first | exact by_oa); exact by_g) | ((with_reducible apply CW.cond_t); exact rfl; exact by_ks) | ((with_reducible apply CW.cond_f); exact rfl; exact by_ks) | ((with_reducible apply q_block_miss); exact rfl) | (refine And.intro (show chk [] [] _ _ = true by kernel_rfl) ?_))
  refine CW.loopT (fun t : Nat × Mk × Done => [sp 2 0, ob 0 d.enc, sp 4 2, ob 2 done0.enc, sd 5 (.v nilS), sd 6 (.v nilS), sp 7 3, ob 3 t.2.2.enc, (.s 8, .av (.pd [.v (.map (some b0))])), sd 9 (fnD 45 [refD [.v (.map (some b0))], refD [fnD vf caps]]), (.s 10, .av (.ptr 3 1)), (.o 4, .ob (.mp (encM t.2.1) (.map (some b0)))), sd 11 (dint t.1), nxt 6])
    (fun t => mOk t.2.1 ∧ t.2.2.Ok ∧ t.2.2.failed = false ∧ runGo view 0 t.2.1 t.2.2 (d.code.drop t.1) = runM view d)
    (fun t => d.code.length - t.1) (0, [], done0) ⟨mOk_nil, ⟨by simp [nOk, done0], by simp [nOk, done0], by simp [nOk, done0], by simp [nOk, done0]⟩, rfl, rfl⟩ ?_ ?_
  ·
    exact by_less
  · rintro ⟨x, m, e⟩ ⟨hm, he, hf, hI⟩
    dsimp only at hm he hf hI ⊢
    by_cases hx : x < d.code.length
    · obtain ⟨i, h1, h2⟩ : ∃ i, d.code.drop x = i :: d.code.drop (x + 1) ∧ d.code[x]? = some i := ⟨d.code[x], List.drop_eq_getElem_cons hx, List.getElem?_eq_getElem hx⟩
      rw [h1] at hI
      simp only [runGo] at hI
      rw [if_neg (show ¬ (0 : Int) < 0 by decide)] at hI
      have hio := hi i (List.mem_of_getElem? h2)
      obtain ⟨kd, ia, ib, n, key⟩ := i
      obtain ⟨A, rfl⟩ := Int.eq_ofNat_of_zero_le hio.a.1
      obtain ⟨B, rfl⟩ := Int.eq_ofNat_of_zero_le hio.b.1
      have hA : A < 4 := by have := hio.a.2; dsimp only at this; omega
      have hB : B < 4 := by have := hio.b.2; dsimp only at this; omega
      have hga := rget_ok he A
      have hgb := rget_ok he B
      have hst := fun y => st_reg e hA y
      have hfit := fit_reg e hA
      have hself := rset_self e A
      have hkk := hio.k
      have hcn := hio.c
      have hcs := hio.s
      dsimp only [Int.toNat_natCast] at hI hkk hcn hcs
      have hkd : kd = 1 ∨ kd = 2 ∨ kd = 3 ∨ kd = 4 ∨ kd = 5 ∨ kd = 6 ∨ kd = 7 ∨ kd = 8 ∨ kd = 9 := by omega
      clear hkk hio h1
      unfold nOk at hga hgb
      rcases hkd with rfl | rfl | rfl | rfl | rfl | rfl | rfl | rfl | rfl
      · rw [if_pos rfl] at hI
        have hsee := ok_see vf caps zs view hcap m key (hv key (hk _ (List.mem_of_getElem? h2) rfl))
        have hs := hst (seeM view m key)
        repeat (first | ((with_reducible apply s1); exact rfl) | (with_reducible first | apply CW.seq | apply CW.block | apply CW.region | apply CW.draw | apply CW.skip | apply CW.exit | apply CW.ret | apply q_then | apply q_then_exit | apply q_then_ret | apply q_block | apply q_block_ret | apply q_block_hit | apply q_ret | apply q_end | apply q_loop_exit | apply q_loop_ret | apply q_loopT_exit | apply q_loopT_ret | apply RW.nil) | ((with_reducible apply s3); exact rfl; exact by_k) | ((with_reducible apply s2); exact rfl; exact by_k) | ((with_reducible apply s4); exact rfl) | ((with_reducible apply s5); (first | (focus (with_reducible apply (a_callfnM (ys := [.d (dstr key)]) (id := 4) (x0 := .map (some b0)) (M := encM m))); exact hsee; exact .map (.ref .nil); exact rfl; exact rfl; exact rfl; exact rfl; apply SubsE.cons; exact rfl; exact .d (.refl _); exact trivial; exact SubsE.nil) | ((with_reducible apply a_lptr); (iterate 4 exact rfl); exact ld_reg e hA rfl) | ((with_reducible apply a_lptr); (iterate 4 exact rfl); exact ld_reg e hB rfl) | ((with_reducible apply a_store); (iterate 6 exact rfl); exact hfit; exact ⟨rfl, trivial⟩) | ((with_reducible apply a_nilp); (iterate 3 exact rfl)) | exact by_oa); exact by_g) | ((with_reducible apply CW.cond_t); exact rfl; exact by_ks) | ((with_reducible apply CW.cond_f); exact rfl; exact by_ks) | ((with_reducible apply q_block_miss); exact rfl) | (refine And.intro (show chk [] [] _ _ = true by kernel_rfl) ?_))
        refine q_loopT (x + 1, m, rset e A (seeM view m key)) ⟨hm, rset_ok he A (see_ok hvn hm key), by rw [rset_failed]; exact hf, hI⟩ (by dsimp only; omega) ?_
        exact by_less
      · rw [if_neg (show ¬ (2 : Int) = 1 by decide), if_pos rfl] at hI
        have hs := hst n
        repeat (first | ((with_reducible apply s1); exact rfl) | (with_reducible first | apply CW.seq | apply CW.block | apply CW.region | apply CW.draw | apply CW.skip | apply CW.exit | apply CW.ret | apply q_then | apply q_then_exit | apply q_then_ret | apply q_block | apply q_block_ret | apply q_block_hit | apply q_ret | apply q_end | apply q_loop_exit | apply q_loop_ret | apply q_loopT_exit | apply q_loopT_ret | apply RW.nil) | ((with_reducible apply s3); exact rfl; exact by_k) | ((with_reducible apply s2); exact rfl; exact by_k) | ((with_reducible apply s4); exact rfl) | ((with_reducible apply s5); (first | ((with_reducible apply a_lptr); (iterate 4 exact rfl); exact ld_reg e hA rfl) | ((with_reducible apply a_lptr); (iterate 4 exact rfl); exact ld_reg e hB rfl) | ((with_reducible apply a_store); (iterate 6 exact rfl); exact hfit; exact ⟨rfl, trivial⟩) | ((with_reducible apply a_nilp); (iterate 3 exact rfl)) | exact by_oa); exact by_g) | ((with_reducible apply CW.cond_t); exact rfl; exact by_ks) | ((with_reducible apply CW.cond_f); exact rfl; exact by_ks) | ((with_reducible apply q_block_miss); exact rfl) | (refine And.intro (show chk [] [] _ _ = true by kernel_rfl) ?_))
        refine q_loopT (x + 1, m, rset e A n) ⟨hm, rset_ok he A (hcn rfl), by rw [rset_failed]; exact hf, hI⟩ (by dsimp only; omega) ?_
        exact by_less
      · rw [if_neg (show ¬ (3 : Int) = 1 by decide), if_neg (show ¬ (3 : Int) = 2 by decide), if_pos rfl] at hI
        have hs := hst (round (rget e A + rget e B))
        have cr := ok_pround (rget e A + rget e B) (by unfold inI; omega)
        repeat (first | ((with_reducible apply s1); exact rfl) | (with_reducible first | apply CW.seq | apply CW.block | apply CW.region | apply CW.draw | apply CW.skip | apply CW.exit | apply CW.ret | apply q_then | apply q_then_exit | apply q_then_ret | apply q_block | apply q_block_ret | apply q_block_hit | apply q_ret | apply q_end | apply q_loop_exit | apply q_loop_ret | apply q_loopT_exit | apply q_loopT_ret | apply RW.nil) | ((with_reducible apply s3); exact rfl; exact by_k) | ((with_reducible apply s2); exact rfl; exact by_k) | ((with_reducible apply s4); exact rfl) | ((with_reducible apply s5); (first | (focus ((with_reducible apply a_call); exact cr; exact rfl; (repeat (first | exact SubsE.nil | (apply SubsE.cons; exact rfl; (first | exact .d (.refl _) | exact .d (.nil _) | exact .agg rfl (.refl _) | exact .pd | exact .ptr rfl); (first | exact trivial | exact ⟨rfl, trivial⟩)))); done)) | ((with_reducible apply a_lptr); (iterate 4 exact rfl); exact ld_reg e hA rfl) | ((with_reducible apply a_lptr); (iterate 4 exact rfl); exact ld_reg e hB rfl) | ((with_reducible apply a_store); (iterate 6 exact rfl); exact hfit; exact ⟨rfl, trivial⟩) | ((with_reducible apply a_nilp); (iterate 3 exact rfl)) | ((with_reducible apply a_bin); (iterate 2 exact rfl); (apply bin_add; omega); exact rfl) | exact by_oa); exact by_g) | ((with_reducible apply CW.cond_t); exact rfl; exact by_ks) | ((with_reducible apply CW.cond_f); exact rfl; exact by_ks) | ((with_reducible apply q_block_miss); exact rfl) | (refine And.intro (show chk [] [] _ _ = true by kernel_rfl) ?_))
        refine q_loopT (x + 1, m, rset e A (round (rget e A + rget e B))) ⟨hm, rset_ok he A (round_ok _), by rw [rset_failed]; exact hf, hI⟩ (by dsimp only; omega) ?_
        exact by_less
      · rw [if_neg (show ¬ (4 : Int) = 1 by decide), if_neg (show ¬ (4 : Int) = 2 by decide), if_neg (show ¬ (4 : Int) = 3 by decide), if_pos rfl] at hI
        have hs := hst (round (rget e A - rget e B))
        have cr := ok_pround (rget e A - rget e B) (by unfold inI; omega)
        repeat (first | ((with_reducible apply s1); exact rfl) | (with_reducible first | apply CW.seq | apply CW.block | apply CW.region | apply CW.draw | apply CW.skip | apply CW.exit | apply CW.ret | apply q_then | apply q_then_exit | apply q_then_ret | apply q_block | apply q_block_ret | apply q_block_hit | apply q_ret | apply q_end | apply q_loop_exit | apply q_loop_ret | apply q_loopT_exit | apply q_loopT_ret | apply RW.nil) | ((with_reducible apply s3); exact rfl; exact by_k) | ((with_reducible apply s2); exact rfl; exact by_k) | ((with_reducible apply s4); exact rfl) | ((with_reducible apply s5); (first | (focus ((with_reducible apply a_call); exact cr; exact rfl; (repeat (first | exact SubsE.nil | (apply SubsE.cons; exact rfl; (first | exact .d (.refl _) | exact .d (.nil _) | exact .agg rfl (.refl _) | exact .pd | exact .ptr rfl); (first | exact trivial | exact ⟨rfl, trivial⟩)))); done)) | ((with_reducible apply a_lptr); (iterate 4 exact rfl); exact ld_reg e hA rfl) | ((with_reducible apply a_lptr); (iterate 4 exact rfl); exact ld_reg e hB rfl) | ((with_reducible apply a_store); (iterate 6 exact rfl); exact hfit; exact ⟨rfl, trivial⟩) | ((with_reducible apply a_nilp); (iterate 3 exact rfl)) | ((with_reducible apply a_bin); (iterate 2 exact rfl); (apply bin_sub; omega); exact rfl) | exact by_oa); exact by_g) | ((with_reducible apply CW.cond_t); exact rfl; exact by_ks) | ((with_reducible apply CW.cond_f); exact rfl; exact by_ks) | ((with_reducible apply q_block_miss); exact rfl) | (refine And.intro (show chk [] [] _ _ = true by kernel_rfl) ?_))
        refine q_loopT (x + 1, m, rset e A (round (rget e A - rget e B))) ⟨hm, rset_ok he A (round_ok _), by rw [rset_failed]; exact hf, hI⟩ (by dsimp only; omega) ?_
        exact by_less
      · rw [if_neg (show ¬ (5 : Int) = 1 by decide), if_neg (show ¬ (5 : Int) = 2 by decide), if_neg (show ¬ (5 : Int) = 3 by decide), if_neg (show ¬ (5 : Int) = 4 by decide), if_pos rfl] at hI
        have hmul : -1152921504606846976 ≤ rget e A * rget e B ∧ rget e A * rget e B ≤ 1152921504606846976 := mul_bound hga hgb
        have hs := hst (round (rget e A * rget e B))
        have cr := ok_pround (rget e A * rget e B) (by unfold inI; omega)
        repeat (first | ((with_reducible apply s1); exact rfl) | (with_reducible first | apply CW.seq | apply CW.block | apply CW.region | apply CW.draw | apply CW.skip | apply CW.exit | apply CW.ret | apply q_then | apply q_then_exit | apply q_then_ret | apply q_block | apply q_block_ret | apply q_block_hit | apply q_ret | apply q_end | apply q_loop_exit | apply q_loop_ret | apply q_loopT_exit | apply q_loopT_ret | apply RW.nil) | ((with_reducible apply s3); exact rfl; exact by_k) | ((with_reducible apply s2); exact rfl; exact by_k) | ((with_reducible apply s4); exact rfl) | ((with_reducible apply s5); (first | (focus ((with_reducible apply a_call); exact cr; exact rfl; (repeat (first | exact SubsE.nil | (apply SubsE.cons; exact rfl; (first | exact .d (.refl _) | exact .d (.nil _) | exact .agg rfl (.refl _) | exact .pd | exact .ptr rfl); (first | exact trivial | exact ⟨rfl, trivial⟩)))); done)) | ((with_reducible apply a_lptr); (iterate 4 exact rfl); exact ld_reg e hA rfl) | ((with_reducible apply a_lptr); (iterate 4 exact rfl); exact ld_reg e hB rfl) | ((with_reducible apply a_store); (iterate 6 exact rfl); exact hfit; exact ⟨rfl, trivial⟩) | ((with_reducible apply a_nilp); (iterate 3 exact rfl)) | ((with_reducible apply a_bin); (iterate 2 exact rfl); (apply bin_mul; omega); exact rfl) | exact by_oa); exact by_g) | ((with_reducible apply CW.cond_t); exact rfl; exact by_ks) | ((with_reducible apply CW.cond_f); exact rfl; exact by_ks) | ((with_reducible apply q_block_miss); exact rfl) | (refine And.intro (show chk [] [] _ _ = true by kernel_rfl) ?_))
        refine q_loopT (x + 1, m, rset e A (round (rget e A * rget e B))) ⟨hm, rset_ok he A (round_ok _), by rw [rset_failed]; exact hf, hI⟩ (by dsimp only; omega) ?_
        exact by_less
      · rw [if_neg (show ¬ (6 : Int) = 1 by decide), if_neg (show ¬ (6 : Int) = 2 by decide), if_neg (show ¬ (6 : Int) = 3 by decide), if_neg (show ¬ (6 : Int) = 4 by decide), if_neg (show ¬ (6 : Int) = 5 by decide), if_pos rfl] at hI
        have hms := mset_enc m key (true, rget e A)
        repeat (first | ((with_reducible apply s1); exact rfl) | (with_reducible first | apply CW.seq | apply CW.block | apply CW.region | apply CW.draw | apply CW.skip | apply CW.exit | apply CW.ret | apply q_then | apply q_then_exit | apply q_then_ret | apply q_block | apply q_block_ret | apply q_block_hit | apply q_ret | apply q_end | apply q_loop_exit | apply q_loop_ret | apply q_loopT_exit | apply q_loopT_ret | apply RW.nil) | ((with_reducible apply s3); exact rfl; exact by_k) | ((with_reducible apply s2); exact rfl; exact by_k) | ((with_reducible apply s4); exact rfl) | ((with_reducible apply s5); (first | ((with_reducible apply a_lptr); (iterate 4 exact rfl); exact ld_reg e hA rfl) | ((with_reducible apply a_lptr); (iterate 4 exact rfl); exact ld_reg e hB rfl) | ((with_reducible apply a_store); (iterate 6 exact rfl); exact hfit; exact ⟨rfl, trivial⟩) | ((with_reducible apply a_nilp); (iterate 3 exact rfl)) | ((with_reducible apply (a_mset (us := [.bool true, .int .i64 (rget e A)]) 4 hmt)); (iterate 3 exact rfl); exact .d rfl; exact rfl) | exact by_oa); exact by_g) | ((with_reducible apply CW.cond_t); exact rfl; exact by_ks) | ((with_reducible apply CW.cond_f); exact rfl; exact by_ks) | ((with_reducible apply q_block_miss); exact rfl) | (refine And.intro (show chk [] [] _ _ = true by kernel_rfl) ?_))
        rw [show [Value.bool true, .int .i64 (rget e A)] = chV (true, rget e A) from rfl, hms]
        refine q_loopT (x + 1, mS m key (true, rget e A), e) ⟨mOk_set hm key (rget_ok he A), he, hf, hI⟩ (by dsimp only; omega) ?_
        exact by_less
      · rw [if_neg (show ¬ (7 : Int) = 1 by decide), if_neg (show ¬ (7 : Int) = 2 by decide), if_neg (show ¬ (7 : Int) = 3 by decide), if_neg (show ¬ (7 : Int) = 4 by decide), if_neg (show ¬ (7 : Int) = 5 by decide), if_neg (show ¬ (7 : Int) = 6 by decide), if_pos rfl] at hI
        have hms := mset_enc m key (false, 0)
        repeat (first | ((with_reducible apply s1); exact rfl) | (with_reducible first | apply CW.seq | apply CW.block | apply CW.region | apply CW.draw | apply CW.skip | apply CW.exit | apply CW.ret | apply q_then | apply q_then_exit | apply q_then_ret | apply q_block | apply q_block_ret | apply q_block_hit | apply q_ret | apply q_end | apply q_loop_exit | apply q_loop_ret | apply q_loopT_exit | apply q_loopT_ret | apply RW.nil) | ((with_reducible apply s3); exact rfl; exact by_k) | ((with_reducible apply s2); exact rfl; exact by_k) | ((with_reducible apply s4); exact rfl) | ((with_reducible apply s5); (first | ((with_reducible apply a_lptr); (iterate 4 exact rfl); exact ld_reg e hA rfl) | ((with_reducible apply a_lptr); (iterate 4 exact rfl); exact ld_reg e hB rfl) | ((with_reducible apply a_store); (iterate 6 exact rfl); exact hfit; exact ⟨rfl, trivial⟩) | ((with_reducible apply a_nilp); (iterate 3 exact rfl)) | ((with_reducible apply (a_mset (us := [.bool false, .int .i64 0]) 4 hmt)); (iterate 3 exact rfl); exact .d rfl; exact rfl) | exact by_oa); exact by_g) | ((with_reducible apply CW.cond_t); exact rfl; exact by_ks) | ((with_reducible apply CW.cond_f); exact rfl; exact by_ks) | ((with_reducible apply q_block_miss); exact rfl) | (refine And.intro (show chk [] [] _ _ = true by kernel_rfl) ?_))
        rw [show [Value.bool false, .int .i64 0] = chV (false, 0) from rfl, hms]
        refine q_loopT (x + 1, mS m key (false, 0), e) ⟨mOk_set hm key (by simp [nOk]), he, hf, hI⟩ (by dsimp only; omega) ?_
        exact by_less
      · rw [if_neg (show ¬ (8 : Int) = 1 by decide), if_neg (show ¬ (8 : Int) = 2 by decide), if_neg (show ¬ (8 : Int) = 3 by decide), if_neg (show ¬ (8 : Int) = 4 by decide), if_neg (show ¬ (8 : Int) = 5 by decide), if_neg (show ¬ (8 : Int) = 6 by decide), if_neg (show ¬ (8 : Int) = 7 by decide), if_pos rfl] at hI
        obtain ⟨N, rfl⟩ := Int.eq_ofNat_of_zero_le (hcs rfl).1
        have hN := (hcs rfl).2
        by_cases h5 : rget e A < 1
        · rw [if_pos h5, runGo_skip, List.drop_drop] at hI
          repeat (first | ((with_reducible apply s1); exact rfl) | (with_reducible first | apply CW.seq | apply CW.block | apply CW.region | apply CW.draw | apply CW.skip | apply CW.exit | apply CW.ret | apply q_then | apply q_then_exit | apply q_then_ret | apply q_block | apply q_block_ret | apply q_block_hit | apply q_ret | apply q_end | apply q_loop_exit | apply q_loop_ret | apply q_loopT_exit | apply q_loopT_ret | apply RW.nil) | ((with_reducible apply s3); exact rfl; exact by_k) | ((with_reducible apply s2); exact rfl; exact by_k) | ((with_reducible apply s4); exact rfl) | ((with_reducible apply s5); (first | ((with_reducible apply a_lptr); (iterate 4 exact rfl); exact ld_reg e hA rfl) | ((with_reducible apply a_lptr); (iterate 4 exact rfl); exact ld_reg e hB rfl) | ((with_reducible apply a_store); (iterate 6 exact rfl); exact hfit; exact ⟨rfl, trivial⟩) | ((with_reducible apply a_nilp); (iterate 3 exact rfl)) | exact by_oa); exact by_g) | ((with_reducible apply CW.cond_t); exact rfl; exact by_ks) | ((with_reducible apply CW.cond_f); exact rfl; exact by_ks) | ((with_reducible apply q_block_miss); exact rfl) | (refine And.intro (show chk [] [] _ _ = true by kernel_rfl) ?_))
          refine q_loopT (x + N + 1, m, e) ⟨hm, he, hf, by dsimp only; rw [← hI]; congr 2; omega⟩ (by dsimp only; omega) ?_
          exact by_less
        · rw [if_neg h5] at hI
          repeat (first | ((with_reducible apply s1); exact rfl) | (with_reducible first | apply CW.seq | apply CW.block | apply CW.region | apply CW.draw | apply CW.skip | apply CW.exit | apply CW.ret | apply q_then | apply q_then_exit | apply q_then_ret | apply q_block | apply q_block_ret | apply q_block_hit | apply q_ret | apply q_end | apply q_loop_exit | apply q_loop_ret | apply q_loopT_exit | apply q_loopT_ret | apply RW.nil) | ((with_reducible apply s3); exact rfl; exact by_k) | ((with_reducible apply s2); exact rfl; exact by_k) | ((with_reducible apply s4); exact rfl) | ((with_reducible apply s5); (first | ((with_reducible apply a_lptr); (iterate 4 exact rfl); exact ld_reg e hA rfl) | ((with_reducible apply a_lptr); (iterate 4 exact rfl); exact ld_reg e hB rfl) | ((with_reducible apply a_store); (iterate 6 exact rfl); exact hfit; exact ⟨rfl, trivial⟩) | ((with_reducible apply a_nilp); (iterate 3 exact rfl)) | exact by_oa); exact by_g) | ((with_reducible apply CW.cond_t); exact rfl; exact by_ks) | ((with_reducible apply CW.cond_f); exact rfl; exact by_ks) | ((with_reducible apply q_block_miss); exact rfl) | (refine And.intro (show chk [] [] _ _ = true by kernel_rfl) ?_))
          refine q_loopT (x + 1, m, e) ⟨hm, he, hf, hI⟩ (by dsimp only; omega) ?_
          exact by_less
      · rw [if_neg (show ¬ (9 : Int) = 1 by decide), if_neg (show ¬ (9 : Int) = 2 by decide), if_neg (show ¬ (9 : Int) = 3 by decide), if_neg (show ¬ (9 : Int) = 4 by decide), if_neg (show ¬ (9 : Int) = 5 by decide), if_neg (show ¬ (9 : Int) = 6 by decide), if_neg (show ¬ (9 : Int) = 7 by decide), if_neg (show ¬ (9 : Int) = 8 by decide)] at hI
        by_cases h5 : rget e A < 0
        · rw [if_pos h5] at hI
          repeat (first | ((with_reducible apply s1); exact rfl) | (with_reducible first | apply CW.seq | apply CW.block | apply CW.region | apply CW.draw | apply CW.skip | apply CW.exit | apply CW.ret | apply q_then | apply q_then_exit | apply q_then_ret | apply q_block | apply q_block_ret | apply q_block_hit | apply q_ret | apply q_end | apply q_loop_exit | apply q_loop_ret | apply q_loopT_exit | apply q_loopT_ret | apply RW.nil) | ((with_reducible apply s3); exact rfl; exact by_k) | ((with_reducible apply s2); exact rfl; exact by_k) | ((with_reducible apply s4); exact rfl) | ((with_reducible apply s5); (first | ((with_reducible apply a_lptr); (iterate 4 exact rfl); exact ld_reg e hA rfl) | ((with_reducible apply a_lptr); (iterate 4 exact rfl); exact ld_reg e hB rfl) | ((with_reducible apply a_store); (iterate 6 exact rfl); exact hfit; exact ⟨rfl, trivial⟩) | ((with_reducible apply a_nilp); (iterate 3 exact rfl)) | exact by_oa); exact by_g) | ((with_reducible apply CW.cond_t); exact rfl; exact by_ks) | ((with_reducible apply CW.cond_f); exact rfl; exact by_ks) | ((with_reducible apply q_block_miss); exact rfl) | (refine And.intro (show chk [] [] _ _ = true by kernel_rfl) ?_))
          unfold runRes runC
          rw [← hI]
          exact .three (.cell rfl rfl rfl rfl (.aggd rfl (.refl _))) (.tmp rfl (.one (.d (.nil _)))) (.tmp rfl (.one (.d (.nil _))))
        · rw [if_neg h5] at hI
          repeat (first | ((with_reducible apply s1); exact rfl) | (with_reducible first | apply CW.seq | apply CW.block | apply CW.region | apply CW.draw | apply CW.skip | apply CW.exit | apply CW.ret | apply q_then | apply q_then_exit | apply q_then_ret | apply q_block | apply q_block_ret | apply q_block_hit | apply q_ret | apply q_end | apply q_loop_exit | apply q_loop_ret | apply q_loopT_exit | apply q_loopT_ret | apply RW.nil) | ((with_reducible apply s3); exact rfl; exact by_k) | ((with_reducible apply s2); exact rfl; exact by_k) | ((with_reducible apply s4); exact rfl) | ((with_reducible apply s5); (first | ((with_reducible apply a_lptr); (iterate 4 exact rfl); exact ld_reg e hA rfl) | ((with_reducible apply a_lptr); (iterate 4 exact rfl); exact ld_reg e hB rfl) | ((with_reducible apply a_store); (iterate 6 exact rfl); exact hfit; exact ⟨rfl, trivial⟩) | ((with_reducible apply a_nilp); (iterate 3 exact rfl)) | exact by_oa); exact by_g) | ((with_reducible apply CW.cond_t); exact rfl; exact by_ks) | ((with_reducible apply CW.cond_f); exact rfl; exact by_ks) | ((with_reducible apply q_block_miss); exact rfl) | (refine And.intro (show chk [] [] _ _ = true by kernel_rfl) ?_))
          refine q_loopT (x + 1, m, e) ⟨hm, he, hf, hI⟩ (by dsimp only; omega) ?_
          exact by_less
    · rw [List.drop_eq_nil_of_le (by omega)] at hI
      simp only [runGo] at hI
      have hchl : ∀ j, j ≤ d.writes.length → (chg m (d.writes.drop j)).length ≤ d.writes.length - j := fun j _ => by
        have := chg_len m (d.writes.drop j); simpa using this
      repeat (first | ((with_reducible apply stop_at 33); exact rfl) | ((with_reducible apply s1); exact rfl) | (with_reducible first | apply CW.seq | apply CW.block | apply CW.region | apply CW.draw | apply CW.skip | apply CW.exit | apply CW.ret | apply q_then | apply q_then_exit | apply q_then_ret | apply q_block | apply q_block_ret | apply q_block_hit | apply q_ret | apply q_end | apply q_loop_exit | apply q_loop_ret | apply q_loopT_exit | apply q_loopT_ret | apply RW.nil) | ((with_reducible apply s3); exact rfl; exact by_k) | ((with_reducible apply s2); exact rfl; exact by_k) | ((with_reducible apply s4); exact rfl) | ((with_reducible apply s5); (first | exact by_oa); exact by_g) | ((with_reducible apply CW.cond_t); exact rfl; exact by_ks) | ((with_reducible apply CW.cond_f); exact rfl; exact by_ks) | ((with_reducible apply q_block_miss); exact rfl) | (refine And.intro (show chk [] [] _ _ = true by kernel_rfl) ?_))
      refine Stop.go (CW.stut (stut_promote (i := 13) 48 4) ⟨rfl, rfl, trivial⟩ ?_)
      refine CW.stut (stut_promote (i := 14) 9 1) ⟨rfl, rfl, trivial⟩ ?_
      repeat (first | ((with_reducible apply s1); exact rfl) | (with_reducible first | apply CW.seq | apply CW.block | apply CW.region | apply CW.draw | apply CW.skip | apply CW.exit | apply CW.ret | apply q_then | apply q_then_exit | apply q_then_ret | apply q_block | apply q_block_ret | apply q_block_hit | apply q_ret | apply q_end | apply q_loop_exit | apply q_loop_ret | apply q_loopT_exit | apply q_loopT_ret | apply RW.nil) | ((with_reducible apply s3); exact rfl; exact by_k) | ((with_reducible apply s2); exact rfl; exact by_k) | ((with_reducible apply s4); exact rfl) | ((with_reducible apply s5); (first | exact by_oa); exact by_g) | ((with_reducible apply CW.cond_t); exact rfl; exact by_ks) | ((with_reducible apply CW.cond_f); exact rfl; exact by_ks) | ((with_reducible apply q_block_miss); exact rfl) | (refine And.intro (show chk [] [] _ _ = true by kernel_rfl) ?_))
      refine CW.loopT (fun t : Nat × List (Str × (Bool × Int)) => [sp 4 2, ob 2 done0.enc, sd 5 (.v nilS), sd 6 (.v nilS), sp 7 3, ob 3 e.enc, (.s 8, .av (.pd [.v (.map (some b0))])), (.o 4, .ob (.mp (encM m) (.map (some b0)))),
        so 13 6 t.2.length, oa 6 48 4 ((t.2.map chVer).map Version.enc), so 14 7 t.2.length, oa 7 9 1 ((t.2.map (·.1)).map encStr1), sd 162 (encStrs d.writes), sd 163 (dint d.writes.length), sd 164 (dint t.1), nxt 8])
        (fun t => t.1 ≤ d.writes.length ∧ t.2.length ≤ t.1 ∧ t.2 ++ chg m (d.writes.drop t.1) = chg m d.writes) (fun t => d.writes.length - t.1) (0, []) ⟨by omega, by simp, rfl⟩ ?_ ?_
      ·
        exact by_less
      · rintro ⟨j, acc⟩ ⟨hj, hacc, hJ⟩
        dsimp only at hj hacc hJ ⊢
        rcases drop_case hj with ⟨h1, h2⟩ | ⟨k, h1, h2, h3⟩
        · rw [h1, chg, List.append_nil] at hJ
          repeat (first | ((with_reducible apply s1); exact rfl) | (with_reducible first | apply CW.seq | apply CW.block | apply CW.region | apply CW.draw | apply CW.skip | apply CW.exit | apply CW.ret | apply q_then | apply q_then_exit | apply q_then_ret | apply q_block | apply q_block_ret | apply q_block_hit | apply q_ret | apply q_end | apply q_loop_exit | apply q_loop_ret | apply q_loopT_exit | apply q_loopT_ret | apply RW.nil) | ((with_reducible apply s3); exact rfl; exact by_k) | ((with_reducible apply s2); exact rfl; exact by_k) | ((with_reducible apply s4); exact rfl) | ((with_reducible apply s5); (first | exact by_oa); exact by_g) | ((with_reducible apply CW.cond_t); exact rfl; exact by_ks) | ((with_reducible apply CW.cond_f); exact rfl; exact by_ks) | ((with_reducible apply q_block_miss); exact rfl) | (refine And.intro (show chk [] [] _ _ = true by kernel_rfl) ?_))
          have hrc : runC view d = acc := by
            unfold runC
            rw [← hI]
            dsimp only
            rw [if_neg (by rw [hf]; simp), hJ]
          unfold runRes
          rw [hrc, ← hI]
          exact .three (.cell rfl rfl rfl rfl (.aggd rfl (.refl _))) (.tmp rfl (.one (.own rfl (by simp) (.refl _)))) (.tmp rfl (.one (.own rfl (by simp) (.refl _))))
        · rw [h1, chg] at hJ
          have hg := mget_enc m k
          cases hmk : mG m k with
          | none =>
            rw [hmk] at hJ hg
            dsimp only at hJ
            have hl : mlook ti (encM m) k = [.bool false, .int .i64 0] := by simp [mlook, hg, htz]
            have ha := fun {d : Nat} {ty : TypeId} {pos : String} {af : Array Edge} {gd : Option (Nat × Bool)} {σ : St} {x y : Operand} {x0 : Value} (hx) (hy) (ho) (hd) => a_mlook (σ := σ) (d := d) (ty := ty) (pos := pos) (af := af) (gd := gd) (x := x) (y := y) (x0 := x0) 4 hmt hz1 (encM_one m) (k := k) hx hy ho hd
            rw [hl, hg] at ha
            repeat (first | ((with_reducible apply s1); exact rfl) | (with_reducible first | apply CW.seq | apply CW.block | apply CW.region | apply CW.draw | apply CW.skip | apply CW.exit | apply CW.ret | apply q_then | apply q_then_exit | apply q_then_ret | apply q_block | apply q_block_ret | apply q_block_hit | apply q_ret | apply q_end | apply q_loop_exit | apply q_loop_ret | apply q_loopT_exit | apply q_loopT_ret | apply RW.nil) | ((with_reducible apply s3); exact rfl; exact by_k) | ((with_reducible apply s2); exact rfl; exact by_k) | ((with_reducible apply s4); exact rfl) | ((with_reducible apply s5); (first | ((with_reducible apply ha); (iterate 4 exact rfl)) | exact by_oa); exact by_g) | ((with_reducible apply CW.cond_t); exact rfl; exact by_ks) | ((with_reducible apply CW.cond_f); exact rfl; exact by_ks) | ((with_reducible apply q_block_miss); exact rfl) | (refine And.intro (show chk [] [] _ _ = true by kernel_rfl) ?_))
            refine q_loopT (j + 1, acc) ⟨by dsimp only; omega, by dsimp only; omega, hJ⟩ (by dsimp only; omega) ?_
            exact by_less
          | some c =>
            rw [hmk] at hJ hg
            dsimp only at hJ
            have hl : mlook ti (encM m) k = chV c := by simp [mlook, hg]
            have ha := fun {d : Nat} {ty : TypeId} {pos : String} {af : Array Edge} {gd : Option (Nat × Bool)} {σ : St} {x y : Operand} {x0 : Value} (hx) (hy) (ho) (hd) => a_mlook (σ := σ) (d := d) (ty := ty) (pos := pos) (af := af) (gd := gd) (x := x) (y := y) (x0 := x0) 4 hmt hz1 (encM_one m) (k := k) hx hy ho hd
            rw [hl, hg] at ha
            repeat (first | ((with_reducible apply s1); exact rfl) | (with_reducible first | apply CW.seq | apply CW.block | apply CW.region | apply CW.draw | apply CW.skip | apply CW.exit | apply CW.ret | apply q_then | apply q_then_exit | apply q_then_ret | apply q_block | apply q_block_ret | apply q_block_hit | apply q_ret | apply q_end | apply q_loop_exit | apply q_loop_ret | apply q_loopT_exit | apply q_loopT_ret | apply RW.nil) | ((with_reducible apply s3); exact rfl; exact by_k) | ((with_reducible apply s2); exact rfl; exact by_k) | ((with_reducible apply s4); exact rfl) | ((with_reducible apply s5); (first | ((with_reducible apply ha); (iterate 4 exact rfl)) | exact by_oa); exact by_g) | ((with_reducible apply CW.cond_t); exact rfl; exact by_ks) | ((with_reducible apply CW.cond_f); exact rfl; exact by_ks) | ((with_reducible apply q_block_miss); exact rfl) | (refine And.intro (show chk [] [] _ _ = true by kernel_rfl) ?_))
            refine q_loopT (j + 1, acc ++ [(k, c)]) ⟨by dsimp only; omega, by dsimp only; simp; omega, by rw [← hJ]; simp⟩ (by dsimp only; omega) ?_
            exact by_less

end Go.Proofs.Ytjopijlkpipljaa

/-! F1 -/
/-
  Contracts of the references' small functions on data: lists held against each other.
-/
namespace Go.Proofs.Ytjopijlkpipljaa
open Go.AX Go.RF

set_option maxRecDepth 100000

theorem ok_SameInts (l r : List Int) (hl : l.length ≤ 1073741824) : FnOk Try.prog 8 [.d (encInts l), .d (encInts r)] (.one (dbool (allB (fun a b => decide (a = b)) l r))) := by
  refine fnOk_of tbl_ok mixed_ok Try.func8 rfl (by kernel_rfl) rfl rfl fun w0 own0 => ?_
  by_cases hlen : l.length = r.length
  ·
    repeat (first | ((with_reducible apply s1); exact rfl) | (with_reducible first | apply CW.seq | apply CW.block | apply CW.region | apply CW.draw | apply CW.skip | apply CW.exit | apply CW.ret | apply q_then | apply q_then_exit | apply q_then_ret | apply q_block | apply q_block_ret | apply q_block_hit | apply q_ret | apply q_end | apply q_loop_exit | apply q_loop_ret | apply q_loopT_exit | apply q_loopT_ret | apply RW.nil) | ((with_reducible apply s3); exact rfl; exact by_k) | ((with_reducible apply s2); exact rfl; exact by_k) | ((with_reducible apply s4); exact rfl) | ((with_reducible apply s5); (first | exact by_oa); exact by_g) | ((with_reducible apply CW.cond_t); exact rfl; exact by_ks) | ((with_reducible apply CW.cond_f); exact rfl; exact by_ks) | ((with_reducible apply q_block_miss); exact rfl) | (refine And.intro (show chk [] [] _ _ = true by kernel_rfl) ?_))
    refine CW.loop (fun k => [(.s 0, .av (.d (encInts l))), (.s 1, .av (.d (encInts r))), (.s 11, .av (.d (encInts l))), (.s 12, .av (.d (dint l.length))), (.s 13, .av (.d (dint k))), (.nx, .num 0)]) (agree (fun a b => decide (a = b)) l r) ?_ fun k hk => ?_
    ·
      exact by_less
    · rcases agree_case hlen hk with ⟨h1, h1', a, b, h2, h3, h4⟩ | ⟨h1, h2⟩ | ⟨h1, h2, a, b, h3, h4, h5⟩
      · replace h4 : a = b := by simpa using h4
        repeat (first | ((with_reducible apply s1); exact rfl) | (with_reducible first | apply CW.seq | apply CW.block | apply CW.region | apply CW.draw | apply CW.skip | apply CW.exit | apply CW.ret | apply q_then | apply q_then_exit | apply q_then_ret | apply q_block | apply q_block_ret | apply q_block_hit | apply q_ret | apply q_end | apply q_loop_exit | apply q_loop_ret | apply q_loopT_exit | apply q_loopT_ret | apply RW.nil) | ((with_reducible apply s3); exact rfl; exact by_k) | ((with_reducible apply s2); exact rfl; exact by_k) | ((with_reducible apply s4); exact rfl) | ((with_reducible apply s5); (first | exact by_oa); exact by_g) | ((with_reducible apply CW.cond_t); exact rfl; exact by_ks) | ((with_reducible apply CW.cond_f); exact rfl; exact by_ks) | ((with_reducible apply q_block_miss); exact rfl) | (refine And.intro (show chk [] [] _ _ = true by kernel_rfl) ?_))
        refine q_loop h1 ?_
        exact by_less
      ·
        repeat (first | ((with_reducible apply s1); exact rfl) | (with_reducible first | apply CW.seq | apply CW.block | apply CW.region | apply CW.draw | apply CW.skip | apply CW.exit | apply CW.ret | apply q_then | apply q_then_exit | apply q_then_ret | apply q_block | apply q_block_ret | apply q_block_hit | apply q_ret | apply q_end | apply q_loop_exit | apply q_loop_ret | apply q_loopT_exit | apply q_loopT_ret | apply RW.nil) | ((with_reducible apply s3); exact rfl; exact by_k) | ((with_reducible apply s2); exact rfl; exact by_k) | ((with_reducible apply s4); exact rfl) | ((with_reducible apply s5); (first | exact by_oa); exact by_g) | ((with_reducible apply CW.cond_t); exact rfl; exact by_ks) | ((with_reducible apply CW.cond_f); exact rfl; exact by_ks) | ((with_reducible apply q_block_miss); exact rfl) | (refine And.intro (show chk [] [] _ _ = true by kernel_rfl) ?_))
        exact .one (.tmp rfl (.one (.d (dle_bool h2.symm))))
      · replace h5 : ¬ a = b := by simpa using h5
        repeat (first | ((with_reducible apply s1); exact rfl) | (with_reducible first | apply CW.seq | apply CW.block | apply CW.region | apply CW.draw | apply CW.skip | apply CW.exit | apply CW.ret | apply q_then | apply q_then_exit | apply q_then_ret | apply q_block | apply q_block_ret | apply q_block_hit | apply q_ret | apply q_end | apply q_loop_exit | apply q_loop_ret | apply q_loopT_exit | apply q_loopT_ret | apply RW.nil) | ((with_reducible apply s3); exact rfl; exact by_k) | ((with_reducible apply s2); exact rfl; exact by_k) | ((with_reducible apply s4); exact rfl) | ((with_reducible apply s5); (first | exact by_oa); exact by_g) | ((with_reducible apply CW.cond_t); exact rfl; exact by_ks) | ((with_reducible apply CW.cond_f); exact rfl; exact by_ks) | ((with_reducible apply q_block_miss); exact rfl) | (refine And.intro (show chk [] [] _ _ = true by kernel_rfl) ?_))
        exact .one (.tmp rfl (.one (.d (dle_bool h2.symm))))
  ·
    repeat (first | ((with_reducible apply s1); exact rfl) | (with_reducible first | apply CW.seq | apply CW.block | apply CW.region | apply CW.draw | apply CW.skip | apply CW.exit | apply CW.ret | apply q_then | apply q_then_exit | apply q_then_ret | apply q_block | apply q_block_ret | apply q_block_hit | apply q_ret | apply q_end | apply q_loop_exit | apply q_loop_ret | apply q_loopT_exit | apply q_loopT_ret | apply RW.nil) | ((with_reducible apply s3); exact rfl; exact by_k) | ((with_reducible apply s2); exact rfl; exact by_k) | ((with_reducible apply s4); exact rfl) | ((with_reducible apply s5); (first | exact by_oa); exact by_g) | ((with_reducible apply CW.cond_t); exact rfl; exact by_ks) | ((with_reducible apply CW.cond_f); exact rfl; exact by_ks) | ((with_reducible apply q_block_miss); exact rfl) | (refine And.intro (show chk [] [] _ _ = true by kernel_rfl) ?_))
    refine .one (.tmp rfl (.one (.d (dle_bool ?_))))
    cases hb : allB (fun a b => decide (a = b)) l r
    · rfl
    · exact absurd (allB_len hb) hlen

theorem ok_SameTexts (l r : List Str) (hl : l.length ≤ 1073741824) : FnOk Try.prog 63 [.d (encStrs l), .d (encStrs r)] (.one (dbool (allB (fun a b => decide (a = b)) l r))) := by
  refine fnOk_of tbl_ok mixed_ok Try.func63 rfl (by kernel_rfl) rfl rfl fun w0 own0 => ?_
  by_cases hlen : l.length = r.length
  ·
    repeat (first | ((with_reducible apply s1); exact rfl) | (with_reducible first | apply CW.seq | apply CW.block | apply CW.region | apply CW.draw | apply CW.skip | apply CW.exit | apply CW.ret | apply q_then | apply q_then_exit | apply q_then_ret | apply q_block | apply q_block_ret | apply q_block_hit | apply q_ret | apply q_end | apply q_loop_exit | apply q_loop_ret | apply q_loopT_exit | apply q_loopT_ret | apply RW.nil) | ((with_reducible apply s3); exact rfl; exact by_k) | ((with_reducible apply s2); exact rfl; exact by_k) | ((with_reducible apply s4); exact rfl) | ((with_reducible apply s5); (first | exact by_oa); exact by_g) | ((with_reducible apply CW.cond_t); exact rfl; exact by_ks) | ((with_reducible apply CW.cond_f); exact rfl; exact by_ks) | ((with_reducible apply q_block_miss); exact rfl) | (refine And.intro (show chk [] [] _ _ = true by kernel_rfl) ?_))
    refine CW.loop (fun k => [(.s 0, .av (.d (encStrs l))), (.s 1, .av (.d (encStrs r))), (.s 11, .av (.d (encStrs l))), (.s 12, .av (.d (dint l.length))), (.s 13, .av (.d (dint k))), (.nx, .num 0)]) (agree (fun a b => decide (a = b)) l r) ?_ fun k hk => ?_
    ·
      exact by_less
    · rcases agree_case hlen hk with ⟨h1, h1', a, b, h2, h3, h4⟩ | ⟨h1, h2⟩ | ⟨h1, h2, a, b, h3, h4, h5⟩
      · replace h4 : a = b := by simpa using h4
        repeat (first | ((with_reducible apply s1); exact rfl) | (with_reducible first | apply CW.seq | apply CW.block | apply CW.region | apply CW.draw | apply CW.skip | apply CW.exit | apply CW.ret | apply q_then | apply q_then_exit | apply q_then_ret | apply q_block | apply q_block_ret | apply q_block_hit | apply q_ret | apply q_end | apply q_loop_exit | apply q_loop_ret | apply q_loopT_exit | apply q_loopT_ret | apply RW.nil) | ((with_reducible apply s3); exact rfl; exact by_k) | ((with_reducible apply s2); exact rfl; exact by_k) | ((with_reducible apply s4); exact rfl) | ((with_reducible apply s5); (first | exact by_oa); exact by_g) | ((with_reducible apply CW.cond_t); exact rfl; exact by_ks) | ((with_reducible apply CW.cond_f); exact rfl; exact by_ks) | ((with_reducible apply q_block_miss); exact rfl) | (refine And.intro (show chk [] [] _ _ = true by kernel_rfl) ?_))
        refine q_loop h1 ?_
        exact by_less
      ·
        repeat (first | ((with_reducible apply s1); exact rfl) | (with_reducible first | apply CW.seq | apply CW.block | apply CW.region | apply CW.draw | apply CW.skip | apply CW.exit | apply CW.ret | apply q_then | apply q_then_exit | apply q_then_ret | apply q_block | apply q_block_ret | apply q_block_hit | apply q_ret | apply q_end | apply q_loop_exit | apply q_loop_ret | apply q_loopT_exit | apply q_loopT_ret | apply RW.nil) | ((with_reducible apply s3); exact rfl; exact by_k) | ((with_reducible apply s2); exact rfl; exact by_k) | ((with_reducible apply s4); exact rfl) | ((with_reducible apply s5); (first | exact by_oa); exact by_g) | ((with_reducible apply CW.cond_t); exact rfl; exact by_ks) | ((with_reducible apply CW.cond_f); exact rfl; exact by_ks) | ((with_reducible apply q_block_miss); exact rfl) | (refine And.intro (show chk [] [] _ _ = true by kernel_rfl) ?_))
        exact .one (.tmp rfl (.one (.d (dle_bool h2.symm))))
      · replace h5 : ¬ a = b := by simpa using h5
        repeat (first | ((with_reducible apply s1); exact rfl) | (with_reducible first | apply CW.seq | apply CW.block | apply CW.region | apply CW.draw | apply CW.skip | apply CW.exit | apply CW.ret | apply q_then | apply q_then_exit | apply q_then_ret | apply q_block | apply q_block_ret | apply q_block_hit | apply q_ret | apply q_end | apply q_loop_exit | apply q_loop_ret | apply q_loopT_exit | apply q_loopT_ret | apply RW.nil) | ((with_reducible apply s3); exact rfl; exact by_k) | ((with_reducible apply s2); exact rfl; exact by_k) | ((with_reducible apply s4); exact rfl) | ((with_reducible apply s5); (first | exact by_oa); exact by_g) | ((with_reducible apply CW.cond_t); exact rfl; exact by_ks) | ((with_reducible apply CW.cond_f); exact rfl; exact by_ks) | ((with_reducible apply q_block_miss); exact rfl) | (refine And.intro (show chk [] [] _ _ = true by kernel_rfl) ?_))
        exact .one (.tmp rfl (.one (.d (dle_bool h2.symm))))
  ·
    repeat (first | ((with_reducible apply s1); exact rfl) | (with_reducible first | apply CW.seq | apply CW.block | apply CW.region | apply CW.draw | apply CW.skip | apply CW.exit | apply CW.ret | apply q_then | apply q_then_exit | apply q_then_ret | apply q_block | apply q_block_ret | apply q_block_hit | apply q_ret | apply q_end | apply q_loop_exit | apply q_loop_ret | apply q_loopT_exit | apply q_loopT_ret | apply RW.nil) | ((with_reducible apply s3); exact rfl; exact by_k) | ((with_reducible apply s2); exact rfl; exact by_k) | ((with_reducible apply s4); exact rfl) | ((with_reducible apply s5); (first | exact by_oa); exact by_g) | ((with_reducible apply CW.cond_t); exact rfl; exact by_ks) | ((with_reducible apply CW.cond_f); exact rfl; exact by_ks) | ((with_reducible apply q_block_miss); exact rfl) | (refine And.intro (show chk [] [] _ _ = true by kernel_rfl) ?_))
    refine .one (.tmp rfl (.one (.d (dle_bool ?_))))
    cases hb : allB (fun a b => decide (a = b)) l r
    · rfl
    · exact absurd (allB_len hb) hlen

end Go.Proofs.Ytjopijlkpipljaa

/-! F6 -/
/-
  Contracts of the references' functions that hold lists of ends, deeds, chains against each other.
-/
namespace Go.Proofs.Ytjopijlkpipljaa
open Go.AX Go.RF

set_option maxRecDepth 100000
set_option maxHeartbeats 4000000

theorem ok_sameEnds (l r : List Done) (hl : l.length ≤ 268435456) : FnOk Try.prog 31 [.d (encEnds l), .d (encEnds r)] (.one (dbool (allB (fun a b => decide (a = b)) l r))) := by
  refine fnOk_of tbl_ok mixed_ok Try.func31 rfl (by kernel_rfl) rfl rfl fun w0 own0 => ?_
  by_cases hlen : l.length = r.length
  ·
    repeat (first | ((with_reducible apply s1); exact rfl) | (with_reducible first | apply CW.seq | apply CW.block | apply CW.region | apply CW.draw | apply CW.skip | apply CW.exit | apply CW.ret | apply q_then | apply q_then_exit | apply q_then_ret | apply q_block | apply q_block_ret | apply q_block_hit | apply q_ret | apply q_end | apply q_loop_exit | apply q_loop_ret | apply q_loopT_exit | apply q_loopT_ret | apply RW.nil) | ((with_reducible apply s3); exact rfl; exact by_k) | ((with_reducible apply s2); exact rfl; exact by_k) | ((with_reducible apply s4); exact rfl) | ((with_reducible apply s5); (first | exact by_oa); exact by_g) | ((with_reducible apply CW.cond_t); exact rfl; exact by_ks) | ((with_reducible apply CW.cond_f); exact rfl; exact by_ks) | ((with_reducible apply q_block_miss); exact rfl) | (refine And.intro (show chk [] [] _ _ = true by kernel_rfl) ?_))
    refine CW.loop (fun k => [(.s 0, .av (.d (encEnds l))), (.s 1, .av (.d (encEnds r))), (.s 11, .av (.d (encEnds l))), (.s 12, .av (.d (dint l.length))), (.s 13, .av (.d (dint k))), (.nx, .num 0)]) (agree (fun a b => decide (a = b)) l r) ?_ fun k hk => ?_
    ·
      exact by_less
    · rcases agree_case hlen hk with ⟨h1, h1', a, b, h2, h3, h4⟩ | ⟨h1, h2⟩ | ⟨h1, h2, a, b, h3, h4, h5⟩
      · replace h4 : a = b := by simpa using h4
        repeat (first | ((with_reducible apply s1); exact rfl) | (with_reducible first | apply CW.seq | apply CW.block | apply CW.region | apply CW.draw | apply CW.skip | apply CW.exit | apply CW.ret | apply q_then | apply q_then_exit | apply q_then_ret | apply q_block | apply q_block_ret | apply q_block_hit | apply q_ret | apply q_end | apply q_loop_exit | apply q_loop_ret | apply q_loopT_exit | apply q_loopT_ret | apply RW.nil) | ((with_reducible apply s3); exact rfl; exact by_k) | ((with_reducible apply s2); exact rfl; exact by_k) | ((with_reducible apply s4); exact rfl) | ((with_reducible apply s5); (first | ((with_reducible apply a_agg); exact neq_done a b; (iterate 5 exact rfl)) | exact by_oa); exact by_g) | ((with_reducible apply CW.cond_t); exact rfl; exact by_ks) | ((with_reducible apply CW.cond_f); exact rfl; exact by_ks) | ((with_reducible apply q_block_miss); exact rfl) | (refine And.intro (show chk [] [] _ _ = true by kernel_rfl) ?_))
        refine q_loop h1 ?_
        exact by_less
      ·
        repeat (first | ((with_reducible apply s1); exact rfl) | (with_reducible first | apply CW.seq | apply CW.block | apply CW.region | apply CW.draw | apply CW.skip | apply CW.exit | apply CW.ret | apply q_then | apply q_then_exit | apply q_then_ret | apply q_block | apply q_block_ret | apply q_block_hit | apply q_ret | apply q_end | apply q_loop_exit | apply q_loop_ret | apply q_loopT_exit | apply q_loopT_ret | apply RW.nil) | ((with_reducible apply s3); exact rfl; exact by_k) | ((with_reducible apply s2); exact rfl; exact by_k) | ((with_reducible apply s4); exact rfl) | ((with_reducible apply s5); (first | exact by_oa); exact by_g) | ((with_reducible apply CW.cond_t); exact rfl; exact by_ks) | ((with_reducible apply CW.cond_f); exact rfl; exact by_ks) | ((with_reducible apply q_block_miss); exact rfl) | (refine And.intro (show chk [] [] _ _ = true by kernel_rfl) ?_))
        exact .one (.tmp rfl (.one (.d (dle_bool h2.symm))))
      · replace h5 : ¬ a = b := by simpa using h5
        repeat (first | ((with_reducible apply s1); exact rfl) | (with_reducible first | apply CW.seq | apply CW.block | apply CW.region | apply CW.draw | apply CW.skip | apply CW.exit | apply CW.ret | apply q_then | apply q_then_exit | apply q_then_ret | apply q_block | apply q_block_ret | apply q_block_hit | apply q_ret | apply q_end | apply q_loop_exit | apply q_loop_ret | apply q_loopT_exit | apply q_loopT_ret | apply RW.nil) | ((with_reducible apply s3); exact rfl; exact by_k) | ((with_reducible apply s2); exact rfl; exact by_k) | ((with_reducible apply s4); exact rfl) | ((with_reducible apply s5); (first | ((with_reducible apply a_agg); exact neq_done a b; (iterate 5 exact rfl)) | exact by_oa); exact by_g) | ((with_reducible apply CW.cond_t); exact rfl; exact by_ks) | ((with_reducible apply CW.cond_f); exact rfl; exact by_ks) | ((with_reducible apply q_block_miss); exact rfl) | (refine And.intro (show chk [] [] _ _ = true by kernel_rfl) ?_))
        exact .one (.tmp rfl (.one (.d (dle_bool h2.symm))))
  ·
    repeat (first | ((with_reducible apply s1); exact rfl) | (with_reducible first | apply CW.seq | apply CW.block | apply CW.region | apply CW.draw | apply CW.skip | apply CW.exit | apply CW.ret | apply q_then | apply q_then_exit | apply q_then_ret | apply q_block | apply q_block_ret | apply q_block_hit | apply q_ret | apply q_end | apply q_loop_exit | apply q_loop_ret | apply q_loopT_exit | apply q_loopT_ret | apply RW.nil) | ((with_reducible apply s3); exact rfl; exact by_k) | ((with_reducible apply s2); exact rfl; exact by_k) | ((with_reducible apply s4); exact rfl) | ((with_reducible apply s5); (first | exact by_oa); exact by_g) | ((with_reducible apply CW.cond_t); exact rfl; exact by_ks) | ((with_reducible apply CW.cond_f); exact rfl; exact by_ks) | ((with_reducible apply q_block_miss); exact rfl) | (refine And.intro (show chk [] [] _ _ = true by kernel_rfl) ?_))
    refine .one (.tmp rfl (.one (.d (dle_bool ?_))))
    cases hb : allB (fun a b => decide (a = b)) l r
    · rfl
    · exact absurd (allB_len hb) hlen

theorem ok_sameDeed (d e : Deed) (hr : d.reads.length ≤ 268435456) (hw : d.writes.length ≤ 268435456) (hc : d.code.length ≤ 268435456) :
    FnOk Try.prog 49 [.d (.agg d.enc), .d (.agg e.enc)] (.one (dbool (decide (d = e)))) := by
  refine fnOk_of tbl_ok mixed_ok Try.func49 rfl (by kernel_rfl) rfl rfl fun w0 own0 => ?_
  have c1 := ok_SameTexts d.reads e.reads (by omega)
  have c2 := ok_SameTexts d.writes e.writes (by omega)
  rw [allB_eq (fun a b => rfl)] at c1 c2
  obtain ⟨dr, dw, dc⟩ := d
  obtain ⟨er, ew, ec⟩ := e
  dsimp only at hr hw hc c1 c2
  by_cases e1 : dr = er
  · by_cases e2 : dw = ew
    · by_cases hlen : dc.length = ec.length
      ·
        repeat (first | ((with_reducible apply s1); exact rfl) | (with_reducible first | apply CW.seq | apply CW.block | apply CW.region | apply CW.draw | apply CW.skip | apply CW.exit | apply CW.ret | apply q_then | apply q_then_exit | apply q_then_ret | apply q_block | apply q_block_ret | apply q_block_hit | apply q_ret | apply q_end | apply q_loop_exit | apply q_loop_ret | apply q_loopT_exit | apply q_loopT_ret | apply RW.nil) | ((with_reducible apply s3); exact rfl; exact by_k) | ((with_reducible apply s2); exact rfl; exact by_k) | ((with_reducible apply s4); exact rfl) | ((with_reducible apply s5); (first | (focus ((with_reducible apply a_call); exact c1; exact rfl; (repeat (first | exact SubsE.nil | (apply SubsE.cons; exact rfl; (first | exact .d (.refl _) | exact .d (.nil _) | exact .agg rfl (.refl _) | exact .pd | exact .ptr rfl); (first | exact trivial | exact ⟨rfl, trivial⟩)))); done)) | (focus ((with_reducible apply a_call); exact c2; exact rfl; (repeat (first | exact SubsE.nil | (apply SubsE.cons; exact rfl; (first | exact .d (.refl _) | exact .d (.nil _) | exact .agg rfl (.refl _) | exact .pd | exact .ptr rfl); (first | exact trivial | exact ⟨rfl, trivial⟩)))); done)) | exact by_oa); exact by_g) | ((with_reducible apply CW.cond_t); exact rfl; exact by_ks) | ((with_reducible apply CW.cond_f); exact rfl; exact by_ks) | ((with_reducible apply q_block_miss); exact rfl) | (refine And.intro (show chk [] [] _ _ = true by kernel_rfl) ?_))
        refine CW.loop (fun k => [(.s 2, .av (.ptr 0 0)), (.o 0, .ob (.box ((Deed.enc ⟨dr, dw, dc⟩).map AV.d))), (.s 3, .av (.ptr 1 0)), (.o 1, .ob (.box ((Deed.enc ⟨er, ew, ec⟩).map AV.d))), (.s 31, .av (.d (dint dc.length))), (.s 32, .av (.d (dint k))), (.nx, .num 2)]) (agree (fun a b => decide (a = b)) dc ec) ?_ fun k hk => ?_
        ·
          exact by_less
        · rcases agree_case hlen hk with ⟨h1, h1', a, b, h2, h3, h4⟩ | ⟨h1, h2⟩ | ⟨h1, h2, a, b, h3, h4, h5⟩
          · replace h4 : a = b := by simpa using h4
            repeat (first | ((with_reducible apply s1); exact rfl) | (with_reducible first | apply CW.seq | apply CW.block | apply CW.region | apply CW.draw | apply CW.skip | apply CW.exit | apply CW.ret | apply q_then | apply q_then_exit | apply q_then_ret | apply q_block | apply q_block_ret | apply q_block_hit | apply q_ret | apply q_end | apply q_loop_exit | apply q_loop_ret | apply q_loopT_exit | apply q_loopT_ret | apply RW.nil) | ((with_reducible apply s3); exact rfl; exact by_k) | ((with_reducible apply s2); exact rfl; exact by_k) | ((with_reducible apply s4); exact rfl) | ((with_reducible apply s5); (first | ((with_reducible apply a_agg); exact neq_ins a b; (iterate 5 exact rfl)) | exact by_oa); exact by_g) | ((with_reducible apply CW.cond_t); exact rfl; exact by_ks) | ((with_reducible apply CW.cond_f); exact rfl; exact by_ks) | ((with_reducible apply q_block_miss); exact rfl) | (refine And.intro (show chk [] [] _ _ = true by kernel_rfl) ?_))
            refine q_loop h1 ?_
            exact by_less
          ·
            repeat (first | ((with_reducible apply s1); exact rfl) | (with_reducible first | apply CW.seq | apply CW.block | apply CW.region | apply CW.draw | apply CW.skip | apply CW.exit | apply CW.ret | apply q_then | apply q_then_exit | apply q_then_ret | apply q_block | apply q_block_ret | apply q_block_hit | apply q_ret | apply q_end | apply q_loop_exit | apply q_loop_ret | apply q_loopT_exit | apply q_loopT_ret | apply RW.nil) | ((with_reducible apply s3); exact rfl; exact by_k) | ((with_reducible apply s2); exact rfl; exact by_k) | ((with_reducible apply s4); exact rfl) | ((with_reducible apply s5); (first | exact by_oa); exact by_g) | ((with_reducible apply CW.cond_t); exact rfl; exact by_ks) | ((with_reducible apply CW.cond_f); exact rfl; exact by_ks) | ((with_reducible apply q_block_miss); exact rfl) | (refine And.intro (show chk [] [] _ _ = true by kernel_rfl) ?_))
            rw [allB_eq (fun a b => rfl)] at h2
            exact .one (.tmp rfl (.one (.d (dle_bool (by simp at h2; simp [e1, e2, h2])))))
          · replace h5 : ¬ a = b := by simpa using h5
            repeat (first | ((with_reducible apply s1); exact rfl) | (with_reducible first | apply CW.seq | apply CW.block | apply CW.region | apply CW.draw | apply CW.skip | apply CW.exit | apply CW.ret | apply q_then | apply q_then_exit | apply q_then_ret | apply q_block | apply q_block_ret | apply q_block_hit | apply q_ret | apply q_end | apply q_loop_exit | apply q_loop_ret | apply q_loopT_exit | apply q_loopT_ret | apply RW.nil) | ((with_reducible apply s3); exact rfl; exact by_k) | ((with_reducible apply s2); exact rfl; exact by_k) | ((with_reducible apply s4); exact rfl) | ((with_reducible apply s5); (first | ((with_reducible apply a_agg); exact neq_ins a b; (iterate 5 exact rfl)) | exact by_oa); exact by_g) | ((with_reducible apply CW.cond_t); exact rfl; exact by_ks) | ((with_reducible apply CW.cond_f); exact rfl; exact by_ks) | ((with_reducible apply q_block_miss); exact rfl) | (refine And.intro (show chk [] [] _ _ = true by kernel_rfl) ?_))
            rw [allB_eq (fun a b => rfl)] at h2
            exact .one (.tmp rfl (.one (.d (dle_bool (by simp at h2; simp [h2])))))
      ·
        repeat (first | ((with_reducible apply s1); exact rfl) | (with_reducible first | apply CW.seq | apply CW.block | apply CW.region | apply CW.draw | apply CW.skip | apply CW.exit | apply CW.ret | apply q_then | apply q_then_exit | apply q_then_ret | apply q_block | apply q_block_ret | apply q_block_hit | apply q_ret | apply q_end | apply q_loop_exit | apply q_loop_ret | apply q_loopT_exit | apply q_loopT_ret | apply RW.nil) | ((with_reducible apply s3); exact rfl; exact by_k) | ((with_reducible apply s2); exact rfl; exact by_k) | ((with_reducible apply s4); exact rfl) | ((with_reducible apply s5); (first | (focus ((with_reducible apply a_call); exact c1; exact rfl; (repeat (first | exact SubsE.nil | (apply SubsE.cons; exact rfl; (first | exact .d (.refl _) | exact .d (.nil _) | exact .agg rfl (.refl _) | exact .pd | exact .ptr rfl); (first | exact trivial | exact ⟨rfl, trivial⟩)))); done)) | (focus ((with_reducible apply a_call); exact c2; exact rfl; (repeat (first | exact SubsE.nil | (apply SubsE.cons; exact rfl; (first | exact .d (.refl _) | exact .d (.nil _) | exact .agg rfl (.refl _) | exact .pd | exact .ptr rfl); (first | exact trivial | exact ⟨rfl, trivial⟩)))); done)) | exact by_oa); exact by_g) | ((with_reducible apply CW.cond_t); exact rfl; exact by_ks) | ((with_reducible apply CW.cond_f); exact rfl; exact by_ks) | ((with_reducible apply q_block_miss); exact rfl) | (refine And.intro (show chk [] [] _ _ = true by kernel_rfl) ?_))
        exact .one (.tmp rfl (.one (.d (dle_bool (by have : dc ≠ ec := fun h => hlen (by rw [h]); simp [this])))))
    ·
      repeat (first | ((with_reducible apply s1); exact rfl) | (with_reducible first | apply CW.seq | apply CW.block | apply CW.region | apply CW.draw | apply CW.skip | apply CW.exit | apply CW.ret | apply q_then | apply q_then_exit | apply q_then_ret | apply q_block | apply q_block_ret | apply q_block_hit | apply q_ret | apply q_end | apply q_loop_exit | apply q_loop_ret | apply q_loopT_exit | apply q_loopT_ret | apply RW.nil) | ((with_reducible apply s3); exact rfl; exact by_k) | ((with_reducible apply s2); exact rfl; exact by_k) | ((with_reducible apply s4); exact rfl) | ((with_reducible apply s5); (first | (focus ((with_reducible apply a_call); exact c1; exact rfl; (repeat (first | exact SubsE.nil | (apply SubsE.cons; exact rfl; (first | exact .d (.refl _) | exact .d (.nil _) | exact .agg rfl (.refl _) | exact .pd | exact .ptr rfl); (first | exact trivial | exact ⟨rfl, trivial⟩)))); done)) | (focus ((with_reducible apply a_call); exact c2; exact rfl; (repeat (first | exact SubsE.nil | (apply SubsE.cons; exact rfl; (first | exact .d (.refl _) | exact .d (.nil _) | exact .agg rfl (.refl _) | exact .pd | exact .ptr rfl); (first | exact trivial | exact ⟨rfl, trivial⟩)))); done)) | exact by_oa); exact by_g) | ((with_reducible apply CW.cond_t); exact rfl; exact by_ks) | ((with_reducible apply CW.cond_f); exact rfl; exact by_ks) | ((with_reducible apply q_block_miss); exact rfl) | (refine And.intro (show chk [] [] _ _ = true by kernel_rfl) ?_))
      exact .one (.tmp rfl (.one (.d (dle_bool (by simp [e2])))))
  ·
    repeat (first | ((with_reducible apply s1); exact rfl) | (with_reducible first | apply CW.seq | apply CW.block | apply CW.region | apply CW.draw | apply CW.skip | apply CW.exit | apply CW.ret | apply q_then | apply q_then_exit | apply q_then_ret | apply q_block | apply q_block_ret | apply q_block_hit | apply q_ret | apply q_end | apply q_loop_exit | apply q_loop_ret | apply q_loopT_exit | apply q_loopT_ret | apply RW.nil) | ((with_reducible apply s3); exact rfl; exact by_k) | ((with_reducible apply s2); exact rfl; exact by_k) | ((with_reducible apply s4); exact rfl) | ((with_reducible apply s5); (first | (focus ((with_reducible apply a_call); exact c1; exact rfl; (repeat (first | exact SubsE.nil | (apply SubsE.cons; exact rfl; (first | exact .d (.refl _) | exact .d (.nil _) | exact .agg rfl (.refl _) | exact .pd | exact .ptr rfl); (first | exact trivial | exact ⟨rfl, trivial⟩)))); done)) | (focus ((with_reducible apply a_call); exact c2; exact rfl; (repeat (first | exact SubsE.nil | (apply SubsE.cons; exact rfl; (first | exact .d (.refl _) | exact .d (.nil _) | exact .agg rfl (.refl _) | exact .pd | exact .ptr rfl); (first | exact trivial | exact ⟨rfl, trivial⟩)))); done)) | exact by_oa); exact by_g) | ((with_reducible apply CW.cond_t); exact rfl; exact by_ks) | ((with_reducible apply CW.cond_f); exact rfl; exact by_ks) | ((with_reducible apply q_block_miss); exact rfl) | (refine And.intro (show chk [] [] _ _ = true by kernel_rfl) ?_))
    exact .one (.tmp rfl (.one (.d (dle_bool (by simp [e1])))))

theorem ok_sameDeeds (l r : List Deed) (hl : l.length ≤ 268435456) (hd : ∀ d ∈ l, d.Sm) : FnOk Try.prog 30 [.d (encDeeds l), .d (encDeeds r)] (.one (dbool (allB (fun a b => decide (a = b)) l r))) := by
  refine fnOk_of tbl_ok mixed_ok Try.func30 rfl (by kernel_rfl) rfl rfl fun w0 own0 => ?_
  by_cases hlen : l.length = r.length
  ·
    repeat (first | ((with_reducible apply s1); exact rfl) | (with_reducible first | apply CW.seq | apply CW.block | apply CW.region | apply CW.draw | apply CW.skip | apply CW.exit | apply CW.ret | apply q_then | apply q_then_exit | apply q_then_ret | apply q_block | apply q_block_ret | apply q_block_hit | apply q_ret | apply q_end | apply q_loop_exit | apply q_loop_ret | apply q_loopT_exit | apply q_loopT_ret | apply RW.nil) | ((with_reducible apply s3); exact rfl; exact by_k) | ((with_reducible apply s2); exact rfl; exact by_k) | ((with_reducible apply s4); exact rfl) | ((with_reducible apply s5); (first | exact by_oa); exact by_g) | ((with_reducible apply CW.cond_t); exact rfl; exact by_ks) | ((with_reducible apply CW.cond_f); exact rfl; exact by_ks) | ((with_reducible apply q_block_miss); exact rfl) | (refine And.intro (show chk [] [] _ _ = true by kernel_rfl) ?_))
    refine CW.loop (fun k => [(.s 0, .av (.d (encDeeds l))), (.s 1, .av (.d (encDeeds r))), (.s 12, .av (.d (dint l.length))), (.s 13, .av (.d (dint k))), (.nx, .num 0)]) (agree (fun a b => decide (a = b)) l r) ?_ fun k hk => ?_
    ·
      exact by_less
    · rcases agree_case hlen hk with ⟨h1, h1', a, b, h2, h3, h4⟩ | ⟨h1, h2⟩ | ⟨h1, h2, a, b, h3, h4, h5⟩
      · have hc := ok_sameDeed a b (hd a (List.mem_of_getElem? h2)).r (hd a (List.mem_of_getElem? h2)).w (hd a (List.mem_of_getElem? h2)).c
        rw [show decide (a = b) = true from h4] at hc
        repeat (first | ((with_reducible apply s1); exact rfl) | (with_reducible first | apply CW.seq | apply CW.block | apply CW.region | apply CW.draw | apply CW.skip | apply CW.exit | apply CW.ret | apply q_then | apply q_then_exit | apply q_then_ret | apply q_block | apply q_block_ret | apply q_block_hit | apply q_ret | apply q_end | apply q_loop_exit | apply q_loop_ret | apply q_loopT_exit | apply q_loopT_ret | apply RW.nil) | ((with_reducible apply s3); exact rfl; exact by_k) | ((with_reducible apply s2); exact rfl; exact by_k) | ((with_reducible apply s4); exact rfl) | ((with_reducible apply s5); (first | (focus ((with_reducible apply a_call); exact hc; exact rfl; (repeat (first | exact SubsE.nil | (apply SubsE.cons; exact rfl; (first | exact .d (.refl _) | exact .d (.nil _) | exact .agg rfl (.refl _) | exact .pd | exact .ptr rfl); (first | exact trivial | exact ⟨rfl, trivial⟩)))); done)) | exact by_oa); exact by_g) | ((with_reducible apply CW.cond_t); exact rfl; exact by_ks) | ((with_reducible apply CW.cond_f); exact rfl; exact by_ks) | ((with_reducible apply q_block_miss); exact rfl) | (refine And.intro (show chk [] [] _ _ = true by kernel_rfl) ?_))
        refine q_loop h1 ?_
        exact by_less
      ·
        repeat (first | ((with_reducible apply s1); exact rfl) | (with_reducible first | apply CW.seq | apply CW.block | apply CW.region | apply CW.draw | apply CW.skip | apply CW.exit | apply CW.ret | apply q_then | apply q_then_exit | apply q_then_ret | apply q_block | apply q_block_ret | apply q_block_hit | apply q_ret | apply q_end | apply q_loop_exit | apply q_loop_ret | apply q_loopT_exit | apply q_loopT_ret | apply RW.nil) | ((with_reducible apply s3); exact rfl; exact by_k) | ((with_reducible apply s2); exact rfl; exact by_k) | ((with_reducible apply s4); exact rfl) | ((with_reducible apply s5); (first | exact by_oa); exact by_g) | ((with_reducible apply CW.cond_t); exact rfl; exact by_ks) | ((with_reducible apply CW.cond_f); exact rfl; exact by_ks) | ((with_reducible apply q_block_miss); exact rfl) | (refine And.intro (show chk [] [] _ _ = true by kernel_rfl) ?_))
        exact .one (.tmp rfl (.one (.d (dle_bool h2.symm))))
      · have hc := ok_sameDeed a b (hd a (List.mem_of_getElem? h3)).r (hd a (List.mem_of_getElem? h3)).w (hd a (List.mem_of_getElem? h3)).c
        rw [show decide (a = b) = false from h5] at hc
        repeat (first | ((with_reducible apply s1); exact rfl) | (with_reducible first | apply CW.seq | apply CW.block | apply CW.region | apply CW.draw | apply CW.skip | apply CW.exit | apply CW.ret | apply q_then | apply q_then_exit | apply q_then_ret | apply q_block | apply q_block_ret | apply q_block_hit | apply q_ret | apply q_end | apply q_loop_exit | apply q_loop_ret | apply q_loopT_exit | apply q_loopT_ret | apply RW.nil) | ((with_reducible apply s3); exact rfl; exact by_k) | ((with_reducible apply s2); exact rfl; exact by_k) | ((with_reducible apply s4); exact rfl) | ((with_reducible apply s5); (first | (focus ((with_reducible apply a_call); exact hc; exact rfl; (repeat (first | exact SubsE.nil | (apply SubsE.cons; exact rfl; (first | exact .d (.refl _) | exact .d (.nil _) | exact .agg rfl (.refl _) | exact .pd | exact .ptr rfl); (first | exact trivial | exact ⟨rfl, trivial⟩)))); done)) | exact by_oa); exact by_g) | ((with_reducible apply CW.cond_t); exact rfl; exact by_ks) | ((with_reducible apply CW.cond_f); exact rfl; exact by_ks) | ((with_reducible apply q_block_miss); exact rfl) | (refine And.intro (show chk [] [] _ _ = true by kernel_rfl) ?_))
        exact .one (.tmp rfl (.one (.d (dle_bool h2.symm))))
  ·
    repeat (first | ((with_reducible apply s1); exact rfl) | (with_reducible first | apply CW.seq | apply CW.block | apply CW.region | apply CW.draw | apply CW.skip | apply CW.exit | apply CW.ret | apply q_then | apply q_then_exit | apply q_then_ret | apply q_block | apply q_block_ret | apply q_block_hit | apply q_ret | apply q_end | apply q_loop_exit | apply q_loop_ret | apply q_loopT_exit | apply q_loopT_ret | apply RW.nil) | ((with_reducible apply s3); exact rfl; exact by_k) | ((with_reducible apply s2); exact rfl; exact by_k) | ((with_reducible apply s4); exact rfl) | ((with_reducible apply s5); (first | exact by_oa); exact by_g) | ((with_reducible apply CW.cond_t); exact rfl; exact by_ks) | ((with_reducible apply CW.cond_f); exact rfl; exact by_ks) | ((with_reducible apply q_block_miss); exact rfl) | (refine And.intro (show chk [] [] _ _ = true by kernel_rfl) ?_))
    refine .one (.tmp rfl (.one (.d (dle_bool ?_))))
    cases hb : allB (fun a b => decide (a = b)) l r
    · rfl
    · exact absurd (allB_len hb) hlen

end Go.Proofs.Ytjopijlkpipljaa

/-! F7 -/
/-
  Contract of the references' Before.
-/
namespace Go.Proofs.Ytjopijlkpipljaa
open Go.AX Go.RF

set_option maxRecDepth 100000
set_option maxHeartbeats 4000000

theorem ok_before (l : List Chain) (k : Str) (b : Int) (hl : l.length ≤ 268435456) (hv : ∀ c ∈ l, c.vs.length ≤ 268435456) : FnOk Try.prog 24 [.d (encChains l), .d (dstr k), .d (dint b)] (.one (.agg (before l k b).enc)) := by
  refine fnOk_of tbl_ok mixed_ok Try.func24 rfl (by kernel_rfl) rfl rfl fun w0 own0 => ?_
  repeat (first | ((with_reducible apply s1); exact rfl) | (with_reducible first | apply CW.seq | apply CW.block | apply CW.region | apply CW.draw | apply CW.skip | apply CW.exit | apply CW.ret | apply q_then | apply q_then_exit | apply q_then_ret | apply q_block | apply q_block_ret | apply q_block_hit | apply q_ret | apply q_end | apply q_loop_exit | apply q_loop_ret | apply q_loopT_exit | apply q_loopT_ret | apply RW.nil) | ((with_reducible apply s3); exact rfl; exact by_k) | ((with_reducible apply s2); exact rfl; exact by_k) | ((with_reducible apply s4); exact rfl) | ((with_reducible apply s5); (first | exact by_oa); exact by_g) | ((with_reducible apply CW.cond_t); exact rfl; exact by_ks) | ((with_reducible apply CW.cond_f); exact rfl; exact by_ks) | ((with_reducible apply q_block_miss); exact rfl) | (refine And.intro (show chk [] [] _ _ = true by kernel_rfl) ?_))
  refine CW.loopT (fun t : Nat × Version => [(.s 1, .av (.d (dstr k))), (.s 2, .av (.d (dint b))), (.s 6, .av (.ptr 0 0)), (.o 0, .ob (.box ((Version.enc ⟨0, false, false, 0⟩).map AV.d))), (.s 7, .av (.ptr 1 0)), (.o 1, .ob (.box (t.2.enc.map AV.d))), (.s 13, .av (.d (encChains l))), (.s 14, .av (.d (dint l.length))), (.s 15, .av (.d (dint t.1))), (.nx, .num 2)])
    (fun t => t.1 ≤ l.length ∧ beforeGo k b t.2 (l.drop t.1) = before l k b) (fun t => l.length - t.1) (0, ⟨-1, true, false, 0⟩) ⟨by omega, rfl⟩ ?_ ?_
  ·
    exact by_less
  · rintro ⟨i, out⟩ ⟨hi, hI⟩
    dsimp only at hi hI ⊢
    rcases drop_case hi with ⟨h1, h2⟩ | ⟨c, h1, h2, h3⟩
    · rw [h1] at hI
      simp only [beforeGo] at hI
      repeat (first | ((with_reducible apply s1); exact rfl) | (with_reducible first | apply CW.seq | apply CW.block | apply CW.region | apply CW.draw | apply CW.skip | apply CW.exit | apply CW.ret | apply q_then | apply q_then_exit | apply q_then_ret | apply q_block | apply q_block_ret | apply q_block_hit | apply q_ret | apply q_end | apply q_loop_exit | apply q_loop_ret | apply q_loopT_exit | apply q_loopT_ret | apply RW.nil) | ((with_reducible apply s3); exact rfl; exact by_k) | ((with_reducible apply s2); exact rfl; exact by_k) | ((with_reducible apply s4); exact rfl) | ((with_reducible apply s5); (first | exact by_oa); exact by_g) | ((with_reducible apply CW.cond_t); exact rfl; exact by_ks) | ((with_reducible apply CW.cond_f); exact rfl; exact by_ks) | ((with_reducible apply q_block_miss); exact rfl) | (refine And.intro (show chk [] [] _ _ = true by kernel_rfl) ?_))
      rw [← hI]
      exact .one (.cell rfl rfl rfl rfl (.aggd rfl (.refl _)))
    · rw [h1] at hI
      simp only [beforeGo] at hI
      have hcv := hv c (List.mem_of_getElem? h2)
      repeat (first | ((with_reducible apply s1); exact rfl) | (with_reducible first | apply CW.seq | apply CW.block | apply CW.region | apply CW.draw | apply CW.skip | apply CW.exit | apply CW.ret | apply q_then | apply q_then_exit | apply q_then_ret | apply q_block | apply q_block_ret | apply q_block_hit | apply q_ret | apply q_end | apply q_loop_exit | apply q_loop_ret | apply q_loopT_exit | apply q_loopT_ret | apply RW.nil) | ((with_reducible apply s3); exact rfl; exact by_k) | ((with_reducible apply s2); exact rfl; exact by_k) | ((with_reducible apply s4); exact rfl) | ((with_reducible apply s5); (first | exact by_oa); exact by_g) | ((with_reducible apply CW.cond_t); exact rfl; exact by_ks) | ((with_reducible apply CW.cond_f); exact rfl; exact by_ks) | ((with_reducible apply q_block_miss); exact rfl) | (refine And.intro (show chk [] [] _ _ = true by kernel_rfl) ?_))
      refine CW.loopT (fun t : Nat × Version => [(.s 1, .av (.d (dstr k))), (.s 2, .av (.d (dint b))), (.s 6, .av (.ptr 0 0)), (.o 0, .ob (.box ((Version.enc ⟨0, false, false, 0⟩).map AV.d))), (.s 7, .av (.ptr 1 0)), (.o 1, .ob (.box (t.2.enc.map AV.d))), (.s 13, .av (.d (encChains l))), (.s 14, .av (.d (dint l.length))), (.s 15, .av (.d (dint i))),
          (.s 9, .av (.ptr 2 0)), (.o 2, .ob (.box (c.enc.map AV.d))), (.s 20, .av (.d (encVs c.vs))), (.s 21, .av (.d (dint c.vs.length))), (.s 22, .av (.d (dint t.1))), (.nx, .num 3)])
        (fun t => t.1 ≤ c.vs.length ∧ bvs (decide (c.key = k)) b t.2 (c.vs.drop t.1) = bvs (decide (c.key = k)) b out c.vs) (fun t => c.vs.length - t.1) (0, out) ⟨by omega, rfl⟩ ?_ ?_
      ·
        exact by_less
      · rintro ⟨j, o2⟩ ⟨hj, hJ⟩
        dsimp only at hj hJ ⊢
        rcases drop_case hj with ⟨h5, h6⟩ | ⟨v, h5, h6, h7⟩
        · rw [h5] at hJ
          simp only [bvs] at hJ
          repeat (first | ((with_reducible apply s1); exact rfl) | (with_reducible first | apply CW.seq | apply CW.block | apply CW.region | apply CW.draw | apply CW.skip | apply CW.exit | apply CW.ret | apply q_then | apply q_then_exit | apply q_then_ret | apply q_block | apply q_block_ret | apply q_block_hit | apply q_ret | apply q_end | apply q_loop_exit | apply q_loop_ret | apply q_loopT_exit | apply q_loopT_ret | apply RW.nil) | ((with_reducible apply s3); exact rfl; exact by_k) | ((with_reducible apply s2); exact rfl; exact by_k) | ((with_reducible apply s4); exact rfl) | ((with_reducible apply s5); (first | exact by_oa); exact by_g) | ((with_reducible apply CW.cond_t); exact rfl; exact by_ks) | ((with_reducible apply CW.cond_f); exact rfl; exact by_ks) | ((with_reducible apply q_block_miss); exact rfl) | (refine And.intro (show chk [] [] _ _ = true by kernel_rfl) ?_))
          refine q_loopT (i + 1, o2) ⟨by dsimp only; omega, by rw [hJ]; exact hI⟩ (by dsimp only; omega) ?_
          exact by_less
        · rw [h5] at hJ
          simp only [bvs] at hJ
          by_cases h8 : c.key = k
          · by_cases h9 : v.by_ < b
            · rw [if_pos (by simp [h8, h9])] at hJ
              repeat (first | ((with_reducible apply s1); exact rfl) | (with_reducible first | apply CW.seq | apply CW.block | apply CW.region | apply CW.draw | apply CW.skip | apply CW.exit | apply CW.ret | apply q_then | apply q_then_exit | apply q_then_ret | apply q_block | apply q_block_ret | apply q_block_hit | apply q_ret | apply q_end | apply q_loop_exit | apply q_loop_ret | apply q_loopT_exit | apply q_loopT_ret | apply RW.nil) | ((with_reducible apply s3); exact rfl; exact by_k) | ((with_reducible apply s2); exact rfl; exact by_k) | ((with_reducible apply s4); exact rfl) | ((with_reducible apply s5); (first | exact by_oa); exact by_g) | ((with_reducible apply CW.cond_t); exact rfl; exact by_ks) | ((with_reducible apply CW.cond_f); exact rfl; exact by_ks) | ((with_reducible apply q_block_miss); exact rfl) | (refine And.intro (show chk [] [] _ _ = true by kernel_rfl) ?_))
              refine q_loopT (j + 1, v) ⟨by dsimp only; omega, hJ⟩ (by dsimp only; omega) ?_
              exact by_less
            · rw [if_neg (by simp [h9])] at hJ
              repeat (first | ((with_reducible apply s1); exact rfl) | (with_reducible first | apply CW.seq | apply CW.block | apply CW.region | apply CW.draw | apply CW.skip | apply CW.exit | apply CW.ret | apply q_then | apply q_then_exit | apply q_then_ret | apply q_block | apply q_block_ret | apply q_block_hit | apply q_ret | apply q_end | apply q_loop_exit | apply q_loop_ret | apply q_loopT_exit | apply q_loopT_ret | apply RW.nil) | ((with_reducible apply s3); exact rfl; exact by_k) | ((with_reducible apply s2); exact rfl; exact by_k) | ((with_reducible apply s4); exact rfl) | ((with_reducible apply s5); (first | exact by_oa); exact by_g) | ((with_reducible apply CW.cond_t); exact rfl; exact by_ks) | ((with_reducible apply CW.cond_f); exact rfl; exact by_ks) | ((with_reducible apply q_block_miss); exact rfl) | (refine And.intro (show chk [] [] _ _ = true by kernel_rfl) ?_))
              refine q_loopT (j + 1, o2) ⟨by dsimp only; omega, hJ⟩ (by dsimp only; omega) ?_
              exact by_less
          · rw [if_neg (by simp [h8])] at hJ
            repeat (first | ((with_reducible apply s1); exact rfl) | (with_reducible first | apply CW.seq | apply CW.block | apply CW.region | apply CW.draw | apply CW.skip | apply CW.exit | apply CW.ret | apply q_then | apply q_then_exit | apply q_then_ret | apply q_block | apply q_block_ret | apply q_block_hit | apply q_ret | apply q_end | apply q_loop_exit | apply q_loop_ret | apply q_loopT_exit | apply q_loopT_ret | apply RW.nil) | ((with_reducible apply s3); exact rfl; exact by_k) | ((with_reducible apply s2); exact rfl; exact by_k) | ((with_reducible apply s4); exact rfl) | ((with_reducible apply s5); (first | exact by_oa); exact by_g) | ((with_reducible apply CW.cond_t); exact rfl; exact by_ks) | ((with_reducible apply CW.cond_f); exact rfl; exact by_ks) | ((with_reducible apply q_block_miss); exact rfl) | (refine And.intro (show chk [] [] _ _ = true by kernel_rfl) ?_))
            refine q_loopT (j + 1, o2) ⟨by dsimp only; omega, hJ⟩ (by dsimp only; omega) ?_
            exact by_less

end Go.Proofs.Ytjopijlkpipljaa

/-! F10 -/
/-
  Contract of the references' Clear.
-/
namespace Go.Proofs.Ytjopijlkpipljaa
open Go.AX Go.RF

set_option maxRecDepth 100000
set_option maxHeartbeats 4000000

theorem ok_clear (l : List Chain) (b : Int) (hl : l.length ≤ 268435456) (hv : ∀ c ∈ l, c.vs.length ≤ 268435456) : FnOk Try.prog 35 [.d (encChains l), .d (dint b)] (.one (encChains (clear b l))) := by
  refine fnOk_of tbl_ok mixed_ok Try.func35 rfl (by kernel_rfl) rfl rfl fun w0 own0 => ?_
  repeat (first | ((with_reducible apply s1); exact rfl) | (with_reducible first | apply CW.seq | apply CW.block | apply CW.region | apply CW.draw | apply CW.skip | apply CW.exit | apply CW.ret | apply q_then | apply q_then_exit | apply q_then_ret | apply q_block | apply q_block_ret | apply q_block_hit | apply q_ret | apply q_end | apply q_loop_exit | apply q_loop_ret | apply q_loopT_exit | apply q_loopT_ret | apply RW.nil) | ((with_reducible apply s3); exact rfl; exact by_k) | ((with_reducible apply s2); exact rfl; exact by_k) | ((with_reducible apply s4); exact rfl) | ((with_reducible apply s5); (first | exact by_oa); exact by_g) | ((with_reducible apply CW.cond_t); exact rfl; exact by_ks) | ((with_reducible apply CW.cond_f); exact rfl; exact by_ks) | ((with_reducible apply q_block_miss); exact rfl) | (refine And.intro (show chk [] [] _ _ = true by kernel_rfl) ?_))
  refine CW.stut (stut_promote (i := 5) 72 2) ⟨rfl, rfl, trivial⟩ ?_
  refine CW.loopT (fun t : Nat × List Chain => [(.s 1, .av (.d (dint b))), (.s 5, .av (.own 0 t.2.length)), (.o 0, .ob (.arr 72 2 (t.2.map Chain.enc))), (.s 12, .av (.d (encChains l))), (.s 13, .av (.d (dint l.length))), (.s 14, .av (.d (dint t.1))), (.nx, .num 1)])
    (fun t => t.1 ≤ l.length ∧ t.2.length ≤ t.1 ∧ t.2 ++ clear b (l.drop t.1) = clear b l) (fun t => l.length - t.1) (0, []) ⟨by omega, by simp, rfl⟩ ?_ ?_
  ·
    exact by_less
  · rintro ⟨i, out⟩ ⟨hi, ho, hI⟩
    dsimp only at hi ho hI ⊢
    rcases drop_case hi with ⟨h1, h2⟩ | ⟨c, h1, h2, h3⟩
    · rw [h1, clear, List.append_nil] at hI
      repeat (first | ((with_reducible apply s1); exact rfl) | (with_reducible first | apply CW.seq | apply CW.block | apply CW.region | apply CW.draw | apply CW.skip | apply CW.exit | apply CW.ret | apply q_then | apply q_then_exit | apply q_then_ret | apply q_block | apply q_block_ret | apply q_block_hit | apply q_ret | apply q_end | apply q_loop_exit | apply q_loop_ret | apply q_loopT_exit | apply q_loopT_ret | apply RW.nil) | ((with_reducible apply s3); exact rfl; exact by_k) | ((with_reducible apply s2); exact rfl; exact by_k) | ((with_reducible apply s4); exact rfl) | ((with_reducible apply s5); (first | exact by_oa); exact by_g) | ((with_reducible apply CW.cond_t); exact rfl; exact by_ks) | ((with_reducible apply CW.cond_f); exact rfl; exact by_ks) | ((with_reducible apply q_block_miss); exact rfl) | (refine And.intro (show chk [] [] _ _ = true by kernel_rfl) ?_))
      rw [← hI]
      exact .one (.tmp rfl (.one (.own rfl (by simp) (.refl _))))
    · rw [h1, clear] at hI
      have hcv := hv c (List.mem_of_getElem? h2)
      repeat (first | ((with_reducible apply s1); exact rfl) | (with_reducible first | apply CW.seq | apply CW.block | apply CW.region | apply CW.draw | apply CW.skip | apply CW.exit | apply CW.ret | apply q_then | apply q_then_exit | apply q_then_ret | apply q_block | apply q_block_ret | apply q_block_hit | apply q_ret | apply q_end | apply q_loop_exit | apply q_loop_ret | apply q_loopT_exit | apply q_loopT_ret | apply RW.nil) | ((with_reducible apply s3); exact rfl; exact by_k) | ((with_reducible apply s2); exact rfl; exact by_k) | ((with_reducible apply s4); exact rfl) | ((with_reducible apply s5); (first | exact by_oa); exact by_g) | ((with_reducible apply CW.cond_t); exact rfl; exact by_ks) | ((with_reducible apply CW.cond_f); exact rfl; exact by_ks) | ((with_reducible apply q_block_miss); exact rfl) | (refine And.intro (show chk [] [] _ _ = true by kernel_rfl) ?_))
      refine CW.stut (stut_promote_cell (id := 2) (j := 1) 48 4 rfl) ⟨rfl, rfl, trivial⟩ ?_
      refine CW.loopT (fun t : Nat × List Version => [(.s 1, .av (.d (dint b))), (.s 5, .av (.own 0 out.length)), (.o 0, .ob (.arr 72 2 (out.map Chain.enc))), (.s 12, .av (.d (encChains l))), (.s 13, .av (.d (dint l.length))), (.s 14, .av (.d (dint i))),
          (.s 7, .av (.ptr 1 0)), (.o 1, .ob (.box (c.enc.map AV.d))), (.s 8, .av (.ptr 2 0)), (.o 2, .ob (.box [.d (dstr c.key), .own 3 t.2.length])), (.o 3, .ob (.arr 48 4 (t.2.map Version.enc))),
          (.s 22, .av (.d (encVs c.vs))), (.s 23, .av (.d (dint c.vs.length))), (.s 24, .av (.d (dint t.1))), (.nx, .num 4)])
        (fun t => t.1 ≤ c.vs.length ∧ t.2.length ≤ t.1 ∧ t.2 ++ clrV b (c.vs.drop t.1) = clrV b c.vs) (fun t => c.vs.length - t.1) (0, []) ⟨by omega, by simp, rfl⟩ ?_ ?_
      ·
        exact by_less
      · rintro ⟨j, vs⟩ ⟨hj, hvs, hJ⟩
        dsimp only at hj hvs hJ ⊢
        rcases drop_case hj with ⟨h5, h6⟩ | ⟨x, h5, h6, h7⟩
        · rw [h5, clrV, List.append_nil] at hJ
          rw [← hJ] at hI
          repeat (first | (with_reducible apply stop_region 13) | ((with_reducible apply s1); exact rfl) | (with_reducible first | apply CW.seq | apply CW.block | apply CW.region | apply CW.draw | apply CW.skip | apply CW.exit | apply CW.ret | apply q_then | apply q_then_exit | apply q_then_ret | apply q_block | apply q_block_ret | apply q_block_hit | apply q_ret | apply q_end | apply q_loop_exit | apply q_loop_ret | apply q_loopT_exit | apply q_loopT_ret | apply RW.nil) | ((with_reducible apply s3); exact rfl; exact by_k) | ((with_reducible apply s2); exact rfl; exact by_k) | ((with_reducible apply s4); exact rfl) | ((with_reducible apply s5); (first | exact by_oa); exact by_g) | ((with_reducible apply CW.cond_t); exact rfl; exact by_ks) | ((with_reducible apply CW.cond_f); exact rfl; exact by_ks) | ((with_reducible apply q_block_miss); exact rfl) | (refine And.intro (show chk [] [] _ _ = true by kernel_rfl) ?_))
          refine Stop.go (CW.stut (stut_freeze_cell (id := 2) (j := 1) (i := 3) rfl (by simp)) ⟨rfl, rfl, trivial⟩ ?_)
          cases vs with
          | nil =>
            rw [if_pos rfl] at hI
            repeat (first | ((with_reducible apply s1); exact rfl) | (with_reducible first | apply CW.seq | apply CW.block | apply CW.region | apply CW.draw | apply CW.skip | apply CW.exit | apply CW.ret | apply q_then | apply q_then_exit | apply q_then_ret | apply q_block | apply q_block_ret | apply q_block_hit | apply q_ret | apply q_end | apply q_loop_exit | apply q_loop_ret | apply q_loopT_exit | apply q_loopT_ret | apply RW.nil) | ((with_reducible apply s3); exact rfl; exact by_k) | ((with_reducible apply s2); exact rfl; exact by_k) | ((with_reducible apply s4); exact rfl) | ((with_reducible apply s5); (first | exact by_oa); exact by_g) | ((with_reducible apply CW.cond_t); exact rfl; exact by_ks) | ((with_reducible apply CW.cond_f); exact rfl; exact by_ks) | ((with_reducible apply q_block_miss); exact rfl) | (refine And.intro (show chk [] [] _ _ = true by kernel_rfl) ?_))
            refine q_loopT (i + 1, out) ⟨by dsimp only; omega, by dsimp only; omega, hI⟩ (by dsimp only; omega) ?_
            exact by_less
          | cons v0 vs =>
            rw [if_neg (by simp)] at hI
            repeat (first | ((with_reducible apply s1); exact rfl) | (with_reducible first | apply CW.seq | apply CW.block | apply CW.region | apply CW.draw | apply CW.skip | apply CW.exit | apply CW.ret | apply q_then | apply q_then_exit | apply q_then_ret | apply q_block | apply q_block_ret | apply q_block_hit | apply q_ret | apply q_end | apply q_loop_exit | apply q_loop_ret | apply q_loopT_exit | apply q_loopT_ret | apply RW.nil) | ((with_reducible apply s3); exact rfl; exact by_k) | ((with_reducible apply s2); exact rfl; exact by_k) | ((with_reducible apply s4); exact rfl) | ((with_reducible apply s5); (first | exact by_oa); exact by_g) | ((with_reducible apply CW.cond_t); exact rfl; exact by_ks) | ((with_reducible apply CW.cond_f); exact rfl; exact by_ks) | ((with_reducible apply q_block_miss); exact rfl) | (refine And.intro (show chk [] [] _ _ = true by kernel_rfl) ?_))
            refine q_loopT (i + 1, out ++ [⟨c.key, v0 :: vs⟩]) ⟨by dsimp only; omega, by dsimp only; simp; omega, by rw [← hI]; simp⟩ (by dsimp only; omega) ?_
            exact by_less
        · rw [h5, clrV] at hJ
          have hlast : (later b (c.vs.drop (j + 1)) = false ∧ (c.vs.length ≤ j + 1 ∨ ∃ y, c.vs[j + 1]? = some y ∧ j + 1 < c.vs.length ∧ ¬ y.by_ < b)) ∨
              (later b (c.vs.drop (j + 1)) = true ∧ ∃ y, c.vs[j + 1]? = some y ∧ j + 1 < c.vs.length ∧ y.by_ < b) := by
            rcases drop_case (show j + 1 ≤ c.vs.length by omega) with ⟨e1, e2⟩ | ⟨y, e1, e2, e3⟩
            · exact .inl ⟨by rw [e1]; rfl, .inl (by omega)⟩
            · by_cases e4 : y.by_ < b
              · exact .inr ⟨by rw [e1]; simp [later, e4], y, e2, e3, e4⟩
              · exact .inl ⟨by rw [e1]; simp [later, e4], .inr ⟨y, e2, e3, e4⟩⟩
          repeat (first | (with_reducible apply stop_reg 9) | ((with_reducible apply s1); exact rfl) | (with_reducible first | apply CW.seq | apply CW.block | apply CW.region | apply CW.draw | apply CW.skip | apply CW.exit | apply CW.ret | apply q_then | apply q_then_exit | apply q_then_ret | apply q_block | apply q_block_ret | apply q_block_hit | apply q_ret | apply q_end | apply q_loop_exit | apply q_loop_ret | apply q_loopT_exit | apply q_loopT_ret | apply RW.nil) | ((with_reducible apply s3); exact rfl; exact by_k) | ((with_reducible apply s2); exact rfl; exact by_k) | ((with_reducible apply s4); exact rfl) | ((with_reducible apply s5); (first | exact by_oa); exact by_g) | ((with_reducible apply CW.cond_t); exact rfl; exact by_ks) | ((with_reducible apply CW.cond_f); exact rfl; exact by_ks) | ((with_reducible apply q_block_miss); exact rfl) | (refine And.intro (show chk [] [] _ _ = true by kernel_rfl) ?_))
          refine Stop.cutk [(.s 11, .av (.d (dbool (later b (c.vs.drop (j + 1))))))] [.s 1, .s 5, .o 0, .s 12, .s 13, .s 14, .s 7, .o 1, .s 8, .o 2, .o 3, .s 22, .s 23, .s 24, .s 10, .o 4, .nx] ?_ ?_
          · rcases hlast with ⟨e0, e1 | ⟨y, e1, e2, e3⟩⟩ | ⟨e0, y, e1, e2, e3⟩
            · rw [e0]
              repeat (first | ((with_reducible apply s1); exact rfl) | (with_reducible first | apply CW.seq | apply CW.block | apply CW.region | apply CW.draw | apply CW.skip | apply CW.exit | apply CW.ret | apply q_then | apply q_then_exit | apply q_then_ret | apply q_block | apply q_block_ret | apply q_block_hit | apply q_ret | apply q_end | apply q_loop_exit | apply q_loop_ret | apply q_loopT_exit | apply q_loopT_ret | apply RW.nil) | ((with_reducible apply s3); exact rfl; exact by_k) | ((with_reducible apply s2); exact rfl; exact by_k) | ((with_reducible apply s4); exact rfl) | ((with_reducible apply s5); (first | exact by_oa); exact by_g) | ((with_reducible apply CW.cond_t); exact rfl; exact by_ks) | ((with_reducible apply CW.cond_f); exact rfl; exact by_ks) | ((with_reducible apply q_block_miss); exact rfl) | (refine And.intro (show chk [] [] _ _ = true by kernel_rfl) ?_))
              refine q_cut ?_
              exact by_less
            · rw [e0]
              repeat (first | ((with_reducible apply s1); exact rfl) | (with_reducible first | apply CW.seq | apply CW.block | apply CW.region | apply CW.draw | apply CW.skip | apply CW.exit | apply CW.ret | apply q_then | apply q_then_exit | apply q_then_ret | apply q_block | apply q_block_ret | apply q_block_hit | apply q_ret | apply q_end | apply q_loop_exit | apply q_loop_ret | apply q_loopT_exit | apply q_loopT_ret | apply RW.nil) | ((with_reducible apply s3); exact rfl; exact by_k) | ((with_reducible apply s2); exact rfl; exact by_k) | ((with_reducible apply s4); exact rfl) | ((with_reducible apply s5); (first | exact by_oa); exact by_g) | ((with_reducible apply CW.cond_t); exact rfl; exact by_ks) | ((with_reducible apply CW.cond_f); exact rfl; exact by_ks) | ((with_reducible apply q_block_miss); exact rfl) | (refine And.intro (show chk [] [] _ _ = true by kernel_rfl) ?_))
              refine q_cut ?_
              exact by_less
            · rw [e0]
              repeat (first | ((with_reducible apply s1); exact rfl) | (with_reducible first | apply CW.seq | apply CW.block | apply CW.region | apply CW.draw | apply CW.skip | apply CW.exit | apply CW.ret | apply q_then | apply q_then_exit | apply q_then_ret | apply q_block | apply q_block_ret | apply q_block_hit | apply q_ret | apply q_end | apply q_loop_exit | apply q_loop_ret | apply q_loopT_exit | apply q_loopT_ret | apply RW.nil) | ((with_reducible apply s3); exact rfl; exact by_k) | ((with_reducible apply s2); exact rfl; exact by_k) | ((with_reducible apply s4); exact rfl) | ((with_reducible apply s5); (first | exact by_oa); exact by_g) | ((with_reducible apply CW.cond_t); exact rfl; exact by_ks) | ((with_reducible apply CW.cond_f); exact rfl; exact by_ks) | ((with_reducible apply q_block_miss); exact rfl) | (refine And.intro (show chk [] [] _ _ = true by kernel_rfl) ?_))
              refine q_cut ?_
              exact by_less
          generalize hL : later b (c.vs.drop (j + 1)) = L at hJ ⊢
          have hold : old b (c.vs.drop (j + 1)) x = ((L && decide (x.by_ < b)) || (decide (x.by_ < b) && (x.made && !x.has))) := by rw [old, hL]
          clear hlast hL h5
          obtain ⟨xb, xm, xh, xn⟩ := x
          dsimp only at hold
          have hkeep : old b (c.vs.drop (j + 1)) ⟨xb, xm, xh, xn⟩ = false → (vs ++ [⟨xb, xm, xh, xn⟩]) ++ clrV b (c.vs.drop (j + 1)) = clrV b c.vs := fun e => by
            rw [if_neg (by rw [e]; simp)] at hJ
            rw [← hJ]; simp
          have hgone : old b (c.vs.drop (j + 1)) ⟨xb, xm, xh, xn⟩ = true → vs ++ clrV b (c.vs.drop (j + 1)) = clrV b c.vs := fun e => by
            rw [if_pos e] at hJ
            exact hJ
          clear hJ
          by_cases e1 : xb < b
          · cases L
            · cases xm
              ·
                repeat (first | ((with_reducible apply s1); exact rfl) | (with_reducible first | apply CW.seq | apply CW.block | apply CW.region | apply CW.draw | apply CW.skip | apply CW.exit | apply CW.ret | apply q_then | apply q_then_exit | apply q_then_ret | apply q_block | apply q_block_ret | apply q_block_hit | apply q_ret | apply q_end | apply q_loop_exit | apply q_loop_ret | apply q_loopT_exit | apply q_loopT_ret | apply RW.nil) | ((with_reducible apply s3); exact rfl; exact by_k) | ((with_reducible apply s2); exact rfl; exact by_k) | ((with_reducible apply s4); exact rfl) | ((with_reducible apply s5); (first | exact by_oa); exact by_g) | ((with_reducible apply CW.cond_t); exact rfl; exact by_ks) | ((with_reducible apply CW.cond_f); exact rfl; exact by_ks) | ((with_reducible apply q_block_miss); exact rfl) | (refine And.intro (show chk [] [] _ _ = true by kernel_rfl) ?_))
                refine q_loopT (j + 1, vs ++ [⟨xb, false, xh, xn⟩]) ⟨by dsimp only; omega, by dsimp only; simp; omega, hkeep (by simp [hold])⟩ (by dsimp only; omega) ?_
                exact by_less
              · cases xh
                ·
                  repeat (first | ((with_reducible apply s1); exact rfl) | (with_reducible first | apply CW.seq | apply CW.block | apply CW.region | apply CW.draw | apply CW.skip | apply CW.exit | apply CW.ret | apply q_then | apply q_then_exit | apply q_then_ret | apply q_block | apply q_block_ret | apply q_block_hit | apply q_ret | apply q_end | apply q_loop_exit | apply q_loop_ret | apply q_loopT_exit | apply q_loopT_ret | apply RW.nil) | ((with_reducible apply s3); exact rfl; exact by_k) | ((with_reducible apply s2); exact rfl; exact by_k) | ((with_reducible apply s4); exact rfl) | ((with_reducible apply s5); (first | exact by_oa); exact by_g) | ((with_reducible apply CW.cond_t); exact rfl; exact by_ks) | ((with_reducible apply CW.cond_f); exact rfl; exact by_ks) | ((with_reducible apply q_block_miss); exact rfl) | (refine And.intro (show chk [] [] _ _ = true by kernel_rfl) ?_))
                  refine q_loopT (j + 1, vs) ⟨by dsimp only; omega, by dsimp only; omega, hgone (by simp [hold, e1])⟩ (by dsimp only; omega) ?_
                  exact by_less
                ·
                  repeat (first | ((with_reducible apply s1); exact rfl) | (with_reducible first | apply CW.seq | apply CW.block | apply CW.region | apply CW.draw | apply CW.skip | apply CW.exit | apply CW.ret | apply q_then | apply q_then_exit | apply q_then_ret | apply q_block | apply q_block_ret | apply q_block_hit | apply q_ret | apply q_end | apply q_loop_exit | apply q_loop_ret | apply q_loopT_exit | apply q_loopT_ret | apply RW.nil) | ((with_reducible apply s3); exact rfl; exact by_k) | ((with_reducible apply s2); exact rfl; exact by_k) | ((with_reducible apply s4); exact rfl) | ((with_reducible apply s5); (first | exact by_oa); exact by_g) | ((with_reducible apply CW.cond_t); exact rfl; exact by_ks) | ((with_reducible apply CW.cond_f); exact rfl; exact by_ks) | ((with_reducible apply q_block_miss); exact rfl) | (refine And.intro (show chk [] [] _ _ = true by kernel_rfl) ?_))
                  refine q_loopT (j + 1, vs ++ [⟨xb, true, true, xn⟩]) ⟨by dsimp only; omega, by dsimp only; simp; omega, hkeep (by simp [hold])⟩ (by dsimp only; omega) ?_
                  exact by_less
            ·
              repeat (first | ((with_reducible apply s1); exact rfl) | (with_reducible first | apply CW.seq | apply CW.block | apply CW.region | apply CW.draw | apply CW.skip | apply CW.exit | apply CW.ret | apply q_then | apply q_then_exit | apply q_then_ret | apply q_block | apply q_block_ret | apply q_block_hit | apply q_ret | apply q_end | apply q_loop_exit | apply q_loop_ret | apply q_loopT_exit | apply q_loopT_ret | apply RW.nil) | ((with_reducible apply s3); exact rfl; exact by_k) | ((with_reducible apply s2); exact rfl; exact by_k) | ((with_reducible apply s4); exact rfl) | ((with_reducible apply s5); (first | exact by_oa); exact by_g) | ((with_reducible apply CW.cond_t); exact rfl; exact by_ks) | ((with_reducible apply CW.cond_f); exact rfl; exact by_ks) | ((with_reducible apply q_block_miss); exact rfl) | (refine And.intro (show chk [] [] _ _ = true by kernel_rfl) ?_))
              refine q_loopT (j + 1, vs) ⟨by dsimp only; omega, by dsimp only; omega, hgone (by simp [hold, e1])⟩ (by dsimp only; omega) ?_
              exact by_less
          · cases L
            ·
              repeat (first | ((with_reducible apply s1); exact rfl) | (with_reducible first | apply CW.seq | apply CW.block | apply CW.region | apply CW.draw | apply CW.skip | apply CW.exit | apply CW.ret | apply q_then | apply q_then_exit | apply q_then_ret | apply q_block | apply q_block_ret | apply q_block_hit | apply q_ret | apply q_end | apply q_loop_exit | apply q_loop_ret | apply q_loopT_exit | apply q_loopT_ret | apply RW.nil) | ((with_reducible apply s3); exact rfl; exact by_k) | ((with_reducible apply s2); exact rfl; exact by_k) | ((with_reducible apply s4); exact rfl) | ((with_reducible apply s5); (first | exact by_oa); exact by_g) | ((with_reducible apply CW.cond_t); exact rfl; exact by_ks) | ((with_reducible apply CW.cond_f); exact rfl; exact by_ks) | ((with_reducible apply q_block_miss); exact rfl) | (refine And.intro (show chk [] [] _ _ = true by kernel_rfl) ?_))
              refine q_loopT (j + 1, vs ++ [⟨xb, xm, xh, xn⟩]) ⟨by dsimp only; omega, by dsimp only; simp; omega, hkeep (by simp [hold, e1])⟩ (by dsimp only; omega) ?_
              exact by_less
            ·
              repeat (first | ((with_reducible apply s1); exact rfl) | (with_reducible first | apply CW.seq | apply CW.block | apply CW.region | apply CW.draw | apply CW.skip | apply CW.exit | apply CW.ret | apply q_then | apply q_then_exit | apply q_then_ret | apply q_block | apply q_block_ret | apply q_block_hit | apply q_ret | apply q_end | apply q_loop_exit | apply q_loop_ret | apply q_loopT_exit | apply q_loopT_ret | apply RW.nil) | ((with_reducible apply s3); exact rfl; exact by_k) | ((with_reducible apply s2); exact rfl; exact by_k) | ((with_reducible apply s4); exact rfl) | ((with_reducible apply s5); (first | exact by_oa); exact by_g) | ((with_reducible apply CW.cond_t); exact rfl; exact by_ks) | ((with_reducible apply CW.cond_f); exact rfl; exact by_ks) | ((with_reducible apply q_block_miss); exact rfl) | (refine And.intro (show chk [] [] _ _ = true by kernel_rfl) ?_))
              refine q_loopT (j + 1, vs ++ [⟨xb, xm, xh, xn⟩]) ⟨by dsimp only; omega, by dsimp only; simp; omega, hkeep (by simp [hold, e1])⟩ (by dsimp only; omega) ?_
              exact by_less

end Go.Proofs.Ytjopijlkpipljaa

/-! F12 -/
/-
  Contracts of the references' SameChains.
-/
namespace Go.Proofs.Ytjopijlkpipljaa
open Go.AX Go.RF

set_option maxRecDepth 100000
set_option maxHeartbeats 4000000

theorem ok_sameChains (l r : List Chain) (hl : l.length ≤ 268435456) (hs : ∀ c ∈ l, c.vs.length ≤ 268435456) : FnOk Try.prog 29 [.d (encChains l), .d (encChains r)] (.one (dbool (allB sameC l r))) := by
  refine fnOk_of tbl_ok mixed_ok Try.func29 rfl (by kernel_rfl) rfl rfl fun w0 own0 => ?_
  by_cases hlen : l.length = r.length
  ·
    repeat (first | ((with_reducible apply s1); exact rfl) | (with_reducible first | apply CW.seq | apply CW.block | apply CW.region | apply CW.draw | apply CW.skip | apply CW.exit | apply CW.ret | apply q_then | apply q_then_exit | apply q_then_ret | apply q_block | apply q_block_ret | apply q_block_hit | apply q_ret | apply q_end | apply q_loop_exit | apply q_loop_ret | apply q_loopT_exit | apply q_loopT_ret | apply RW.nil) | ((with_reducible apply s3); exact rfl; exact by_k) | ((with_reducible apply s2); exact rfl; exact by_k) | ((with_reducible apply s4); exact rfl) | ((with_reducible apply s5); (first | exact by_oa); exact by_g) | ((with_reducible apply CW.cond_t); exact rfl; exact by_ks) | ((with_reducible apply CW.cond_f); exact rfl; exact by_ks) | ((with_reducible apply q_block_miss); exact rfl) | (refine And.intro (show chk [] [] _ _ = true by kernel_rfl) ?_))
    refine CW.loop (fun k => [sd 0 (encChains l), sd 1 (encChains r), sd 13 (dint l.length), sd 14 (dint k), nxt 0]) (agree sameC l r) ?_ fun k hk => ?_
    ·
      exact by_less
    · rcases agree_case hlen hk with ⟨h1, h1', a, b, h2, h3, h4⟩ | ⟨h1, h2⟩ | ⟨h1, h2, a, b, h3, h4, h5⟩
      · simp only [sameC, Bool.and_eq_true, decide_eq_true_eq] at h4
        obtain ⟨h4, h6⟩ := h4
        have hvl := allB_len h6
        have hav := hs a (List.mem_of_getElem? h2)
        repeat (first | ((with_reducible apply s1); exact rfl) | (with_reducible first | apply CW.seq | apply CW.block | apply CW.region | apply CW.draw | apply CW.skip | apply CW.exit | apply CW.ret | apply q_then | apply q_then_exit | apply q_then_ret | apply q_block | apply q_block_ret | apply q_block_hit | apply q_ret | apply q_end | apply q_loop_exit | apply q_loop_ret | apply q_loopT_exit | apply q_loopT_ret | apply RW.nil) | ((with_reducible apply s3); exact rfl; exact by_k) | ((with_reducible apply s2); exact rfl; exact by_k) | ((with_reducible apply s4); exact rfl) | ((with_reducible apply s5); (first | exact by_oa); exact by_g) | ((with_reducible apply CW.cond_t); exact rfl; exact by_ks) | ((with_reducible apply CW.cond_f); exact rfl; exact by_ks) | ((with_reducible apply q_block_miss); exact rfl) | (refine And.intro (show chk [] [] _ _ = true by kernel_rfl) ?_))
        refine CW.loop (fun j => [sd 0 (encChains l), sd 1 (encChains r), sd 13 (dint l.length), sd 14 (dint k), sd 5 (dint k), sd 48 (dint a.vs.length), sd 49 (dint j), nxt 0]) (agree (fun x y => decide (x = y)) a.vs b.vs) ?_ fun j hj => ?_
        ·
          exact by_less
        · rcases agree_case hvl hj with ⟨g1, g1', x, y, g2, g3, g4⟩ | ⟨g1, g2⟩ | ⟨g1, g2, x, y, g3, g4, g5⟩
          · replace g4 : x = y := by simpa using g4
            repeat (first | ((with_reducible apply s1); exact rfl) | (with_reducible first | apply CW.seq | apply CW.block | apply CW.region | apply CW.draw | apply CW.skip | apply CW.exit | apply CW.ret | apply q_then | apply q_then_exit | apply q_then_ret | apply q_block | apply q_block_ret | apply q_block_hit | apply q_ret | apply q_end | apply q_loop_exit | apply q_loop_ret | apply q_loopT_exit | apply q_loopT_ret | apply RW.nil) | ((with_reducible apply s3); exact rfl; exact by_k) | ((with_reducible apply s2); exact rfl; exact by_k) | ((with_reducible apply s4); exact rfl) | ((with_reducible apply s5); (first | ((with_reducible apply a_agg); exact neq_version x y; (iterate 5 exact rfl)) | exact by_oa); exact by_g) | ((with_reducible apply CW.cond_t); exact rfl; exact by_ks) | ((with_reducible apply CW.cond_f); exact rfl; exact by_ks) | ((with_reducible apply q_block_miss); exact rfl) | (refine And.intro (show chk [] [] _ _ = true by kernel_rfl) ?_))
            refine q_loop g1 ?_
            exact by_less
          ·
            repeat (first | ((with_reducible apply s1); exact rfl) | (with_reducible first | apply CW.seq | apply CW.block | apply CW.region | apply CW.draw | apply CW.skip | apply CW.exit | apply CW.ret | apply q_then | apply q_then_exit | apply q_then_ret | apply q_block | apply q_block_ret | apply q_block_hit | apply q_ret | apply q_end | apply q_loop_exit | apply q_loop_ret | apply q_loopT_exit | apply q_loopT_ret | apply RW.nil) | ((with_reducible apply s3); exact rfl; exact by_k) | ((with_reducible apply s2); exact rfl; exact by_k) | ((with_reducible apply s4); exact rfl) | ((with_reducible apply s5); (first | exact by_oa); exact by_g) | ((with_reducible apply CW.cond_t); exact rfl; exact by_ks) | ((with_reducible apply CW.cond_f); exact rfl; exact by_ks) | ((with_reducible apply q_block_miss); exact rfl) | (refine And.intro (show chk [] [] _ _ = true by kernel_rfl) ?_))
            refine q_loop h1 ?_
            exact by_less
          · rw [g2] at h6; cases h6
      ·
        repeat (first | ((with_reducible apply s1); exact rfl) | (with_reducible first | apply CW.seq | apply CW.block | apply CW.region | apply CW.draw | apply CW.skip | apply CW.exit | apply CW.ret | apply q_then | apply q_then_exit | apply q_then_ret | apply q_block | apply q_block_ret | apply q_block_hit | apply q_ret | apply q_end | apply q_loop_exit | apply q_loop_ret | apply q_loopT_exit | apply q_loopT_ret | apply RW.nil) | ((with_reducible apply s3); exact rfl; exact by_k) | ((with_reducible apply s2); exact rfl; exact by_k) | ((with_reducible apply s4); exact rfl) | ((with_reducible apply s5); (first | exact by_oa); exact by_g) | ((with_reducible apply CW.cond_t); exact rfl; exact by_ks) | ((with_reducible apply CW.cond_f); exact rfl; exact by_ks) | ((with_reducible apply q_block_miss); exact rfl) | (refine And.intro (show chk [] [] _ _ = true by kernel_rfl) ?_))
        exact .one (.tmp rfl (.one (.d (dle_bool h2.symm))))
      · by_cases g1 : a.key = b.key
        · by_cases g2 : a.vs.length = b.vs.length
          · have h6 : allB (fun x y => decide (x = y)) a.vs b.vs = false := by simpa [sameC, g1] using h5
            have hav := hs a (List.mem_of_getElem? h3)
            repeat (first | ((with_reducible apply s1); exact rfl) | (with_reducible first | apply CW.seq | apply CW.block | apply CW.region | apply CW.draw | apply CW.skip | apply CW.exit | apply CW.ret | apply q_then | apply q_then_exit | apply q_then_ret | apply q_block | apply q_block_ret | apply q_block_hit | apply q_ret | apply q_end | apply q_loop_exit | apply q_loop_ret | apply q_loopT_exit | apply q_loopT_ret | apply RW.nil) | ((with_reducible apply s3); exact rfl; exact by_k) | ((with_reducible apply s2); exact rfl; exact by_k) | ((with_reducible apply s4); exact rfl) | ((with_reducible apply s5); (first | exact by_oa); exact by_g) | ((with_reducible apply CW.cond_t); exact rfl; exact by_ks) | ((with_reducible apply CW.cond_f); exact rfl; exact by_ks) | ((with_reducible apply q_block_miss); exact rfl) | (refine And.intro (show chk [] [] _ _ = true by kernel_rfl) ?_))
            refine CW.loop (fun j => [sd 0 (encChains l), sd 1 (encChains r), sd 13 (dint l.length), sd 14 (dint k), sd 5 (dint k), sd 48 (dint a.vs.length), sd 49 (dint j), nxt 0]) (agree (fun x y => decide (x = y)) a.vs b.vs) ?_ fun j hj => ?_
            ·
              exact by_less
            · rcases agree_case g2 hj with ⟨e1, e1', x, y, e2, e3, e4⟩ | ⟨e1, e2⟩ | ⟨e1, e2, x, y, e3, e4, e5⟩
              · replace e4 : x = y := by simpa using e4
                repeat (first | ((with_reducible apply s1); exact rfl) | (with_reducible first | apply CW.seq | apply CW.block | apply CW.region | apply CW.draw | apply CW.skip | apply CW.exit | apply CW.ret | apply q_then | apply q_then_exit | apply q_then_ret | apply q_block | apply q_block_ret | apply q_block_hit | apply q_ret | apply q_end | apply q_loop_exit | apply q_loop_ret | apply q_loopT_exit | apply q_loopT_ret | apply RW.nil) | ((with_reducible apply s3); exact rfl; exact by_k) | ((with_reducible apply s2); exact rfl; exact by_k) | ((with_reducible apply s4); exact rfl) | ((with_reducible apply s5); (first | ((with_reducible apply a_agg); exact neq_version x y; (iterate 5 exact rfl)) | exact by_oa); exact by_g) | ((with_reducible apply CW.cond_t); exact rfl; exact by_ks) | ((with_reducible apply CW.cond_f); exact rfl; exact by_ks) | ((with_reducible apply q_block_miss); exact rfl) | (refine And.intro (show chk [] [] _ _ = true by kernel_rfl) ?_))
                refine q_loop e1 ?_
                exact by_less
              · rw [h6] at e2; cases e2
              · replace e5 : ¬ x = y := by simpa using e5
                repeat (first | ((with_reducible apply s1); exact rfl) | (with_reducible first | apply CW.seq | apply CW.block | apply CW.region | apply CW.draw | apply CW.skip | apply CW.exit | apply CW.ret | apply q_then | apply q_then_exit | apply q_then_ret | apply q_block | apply q_block_ret | apply q_block_hit | apply q_ret | apply q_end | apply q_loop_exit | apply q_loop_ret | apply q_loopT_exit | apply q_loopT_ret | apply RW.nil) | ((with_reducible apply s3); exact rfl; exact by_k) | ((with_reducible apply s2); exact rfl; exact by_k) | ((with_reducible apply s4); exact rfl) | ((with_reducible apply s5); (first | ((with_reducible apply a_agg); exact neq_version x y; (iterate 5 exact rfl)) | exact by_oa); exact by_g) | ((with_reducible apply CW.cond_t); exact rfl; exact by_ks) | ((with_reducible apply CW.cond_f); exact rfl; exact by_ks) | ((with_reducible apply q_block_miss); exact rfl) | (refine And.intro (show chk [] [] _ _ = true by kernel_rfl) ?_))
                exact .one (.tmp rfl (.one (.d (dle_bool h2.symm))))
          ·
            repeat (first | ((with_reducible apply s1); exact rfl) | (with_reducible first | apply CW.seq | apply CW.block | apply CW.region | apply CW.draw | apply CW.skip | apply CW.exit | apply CW.ret | apply q_then | apply q_then_exit | apply q_then_ret | apply q_block | apply q_block_ret | apply q_block_hit | apply q_ret | apply q_end | apply q_loop_exit | apply q_loop_ret | apply q_loopT_exit | apply q_loopT_ret | apply RW.nil) | ((with_reducible apply s3); exact rfl; exact by_k) | ((with_reducible apply s2); exact rfl; exact by_k) | ((with_reducible apply s4); exact rfl) | ((with_reducible apply s5); (first | exact by_oa); exact by_g) | ((with_reducible apply CW.cond_t); exact rfl; exact by_ks) | ((with_reducible apply CW.cond_f); exact rfl; exact by_ks) | ((with_reducible apply q_block_miss); exact rfl) | (refine And.intro (show chk [] [] _ _ = true by kernel_rfl) ?_))
            exact .one (.tmp rfl (.one (.d (dle_bool h2.symm))))
        ·
          repeat (first | ((with_reducible apply s1); exact rfl) | (with_reducible first | apply CW.seq | apply CW.block | apply CW.region | apply CW.draw | apply CW.skip | apply CW.exit | apply CW.ret | apply q_then | apply q_then_exit | apply q_then_ret | apply q_block | apply q_block_ret | apply q_block_hit | apply q_ret | apply q_end | apply q_loop_exit | apply q_loop_ret | apply q_loopT_exit | apply q_loopT_ret | apply RW.nil) | ((with_reducible apply s3); exact rfl; exact by_k) | ((with_reducible apply s2); exact rfl; exact by_k) | ((with_reducible apply s4); exact rfl) | ((with_reducible apply s5); (first | exact by_oa); exact by_g) | ((with_reducible apply CW.cond_t); exact rfl; exact by_ks) | ((with_reducible apply CW.cond_f); exact rfl; exact by_ks) | ((with_reducible apply q_block_miss); exact rfl) | (refine And.intro (show chk [] [] _ _ = true by kernel_rfl) ?_))
          exact .one (.tmp rfl (.one (.d (dle_bool h2.symm))))
  ·
    repeat (first | ((with_reducible apply s1); exact rfl) | (with_reducible first | apply CW.seq | apply CW.block | apply CW.region | apply CW.draw | apply CW.skip | apply CW.exit | apply CW.ret | apply q_then | apply q_then_exit | apply q_then_ret | apply q_block | apply q_block_ret | apply q_block_hit | apply q_ret | apply q_end | apply q_loop_exit | apply q_loop_ret | apply q_loopT_exit | apply q_loopT_ret | apply RW.nil) | ((with_reducible apply s3); exact rfl; exact by_k) | ((with_reducible apply s2); exact rfl; exact by_k) | ((with_reducible apply s4); exact rfl) | ((with_reducible apply s5); (first | exact by_oa); exact by_g) | ((with_reducible apply CW.cond_t); exact rfl; exact by_ks) | ((with_reducible apply CW.cond_f); exact rfl; exact by_ks) | ((with_reducible apply q_block_miss); exact rfl) | (refine And.intro (show chk [] [] _ _ = true by kernel_rfl) ?_))
    refine .one (.tmp rfl (.one (.d (dle_bool ?_))))
    cases hb : allB sameC l r
    · rfl
    · exact absurd (allB_len hb) hlen

end Go.Proofs.Ytjopijlkpipljaa

/-! F14 -/
/-
  Contracts of the references' New, Mark, Clear, Seen, SameEngine of engines.
-/
namespace Go.Proofs.Ytjopijlkpipljaa
open Go.AX Go.RF

set_option maxRecDepth 100000
set_option maxHeartbeats 4000000

theorem ok_new (l : List Pair) (hl : l.length ≤ 134217728) : FnOk Try.prog 13 [.d (encRows l)] (.one (.agg (newE l).enc)) := by
  refine fnOk_of tbl_ok mixed_ok Try.func13 rfl (by kernel_rfl) rfl rfl fun w0 own0 => ?_
  repeat (first | ((with_reducible apply s1); exact rfl) | (with_reducible first | apply CW.seq | apply CW.block | apply CW.region | apply CW.draw | apply CW.skip | apply CW.exit | apply CW.ret | apply q_then | apply q_then_exit | apply q_then_ret | apply q_block | apply q_block_ret | apply q_block_hit | apply q_ret | apply q_end | apply q_loop_exit | apply q_loop_ret | apply q_loopT_exit | apply q_loopT_ret | apply RW.nil) | ((with_reducible apply s3); exact rfl; exact by_k) | ((with_reducible apply s2); exact rfl; exact by_k) | ((with_reducible apply s4); exact rfl) | ((with_reducible apply s5); (first | exact by_oa); exact by_g) | ((with_reducible apply CW.cond_t); exact rfl; exact by_ks) | ((with_reducible apply CW.cond_f); exact rfl; exact by_ks) | ((with_reducible apply q_block_miss); exact rfl) | (refine And.intro (show chk [] [] _ _ = true by kernel_rfl) ?_))
  refine CW.stut (stut_promote_cell (id := 1) (j := 0) 72 2 rfl) ⟨rfl, rfl, trivial⟩ ?_
  refine CW.loopT (fun i : Nat => [sd 7 (encRows l), sd 8 (dint l.length), sd 9 (dint i), sp 2 0, ob 0 noE.enc0, sp 3 1, (.o 1, .ob (.box [.own 2 i, .d (.v nilS), .d (.v nilS), .d (.v nilS), .d (dint 0)])),
      oa 2 72 2 ((l.take i).map fun p => (rowChain p).enc), nxt 3]) (fun i => i ≤ l.length) (fun i => l.length - i) 0 (by omega) ?_ ?_
  ·
    exact by_less
  · rintro i hi
    rcases drop_case hi with ⟨h1, h2⟩ | ⟨p, h1, h2, h3⟩
    · have h4 : (l.take i).map (fun p => (rowChain p).enc) = (l.map rowChain).map Chain.enc := by rw [h2, List.take_length]; simp
      repeat (first | (with_reducible apply stop_reg 7) | ((with_reducible apply s1); exact rfl) | (with_reducible first | apply CW.seq | apply CW.block | apply CW.region | apply CW.draw | apply CW.skip | apply CW.exit | apply CW.ret | apply q_then | apply q_then_exit | apply q_then_ret | apply q_block | apply q_block_ret | apply q_block_hit | apply q_ret | apply q_end | apply q_loop_exit | apply q_loop_ret | apply q_loopT_exit | apply q_loopT_ret | apply RW.nil) | ((with_reducible apply s3); exact rfl; exact by_k) | ((with_reducible apply s2); exact rfl; exact by_k) | ((with_reducible apply s4); exact rfl) | ((with_reducible apply s5); (first | exact by_oa); exact by_g) | ((with_reducible apply CW.cond_t); exact rfl; exact by_ks) | ((with_reducible apply CW.cond_f); exact rfl; exact by_ks) | ((with_reducible apply q_block_miss); exact rfl) | (refine And.intro (show chk [] [] _ _ = true by kernel_rfl) ?_))
      refine Stop.go (CW.stut (stut_freeze_cell (id := 1) (j := 0) (i := 2) rfl (by simp; omega)) ⟨rfl, rfl, trivial⟩ ?_)
      repeat (first | ((with_reducible apply s1); exact rfl) | (with_reducible first | apply CW.seq | apply CW.block | apply CW.region | apply CW.draw | apply CW.skip | apply CW.exit | apply CW.ret | apply q_then | apply q_then_exit | apply q_then_ret | apply q_block | apply q_block_ret | apply q_block_hit | apply q_ret | apply q_end | apply q_loop_exit | apply q_loop_ret | apply q_loopT_exit | apply q_loopT_ret | apply RW.nil) | ((with_reducible apply s3); exact rfl; exact by_k) | ((with_reducible apply s2); exact rfl; exact by_k) | ((with_reducible apply s4); exact rfl) | ((with_reducible apply s5); (first | exact by_oa); exact by_g) | ((with_reducible apply CW.cond_t); exact rfl; exact by_ks) | ((with_reducible apply CW.cond_f); exact rfl; exact by_ks) | ((with_reducible apply q_block_miss); exact rfl) | (refine And.intro (show chk [] [] _ _ = true by kernel_rfl) ?_))
      exact .one (.cell rfl rfl rfl rfl (.aggd (ds := [.sl 2 ((l.take i).map fun p => (rowChain p).enc), .v nilS, .v nilS, .v nilS, dint 0]) rfl
        (DLes.agg (.cons (dle_eq (by rw [h4]; rfl)) (.cons (dle_nil 3) (.cons (dle_nil 1) (.cons (dle_nil 5) (.cons (.refl _) .nil))))))))
    · have h4 : (l.take i).map (fun p => (rowChain p).enc) ++ [(rowChain p).enc] = (l.take (i + 1)).map fun p => (rowChain p).enc := by rw [List.take_add_one, h2]; simp
      repeat (first | ((with_reducible apply s1); exact rfl) | (with_reducible first | apply CW.seq | apply CW.block | apply CW.region | apply CW.draw | apply CW.skip | apply CW.exit | apply CW.ret | apply q_then | apply q_then_exit | apply q_then_ret | apply q_block | apply q_block_ret | apply q_block_hit | apply q_ret | apply q_end | apply q_loop_exit | apply q_loop_ret | apply q_loopT_exit | apply q_loopT_ret | apply RW.nil) | ((with_reducible apply s3); exact rfl; exact by_k) | ((with_reducible apply s2); exact rfl; exact by_k) | ((with_reducible apply s4); exact rfl) | ((with_reducible apply s5); (first | exact by_oa); exact by_g) | ((with_reducible apply CW.cond_t); exact rfl; exact by_ks) | ((with_reducible apply CW.cond_f); exact rfl; exact by_ks) | ((with_reducible apply q_block_miss); exact rfl) | (refine And.intro (show chk [] [] _ _ = true by kernel_rfl) ?_))
      refine q_loopT (i + 1) (by omega) (by omega) ?_
      exact by_less

theorem ok_mark (e : Engine) (hs : e.state.length ≤ 134217728) : FnOk Try.prog 34 [.d (.agg e.enc)] (.one (dint (markN e.state))) := by
  refine fnOk_of tbl_ok mixed_ok Try.func34 rfl (by kernel_rfl) rfl rfl fun w0 own0 => ?_
  repeat (first | ((with_reducible apply s1); exact rfl) | (with_reducible first | apply CW.seq | apply CW.block | apply CW.region | apply CW.draw | apply CW.skip | apply CW.exit | apply CW.ret | apply q_then | apply q_then_exit | apply q_then_ret | apply q_block | apply q_block_ret | apply q_block_hit | apply q_ret | apply q_end | apply q_loop_exit | apply q_loop_ret | apply q_loopT_exit | apply q_loopT_ret | apply RW.nil) | ((with_reducible apply s3); exact rfl; exact by_k) | ((with_reducible apply s2); exact rfl; exact by_k) | ((with_reducible apply s4); exact rfl) | ((with_reducible apply s5); (first | exact by_oa); exact by_g) | ((with_reducible apply CW.cond_t); exact rfl; exact by_ks) | ((with_reducible apply CW.cond_f); exact rfl; exact by_ks) | ((with_reducible apply q_block_miss); exact rfl) | (refine And.intro (show chk [] [] _ _ = true by kernel_rfl) ?_))
  refine CW.loopT (fun i : Nat => [sp 1 0, ob 0 e.enc, sd 3 (dint i), nxt 1]) (fun i => i ≤ e.state.length ∧ i + markN (e.state.drop i) = markN e.state) (fun i => e.state.length - i) 0 ⟨by omega, by simp⟩ ?_ ?_
  ·
    exact by_less
  · rintro i ⟨hi, hI⟩
    rcases drop_case hi with ⟨h1, h2⟩ | ⟨s, h1, h2, h3⟩
    · rw [h1] at hI
      simp only [markN] at hI
      repeat (first | ((with_reducible apply s1); exact rfl) | (with_reducible first | apply CW.seq | apply CW.block | apply CW.region | apply CW.draw | apply CW.skip | apply CW.exit | apply CW.ret | apply q_then | apply q_then_exit | apply q_then_ret | apply q_block | apply q_block_ret | apply q_block_hit | apply q_ret | apply q_end | apply q_loop_exit | apply q_loop_ret | apply q_loopT_exit | apply q_loopT_ret | apply RW.nil) | ((with_reducible apply s3); exact rfl; exact by_k) | ((with_reducible apply s2); exact rfl; exact by_k) | ((with_reducible apply s4); exact rfl) | ((with_reducible apply s5); (first | exact by_oa); exact by_g) | ((with_reducible apply CW.cond_t); exact rfl; exact by_ks) | ((with_reducible apply CW.cond_f); exact rfl; exact by_ks) | ((with_reducible apply q_block_miss); exact rfl) | (refine And.intro (show chk [] [] _ _ = true by kernel_rfl) ?_))
      exact .one (.tmp rfl (.one (.d (dle_int (by omega)))))
    · rw [h1] at hI
      simp only [markN] at hI
      by_cases h4 : s = 1
      · rw [if_pos h4] at hI
        repeat (first | ((with_reducible apply s1); exact rfl) | (with_reducible first | apply CW.seq | apply CW.block | apply CW.region | apply CW.draw | apply CW.skip | apply CW.exit | apply CW.ret | apply q_then | apply q_then_exit | apply q_then_ret | apply q_block | apply q_block_ret | apply q_block_hit | apply q_ret | apply q_end | apply q_loop_exit | apply q_loop_ret | apply q_loopT_exit | apply q_loopT_ret | apply RW.nil) | ((with_reducible apply s3); exact rfl; exact by_k) | ((with_reducible apply s2); exact rfl; exact by_k) | ((with_reducible apply s4); exact rfl) | ((with_reducible apply s5); (first | exact by_oa); exact by_g) | ((with_reducible apply CW.cond_t); exact rfl; exact by_ks) | ((with_reducible apply CW.cond_f); exact rfl; exact by_ks) | ((with_reducible apply q_block_miss); exact rfl) | (refine And.intro (show chk [] [] _ _ = true by kernel_rfl) ?_))
        refine q_loopT (i + 1) ⟨by omega, by omega⟩ (by omega) ?_
        exact by_less
      · rw [if_neg h4] at hI
        repeat (first | ((with_reducible apply s1); exact rfl) | (with_reducible first | apply CW.seq | apply CW.block | apply CW.region | apply CW.draw | apply CW.skip | apply CW.exit | apply CW.ret | apply q_then | apply q_then_exit | apply q_then_ret | apply q_block | apply q_block_ret | apply q_block_hit | apply q_ret | apply q_end | apply q_loop_exit | apply q_loop_ret | apply q_loopT_exit | apply q_loopT_ret | apply RW.nil) | ((with_reducible apply s3); exact rfl; exact by_k) | ((with_reducible apply s2); exact rfl; exact by_k) | ((with_reducible apply s4); exact rfl) | ((with_reducible apply s5); (first | exact by_oa); exact by_g) | ((with_reducible apply CW.cond_t); exact rfl; exact by_ks) | ((with_reducible apply CW.cond_f); exact rfl; exact by_ks) | ((with_reducible apply q_block_miss); exact rfl) | (refine And.intro (show chk [] [] _ _ = true by kernel_rfl) ?_))
        exact .one (.tmp rfl (.one (.d (dle_int (by omega)))))

theorem markN_le : ∀ l : List Int, markN l ≤ l.length
  | [] => by simp [markN]
  | s :: r => by
    have := markN_le r
    simp only [markN]
    split <;> simp <;> omega

theorem ok_clearE (e : Engine) (hs : e.Sm) (h1 : e.state.length = e.deeds.length) (h2 : e.ends.length = e.deeds.length) : FnOk Try.prog 15 [.d (.agg e.enc)] (.one (.agg (clearE e).enc)) := by
  refine fnOk_of tbl_ok mixed_ok Try.func15 rfl (by kernel_rfl) rfl rfl fun w0 own0 => ?_
  have hm := ok_mark e hs.s
  have hml := markN_le e.state
  have hd := hs.d
  have hb := hs.b
  have hc := ok_clear e.chains (e.base + markN e.state) (by have := hs.c; omega) (fun c h => by have := hs.v c h; omega)
  repeat (first | ((with_reducible apply s1); exact rfl) | (with_reducible first | apply CW.seq | apply CW.block | apply CW.region | apply CW.draw | apply CW.skip | apply CW.exit | apply CW.ret | apply q_then | apply q_then_exit | apply q_then_ret | apply q_block | apply q_block_ret | apply q_block_hit | apply q_ret | apply q_end | apply q_loop_exit | apply q_loop_ret | apply q_loopT_exit | apply q_loopT_ret | apply RW.nil) | ((with_reducible apply s3); exact rfl; exact by_k) | ((with_reducible apply s2); exact rfl; exact by_k) | ((with_reducible apply s4); exact rfl) | ((with_reducible apply s5); (first | (focus ((with_reducible apply a_call); exact hm; exact rfl; (repeat (first | exact SubsE.nil | (apply SubsE.cons; exact rfl; (first | exact .d (.refl _) | exact .d (.nil _) | exact .agg rfl (.refl _) | exact .pd | exact .ptr rfl); (first | exact trivial | exact ⟨rfl, trivial⟩)))); done)) | (focus ((with_reducible apply a_call); exact hc; exact rfl; (repeat (first | exact SubsE.nil | (apply SubsE.cons; exact rfl; (first | exact .d (.refl _) | exact .d (.nil _) | exact .agg rfl (.refl _) | exact .pd | exact .ptr rfl); (first | exact trivial | exact ⟨rfl, trivial⟩)))); done)) | exact by_oa); exact by_g) | ((with_reducible apply CW.cond_t); exact rfl; exact by_ks) | ((with_reducible apply CW.cond_f); exact rfl; exact by_ks) | ((with_reducible apply q_block_miss); exact rfl) | (refine And.intro (show chk [] [] _ _ = true by kernel_rfl) ?_))
  exact .one (.cell rfl rfl rfl rfl (.aggd (ds := [encChains (clear (e.base + markN e.state) e.chains), .sl 3 ((e.deeds.map Deed.enc).drop (markN e.state)), .sl 1 ((e.state.map encInt1).drop (markN e.state)), .sl 5 ((e.ends.map Done.enc).drop (markN e.state)), dint (e.base + markN e.state)]) rfl
    (dle_eq (by simp [clearE, Engine.enc, encDeeds, encInts, encEnds]))))

theorem ok_sameE (a b : Engine) (hs : a.Sm) : FnOk Try.prog 11 [.d (.agg a.enc), .d (.agg b.enc)] (.one (dbool (sameE a b))) := by
  refine fnOk_of tbl_ok mixed_ok Try.func11 rfl (by kernel_rfl) rfl rfl fun w0 own0 => ?_
  have c1 := ok_sameChains a.chains b.chains (by have := hs.c; omega) (fun c h => by have := hs.v c h; omega)
  have c2 := ok_sameDeeds a.deeds b.deeds (by have := hs.d; omega) hs.dd
  have c3 := ok_SameInts a.state b.state (by have := hs.s; omega)
  have c4 := ok_sameEnds a.ends b.ends (by have := hs.n; omega)
  unfold sameE
  cases h1 : allB sameC a.chains b.chains
  · rw [h1] at c1
    repeat (first | ((with_reducible apply s1); exact rfl) | (with_reducible first | apply CW.seq | apply CW.block | apply CW.region | apply CW.draw | apply CW.skip | apply CW.exit | apply CW.ret | apply q_then | apply q_then_exit | apply q_then_ret | apply q_block | apply q_block_ret | apply q_block_hit | apply q_ret | apply q_end | apply q_loop_exit | apply q_loop_ret | apply q_loopT_exit | apply q_loopT_ret | apply RW.nil) | ((with_reducible apply s3); exact rfl; exact by_k) | ((with_reducible apply s2); exact rfl; exact by_k) | ((with_reducible apply s4); exact rfl) | ((with_reducible apply s5); (first | (focus ((with_reducible apply a_call); exact c1; exact rfl; (repeat (first | exact SubsE.nil | (apply SubsE.cons; exact rfl; (first | exact .d (.refl _) | exact .d (.nil _) | exact .agg rfl (.refl _) | exact .pd | exact .ptr rfl); (first | exact trivial | exact ⟨rfl, trivial⟩)))); done)) | exact by_oa); exact by_g) | ((with_reducible apply CW.cond_t); exact rfl; exact by_ks) | ((with_reducible apply CW.cond_f); exact rfl; exact by_ks) | ((with_reducible apply q_block_miss); exact rfl) | (refine And.intro (show chk [] [] _ _ = true by kernel_rfl) ?_))
    exact .one (.tmp rfl (.one (.d (.refl _))))
  · rw [h1] at c1
    cases h2 : allB (fun x y => decide (x = y)) a.deeds b.deeds
    · rw [h2] at c2
      repeat (first | ((with_reducible apply s1); exact rfl) | (with_reducible first | apply CW.seq | apply CW.block | apply CW.region | apply CW.draw | apply CW.skip | apply CW.exit | apply CW.ret | apply q_then | apply q_then_exit | apply q_then_ret | apply q_block | apply q_block_ret | apply q_block_hit | apply q_ret | apply q_end | apply q_loop_exit | apply q_loop_ret | apply q_loopT_exit | apply q_loopT_ret | apply RW.nil) | ((with_reducible apply s3); exact rfl; exact by_k) | ((with_reducible apply s2); exact rfl; exact by_k) | ((with_reducible apply s4); exact rfl) | ((with_reducible apply s5); (first | (focus ((with_reducible apply a_call); exact c1; exact rfl; (repeat (first | exact SubsE.nil | (apply SubsE.cons; exact rfl; (first | exact .d (.refl _) | exact .d (.nil _) | exact .agg rfl (.refl _) | exact .pd | exact .ptr rfl); (first | exact trivial | exact ⟨rfl, trivial⟩)))); done)) | (focus ((with_reducible apply a_call); exact c2; exact rfl; (repeat (first | exact SubsE.nil | (apply SubsE.cons; exact rfl; (first | exact .d (.refl _) | exact .d (.nil _) | exact .agg rfl (.refl _) | exact .pd | exact .ptr rfl); (first | exact trivial | exact ⟨rfl, trivial⟩)))); done)) | exact by_oa); exact by_g) | ((with_reducible apply CW.cond_t); exact rfl; exact by_ks) | ((with_reducible apply CW.cond_f); exact rfl; exact by_ks) | ((with_reducible apply q_block_miss); exact rfl) | (refine And.intro (show chk [] [] _ _ = true by kernel_rfl) ?_))
      exact .one (.tmp rfl (.one (.d (.refl _))))
    · rw [h2] at c2
      cases h3 : allB (fun x y => decide (x = y)) a.state b.state
      · rw [h3] at c3
        repeat (first | ((with_reducible apply s1); exact rfl) | (with_reducible first | apply CW.seq | apply CW.block | apply CW.region | apply CW.draw | apply CW.skip | apply CW.exit | apply CW.ret | apply q_then | apply q_then_exit | apply q_then_ret | apply q_block | apply q_block_ret | apply q_block_hit | apply q_ret | apply q_end | apply q_loop_exit | apply q_loop_ret | apply q_loopT_exit | apply q_loopT_ret | apply RW.nil) | ((with_reducible apply s3); exact rfl; exact by_k) | ((with_reducible apply s2); exact rfl; exact by_k) | ((with_reducible apply s4); exact rfl) | ((with_reducible apply s5); (first | (focus ((with_reducible apply a_call); exact c1; exact rfl; (repeat (first | exact SubsE.nil | (apply SubsE.cons; exact rfl; (first | exact .d (.refl _) | exact .d (.nil _) | exact .agg rfl (.refl _) | exact .pd | exact .ptr rfl); (first | exact trivial | exact ⟨rfl, trivial⟩)))); done)) | (focus ((with_reducible apply a_call); exact c2; exact rfl; (repeat (first | exact SubsE.nil | (apply SubsE.cons; exact rfl; (first | exact .d (.refl _) | exact .d (.nil _) | exact .agg rfl (.refl _) | exact .pd | exact .ptr rfl); (first | exact trivial | exact ⟨rfl, trivial⟩)))); done)) | (focus ((with_reducible apply a_call); exact c3; exact rfl; (repeat (first | exact SubsE.nil | (apply SubsE.cons; exact rfl; (first | exact .d (.refl _) | exact .d (.nil _) | exact .agg rfl (.refl _) | exact .pd | exact .ptr rfl); (first | exact trivial | exact ⟨rfl, trivial⟩)))); done)) | exact by_oa); exact by_g) | ((with_reducible apply CW.cond_t); exact rfl; exact by_ks) | ((with_reducible apply CW.cond_f); exact rfl; exact by_ks) | ((with_reducible apply q_block_miss); exact rfl) | (refine And.intro (show chk [] [] _ _ = true by kernel_rfl) ?_))
        exact .one (.tmp rfl (.one (.d (.refl _))))
      · rw [h3] at c3
        cases h4 : allB (fun x y => decide (x = y)) a.ends b.ends
        · rw [h4] at c4
          repeat (first | ((with_reducible apply s1); exact rfl) | (with_reducible first | apply CW.seq | apply CW.block | apply CW.region | apply CW.draw | apply CW.skip | apply CW.exit | apply CW.ret | apply q_then | apply q_then_exit | apply q_then_ret | apply q_block | apply q_block_ret | apply q_block_hit | apply q_ret | apply q_end | apply q_loop_exit | apply q_loop_ret | apply q_loopT_exit | apply q_loopT_ret | apply RW.nil) | ((with_reducible apply s3); exact rfl; exact by_k) | ((with_reducible apply s2); exact rfl; exact by_k) | ((with_reducible apply s4); exact rfl) | ((with_reducible apply s5); (first | (focus ((with_reducible apply a_call); exact c1; exact rfl; (repeat (first | exact SubsE.nil | (apply SubsE.cons; exact rfl; (first | exact .d (.refl _) | exact .d (.nil _) | exact .agg rfl (.refl _) | exact .pd | exact .ptr rfl); (first | exact trivial | exact ⟨rfl, trivial⟩)))); done)) | (focus ((with_reducible apply a_call); exact c2; exact rfl; (repeat (first | exact SubsE.nil | (apply SubsE.cons; exact rfl; (first | exact .d (.refl _) | exact .d (.nil _) | exact .agg rfl (.refl _) | exact .pd | exact .ptr rfl); (first | exact trivial | exact ⟨rfl, trivial⟩)))); done)) | (focus ((with_reducible apply a_call); exact c3; exact rfl; (repeat (first | exact SubsE.nil | (apply SubsE.cons; exact rfl; (first | exact .d (.refl _) | exact .d (.nil _) | exact .agg rfl (.refl _) | exact .pd | exact .ptr rfl); (first | exact trivial | exact ⟨rfl, trivial⟩)))); done)) | (focus ((with_reducible apply a_call); exact c4; exact rfl; (repeat (first | exact SubsE.nil | (apply SubsE.cons; exact rfl; (first | exact .d (.refl _) | exact .d (.nil _) | exact .agg rfl (.refl _) | exact .pd | exact .ptr rfl); (first | exact trivial | exact ⟨rfl, trivial⟩)))); done)) | exact by_oa); exact by_g) | ((with_reducible apply CW.cond_t); exact rfl; exact by_ks) | ((with_reducible apply CW.cond_f); exact rfl; exact by_ks) | ((with_reducible apply q_block_miss); exact rfl) | (refine And.intro (show chk [] [] _ _ = true by kernel_rfl) ?_))
          exact .one (.tmp rfl (.one (.d (.refl _))))
        · rw [h4] at c4
          repeat (first | ((with_reducible apply s1); exact rfl) | (with_reducible first | apply CW.seq | apply CW.block | apply CW.region | apply CW.draw | apply CW.skip | apply CW.exit | apply CW.ret | apply q_then | apply q_then_exit | apply q_then_ret | apply q_block | apply q_block_ret | apply q_block_hit | apply q_ret | apply q_end | apply q_loop_exit | apply q_loop_ret | apply q_loopT_exit | apply q_loopT_ret | apply RW.nil) | ((with_reducible apply s3); exact rfl; exact by_k) | ((with_reducible apply s2); exact rfl; exact by_k) | ((with_reducible apply s4); exact rfl) | ((with_reducible apply s5); (first | (focus ((with_reducible apply a_call); exact c1; exact rfl; (repeat (first | exact SubsE.nil | (apply SubsE.cons; exact rfl; (first | exact .d (.refl _) | exact .d (.nil _) | exact .agg rfl (.refl _) | exact .pd | exact .ptr rfl); (first | exact trivial | exact ⟨rfl, trivial⟩)))); done)) | (focus ((with_reducible apply a_call); exact c2; exact rfl; (repeat (first | exact SubsE.nil | (apply SubsE.cons; exact rfl; (first | exact .d (.refl _) | exact .d (.nil _) | exact .agg rfl (.refl _) | exact .pd | exact .ptr rfl); (first | exact trivial | exact ⟨rfl, trivial⟩)))); done)) | (focus ((with_reducible apply a_call); exact c3; exact rfl; (repeat (first | exact SubsE.nil | (apply SubsE.cons; exact rfl; (first | exact .d (.refl _) | exact .d (.nil _) | exact .agg rfl (.refl _) | exact .pd | exact .ptr rfl); (first | exact trivial | exact ⟨rfl, trivial⟩)))); done)) | (focus ((with_reducible apply a_call); exact c4; exact rfl; (repeat (first | exact SubsE.nil | (apply SubsE.cons; exact rfl; (first | exact .d (.refl _) | exact .d (.nil _) | exact .agg rfl (.refl _) | exact .pd | exact .ptr rfl); (first | exact trivial | exact ⟨rfl, trivial⟩)))); done)) | exact by_oa); exact by_g) | ((with_reducible apply CW.cond_t); exact rfl; exact by_ks) | ((with_reducible apply CW.cond_f); exact rfl; exact by_ks) | ((with_reducible apply q_block_miss); exact rfl) | (refine And.intro (show chk [] [] _ _ = true by kernel_rfl) ?_))
          exact .one (.tmp rfl (.one (.d (.refl _))))

end Go.Proofs.Ytjopijlkpipljaa

/-! F18 -/
/-
  Contract of the references' Add of deeds to engines: the walk.
-/
namespace Go.Proofs.Ytjopijlkpipljaa
open Go.AX Go.RF

set_option maxRecDepth 100000
set_option maxHeartbeats 8000000

theorem ok_addE (e : Engine) (l : List Deed) (N : Nat) (hz : Engine.Sz e N) (hd : ∀ d ∈ l, d.Sm) (hl : l.length ≤ 10000000) (hN : N + 5 * l.length ≤ 100000000) :
    FnOk Try.prog 14 [.d (.agg e.enc), .d (encDeeds l)] (.tup [.agg (addE e l).1.enc, dint (addE e l).2]) := by
  refine fnOk_of tbl_ok mixed_ok Try.func14 rfl (by kernel_rfl) rfl rfl fun w0 own0 => ?_
  repeat (first | ((with_reducible apply s1); exact rfl) | (with_reducible first | apply CW.seq | apply CW.block | apply CW.region | apply CW.draw | apply CW.skip | apply CW.exit | apply CW.ret | apply q_then | apply q_then_exit | apply q_then_ret | apply q_block | apply q_block_ret | apply q_block_hit | apply q_ret | apply q_end | apply q_loop_exit | apply q_loop_ret | apply q_loopT_exit | apply q_loopT_ret | apply RW.nil) | ((with_reducible apply s3); exact rfl; exact by_k) | ((with_reducible apply s2); exact rfl; exact by_k) | ((with_reducible apply s4); exact rfl) | ((with_reducible apply s5); (first | exact by_oa); exact by_g) | ((with_reducible apply CW.cond_t); exact rfl; exact by_ks) | ((with_reducible apply CW.cond_f); exact rfl; exact by_ks) | ((with_reducible apply q_block_miss); exact rfl) | (refine And.intro (show chk [] [] _ _ = true by kernel_rfl) ?_))
  refine CW.loopT (fun i : Nat => [sd 1 (encDeeds l), sp 2 0, ob 0 e.enc, sp 4 1, ob 1 noE.enc0, sd 5 (dint 0), sd 13 (encDeeds l), sd 14 (dint l.length), sd 15 (dint i), nxt 2])
    (fun i => i ≤ l.length ∧ wrongs (l.drop i) = wrongs l) (fun i => l.length - i) 0 ⟨by omega, rfl⟩ ?_ ?_
  ·
    exact by_less
  · rintro i ⟨hi, hI⟩
    rcases drop_case hi with ⟨h1, h2⟩ | ⟨d, h1, h2, h3⟩
    · rw [h1] at hI
      have hw0 : wrongs l = 0 := hI.symm
      have hres : addE e l = (addAll e l, 0) := by rw [addE, if_pos hw0]
      clear h1 hI
      rw [hres]
      repeat (first | ((with_reducible apply s1); exact rfl) | (with_reducible first | apply CW.seq | apply CW.block | apply CW.region | apply CW.draw | apply CW.skip | apply CW.exit | apply CW.ret | apply q_then | apply q_then_exit | apply q_then_ret | apply q_block | apply q_block_ret | apply q_block_hit | apply q_ret | apply q_end | apply q_loop_exit | apply q_loop_ret | apply q_loopT_exit | apply q_loopT_ret | apply RW.nil) | ((with_reducible apply s3); exact rfl; exact by_k) | ((with_reducible apply s2); exact rfl; exact by_k) | ((with_reducible apply s4); exact rfl) | ((with_reducible apply s5); (first | exact by_oa); exact by_g) | ((with_reducible apply CW.cond_t); exact rfl; exact by_ks) | ((with_reducible apply CW.cond_f); exact rfl; exact by_ks) | ((with_reducible apply q_block_miss); exact rfl) | (refine And.intro (show chk [] [] _ _ = true by kernel_rfl) ?_))
      refine CW.loopT (fun t : Nat × Engine => [sp 2 0, ob 0 t.2.enc, sp 4 1, ob 1 noE.enc0, sd 5 (dint 0), sd 26 (encDeeds l), sd 27 (dint l.length), sd 28 (dint t.1), nxt 2])
        (fun t => t.1 ≤ l.length ∧ Engine.Sz t.2 (N + 5 * t.1) ∧ addAll t.2 (l.drop t.1) = addAll e l) (fun t => l.length - t.1) (0, e) ⟨by omega, hz, rfl⟩ ?_ ?_
      ·
        exact by_less
      · rintro ⟨i, e'⟩ ⟨hi, hz', hI⟩
        dsimp only at hi hz' hI ⊢
        rcases drop_case hi with ⟨h1, h2⟩ | ⟨d, h1, h2, h3⟩
        · rw [h1] at hI
          simp only [addAll] at hI
          repeat (first | ((with_reducible apply s1); exact rfl) | (with_reducible first | apply CW.seq | apply CW.block | apply CW.region | apply CW.draw | apply CW.skip | apply CW.exit | apply CW.ret | apply q_then | apply q_then_exit | apply q_then_ret | apply q_block | apply q_block_ret | apply q_block_hit | apply q_ret | apply q_end | apply q_loop_exit | apply q_loop_ret | apply q_loopT_exit | apply q_loopT_ret | apply RW.nil) | ((with_reducible apply s3); exact rfl; exact by_k) | ((with_reducible apply s2); exact rfl; exact by_k) | ((with_reducible apply s4); exact rfl) | ((with_reducible apply s5); (first | exact by_oa); exact by_g) | ((with_reducible apply CW.cond_t); exact rfl; exact by_ks) | ((with_reducible apply CW.cond_f); exact rfl; exact by_ks) | ((with_reducible apply q_block_miss); exact rfl) | (refine And.intro (show chk [] [] _ _ = true by kernel_rfl) ?_))
          rw [← hI]
          exact .two (.cell rfl rfl rfl rfl (.aggd (ds := e'.enc) rfl (.refl _))) (.tmp rfl (.one (.d (.refl _))))
        · rw [h1] at hI
          simp only [addAll] at hI
          have hdm := List.mem_of_getElem? h2
          have hds := hd d hdm
          have hww := (wrong_writes (wrongs_mem hw0 d hdm)).2.1
          have hz2 := add1_sz hz' hds hww
          obtain ⟨chs, dds, sts, ens, bs⟩ := e'
          have hzc := hz'.c
          have hzv := hz'.v
          have hzd := hz'.d
          have hzs := hz'.s
          have hzn := hz'.n
          have hzb := hz'.b
          dsimp only at hzc hzv hzd hzs hzn hzb
          repeat (first | ((with_reducible apply s1); exact rfl) | (with_reducible first | apply CW.seq | apply CW.block | apply CW.region | apply CW.draw | apply CW.skip | apply CW.exit | apply CW.ret | apply q_then | apply q_then_exit | apply q_then_ret | apply q_block | apply q_block_ret | apply q_block_hit | apply q_ret | apply q_end | apply q_loop_exit | apply q_loop_ret | apply q_loopT_exit | apply q_loopT_ret | apply RW.nil) | ((with_reducible apply s3); exact rfl; exact by_k) | ((with_reducible apply s2); exact rfl; exact by_k) | ((with_reducible apply s4); exact rfl) | ((with_reducible apply s5); (first | exact by_oa); exact by_g) | ((with_reducible apply CW.cond_t); exact rfl; exact by_ks) | ((with_reducible apply CW.cond_f); exact rfl; exact by_ks) | ((with_reducible apply q_block_miss); exact rfl) | (refine And.intro (show chk [] [] _ _ = true by kernel_rfl) ?_))
          refine CW.loopT (fun t : Nat × List Chain => [sp 2 0, ob 0 (Engine.enc ⟨t.2, dds, sts, ens, bs⟩), sp 4 1, ob 1 noE.enc0, sd 5 (dint 0), sd 26 (encDeeds l), sd 27 (dint l.length), sd 28 (dint i), sp 10 2, ob 2 d.enc, sd 33 (encStrs d.writes), sd 34 (dint d.writes.length), sd 35 (dint t.1), nxt 3])
            (fun t => t.1 ≤ d.writes.length ∧ (t.2.length ≤ N + 5 * i + t.1 ∧ ∀ c ∈ t.2, c.vs.length ≤ N + 5 * i + t.1) ∧ addKeys (bs + dds.length) t.2 (d.writes.drop t.1) = addKeys (bs + dds.length) chs d.writes) (fun t => d.writes.length - t.1) (0, chs) ⟨by omega, ⟨hzc, hzv⟩, rfl⟩ ?_ ?_
          ·
            exact by_less
          · rintro ⟨j, cs⟩ ⟨hj, ⟨hcl, hcv⟩, hJ⟩
            dsimp only at hj hcl hcv hJ ⊢
            rcases drop_case hj with ⟨g1, g2⟩ | ⟨k, g1, g2, g3⟩
            · rw [g1] at hJ
              simp only [addKeys] at hJ
              subst hJ
              repeat (first | (with_reducible apply stop_reg 17) | ((with_reducible apply s1); exact rfl) | (with_reducible first | apply CW.seq | apply CW.block | apply CW.region | apply CW.draw | apply CW.skip | apply CW.exit | apply CW.ret | apply q_then | apply q_then_exit | apply q_then_ret | apply q_block | apply q_block_ret | apply q_block_hit | apply q_ret | apply q_end | apply q_loop_exit | apply q_loop_ret | apply q_loopT_exit | apply q_loopT_ret | apply RW.nil) | ((with_reducible apply s3); exact rfl; exact by_k) | ((with_reducible apply s2); exact rfl; exact by_k) | ((with_reducible apply s4); exact rfl) | ((with_reducible apply s5); (first | exact by_oa); exact by_g) | ((with_reducible apply CW.cond_t); exact rfl; exact by_ks) | ((with_reducible apply CW.cond_f); exact rfl; exact by_ks) | ((with_reducible apply q_block_miss); exact rfl) | (refine And.intro (show chk [] [] _ _ = true by kernel_rfl) ?_))
              refine Stop.go (CW.stut (stut_freeze_cell (id := 0) (j := 1) (i := 3) rfl (by simp)) ⟨rfl, rfl, trivial⟩ ?_)
              repeat (first | (with_reducible apply stop_region 18) | ((with_reducible apply s1); exact rfl) | (with_reducible first | apply CW.seq | apply CW.block | apply CW.region | apply CW.draw | apply CW.skip | apply CW.exit | apply CW.ret | apply q_then | apply q_then_exit | apply q_then_ret | apply q_block | apply q_block_ret | apply q_block_hit | apply q_ret | apply q_end | apply q_loop_exit | apply q_loop_ret | apply q_loopT_exit | apply q_loopT_ret | apply RW.nil) | ((with_reducible apply s3); exact rfl; exact by_k) | ((with_reducible apply s2); exact rfl; exact by_k) | ((with_reducible apply s4); exact rfl) | ((with_reducible apply s5); (first | exact by_oa); exact by_g) | ((with_reducible apply CW.cond_t); exact rfl; exact by_ks) | ((with_reducible apply CW.cond_f); exact rfl; exact by_ks) | ((with_reducible apply q_block_miss); exact rfl) | (refine And.intro (show chk [] [] _ _ = true by kernel_rfl) ?_))
              refine Stop.go (CW.stut (stut_freeze_cell (id := 0) (j := 2) (i := 4) rfl (by simp)) ⟨rfl, rfl, trivial⟩ ?_)
              repeat (first | (with_reducible apply stop_region 19) | ((with_reducible apply s1); exact rfl) | (with_reducible first | apply CW.seq | apply CW.block | apply CW.region | apply CW.draw | apply CW.skip | apply CW.exit | apply CW.ret | apply q_then | apply q_then_exit | apply q_then_ret | apply q_block | apply q_block_ret | apply q_block_hit | apply q_ret | apply q_end | apply q_loop_exit | apply q_loop_ret | apply q_loopT_exit | apply q_loopT_ret | apply RW.nil) | ((with_reducible apply s3); exact rfl; exact by_k) | ((with_reducible apply s2); exact rfl; exact by_k) | ((with_reducible apply s4); exact rfl) | ((with_reducible apply s5); (first | exact by_oa); exact by_g) | ((with_reducible apply CW.cond_t); exact rfl; exact by_ks) | ((with_reducible apply CW.cond_f); exact rfl; exact by_ks) | ((with_reducible apply q_block_miss); exact rfl) | (refine And.intro (show chk [] [] _ _ = true by kernel_rfl) ?_))
              refine Stop.go (CW.stut (stut_freeze_cell (id := 0) (j := 3) (i := 5) rfl (by simp)) ⟨rfl, rfl, trivial⟩ ?_)
              have hbox : [AV.d (encChains (addKeys (bs + dds.length) chs d.writes)), AV.d (.sl 3 (([] ++ dds.map Deed.enc) ++ [d.enc])), AV.d (.sl 1 (([] ++ sts.map encInt1) ++ [[dint 0]])), AV.d (.sl 5 (([] ++ ens.map Done.enc) ++ [done0.enc])), AV.d (dint bs)]
                  = (add1 ⟨chs, dds, sts, ens, bs⟩ d).enc.map AV.d := by
                simp [Engine.enc, add1, encDeeds, encInts, encEnds, encInt1]
              repeat (first | ((with_reducible apply s1); exact rfl) | (with_reducible first | apply CW.seq | apply CW.block | apply CW.region | apply CW.draw | apply CW.skip | apply CW.exit | apply CW.ret | apply q_then | apply q_then_exit | apply q_then_ret | apply q_block | apply q_block_ret | apply q_block_hit | apply q_ret | apply q_end | apply q_loop_exit | apply q_loop_ret | apply q_loopT_exit | apply q_loopT_ret | apply RW.nil) | ((with_reducible apply s3); exact rfl; exact by_k) | ((with_reducible apply s2); exact rfl; exact by_k) | ((with_reducible apply s4); exact rfl) | ((with_reducible apply s5); (first | exact by_oa); exact by_g) | ((with_reducible apply CW.cond_t); exact rfl; exact by_ks) | ((with_reducible apply CW.cond_f); exact rfl; exact by_ks) | ((with_reducible apply q_block_miss); exact rfl) | (refine And.intro (show chk [] [] _ _ = true by kernel_rfl) ?_))
              refine q_loopT (i + 1, add1 ⟨chs, dds, sts, ens, bs⟩ d) ⟨by dsimp only; omega, by dsimp only; rw [show N + 5 * (i + 1) = N + 5 * i + 5 by omega]; exact hz2, hI⟩ (by dsimp only; omega) ?_
              exact by_less
            · rw [g1] at hJ
              simp only [addKeys] at hJ
              have hlen : ((dds.map Deed.enc).length : Int) = dds.length := by simp
              have ca : FnOk Try.prog 33 [.d (encChains cs), .d (dstr k), .d (dint (bs + ((dds.map Deed.enc).length : Int)))] (.one (encChains (addC cs k (bs + dds.length)))) := by
                rw [hlen]
                exact ok_add cs k _ (by omega) (fun c hc => by have := hcv c hc; omega)
              repeat (first | ((with_reducible apply s1); exact rfl) | (with_reducible first | apply CW.seq | apply CW.block | apply CW.region | apply CW.draw | apply CW.skip | apply CW.exit | apply CW.ret | apply q_then | apply q_then_exit | apply q_then_ret | apply q_block | apply q_block_ret | apply q_block_hit | apply q_ret | apply q_end | apply q_loop_exit | apply q_loop_ret | apply q_loopT_exit | apply q_loopT_ret | apply RW.nil) | ((with_reducible apply s3); exact rfl; exact by_k) | ((with_reducible apply s2); exact rfl; exact by_k) | ((with_reducible apply s4); exact rfl) | ((with_reducible apply s5); (first | (focus ((with_reducible apply a_call); exact ca; exact rfl; (repeat (first | exact SubsE.nil | (apply SubsE.cons; exact rfl; (first | exact .d (.refl _) | exact .d (.nil _) | exact .agg rfl (.refl _) | exact .pd | exact .ptr rfl); (first | exact trivial | exact ⟨rfl, trivial⟩)))); done)) | exact by_oa); exact by_g) | ((with_reducible apply CW.cond_t); exact rfl; exact by_ks) | ((with_reducible apply CW.cond_f); exact rfl; exact by_ks) | ((with_reducible apply q_block_miss); exact rfl) | (refine And.intro (show chk [] [] _ _ = true by kernel_rfl) ?_))
              refine q_loopT (j + 1, addC cs k (bs + dds.length)) ⟨by dsimp only; omega, ⟨by have := addC_len cs k (bs + dds.length); dsimp only; omega, fun c hc => by have := addC_vs hcv c hc; dsimp only; omega⟩, hJ⟩ (by dsimp only; omega) ?_
              exact by_less
    · rw [h1] at hI
      simp only [wrongs] at hI
      have hds := hd d (List.mem_of_getElem? h2)
      have hc := ok_wrongDeed d hds.r hds.w hds.c hds.rk hds.wk
      by_cases h4 : wrongDeed d = 0
      · rw [if_pos h4] at hI
        repeat (first | ((with_reducible apply s1); exact rfl) | (with_reducible first | apply CW.seq | apply CW.block | apply CW.region | apply CW.draw | apply CW.skip | apply CW.exit | apply CW.ret | apply q_then | apply q_then_exit | apply q_then_ret | apply q_block | apply q_block_ret | apply q_block_hit | apply q_ret | apply q_end | apply q_loop_exit | apply q_loop_ret | apply q_loopT_exit | apply q_loopT_ret | apply RW.nil) | ((with_reducible apply s3); exact rfl; exact by_k) | ((with_reducible apply s2); exact rfl; exact by_k) | ((with_reducible apply s4); exact rfl) | ((with_reducible apply s5); (first | (focus ((with_reducible apply a_call); exact hc; exact rfl; (repeat (first | exact SubsE.nil | (apply SubsE.cons; exact rfl; (first | exact .d (.refl _) | exact .d (.nil _) | exact .agg rfl (.refl _) | exact .pd | exact .ptr rfl); (first | exact trivial | exact ⟨rfl, trivial⟩)))); done)) | exact by_oa); exact by_g) | ((with_reducible apply CW.cond_t); exact rfl; exact by_ks) | ((with_reducible apply CW.cond_f); exact rfl; exact by_ks) | ((with_reducible apply q_block_miss); exact rfl) | (refine And.intro (show chk [] [] _ _ = true by kernel_rfl) ?_))
        refine q_loopT (i + 1) ⟨by omega, hI⟩ (by omega) ?_
        exact by_less
      · rw [if_neg h4] at hI
        have hres : addE e l = (noE, wrongs l) := by rw [addE, if_neg (by rw [← hI]; exact h4)]
        rw [hres]
        repeat (first | ((with_reducible apply s1); exact rfl) | (with_reducible first | apply CW.seq | apply CW.block | apply CW.region | apply CW.draw | apply CW.skip | apply CW.exit | apply CW.ret | apply q_then | apply q_then_exit | apply q_then_ret | apply q_block | apply q_block_ret | apply q_block_hit | apply q_ret | apply q_end | apply q_loop_exit | apply q_loop_ret | apply q_loopT_exit | apply q_loopT_ret | apply RW.nil) | ((with_reducible apply s3); exact rfl; exact by_k) | ((with_reducible apply s2); exact rfl; exact by_k) | ((with_reducible apply s4); exact rfl) | ((with_reducible apply s5); (first | (focus ((with_reducible apply a_call); exact hc; exact rfl; (repeat (first | exact SubsE.nil | (apply SubsE.cons; exact rfl; (first | exact .d (.refl _) | exact .d (.nil _) | exact .agg rfl (.refl _) | exact .pd | exact .ptr rfl); (first | exact trivial | exact ⟨rfl, trivial⟩)))); done)) | exact by_oa); exact by_g) | ((with_reducible apply CW.cond_t); exact rfl; exact by_ks) | ((with_reducible apply CW.cond_f); exact rfl; exact by_ks) | ((with_reducible apply q_block_miss); exact rfl) | (refine And.intro (show chk [] [] _ _ = true by kernel_rfl) ?_))
        exact .two (.cell rfl rfl rfl rfl (.aggd (ds := noE.enc0) rfl (DLes.agg (.cons (dle_nil 2) (.cons (dle_nil 3) (.cons (dle_nil 1) (.cons (dle_nil 5) (.cons (.refl _) .nil)))))))) (.tmp rfl (.one (.d (dle_int hI))))

end Go.Proofs.Ytjopijlkpipljaa

/-! F9 -/
/-
  Contract of the references' Set.
-/
namespace Go.Proofs.Ytjopijlkpipljaa
open Go.AX Go.RF

set_option maxRecDepth 100000
set_option maxHeartbeats 4000000

theorem ok_set (l : List Chain) (k : Str) (v : Version) (hl : l.length ≤ 268435456) (hv : ∀ c ∈ l, c.vs.length ≤ 268435456) : FnOk Try.prog 28 [.d (encChains l), .d (dstr k), .d (.agg v.enc)] (.one (encChains (setChains l k v))) := by
  refine fnOk_of tbl_ok mixed_ok Try.func28 rfl (by kernel_rfl) rfl rfl fun w0 own0 => ?_
  repeat (first | ((with_reducible apply s1); exact rfl) | (with_reducible first | apply CW.seq | apply CW.block | apply CW.region | apply CW.draw | apply CW.skip | apply CW.exit | apply CW.ret | apply q_then | apply q_then_exit | apply q_then_ret | apply q_block | apply q_block_ret | apply q_block_hit | apply q_ret | apply q_end | apply q_loop_exit | apply q_loop_ret | apply q_loopT_exit | apply q_loopT_ret | apply RW.nil) | ((with_reducible apply s3); exact rfl; exact by_k) | ((with_reducible apply s2); exact rfl; exact by_k) | ((with_reducible apply s4); exact rfl) | ((with_reducible apply s5); (first | exact by_oa); exact by_g) | ((with_reducible apply CW.cond_t); exact rfl; exact by_ks) | ((with_reducible apply CW.cond_f); exact rfl; exact by_ks) | ((with_reducible apply q_block_miss); exact rfl) | (refine And.intro (show chk [] [] _ _ = true by kernel_rfl) ?_))
  refine CW.stut (stut_promote (i := 7) 72 2) ⟨rfl, rfl, trivial⟩ ?_
  refine CW.loopT (fun t : Nat × List Chain => [(.s 1, .av (.d (dstr k))), (.s 5, .av (.ptr 0 0)), (.o 0, .ob (.box (v.enc.map AV.d))), (.s 7, .av (.own 1 t.2.length)), (.o 1, .ob (.arr 72 2 (t.2.map Chain.enc))), (.s 13, .av (.d (encChains l))), (.s 14, .av (.d (dint l.length))), (.s 15, .av (.d (dint t.1))), (.nx, .num 2)])
    (fun t => t.1 ≤ l.length ∧ t.2.length ≤ t.1 ∧ t.2 ++ (l.drop t.1).map (setC k v) = setChains l k v) (fun t => l.length - t.1) (0, []) ⟨by omega, by simp, rfl⟩ ?_ ?_
  ·
    exact by_less
  · rintro ⟨i, out⟩ ⟨hi, ho, hI⟩
    dsimp only at hi ho hI ⊢
    rcases drop_case hi with ⟨h1, h2⟩ | ⟨c, h1, h2, h3⟩
    · rw [h1, List.map_nil, List.append_nil] at hI
      repeat (first | ((with_reducible apply s1); exact rfl) | (with_reducible first | apply CW.seq | apply CW.block | apply CW.region | apply CW.draw | apply CW.skip | apply CW.exit | apply CW.ret | apply q_then | apply q_then_exit | apply q_then_ret | apply q_block | apply q_block_ret | apply q_block_hit | apply q_ret | apply q_end | apply q_loop_exit | apply q_loop_ret | apply q_loopT_exit | apply q_loopT_ret | apply RW.nil) | ((with_reducible apply s3); exact rfl; exact by_k) | ((with_reducible apply s2); exact rfl; exact by_k) | ((with_reducible apply s4); exact rfl) | ((with_reducible apply s5); (first | exact by_oa); exact by_g) | ((with_reducible apply CW.cond_t); exact rfl; exact by_ks) | ((with_reducible apply CW.cond_f); exact rfl; exact by_ks) | ((with_reducible apply q_block_miss); exact rfl) | (refine And.intro (show chk [] [] _ _ = true by kernel_rfl) ?_))
      rw [← hI]
      exact .one (.tmp rfl (.one (.own rfl (by simp) (.refl _))))
    · rw [h1, List.map_cons] at hI
      have hcv := hv c (List.mem_of_getElem? h2)
      repeat (first | ((with_reducible apply s1); exact rfl) | (with_reducible first | apply CW.seq | apply CW.block | apply CW.region | apply CW.draw | apply CW.skip | apply CW.exit | apply CW.ret | apply q_then | apply q_then_exit | apply q_then_ret | apply q_block | apply q_block_ret | apply q_block_hit | apply q_ret | apply q_end | apply q_loop_exit | apply q_loop_ret | apply q_loopT_exit | apply q_loopT_ret | apply RW.nil) | ((with_reducible apply s3); exact rfl; exact by_k) | ((with_reducible apply s2); exact rfl; exact by_k) | ((with_reducible apply s4); exact rfl) | ((with_reducible apply s5); (first | exact by_oa); exact by_g) | ((with_reducible apply CW.cond_t); exact rfl; exact by_ks) | ((with_reducible apply CW.cond_f); exact rfl; exact by_ks) | ((with_reducible apply q_block_miss); exact rfl) | (refine And.intro (show chk [] [] _ _ = true by kernel_rfl) ?_))
      refine CW.stut (stut_promote_cell (id := 3) (j := 1) 48 4 rfl) ⟨rfl, rfl, trivial⟩ ?_
      refine CW.loopT (fun t : Nat × List Version => [(.s 1, .av (.d (dstr k))), (.s 5, .av (.ptr 0 0)), (.o 0, .ob (.box (v.enc.map AV.d))), (.s 7, .av (.own 1 out.length)), (.o 1, .ob (.arr 72 2 (out.map Chain.enc))), (.s 13, .av (.d (encChains l))), (.s 14, .av (.d (dint l.length))), (.s 15, .av (.d (dint i))),
          (.s 9, .av (.ptr 2 0)), (.o 2, .ob (.box (c.enc.map AV.d))), (.s 10, .av (.ptr 3 0)), (.o 3, .ob (.box [.d (dstr c.key), .own 4 t.2.length])), (.o 4, .ob (.arr 48 4 (t.2.map Version.enc))),
          (.s 23, .av (.d (encVs c.vs))), (.s 24, .av (.d (dint c.vs.length))), (.s 25, .av (.d (dint t.1))), (.nx, .num 5)])
        (fun t => t.1 ≤ c.vs.length ∧ t.2.length ≤ t.1 ∧ t.2 ++ (c.vs.drop t.1).map (setV (decide (c.key = k)) v) = c.vs.map (setV (decide (c.key = k)) v)) (fun t => c.vs.length - t.1) (0, []) ⟨by omega, by simp, rfl⟩ ?_ ?_
      ·
        exact by_less
      · rintro ⟨j, vs⟩ ⟨hj, hvs, hJ⟩
        dsimp only at hj hvs hJ ⊢
        rcases drop_case hj with ⟨h5, h6⟩ | ⟨x, h5, h6, h7⟩
        · rw [h5, List.map_nil, List.append_nil] at hJ
          repeat (first | (with_reducible apply stop_region 13) | ((with_reducible apply s1); exact rfl) | (with_reducible first | apply CW.seq | apply CW.block | apply CW.region | apply CW.draw | apply CW.skip | apply CW.exit | apply CW.ret | apply q_then | apply q_then_exit | apply q_then_ret | apply q_block | apply q_block_ret | apply q_block_hit | apply q_ret | apply q_end | apply q_loop_exit | apply q_loop_ret | apply q_loopT_exit | apply q_loopT_ret | apply RW.nil) | ((with_reducible apply s3); exact rfl; exact by_k) | ((with_reducible apply s2); exact rfl; exact by_k) | ((with_reducible apply s4); exact rfl) | ((with_reducible apply s5); (first | exact by_oa); exact by_g) | ((with_reducible apply CW.cond_t); exact rfl; exact by_ks) | ((with_reducible apply CW.cond_f); exact rfl; exact by_ks) | ((with_reducible apply q_block_miss); exact rfl) | (refine And.intro (show chk [] [] _ _ = true by kernel_rfl) ?_))
          refine Stop.go (CW.stut (stut_freeze_cell (id := 3) (j := 1) (i := 4) rfl (by simp)) ⟨rfl, rfl, trivial⟩ ?_)
          repeat (first | ((with_reducible apply s1); exact rfl) | (with_reducible first | apply CW.seq | apply CW.block | apply CW.region | apply CW.draw | apply CW.skip | apply CW.exit | apply CW.ret | apply q_then | apply q_then_exit | apply q_then_ret | apply q_block | apply q_block_ret | apply q_block_hit | apply q_ret | apply q_end | apply q_loop_exit | apply q_loop_ret | apply q_loopT_exit | apply q_loopT_ret | apply RW.nil) | ((with_reducible apply s3); exact rfl; exact by_k) | ((with_reducible apply s2); exact rfl; exact by_k) | ((with_reducible apply s4); exact rfl) | ((with_reducible apply s5); (first | exact by_oa); exact by_g) | ((with_reducible apply CW.cond_t); exact rfl; exact by_ks) | ((with_reducible apply CW.cond_f); exact rfl; exact by_ks) | ((with_reducible apply q_block_miss); exact rfl) | (refine And.intro (show chk [] [] _ _ = true by kernel_rfl) ?_))
          refine q_loopT (i + 1, out ++ [setC k v c]) ⟨by dsimp only; omega, by dsimp only; simp; omega, by rw [← hI]; simp⟩ (by dsimp only; omega) ?_
          rw [show setC k v c = ⟨c.key, vs⟩ by rw [setC, hJ]]
          exact by_less
        · rw [h5, List.map_cons] at hJ
          by_cases h8 : c.key = k
          · by_cases h9 : x.by_ = v.by_
            · rw [setV, if_pos ⟨by simp [h8], h9⟩] at hJ
              repeat (first | ((with_reducible apply s1); exact rfl) | (with_reducible first | apply CW.seq | apply CW.block | apply CW.region | apply CW.draw | apply CW.skip | apply CW.exit | apply CW.ret | apply q_then | apply q_then_exit | apply q_then_ret | apply q_block | apply q_block_ret | apply q_block_hit | apply q_ret | apply q_end | apply q_loop_exit | apply q_loop_ret | apply q_loopT_exit | apply q_loopT_ret | apply RW.nil) | ((with_reducible apply s3); exact rfl; exact by_k) | ((with_reducible apply s2); exact rfl; exact by_k) | ((with_reducible apply s4); exact rfl) | ((with_reducible apply s5); (first | exact by_oa); exact by_g) | ((with_reducible apply CW.cond_t); exact rfl; exact by_ks) | ((with_reducible apply CW.cond_f); exact rfl; exact by_ks) | ((with_reducible apply q_block_miss); exact rfl) | (refine And.intro (show chk [] [] _ _ = true by kernel_rfl) ?_))
              refine q_loopT (j + 1, vs ++ [v]) ⟨by dsimp only; omega, by dsimp only; simp; omega, by rw [← hJ]; simp⟩ (by dsimp only; omega) ?_
              exact by_less
            · rw [setV, if_neg (fun h => h9 h.2)] at hJ
              repeat (first | ((with_reducible apply s1); exact rfl) | (with_reducible first | apply CW.seq | apply CW.block | apply CW.region | apply CW.draw | apply CW.skip | apply CW.exit | apply CW.ret | apply q_then | apply q_then_exit | apply q_then_ret | apply q_block | apply q_block_ret | apply q_block_hit | apply q_ret | apply q_end | apply q_loop_exit | apply q_loop_ret | apply q_loopT_exit | apply q_loopT_ret | apply RW.nil) | ((with_reducible apply s3); exact rfl; exact by_k) | ((with_reducible apply s2); exact rfl; exact by_k) | ((with_reducible apply s4); exact rfl) | ((with_reducible apply s5); (first | exact by_oa); exact by_g) | ((with_reducible apply CW.cond_t); exact rfl; exact by_ks) | ((with_reducible apply CW.cond_f); exact rfl; exact by_ks) | ((with_reducible apply q_block_miss); exact rfl) | (refine And.intro (show chk [] [] _ _ = true by kernel_rfl) ?_))
              refine q_loopT (j + 1, vs ++ [x]) ⟨by dsimp only; omega, by dsimp only; simp; omega, by rw [← hJ]; simp⟩ (by dsimp only; omega) ?_
              exact by_less
          · rw [setV, if_neg (fun h => h8 (by simpa using h.1))] at hJ
            repeat (first | ((with_reducible apply s1); exact rfl) | (with_reducible first | apply CW.seq | apply CW.block | apply CW.region | apply CW.draw | apply CW.skip | apply CW.exit | apply CW.ret | apply q_then | apply q_then_exit | apply q_then_ret | apply q_block | apply q_block_ret | apply q_block_hit | apply q_ret | apply q_end | apply q_loop_exit | apply q_loop_ret | apply q_loopT_exit | apply q_loopT_ret | apply RW.nil) | ((with_reducible apply s3); exact rfl; exact by_k) | ((with_reducible apply s2); exact rfl; exact by_k) | ((with_reducible apply s4); exact rfl) | ((with_reducible apply s5); (first | exact by_oa); exact by_g) | ((with_reducible apply CW.cond_t); exact rfl; exact by_ks) | ((with_reducible apply CW.cond_f); exact rfl; exact by_ks) | ((with_reducible apply q_block_miss); exact rfl) | (refine And.intro (show chk [] [] _ _ = true by kernel_rfl) ?_))
            refine q_loopT (j + 1, vs ++ [x]) ⟨by dsimp only; omega, by dsimp only; simp; omega, by rw [← hJ]; simp⟩ (by dsimp only; omega) ?_
            exact by_less

end Go.Proofs.Ytjopijlkpipljaa

/-! F15 -/
/-
  Contracts of the references' Keys, Needs, Ready.
-/
namespace Go.Proofs.Ytjopijlkpipljaa
open Go.AX Go.RF

set_option maxRecDepth 100000
set_option maxHeartbeats 4000000

def orIn (h : Bool) (l : List Str) (s : Str) : Bool := match l with
  | [] => h
  | x :: l => orIn (h || decide (x = s)) l s
theorem orIn_eq : ∀ {l : List Str} {h : Bool} {s : Str}, orIn h l s = (h || isIn l s)
  | [], h, s => by simp [orIn, isIn]
  | x :: l, h, s => by
    simp only [orIn, orIn_eq (l := l), isIn]
    by_cases e : x = s <;> simp [e]

theorem ok_keys (d : Deed) (h1 : d.reads.length ≤ 268435456) (h2 : d.writes.length ≤ 268435456) : FnOk Try.prog 23 [.d (.agg d.enc)] (.one (encStrs (keysD d))) := by
  refine fnOk_of tbl_ok mixed_ok Try.func23 rfl (by kernel_rfl) rfl rfl fun w0 own0 => ?_
  have hsum : (d.reads ++ d.writes).length ≤ 536870912 := by simp; omega
  repeat (first | ((with_reducible apply s1); exact rfl) | (with_reducible first | apply CW.seq | apply CW.block | apply CW.region | apply CW.draw | apply CW.skip | apply CW.exit | apply CW.ret | apply q_then | apply q_then_exit | apply q_then_ret | apply q_block | apply q_block_ret | apply q_block_hit | apply q_ret | apply q_end | apply q_loop_exit | apply q_loop_ret | apply q_loopT_exit | apply q_loopT_ret | apply RW.nil) | ((with_reducible apply s3); exact rfl; exact by_k) | ((with_reducible apply s2); exact rfl; exact by_k) | ((with_reducible apply s4); exact rfl) | ((with_reducible apply s5); (first | exact by_oa); exact by_g) | ((with_reducible apply CW.cond_t); exact rfl; exact by_ks) | ((with_reducible apply CW.cond_f); exact rfl; exact by_ks) | ((with_reducible apply q_block_miss); exact rfl) | (refine And.intro (show chk [] [] _ _ = true by kernel_rfl) ?_))
  refine CW.stut (stut_freeze (i := 15) (id := 1) (n := (0 + (d.reads.map encStr1).length) + (d.writes.map encStr1).length) (e := 9) (k := 1) (rows := ([] ++ d.reads.map encStr1) ++ d.writes.map encStr1) (by simp)) ⟨rfl, rfl, trivial⟩ ?_
  refine CW.stut (stut_promote (i := 3) 9 1) ⟨rfl, rfl, trivial⟩ ?_
  refine CW.loopT (fun t : Nat × List Str => [sd 15 (encStrs (d.reads ++ d.writes)), sd 16 (dint (d.reads ++ d.writes).length), sd 17 (dint t.1), so 3 2 t.2.length, oa 2 9 1 (t.2.map encStr1), nxt 3])
    (fun t => t.1 ≤ (d.reads ++ d.writes).length ∧ t.2.length ≤ t.1 ∧ keysGo' t.2 ((d.reads ++ d.writes).drop t.1) = keysD d) (fun t => (d.reads ++ d.writes).length - t.1) (0, []) ⟨by omega, by simp, rfl⟩ ?_ ?_
  · have e1 : ([] ++ d.reads.map encStr1) ++ d.writes.map encStr1 = (d.reads ++ d.writes).map encStr1 := by simp
    exact by_less
  · generalize d.reads ++ d.writes = l at hsum
    rintro ⟨i, out⟩ ⟨hi, ho, hI⟩
    dsimp only at hi ho hI ⊢
    rcases drop_case hi with ⟨e1, e2⟩ | ⟨k, e1, e2, e3⟩
    · rw [e1] at hI
      simp only [keysGo'] at hI
      repeat (first | ((with_reducible apply s1); exact rfl) | (with_reducible first | apply CW.seq | apply CW.block | apply CW.region | apply CW.draw | apply CW.skip | apply CW.exit | apply CW.ret | apply q_then | apply q_then_exit | apply q_then_ret | apply q_block | apply q_block_ret | apply q_block_hit | apply q_ret | apply q_end | apply q_loop_exit | apply q_loop_ret | apply q_loopT_exit | apply q_loopT_ret | apply RW.nil) | ((with_reducible apply s3); exact rfl; exact by_k) | ((with_reducible apply s2); exact rfl; exact by_k) | ((with_reducible apply s4); exact rfl) | ((with_reducible apply s5); (first | exact by_oa); exact by_g) | ((with_reducible apply CW.cond_t); exact rfl; exact by_ks) | ((with_reducible apply CW.cond_f); exact rfl; exact by_ks) | ((with_reducible apply q_block_miss); exact rfl) | (refine And.intro (show chk [] [] _ _ = true by kernel_rfl) ?_))
      exact .one (.tmp rfl (.one (.own rfl (by simp) (dle_eq (by rw [← hI]; rfl)))))
    · rw [e1] at hI
      simp only [keysGo'] at hI
      repeat (first | ((with_reducible apply s1); exact rfl) | (with_reducible first | apply CW.seq | apply CW.block | apply CW.region | apply CW.draw | apply CW.skip | apply CW.exit | apply CW.ret | apply q_then | apply q_then_exit | apply q_then_ret | apply q_block | apply q_block_ret | apply q_block_hit | apply q_ret | apply q_end | apply q_loop_exit | apply q_loop_ret | apply q_loopT_exit | apply q_loopT_ret | apply RW.nil) | ((with_reducible apply s3); exact rfl; exact by_k) | ((with_reducible apply s2); exact rfl; exact by_k) | ((with_reducible apply s4); exact rfl) | ((with_reducible apply s5); (first | exact by_oa); exact by_g) | ((with_reducible apply CW.cond_t); exact rfl; exact by_ks) | ((with_reducible apply CW.cond_f); exact rfl; exact by_ks) | ((with_reducible apply q_block_miss); exact rfl) | (refine And.intro (show chk [] [] _ _ = true by kernel_rfl) ?_))
      refine CW.loopT (fun t : Nat × Bool => [sd 15 (encStrs l), sd 16 (dint l.length), sd 17 (dint i), so 3 2 out.length, oa 2 9 1 (out.map encStr1), sd 5 (dstr k), sd 6 (dbool t.2), so 21 2 out.length, sd 22 (dint out.length), sd 23 (dint t.1), nxt 3])
        (fun t => t.1 ≤ out.length ∧ orIn t.2 (out.drop t.1) k = isIn out k) (fun t => out.length - t.1) (0, false) ⟨by omega, by rw [orIn_eq]; simp⟩ ?_ ?_
      ·
        exact by_less
      · rintro ⟨j, h⟩ ⟨hj, hJ⟩
        dsimp only at hj hJ ⊢
        rcases drop_case hj with ⟨g1, g2⟩ | ⟨x, g1, g2, g3⟩
        · rw [g1] at hJ
          simp only [orIn] at hJ
          rw [← hJ] at hI
          cases h
          · rw [if_neg (by simp)] at hI
            repeat (first | ((with_reducible apply s1); exact rfl) | (with_reducible first | apply CW.seq | apply CW.block | apply CW.region | apply CW.draw | apply CW.skip | apply CW.exit | apply CW.ret | apply q_then | apply q_then_exit | apply q_then_ret | apply q_block | apply q_block_ret | apply q_block_hit | apply q_ret | apply q_end | apply q_loop_exit | apply q_loop_ret | apply q_loopT_exit | apply q_loopT_ret | apply RW.nil) | ((with_reducible apply s3); exact rfl; exact by_k) | ((with_reducible apply s2); exact rfl; exact by_k) | ((with_reducible apply s4); exact rfl) | ((with_reducible apply s5); (first | exact by_oa); exact by_g) | ((with_reducible apply CW.cond_t); exact rfl; exact by_ks) | ((with_reducible apply CW.cond_f); exact rfl; exact by_ks) | ((with_reducible apply q_block_miss); exact rfl) | (refine And.intro (show chk [] [] _ _ = true by kernel_rfl) ?_))
            refine q_loopT (i + 1, out ++ [k]) ⟨by dsimp only; omega, by dsimp only; simp; omega, hI⟩ (by dsimp only; omega) ?_
            exact by_less
          · rw [if_pos rfl] at hI
            repeat (first | ((with_reducible apply s1); exact rfl) | (with_reducible first | apply CW.seq | apply CW.block | apply CW.region | apply CW.draw | apply CW.skip | apply CW.exit | apply CW.ret | apply q_then | apply q_then_exit | apply q_then_ret | apply q_block | apply q_block_ret | apply q_block_hit | apply q_ret | apply q_end | apply q_loop_exit | apply q_loop_ret | apply q_loopT_exit | apply q_loopT_ret | apply RW.nil) | ((with_reducible apply s3); exact rfl; exact by_k) | ((with_reducible apply s2); exact rfl; exact by_k) | ((with_reducible apply s4); exact rfl) | ((with_reducible apply s5); (first | exact by_oa); exact by_g) | ((with_reducible apply CW.cond_t); exact rfl; exact by_ks) | ((with_reducible apply CW.cond_f); exact rfl; exact by_ks) | ((with_reducible apply q_block_miss); exact rfl) | (refine And.intro (show chk [] [] _ _ = true by kernel_rfl) ?_))
            refine q_loopT (i + 1, out) ⟨by dsimp only; omega, by dsimp only; omega, hI⟩ (by dsimp only; omega) ?_
            exact by_less
        · rw [g1] at hJ
          simp only [orIn] at hJ
          cases h
          · rw [Bool.false_or] at hJ
            repeat (first | ((with_reducible apply s1); exact rfl) | (with_reducible first | apply CW.seq | apply CW.block | apply CW.region | apply CW.draw | apply CW.skip | apply CW.exit | apply CW.ret | apply q_then | apply q_then_exit | apply q_then_ret | apply q_block | apply q_block_ret | apply q_block_hit | apply q_ret | apply q_end | apply q_loop_exit | apply q_loop_ret | apply q_loopT_exit | apply q_loopT_ret | apply RW.nil) | ((with_reducible apply s3); exact rfl; exact by_k) | ((with_reducible apply s2); exact rfl; exact by_k) | ((with_reducible apply s4); exact rfl) | ((with_reducible apply s5); (first | exact by_oa); exact by_g) | ((with_reducible apply CW.cond_t); exact rfl; exact by_ks) | ((with_reducible apply CW.cond_f); exact rfl; exact by_ks) | ((with_reducible apply q_block_miss); exact rfl) | (refine And.intro (show chk [] [] _ _ = true by kernel_rfl) ?_))
            refine q_loopT (j + 1, decide (x = k)) ⟨by dsimp only; omega, hJ⟩ (by dsimp only; omega) ?_
            exact by_less
          · rw [Bool.true_or] at hJ
            repeat (first | ((with_reducible apply s1); exact rfl) | (with_reducible first | apply CW.seq | apply CW.block | apply CW.region | apply CW.draw | apply CW.skip | apply CW.exit | apply CW.ret | apply q_then | apply q_then_exit | apply q_then_ret | apply q_block | apply q_block_ret | apply q_block_hit | apply q_ret | apply q_end | apply q_loop_exit | apply q_loop_ret | apply q_loopT_exit | apply q_loopT_ret | apply RW.nil) | ((with_reducible apply s3); exact rfl; exact by_k) | ((with_reducible apply s2); exact rfl; exact by_k) | ((with_reducible apply s4); exact rfl) | ((with_reducible apply s5); (first | exact by_oa); exact by_g) | ((with_reducible apply CW.cond_t); exact rfl; exact by_ks) | ((with_reducible apply CW.cond_f); exact rfl; exact by_ks) | ((with_reducible apply q_block_miss); exact rfl) | (refine And.intro (show chk [] [] _ _ = true by kernel_rfl) ?_))
            refine q_loopT (j + 1, true) ⟨by dsimp only; omega, hJ⟩ (by dsimp only; omega) ?_
            exact by_less

theorem keysGo_len : ∀ (l out : List Str), (keysGo' out l).length ≤ out.length + l.length
  | [], out => by simp [keysGo']
  | k :: r, out => by
    have := keysGo_len r (if isIn out k = true then out else out ++ [k])
    simp only [keysGo']
    split at this <;> simp_all <;> omega
theorem keysD_len {d : Deed} (h : d.Sm) : (keysD d).length ≤ 536870912 := by
  have := keysGo_len (d.reads ++ d.writes) []
  have h1 := h.r
  have h2 := h.w
  simp at this
  unfold keysD
  omega

theorem ok_needs (e : Engine) (at_ : Nat) (d : Deed) (hs : e.Sm) (hd : e.deeds[at_]? = some d) : FnOk Try.prog 22 [.d (.agg e.enc), .d (dint at_)] (.one (encInts (needs e at_ d))) := by
  refine fnOk_of tbl_ok mixed_ok Try.func22 rfl (by kernel_rfl) rfl rfl fun w0 own0 => ?_
  have hdl : at_ < e.deeds.length := (List.getElem?_eq_some_iff.1 hd).1
  have hd1 := hs.d
  have hb := hs.b
  have hdd := hs.dd d (List.mem_of_getElem? hd)
  have ck := ok_keys d hdd.r hdd.w
  have hkl := keysD_len hdd
  have cb := fun k => ok_before e.chains k (e.base + at_) (by have := hs.c; omega) (fun c h => by have := hs.v c h; omega)
  repeat (first | ((with_reducible apply s1); exact rfl) | (with_reducible first | apply CW.seq | apply CW.block | apply CW.region | apply CW.draw | apply CW.skip | apply CW.exit | apply CW.ret | apply q_then | apply q_then_exit | apply q_then_ret | apply q_block | apply q_block_ret | apply q_block_hit | apply q_ret | apply q_end | apply q_loop_exit | apply q_loop_ret | apply q_loopT_exit | apply q_loopT_ret | apply RW.nil) | ((with_reducible apply s3); exact rfl; exact by_k) | ((with_reducible apply s2); exact rfl; exact by_k) | ((with_reducible apply s4); exact rfl) | ((with_reducible apply s5); (first | exact by_oa); exact by_g) | ((with_reducible apply CW.cond_t); exact rfl; exact by_ks) | ((with_reducible apply CW.cond_f); exact rfl; exact by_ks) | ((with_reducible apply q_block_miss); exact rfl) | (refine And.intro (show chk [] [] _ _ = true by kernel_rfl) ?_))
  refine CW.stut (stut_promote (i := 5) 3 1) ⟨rfl, rfl, trivial⟩ ?_
  refine CW.loopT (fun t : Nat × List Int => [sd 1 (dint at_), sp 2 0, ob 0 e.enc, sd 10 (dint at_), sd 11 (dint t.1), so 5 1 t.2.length, oa 1 3 1 (t.2.map encInt1), nxt 2])
    (fun t => t.1 ≤ (List.range at_).length ∧ t.2.length ≤ t.1 ∧ t.2 ++ needsGo e.chains e.base (e.base + at_) (keysD d) 0 ((List.range at_).drop t.1) = needs e at_ d) (fun t => (List.range at_).length - t.1) (0, []) ⟨by omega, by simp, rfl⟩ ?_ ?_
  ·
    exact by_less
  · rintro ⟨i, out⟩ ⟨hi, ho, hI⟩
    dsimp only at hi ho hI ⊢
    have hlr : (List.range at_).length = at_ := by simp
    rcases drop_case hi with ⟨h1, h2⟩ | ⟨i', h1, h2, h3⟩
    · rw [h1] at hI
      simp only [needsGo, List.append_nil] at hI
      rw [hlr] at h2
      repeat (first | ((with_reducible apply s1); exact rfl) | (with_reducible first | apply CW.seq | apply CW.block | apply CW.region | apply CW.draw | apply CW.skip | apply CW.exit | apply CW.ret | apply q_then | apply q_then_exit | apply q_then_ret | apply q_block | apply q_block_ret | apply q_block_hit | apply q_ret | apply q_end | apply q_loop_exit | apply q_loop_ret | apply q_loopT_exit | apply q_loopT_ret | apply RW.nil) | ((with_reducible apply s3); exact rfl; exact by_k) | ((with_reducible apply s2); exact rfl; exact by_k) | ((with_reducible apply s4); exact rfl) | ((with_reducible apply s5); (first | exact by_oa); exact by_g) | ((with_reducible apply CW.cond_t); exact rfl; exact by_ks) | ((with_reducible apply CW.cond_f); exact rfl; exact by_ks) | ((with_reducible apply q_block_miss); exact rfl) | (refine And.intro (show chk [] [] _ _ = true by kernel_rfl) ?_))
      exact .one (.tmp rfl (.one (.own rfl (by simp) (dle_eq (by rw [← hI]; rfl)))))
    · obtain rfl : i' = i := by
        rw [List.getElem?_range (by omega)] at h2
        simpa using h2.symm
      rw [h1] at hI
      simp only [needsGo] at hI
      rw [hlr] at h3
      repeat (first | ((with_reducible apply s1); exact rfl) | (with_reducible first | apply CW.seq | apply CW.block | apply CW.region | apply CW.draw | apply CW.skip | apply CW.exit | apply CW.ret | apply q_then | apply q_then_exit | apply q_then_ret | apply q_block | apply q_block_ret | apply q_block_hit | apply q_ret | apply q_end | apply q_loop_exit | apply q_loop_ret | apply q_loopT_exit | apply q_loopT_ret | apply RW.nil) | ((with_reducible apply s3); exact rfl; exact by_k) | ((with_reducible apply s2); exact rfl; exact by_k) | ((with_reducible apply s4); exact rfl) | ((with_reducible apply s5); (first | (focus ((with_reducible apply a_call); exact ck; exact rfl; (repeat (first | exact SubsE.nil | (apply SubsE.cons; exact rfl; (first | exact .d (.refl _) | exact .d (.nil _) | exact .agg rfl (.refl _) | exact .pd | exact .ptr rfl); (first | exact trivial | exact ⟨rfl, trivial⟩)))); done)) | exact by_oa); exact by_g) | ((with_reducible apply CW.cond_t); exact rfl; exact by_ks) | ((with_reducible apply CW.cond_f); exact rfl; exact by_ks) | ((with_reducible apply q_block_miss); exact rfl) | (refine And.intro (show chk [] [] _ _ = true by kernel_rfl) ?_))
      refine CW.loopT (fun j : Nat => [sd 1 (dint at_), sp 2 0, ob 0 e.enc, sd 10 (dint at_), sd 11 (dint i'), so 5 1 out.length, oa 1 3 1 (out.map encInt1), sd 6 (dint i'), sd 19 (encStrs (keysD d)), sd 20 (dint (keysD d).length), sd 21 (dint j), nxt 2])
        (fun j => j ≤ (keysD d).length ∧ anyHit e.chains (e.base + at_) (e.base + i') ((keysD d).drop j) = anyHit e.chains (e.base + at_) (e.base + i') (keysD d)) (fun j => (keysD d).length - j) 0 ⟨by omega, rfl⟩ ?_ ?_
      ·
        exact by_less
      · rintro j ⟨hj, hJ⟩
        rcases drop_case hj with ⟨g1, g2⟩ | ⟨k, g1, g2, g3⟩
        · rw [g1] at hJ
          simp only [anyHit] at hJ
          rw [if_neg (by rw [← hJ]; simp)] at hI
          repeat (first | ((with_reducible apply s1); exact rfl) | (with_reducible first | apply CW.seq | apply CW.block | apply CW.region | apply CW.draw | apply CW.skip | apply CW.exit | apply CW.ret | apply q_then | apply q_then_exit | apply q_then_ret | apply q_block | apply q_block_ret | apply q_block_hit | apply q_ret | apply q_end | apply q_loop_exit | apply q_loop_ret | apply q_loopT_exit | apply q_loopT_ret | apply RW.nil) | ((with_reducible apply s3); exact rfl; exact by_k) | ((with_reducible apply s2); exact rfl; exact by_k) | ((with_reducible apply s4); exact rfl) | ((with_reducible apply s5); (first | exact by_oa); exact by_g) | ((with_reducible apply CW.cond_t); exact rfl; exact by_ks) | ((with_reducible apply CW.cond_f); exact rfl; exact by_ks) | ((with_reducible apply q_block_miss); exact rfl) | (refine And.intro (show chk [] [] _ _ = true by kernel_rfl) ?_))
          refine q_loopT (i' + 1, out) ⟨by dsimp only; omega, by dsimp only; omega, hI⟩ (by dsimp only; omega) ?_
          exact by_less
        · rw [g1] at hJ
          simp only [anyHit] at hJ
          have cbk := cb k
          obtain ⟨⟨vb, vm, vh, vn⟩, hv⟩ : ∃ v, before e.chains k (e.base + at_) = v := ⟨_, rfl⟩
          rw [hv] at cbk
          rw [show hit e.chains (e.base + at_) (e.base + i') k = (!vm && decide (vb = e.base + i')) by rw [hit, hv]] at hJ
          cases vm
          · by_cases g4 : vb = e.base + i'
            · rw [if_pos (by simp [g4])] at hJ
              rw [if_pos hJ.symm] at hI
              repeat (first | ((with_reducible apply s1); exact rfl) | (with_reducible first | apply CW.seq | apply CW.block | apply CW.region | apply CW.draw | apply CW.skip | apply CW.exit | apply CW.ret | apply q_then | apply q_then_exit | apply q_then_ret | apply q_block | apply q_block_ret | apply q_block_hit | apply q_ret | apply q_end | apply q_loop_exit | apply q_loop_ret | apply q_loopT_exit | apply q_loopT_ret | apply RW.nil) | ((with_reducible apply s3); exact rfl; exact by_k) | ((with_reducible apply s2); exact rfl; exact by_k) | ((with_reducible apply s4); exact rfl) | ((with_reducible apply s5); (first | (focus ((with_reducible apply a_call); exact cbk; exact rfl; (repeat (first | exact SubsE.nil | (apply SubsE.cons; exact rfl; (first | exact .d (.refl _) | exact .d (.nil _) | exact .agg rfl (.refl _) | exact .pd | exact .ptr rfl); (first | exact trivial | exact ⟨rfl, trivial⟩)))); done)) | exact by_oa); exact by_g) | ((with_reducible apply CW.cond_t); exact rfl; exact by_ks) | ((with_reducible apply CW.cond_f); exact rfl; exact by_ks) | ((with_reducible apply q_block_miss); exact rfl) | (refine And.intro (show chk [] [] _ _ = true by kernel_rfl) ?_))
              refine q_loopT (i' + 1, out ++ [(i' : Int)]) ⟨by dsimp only; omega, by dsimp only; simp; omega, by rw [← hI]; simp⟩ (by dsimp only; omega) ?_
              exact by_less
            · rw [if_neg (by simp [g4])] at hJ
              repeat (first | ((with_reducible apply s1); exact rfl) | (with_reducible first | apply CW.seq | apply CW.block | apply CW.region | apply CW.draw | apply CW.skip | apply CW.exit | apply CW.ret | apply q_then | apply q_then_exit | apply q_then_ret | apply q_block | apply q_block_ret | apply q_block_hit | apply q_ret | apply q_end | apply q_loop_exit | apply q_loop_ret | apply q_loopT_exit | apply q_loopT_ret | apply RW.nil) | ((with_reducible apply s3); exact rfl; exact by_k) | ((with_reducible apply s2); exact rfl; exact by_k) | ((with_reducible apply s4); exact rfl) | ((with_reducible apply s5); (first | (focus ((with_reducible apply a_call); exact cbk; exact rfl; (repeat (first | exact SubsE.nil | (apply SubsE.cons; exact rfl; (first | exact .d (.refl _) | exact .d (.nil _) | exact .agg rfl (.refl _) | exact .pd | exact .ptr rfl); (first | exact trivial | exact ⟨rfl, trivial⟩)))); done)) | exact by_oa); exact by_g) | ((with_reducible apply CW.cond_t); exact rfl; exact by_ks) | ((with_reducible apply CW.cond_f); exact rfl; exact by_ks) | ((with_reducible apply q_block_miss); exact rfl) | (refine And.intro (show chk [] [] _ _ = true by kernel_rfl) ?_))
              refine q_loopT (j + 1) ⟨by omega, hJ⟩ (by omega) ?_
              exact by_less
          · rw [if_neg (by simp)] at hJ
            repeat (first | ((with_reducible apply s1); exact rfl) | (with_reducible first | apply CW.seq | apply CW.block | apply CW.region | apply CW.draw | apply CW.skip | apply CW.exit | apply CW.ret | apply q_then | apply q_then_exit | apply q_then_ret | apply q_block | apply q_block_ret | apply q_block_hit | apply q_ret | apply q_end | apply q_loop_exit | apply q_loop_ret | apply q_loopT_exit | apply q_loopT_ret | apply RW.nil) | ((with_reducible apply s3); exact rfl; exact by_k) | ((with_reducible apply s2); exact rfl; exact by_k) | ((with_reducible apply s4); exact rfl) | ((with_reducible apply s5); (first | (focus ((with_reducible apply a_call); exact cbk; exact rfl; (repeat (first | exact SubsE.nil | (apply SubsE.cons; exact rfl; (first | exact .d (.refl _) | exact .d (.nil _) | exact .agg rfl (.refl _) | exact .pd | exact .ptr rfl); (first | exact trivial | exact ⟨rfl, trivial⟩)))); done)) | exact by_oa); exact by_g) | ((with_reducible apply CW.cond_t); exact rfl; exact by_ks) | ((with_reducible apply CW.cond_f); exact rfl; exact by_ks) | ((with_reducible apply q_block_miss); exact rfl) | (refine And.intro (show chk [] [] _ _ = true by kernel_rfl) ?_))
            refine q_loopT (j + 1) ⟨by omega, hJ⟩ (by omega) ?_
            exact by_less

def needsAt (e : Engine) (at_ : Nat) : List Int := match e.deeds[at_]? with
  | some d => needs e at_ d
  | none => []
def readyGo (e : Engine) : Nat → List Int → List Int
  | _, [] => []
  | i, s :: r => if s = 0 ∧ needsAt e i = [] then (i : Int) :: readyGo e (i + 1) r else readyGo e (i + 1) r
def ready (e : Engine) : List Int := readyGo e 0 e.state

theorem needs_len (cs : List Chain) (base b : Int) (ks : List Str) : ∀ (l : List Nat) (j : Nat), (needsGo cs base b ks j l).length ≤ l.length
  | [], _ => by simp [needsGo]
  | k :: r, j => by
    have := needs_len cs base b ks r 0
    simp only [needsGo]
    split <;> simp <;> omega

theorem ok_ready (e : Engine) (hs : e.Sm) (hl : e.state.length = e.deeds.length) : FnOk Try.prog 10 [.d (.agg e.enc)] (.one (encInts (ready e))) := by
  refine fnOk_of tbl_ok mixed_ok Try.func10 rfl (by kernel_rfl) rfl rfl fun w0 own0 => ?_
  have hd1 := hs.d
  repeat (first | ((with_reducible apply s1); exact rfl) | (with_reducible first | apply CW.seq | apply CW.block | apply CW.region | apply CW.draw | apply CW.skip | apply CW.exit | apply CW.ret | apply q_then | apply q_then_exit | apply q_then_ret | apply q_block | apply q_block_ret | apply q_block_hit | apply q_ret | apply q_end | apply q_loop_exit | apply q_loop_ret | apply q_loopT_exit | apply q_loopT_ret | apply RW.nil) | ((with_reducible apply s3); exact rfl; exact by_k) | ((with_reducible apply s2); exact rfl; exact by_k) | ((with_reducible apply s4); exact rfl) | ((with_reducible apply s5); (first | exact by_oa); exact by_g) | ((with_reducible apply CW.cond_t); exact rfl; exact by_ks) | ((with_reducible apply CW.cond_f); exact rfl; exact by_ks) | ((with_reducible apply q_block_miss); exact rfl) | (refine And.intro (show chk [] [] _ _ = true by kernel_rfl) ?_))
  refine CW.stut (stut_promote (i := 3) 3 1) ⟨rfl, rfl, trivial⟩ ?_
  refine CW.loopT (fun t : Nat × List Int => [sp 1 0, ob 0 e.enc, sd 7 (dint e.deeds.length), sd 8 (dint t.1), so 3 1 t.2.length, oa 1 3 1 (t.2.map encInt1), nxt 2])
    (fun t => t.1 ≤ e.state.length ∧ t.2.length ≤ t.1 ∧ t.2 ++ readyGo e t.1 (e.state.drop t.1) = ready e) (fun t => e.state.length - t.1) (0, []) ⟨by omega, by simp, rfl⟩ ?_ ?_
  ·
    exact by_less
  · rintro ⟨i, out⟩ ⟨hi, ho, hI⟩
    dsimp only at hi ho hI ⊢
    rcases drop_case hi with ⟨h1, h2⟩ | ⟨s, h1, h2, h3⟩
    · rw [h1] at hI
      simp only [readyGo, List.append_nil] at hI
      repeat (first | ((with_reducible apply s1); exact rfl) | (with_reducible first | apply CW.seq | apply CW.block | apply CW.region | apply CW.draw | apply CW.skip | apply CW.exit | apply CW.ret | apply q_then | apply q_then_exit | apply q_then_ret | apply q_block | apply q_block_ret | apply q_block_hit | apply q_ret | apply q_end | apply q_loop_exit | apply q_loop_ret | apply q_loopT_exit | apply q_loopT_ret | apply RW.nil) | ((with_reducible apply s3); exact rfl; exact by_k) | ((with_reducible apply s2); exact rfl; exact by_k) | ((with_reducible apply s4); exact rfl) | ((with_reducible apply s5); (first | exact by_oa); exact by_g) | ((with_reducible apply CW.cond_t); exact rfl; exact by_ks) | ((with_reducible apply CW.cond_f); exact rfl; exact by_ks) | ((with_reducible apply q_block_miss); exact rfl) | (refine And.intro (show chk [] [] _ _ = true by kernel_rfl) ?_))
      exact .one (.tmp rfl (.one (.own rfl (by simp) (dle_eq (by rw [← hI]; rfl)))))
    · rw [h1] at hI
      simp only [readyGo] at hI
      obtain ⟨d, hd⟩ : ∃ d, e.deeds[i]? = some d := ⟨e.deeds[i]'(by omega), List.getElem?_eq_getElem (by omega)⟩
      have cn := ok_needs e i d hs hd
      have hna : needsAt e i = needs e i d := by rw [needsAt, hd]
      have hnl : (needs e i d).length ≤ i := by have := needs_len e.chains e.base (e.base + i) (keysD d) (List.range i) 0; simpa [needs] using this
      by_cases e1 : s = 0
      · by_cases e2 : needs e i d = []
        · rw [if_pos ⟨e1, by rw [hna]; exact e2⟩] at hI
          have e3 : (needs e i d).length = 0 := by rw [e2]; rfl
          repeat (first | ((with_reducible apply s1); exact rfl) | (with_reducible first | apply CW.seq | apply CW.block | apply CW.region | apply CW.draw | apply CW.skip | apply CW.exit | apply CW.ret | apply q_then | apply q_then_exit | apply q_then_ret | apply q_block | apply q_block_ret | apply q_block_hit | apply q_ret | apply q_end | apply q_loop_exit | apply q_loop_ret | apply q_loopT_exit | apply q_loopT_ret | apply RW.nil) | ((with_reducible apply s3); exact rfl; exact by_k) | ((with_reducible apply s2); exact rfl; exact by_k) | ((with_reducible apply s4); exact rfl) | ((with_reducible apply s5); (first | (focus ((with_reducible apply a_call); exact cn; exact rfl; (repeat (first | exact SubsE.nil | (apply SubsE.cons; exact rfl; (first | exact .d (.refl _) | exact .d (.nil _) | exact .agg rfl (.refl _) | exact .pd | exact .ptr rfl); (first | exact trivial | exact ⟨rfl, trivial⟩)))); done)) | exact by_oa); exact by_g) | ((with_reducible apply CW.cond_t); exact rfl; exact by_ks) | ((with_reducible apply CW.cond_f); exact rfl; exact by_ks) | ((with_reducible apply q_block_miss); exact rfl) | (refine And.intro (show chk [] [] _ _ = true by kernel_rfl) ?_))
          refine q_loopT (i + 1, out ++ [(i : Int)]) ⟨by dsimp only; omega, by dsimp only; simp; omega, by rw [← hI]; simp⟩ (by dsimp only; omega) ?_
          exact by_less
        · rw [if_neg (fun h => e2 (by rw [← hna]; exact h.2))] at hI
          have e3 : ¬ (needs e i d).length = 0 := by simpa using e2
          repeat (first | ((with_reducible apply s1); exact rfl) | (with_reducible first | apply CW.seq | apply CW.block | apply CW.region | apply CW.draw | apply CW.skip | apply CW.exit | apply CW.ret | apply q_then | apply q_then_exit | apply q_then_ret | apply q_block | apply q_block_ret | apply q_block_hit | apply q_ret | apply q_end | apply q_loop_exit | apply q_loop_ret | apply q_loopT_exit | apply q_loopT_ret | apply RW.nil) | ((with_reducible apply s3); exact rfl; exact by_k) | ((with_reducible apply s2); exact rfl; exact by_k) | ((with_reducible apply s4); exact rfl) | ((with_reducible apply s5); (first | (focus ((with_reducible apply a_call); exact cn; exact rfl; (repeat (first | exact SubsE.nil | (apply SubsE.cons; exact rfl; (first | exact .d (.refl _) | exact .d (.nil _) | exact .agg rfl (.refl _) | exact .pd | exact .ptr rfl); (first | exact trivial | exact ⟨rfl, trivial⟩)))); done)) | exact by_oa); exact by_g) | ((with_reducible apply CW.cond_t); exact rfl; exact by_ks) | ((with_reducible apply CW.cond_f); exact rfl; exact by_ks) | ((with_reducible apply q_block_miss); exact rfl) | (refine And.intro (show chk [] [] _ _ = true by kernel_rfl) ?_))
          refine q_loopT (i + 1, out) ⟨by dsimp only; omega, by dsimp only; omega, hI⟩ (by dsimp only; omega) ?_
          exact by_less
      · rw [if_neg (fun h => e1 h.1)] at hI
        repeat (first | ((with_reducible apply s1); exact rfl) | (with_reducible first | apply CW.seq | apply CW.block | apply CW.region | apply CW.draw | apply CW.skip | apply CW.exit | apply CW.ret | apply q_then | apply q_then_exit | apply q_then_ret | apply q_block | apply q_block_ret | apply q_block_hit | apply q_ret | apply q_end | apply q_loop_exit | apply q_loop_ret | apply q_loopT_exit | apply q_loopT_ret | apply RW.nil) | ((with_reducible apply s3); exact rfl; exact by_k) | ((with_reducible apply s2); exact rfl; exact by_k) | ((with_reducible apply s4); exact rfl) | ((with_reducible apply s5); (first | (focus ((with_reducible apply a_call); exact cn; exact rfl; (repeat (first | exact SubsE.nil | (apply SubsE.cons; exact rfl; (first | exact .d (.refl _) | exact .d (.nil _) | exact .agg rfl (.refl _) | exact .pd | exact .ptr rfl); (first | exact trivial | exact ⟨rfl, trivial⟩)))); done)) | exact by_oa); exact by_g) | ((with_reducible apply CW.cond_t); exact rfl; exact by_ks) | ((with_reducible apply CW.cond_f); exact rfl; exact by_ks) | ((with_reducible apply q_block_miss); exact rfl) | (refine And.intro (show chk [] [] _ _ = true by kernel_rfl) ?_))
        refine q_loopT (i + 1, out) ⟨by dsimp only; omega, by dsimp only; omega, hI⟩ (by dsimp only; omega) ?_
        exact by_less

end Go.Proofs.Ytjopijlkpipljaa
