/-
  Part 4 of what the claim leans on: F16 R4 F1 F6 F7 F8 F10 F12 F14 F18 F9 F15 F19 F20 F21 G4 P1 P2 P4 P5 AxNews AxApp R5 F4.
-/
import Derived.Test.YtpmbijmmoacnhaaK3
import Derived.Lib.SlTrimSet

/-! F16 -/
/-
  Contracts of the references' Do and All.
-/
namespace Go.Proofs.Ytpmbijmmoacnhaa
open Go.AX Go.RF

set_option maxRecDepth 100000
set_option maxHeartbeats 8000000

theorem ld_reg (e : Done) {A : Nat} (h : A < 4) {ti : TI} (hk : ti.kind = .int .i64) : ldA ti ((e.enc.map AV.d).drop (1 + A * 1)) = some (.d (dint (rget e A))) := by
  have : A = 0 ∨ A = 1 ∨ A = 2 ∨ A = 3 := by omega
  rcases this with rfl | rfl | rfl | rfl <;> simp [ldA, hk, Done.enc, rget]
theorem st_reg (e : Done) {A : Nat} (h : A < 4) (x : Int) : putCells (e.enc.map AV.d) (1 + A * 1) [.d (dint x)] = (rset e A x).enc.map AV.d := by
  have : A = 0 ∨ A = 1 ∨ A = 2 ∨ A = 3 := by omega
  rcases this with rfl | rfl | rfl | rfl <;> rfl
theorem fit_reg (e : Done) {A : Nat} (h : A < 4) : Nat.ble ((1 + A * 1) + 1) (e.enc.map AV.d).length = true := by
  simp [Done.enc]; omega

theorem mul_bound {a b : Int} (ha : -1073741824 ≤ a ∧ a ≤ 1073741824) (hb : -1073741824 ≤ b ∧ b ≤ 1073741824) : -1152921504606846976 ≤ a * b ∧ a * b ≤ 1152921504606846976 := by
  have h1 : (a * b).natAbs ≤ 1073741824 * 1073741824 := by
    rw [Int.natAbs_mul]
    exact Nat.mul_le_mul (by omega) (by omega)
  omega

theorem ok_do (r : List Pair) (d : Deed) (hl : r.length ≤ 134217728) (hr : rowsOk r) (hc : d.code.length ≤ 134217728) (hi : ∀ i ∈ d.code, i.Ok) :
    FnOk Try.prog 7 [.d (encRows r), .d (.agg d.enc)] (.tup [encRows (doD r d).1, .agg (doD r d).2.enc]) := by
  refine fnOk_of tbl_ok mixed_ok Try.func7 rfl (by kernel_rfl) rfl rfl fun w0 own0 => ?_
  repeat (first | ((with_reducible apply s1); exact rfl) | (with_reducible first | apply CW.seq | apply CW.block | apply CW.region | apply CW.draw | apply CW.skip | apply CW.exit | apply CW.ret | apply q_then | apply q_then_exit | apply q_then_ret | apply q_block | apply q_block_ret | apply q_block_hit | apply q_ret | apply q_end | apply q_loop_exit | apply q_loop_ret | apply q_loopT_exit | apply q_loopT_ret | apply RW.nil) | ((with_reducible apply s3); exact rfl; exact by_k) | ((with_reducible apply s2); exact rfl; exact by_k) | ((with_reducible apply s4); exact rfl) | ((with_reducible apply s5); (first | exact by_oa); exact by_g) | ((with_reducible apply CW.cond_t); exact rfl; exact by_ks) | ((with_reducible apply CW.cond_f); exact rfl; exact by_ks) | ((with_reducible apply q_block_miss); exact rfl) | (refine And.intro (show chk [] [] _ _ = true by kernel_rfl) ?_))
  refine CW.loopT (fun t : Nat × Int × List Pair × Done => [sd 0 (encRows r), sp 3 0, ob 0 d.enc, sp 5 1, ob 1 done0.enc, sd 6 (encRows t.2.2.1), sp 7 2, ob 2 t.2.2.2.enc, sd 8 (dint t.2.1), sd 16 (encCode d.code), sd 17 (dint d.code.length), sd 18 (dint t.1), nxt 3])
    (fun t => t.1 ≤ d.code.length ∧ t.2.2.1.length ≤ r.length + t.1 ∧ rowsOk t.2.2.1 ∧ t.2.2.2.Ok ∧ t.2.2.2.failed = false ∧ (0 ≤ t.2.1 ∧ t.2.1 ≤ 1073741824) ∧ doGo r t.2.1 t.2.2.1 t.2.2.2 (d.code.drop t.1) = doD r d)
    (fun t => d.code.length - t.1) (0, 0, r, done0) ⟨by omega, by simp, hr, ⟨by simp [nOk, done0], by simp [nOk, done0], by simp [nOk, done0], by simp [nOk, done0]⟩, rfl, by simp, rfl⟩ ?_ ?_
  ·
    exact by_less
  · rintro ⟨x, sk, now, e⟩ ⟨hx, hn, hrow, hreg, hf, hsk, hI⟩
    dsimp only at hx hn hrow hreg hf hsk hI ⊢
    rcases drop_case hx with ⟨h1, h2⟩ | ⟨i, h1, h2, h3⟩
    · rw [h1] at hI
      simp only [doGo] at hI
      repeat (first | ((with_reducible apply s1); exact rfl) | (with_reducible first | apply CW.seq | apply CW.block | apply CW.region | apply CW.draw | apply CW.skip | apply CW.exit | apply CW.ret | apply q_then | apply q_then_exit | apply q_then_ret | apply q_block | apply q_block_ret | apply q_block_hit | apply q_ret | apply q_end | apply q_loop_exit | apply q_loop_ret | apply q_loopT_exit | apply q_loopT_ret | apply RW.nil) | ((with_reducible apply s3); exact rfl; exact by_k) | ((with_reducible apply s2); exact rfl; exact by_k) | ((with_reducible apply s4); exact rfl) | ((with_reducible apply s5); (first | exact by_oa); exact by_g) | ((with_reducible apply CW.cond_t); exact rfl; exact by_ks) | ((with_reducible apply CW.cond_f); exact rfl; exact by_ks) | ((with_reducible apply q_block_miss); exact rfl) | (refine And.intro (show chk [] [] _ _ = true by kernel_rfl) ?_))
      rw [← hI]
      exact .two (.tmp rfl (.one (.d (.refl _)))) (.cell rfl rfl rfl rfl (.aggd rfl (.refl _)))
    · rw [h1] at hI
      simp only [doGo] at hI
      have hio := hi i (List.mem_of_getElem? h2)
      by_cases h4 : 0 < sk
      · rw [if_pos h4] at hI
        repeat (first | ((with_reducible apply s1); exact rfl) | (with_reducible first | apply CW.seq | apply CW.block | apply CW.region | apply CW.draw | apply CW.skip | apply CW.exit | apply CW.ret | apply q_then | apply q_then_exit | apply q_then_ret | apply q_block | apply q_block_ret | apply q_block_hit | apply q_ret | apply q_end | apply q_loop_exit | apply q_loop_ret | apply q_loopT_exit | apply q_loopT_ret | apply RW.nil) | ((with_reducible apply s3); exact rfl; exact by_k) | ((with_reducible apply s2); exact rfl; exact by_k) | ((with_reducible apply s4); exact rfl) | ((with_reducible apply s5); (first | exact by_oa); exact by_g) | ((with_reducible apply CW.cond_t); exact rfl; exact by_ks) | ((with_reducible apply CW.cond_f); exact rfl; exact by_ks) | ((with_reducible apply q_block_miss); exact rfl) | (refine And.intro (show chk [] [] _ _ = true by kernel_rfl) ?_))
        refine q_loopT (x + 1, sk - 1, now, e) ⟨by dsimp only; omega, by dsimp only; omega, hrow, hreg, hf, by dsimp only; omega, hI⟩ (by dsimp only; omega) ?_
        exact by_less
      rw [if_neg h4] at hI
      obtain ⟨kd, ia, ib, n, key⟩ := i
      obtain ⟨A, rfl⟩ := Int.eq_ofNat_of_zero_le hio.a.1
      obtain ⟨B, rfl⟩ := Int.eq_ofNat_of_zero_le hio.b.1
      have hA : A < 4 := by have := hio.a.2; dsimp only at this; omega
      have hB : B < 4 := by have := hio.b.2; dsimp only at this; omega
      have hga := rget_ok hreg A
      have hgb := rget_ok hreg B
      have hst := fun y => st_reg e hA y
      have hfit := fit_reg e hA
      have hself := rset_self e A
      have hk := hio.k
      have hcn := hio.c
      have hcs := hio.s
      dsimp only [Int.toNat_natCast] at hI hk hcn hcs
      have hkd : kd = 1 ∨ kd = 2 ∨ kd = 3 ∨ kd = 4 ∨ kd = 5 ∨ kd = 6 ∨ kd = 7 ∨ kd = 8 ∨ kd = 9 := by omega
      clear hk hio h1
      unfold nOk at hga hgb
      have cg := ok_get now key (by omega)
      have hh := fun (k : Nat) (h : k < 10) => ok_has k 114 h
      rcases hkd with rfl | rfl | rfl | rfl | rfl | rfl | rfl | rfl | rfl
      · rw [if_pos rfl] at hI
        have ch := hh 1 (by omega)
        rw [show has 1 114 = true from by decide] at ch
        have hs := hst (RF.get now key).1
        repeat (first | ((with_reducible apply s1); exact rfl) | (with_reducible first | apply CW.seq | apply CW.block | apply CW.region | apply CW.draw | apply CW.skip | apply CW.exit | apply CW.ret | apply q_then | apply q_then_exit | apply q_then_ret | apply q_block | apply q_block_ret | apply q_block_hit | apply q_ret | apply q_end | apply q_loop_exit | apply q_loop_ret | apply q_loopT_exit | apply q_loopT_ret | apply RW.nil) | ((with_reducible apply s3); exact rfl; exact by_k) | ((with_reducible apply s2); exact rfl; exact by_k) | ((with_reducible apply s4); exact rfl) | ((with_reducible apply s5); (first | (focus ((with_reducible apply a_call); exact cg; exact rfl; (repeat (first | exact SubsE.nil | (apply SubsE.cons; exact rfl; (first | exact .d (.refl _) | exact .d (.nil _) | exact .agg rfl (.refl _) | exact .pd | exact .ptr rfl); (first | exact trivial | exact ⟨rfl, trivial⟩)))); done)) | (focus ((with_reducible apply a_call); exact ch; exact rfl; (repeat (first | exact SubsE.nil | (apply SubsE.cons; exact rfl; (first | exact .d (.refl _) | exact .d (.nil _) | exact .agg rfl (.refl _) | exact .pd | exact .ptr rfl); (first | exact trivial | exact ⟨rfl, trivial⟩)))); done)) | ((with_reducible apply a_lptr); (iterate 4 exact rfl); exact ld_reg e hA rfl) | ((with_reducible apply a_lptr); (iterate 4 exact rfl); exact ld_reg e hB rfl) | ((with_reducible apply a_store); (iterate 6 exact rfl); exact hfit; exact ⟨rfl, trivial⟩) | exact by_oa); exact by_g) | ((with_reducible apply CW.cond_t); exact rfl; exact by_ks) | ((with_reducible apply CW.cond_f); exact rfl; exact by_ks) | ((with_reducible apply q_block_miss); exact rfl) | (refine And.intro (show chk [] [] _ _ = true by kernel_rfl) ?_))
        refine q_loopT (x + 1, sk, now, rset e A (RF.get now key).1) ⟨by dsimp only; omega, by dsimp only; omega, hrow, rset_ok hreg A (get_ok hrow key), by rw [rset_failed]; exact hf, hsk, hI⟩ (by dsimp only; omega) ?_
        exact by_less
      · rw [if_neg (show ¬ (2 : Int) = 1 by decide), if_pos rfl] at hI
        have ch := hh 2 (by omega)
        rw [show has 2 114 = true from by decide] at ch
        have hs := hst n
        repeat (first | ((with_reducible apply s1); exact rfl) | (with_reducible first | apply CW.seq | apply CW.block | apply CW.region | apply CW.draw | apply CW.skip | apply CW.exit | apply CW.ret | apply q_then | apply q_then_exit | apply q_then_ret | apply q_block | apply q_block_ret | apply q_block_hit | apply q_ret | apply q_end | apply q_loop_exit | apply q_loop_ret | apply q_loopT_exit | apply q_loopT_ret | apply RW.nil) | ((with_reducible apply s3); exact rfl; exact by_k) | ((with_reducible apply s2); exact rfl; exact by_k) | ((with_reducible apply s4); exact rfl) | ((with_reducible apply s5); (first | (focus ((with_reducible apply a_call); exact ch; exact rfl; (repeat (first | exact SubsE.nil | (apply SubsE.cons; exact rfl; (first | exact .d (.refl _) | exact .d (.nil _) | exact .agg rfl (.refl _) | exact .pd | exact .ptr rfl); (first | exact trivial | exact ⟨rfl, trivial⟩)))); done)) | ((with_reducible apply a_lptr); (iterate 4 exact rfl); exact ld_reg e hA rfl) | ((with_reducible apply a_lptr); (iterate 4 exact rfl); exact ld_reg e hB rfl) | ((with_reducible apply a_store); (iterate 6 exact rfl); exact hfit; exact ⟨rfl, trivial⟩) | exact by_oa); exact by_g) | ((with_reducible apply CW.cond_t); exact rfl; exact by_ks) | ((with_reducible apply CW.cond_f); exact rfl; exact by_ks) | ((with_reducible apply q_block_miss); exact rfl) | (refine And.intro (show chk [] [] _ _ = true by kernel_rfl) ?_))
        refine q_loopT (x + 1, sk, now, rset e A n) ⟨by dsimp only; omega, by dsimp only; omega, hrow, rset_ok hreg A (hcn rfl), by rw [rset_failed]; exact hf, hsk, hI⟩ (by dsimp only; omega) ?_
        exact by_less
      · rw [if_neg (show ¬ (3 : Int) = 1 by decide), if_neg (show ¬ (3 : Int) = 2 by decide), if_pos rfl] at hI
        have ch := hh 3 (by omega)
        rw [show has 3 114 = true from by decide] at ch
        have hs := hst (round (rget e A + rget e B))
        have cr := ok_round (rget e A + rget e B) (by omega)
        repeat (first | ((with_reducible apply s1); exact rfl) | (with_reducible first | apply CW.seq | apply CW.block | apply CW.region | apply CW.draw | apply CW.skip | apply CW.exit | apply CW.ret | apply q_then | apply q_then_exit | apply q_then_ret | apply q_block | apply q_block_ret | apply q_block_hit | apply q_ret | apply q_end | apply q_loop_exit | apply q_loop_ret | apply q_loopT_exit | apply q_loopT_ret | apply RW.nil) | ((with_reducible apply s3); exact rfl; exact by_k) | ((with_reducible apply s2); exact rfl; exact by_k) | ((with_reducible apply s4); exact rfl) | ((with_reducible apply s5); (first | (focus ((with_reducible apply a_call); exact cr; exact rfl; (repeat (first | exact SubsE.nil | (apply SubsE.cons; exact rfl; (first | exact .d (.refl _) | exact .d (.nil _) | exact .agg rfl (.refl _) | exact .pd | exact .ptr rfl); (first | exact trivial | exact ⟨rfl, trivial⟩)))); done)) | (focus ((with_reducible apply a_call); exact ch; exact rfl; (repeat (first | exact SubsE.nil | (apply SubsE.cons; exact rfl; (first | exact .d (.refl _) | exact .d (.nil _) | exact .agg rfl (.refl _) | exact .pd | exact .ptr rfl); (first | exact trivial | exact ⟨rfl, trivial⟩)))); done)) | ((with_reducible apply a_lptr); (iterate 4 exact rfl); exact ld_reg e hA rfl) | ((with_reducible apply a_lptr); (iterate 4 exact rfl); exact ld_reg e hB rfl) | ((with_reducible apply a_store); (iterate 6 exact rfl); exact hfit; exact ⟨rfl, trivial⟩) | ((with_reducible apply a_bin); (iterate 2 exact rfl); (apply bin_add; omega); exact rfl) | exact by_oa); exact by_g) | ((with_reducible apply CW.cond_t); exact rfl; exact by_ks) | ((with_reducible apply CW.cond_f); exact rfl; exact by_ks) | ((with_reducible apply q_block_miss); exact rfl) | (refine And.intro (show chk [] [] _ _ = true by kernel_rfl) ?_))
        refine q_loopT (x + 1, sk, now, rset e A (round (rget e A + rget e B))) ⟨by dsimp only; omega, by dsimp only; omega, hrow, rset_ok hreg A (round_ok _), by rw [rset_failed]; exact hf, hsk, hI⟩ (by dsimp only; omega) ?_
        exact by_less
      · rw [if_neg (show ¬ (4 : Int) = 1 by decide), if_neg (show ¬ (4 : Int) = 2 by decide), if_neg (show ¬ (4 : Int) = 3 by decide), if_pos rfl] at hI
        have ch := hh 4 (by omega)
        rw [show has 4 114 = true from by decide] at ch
        have hs := hst (round (rget e A - rget e B))
        have cr := ok_round (rget e A - rget e B) (by omega)
        repeat (first | ((with_reducible apply s1); exact rfl) | (with_reducible first | apply CW.seq | apply CW.block | apply CW.region | apply CW.draw | apply CW.skip | apply CW.exit | apply CW.ret | apply q_then | apply q_then_exit | apply q_then_ret | apply q_block | apply q_block_ret | apply q_block_hit | apply q_ret | apply q_end | apply q_loop_exit | apply q_loop_ret | apply q_loopT_exit | apply q_loopT_ret | apply RW.nil) | ((with_reducible apply s3); exact rfl; exact by_k) | ((with_reducible apply s2); exact rfl; exact by_k) | ((with_reducible apply s4); exact rfl) | ((with_reducible apply s5); (first | (focus ((with_reducible apply a_call); exact cr; exact rfl; (repeat (first | exact SubsE.nil | (apply SubsE.cons; exact rfl; (first | exact .d (.refl _) | exact .d (.nil _) | exact .agg rfl (.refl _) | exact .pd | exact .ptr rfl); (first | exact trivial | exact ⟨rfl, trivial⟩)))); done)) | (focus ((with_reducible apply a_call); exact ch; exact rfl; (repeat (first | exact SubsE.nil | (apply SubsE.cons; exact rfl; (first | exact .d (.refl _) | exact .d (.nil _) | exact .agg rfl (.refl _) | exact .pd | exact .ptr rfl); (first | exact trivial | exact ⟨rfl, trivial⟩)))); done)) | ((with_reducible apply a_lptr); (iterate 4 exact rfl); exact ld_reg e hA rfl) | ((with_reducible apply a_lptr); (iterate 4 exact rfl); exact ld_reg e hB rfl) | ((with_reducible apply a_store); (iterate 6 exact rfl); exact hfit; exact ⟨rfl, trivial⟩) | ((with_reducible apply a_bin); (iterate 2 exact rfl); (apply bin_sub; omega); exact rfl) | exact by_oa); exact by_g) | ((with_reducible apply CW.cond_t); exact rfl; exact by_ks) | ((with_reducible apply CW.cond_f); exact rfl; exact by_ks) | ((with_reducible apply q_block_miss); exact rfl) | (refine And.intro (show chk [] [] _ _ = true by kernel_rfl) ?_))
        refine q_loopT (x + 1, sk, now, rset e A (round (rget e A - rget e B))) ⟨by dsimp only; omega, by dsimp only; omega, hrow, rset_ok hreg A (round_ok _), by rw [rset_failed]; exact hf, hsk, hI⟩ (by dsimp only; omega) ?_
        exact by_less
      · rw [if_neg (show ¬ (5 : Int) = 1 by decide), if_neg (show ¬ (5 : Int) = 2 by decide), if_neg (show ¬ (5 : Int) = 3 by decide), if_neg (show ¬ (5 : Int) = 4 by decide), if_pos rfl] at hI
        have ch := hh 5 (by omega)
        rw [show has 5 114 = true from by decide] at ch
        have hmul : -1152921504606846976 ≤ rget e A * rget e B ∧ rget e A * rget e B ≤ 1152921504606846976 := mul_bound hga hgb
        have hs := hst (round (rget e A * rget e B))
        have cr := ok_round (rget e A * rget e B) (by omega)
        repeat (first | ((with_reducible apply s1); exact rfl) | (with_reducible first | apply CW.seq | apply CW.block | apply CW.region | apply CW.draw | apply CW.skip | apply CW.exit | apply CW.ret | apply q_then | apply q_then_exit | apply q_then_ret | apply q_block | apply q_block_ret | apply q_block_hit | apply q_ret | apply q_end | apply q_loop_exit | apply q_loop_ret | apply q_loopT_exit | apply q_loopT_ret | apply RW.nil) | ((with_reducible apply s3); exact rfl; exact by_k) | ((with_reducible apply s2); exact rfl; exact by_k) | ((with_reducible apply s4); exact rfl) | ((with_reducible apply s5); (first | (focus ((with_reducible apply a_call); exact cr; exact rfl; (repeat (first | exact SubsE.nil | (apply SubsE.cons; exact rfl; (first | exact .d (.refl _) | exact .d (.nil _) | exact .agg rfl (.refl _) | exact .pd | exact .ptr rfl); (first | exact trivial | exact ⟨rfl, trivial⟩)))); done)) | (focus ((with_reducible apply a_call); exact ch; exact rfl; (repeat (first | exact SubsE.nil | (apply SubsE.cons; exact rfl; (first | exact .d (.refl _) | exact .d (.nil _) | exact .agg rfl (.refl _) | exact .pd | exact .ptr rfl); (first | exact trivial | exact ⟨rfl, trivial⟩)))); done)) | ((with_reducible apply a_lptr); (iterate 4 exact rfl); exact ld_reg e hA rfl) | ((with_reducible apply a_lptr); (iterate 4 exact rfl); exact ld_reg e hB rfl) | ((with_reducible apply a_store); (iterate 6 exact rfl); exact hfit; exact ⟨rfl, trivial⟩) | ((with_reducible apply a_bin); (iterate 2 exact rfl); (apply bin_mul; omega); exact rfl) | exact by_oa); exact by_g) | ((with_reducible apply CW.cond_t); exact rfl; exact by_ks) | ((with_reducible apply CW.cond_f); exact rfl; exact by_ks) | ((with_reducible apply q_block_miss); exact rfl) | (refine And.intro (show chk [] [] _ _ = true by kernel_rfl) ?_))
        refine q_loopT (x + 1, sk, now, rset e A (round (rget e A * rget e B))) ⟨by dsimp only; omega, by dsimp only; omega, hrow, rset_ok hreg A (round_ok _), by rw [rset_failed]; exact hf, hsk, hI⟩ (by dsimp only; omega) ?_
        exact by_less
      · rw [if_neg (show ¬ (6 : Int) = 1 by decide), if_neg (show ¬ (6 : Int) = 2 by decide), if_neg (show ¬ (6 : Int) = 3 by decide), if_neg (show ¬ (6 : Int) = 4 by decide), if_neg (show ¬ (6 : Int) = 5 by decide), if_pos rfl] at hI
        have ch := hh 6 (by omega)
        rw [show has 6 114 = true from by decide] at ch
        have hs : putCells (e.enc.map AV.d) (1 + A * 1) [.d (dint (rget e A))] = e.enc.map AV.d := by rw [hst, hself]
        have cp := ok_put now key (rget e A) true (by omega)
        have hpl := put_len now key (rget e A) true
        repeat (first | ((with_reducible apply s1); exact rfl) | (with_reducible first | apply CW.seq | apply CW.block | apply CW.region | apply CW.draw | apply CW.skip | apply CW.exit | apply CW.ret | apply q_then | apply q_then_exit | apply q_then_ret | apply q_block | apply q_block_ret | apply q_block_hit | apply q_ret | apply q_end | apply q_loop_exit | apply q_loop_ret | apply q_loopT_exit | apply q_loopT_ret | apply RW.nil) | ((with_reducible apply s3); exact rfl; exact by_k) | ((with_reducible apply s2); exact rfl; exact by_k) | ((with_reducible apply s4); exact rfl) | ((with_reducible apply s5); (first | (focus ((with_reducible apply a_call); exact cp; exact rfl; (repeat (first | exact SubsE.nil | (apply SubsE.cons; exact rfl; (first | exact .d (.refl _) | exact .d (.nil _) | exact .agg rfl (.refl _) | exact .pd | exact .ptr rfl); (first | exact trivial | exact ⟨rfl, trivial⟩)))); done)) | (focus ((with_reducible apply a_call); exact ch; exact rfl; (repeat (first | exact SubsE.nil | (apply SubsE.cons; exact rfl; (first | exact .d (.refl _) | exact .d (.nil _) | exact .agg rfl (.refl _) | exact .pd | exact .ptr rfl); (first | exact trivial | exact ⟨rfl, trivial⟩)))); done)) | ((with_reducible apply a_lptr); (iterate 4 exact rfl); exact ld_reg e hA rfl) | ((with_reducible apply a_lptr); (iterate 4 exact rfl); exact ld_reg e hB rfl) | ((with_reducible apply a_store); (iterate 6 exact rfl); exact hfit; exact ⟨rfl, trivial⟩) | exact by_oa); exact by_g) | ((with_reducible apply CW.cond_t); exact rfl; exact by_ks) | ((with_reducible apply CW.cond_f); exact rfl; exact by_ks) | ((with_reducible apply q_block_miss); exact rfl) | (refine And.intro (show chk [] [] _ _ = true by kernel_rfl) ?_))
        refine q_loopT (x + 1, sk, put now key (rget e A) true, e) ⟨by dsimp only; omega, by dsimp only; omega, put_ok hrow key (rget_ok hreg A) true, hreg, hf, hsk, hI⟩ (by dsimp only; omega) ?_
        exact by_less
      · rw [if_neg (show ¬ (7 : Int) = 1 by decide), if_neg (show ¬ (7 : Int) = 2 by decide), if_neg (show ¬ (7 : Int) = 3 by decide), if_neg (show ¬ (7 : Int) = 4 by decide), if_neg (show ¬ (7 : Int) = 5 by decide), if_neg (show ¬ (7 : Int) = 6 by decide), if_pos rfl] at hI
        have ch := hh 7 (by omega)
        rw [show has 7 114 = false from by decide] at ch
        have cp := ok_put now key 0 false (by omega)
        have hpl := put_len now key 0 false
        repeat (first | ((with_reducible apply s1); exact rfl) | (with_reducible first | apply CW.seq | apply CW.block | apply CW.region | apply CW.draw | apply CW.skip | apply CW.exit | apply CW.ret | apply q_then | apply q_then_exit | apply q_then_ret | apply q_block | apply q_block_ret | apply q_block_hit | apply q_ret | apply q_end | apply q_loop_exit | apply q_loop_ret | apply q_loopT_exit | apply q_loopT_ret | apply RW.nil) | ((with_reducible apply s3); exact rfl; exact by_k) | ((with_reducible apply s2); exact rfl; exact by_k) | ((with_reducible apply s4); exact rfl) | ((with_reducible apply s5); (first | (focus ((with_reducible apply a_call); exact cp; exact rfl; (repeat (first | exact SubsE.nil | (apply SubsE.cons; exact rfl; (first | exact .d (.refl _) | exact .d (.nil _) | exact .agg rfl (.refl _) | exact .pd | exact .ptr rfl); (first | exact trivial | exact ⟨rfl, trivial⟩)))); done)) | (focus ((with_reducible apply a_call); exact ch; exact rfl; (repeat (first | exact SubsE.nil | (apply SubsE.cons; exact rfl; (first | exact .d (.refl _) | exact .d (.nil _) | exact .agg rfl (.refl _) | exact .pd | exact .ptr rfl); (first | exact trivial | exact ⟨rfl, trivial⟩)))); done)) | ((with_reducible apply a_lptr); (iterate 4 exact rfl); exact ld_reg e hA rfl) | ((with_reducible apply a_lptr); (iterate 4 exact rfl); exact ld_reg e hB rfl) | ((with_reducible apply a_store); (iterate 6 exact rfl); exact hfit; exact ⟨rfl, trivial⟩) | exact by_oa); exact by_g) | ((with_reducible apply CW.cond_t); exact rfl; exact by_ks) | ((with_reducible apply CW.cond_f); exact rfl; exact by_ks) | ((with_reducible apply q_block_miss); exact rfl) | (refine And.intro (show chk [] [] _ _ = true by kernel_rfl) ?_))
        refine q_loopT (x + 1, sk, put now key 0 false, e) ⟨by dsimp only; omega, by dsimp only; omega, put_ok hrow key (by simp [nOk]) false, hreg, hf, hsk, hI⟩ (by dsimp only; omega) ?_
        exact by_less
      · rw [if_neg (show ¬ (8 : Int) = 1 by decide), if_neg (show ¬ (8 : Int) = 2 by decide), if_neg (show ¬ (8 : Int) = 3 by decide), if_neg (show ¬ (8 : Int) = 4 by decide), if_neg (show ¬ (8 : Int) = 5 by decide), if_neg (show ¬ (8 : Int) = 6 by decide), if_neg (show ¬ (8 : Int) = 7 by decide), if_pos rfl] at hI
        have ch := hh 8 (by omega)
        rw [show has 8 114 = true from by decide] at ch
        have hs : putCells (e.enc.map AV.d) (1 + A * 1) [.d (dint (rget e A))] = e.enc.map AV.d := by rw [hst, hself]
        by_cases h5 : rget e A < 1
        · rw [if_pos h5] at hI
          repeat (first | ((with_reducible apply s1); exact rfl) | (with_reducible first | apply CW.seq | apply CW.block | apply CW.region | apply CW.draw | apply CW.skip | apply CW.exit | apply CW.ret | apply q_then | apply q_then_exit | apply q_then_ret | apply q_block | apply q_block_ret | apply q_block_hit | apply q_ret | apply q_end | apply q_loop_exit | apply q_loop_ret | apply q_loopT_exit | apply q_loopT_ret | apply RW.nil) | ((with_reducible apply s3); exact rfl; exact by_k) | ((with_reducible apply s2); exact rfl; exact by_k) | ((with_reducible apply s4); exact rfl) | ((with_reducible apply s5); (first | (focus ((with_reducible apply a_call); exact ch; exact rfl; (repeat (first | exact SubsE.nil | (apply SubsE.cons; exact rfl; (first | exact .d (.refl _) | exact .d (.nil _) | exact .agg rfl (.refl _) | exact .pd | exact .ptr rfl); (first | exact trivial | exact ⟨rfl, trivial⟩)))); done)) | ((with_reducible apply a_lptr); (iterate 4 exact rfl); exact ld_reg e hA rfl) | ((with_reducible apply a_lptr); (iterate 4 exact rfl); exact ld_reg e hB rfl) | ((with_reducible apply a_store); (iterate 6 exact rfl); exact hfit; exact ⟨rfl, trivial⟩) | exact by_oa); exact by_g) | ((with_reducible apply CW.cond_t); exact rfl; exact by_ks) | ((with_reducible apply CW.cond_f); exact rfl; exact by_ks) | ((with_reducible apply q_block_miss); exact rfl) | (refine And.intro (show chk [] [] _ _ = true by kernel_rfl) ?_))
          refine q_loopT (x + 1, n, now, e) ⟨by dsimp only; omega, by dsimp only; omega, hrow, hreg, hf, hcs rfl, hI⟩ (by dsimp only; omega) ?_
          exact by_less
        · rw [if_neg h5] at hI
          repeat (first | ((with_reducible apply s1); exact rfl) | (with_reducible first | apply CW.seq | apply CW.block | apply CW.region | apply CW.draw | apply CW.skip | apply CW.exit | apply CW.ret | apply q_then | apply q_then_exit | apply q_then_ret | apply q_block | apply q_block_ret | apply q_block_hit | apply q_ret | apply q_end | apply q_loop_exit | apply q_loop_ret | apply q_loopT_exit | apply q_loopT_ret | apply RW.nil) | ((with_reducible apply s3); exact rfl; exact by_k) | ((with_reducible apply s2); exact rfl; exact by_k) | ((with_reducible apply s4); exact rfl) | ((with_reducible apply s5); (first | (focus ((with_reducible apply a_call); exact ch; exact rfl; (repeat (first | exact SubsE.nil | (apply SubsE.cons; exact rfl; (first | exact .d (.refl _) | exact .d (.nil _) | exact .agg rfl (.refl _) | exact .pd | exact .ptr rfl); (first | exact trivial | exact ⟨rfl, trivial⟩)))); done)) | ((with_reducible apply a_lptr); (iterate 4 exact rfl); exact ld_reg e hA rfl) | ((with_reducible apply a_lptr); (iterate 4 exact rfl); exact ld_reg e hB rfl) | ((with_reducible apply a_store); (iterate 6 exact rfl); exact hfit; exact ⟨rfl, trivial⟩) | exact by_oa); exact by_g) | ((with_reducible apply CW.cond_t); exact rfl; exact by_ks) | ((with_reducible apply CW.cond_f); exact rfl; exact by_ks) | ((with_reducible apply q_block_miss); exact rfl) | (refine And.intro (show chk [] [] _ _ = true by kernel_rfl) ?_))
          refine q_loopT (x + 1, sk, now, e) ⟨by dsimp only; omega, by dsimp only; omega, hrow, hreg, hf, hsk, hI⟩ (by dsimp only; omega) ?_
          exact by_less
      · rw [if_neg (show ¬ (9 : Int) = 1 by decide), if_neg (show ¬ (9 : Int) = 2 by decide), if_neg (show ¬ (9 : Int) = 3 by decide), if_neg (show ¬ (9 : Int) = 4 by decide), if_neg (show ¬ (9 : Int) = 5 by decide), if_neg (show ¬ (9 : Int) = 6 by decide), if_neg (show ¬ (9 : Int) = 7 by decide), if_neg (show ¬ (9 : Int) = 8 by decide)] at hI
        have ch := hh 9 (by omega)
        rw [show has 9 114 = true from by decide] at ch
        have hs : putCells (e.enc.map AV.d) (1 + A * 1) [.d (dint (rget e A))] = e.enc.map AV.d := by rw [hst, hself]
        by_cases h5 : rget e A < 0
        · rw [if_pos h5] at hI
          repeat (first | ((with_reducible apply s1); exact rfl) | (with_reducible first | apply CW.seq | apply CW.block | apply CW.region | apply CW.draw | apply CW.skip | apply CW.exit | apply CW.ret | apply q_then | apply q_then_exit | apply q_then_ret | apply q_block | apply q_block_ret | apply q_block_hit | apply q_ret | apply q_end | apply q_loop_exit | apply q_loop_ret | apply q_loopT_exit | apply q_loopT_ret | apply RW.nil) | ((with_reducible apply s3); exact rfl; exact by_k) | ((with_reducible apply s2); exact rfl; exact by_k) | ((with_reducible apply s4); exact rfl) | ((with_reducible apply s5); (first | (focus ((with_reducible apply a_call); exact ch; exact rfl; (repeat (first | exact SubsE.nil | (apply SubsE.cons; exact rfl; (first | exact .d (.refl _) | exact .d (.nil _) | exact .agg rfl (.refl _) | exact .pd | exact .ptr rfl); (first | exact trivial | exact ⟨rfl, trivial⟩)))); done)) | ((with_reducible apply a_lptr); (iterate 4 exact rfl); exact ld_reg e hA rfl) | ((with_reducible apply a_lptr); (iterate 4 exact rfl); exact ld_reg e hB rfl) | ((with_reducible apply a_store); (iterate 6 exact rfl); exact hfit; exact ⟨rfl, trivial⟩) | exact by_oa); exact by_g) | ((with_reducible apply CW.cond_t); exact rfl; exact by_ks) | ((with_reducible apply CW.cond_f); exact rfl; exact by_ks) | ((with_reducible apply q_block_miss); exact rfl) | (refine And.intro (show chk [] [] _ _ = true by kernel_rfl) ?_))
          rw [← hI]
          exact .two (.tmp rfl (.one (.d (.refl _)))) (.cell rfl rfl rfl rfl (.aggd rfl (.refl _)))
        · rw [if_neg h5] at hI
          repeat (first | ((with_reducible apply s1); exact rfl) | (with_reducible first | apply CW.seq | apply CW.block | apply CW.region | apply CW.draw | apply CW.skip | apply CW.exit | apply CW.ret | apply q_then | apply q_then_exit | apply q_then_ret | apply q_block | apply q_block_ret | apply q_block_hit | apply q_ret | apply q_end | apply q_loop_exit | apply q_loop_ret | apply q_loopT_exit | apply q_loopT_ret | apply RW.nil) | ((with_reducible apply s3); exact rfl; exact by_k) | ((with_reducible apply s2); exact rfl; exact by_k) | ((with_reducible apply s4); exact rfl) | ((with_reducible apply s5); (first | (focus ((with_reducible apply a_call); exact ch; exact rfl; (repeat (first | exact SubsE.nil | (apply SubsE.cons; exact rfl; (first | exact .d (.refl _) | exact .d (.nil _) | exact .agg rfl (.refl _) | exact .pd | exact .ptr rfl); (first | exact trivial | exact ⟨rfl, trivial⟩)))); done)) | ((with_reducible apply a_lptr); (iterate 4 exact rfl); exact ld_reg e hA rfl) | ((with_reducible apply a_lptr); (iterate 4 exact rfl); exact ld_reg e hB rfl) | ((with_reducible apply a_store); (iterate 6 exact rfl); exact hfit; exact ⟨rfl, trivial⟩) | exact by_oa); exact by_g) | ((with_reducible apply CW.cond_t); exact rfl; exact by_ks) | ((with_reducible apply CW.cond_f); exact rfl; exact by_ks) | ((with_reducible apply q_block_miss); exact rfl) | (refine And.intro (show chk [] [] _ _ = true by kernel_rfl) ?_))
          refine q_loopT (x + 1, sk, now, e) ⟨by dsimp only; omega, by dsimp only; omega, hrow, hreg, hf, hsk, hI⟩ (by dsimp only; omega) ?_
          exact by_less

end Go.Proofs.Ytpmbijmmoacnhaa

/-! R4 -/
/-
  Contract of the program's Run of a deed.
-/
namespace Go.Proofs.Ytpmbijmmoacnhaa
open Go.AX Go.RF Go.RowKit

set_option maxRecDepth 100000
set_option maxHeartbeats 8000000

theorem chTy : ∃ ti, tget tbl 67 = some ti ∧ ti.zero = [.bool false, .int .i64 0] := ⟨_, rfl, rfl⟩
theorem mty {n : Nat} {w0 : World} {own0 : Nat → Prop} {ti : TI} (h : tget tbl 67 = some ti) (hz : ti.zero = [.bool false, .int .i64 0]) : MapTy ⟨Try.prog, tbl, tbl_ok, mixed_ok, n, w0, own0⟩ 65 67 ti :=
  ⟨⟨9, Try.underlying65, Try.underlying9⟩, h, by rw [hz]; decide⟩

theorem ok_see (vf : FuncId) (caps : List D) (zs : List Arg) (view : Str → Int × Bool) (hcap : Caps caps zs) (m : Mk) (k : Str) (hv : FnOk Try.prog vf ([.d (dstr k)] ++ zs) (.tup [dint (view k).1, dbool (view k).2])) :
    FnOk Try.prog 24 [.d (dstr k), .pd [mapD (encM m)], .pd [fnD vf caps]] (.one (dint (seeM view m k))) := by
  refine fnOk_of tbl_ok mixed_ok Try.func24 rfl (by kernel_rfl) rfl rfl fun w0 own0 => ?_
  obtain ⟨ti, h1, h2⟩ := chTy
  have hm := mty (n := Try.f24.ntmps) (w0 := w0) (own0 := own0) h1 h2
  have hg := mget_enc m k
  have hz1 : ∀ u ∈ ti.zero, Value.oneCell' u = true := by rw [h2]; decide
  unfold seeM
  cases hk : mG m k with
  | some c =>
    rw [hk] at hg
    have hl : mlook ti (encM m) k = chV c := by simp [mlook, hg]
    have ha := fun {d : Nat} {ty : TypeId} {pos : String} {af : Array Edge} {gd : Option (Nat × Bool)} {σ : St} {x y : Operand} (hx) (hy) (hd) => a_mlookd (σ := σ) (d := d) (ty := ty) (pos := pos) (af := af) (gd := gd) (x := x) (y := y) hm hz1 (encM_one m) (k := k) hx hy hd
    rw [hl, hg] at ha
    repeat (first | ((with_reducible apply s1); exact rfl) | (with_reducible first | apply CW.seq | apply CW.block | apply CW.region | apply CW.draw | apply CW.skip | apply CW.exit | apply CW.ret | apply q_then | apply q_then_exit | apply q_then_ret | apply q_block | apply q_block_ret | apply q_block_hit | apply q_ret | apply q_end | apply q_loop_exit | apply q_loop_ret | apply q_loopT_exit | apply q_loopT_ret | apply RW.nil) | ((with_reducible apply s3); exact rfl; exact by_k) | ((with_reducible apply s2); exact rfl; exact by_k) | ((with_reducible apply s4); exact rfl) | ((with_reducible apply s5); (first | ((with_reducible apply ha); (iterate 3 exact rfl)) | exact by_oa); exact by_g) | ((with_reducible apply CW.cond_t); exact rfl; exact by_ks) | ((with_reducible apply CW.cond_f); exact rfl; exact by_ks) | ((with_reducible apply q_block_miss); exact rfl) | (refine And.intro (show chk [] [] _ _ = true by kernel_rfl) ?_))
    exact .one (.tmp rfl (.one (.d (.refl _))))
  | none =>
    rw [hk] at hg
    have hl : mlook ti (encM m) k = [.bool false, .int .i64 0] := by simp [mlook, hg, h2]
    have ha := fun {d : Nat} {ty : TypeId} {pos : String} {af : Array Edge} {gd : Option (Nat × Bool)} {σ : St} {x y : Operand} (hx) (hy) (hd) => a_mlookd (σ := σ) (d := d) (ty := ty) (pos := pos) (af := af) (gd := gd) (x := x) (y := y) hm hz1 (encM_one m) (k := k) hx hy hd
    rw [hl, hg] at ha
    repeat (first | ((with_reducible apply s1); exact rfl) | (with_reducible first | apply CW.seq | apply CW.block | apply CW.region | apply CW.draw | apply CW.skip | apply CW.exit | apply CW.ret | apply q_then | apply q_then_exit | apply q_then_ret | apply q_block | apply q_block_ret | apply q_block_hit | apply q_ret | apply q_end | apply q_loop_exit | apply q_loop_ret | apply q_loopT_exit | apply q_loopT_ret | apply RW.nil) | ((with_reducible apply s3); exact rfl; exact by_k) | ((with_reducible apply s2); exact rfl; exact by_k) | ((with_reducible apply s4); exact rfl) | ((with_reducible apply s5); (first | ((with_reducible apply ha); (iterate 3 exact rfl)) | (focus (with_reducible apply (a_callfn (ys := [.d (dstr k)]))); exact hv; exact hcap; exact rfl; exact rfl; apply SubsE.cons; exact rfl; exact .d (.refl _); exact trivial; exact SubsE.nil) | exact by_oa); exact by_g) | ((with_reducible apply CW.cond_t); exact rfl; exact by_ks) | ((with_reducible apply CW.cond_f); exact rfl; exact by_ks) | ((with_reducible apply q_block_miss); exact rfl) | (refine And.intro (show chk [] [] _ _ = true by kernel_rfl) ?_))
    exact .one (.tmp rfl (.one (.d (.refl _))))

theorem ok_run (vf : FuncId) (caps : List D) (zs : List Arg) (view : Str → Int × Bool) (d : Deed) (hcap : Caps caps zs) (hv : ∀ k ∈ d.reads, FnOk Try.prog vf ([.d (dstr k)] ++ zs) (.tup [dint (view k).1, dbool (view k).2]))
    (hvn : ∀ k, nOk (view k).1) (hc : d.code.length ≤ 134217728) (hw : d.writes.length ≤ 134217728) (hi : ∀ i ∈ d.code, i.Ok) (hk : ∀ i ∈ d.code, i.kind = 1 → i.key ∈ d.reads) :
    FnOk Try.prog 14 [.d (.agg d.enc), .d (fnD vf caps)] (.tup (runRes view d)) := by
  refine fnOk_of tbl_ok mixed_ok Try.func14 rfl (by kernel_rfl) rfl rfl fun w0 own0 => ?_
  obtain ⟨ti, hti, htz⟩ := chTy
  have hmt := mty (n := Try.f14.ntmps) (w0 := w0) (own0 := own0) hti htz
  have hz1 : ∀ u ∈ ti.zero, Value.oneCell' u = true := by rw [htz]; decide
  repeat (first | ((with_reducible apply stop_at 2); exact rfl) | ((with_reducible apply s1); exact rfl) | (with_reducible first | apply CW.seq | apply CW.block | apply CW.region | apply CW.draw | apply CW.skip | apply CW.exit | apply CW.ret | apply q_then | apply q_then_exit | apply q_then_ret | apply q_block | apply q_block_ret | apply q_block_hit | apply q_ret | apply q_end | apply q_loop_exit | apply q_loop_ret | apply q_loopT_exit | apply q_loopT_ret | apply RW.nil) | ((with_reducible apply s3); exact rfl; exact by_k) | ((with_reducible apply s2); exact rfl; exact by_k) | ((with_reducible apply s4); exact rfl) | ((with_reducible apply s5); (first | exact by_oa); exact by_g) | ((with_reducible apply CW.cond_t); exact rfl; exact by_ks) | ((with_reducible apply CW.cond_f); exact rfl; exact by_ks) | ((with_reducible apply q_block_miss); exact rfl) | (refine And.intro (show chk [] [] _ _ = true by kernel_rfl) ?_))
  refine Stop.go (CW.seq (CW.regionS ?_))
  refine SW.fam rfl (fam_mkmap rfl rfl) fun x0 => ?_
  refine SW.fact (p := ∃ b, x0 = .map (some b)) (map_known (id := 4) (M := []) rfl) ?_
  rintro ⟨b0, rfl⟩
  refine SW.rw ?_
  repeat (first | (with_reducible apply stop_reg 3) | ((with_reducible apply s1); exact rfl) | (with_reducible first | apply CW.seq | apply CW.block | apply CW.region | apply CW.draw | apply CW.skip | apply CW.exit | apply CW.ret | apply q_then | apply q_then_exit | apply q_then_ret | apply q_block | apply q_block_ret | apply q_block_hit | apply q_ret | apply q_end | apply q_loop_exit | apply q_loop_ret | apply q_loopT_exit | apply q_loopT_ret | apply RW.nil) | ((with_reducible apply s3); exact rfl; exact by_k) | ((with_reducible apply s2); exact rfl; exact by_k) | ((with_reducible apply s4); exact rfl) | ((with_reducible apply s5); (first | exact by_oa); exact by_g) | ((with_reducible apply CW.cond_t); exact rfl; exact by_ks) | ((with_reducible apply CW.cond_f); exact rfl; exact by_ks) | ((with_reducible apply q_block_miss); exact rfl) | (refine And.intro (show chk [] [] _ _ = true by kernel_rfl) ?_))
  refine Stop.go (CW.stut (stut_freezebox (i := 8) (id := 5) (ds := [.v (.map (some b0))]) rfl) ⟨rfl, rfl, trivial⟩ ?_)
  refine CW.stut (stut_freezebox (i := 3) (id := 1) (ds := [fnD vf caps]) rfl) ⟨rfl, rfl, trivial⟩ ?_
  repeat (first | (with_reducible apply stop_reg 4) | ((with_reducible apply s1); exact rfl) | (with_reducible first | apply CW.seq | apply CW.block | apply CW.region | apply CW.draw | apply CW.skip | apply CW.exit | apply CW.ret | apply q_then | apply q_then_exit | apply q_then_ret | apply q_block | apply q_block_ret | apply q_block_hit | apply q_ret | apply q_end | apply q_loop_exit | apply q_loop_ret | apply q_loopT_exit | apply q_loopT_ret | apply RW.nil) | ((with_reducible apply s3); exact rfl; exact by_k) | ((with_reducible apply s2); exact rfl; exact by_k) | ((with_reducible apply s4); exact rfl) | ((with_reducible apply s5); (first | ((with_reducible apply (a_mkfn (ds := [refD [.v (.map (some b0))], refD [fnD vf caps]]))); exact rfl; apply SubsE.cons; exact rfl; exact .d (.refl _); exact trivial; apply SubsE.cons; exact rfl; exact .d (.refl _); exact trivial; exact SubsE.nil) | exact by_oa); exact by_g) | ((with_reducible apply CW.cond_t); exact rfl; exact by_ks) | ((with_reducible apply CW.cond_f); exact rfl; exact by_ks) | ((with_reducible apply q_block_miss); exact rfl) | (refine And.intro (show chk [] [] _ _ = true by kernel_rfl) ?_))
  refine Stop.go (CW.stut (stut_refpd (i := 8)) ⟨rfl, trivial⟩ ?_)
  repeat (first | ((with_reducible apply s1); exact rfl) | (with_reducible first | apply CW.seq | apply CW.block | apply CW.region | apply CW.draw | apply CW.skip | apply CW.exit | apply CW.ret | apply q_then | apply q_then_exit | apply q_then_ret | apply q_block | apply q_block_ret | apply q_block_hit | apply q_ret | apply q_end | apply q_loop_exit | apply q_loop_ret | apply q_loopT_exit | apply q_loopT_ret | apply RW.nil) | ((with_reducible apply s3); exact rfl; exact by_k) | ((with_reducible apply s2); exact rfl; exact by_k) | ((with_reducible apply s4); exact rfl) | ((with_reducible apply s5); (first | exact by_oa); exact by_g) | ((with_reducible apply CW.cond_t); exact rfl; exact by_ks) | ((with_reducible apply CW.cond_f); exact rfl; exact by_ks) | ((with_reducible apply q_block_miss); exact rfl) | (refine And.intro (show chk [] [] _ _ = true by kernel_rfl) ?_))
  refine CW.loopT (fun t : Nat × Mk × Done => [sp 2 0, ob 0 d.enc, sp 4 2, ob 2 done0.enc, sd 5 (.v nilS), sd 6 (.v nilS), sp 7 3, ob 3 t.2.2.enc, (.s 8, .av (.pd [.v (.map (some b0))])), sd 9 (fnD 24 [refD [.v (.map (some b0))], refD [fnD vf caps]]), (.s 10, .av (.ptr 3 1)), (.o 4, .ob (.mp (encM t.2.1) (.map (some b0)))), sd 11 (dint t.1), nxt 6])
    (fun t => mOk t.2.1 ∧ t.2.2.Ok ∧ t.2.2.failed = false ∧ runGo view 0 t.2.1 t.2.2 (d.code.drop t.1) = runM view d)
    (fun t => d.code.length - t.1) (0, [], done0) ⟨mOk_nil, ⟨by simp [nOk, done0], by simp [nOk, done0], by simp [nOk, done0], by simp [nOk, done0]⟩, rfl, rfl⟩ ?_ ?_
  ·
    exact by_less
  · rintro ⟨x, m, e⟩ ⟨hm, he, hf, hI⟩
    dsimp only at hm he hf hI ⊢
    by_cases hx : x < d.code.length
    · obtain ⟨i, h1, h2⟩ : ∃ i, d.code.drop x = i :: d.code.drop (x + 1) ∧ d.code[x]? = some i := ⟨d.code[x], List.drop_eq_getElem_cons hx, List.getElem?_eq_getElem hx⟩
      rw [h1] at hI
      simp only [runGo] at hI
      rw [if_neg (show ¬ (0 : Int) < 0 by decide)] at hI
      have hio := hi i (List.mem_of_getElem? h2)
      obtain ⟨kd, ia, ib, n, key⟩ := i
      obtain ⟨A, rfl⟩ := Int.eq_ofNat_of_zero_le hio.a.1
      obtain ⟨B, rfl⟩ := Int.eq_ofNat_of_zero_le hio.b.1
      have hA : A < 4 := by have := hio.a.2; dsimp only at this; omega
      have hB : B < 4 := by have := hio.b.2; dsimp only at this; omega
      have hga := rget_ok he A
      have hgb := rget_ok he B
      have hst := fun y => st_reg e hA y
      have hfit := fit_reg e hA
      have hself := rset_self e A
      have hkk := hio.k
      have hcn := hio.c
      have hcs := hio.s
      dsimp only [Int.toNat_natCast] at hI hkk hcn hcs
      have hkd : kd = 1 ∨ kd = 2 ∨ kd = 3 ∨ kd = 4 ∨ kd = 5 ∨ kd = 6 ∨ kd = 7 ∨ kd = 8 ∨ kd = 9 := by omega
      clear hkk hio h1
      unfold nOk at hga hgb
      rcases hkd with rfl | rfl | rfl | rfl | rfl | rfl | rfl | rfl | rfl
      · rw [if_pos rfl] at hI
        have hsee := ok_see vf caps zs view hcap m key (hv key (hk _ (List.mem_of_getElem? h2) rfl))
        have hs := hst (seeM view m key)
        repeat (first | ((with_reducible apply s1); exact rfl) | (with_reducible first | apply CW.seq | apply CW.block | apply CW.region | apply CW.draw | apply CW.skip | apply CW.exit | apply CW.ret | apply q_then | apply q_then_exit | apply q_then_ret | apply q_block | apply q_block_ret | apply q_block_hit | apply q_ret | apply q_end | apply q_loop_exit | apply q_loop_ret | apply q_loopT_exit | apply q_loopT_ret | apply RW.nil) | ((with_reducible apply s3); exact rfl; exact by_k) | ((with_reducible apply s2); exact rfl; exact by_k) | ((with_reducible apply s4); exact rfl) | ((with_reducible apply s5); (first | (focus (with_reducible apply (a_callfnM (ys := [.d (dstr key)]) (id := 4) (x0 := .map (some b0)) (M := encM m))); exact hsee; exact .map (.ref .nil); exact rfl; exact rfl; exact rfl; exact rfl; apply SubsE.cons; exact rfl; exact .d (.refl _); exact trivial; exact SubsE.nil) | ((with_reducible apply a_lptr); (iterate 4 exact rfl); exact ld_reg e hA rfl) | ((with_reducible apply a_lptr); (iterate 4 exact rfl); exact ld_reg e hB rfl) | ((with_reducible apply a_store); (iterate 6 exact rfl); exact hfit; exact ⟨rfl, trivial⟩) | ((with_reducible apply a_nilp); (iterate 3 exact rfl)) | exact by_oa); exact by_g) | ((with_reducible apply CW.cond_t); exact rfl; exact by_ks) | ((with_reducible apply CW.cond_f); exact rfl; exact by_ks) | ((with_reducible apply q_block_miss); exact rfl) | (refine And.intro (show chk [] [] _ _ = true by kernel_rfl) ?_))
        refine q_loopT (x + 1, m, rset e A (seeM view m key)) ⟨hm, rset_ok he A (see_ok hvn hm key), by rw [rset_failed]; exact hf, hI⟩ (by dsimp only; omega) ?_
        exact by_less
      · rw [if_neg (show ¬ (2 : Int) = 1 by decide), if_pos rfl] at hI
        have hs := hst n
        repeat (first | ((with_reducible apply s1); exact rfl) | (with_reducible first | apply CW.seq | apply CW.block | apply CW.region | apply CW.draw | apply CW.skip | apply CW.exit | apply CW.ret | apply q_then | apply q_then_exit | apply q_then_ret | apply q_block | apply q_block_ret | apply q_block_hit | apply q_ret | apply q_end | apply q_loop_exit | apply q_loop_ret | apply q_loopT_exit | apply q_loopT_ret | apply RW.nil) | ((with_reducible apply s3); exact rfl; exact by_k) | ((with_reducible apply s2); exact rfl; exact by_k) | ((with_reducible apply s4); exact rfl) | ((with_reducible apply s5); (first | ((with_reducible apply a_lptr); (iterate 4 exact rfl); exact ld_reg e hA rfl) | ((with_reducible apply a_lptr); (iterate 4 exact rfl); exact ld_reg e hB rfl) | ((with_reducible apply a_store); (iterate 6 exact rfl); exact hfit; exact ⟨rfl, trivial⟩) | ((with_reducible apply a_nilp); (iterate 3 exact rfl)) | exact by_oa); exact by_g) | ((with_reducible apply CW.cond_t); exact rfl; exact by_ks) | ((with_reducible apply CW.cond_f); exact rfl; exact by_ks) | ((with_reducible apply q_block_miss); exact rfl) | (refine And.intro (show chk [] [] _ _ = true by kernel_rfl) ?_))
        refine q_loopT (x + 1, m, rset e A n) ⟨hm, rset_ok he A (hcn rfl), by rw [rset_failed]; exact hf, hI⟩ (by dsimp only; omega) ?_
        exact by_less
      · rw [if_neg (show ¬ (3 : Int) = 1 by decide), if_neg (show ¬ (3 : Int) = 2 by decide), if_pos rfl] at hI
        have hs := hst (round (rget e A + rget e B))
        have cr := ok_pround (rget e A + rget e B) (by unfold inI; omega)
        repeat (first | ((with_reducible apply s1); exact rfl) | (with_reducible first | apply CW.seq | apply CW.block | apply CW.region | apply CW.draw | apply CW.skip | apply CW.exit | apply CW.ret | apply q_then | apply q_then_exit | apply q_then_ret | apply q_block | apply q_block_ret | apply q_block_hit | apply q_ret | apply q_end | apply q_loop_exit | apply q_loop_ret | apply q_loopT_exit | apply q_loopT_ret | apply RW.nil) | ((with_reducible apply s3); exact rfl; exact by_k) | ((with_reducible apply s2); exact rfl; exact by_k) | ((with_reducible apply s4); exact rfl) | ((with_reducible apply s5); (first | (focus ((with_reducible apply a_call); exact cr; exact rfl; (repeat (first | exact SubsE.nil | (apply SubsE.cons; exact rfl; (first | exact .d (.refl _) | exact .d (.nil _) | exact .agg rfl (.refl _) | exact .pd | exact .ptr rfl); (first | exact trivial | exact ⟨rfl, trivial⟩)))); done)) | ((with_reducible apply a_lptr); (iterate 4 exact rfl); exact ld_reg e hA rfl) | ((with_reducible apply a_lptr); (iterate 4 exact rfl); exact ld_reg e hB rfl) | ((with_reducible apply a_store); (iterate 6 exact rfl); exact hfit; exact ⟨rfl, trivial⟩) | ((with_reducible apply a_nilp); (iterate 3 exact rfl)) | ((with_reducible apply a_bin); (iterate 2 exact rfl); (apply bin_add; omega); exact rfl) | exact by_oa); exact by_g) | ((with_reducible apply CW.cond_t); exact rfl; exact by_ks) | ((with_reducible apply CW.cond_f); exact rfl; exact by_ks) | ((with_reducible apply q_block_miss); exact rfl) | (refine And.intro (show chk [] [] _ _ = true by kernel_rfl) ?_))
        refine q_loopT (x + 1, m, rset e A (round (rget e A + rget e B))) ⟨hm, rset_ok he A (round_ok _), by rw [rset_failed]; exact hf, hI⟩ (by dsimp only; omega) ?_
        exact by_less
      · rw [if_neg (show ¬ (4 : Int) = 1 by decide), if_neg (show ¬ (4 : Int) = 2 by decide), if_neg (show ¬ (4 : Int) = 3 by decide), if_pos rfl] at hI
        have hs := hst (round (rget e A - rget e B))
        have cr := ok_pround (rget e A - rget e B) (by unfold inI; omega)
        repeat (first | ((with_reducible apply s1); exact rfl) | (with_reducible first | apply CW.seq | apply CW.block | apply CW.region | apply CW.draw | apply CW.skip | apply CW.exit | apply CW.ret | apply q_then | apply q_then_exit | apply q_then_ret | apply q_block | apply q_block_ret | apply q_block_hit | apply q_ret | apply q_end | apply q_loop_exit | apply q_loop_ret | apply q_loopT_exit | apply q_loopT_ret | apply RW.nil) | ((with_reducible apply s3); exact rfl; exact by_k) | ((with_reducible apply s2); exact rfl; exact by_k) | ((with_reducible apply s4); exact rfl) | ((with_reducible apply s5); (first | (focus ((with_reducible apply a_call); exact cr; exact rfl; (repeat (first | exact SubsE.nil | (apply SubsE.cons; exact rfl; (first | exact .d (.refl _) | exact .d (.nil _) | exact .agg rfl (.refl _) | exact .pd | exact .ptr rfl); (first | exact trivial | exact ⟨rfl, trivial⟩)))); done)) | ((with_reducible apply a_lptr); (iterate 4 exact rfl); exact ld_reg e hA rfl) | ((with_reducible apply a_lptr); (iterate 4 exact rfl); exact ld_reg e hB rfl) | ((with_reducible apply a_store); (iterate 6 exact rfl); exact hfit; exact ⟨rfl, trivial⟩) | ((with_reducible apply a_nilp); (iterate 3 exact rfl)) | ((with_reducible apply a_bin); (iterate 2 exact rfl); (apply bin_sub; omega); exact rfl) | exact by_oa); exact by_g) | ((with_reducible apply CW.cond_t); exact rfl; exact by_ks) | ((with_reducible apply CW.cond_f); exact rfl; exact by_ks) | ((with_reducible apply q_block_miss); exact rfl) | (refine And.intro (show chk [] [] _ _ = true by kernel_rfl) ?_))
        refine q_loopT (x + 1, m, rset e A (round (rget e A - rget e B))) ⟨hm, rset_ok he A (round_ok _), by rw [rset_failed]; exact hf, hI⟩ (by dsimp only; omega) ?_
        exact by_less
      · rw [if_neg (show ¬ (5 : Int) = 1 by decide), if_neg (show ¬ (5 : Int) = 2 by decide), if_neg (show ¬ (5 : Int) = 3 by decide), if_neg (show ¬ (5 : Int) = 4 by decide), if_pos rfl] at hI
        have hmul : -1152921504606846976 ≤ rget e A * rget e B ∧ rget e A * rget e B ≤ 1152921504606846976 := mul_bound hga hgb
        have hs := hst (round (rget e A * rget e B))
        have cr := ok_pround (rget e A * rget e B) (by unfold inI; omega)
        repeat (first | ((with_reducible apply s1); exact rfl) | (with_reducible first | apply CW.seq | apply CW.block | apply CW.region | apply CW.draw | apply CW.skip | apply CW.exit | apply CW.ret | apply q_then | apply q_then_exit | apply q_then_ret | apply q_block | apply q_block_ret | apply q_block_hit | apply q_ret | apply q_end | apply q_loop_exit | apply q_loop_ret | apply q_loopT_exit | apply q_loopT_ret | apply RW.nil) | ((with_reducible apply s3); exact rfl; exact by_k) | ((with_reducible apply s2); exact rfl; exact by_k) | ((with_reducible apply s4); exact rfl) | ((with_reducible apply s5); (first | (focus ((with_reducible apply a_call); exact cr; exact rfl; (repeat (first | exact SubsE.nil | (apply SubsE.cons; exact rfl; (first | exact .d (.refl _) | exact .d (.nil _) | exact .agg rfl (.refl _) | exact .pd | exact .ptr rfl); (first | exact trivial | exact ⟨rfl, trivial⟩)))); done)) | ((with_reducible apply a_lptr); (iterate 4 exact rfl); exact ld_reg e hA rfl) | ((with_reducible apply a_lptr); (iterate 4 exact rfl); exact ld_reg e hB rfl) | ((with_reducible apply a_store); (iterate 6 exact rfl); exact hfit; exact ⟨rfl, trivial⟩) | ((with_reducible apply a_nilp); (iterate 3 exact rfl)) | ((with_reducible apply a_bin); (iterate 2 exact rfl); (apply bin_mul; omega); exact rfl) | exact by_oa); exact by_g) | ((with_reducible apply CW.cond_t); exact rfl; exact by_ks) | ((with_reducible apply CW.cond_f); exact rfl; exact by_ks) | ((with_reducible apply q_block_miss); exact rfl) | (refine And.intro (show chk [] [] _ _ = true by kernel_rfl) ?_))
        refine q_loopT (x + 1, m, rset e A (round (rget e A * rget e B))) ⟨hm, rset_ok he A (round_ok _), by rw [rset_failed]; exact hf, hI⟩ (by dsimp only; omega) ?_
        exact by_less
      · rw [if_neg (show ¬ (6 : Int) = 1 by decide), if_neg (show ¬ (6 : Int) = 2 by decide), if_neg (show ¬ (6 : Int) = 3 by decide), if_neg (show ¬ (6 : Int) = 4 by decide), if_neg (show ¬ (6 : Int) = 5 by decide), if_pos rfl] at hI
        have hms := mset_enc m key (true, rget e A)
        repeat (first | ((with_reducible apply s1); exact rfl) | (with_reducible first | apply CW.seq | apply CW.block | apply CW.region | apply CW.draw | apply CW.skip | apply CW.exit | apply CW.ret | apply q_then | apply q_then_exit | apply q_then_ret | apply q_block | apply q_block_ret | apply q_block_hit | apply q_ret | apply q_end | apply q_loop_exit | apply q_loop_ret | apply q_loopT_exit | apply q_loopT_ret | apply RW.nil) | ((with_reducible apply s3); exact rfl; exact by_k) | ((with_reducible apply s2); exact rfl; exact by_k) | ((with_reducible apply s4); exact rfl) | ((with_reducible apply s5); (first | ((with_reducible apply a_lptr); (iterate 4 exact rfl); exact ld_reg e hA rfl) | ((with_reducible apply a_lptr); (iterate 4 exact rfl); exact ld_reg e hB rfl) | ((with_reducible apply a_store); (iterate 6 exact rfl); exact hfit; exact ⟨rfl, trivial⟩) | ((with_reducible apply a_nilp); (iterate 3 exact rfl)) | ((with_reducible apply (a_mset (us := [.bool true, .int .i64 (rget e A)]) 4 hmt)); (iterate 3 exact rfl); exact .d rfl; exact rfl) | exact by_oa); exact by_g) | ((with_reducible apply CW.cond_t); exact rfl; exact by_ks) | ((with_reducible apply CW.cond_f); exact rfl; exact by_ks) | ((with_reducible apply q_block_miss); exact rfl) | (refine And.intro (show chk [] [] _ _ = true by kernel_rfl) ?_))
        rw [show [Value.bool true, .int .i64 (rget e A)] = chV (true, rget e A) from rfl, hms]
        refine q_loopT (x + 1, mS m key (true, rget e A), e) ⟨mOk_set hm key (rget_ok he A), he, hf, hI⟩ (by dsimp only; omega) ?_
        exact by_less
      · rw [if_neg (show ¬ (7 : Int) = 1 by decide), if_neg (show ¬ (7 : Int) = 2 by decide), if_neg (show ¬ (7 : Int) = 3 by decide), if_neg (show ¬ (7 : Int) = 4 by decide), if_neg (show ¬ (7 : Int) = 5 by decide), if_neg (show ¬ (7 : Int) = 6 by decide), if_pos rfl] at hI
        have hms := mset_enc m key (false, 0)
        repeat (first | ((with_reducible apply s1); exact rfl) | (with_reducible first | apply CW.seq | apply CW.block | apply CW.region | apply CW.draw | apply CW.skip | apply CW.exit | apply CW.ret | apply q_then | apply q_then_exit | apply q_then_ret | apply q_block | apply q_block_ret | apply q_block_hit | apply q_ret | apply q_end | apply q_loop_exit | apply q_loop_ret | apply q_loopT_exit | apply q_loopT_ret | apply RW.nil) | ((with_reducible apply s3); exact rfl; exact by_k) | ((with_reducible apply s2); exact rfl; exact by_k) | ((with_reducible apply s4); exact rfl) | ((with_reducible apply s5); (first | ((with_reducible apply a_lptr); (iterate 4 exact rfl); exact ld_reg e hA rfl) | ((with_reducible apply a_lptr); (iterate 4 exact rfl); exact ld_reg e hB rfl) | ((with_reducible apply a_store); (iterate 6 exact rfl); exact hfit; exact ⟨rfl, trivial⟩) | ((with_reducible apply a_nilp); (iterate 3 exact rfl)) | ((with_reducible apply (a_mset (us := [.bool false, .int .i64 0]) 4 hmt)); (iterate 3 exact rfl); exact .d rfl; exact rfl) | exact by_oa); exact by_g) | ((with_reducible apply CW.cond_t); exact rfl; exact by_ks) | ((with_reducible apply CW.cond_f); exact rfl; exact by_ks) | ((with_reducible apply q_block_miss); exact rfl) | (refine And.intro (show chk [] [] _ _ = true by kernel_rfl) ?_))
        rw [show [Value.bool false, .int .i64 0] = chV (false, 0) from rfl, hms]
        refine q_loopT (x + 1, mS m key (false, 0), e) ⟨mOk_set hm key (by simp [nOk]), he, hf, hI⟩ (by dsimp only; omega) ?_
        exact by_less
      · rw [if_neg (show ¬ (8 : Int) = 1 by decide), if_neg (show ¬ (8 : Int) = 2 by decide), if_neg (show ¬ (8 : Int) = 3 by decide), if_neg (show ¬ (8 : Int) = 4 by decide), if_neg (show ¬ (8 : Int) = 5 by decide), if_neg (show ¬ (8 : Int) = 6 by decide), if_neg (show ¬ (8 : Int) = 7 by decide), if_pos rfl] at hI
        obtain ⟨N, rfl⟩ := Int.eq_ofNat_of_zero_le (hcs rfl).1
        have hN := (hcs rfl).2
        by_cases h5 : rget e A < 1
        · rw [if_pos h5, runGo_skip, List.drop_drop] at hI
          repeat (first | ((with_reducible apply s1); exact rfl) | (with_reducible first | apply CW.seq | apply CW.block | apply CW.region | apply CW.draw | apply CW.skip | apply CW.exit | apply CW.ret | apply q_then | apply q_then_exit | apply q_then_ret | apply q_block | apply q_block_ret | apply q_block_hit | apply q_ret | apply q_end | apply q_loop_exit | apply q_loop_ret | apply q_loopT_exit | apply q_loopT_ret | apply RW.nil) | ((with_reducible apply s3); exact rfl; exact by_k) | ((with_reducible apply s2); exact rfl; exact by_k) | ((with_reducible apply s4); exact rfl) | ((with_reducible apply s5); (first | ((with_reducible apply a_lptr); (iterate 4 exact rfl); exact ld_reg e hA rfl) | ((with_reducible apply a_lptr); (iterate 4 exact rfl); exact ld_reg e hB rfl) | ((with_reducible apply a_store); (iterate 6 exact rfl); exact hfit; exact ⟨rfl, trivial⟩) | ((with_reducible apply a_nilp); (iterate 3 exact rfl)) | exact by_oa); exact by_g) | ((with_reducible apply CW.cond_t); exact rfl; exact by_ks) | ((with_reducible apply CW.cond_f); exact rfl; exact by_ks) | ((with_reducible apply q_block_miss); exact rfl) | (refine And.intro (show chk [] [] _ _ = true by kernel_rfl) ?_))
          refine q_loopT (x + N + 1, m, e) ⟨hm, he, hf, by dsimp only; rw [← hI]; congr 2; omega⟩ (by dsimp only; omega) ?_
          exact by_less
        · rw [if_neg h5] at hI
          repeat (first | ((with_reducible apply s1); exact rfl) | (with_reducible first | apply CW.seq | apply CW.block | apply CW.region | apply CW.draw | apply CW.skip | apply CW.exit | apply CW.ret | apply q_then | apply q_then_exit | apply q_then_ret | apply q_block | apply q_block_ret | apply q_block_hit | apply q_ret | apply q_end | apply q_loop_exit | apply q_loop_ret | apply q_loopT_exit | apply q_loopT_ret | apply RW.nil) | ((with_reducible apply s3); exact rfl; exact by_k) | ((with_reducible apply s2); exact rfl; exact by_k) | ((with_reducible apply s4); exact rfl) | ((with_reducible apply s5); (first | ((with_reducible apply a_lptr); (iterate 4 exact rfl); exact ld_reg e hA rfl) | ((with_reducible apply a_lptr); (iterate 4 exact rfl); exact ld_reg e hB rfl) | ((with_reducible apply a_store); (iterate 6 exact rfl); exact hfit; exact ⟨rfl, trivial⟩) | ((with_reducible apply a_nilp); (iterate 3 exact rfl)) | exact by_oa); exact by_g) | ((with_reducible apply CW.cond_t); exact rfl; exact by_ks) | ((with_reducible apply CW.cond_f); exact rfl; exact by_ks) | ((with_reducible apply q_block_miss); exact rfl) | (refine And.intro (show chk [] [] _ _ = true by kernel_rfl) ?_))
          refine q_loopT (x + 1, m, e) ⟨hm, he, hf, hI⟩ (by dsimp only; omega) ?_
          exact by_less
      · rw [if_neg (show ¬ (9 : Int) = 1 by decide), if_neg (show ¬ (9 : Int) = 2 by decide), if_neg (show ¬ (9 : Int) = 3 by decide), if_neg (show ¬ (9 : Int) = 4 by decide), if_neg (show ¬ (9 : Int) = 5 by decide), if_neg (show ¬ (9 : Int) = 6 by decide), if_neg (show ¬ (9 : Int) = 7 by decide), if_neg (show ¬ (9 : Int) = 8 by decide)] at hI
        by_cases h5 : rget e A < 0
        · rw [if_pos h5] at hI
          repeat (first | ((with_reducible apply s1); exact rfl) | (with_reducible first | apply CW.seq | apply CW.block | apply CW.region | apply CW.draw | apply CW.skip | apply CW.exit | apply CW.ret | apply q_then | apply q_then_exit | apply q_then_ret | apply q_block | apply q_block_ret | apply q_block_hit | apply q_ret | apply q_end | apply q_loop_exit | apply q_loop_ret | apply q_loopT_exit | apply q_loopT_ret | apply RW.nil) | ((with_reducible apply s3); exact rfl; exact by_k) | ((with_reducible apply s2); exact rfl; exact by_k) | ((with_reducible apply s4); exact rfl) | ((with_reducible apply s5); (first | ((with_reducible apply a_lptr); (iterate 4 exact rfl); exact ld_reg e hA rfl) | ((with_reducible apply a_lptr); (iterate 4 exact rfl); exact ld_reg e hB rfl) | ((with_reducible apply a_store); (iterate 6 exact rfl); exact hfit; exact ⟨rfl, trivial⟩) | ((with_reducible apply a_nilp); (iterate 3 exact rfl)) | exact by_oa); exact by_g) | ((with_reducible apply CW.cond_t); exact rfl; exact by_ks) | ((with_reducible apply CW.cond_f); exact rfl; exact by_ks) | ((with_reducible apply q_block_miss); exact rfl) | (refine And.intro (show chk [] [] _ _ = true by kernel_rfl) ?_))
          unfold runRes runC
          rw [← hI]
          exact .three (.cell rfl rfl rfl rfl (.aggd rfl (.refl _))) (.tmp rfl (.one (.d (.nil _)))) (.tmp rfl (.one (.d (.nil _))))
        · rw [if_neg h5] at hI
          repeat (first | ((with_reducible apply s1); exact rfl) | (with_reducible first | apply CW.seq | apply CW.block | apply CW.region | apply CW.draw | apply CW.skip | apply CW.exit | apply CW.ret | apply q_then | apply q_then_exit | apply q_then_ret | apply q_block | apply q_block_ret | apply q_block_hit | apply q_ret | apply q_end | apply q_loop_exit | apply q_loop_ret | apply q_loopT_exit | apply q_loopT_ret | apply RW.nil) | ((with_reducible apply s3); exact rfl; exact by_k) | ((with_reducible apply s2); exact rfl; exact by_k) | ((with_reducible apply s4); exact rfl) | ((with_reducible apply s5); (first | ((with_reducible apply a_lptr); (iterate 4 exact rfl); exact ld_reg e hA rfl) | ((with_reducible apply a_lptr); (iterate 4 exact rfl); exact ld_reg e hB rfl) | ((with_reducible apply a_store); (iterate 6 exact rfl); exact hfit; exact ⟨rfl, trivial⟩) | ((with_reducible apply a_nilp); (iterate 3 exact rfl)) | exact by_oa); exact by_g) | ((with_reducible apply CW.cond_t); exact rfl; exact by_ks) | ((with_reducible apply CW.cond_f); exact rfl; exact by_ks) | ((with_reducible apply q_block_miss); exact rfl) | (refine And.intro (show chk [] [] _ _ = true by kernel_rfl) ?_))
          refine q_loopT (x + 1, m, e) ⟨hm, he, hf, hI⟩ (by dsimp only; omega) ?_
          exact by_less
    · rw [List.drop_eq_nil_of_le (by omega)] at hI
      simp only [runGo] at hI
      have hchl : ∀ j, j ≤ d.writes.length → (chg m (d.writes.drop j)).length ≤ d.writes.length - j := fun j _ => by
        have := chg_len m (d.writes.drop j); simpa using this
      repeat (first | ((with_reducible apply stop_at 33); exact rfl) | ((with_reducible apply s1); exact rfl) | (with_reducible first | apply CW.seq | apply CW.block | apply CW.region | apply CW.draw | apply CW.skip | apply CW.exit | apply CW.ret | apply q_then | apply q_then_exit | apply q_then_ret | apply q_block | apply q_block_ret | apply q_block_hit | apply q_ret | apply q_end | apply q_loop_exit | apply q_loop_ret | apply q_loopT_exit | apply q_loopT_ret | apply RW.nil) | ((with_reducible apply s3); exact rfl; exact by_k) | ((with_reducible apply s2); exact rfl; exact by_k) | ((with_reducible apply s4); exact rfl) | ((with_reducible apply s5); (first | exact by_oa); exact by_g) | ((with_reducible apply CW.cond_t); exact rfl; exact by_ks) | ((with_reducible apply CW.cond_f); exact rfl; exact by_ks) | ((with_reducible apply q_block_miss); exact rfl) | (refine And.intro (show chk [] [] _ _ = true by kernel_rfl) ?_))
      refine Stop.go (CW.stut (stut_promote (i := 13) 54 4) ⟨rfl, rfl, trivial⟩ ?_)
      refine CW.stut (stut_promote (i := 14) 9 1) ⟨rfl, rfl, trivial⟩ ?_
      repeat (first | ((with_reducible apply s1); exact rfl) | (with_reducible first | apply CW.seq | apply CW.block | apply CW.region | apply CW.draw | apply CW.skip | apply CW.exit | apply CW.ret | apply q_then | apply q_then_exit | apply q_then_ret | apply q_block | apply q_block_ret | apply q_block_hit | apply q_ret | apply q_end | apply q_loop_exit | apply q_loop_ret | apply q_loopT_exit | apply q_loopT_ret | apply RW.nil) | ((with_reducible apply s3); exact rfl; exact by_k) | ((with_reducible apply s2); exact rfl; exact by_k) | ((with_reducible apply s4); exact rfl) | ((with_reducible apply s5); (first | exact by_oa); exact by_g) | ((with_reducible apply CW.cond_t); exact rfl; exact by_ks) | ((with_reducible apply CW.cond_f); exact rfl; exact by_ks) | ((with_reducible apply q_block_miss); exact rfl) | (refine And.intro (show chk [] [] _ _ = true by kernel_rfl) ?_))
      refine CW.loopT (fun t : Nat × List (Str × (Bool × Int)) => [sp 4 2, ob 2 done0.enc, sd 5 (.v nilS), sd 6 (.v nilS), sp 7 3, ob 3 e.enc, (.s 8, .av (.pd [.v (.map (some b0))])), (.o 4, .ob (.mp (encM m) (.map (some b0)))),
        so 13 6 t.2.length, oa 6 54 4 ((t.2.map chVer).map Version.enc), so 14 7 t.2.length, oa 7 9 1 ((t.2.map (·.1)).map encStr1), sd 162 (encStrs d.writes), sd 163 (dint d.writes.length), sd 164 (dint t.1), nxt 8])
        (fun t => t.1 ≤ d.writes.length ∧ t.2.length ≤ t.1 ∧ t.2 ++ chg m (d.writes.drop t.1) = chg m d.writes) (fun t => d.writes.length - t.1) (0, []) ⟨by omega, by simp, rfl⟩ ?_ ?_
      ·
        exact by_less
      · rintro ⟨j, acc⟩ ⟨hj, hacc, hJ⟩
        dsimp only at hj hacc hJ ⊢
        rcases drop_case hj with ⟨h1, h2⟩ | ⟨k, h1, h2, h3⟩
        · rw [h1, chg, List.append_nil] at hJ
          repeat (first | ((with_reducible apply s1); exact rfl) | (with_reducible first | apply CW.seq | apply CW.block | apply CW.region | apply CW.draw | apply CW.skip | apply CW.exit | apply CW.ret | apply q_then | apply q_then_exit | apply q_then_ret | apply q_block | apply q_block_ret | apply q_block_hit | apply q_ret | apply q_end | apply q_loop_exit | apply q_loop_ret | apply q_loopT_exit | apply q_loopT_ret | apply RW.nil) | ((with_reducible apply s3); exact rfl; exact by_k) | ((with_reducible apply s2); exact rfl; exact by_k) | ((with_reducible apply s4); exact rfl) | ((with_reducible apply s5); (first | exact by_oa); exact by_g) | ((with_reducible apply CW.cond_t); exact rfl; exact by_ks) | ((with_reducible apply CW.cond_f); exact rfl; exact by_ks) | ((with_reducible apply q_block_miss); exact rfl) | (refine And.intro (show chk [] [] _ _ = true by kernel_rfl) ?_))
          have hrc : runC view d = acc := by
            unfold runC
            rw [← hI]
            dsimp only
            rw [if_neg (by rw [hf]; simp), hJ]
          unfold runRes
          rw [hrc, ← hI]
          exact .three (.cell rfl rfl rfl rfl (.aggd rfl (.refl _))) (.tmp rfl (.one (.own rfl (by simp) (.refl _)))) (.tmp rfl (.one (.own rfl (by simp) (.refl _))))
        · rw [h1, chg] at hJ
          have hg := mget_enc m k
          cases hmk : mG m k with
          | none =>
            rw [hmk] at hJ hg
            dsimp only at hJ
            have hl : mlook ti (encM m) k = [.bool false, .int .i64 0] := by simp [mlook, hg, htz]
            have ha := fun {d : Nat} {ty : TypeId} {pos : String} {af : Array Edge} {gd : Option (Nat × Bool)} {σ : St} {x y : Operand} {x0 : Value} (hx) (hy) (ho) (hd) => a_mlook (σ := σ) (d := d) (ty := ty) (pos := pos) (af := af) (gd := gd) (x := x) (y := y) (x0 := x0) 4 hmt hz1 (encM_one m) (k := k) hx hy ho hd
            rw [hl, hg] at ha
            repeat (first | ((with_reducible apply s1); exact rfl) | (with_reducible first | apply CW.seq | apply CW.block | apply CW.region | apply CW.draw | apply CW.skip | apply CW.exit | apply CW.ret | apply q_then | apply q_then_exit | apply q_then_ret | apply q_block | apply q_block_ret | apply q_block_hit | apply q_ret | apply q_end | apply q_loop_exit | apply q_loop_ret | apply q_loopT_exit | apply q_loopT_ret | apply RW.nil) | ((with_reducible apply s3); exact rfl; exact by_k) | ((with_reducible apply s2); exact rfl; exact by_k) | ((with_reducible apply s4); exact rfl) | ((with_reducible apply s5); (first | ((with_reducible apply ha); (iterate 4 exact rfl)) | exact by_oa); exact by_g) | ((with_reducible apply CW.cond_t); exact rfl; exact by_ks) | ((with_reducible apply CW.cond_f); exact rfl; exact by_ks) | ((with_reducible apply q_block_miss); exact rfl) | (refine And.intro (show chk [] [] _ _ = true by kernel_rfl) ?_))
            refine q_loopT (j + 1, acc) ⟨by dsimp only; omega, by dsimp only; omega, hJ⟩ (by dsimp only; omega) ?_
            exact by_less
          | some c =>
            rw [hmk] at hJ hg
            dsimp only at hJ
            have hl : mlook ti (encM m) k = chV c := by simp [mlook, hg]
            have ha := fun {d : Nat} {ty : TypeId} {pos : String} {af : Array Edge} {gd : Option (Nat × Bool)} {σ : St} {x y : Operand} {x0 : Value} (hx) (hy) (ho) (hd) => a_mlook (σ := σ) (d := d) (ty := ty) (pos := pos) (af := af) (gd := gd) (x := x) (y := y) (x0 := x0) 4 hmt hz1 (encM_one m) (k := k) hx hy ho hd
            rw [hl, hg] at ha
            repeat (first | ((with_reducible apply s1); exact rfl) | (with_reducible first | apply CW.seq | apply CW.block | apply CW.region | apply CW.draw | apply CW.skip | apply CW.exit | apply CW.ret | apply q_then | apply q_then_exit | apply q_then_ret | apply q_block | apply q_block_ret | apply q_block_hit | apply q_ret | apply q_end | apply q_loop_exit | apply q_loop_ret | apply q_loopT_exit | apply q_loopT_ret | apply RW.nil) | ((with_reducible apply s3); exact rfl; exact by_k) | ((with_reducible apply s2); exact rfl; exact by_k) | ((with_reducible apply s4); exact rfl) | ((with_reducible apply s5); (first | ((with_reducible apply ha); (iterate 4 exact rfl)) | exact by_oa); exact by_g) | ((with_reducible apply CW.cond_t); exact rfl; exact by_ks) | ((with_reducible apply CW.cond_f); exact rfl; exact by_ks) | ((with_reducible apply q_block_miss); exact rfl) | (refine And.intro (show chk [] [] _ _ = true by kernel_rfl) ?_))
            refine q_loopT (j + 1, acc ++ [(k, c)]) ⟨by dsimp only; omega, by dsimp only; simp; omega, by rw [← hJ]; simp⟩ (by dsimp only; omega) ?_
            exact by_less

end Go.Proofs.Ytpmbijmmoacnhaa

/-! F1 -/
/-
  Contracts of the references' small functions on data: lists held against each other.
-/
namespace Go.Proofs.Ytpmbijmmoacnhaa
open Go.AX Go.RF

set_option maxRecDepth 100000

theorem ok_SameRows (l r : List Pair) (hl : l.length ≤ 1073741824) : FnOk Try.prog 8 [.d (encRows l), .d (encRows r)] (.one (dbool (allB (fun a b => decide (a = b)) l r))) := by
  refine fnOk_of tbl_ok mixed_ok Try.func8 rfl (by kernel_rfl) rfl rfl fun w0 own0 => ?_
  by_cases hlen : l.length = r.length
  ·
    repeat (first | ((with_reducible apply s1); exact rfl) | (with_reducible first | apply CW.seq | apply CW.block | apply CW.region | apply CW.draw | apply CW.skip | apply CW.exit | apply CW.ret | apply q_then | apply q_then_exit | apply q_then_ret | apply q_block | apply q_block_ret | apply q_block_hit | apply q_ret | apply q_end | apply q_loop_exit | apply q_loop_ret | apply q_loopT_exit | apply q_loopT_ret | apply RW.nil) | ((with_reducible apply s3); exact rfl; exact by_k) | ((with_reducible apply s2); exact rfl; exact by_k) | ((with_reducible apply s4); exact rfl) | ((with_reducible apply s5); (first | exact by_oa); exact by_g) | ((with_reducible apply CW.cond_t); exact rfl; exact by_ks) | ((with_reducible apply CW.cond_f); exact rfl; exact by_ks) | ((with_reducible apply q_block_miss); exact rfl) | (refine And.intro (show chk [] [] _ _ = true by kernel_rfl) ?_))
    refine CW.loop (fun k => [(.s 0, .av (.d (encRows l))), (.s 1, .av (.d (encRows r))), (.s 11, .av (.d (encRows l))), (.s 12, .av (.d (dint l.length))), (.s 13, .av (.d (dint k))), (.nx, .num 0)]) (agree (fun a b => decide (a = b)) l r) ?_ fun k hk => ?_
    ·
      exact by_less
    · rcases agree_case hlen hk with ⟨h1, h1', a, b, h2, h3, h4⟩ | ⟨h1, h2⟩ | ⟨h1, h2, a, b, h3, h4, h5⟩
      · replace h4 : a = b := by simpa using h4
        repeat (first | ((with_reducible apply s1); exact rfl) | (with_reducible first | apply CW.seq | apply CW.block | apply CW.region | apply CW.draw | apply CW.skip | apply CW.exit | apply CW.ret | apply q_then | apply q_then_exit | apply q_then_ret | apply q_block | apply q_block_ret | apply q_block_hit | apply q_ret | apply q_end | apply q_loop_exit | apply q_loop_ret | apply q_loopT_exit | apply q_loopT_ret | apply RW.nil) | ((with_reducible apply s3); exact rfl; exact by_k) | ((with_reducible apply s2); exact rfl; exact by_k) | ((with_reducible apply s4); exact rfl) | ((with_reducible apply s5); (first | ((with_reducible apply a_agg); exact neq_pair a b; (iterate 5 exact rfl)) | exact by_oa); exact by_g) | ((with_reducible apply CW.cond_t); exact rfl; exact by_ks) | ((with_reducible apply CW.cond_f); exact rfl; exact by_ks) | ((with_reducible apply q_block_miss); exact rfl) | (refine And.intro (show chk [] [] _ _ = true by kernel_rfl) ?_))
        refine q_loop h1 ?_
        exact by_less
      ·
        repeat (first | ((with_reducible apply s1); exact rfl) | (with_reducible first | apply CW.seq | apply CW.block | apply CW.region | apply CW.draw | apply CW.skip | apply CW.exit | apply CW.ret | apply q_then | apply q_then_exit | apply q_then_ret | apply q_block | apply q_block_ret | apply q_block_hit | apply q_ret | apply q_end | apply q_loop_exit | apply q_loop_ret | apply q_loopT_exit | apply q_loopT_ret | apply RW.nil) | ((with_reducible apply s3); exact rfl; exact by_k) | ((with_reducible apply s2); exact rfl; exact by_k) | ((with_reducible apply s4); exact rfl) | ((with_reducible apply s5); (first | exact by_oa); exact by_g) | ((with_reducible apply CW.cond_t); exact rfl; exact by_ks) | ((with_reducible apply CW.cond_f); exact rfl; exact by_ks) | ((with_reducible apply q_block_miss); exact rfl) | (refine And.intro (show chk [] [] _ _ = true by kernel_rfl) ?_))
        exact .one (.tmp rfl (.one (.d (dle_bool h2.symm))))
      · replace h5 : ¬ a = b := by simpa using h5
        repeat (first | ((with_reducible apply s1); exact rfl) | (with_reducible first | apply CW.seq | apply CW.block | apply CW.region | apply CW.draw | apply CW.skip | apply CW.exit | apply CW.ret | apply q_then | apply q_then_exit | apply q_then_ret | apply q_block | apply q_block_ret | apply q_block_hit | apply q_ret | apply q_end | apply q_loop_exit | apply q_loop_ret | apply q_loopT_exit | apply q_loopT_ret | apply RW.nil) | ((with_reducible apply s3); exact rfl; exact by_k) | ((with_reducible apply s2); exact rfl; exact by_k) | ((with_reducible apply s4); exact rfl) | ((with_reducible apply s5); (first | ((with_reducible apply a_agg); exact neq_pair a b; (iterate 5 exact rfl)) | exact by_oa); exact by_g) | ((with_reducible apply CW.cond_t); exact rfl; exact by_ks) | ((with_reducible apply CW.cond_f); exact rfl; exact by_ks) | ((with_reducible apply q_block_miss); exact rfl) | (refine And.intro (show chk [] [] _ _ = true by kernel_rfl) ?_))
        exact .one (.tmp rfl (.one (.d (dle_bool h2.symm))))
  ·
    repeat (first | ((with_reducible apply s1); exact rfl) | (with_reducible first | apply CW.seq | apply CW.block | apply CW.region | apply CW.draw | apply CW.skip | apply CW.exit | apply CW.ret | apply q_then | apply q_then_exit | apply q_then_ret | apply q_block | apply q_block_ret | apply q_block_hit | apply q_ret | apply q_end | apply q_loop_exit | apply q_loop_ret | apply q_loopT_exit | apply q_loopT_ret | apply RW.nil) | ((with_reducible apply s3); exact rfl; exact by_k) | ((with_reducible apply s2); exact rfl; exact by_k) | ((with_reducible apply s4); exact rfl) | ((with_reducible apply s5); (first | exact by_oa); exact by_g) | ((with_reducible apply CW.cond_t); exact rfl; exact by_ks) | ((with_reducible apply CW.cond_f); exact rfl; exact by_ks) | ((with_reducible apply q_block_miss); exact rfl) | (refine And.intro (show chk [] [] _ _ = true by kernel_rfl) ?_))
    refine .one (.tmp rfl (.one (.d (dle_bool ?_))))
    cases hb : allB (fun a b => decide (a = b)) l r
    · rfl
    · exact absurd (allB_len hb) hlen

end Go.Proofs.Ytpmbijmmoacnhaa

/-! F6 -/
/-
  Contracts of the references' functions that hold lists of ends, deeds, chains against each other.
-/
namespace Go.Proofs.Ytpmbijmmoacnhaa
open Go.AX Go.RF

set_option maxRecDepth 100000
set_option maxHeartbeats 4000000

theorem ok_sameEnds (l r : List Done) (hl : l.length ≤ 268435456) : FnOk Try.prog 11 [.d (encEnds l), .d (encEnds r)] (.one (dbool (allB (fun a b => decide (a = b)) l r))) := by
  refine fnOk_of tbl_ok mixed_ok Try.func11 rfl (by kernel_rfl) rfl rfl fun w0 own0 => ?_
  by_cases hlen : l.length = r.length
  ·
    repeat (first | ((with_reducible apply s1); exact rfl) | (with_reducible first | apply CW.seq | apply CW.block | apply CW.region | apply CW.draw | apply CW.skip | apply CW.exit | apply CW.ret | apply q_then | apply q_then_exit | apply q_then_ret | apply q_block | apply q_block_ret | apply q_block_hit | apply q_ret | apply q_end | apply q_loop_exit | apply q_loop_ret | apply q_loopT_exit | apply q_loopT_ret | apply RW.nil) | ((with_reducible apply s3); exact rfl; exact by_k) | ((with_reducible apply s2); exact rfl; exact by_k) | ((with_reducible apply s4); exact rfl) | ((with_reducible apply s5); (first | exact by_oa); exact by_g) | ((with_reducible apply CW.cond_t); exact rfl; exact by_ks) | ((with_reducible apply CW.cond_f); exact rfl; exact by_ks) | ((with_reducible apply q_block_miss); exact rfl) | (refine And.intro (show chk [] [] _ _ = true by kernel_rfl) ?_))
    refine CW.loop (fun k => [(.s 0, .av (.d (encEnds l))), (.s 1, .av (.d (encEnds r))), (.s 11, .av (.d (encEnds l))), (.s 12, .av (.d (dint l.length))), (.s 13, .av (.d (dint k))), (.nx, .num 0)]) (agree (fun a b => decide (a = b)) l r) ?_ fun k hk => ?_
    ·
      exact by_less
    · rcases agree_case hlen hk with ⟨h1, h1', a, b, h2, h3, h4⟩ | ⟨h1, h2⟩ | ⟨h1, h2, a, b, h3, h4, h5⟩
      · replace h4 : a = b := by simpa using h4
        repeat (first | ((with_reducible apply s1); exact rfl) | (with_reducible first | apply CW.seq | apply CW.block | apply CW.region | apply CW.draw | apply CW.skip | apply CW.exit | apply CW.ret | apply q_then | apply q_then_exit | apply q_then_ret | apply q_block | apply q_block_ret | apply q_block_hit | apply q_ret | apply q_end | apply q_loop_exit | apply q_loop_ret | apply q_loopT_exit | apply q_loopT_ret | apply RW.nil) | ((with_reducible apply s3); exact rfl; exact by_k) | ((with_reducible apply s2); exact rfl; exact by_k) | ((with_reducible apply s4); exact rfl) | ((with_reducible apply s5); (first | ((with_reducible apply a_agg); exact neq_done a b; (iterate 5 exact rfl)) | exact by_oa); exact by_g) | ((with_reducible apply CW.cond_t); exact rfl; exact by_ks) | ((with_reducible apply CW.cond_f); exact rfl; exact by_ks) | ((with_reducible apply q_block_miss); exact rfl) | (refine And.intro (show chk [] [] _ _ = true by kernel_rfl) ?_))
        refine q_loop h1 ?_
        exact by_less
      ·
        repeat (first | ((with_reducible apply s1); exact rfl) | (with_reducible first | apply CW.seq | apply CW.block | apply CW.region | apply CW.draw | apply CW.skip | apply CW.exit | apply CW.ret | apply q_then | apply q_then_exit | apply q_then_ret | apply q_block | apply q_block_ret | apply q_block_hit | apply q_ret | apply q_end | apply q_loop_exit | apply q_loop_ret | apply q_loopT_exit | apply q_loopT_ret | apply RW.nil) | ((with_reducible apply s3); exact rfl; exact by_k) | ((with_reducible apply s2); exact rfl; exact by_k) | ((with_reducible apply s4); exact rfl) | ((with_reducible apply s5); (first | exact by_oa); exact by_g) | ((with_reducible apply CW.cond_t); exact rfl; exact by_ks) | ((with_reducible apply CW.cond_f); exact rfl; exact by_ks) | ((with_reducible apply q_block_miss); exact rfl) | (refine And.intro (show chk [] [] _ _ = true by kernel_rfl) ?_))
        exact .one (.tmp rfl (.one (.d (dle_bool h2.symm))))
      · replace h5 : ¬ a = b := by simpa using h5
        repeat (first | ((with_reducible apply s1); exact rfl) | (with_reducible first | apply CW.seq | apply CW.block | apply CW.region | apply CW.draw | apply CW.skip | apply CW.exit | apply CW.ret | apply q_then | apply q_then_exit | apply q_then_ret | apply q_block | apply q_block_ret | apply q_block_hit | apply q_ret | apply q_end | apply q_loop_exit | apply q_loop_ret | apply q_loopT_exit | apply q_loopT_ret | apply RW.nil) | ((with_reducible apply s3); exact rfl; exact by_k) | ((with_reducible apply s2); exact rfl; exact by_k) | ((with_reducible apply s4); exact rfl) | ((with_reducible apply s5); (first | ((with_reducible apply a_agg); exact neq_done a b; (iterate 5 exact rfl)) | exact by_oa); exact by_g) | ((with_reducible apply CW.cond_t); exact rfl; exact by_ks) | ((with_reducible apply CW.cond_f); exact rfl; exact by_ks) | ((with_reducible apply q_block_miss); exact rfl) | (refine And.intro (show chk [] [] _ _ = true by kernel_rfl) ?_))
        exact .one (.tmp rfl (.one (.d (dle_bool h2.symm))))
  ·
    repeat (first | ((with_reducible apply s1); exact rfl) | (with_reducible first | apply CW.seq | apply CW.block | apply CW.region | apply CW.draw | apply CW.skip | apply CW.exit | apply CW.ret | apply q_then | apply q_then_exit | apply q_then_ret | apply q_block | apply q_block_ret | apply q_block_hit | apply q_ret | apply q_end | apply q_loop_exit | apply q_loop_ret | apply q_loopT_exit | apply q_loopT_ret | apply RW.nil) | ((with_reducible apply s3); exact rfl; exact by_k) | ((with_reducible apply s2); exact rfl; exact by_k) | ((with_reducible apply s4); exact rfl) | ((with_reducible apply s5); (first | exact by_oa); exact by_g) | ((with_reducible apply CW.cond_t); exact rfl; exact by_ks) | ((with_reducible apply CW.cond_f); exact rfl; exact by_ks) | ((with_reducible apply q_block_miss); exact rfl) | (refine And.intro (show chk [] [] _ _ = true by kernel_rfl) ?_))
    refine .one (.tmp rfl (.one (.d (dle_bool ?_))))
    cases hb : allB (fun a b => decide (a = b)) l r
    · rfl
    · exact absurd (allB_len hb) hlen

end Go.Proofs.Ytpmbijmmoacnhaa

/-! F7 -/
/-
  Contract of the references' Before.
-/
namespace Go.Proofs.Ytpmbijmmoacnhaa
open Go.AX Go.RF

set_option maxRecDepth 100000
set_option maxHeartbeats 4000000

end Go.Proofs.Ytpmbijmmoacnhaa

/-! F8 -/
/-
  Contracts of the references' RowsAt and Right.
-/
namespace Go.Proofs.Ytpmbijmmoacnhaa
open Go.AX Go.RF

set_option maxRecDepth 100000
set_option maxHeartbeats 4000000

theorem ok_right (l : List Deed) (hl : l.length ≤ 268435456) (hd : ∀ d ∈ l, d.Sm) : FnOk Try.prog 5 [.d (encDeeds l)] (.one (dbool (right l))) := by
  refine fnOk_of tbl_ok mixed_ok Try.func5 rfl (by kernel_rfl) rfl rfl fun w0 own0 => ?_
  repeat (first | ((with_reducible apply s1); exact rfl) | (with_reducible first | apply CW.seq | apply CW.block | apply CW.region | apply CW.draw | apply CW.skip | apply CW.exit | apply CW.ret | apply q_then | apply q_then_exit | apply q_then_ret | apply q_block | apply q_block_ret | apply q_block_hit | apply q_ret | apply q_end | apply q_loop_exit | apply q_loop_ret | apply q_loopT_exit | apply q_loopT_ret | apply RW.nil) | ((with_reducible apply s3); exact rfl; exact by_k) | ((with_reducible apply s2); exact rfl; exact by_k) | ((with_reducible apply s4); exact rfl) | ((with_reducible apply s5); (first | exact by_oa); exact by_g) | ((with_reducible apply CW.cond_t); exact rfl; exact by_ks) | ((with_reducible apply CW.cond_f); exact rfl; exact by_ks) | ((with_reducible apply q_block_miss); exact rfl) | (refine And.intro (show chk [] [] _ _ = true by kernel_rfl) ?_))
  refine CW.loopT (fun i : Nat => [(.s 5, .av (.d (encDeeds l))), (.s 6, .av (.d (dint l.length))), (.s 7, .av (.d (dint i))), (.nx, .num 0)]) (fun i => i ≤ l.length ∧ right (l.drop i) = right l) (fun i => l.length - i) 0 ⟨by omega, rfl⟩ ?_ ?_
  ·
    exact by_less
  · rintro i ⟨hi, hI⟩
    rcases drop_case hi with ⟨h1, h2⟩ | ⟨d, h1, h2, h3⟩
    ·
      repeat (first | ((with_reducible apply s1); exact rfl) | (with_reducible first | apply CW.seq | apply CW.block | apply CW.region | apply CW.draw | apply CW.skip | apply CW.exit | apply CW.ret | apply q_then | apply q_then_exit | apply q_then_ret | apply q_block | apply q_block_ret | apply q_block_hit | apply q_ret | apply q_end | apply q_loop_exit | apply q_loop_ret | apply q_loopT_exit | apply q_loopT_ret | apply RW.nil) | ((with_reducible apply s3); exact rfl; exact by_k) | ((with_reducible apply s2); exact rfl; exact by_k) | ((with_reducible apply s4); exact rfl) | ((with_reducible apply s5); (first | exact by_oa); exact by_g) | ((with_reducible apply CW.cond_t); exact rfl; exact by_ks) | ((with_reducible apply CW.cond_f); exact rfl; exact by_ks) | ((with_reducible apply q_block_miss); exact rfl) | (refine And.intro (show chk [] [] _ _ = true by kernel_rfl) ?_))
      rw [h1] at hI
      rw [← hI]
      exact .one (.tmp rfl (.one (.d (.refl _))))
    · rw [h1] at hI
      simp only [right] at hI
      have hs := hd d (List.mem_of_getElem? h2)
      have hc := ok_wrongDeed d hs.r hs.w hs.c hs.rk hs.wk
      by_cases h4 : wrongDeed d = 0
      · rw [if_pos h4] at hI
        repeat (first | ((with_reducible apply s1); exact rfl) | (with_reducible first | apply CW.seq | apply CW.block | apply CW.region | apply CW.draw | apply CW.skip | apply CW.exit | apply CW.ret | apply q_then | apply q_then_exit | apply q_then_ret | apply q_block | apply q_block_ret | apply q_block_hit | apply q_ret | apply q_end | apply q_loop_exit | apply q_loop_ret | apply q_loopT_exit | apply q_loopT_ret | apply RW.nil) | ((with_reducible apply s3); exact rfl; exact by_k) | ((with_reducible apply s2); exact rfl; exact by_k) | ((with_reducible apply s4); exact rfl) | ((with_reducible apply s5); (first | (focus ((with_reducible apply a_call); exact hc; exact rfl; (repeat (first | exact SubsE.nil | (apply SubsE.cons; exact rfl; (first | exact .d (.refl _) | exact .d (.nil _) | exact .agg rfl (.refl _) | exact .pd | exact .ptr rfl); (first | exact trivial | exact ⟨rfl, trivial⟩)))); done)) | exact by_oa); exact by_g) | ((with_reducible apply CW.cond_t); exact rfl; exact by_ks) | ((with_reducible apply CW.cond_f); exact rfl; exact by_ks) | ((with_reducible apply q_block_miss); exact rfl) | (refine And.intro (show chk [] [] _ _ = true by kernel_rfl) ?_))
        refine q_loopT (i + 1) ⟨by omega, hI⟩ (by omega) ?_
        exact by_less
      · rw [if_neg h4] at hI
        repeat (first | ((with_reducible apply s1); exact rfl) | (with_reducible first | apply CW.seq | apply CW.block | apply CW.region | apply CW.draw | apply CW.skip | apply CW.exit | apply CW.ret | apply q_then | apply q_then_exit | apply q_then_ret | apply q_block | apply q_block_ret | apply q_block_hit | apply q_ret | apply q_end | apply q_loop_exit | apply q_loop_ret | apply q_loopT_exit | apply q_loopT_ret | apply RW.nil) | ((with_reducible apply s3); exact rfl; exact by_k) | ((with_reducible apply s2); exact rfl; exact by_k) | ((with_reducible apply s4); exact rfl) | ((with_reducible apply s5); (first | (focus ((with_reducible apply a_call); exact hc; exact rfl; (repeat (first | exact SubsE.nil | (apply SubsE.cons; exact rfl; (first | exact .d (.refl _) | exact .d (.nil _) | exact .agg rfl (.refl _) | exact .pd | exact .ptr rfl); (first | exact trivial | exact ⟨rfl, trivial⟩)))); done)) | exact by_oa); exact by_g) | ((with_reducible apply CW.cond_t); exact rfl; exact by_ks) | ((with_reducible apply CW.cond_f); exact rfl; exact by_ks) | ((with_reducible apply q_block_miss); exact rfl) | (refine And.intro (show chk [] [] _ _ = true by kernel_rfl) ?_))
        exact .one (.tmp rfl (.one (.d (dle_bool hI))))

end Go.Proofs.Ytpmbijmmoacnhaa

/-! F10 -/
/-
  Contract of the references' Clear.
-/
namespace Go.Proofs.Ytpmbijmmoacnhaa
open Go.AX Go.RF

set_option maxRecDepth 100000
set_option maxHeartbeats 4000000

end Go.Proofs.Ytpmbijmmoacnhaa

/-! F12 -/
/-
  Contracts of the references' SameChains.
-/
namespace Go.Proofs.Ytpmbijmmoacnhaa
open Go.AX Go.RF

set_option maxRecDepth 100000
set_option maxHeartbeats 4000000

end Go.Proofs.Ytpmbijmmoacnhaa

/-! F14 -/
/-
  Contracts of the references' New, Mark, Clear, Seen, SameEngine of engines.
-/
namespace Go.Proofs.Ytpmbijmmoacnhaa
open Go.AX Go.RF

set_option maxRecDepth 100000
set_option maxHeartbeats 4000000

theorem markN_le : ∀ l : List Int, markN l ≤ l.length
  | [] => by simp [markN]
  | s :: r => by
    have := markN_le r
    simp only [markN]
    split <;> simp <;> omega

end Go.Proofs.Ytpmbijmmoacnhaa

/-! F18 -/
/-
  Contract of the references' Add of deeds to engines: the walk.
-/
namespace Go.Proofs.Ytpmbijmmoacnhaa
open Go.AX Go.RF

set_option maxRecDepth 100000
set_option maxHeartbeats 8000000

end Go.Proofs.Ytpmbijmmoacnhaa

/-! F9 -/
/-
  Contract of the references' Set.
-/
namespace Go.Proofs.Ytpmbijmmoacnhaa
open Go.AX Go.RF

set_option maxRecDepth 100000
set_option maxHeartbeats 4000000

end Go.Proofs.Ytpmbijmmoacnhaa

/-! F15 -/
/-
  Contracts of the references' Keys, Needs, Ready.
-/
namespace Go.Proofs.Ytpmbijmmoacnhaa
open Go.AX Go.RF

set_option maxRecDepth 100000
set_option maxHeartbeats 4000000

def orIn (h : Bool) (l : List Str) (s : Str) : Bool := match l with
  | [] => h
  | x :: l => orIn (h || decide (x = s)) l s
theorem orIn_eq : ∀ {l : List Str} {h : Bool} {s : Str}, orIn h l s = (h || isIn l s)
  | [], h, s => by simp [orIn, isIn]
  | x :: l, h, s => by
    simp only [orIn, orIn_eq (l := l), isIn]
    by_cases e : x = s <;> simp [e]

theorem keysGo_len : ∀ (l out : List Str), (keysGo' out l).length ≤ out.length + l.length
  | [], out => by simp [keysGo']
  | k :: r, out => by
    have := keysGo_len r (if isIn out k = true then out else out ++ [k])
    simp only [keysGo']
    split at this <;> simp_all <;> omega
theorem keysD_len {d : Deed} (h : d.Sm) : (keysD d).length ≤ 536870912 := by
  have := keysGo_len (d.reads ++ d.writes) []
  have h1 := h.r
  have h2 := h.w
  simp at this
  unfold keysD
  omega

theorem hit_case (cs : List Chain) (b want : Int) (k : Str) : hit cs b want k = (!(before cs k b).made && decide ((before cs k b).by_ = want)) := rfl

def needsAt (e : Engine) (at_ : Nat) : List Int := match e.deeds[at_]? with
  | some d => needs e at_ d
  | none => []
def readyGo (e : Engine) : Nat → List Int → List Int
  | _, [] => []
  | i, s :: r => if s = 0 ∧ needsAt e i = [] then (i : Int) :: readyGo e (i + 1) r else readyGo e (i + 1) r
def ready (e : Engine) : List Int := readyGo e 0 e.state

theorem needs_len (cs : List Chain) (base b : Int) (ks : List Str) : ∀ (l : List Nat) (j : Nat), (needsGo cs base b ks j l).length ≤ l.length
  | [], _ => by simp [needsGo]
  | k :: r, j => by
    have := needs_len cs base b ks r 0
    simp only [needsGo]
    split <;> simp <;> omega

end Go.Proofs.Ytpmbijmmoacnhaa

/-! F19 -/
/-
  Contract of the references' Go of engines.
-/
namespace Go.Proofs.Ytpmbijmmoacnhaa
open Go.AX Go.RF

set_option maxRecDepth 100000
set_option maxHeartbeats 8000000

def goRows (cs : List Chain) (b : Int) : List Pair → List Str → List Pair
  | r, [] => r
  | r, k :: ks => goRows cs b (if (before cs k b).has = true then put r k (before cs k b).n true else r) ks
def goSets (r : List Pair) (b : Int) : List Chain → List Str → List Chain
  | cs, [] => cs
  | cs, k :: ks => goSets r b (setChains cs k ⟨b, true, (RF.get r k).2, (RF.get r k).1⟩) ks
def goDone (e : Engine) (at_ : Nat) (d : Deed) : List Pair × Done := doD (goRows e.chains (e.base + at_) [] (keysD d)) d
def goNew (e : Engine) (at_ : Nat) (d : Deed) : Engine :=
  ⟨goSets (goDone e at_ d).1 (e.base + at_) e.chains d.writes, e.deeds, e.state.set at_ 1, e.ends.set at_ (goDone e at_ d).2, e.base⟩
def goAt (e : Engine) (at_ : Nat) : Engine × Int := match e.deeds[at_]? with
  | some d => if e.state[at_]? = some 1 then (e, 11) else if needs e at_ d = [] then (goNew e at_ d, 0) else (e, 10)
  | none => (e, 6)
def goE (e : Engine) (at_ : Int) : Engine × Int := if at_ < 0 then (e, 6) else goAt e at_.toNat

/-- Deeds that may be done. -/
structure Deed.Ok (d : Deed) : Prop where
  i : ∀ i ∈ d.code, i.Ok
  r : d.reads.length ≤ 5
  w : d.writes.length ≤ 5
  c : d.code.length ≤ 12
theorem Deed.Ok.keys {d : Deed} (h : Deed.Ok d) : (keysD d).length ≤ 10 := by
  have := keysGo_len (d.reads ++ d.writes) []
  have h1 := h.r
  have h2 := h.w
  simp at this
  unfold keysD
  omega
def chOk (l : List Chain) : Prop := ∀ c ∈ l, ∀ v ∈ c.vs, nOk v.n

theorem bvs_ok {h : Bool} {b : Int} : ∀ {l : List Version} {out : Version}, nOk out.n → (∀ v ∈ l, nOk v.n) → nOk (bvs h b out l).n
  | [], out, ho, _ => ho
  | v :: l, out, ho, hl => by
    simp only [bvs]
    refine bvs_ok ?_ fun w hw => hl w (List.mem_cons_of_mem _ hw)
    split
    · exact hl v (List.mem_cons_self ..)
    · exact ho
theorem beforeGo_ok {k : Str} {b : Int} : ∀ {l : List Chain} {out : Version}, nOk out.n → chOk l → nOk (beforeGo k b out l).n
  | [], out, ho, _ => ho
  | c :: l, out, ho, hl => by
    simp only [beforeGo]
    exact beforeGo_ok (bvs_ok ho (hl c (List.mem_cons_self ..))) fun x hx => hl x (List.mem_cons_of_mem _ hx)
theorem before_ok {l : List Chain} (h : chOk l) (k : Str) (b : Int) : nOk (before l k b).n := beforeGo_ok (by simp [nOk]) h
theorem goRows_ok {cs : List Chain} {b : Int} (h : chOk cs) : ∀ {ks : List Str} {r : List Pair}, rowsOk r → rowsOk (goRows cs b r ks) ∧ (goRows cs b r ks).length ≤ r.length + ks.length
  | [], r, hr => ⟨hr, by simp [goRows]⟩
  | k :: ks, r, hr => by
    simp only [goRows]
    by_cases hh : (before cs k b).has = true
    · rw [if_pos hh]
      have := goRows_ok (b := b) h (ks := ks) (put_ok hr k (before_ok h k b) true)
      refine ⟨this.1, ?_⟩
      have h2 := put_len r k (before cs k b).n true
      have h3 := this.2
      simp; omega
    · rw [if_neg hh]
      have := goRows_ok (b := b) h (ks := ks) hr
      exact ⟨this.1, by have h3 := this.2; simp; omega⟩
theorem doGo_len {r0 : List Pair} : ∀ (l : List Ins) (sk : Int) (now : List Pair) (e : Done), (doGo r0 sk now e l).1.length ≤ max r0.length (now.length + l.length)
  | [], sk, now, e => by simp only [doGo]; simp; omega
  | i :: l, sk, now, e => by
    have ih := fun sk now e => doGo_len (r0 := r0) l sk now e
    have h1 := put_len now i.key (rget e i.a.toNat) true
    have h2 := put_len now i.key 0 false
    simp only [doGo, List.length_cons]
    repeat' split
    all_goals first
      | (refine Nat.le_trans (ih _ _ _) ?_; omega)
      | (simp only []; omega)
theorem doD_len (r : List Pair) (d : Deed) : (doD r d).1.length ≤ r.length + d.code.length := by
  have := doGo_len (r0 := r) d.code 0 r done0
  unfold doD
  omega
theorem setC_len {k : Str} {v : Version} {c : Chain} : (setC k v c).vs.length = c.vs.length := by simp [setC]
theorem set_vs {l : List Chain} {k : Str} {v : Version} {M : Nat} (h : ∀ c ∈ l, c.vs.length ≤ M) : ∀ c ∈ setChains l k v, c.vs.length ≤ M := by
  intro c hc
  obtain ⟨c0, h0, rfl⟩ := List.mem_map.1 hc
  rw [setC_len]; exact h c0 h0

end Go.Proofs.Ytpmbijmmoacnhaa

/-! F20 -/
/-
  Engines as they are built: what holds of them; plain facts.
-/
namespace Go.Proofs.Ytpmbijmmoacnhaa
open Go.AX Go.RF

structure EInv (e : Engine) (N : Nat) : Prop where
  z : Engine.Sz e N
  o : ∀ d ∈ e.deeds, Deed.Ok d
  c : chOk e.chains

theorem EInv.mono {e : Engine} {N M : Nat} (h : EInv e N) (hm : N ≤ M) : EInv e M := by
  obtain ⟨hz, ho, hc⟩ := h
  refine ⟨⟨by have := hz.c; omega, fun c hc => by have := hz.v c hc; omega, by have := hz.d; omega, hz.s, hz.n, by have := hz.b; omega, hz.dd⟩, ho, hc⟩

theorem codeGo_mem {d : Deed} : ∀ {l : List Ins} {k : Nat}, codeGo d k l = 0 → ∀ j i, l[j]? = some i → wrongIns d ((d.code.length : Int) - 1 - ((k + j : Nat) : Int)) i = 0
  | [], k, _, j, i, hj => by simp at hj
  | x :: l, k, h, j, i, hj => by
    simp only [codeGo] at h
    by_cases h0 : wrongIns d ((d.code.length : Int) - 1 - k) x = 0
    · rw [if_pos h0] at h
      cases j with
      | zero => simp at hj; subst hj; simpa using h0
      | succ j =>
        have := codeGo_mem h j i (by simpa using hj)
        rw [show k + (j + 1) = k + 1 + j by omega]
        exact this
    · rw [if_neg h0] at h; exact absurd h h0

theorem has_ins {k : Int} (h : 1 ≤ k ∧ k ≤ 9) : insA k.toNat ≤ 3 ∧ insB k.toNat ≤ 3 := by
  unfold insA insB
  constructor <;> split <;> omega

theorem wrongIns_ok {d : Deed} {m : Int} (hm : m ≤ 11) {i : Ins} (h : wrongIns d m i = 0) : i.Ok := by
  unfold wrongIns at h
  by_cases hk : i.kind < 1 ∨ 9 < i.kind
  · rw [if_pos hk] at h; simp at h
  rw [if_neg hk] at h
  by_cases ho : insOut i.kind.toNat i.a i.b i.n m = true
  · rw [if_pos ho] at h; simp at h
  have hkk : 1 ≤ i.kind ∧ i.kind ≤ 9 := by omega
  have hs := has_ins hkk
  simp only [insOut, Bool.or_eq_true, decide_eq_true_eq, not_or] at ho
  obtain ⟨h1, h2, h3, h4, h5, h6⟩ := ho
  refine ⟨hkk, by omega, by omega, fun hc => ?_, fun hc => ?_⟩
  · rw [hc] at h5 h6
    simp [insLow, insHigh] at h5 h6
    unfold nOk; omega
  · rw [hc] at h5 h6
    simp [insLow, insHigh] at h5 h6
    omega

theorem wrongDeed_ok {d : Deed} (h : wrongDeed d = 0) : Deed.Ok d := by
  obtain ⟨h1, h2, h3⟩ := wrong_writes h
  refine ⟨fun i hi => ?_, h1, h2, h3⟩
  unfold wrongDeed at h
  by_cases h0 : lsGo [d.reads, d.writes] = 0
  · rw [if_pos h0] at h
    by_cases hc : 12 < d.code.length
    · rw [if_pos hc] at h; simp at h
    · rw [if_neg hc] at h
      obtain ⟨j, hj⟩ := List.getElem?_of_mem hi
      exact wrongIns_ok (by omega) (codeGo_mem h j i hj)
  · rw [if_neg h0] at h; exact absurd h h0

theorem addGo_ch {k : Str} {b : Int} {P : Version → Prop} (h0 : P ⟨b, false, false, 0⟩) : ∀ {l : List Chain} {dn : Bool} {out : List Chain}, (∀ c ∈ l, ∀ v ∈ c.vs, P v) → (∀ c ∈ out, ∀ v ∈ c.vs, P v) → ∀ c ∈ addGo k b dn out l, ∀ v ∈ c.vs, P v
  | [], dn, out, _, ho, c, hc => by
    simp only [addGo] at hc
    split at hc
    · exact ho c hc
    · rcases List.mem_append.1 hc with hc | hc
      · exact ho c hc
      · simp at hc; subst hc; simpa using h0
  | x :: l, dn, out, hl, ho, c, hc => by
    simp only [addGo] at hc
    have h1 : ∀ (g : Bool), ∀ c ∈ (if g = true then out ++ [⟨k, [⟨b, false, false, 0⟩]⟩] else out), ∀ v ∈ c.vs, P v := by
      intro g c hc
      split at hc
      · rcases List.mem_append.1 hc with hc | hc
        · exact ho c hc
        · simp at hc; subst hc; simpa using h0
      · exact ho c hc
    have hx := hl x (List.mem_cons_self ..)
    split at hc
    · refine addGo_ch h0 (fun c hc => hl c (List.mem_cons_of_mem _ hc)) (fun c hc => ?_) c hc
      rcases List.mem_append.1 hc with hc | hc
      · exact h1 _ c hc
      · simp at hc; subst hc
        intro v hv
        rcases List.mem_append.1 hv with hv | hv
        · exact hx v hv
        · simp at hv; subst hv; exact h0
    · refine addGo_ch h0 (fun c hc => hl c (List.mem_cons_of_mem _ hc)) (fun c hc => ?_) c hc
      rcases List.mem_append.1 hc with hc | hc
      · exact h1 _ c hc
      · simp at hc; subst hc; exact hx
theorem addC_ok {l : List Chain} (h : chOk l) (k : Str) (b : Int) : chOk (addC l k b) := addGo_ch (P := fun v => nOk v.n) (by simp [nOk]) h (by simp)
theorem addKeys_ok {b : Int} : ∀ {ks : List Str} {l : List Chain}, chOk l → chOk (addKeys b l ks)
  | [], l, h => h
  | k :: ks, l, h => by simp only [addKeys]; exact addKeys_ok (addC_ok h k b)
theorem EInv.add1 {e : Engine} {N : Nat} (h : EInv e N) {d : Deed} (hs : d.Sm) (ho : Deed.Ok d) : EInv (add1 e d) (N + 5) := by
  refine ⟨add1_sz h.z hs ho.w, fun x hx => ?_, addKeys_ok h.c⟩
  rcases List.mem_append.1 hx with hx | hx
  · exact h.o x hx
  · simp at hx; subst hx; exact ho
theorem EInv.addAll : ∀ {l : List Deed} {e : Engine} {N : Nat}, EInv e N → (∀ d ∈ l, d.Sm ∧ Deed.Ok d) → EInv (addAll e l) (N + 5 * l.length)
  | [], e, N, h, _ => h
  | d :: l, e, N, h, hl => by
    have := EInv.addAll (h.add1 (hl d (List.mem_cons_self ..)).1 (hl d (List.mem_cons_self ..)).2) fun x hx => hl x (List.mem_cons_of_mem _ hx)
    simp only [RF.addAll, List.length_cons]
    rw [show N + 5 * (l.length + 1) = N + 5 + 5 * l.length by omega]
    exact this
theorem EInv.addE {e : Engine} {N : Nat} (h : EInv e N) {l : List Deed} (hs : ∀ d ∈ l, d.Sm) (hw : (addE e l).2 = 0) : EInv (addE e l).1 (N + 5 * l.length) := by
  unfold RF.addE at hw ⊢
  by_cases h0 : wrongs l = 0
  · rw [if_pos h0]
    exact h.addAll fun d hd => ⟨hs d hd, wrongDeed_ok (wrongs_mem h0 d hd)⟩
  · rw [if_neg h0] at hw; exact absurd hw h0
theorem newE_inv {r : List Pair} (hr : rowsOk r) : EInv (newE r) (r.length + 1) := by
  refine ⟨⟨by simp [newE], fun c hc => ?_, by simp [newE], by simp [newE], by simp [newE], by simp [newE]; omega, by simp [newE]⟩, by simp [newE], fun c hc v hv => ?_⟩
  · obtain ⟨p, hp, rfl⟩ := List.mem_map.1 hc
    simp [rowChain]
  · obtain ⟨p, hp, rfl⟩ := List.mem_map.1 hc
    simp [rowChain] at hv
    subst hv
    exact hr p hp

theorem doGo_ok {r0 : List Pair} (h0 : rowsOk r0) : ∀ {l : List Ins} {sk : Int} {now : List Pair} {e : Done}, (∀ i ∈ l, i.Ok) → rowsOk now → e.Ok → rowsOk (doGo r0 sk now e l).1 ∧ (doGo r0 sk now e l).2.Ok
  | [], sk, now, e, _, hn, he => ⟨hn, he⟩
  | i :: l, sk, now, e, hl, hn, he => by
    have hio := hl i (List.mem_cons_self ..)
    have ih := fun (sk : Int) (now : List Pair) (e : Done) (h1 : rowsOk now) (h2 : e.Ok) => doGo_ok h0 (l := l) (sk := sk) (now := now) (e := e) (fun j hj => hl j (List.mem_cons_of_mem _ hj)) h1 h2
    simp only [doGo]
    split
    · exact ih _ _ _ hn he
    split
    · exact ih _ _ _ hn (rset_ok he _ (get_ok hn _))
    split
    · next hk => exact ih _ _ _ hn (rset_ok he _ (hio.c hk))
    split
    · exact ih _ _ _ hn (rset_ok he _ (round_ok _))
    split
    · exact ih _ _ _ hn (rset_ok he _ (round_ok _))
    split
    · exact ih _ _ _ hn (rset_ok he _ (round_ok _))
    split
    · exact ih _ _ _ (put_ok hn _ (rget_ok he _) _) he
    split
    · exact ih _ _ _ (put_ok hn _ (by simp [nOk]) _) he
    split
    · exact ih _ _ _ hn he
    split
    · exact ⟨h0, ⟨he.a, he.b, he.c, he.d⟩⟩
    · exact ih _ _ _ hn he
theorem done0_ok : done0.Ok := ⟨by simp [nOk, done0], by simp [nOk, done0], by simp [nOk, done0], by simp [nOk, done0]⟩
theorem doD_ok {r : List Pair} {d : Deed} (h0 : rowsOk r) (hd : Deed.Ok d) : rowsOk (doD r d).1 := (doGo_ok h0 hd.i h0 done0_ok).1
theorem set_ok {l : List Chain} (h : chOk l) (k : Str) {v : Version} (hv : nOk v.n) : chOk (setChains l k v) := by
  intro c hc w hw
  obtain ⟨c0, h0, rfl⟩ := List.mem_map.1 hc
  simp only [setC] at hw
  obtain ⟨w0, hw0, rfl⟩ := List.mem_map.1 hw
  unfold setV
  split
  · exact hv
  · exact h c0 h0 w0 hw0
theorem goSets_ok {r : List Pair} (hr : rowsOk r) {b : Int} {M : Nat} : ∀ {ks : List Str} {l : List Chain}, chOk l → (∀ c ∈ l, c.vs.length ≤ M) → chOk (goSets r b l ks) ∧ (goSets r b l ks).length = l.length ∧ ∀ c ∈ goSets r b l ks, c.vs.length ≤ M
  | [], l, h, hv => ⟨h, rfl, hv⟩
  | k :: ks, l, h, hv => by
    simp only [goSets]
    have := goSets_ok hr (b := b) (ks := ks) (set_ok h k (v := ⟨b, true, (RF.get r k).2, (RF.get r k).1⟩) (get_ok hr k)) (set_vs hv)
    refine ⟨this.1, by rw [this.2.1]; simp [setChains], this.2.2⟩
theorem EInv.goNew {e : Engine} {N : Nat} (h : EInv e N) {A : Nat} {d : Deed} (hd : d ∈ e.deeds) : EInv (goNew e A d) N := by
  obtain ⟨hz, ho, hc⟩ := h
  have hr := doD_ok (goRows_ok (b := e.base + A) hc (ks := keysD d) (r := []) (by simp [rowsOk])).1 (ho d hd)
  have := goSets_ok hr (b := e.base + A) (ks := d.writes) hc hz.v
  refine ⟨⟨?_, this.2.2, hz.d, ?_, ?_, hz.b, hz.dd⟩, ho, this.1⟩
  · show (goSets _ _ _ _).length ≤ N
    rw [goDone, this.2.1]; exact hz.c
  · simp [Proofs.Ytpmbijmmoacnhaa.goNew]; exact hz.s
  · simp [Proofs.Ytpmbijmmoacnhaa.goNew]; exact hz.n
theorem EInv.goE {e : Engine} {N : Nat} (h : EInv e N) (at_ : Int) : EInv (goE e at_).1 N := by
  unfold Proofs.Ytpmbijmmoacnhaa.goE
  split
  · exact h
  unfold goAt
  cases hA : e.deeds[at_.toNat]? with
  | none => exact h
  | some d =>
    dsimp only
    split
    · exact h
    split
    · exact h.goNew (List.mem_of_getElem? hA)
    · exact h
theorem clrV_sub {b : Int} : ∀ {l : List Version} {v : Version}, v ∈ clrV b l → v ∈ l
  | [], v, h => by simp [clrV] at h
  | x :: l, v, h => by
    simp only [clrV] at h
    split at h
    · exact List.mem_cons_of_mem _ (clrV_sub h)
    · rcases List.mem_cons.1 h with rfl | h
      · exact List.mem_cons_self ..
      · exact List.mem_cons_of_mem _ (clrV_sub h)
theorem clrV_len {b : Int} : ∀ (l : List Version), (clrV b l).length ≤ l.length
  | [] => by simp [clrV]
  | x :: l => by
    have := clrV_len (b := b) l
    simp only [clrV]
    split <;> simp <;> omega
theorem clear_mem {b : Int} : ∀ {l : List Chain} {c : Chain}, c ∈ clear b l → ∃ c0 ∈ l, c = ⟨c0.key, clrV b c0.vs⟩
  | [], c, h => by simp [clear] at h
  | x :: l, c, h => by
    simp only [clear] at h
    split at h
    · obtain ⟨c0, h0, h1⟩ := clear_mem h
      exact ⟨c0, List.mem_cons_of_mem _ h0, h1⟩
    · rcases List.mem_cons.1 h with rfl | h
      · exact ⟨x, List.mem_cons_self .., rfl⟩
      · obtain ⟨c0, h0, h1⟩ := clear_mem h
        exact ⟨c0, List.mem_cons_of_mem _ h0, h1⟩
theorem clear_len {b : Int} : ∀ (l : List Chain), (clear b l).length ≤ l.length
  | [] => by simp [clear]
  | x :: l => by
    have := clear_len (b := b) l
    simp only [clear]
    split <;> simp <;> omega
theorem EInv.clearE {e : Engine} {N : Nat} (h : EInv e N) : EInv (clearE e) N := by
  obtain ⟨hz, ho, hc⟩ := h
  have hm := markN_le e.state
  have hsl := hz.s
  have hnl := hz.n
  have hd := hz.d
  have hb := hz.b
  refine ⟨⟨?_, fun c hcc => ?_, ?_, ?_, ?_, ?_, fun d hd => hz.dd d (List.mem_of_mem_drop hd)⟩, fun d hd => ho d (List.mem_of_mem_drop hd), fun c hcc v hv => ?_⟩
  · have := clear_len (b := e.base + markN e.state) e.chains
    have := hz.c
    simp only [RF.clearE]; omega
  · obtain ⟨c0, h0, rfl⟩ := clear_mem hcc
    have := clrV_len (b := e.base + markN e.state) c0.vs
    have := hz.v c0 h0
    simp only []; omega
  · simp only [RF.clearE, List.length_drop]; omega
  · simp only [RF.clearE, List.length_drop]; omega
  · simp only [RF.clearE, List.length_drop]; omega
  · simp only [RF.clearE, List.length_drop]; omega
  · obtain ⟨c0, h0, rfl⟩ := clear_mem hcc
    exact hc c0 h0 v (clrV_sub hv)

end Go.Proofs.Ytpmbijmmoacnhaa

/-! F21 -/
/-
  Contract of the references' Build of engines.
-/
namespace Go.Proofs.Ytpmbijmmoacnhaa
open Go.AX Go.RF

set_option maxRecDepth 100000
set_option maxHeartbeats 8000000

def pickE (e : Engine) (n : Int) : Engine := if n = 7 then clearE e else if n < 0 then e else match (ready e)[n.toNat]? with
  | some x => (goE e x).1
  | none => e
def pickGo : Nat → Engine → List Int → Engine × List Int
  | 0, e, p => (e, p)
  | _ + 1, e, [] => (e, [])
  | k + 1, e, n :: p => pickGo k (pickE e n) p
def batchE (e : Engine) (b : List Deed) : Engine := if (addE e b).2 = 0 then (addE e b).1 else e
def buildGo : Engine → List (List Deed) → List Int → Engine
  | e, [], _ => e
  | e, b :: bs, p => buildGo (pickGo 3 (batchE e b) p).1 bs (pickGo 3 (batchE e b) p).2
def buildE (r : List Pair) (bs : List (List Deed)) (p : List Int) : Engine := buildGo (newE r) bs p
def sumLen : List (List Deed) → Nat
  | [] => 0
  | b :: bs => b.length + sumLen bs

theorem EInv.pickE {e : Engine} {N : Nat} (h : EInv e N) (n : Int) : EInv (pickE e n) N := by
  unfold Proofs.Ytpmbijmmoacnhaa.pickE
  split
  · exact h.clearE
  split
  · exact h
  split
  · exact h.goE _
  · exact h
theorem EInv.batchE {e : Engine} {N : Nat} (h : EInv e N) {b : List Deed} (hs : ∀ d ∈ b, d.Sm) : EInv (batchE e b) (N + 5 * b.length) := by
  unfold Proofs.Ytpmbijmmoacnhaa.batchE
  split
  · next hw => exact h.addE hs hw
  · exact h.mono (by omega)
theorem EInv.pickGo : ∀ {k : Nat} {e : Engine} {p : List Int} {N : Nat}, EInv e N → EInv (pickGo k e p).1 N
  | 0, e, p, N, h => h
  | k + 1, e, [], N, h => h
  | k + 1, e, n :: p, N, h => by
    simp only [Proofs.Ytpmbijmmoacnhaa.pickGo]
    exact EInv.pickGo (h.pickE n)
theorem EInv.buildGo : ∀ {bs : List (List Deed)} {e : Engine} {p : List Int} {N : Nat}, EInv e N → (∀ b ∈ bs, ∀ d ∈ b, d.Sm) → EInv (buildGo e bs p) (N + 5 * sumLen bs)
  | [], e, p, N, h, _ => h
  | b :: bs, e, p, N, h, hb => by
    simp only [Proofs.Ytpmbijmmoacnhaa.buildGo, sumLen]
    have := EInv.buildGo (p := (Proofs.Ytpmbijmmoacnhaa.pickGo 3 (Proofs.Ytpmbijmmoacnhaa.batchE e b) p).2) ((h.batchE (hb b (List.mem_cons_self ..))).pickGo (k := 3) (p := p)) fun x hx => hb x (List.mem_cons_of_mem _ hx)
    rw [show N + 5 * (b.length + sumLen bs) = N + 5 * b.length + 5 * sumLen bs by omega]
    exact this
theorem sumLen_at : ∀ {bs : List (List Deed)} {j : Nat} {b : List Deed}, bs[j]? = some b → b.length + sumLen (bs.drop (j + 1)) = sumLen (bs.drop j)
  | [], j, b, h => by simp at h
  | x :: bs, 0, b, h => by simp at h; subst h; simp [sumLen]
  | x :: bs, j + 1, b, h => by simpa using sumLen_at (bs := bs) (j := j) (by simpa using h)

theorem readyGo_len {e : Engine} : ∀ (l : List Int) (i : Nat), (readyGo e i l).length ≤ l.length
  | [], i => by simp [readyGo]
  | s :: l, i => by
    have := readyGo_len (e := e) l (i + 1)
    simp only [readyGo]
    split <;> simp <;> omega

end Go.Proofs.Ytpmbijmmoacnhaa

/-! G4 -/
/-
  Contracts of the program's Clear of chains, Of, Size, Mark.
-/
namespace Go.Proofs.Ytpmbijmmoacnhaa
open Go.AX Go.RF

set_option maxRecDepth 100000
set_option maxHeartbeats 8000000

def lastGo (b : Int) : Nat → Int → List Version → Int
  | _, la, [] => la
  | k, la, v :: r => lastGo b (k + 1) (if v.by_ < b then (k : Int) else la) r
def keepB (la : Int) (k : Nat) (v : Version) : Bool := decide (la ≤ k) && !(decide ((k : Int) = la) && (v.made && !v.has))
def keepGo (la : Int) : Nat → List Version → List Version
  | _, [] => []
  | k, v :: r => if keepB la k v = true then v :: keepGo la (k + 1) r else keepGo la (k + 1) r
def pclrV (b : Int) (l : List Version) : List Version := keepGo (lastGo b 0 (-1) l) 0 l
def pclear (b : Int) : List Chain → List Chain
  | [] => []
  | c :: r => if pclrV b c.vs = [] then pclear b r else ⟨c.key, pclrV b c.vs⟩ :: pclear b r

def sizeGo : Int → List Chain → Int
  | n, [] => n
  | n, c :: r => sizeGo (n + c.vs.length) r

end Go.Proofs.Ytpmbijmmoacnhaa

/-! P1 -/
/-
  Engines as they are built have chains in order, and versions in order: plain facts; what forgetting comes to.
-/
namespace Go.Proofs.Ytpmbijmmoacnhaa
open Go.AX Go.RF

def VSrt (l : List Version) : Prop := l.Pairwise fun a b => a.by_ < b.by_
theorem VSrt.cons {v : Version} {l : List Version} : VSrt (v :: l) ↔ (∀ w ∈ l, v.by_ < w.by_) ∧ VSrt l := List.pairwise_cons

theorem lastGo_ge {b : Int} : ∀ {l : List Version} {k : Nat} {la : Int}, (∀ v ∈ l, b ≤ v.by_) → lastGo b k la l = la
  | [], k, la, _ => rfl
  | v :: l, k, la, h => by
    have := h v (List.mem_cons_self ..)
    simp only [lastGo]
    rw [if_neg (by omega)]
    exact lastGo_ge fun w hw => h w (List.mem_cons_of_mem _ hw)
theorem lastGo_le {b : Int} : ∀ (l : List Version) {k : Nat} {la : Int}, la < k → la ≤ lastGo b k la l
  | [], k, la, _ => Int.le_refl _
  | v :: l, k, la, h => by
    simp only [lastGo]
    split
    · have := lastGo_le (b := b) l (k := k + 1) (la := (k : Int)) (by omega); omega
    · exact lastGo_le l (by omega)
theorem keepGo_all : ∀ {l : List Version} {k : Nat} {la : Int}, la < k → keepGo la k l = l
  | [], k, la, _ => rfl
  | v :: l, k, la, h => by
    simp only [keepGo]
    rw [if_pos (by simp [keepB]; omega), keepGo_all (by omega)]
theorem clrV_all {b : Int} : ∀ {l : List Version}, (∀ v ∈ l, b ≤ v.by_) → clrV b l = l
  | [], _ => rfl
  | v :: l, h => by
    have := h v (List.mem_cons_self ..)
    simp only [clrV]
    rw [if_neg (by simp [old]; omega), clrV_all fun w hw => h w (List.mem_cons_of_mem _ hw)]
theorem pclr_go {b : Int} : ∀ {l : List Version} {k : Nat} {la : Int}, VSrt l → la < k → keepGo (lastGo b k la l) k l = clrV b l
  | [], k, la, _, _ => rfl
  | v :: l, k, la, hs, hk => by
    obtain ⟨h1, h2⟩ := VSrt.cons.1 hs
    by_cases hv : v.by_ < b
    · cases l with
      | nil =>
        simp only [lastGo, if_pos hv, keepGo, clrV]
        cases hm : v.made <;> cases hh : v.has <;> simp [keepB, old, later, hv, hm, hh]
      | cons w l =>
        have ih := pclr_go (b := b) (l := w :: l) (k := k + 1) (la := (k : Int)) h2 (by omega)
        have hl : lastGo b k la (v :: w :: l) = lastGo b (k + 1) k (w :: l) := by rw [lastGo, if_pos hv]
        rw [hl]
        by_cases hw : w.by_ < b
        · have h3 : (k : Int) < lastGo b (k + 1) k (w :: l) := by
            rw [lastGo, if_pos hw]
            have := lastGo_le (b := b) l (k := k + 1 + 1) (la := ((k + 1 : Nat) : Int)) (by omega)
            omega
          rw [keepGo, if_neg (by simp [keepB]; omega), ih, clrV.eq_2 b v (w :: l), if_pos (by simp [old, later, hv, hw])]
        · have hge : ∀ x ∈ w :: l, b ≤ x.by_ := fun x hx => by
            rcases List.mem_cons.1 hx with rfl | hx
            · omega
            · have := (VSrt.cons.1 h2).1 x hx; omega
          rw [lastGo_ge hge, keepGo, keepGo_all (by omega), clrV.eq_2 b v (w :: l), clrV_all hge]
          cases hm : v.made <;> cases hh : v.has <;> simp [keepB, old, later, hv, hw, hm, hh]
    · have hge : ∀ x ∈ v :: l, b ≤ x.by_ := fun x hx => by
        rcases List.mem_cons.1 hx with rfl | hx
        · omega
        · have := h1 x hx; omega
      rw [lastGo_ge hge, keepGo_all hk, clrV_all hge]
theorem pclrV_eq {b : Int} {l : List Version} (hs : VSrt l) : pclrV b l = clrV b l := pclr_go hs (by omega)
theorem pclear_eq {b : Int} : ∀ {l : List Chain}, (∀ c ∈ l, VSrt c.vs) → pclear b l = clear b l
  | [], _ => rfl
  | c :: l, h => by
    simp only [pclear, clear]
    rw [pclrV_eq (h c (List.mem_cons_self ..)), pclear_eq fun d hd => h d (List.mem_cons_of_mem _ hd)]

theorem allB_refl {α : Type} {f : α → α → Bool} (hf : ∀ a, f a a = true) : ∀ l : List α, allB f l l = true
  | [] => rfl
  | a :: l => by simp [allB, hf, allB_refl hf l]
theorem sameC_refl (c : Chain) : sameC c c = true := by simp [sameC, allB_refl]
theorem sameE_refl (e : Engine) : sameE e e = true := by
  simp [sameE, allB_refl, sameC_refl]

/-! ### Rows that are right -/
theorem wrongRowsGo_srt : ∀ {l : List Pair} {i : Nat} {last : Str}, wrongRowsGo (i + 1) last l = 0 → (∀ p ∈ l, slt last p.key = true ∧ key p.key = true ∧ nOk p.n) ∧ Srt Pair.key l
  | [], i, last, _ => ⟨by simp, List.Pairwise.nil⟩
  | p :: l, i, last, h => by
    simp only [wrongRowsGo] at h
    by_cases h1 : key p.key = false
    · rw [if_pos h1] at h; simp at h
    rw [if_neg h1] at h
    by_cases h2 : 0 < i + 1 ∧ sle p.key last = true
    · rw [if_pos h2] at h; simp at h
    rw [if_neg h2] at h
    by_cases h3 : 1073741824 < p.n ∨ p.n < -1073741824
    · rw [if_pos h3] at h; simp at h
    rw [if_neg h3] at h
    obtain ⟨h4, h5⟩ := wrongRowsGo_srt h
    have h6 : slt last p.key = true := by
      have h7 : ¬ sle p.key last = true := fun e => h2 ⟨by omega, e⟩
      simp only [sle, Bool.or_eq_true, decide_eq_true_eq, not_or] at h7
      rcases slt_tri last p.key with h | h | h
      · exact h
      · exact absurd h.symm h7.2
      · exact absurd h h7.1
    refine ⟨fun q hq => ?_, List.pairwise_cons.2 ⟨fun q hq => (h4 q hq).1, h5⟩⟩
    rcases List.mem_cons.1 hq with rfl | hq
    · exact ⟨h6, by simpa using h1, by unfold nOk; omega⟩
    · exact ⟨slt_trans h6 (h4 q hq).1, (h4 q hq).2⟩
theorem wrongRows_srt {l : List Pair} (h : wrongRows l = 0) : Srt Pair.key l ∧ (∀ p ∈ l, key p.key = true) ∧ rowsOk l := by
  cases l with
  | nil => exact ⟨List.Pairwise.nil, by simp, by simp [rowsOk]⟩
  | cons p l =>
    simp only [wrongRows, wrongRowsGo] at h
    by_cases h1 : key p.key = false
    · rw [if_pos h1] at h; simp at h
    rw [if_neg h1, if_neg (by simp)] at h
    by_cases h3 : 1073741824 < p.n ∨ p.n < -1073741824
    · rw [if_pos h3] at h; simp at h
    rw [if_neg h3] at h
    obtain ⟨h4, h5⟩ := wrongRowsGo_srt h
    refine ⟨List.pairwise_cons.2 ⟨fun q hq => (h4 q hq).1, h5⟩, fun q hq => ?_, fun q hq => ?_⟩
    · rcases List.mem_cons.1 hq with rfl | hq
      · simpa using h1
      · exact (h4 q hq).2.1
    · rcases List.mem_cons.1 hq with rfl | hq
      · unfold nOk; omega
      · exact (h4 q hq).2.2

/-! ### A version more, in order -/
def newV (b : Int) : Version := ⟨b, false, false, 0⟩
def addS (k : Str) (b : Int) : List Chain → List Chain
  | [] => [⟨k, [newV b]⟩]
  | c :: r => if c.key = k then ⟨c.key, c.vs ++ [newV b]⟩ :: r else if slt c.key k = true then c :: addS k b r else ⟨k, [newV b]⟩ :: c :: r
theorem addGo_done {k : Str} {b : Int} : ∀ {l out : List Chain}, (∀ c ∈ l, c.key ≠ k) → addGo k b true out l = out ++ l
  | [], out, _ => by simp [addGo]
  | c :: l, out, h => by
    simp only [addGo]
    rw [if_neg (h c (List.mem_cons_self ..))]
    simp only [Bool.not_true, Bool.false_and, Bool.true_or]
    rw [addGo_done fun d hd => h d (List.mem_cons_of_mem _ hd)]
    simp
theorem addGo_srt {k : Str} {b : Int} : ∀ {l out : List Chain}, Srt Chain.key l → addGo k b false out l = out ++ addS k b l
  | [], out, _ => by simp [addGo, addS, newV]
  | c :: l, out, hs => by
    obtain ⟨h1, h2⟩ := List.pairwise_cons.1 hs
    simp only [addGo, addS]
    by_cases hk : c.key = k
    · rw [if_pos hk, if_pos hk]
      simp only [hk, slt_irrefl, decide_true, Bool.or_true, Bool.not_true, Bool.and_false]
      rw [addGo_done fun d hd => ?_]
      · simp [newV]
      · have := h1 d hd
        rw [hk] at this
        exact fun e => slt_ne this e.symm
    · rw [if_neg hk, if_neg hk]
      cases hl : slt c.key k with
      | true =>
        simp only [Bool.true_or, Bool.not_true, Bool.and_false, Bool.or_false]
        rw [addGo_srt h2]
        simp
      | false =>
        simp only [hk, decide_false, Bool.or_false, Bool.not_false, Bool.and_true, Bool.false_or]
        rw [addGo_done fun d hd => ?_]
        · simp [newV]
        · have h3 := h1 d hd
          intro e
          rcases slt_tri c.key k with h | h | h
          · rw [hl] at h; cases h
          · exact hk h
          · rw [e] at h3
            have := slt_trans h h3
            rw [slt_irrefl] at this; cases this
theorem addC_srt {k : Str} {b : Int} {l : List Chain} (hs : Srt Chain.key l) : addC l k b = addS k b l := by
  unfold addC
  rw [addGo_srt hs]
  rfl
theorem addS_mem {k : Str} {b : Int} : ∀ {l : List Chain} {c : Chain}, c ∈ addS k b l → c ∈ l ∨ c = ⟨k, [newV b]⟩ ∨ ∃ c0 ∈ l, c0.key = k ∧ c = ⟨k, c0.vs ++ [newV b]⟩
  | [], c, h => by simp [addS] at h; exact .inr (.inl h)
  | x :: l, c, h => by
    simp only [addS] at h
    by_cases hk : x.key = k
    · rw [if_pos hk] at h
      rcases List.mem_cons.1 h with rfl | h
      · exact .inr (.inr ⟨x, List.mem_cons_self .., hk, by rw [hk]⟩)
      · exact .inl (List.mem_cons_of_mem _ h)
    · rw [if_neg hk] at h
      split at h
      · rcases List.mem_cons.1 h with rfl | h
        · exact .inl (List.mem_cons_self ..)
        · rcases addS_mem h with h | h | ⟨c0, h0, h⟩
          · exact .inl (List.mem_cons_of_mem _ h)
          · exact .inr (.inl h)
          · exact .inr (.inr ⟨c0, List.mem_cons_of_mem _ h0, h⟩)
      · rcases List.mem_cons.1 h with rfl | h
        · exact .inr (.inl rfl)
        · exact .inl h
theorem addS_srt {k : Str} {b : Int} : ∀ {l : List Chain}, Srt Chain.key l → Srt Chain.key (addS k b l)
  | [], _ => List.pairwise_singleton ..
  | c :: l, hs => by
    obtain ⟨h1, h2⟩ := List.pairwise_cons.1 hs
    simp only [addS]
    by_cases hk : c.key = k
    · rw [if_pos hk]; exact List.pairwise_cons.2 ⟨h1, h2⟩
    · rw [if_neg hk]
      cases hl : slt c.key k with
      | true =>
        rw [if_pos rfl]
        refine List.pairwise_cons.2 ⟨fun d hd => ?_, addS_srt h2⟩
        rcases addS_mem hd with h | rfl | ⟨c0, h0, h3, rfl⟩
        · exact h1 d h
        · exact hl
        · exact hl
      | false =>
        rw [if_neg (by simp)]
        have hkc : slt k c.key = true := by
          rcases slt_tri c.key k with h | h | h
          · rw [hl] at h; cases h
          · exact absurd h hk
          · exact h
        refine List.pairwise_cons.2 ⟨fun d hd => ?_, hs⟩
        rcases List.mem_cons.1 hd with rfl | hd
        · exact hkc
        · exact slt_trans hkc (h1 d hd)

/-! ### Engines -/
structure SInv (e : Engine) : Prop where
  k : Srt Chain.key e.chains
  v : ∀ c ∈ e.chains, VSrt c.vs
  b : ∀ c ∈ e.chains, ∀ v ∈ c.vs, v.by_ < e.base + e.deeds.length

theorem newE_srt {r : List Pair} (h : Srt Pair.key r) : SInv (newE r) := by
  refine ⟨List.pairwise_map.2 h, fun c hc => ?_, fun c hc v hv => ?_⟩
  · obtain ⟨p, _, rfl⟩ := List.mem_map.1 hc
    exact List.pairwise_singleton ..
  · obtain ⟨p, _, rfl⟩ := List.mem_map.1 hc
    simp [rowChain] at hv
    subst hv
    simp [newE]

theorem isIn_false {s : Str} : ∀ {l : List Str}, isIn l s = false → s ∉ l
  | [], _, h => by simp at h
  | x :: l, h, hm => by
    simp only [isIn] at h
    by_cases hx : x = s
    · rw [if_pos hx] at h; cases h
    · rw [if_neg hx] at h
      rcases List.mem_cons.1 hm with rfl | hm
      · exact hx rfl
      · exact isIn_false h hm
theorem keysGo_nodup {l : List Str} : ∀ {r : List Str} {i : Nat}, l.drop i = r → (l.take i).Nodup → keysGo l i r = 0 → l.Nodup ∧ ∀ k ∈ r, key k = true
  | [], i, hr, hn, _ => by
    have : l.length ≤ i := by simpa using hr
    rw [List.take_of_length_le this] at hn
    exact ⟨hn, by simp⟩
  | k :: r, i, hr, hn, h => by
    simp only [keysGo] at h
    by_cases h1 : key k = false
    · rw [if_pos h1] at h; simp at h
    rw [if_neg h1] at h
    by_cases h2 : isIn (l.take i) k = true
    · rw [if_pos h2] at h; simp at h
    rw [if_neg h2] at h
    have hk : l[i]? = some k := by
      have : (l.drop i)[0]? = some k := by rw [hr]; rfl
      simpa using this
    have h3 : l.take (i + 1) = l.take i ++ [k] := by rw [List.take_add_one, hk]; rfl
    have hni : k ∉ l.take i := isIn_false (by simpa using h2)
    have := keysGo_nodup (l := l) (r := r) (i := i + 1) (by rw [← List.drop_drop, hr]; rfl) (by
      rw [h3]
      refine List.nodup_append.2 ⟨hn, by simp, fun a ha b hb => ?_⟩
      simp at hb; subst hb
      exact fun e => hni (e ▸ ha)) h
    exact ⟨this.1, fun x hx => by
      rcases List.mem_cons.1 hx with rfl | hx
      · simpa using h1
      · exact this.2 x hx⟩
theorem keysWrong_nodup {l : List Str} (h : keysWrong l = 0) : l.Nodup ∧ (∀ k ∈ l, key k = true) ∧ l.length ≤ 5 := by
  unfold keysWrong at h
  by_cases h1 : 5 < l.length
  · rw [if_pos h1] at h; simp at h
  · rw [if_neg h1] at h
    have := keysGo_nodup (l := l) (r := l) (i := 0) rfl (by simp) h
    exact ⟨this.1, this.2, by omega⟩
theorem wrong_keys {d : Deed} (h : wrongDeed d = 0) : d.reads.Nodup ∧ d.writes.Nodup := by
  unfold wrongDeed at h
  by_cases h0 : lsGo [d.reads, d.writes] = 0
  · simp only [lsGo] at h0
    by_cases h1 : keysWrong d.reads = 0
    · rw [if_pos h1] at h0
      by_cases h2 : keysWrong d.writes = 0
      · exact ⟨(keysWrong_nodup h1).1, (keysWrong_nodup h2).1⟩
      · rw [if_neg h2] at h0; exact absurd h0 h2
    · rw [if_neg h1] at h0; exact absurd h0 h1
  · rw [if_neg h0] at h; exact absurd h h0

theorem addKeys_srt {b : Int} : ∀ {ks : List Str} {l : List Chain}, ks.Nodup → Srt Chain.key l → (∀ c ∈ l, VSrt c.vs ∧ (∀ v ∈ c.vs, v.by_ ≤ b) ∧ (c.key ∈ ks → ∀ v ∈ c.vs, v.by_ < b)) →
    Srt Chain.key (addKeys b l ks) ∧ ∀ c ∈ addKeys b l ks, VSrt c.vs ∧ ∀ v ∈ c.vs, v.by_ ≤ b
  | [], l, _, hs, h => ⟨hs, fun c hc => ⟨(h c hc).1, (h c hc).2.1⟩⟩
  | k :: ks, l, hn, hs, h => by
    obtain ⟨hk, hn⟩ := List.nodup_cons.1 hn
    simp only [addKeys]
    rw [addC_srt hs]
    refine addKeys_srt hn (addS_srt hs) fun c hc => ?_
    rcases addS_mem hc with h0 | rfl | ⟨c0, h0, h1, rfl⟩
    · obtain ⟨h1, h2, h3⟩ := h c h0
      exact ⟨h1, h2, fun hm => h3 (List.mem_cons_of_mem _ hm)⟩
    · exact ⟨List.pairwise_singleton .., fun v hv => by simp at hv; subst hv; exact Int.le_refl _, fun hm => absurd hm hk⟩
    · obtain ⟨h2, h3, h4⟩ := h c0 h0
      have h5 := h4 (by rw [h1]; exact List.mem_cons_self ..)
      refine ⟨List.pairwise_append.2 ⟨h2, List.pairwise_singleton .., fun a ha x hx => ?_⟩, fun v hv => ?_, fun hm => absurd hm hk⟩
      · simp at hx; subst hx; exact h5 a ha
      · rcases List.mem_append.1 hv with hv | hv
        · exact h3 v hv
        · simp at hv; subst hv; exact Int.le_refl _
theorem SInv.add1 {e : Engine} (h : SInv e) {d : Deed} (hw : d.writes.Nodup) : SInv (add1 e d) := by
  have := addKeys_srt (b := e.base + e.deeds.length) hw h.k fun c hc => ⟨h.v c hc, fun v hv => by have := h.b c hc v hv; omega, fun _ v hv => h.b c hc v hv⟩
  refine ⟨this.1, fun c hc => (this.2 c hc).1, fun c hc v hv => ?_⟩
  have := (this.2 c hc).2 v hv
  show v.by_ < e.base + ((e.deeds ++ [d]).length : Nat)
  rw [List.length_append]
  simp only [List.length_singleton]
  omega
theorem SInv.addAll : ∀ {l : List Deed} {e : Engine}, SInv e → (∀ d ∈ l, d.writes.Nodup) → SInv (addAll e l)
  | [], e, h, _ => h
  | d :: l, e, h, hl => by
    simp only [RF.addAll]
    exact SInv.addAll (h.add1 (hl d (List.mem_cons_self ..))) fun x hx => hl x (List.mem_cons_of_mem _ hx)
theorem SInv.addE {e : Engine} (h : SInv e) {l : List Deed} (hw : (addE e l).2 = 0) : SInv (addE e l).1 := by
  unfold RF.addE at hw ⊢
  by_cases h0 : wrongs l = 0
  · rw [if_pos h0]
    exact h.addAll fun d hd => (wrong_keys (wrongs_mem h0 d hd)).2
  · rw [if_neg h0] at hw; exact absurd hw h0

/-- Chains whose keys, and whose versions' deeds, are others' in turn. -/
theorem set_srt {l : List Chain} {k : Str} {v : Version} {N : Int} (hs : Srt Chain.key l) (hv : ∀ c ∈ l, VSrt c.vs ∧ ∀ w ∈ c.vs, w.by_ < N) :
    Srt Chain.key (setChains l k v) ∧ ∀ c ∈ setChains l k v, VSrt c.vs ∧ ∀ w ∈ c.vs, w.by_ < N := by
  have hb : ∀ (h : Bool) (w : Version), (setV h v w).by_ = w.by_ := fun h w => by
    unfold setV
    split
    · next hh => exact hh.2.symm
    · rfl
  refine ⟨List.pairwise_map.2 hs, fun c hc => ?_⟩
  obtain ⟨c0, h0, rfl⟩ := List.mem_map.1 hc
  obtain ⟨h1, h2⟩ := hv c0 h0
  refine ⟨List.pairwise_map.2 (h1.imp fun hab => by rw [hb, hb]; exact hab), fun w hw => ?_⟩
  obtain ⟨w0, hw0, rfl⟩ := List.mem_map.1 hw
  rw [hb]; exact h2 w0 hw0
theorem goSets_srt {r : List Pair} {b N : Int} : ∀ {ks : List Str} {l : List Chain}, Srt Chain.key l → (∀ c ∈ l, VSrt c.vs ∧ ∀ w ∈ c.vs, w.by_ < N) →
    Srt Chain.key (goSets r b l ks) ∧ ∀ c ∈ goSets r b l ks, VSrt c.vs ∧ ∀ w ∈ c.vs, w.by_ < N
  | [], l, hs, hv => ⟨hs, hv⟩
  | k :: ks, l, hs, hv => by
    simp only [goSets]
    have := set_srt (k := k) (v := ⟨b, true, (RF.get r k).2, (RF.get r k).1⟩) hs hv
    exact goSets_srt this.1 this.2
theorem SInv.goNew {e : Engine} (h : SInv e) (A : Nat) (d : Deed) : SInv (goNew e A d) := by
  have := goSets_srt (r := (goDone e A d).1) (b := e.base + A) (ks := d.writes) (N := e.base + e.deeds.length) h.k fun c hc => ⟨h.v c hc, h.b c hc⟩
  exact ⟨this.1, fun c hc => (this.2 c hc).1, fun c hc => (this.2 c hc).2⟩
theorem SInv.goE {e : Engine} (h : SInv e) (at_ : Int) : SInv (goE e at_).1 := by
  unfold Proofs.Ytpmbijmmoacnhaa.goE
  split
  · exact h
  unfold goAt
  cases hA : e.deeds[at_.toNat]? with
  | none => exact h
  | some d =>
    dsimp only
    split
    · exact h
    split
    · exact h.goNew _ _
    · exact h
theorem clrV_sublist {b : Int} : ∀ l : List Version, (clrV b l).Sublist l
  | [] => List.Sublist.slnil
  | v :: l => by
    simp only [clrV]
    split
    · exact (clrV_sublist l).cons _
    · exact (clrV_sublist l).cons_cons _
theorem clear_srt {b : Int} : ∀ {l : List Chain}, Srt Chain.key l → Srt Chain.key (clear b l)
  | [], _ => List.Pairwise.nil
  | c :: l, hs => by
    obtain ⟨h1, h2⟩ := List.pairwise_cons.1 hs
    simp only [clear]
    split
    · exact clear_srt h2
    · refine List.pairwise_cons.2 ⟨fun d hd => ?_, clear_srt h2⟩
      obtain ⟨c0, h0, rfl⟩ := clear_mem hd
      exact h1 c0 h0
theorem SInv.clearE {e : Engine} (h : SInv e) : SInv (clearE e) := by
  have hm := markN_le e.state
  refine ⟨clear_srt h.k, fun c hc => ?_, fun c hc v hv => ?_⟩
  · obtain ⟨c0, h0, rfl⟩ := clear_mem hc
    exact List.Pairwise.sublist (clrV_sublist _) (h.v c0 h0)
  · obtain ⟨c0, h0, rfl⟩ := clear_mem hc
    have := h.b c0 h0 v (clrV_sub hv)
    simp only [RF.clearE, List.length_drop]
    omega
theorem SInv.pickE {e : Engine} (h : SInv e) (n : Int) : SInv (pickE e n) := by
  unfold Proofs.Ytpmbijmmoacnhaa.pickE
  split
  · exact h.clearE
  split
  · exact h
  split
  · exact h.goE _
  · exact h
theorem SInv.batchE {e : Engine} (h : SInv e) (b : List Deed) : SInv (batchE e b) := by
  unfold Proofs.Ytpmbijmmoacnhaa.batchE
  split
  · next hw => exact h.addE hw
  · exact h
theorem SInv.pickGo : ∀ {k : Nat} {e : Engine} {p : List Int}, SInv e → SInv (pickGo k e p).1
  | 0, e, p, h => h
  | k + 1, e, [], h => h
  | k + 1, e, n :: p, h => by
    simp only [Proofs.Ytpmbijmmoacnhaa.pickGo]
    exact SInv.pickGo (h.pickE n)
theorem SInv.buildGo : ∀ {bs : List (List Deed)} {e : Engine} {p : List Int}, SInv e → SInv (buildGo e bs p)
  | [], e, p, h => h
  | b :: bs, e, p, h => by
    simp only [Proofs.Ytpmbijmmoacnhaa.buildGo]
    exact SInv.buildGo ((h.batchE b).pickGo)
theorem build_srt {r : List Pair} (h : wrongRows r = 0) (bs : List (List Deed)) (p : List Int) : SInv (buildE r bs p) := SInv.buildGo (newE_srt (wrongRows_srt h).1)

end Go.Proofs.Ytpmbijmmoacnhaa

/-! P2 -/
/-
  Right chains: in order; rows made into chains, and read again. Plain facts.
-/
namespace Go.Proofs.Ytpmbijmmoacnhaa
open Go.AX Go.RF

theorem rightVs_srt : ∀ {l : List Version} {p : Option Int}, rightVs p l = true → VSrt l ∧ (∀ v ∈ l, -1 ≤ v.by_ ∧ v.by_ ≤ 1000000 ∧ nOk v.n) ∧ ∀ u, p = some u → ∀ v ∈ l, u < v.by_
  | [], p, _ => ⟨List.Pairwise.nil, by simp, by simp⟩
  | v :: l, p, h => by
    simp only [rightVs] at h
    cases hb : vBad p v with
    | true => rw [hb] at h; simp at h
    | false =>
      rw [hb] at h
      simp only [Bool.false_eq_true, if_false] at h
      obtain ⟨h1, h2, h3⟩ := rightVs_srt h
      simp only [vBad, Bool.or_eq_false_iff, decide_eq_false_iff_not] at hb
      obtain ⟨b1, b2, b3, b4, b5, _⟩ := hb
      have h4 := h3 v.by_ rfl
      refine ⟨VSrt.cons.2 ⟨h4, h1⟩, fun w hw => ?_, fun u hu w hw => ?_⟩
      · rcases List.mem_cons.1 hw with rfl | hw
        · exact ⟨by omega, by omega, by unfold nOk; omega⟩
        · exact h2 w hw
      · subst hu
        have h5 : u < v.by_ := by simpa [prevBad] using b3
        rcases List.mem_cons.1 hw with rfl | hw
        · exact h5
        · exact Int.lt_trans h5 (h4 w hw)
structure RC (l : List Chain) : Prop where
  s : Srt Chain.key l
  v : ∀ c ∈ l, VSrt c.vs
  k : ∀ c ∈ l, key c.key = true
  n : ∀ c ∈ l, c.vs ≠ []
  b : ∀ c ∈ l, ∀ v ∈ c.vs, -1 ≤ v.by_ ∧ v.by_ ≤ 1000000 ∧ nOk v.n
theorem rightCs_srt : ∀ {l : List Chain} {p : Option Str}, rightCs p l = true → RC l ∧ ∀ u, p = some u → ∀ c ∈ l, slt u c.key = true
  | [], p, _ => ⟨⟨List.Pairwise.nil, by simp, by simp, by simp, by simp⟩, by simp⟩
  | c :: l, p, h => by
    simp only [rightCs] at h
    cases hb : cBad p c with
    | true => rw [hb] at h; simp at h
    | false =>
      rw [hb] at h
      simp only [Bool.false_eq_true, if_false] at h
      by_cases hv : rightVs none c.vs = true
      · rw [if_pos hv] at h
        obtain ⟨h1, h2⟩ := rightCs_srt h
        obtain ⟨v1, v2, _⟩ := rightVs_srt hv
        simp only [cBad, Bool.or_eq_false_iff, Bool.not_eq_false', decide_eq_false_iff_not] at hb
        obtain ⟨b1, b2, b3⟩ := hb
        have h4 := h2 c.key rfl
        refine ⟨⟨List.pairwise_cons.2 ⟨h4, h1.s⟩, ?_, ?_, ?_, ?_⟩, fun u hu d hd => ?_⟩
        · exact fun d hd => by
                         rcases List.mem_cons.1 hd with rfl | hd
                         · exact v1
                         · exact h1.v d hd
        · exact fun d hd => by
                         rcases List.mem_cons.1 hd with rfl | hd
                         · exact b1
                         · exact h1.k d hd
        · exact fun d hd => by
                         rcases List.mem_cons.1 hd with rfl | hd
                         · exact b3
                         · exact h1.n d hd
        · exact fun d hd => by
                         rcases List.mem_cons.1 hd with rfl | hd
                         · exact v2
                         · exact h1.b d hd
        · subst hu
          have h5 : slt u c.key = true := by simpa [prevSBad] using b2
          rcases List.mem_cons.1 hd with rfl | hd
          · exact h5
          · exact slt_trans h5 (h4 d hd)
      · rw [if_neg hv] at h; simp at h
theorem rightChains_srt {l : List Chain} (h : rightChains l = true) : RC l := (rightCs_srt h).1

/-! ### Rows made into chains -/
theorem chains_srt {r : List Pair} (h : Srt Pair.key r) : Srt Chain.key (r.map rowChain) := List.pairwise_map.2 h
theorem chains_v {r : List Pair} : ∀ c ∈ r.map rowChain, VSrt c.vs := by
  intro c hc
  obtain ⟨p, _, rfl⟩ := List.mem_map.1 hc
  exact List.pairwise_singleton ..
theorem before_row {r : List Pair} (h : Srt Pair.key r) {p : Pair} (hp : p ∈ r) {b : Int} (hb : -1 < b) : before (r.map rowChain) p.key b = ⟨-1, true, true, p.n⟩ := by
  obtain ⟨i, hi⟩ := List.getElem?_of_mem hp
  unfold before
  have hil := (List.getElem?_eq_some_iff.1 hi).1
  have hsp : r = r.take i ++ p :: r.drop (i + 1) := by
    have h1 := List.take_append_drop i r
    rw [List.drop_eq_getElem_cons hil, (List.getElem?_eq_some_iff.1 hi).2] at h1
    exact h1.symm
  have hne : ∀ q ∈ r.take i ++ r.drop (i + 1), q.key ≠ p.key := by
    intro q hq
    rcases List.mem_append.1 hq with hq | hq
    · obtain ⟨j, hj⟩ := List.getElem?_of_mem hq
      rw [List.getElem?_take] at hj
      split at hj
      · exact h.ne hj hi (by omega)
      · cases hj
    · obtain ⟨j, hj⟩ := List.getElem?_of_mem hq
      rw [List.getElem?_drop] at hj
      exact h.ne hj hi (by omega)
  have n1 : ∀ out, beforeGo p.key b out ((r.take i).map rowChain) = out := fun out => beforeGo_none fun c hc => by
    obtain ⟨q, hq, rfl⟩ := List.mem_map.1 hc
    exact hne q (List.mem_append_left _ hq)
  have n2 : ∀ out, beforeGo p.key b out ((r.drop (i + 1)).map rowChain) = out := fun out => beforeGo_none fun c hc => by
    obtain ⟨q, hq, rfl⟩ := List.mem_map.1 hc
    exact hne q (List.mem_append_right _ hq)
  rw [hsp, List.map_append, beforeGo_append, n1, List.map_cons]
  simp only [beforeGo]
  rw [n2]
  simp [rowChain, bvs, hb]
theorem rowsAtGo_rows {r0 : List Pair} (h : Srt Pair.key r0) {b : Int} (hb : -1 < b) : ∀ {r out : List Pair}, (∀ p ∈ r, p ∈ r0) → rowsAtGo (r0.map rowChain) b out (r.map rowChain) = (out ++ r, true)
  | [], out, _ => by simp [rowsAtGo]
  | p :: r, out, hr => by
    have h1 : before (r0.map rowChain) (rowChain p).key b = ⟨-1, true, true, p.n⟩ := before_row h (hr p (List.mem_cons_self ..)) hb
    simp only [List.map_cons, rowsAtGo, h1, Bool.true_eq_false, if_false, if_true]
    rw [rowsAtGo_rows h hb fun q hq => hr q (List.mem_cons_of_mem _ hq)]
    simp [rowChain]
theorem rowsAt_rows {r : List Pair} (h : Srt Pair.key r) {b : Int} (hb : -1 < b) : rowsAt (r.map rowChain) b = (r, true) := by
  unfold rowsAt
  rw [rowsAtGo_rows h hb (fun _ h => h)]
  rfl

theorem rowsAtGo_len {l0 : List Chain} {b : Int} : ∀ (l : List Chain) (out : List Pair), (rowsAtGo l0 b out l).1.length ≤ out.length + l.length
  | [], out => by simp [rowsAtGo]
  | c :: l, out => by
    simp only [rowsAtGo]
    split
    · simp
    split
    · have := rowsAtGo_len (l0 := l0) (b := b) l (out ++ [⟨c.key, (before l0 c.key b).n⟩]); simp at this ⊢; omega
    · have := rowsAtGo_len (l0 := l0) (b := b) l out; simp at this ⊢; omega
theorem rowsAt_len (l : List Chain) (b : Int) : (rowsAt l b).1.length ≤ l.length := by
  have := rowsAtGo_len (l0 := l) (b := b) l []
  unfold rowsAt
  simpa using this
theorem same_refl (l : List Chain) : allB sameC l l = true := allB_refl sameC_refl l
theorem addS_len {k : Str} {b : Int} : ∀ l : List Chain, (addS k b l).length ≤ l.length + 1
  | [] => by simp [addS]
  | c :: l => by
    have := addS_len (k := k) (b := b) l
    simp only [addS]
    split
    · simp
    · split
      · simp; omega
      · simp
theorem addS_vs {k : Str} {b : Int} {l : List Chain} {N : Nat} (h : ∀ c ∈ l, c.vs.length ≤ N) : ∀ c ∈ addS k b l, c.vs.length ≤ N + 1 := by
  intro c hc
  rcases addS_mem hc with h0 | rfl | ⟨c0, h0, _, rfl⟩
  · have := h c h0; omega
  · simp
  · have := h c0 h0; simp; omega
theorem set_len (l : List Chain) (k : Str) (v : Version) : (setChains l k v).length = l.length := by simp [setChains]
theorem clear_vs {l : List Chain} {b : Int} {N : Nat} (h : ∀ c ∈ l, c.vs.length ≤ N) : ∀ c ∈ clear b l, c.vs.length ≤ N := by
  intro c hc
  obtain ⟨c0, h0, rfl⟩ := clear_mem hc
  exact Nat.le_trans (clrV_sublist _).length_le (h c0 h0)

end Go.Proofs.Ytpmbijmmoacnhaa

/-! P4 -/
/-
  Rows given and taken: plain laws. Keys by Trim.
-/
namespace Go.Proofs.Ytpmbijmmoacnhaa
open Go.AX Go.RF

/-! ### What a key has, behind -/
theorem get_put {k k' : Str} {n : Int} : ∀ {l : List Pair}, RF.get (putS k n l) k' = if k = k' then (n, true) else RF.get l k'
  | [] => by simp [putS, RF.get]
  | p :: l => by
    simp only [putS]
    by_cases hk : p.key = k
    · rw [if_pos hk]
      simp only [RF.get]
      by_cases h : k = k'
      · simp [h]
      · rw [if_neg h, if_neg h, if_neg (by rw [hk]; exact h)]
    · rw [if_neg hk]
      split
      · simp only [RF.get]
        rw [get_put]
        by_cases h : p.key = k'
        · rw [if_pos h, if_neg (fun e => hk (by rw [h, e])), if_pos h]
        · rw [if_neg h, if_neg h]
      · simp only [RF.get]
theorem get_absent {k : Str} : ∀ {l : List Pair}, (∀ p ∈ l, p.key ≠ k) → RF.get l k = (0, false)
  | [], _ => rfl
  | p :: l, h => by
    simp only [RF.get]
    rw [if_neg (h p (List.mem_cons_self ..)), get_absent fun q hq => h q (List.mem_cons_of_mem _ hq)]
theorem srt_absent {p : Pair} {l : List Pair} (hs : Srt Pair.key (p :: l)) : ∀ q ∈ l, q.key ≠ p.key := fun q hq e => by
  have := (List.pairwise_cons.1 hs).1 q hq
  rw [e, slt_irrefl] at this; cases this
theorem get_drop {k k' : Str} : ∀ {l : List Pair}, Srt Pair.key l → RF.get (dropS k l) k' = if k = k' then (0, false) else RF.get l k'
  | [], _ => by simp [dropS, RF.get]
  | p :: l, hs => by
    simp only [dropS]
    by_cases hk : p.key = k
    · rw [if_pos hk]
      by_cases h : k = k'
      · rw [if_pos h]
        exact get_absent fun q hq => by rw [← h, ← hk]; exact srt_absent hs q hq
      · rw [if_neg h]
        simp only [RF.get]
        rw [if_neg (by rw [hk]; exact h)]
    · rw [if_neg hk]
      simp only [RF.get]
      rw [get_drop (List.pairwise_cons.1 hs).2]
      by_cases h : p.key = k'
      · rw [if_pos h, if_neg (fun e => hk (by rw [h, e])), if_pos h]
      · rw [if_neg h, if_neg h]

/-! ### In order, and the same members: the same -/
theorem srt_ext : ∀ {l r : List Pair}, Srt Pair.key l → Srt Pair.key r → (∀ p, p ∈ l ↔ p ∈ r) → l = r
  | [], [], _, _, _ => rfl
  | [], q :: r, _, _, h => by have := (h q).2 (List.mem_cons_self ..); simp at this
  | p :: l, [], _, _, h => by have := (h p).1 (List.mem_cons_self ..); simp at this
  | p :: l, q :: r, hl, hr, h => by
    obtain ⟨l1, l2⟩ := List.pairwise_cons.1 hl
    obtain ⟨r1, r2⟩ := List.pairwise_cons.1 hr
    have hpq : p = q := by
      rcases List.mem_cons.1 ((h p).1 (List.mem_cons_self ..)) with e | e
      · exact e
      · rcases List.mem_cons.1 ((h q).2 (List.mem_cons_self ..)) with e' | e'
        · exact e'.symm
        · have := slt_trans (l1 q e') (r1 p e)
          rw [slt_irrefl] at this; cases this
    subst hpq
    congr 1
    refine srt_ext l2 r2 fun x => ⟨fun hx => ?_, fun hx => ?_⟩
    · rcases List.mem_cons.1 ((h x).1 (List.mem_cons_of_mem _ hx)) with e | e
      · subst e; have := l1 x hx; rw [slt_irrefl] at this; cases this
      · exact e
    · rcases List.mem_cons.1 ((h x).2 (List.mem_cons_of_mem _ hx)) with e | e
      · subst e; have := r1 x hx; rw [slt_irrefl] at this; cases this
      · exact e
theorem mem_drop {k : Str} {p : Pair} : ∀ {l : List Pair}, Srt Pair.key l → (p ∈ dropS k l ↔ p ∈ l ∧ p.key ≠ k)
  | [], _ => by simp [dropS]
  | q :: l, hs => by
    simp only [dropS]
    by_cases hk : q.key = k
    · rw [if_pos hk]
      constructor
      · exact fun h => ⟨List.mem_cons_of_mem _ h, by rw [← hk]; exact srt_absent hs p h⟩
      · rintro ⟨h, hn⟩
        rcases List.mem_cons.1 h with rfl | h
        · exact absurd hk hn
        · exact h
    · rw [if_neg hk, List.mem_cons, List.mem_cons, mem_drop (List.pairwise_cons.1 hs).2]
      constructor
      · rintro (rfl | h)
        · exact ⟨.inl rfl, hk⟩
        · exact ⟨.inr h.1, h.2⟩
      · rintro ⟨rfl | h, hn⟩
        · exact .inl rfl
        · exact .inr ⟨h, hn⟩
theorem mem_put {k : Str} {n : Int} {p : Pair} : ∀ {l : List Pair}, Srt Pair.key l → (p ∈ putS k n l ↔ p = ⟨k, n⟩ ∨ (p ∈ l ∧ p.key ≠ k))
  | [], _ => by simp [putS]
  | q :: l, hs => by
    obtain ⟨h1, h2⟩ := List.pairwise_cons.1 hs
    simp only [putS]
    by_cases hk : q.key = k
    · rw [if_pos hk, List.mem_cons, List.mem_cons]
      constructor
      · rintro (h | h)
        · exact .inl h
        · exact .inr ⟨.inr h, by rw [← hk]; exact srt_absent hs p h⟩
      · rintro (h | ⟨rfl | h, hn⟩)
        · exact .inl h
        · exact absurd hk hn
        · exact .inr h
    · rw [if_neg hk]
      split
      · rw [List.mem_cons, List.mem_cons, mem_put h2]
        constructor
        · rintro (rfl | h | h)
          · exact .inr ⟨.inl rfl, hk⟩
          · exact .inl h
          · exact .inr ⟨.inr h.1, h.2⟩
        · rintro (h | ⟨rfl | h, hn⟩)
          · exact .inr (.inl h)
          · exact .inl rfl
          · exact .inr (.inr ⟨h, hn⟩)
      · next hlt =>
        have hkq : slt k q.key = true := by
          rcases slt_tri q.key k with h | h | h
          · exact absurd h hlt
          · exact absurd h hk
          · exact h
        rw [List.mem_cons]
        constructor
        · rintro (h | h)
          · exact .inl h
          · refine .inr ⟨h, ?_⟩
            rcases List.mem_cons.1 h with rfl | h
            · exact hk
            · exact fun e => by have := slt_trans hkq (h1 p h); rw [e, slt_irrefl] at this; cases this
        · rintro (h | h)
          · exact .inl h
          · exact .inr h.1
theorem put_put {a b : Str} {n m : Int} {l : List Pair} (hs : Srt Pair.key l) (hab : a ≠ b) : putS b m (putS a n l) = putS a n (putS b m l) := by
  refine srt_ext (putS_srt (putS_srt hs)) (putS_srt (putS_srt hs)) fun p => ?_
  rw [mem_put (putS_srt hs), mem_put hs, mem_put (putS_srt hs), mem_put hs]
  constructor
  · rintro (h | ⟨h | ⟨h, h1⟩, h2⟩)
    · exact .inr ⟨.inl h, by rw [h]; exact fun e => hab e.symm⟩
    · exact .inl h
    · exact .inr ⟨.inr ⟨h, h2⟩, h1⟩
  · rintro (h | ⟨h | ⟨h, h1⟩, h2⟩)
    · exact .inr ⟨.inl h, by rw [h]; exact hab⟩
    · exact .inl h
    · exact .inr ⟨.inr ⟨h, h2⟩, h1⟩
theorem drop_put {a b : Str} {n : Int} {l : List Pair} (hs : Srt Pair.key l) (hab : a ≠ b) : dropS b (putS a n l) = putS a n (dropS b l) := by
  refine srt_ext (dropS_srt (putS_srt hs)) (putS_srt (dropS_srt hs)) fun p => ?_
  rw [mem_drop (putS_srt hs), mem_put hs, mem_put (dropS_srt hs), mem_drop hs]
  constructor
  · rintro ⟨h | ⟨h, h1⟩, h2⟩
    · exact .inl h
    · exact .inr ⟨⟨h, h2⟩, h1⟩
  · rintro (h | ⟨⟨h, h1⟩, h2⟩)
    · exact ⟨.inl h, by rw [h]; exact hab⟩
    · exact ⟨.inr ⟨h, h2⟩, h1⟩

/-! ### Right rows stay right -/
theorem wrongRowsGo_of : ∀ {l : List Pair} {i : Nat} {last : Str}, Srt Pair.key l → (∀ p ∈ l, key p.key = true) → rowsOk l → (0 < i → ∀ p ∈ l, slt last p.key = true) → wrongRowsGo i last l = 0
  | [], i, last, _, _, _, _ => rfl
  | p :: l, i, last, hs, hk, hn, hp => by
    obtain ⟨h1, h2⟩ := List.pairwise_cons.1 hs
    have h3 := hn p (List.mem_cons_self ..)
    simp only [wrongRowsGo]
    rw [if_neg (by rw [hk p (List.mem_cons_self ..)]; simp), if_neg, if_neg (by unfold nOk at h3; omega)]
    · exact wrongRowsGo_of h2 (fun q hq => hk q (List.mem_cons_of_mem _ hq)) (fun q hq => hn q (List.mem_cons_of_mem _ hq)) fun _ => h1
    · rintro ⟨h4, h5⟩
      have h6 := hp h4 p (List.mem_cons_self ..)
      simp only [sle, Bool.or_eq_true, decide_eq_true_eq] at h5
      rcases h5 with h5 | h5
      · rw [slt_asymm h6] at h5; cases h5
      · rw [h5, slt_irrefl] at h6; cases h6
theorem wrongRows_of {l : List Pair} (hs : Srt Pair.key l) (hk : ∀ p ∈ l, key p.key = true) (hn : rowsOk l) : wrongRows l = 0 := wrongRowsGo_of hs hk hn (by omega)
theorem wrong_put {l : List Pair} {k : Str} {n : Int} (h : wrongRows l = 0) (hk : key k = true) (hn : nOk n) : wrongRows (putS k n l) = 0 := by
  obtain ⟨h1, h2, h3⟩ := wrongRows_srt h
  refine wrongRows_of (putS_srt h1) (fun p hp => ?_) fun p hp => ?_
  · rcases putS_mem hp with hp | rfl
    · exact h2 p hp
    · exact hk
  · rcases putS_mem hp with hp | rfl
    · exact h3 p hp
    · exact hn
theorem wrong_drop {l : List Pair} {k : Str} (h : wrongRows l = 0) : wrongRows (dropS k l) = 0 := by
  obtain ⟨h1, h2, h3⟩ := wrongRows_srt h
  exact wrongRows_of (dropS_srt h1) (fun p hp => h2 p ((dropS_sub l).subset hp)) fun p hp => h3 p ((dropS_sub l).subset hp)

/-! ### Keys, by Trim -/
def alpha : List UInt8 := [97, 98, 99, 100, 101, 102, 103, 104, 105, 106, 107, 108, 109, 110, 111, 112, 113, 114, 115, 116, 117, 118, 119, 120, 121, 122]
theorem alpha_bad (c : UInt8) : alpha.contains c = !bad c := by
  have h : ∀ n : Fin 256, alpha.contains (UInt8.ofFin n) = !bad (UInt8.ofFin n) := by decide +kernel
  have := h c.toFin
  rwa [UInt8.ofFin_toFin] at this
theorem dropWhile_nil {p : UInt8 → Bool} : ∀ {l : List UInt8}, l.dropWhile p = [] ↔ ∀ x ∈ l, p x = true
  | [] => by simp
  | x :: l => by
    cases h : p x with
    | true => rw [List.dropWhile_cons_of_pos h, dropWhile_nil]; simp [h]
    | false => rw [List.dropWhile_cons_of_neg (by simp [h])]; simp [h]
theorem dropWhile_head {p : UInt8 → Bool} : ∀ {l r : List UInt8} {x : UInt8}, l.dropWhile p = x :: r → p x = false
  | [], r, x, h => by simp at h
  | y :: l, r, x, h => by
    cases hy : p y with
    | true => rw [List.dropWhile_cons_of_pos hy] at h; exact dropWhile_head h
    | false => rw [List.dropWhile_cons_of_neg (by simp [hy])] at h; cases h; exact hy
theorem trim_nil {l cs : List UInt8} : Lib.trimS l cs = [] ↔ ∀ x ∈ l, cs.contains x = true := by
  unfold Lib.trimS Lib.trimLeftS Lib.trimRightS
  rw [dropWhile_nil]
  constructor
  · intro h
    have h1 : l.reverse.dropWhile (cs.contains ·) = [] := by
      cases h2 : l.reverse.dropWhile (cs.contains ·) with
      | nil => rfl
      | cons x r =>
        have h3 := dropWhile_head h2
        have h4 := h x (by rw [h2]; simp)
        rw [h3] at h4; cases h4
    intro x hx
    exact dropWhile_nil.1 h1 x (by simpa using hx)
  · intro h x hx
    have h1 : l.reverse.dropWhile (cs.contains ·) = [] := dropWhile_nil.2 fun x hx => h x (by simpa using hx)
    rw [h1] at hx; simp at hx
theorem keyGo_eq {s : Str} : ∀ {r : Str}, keyGo s r = ((r.all fun c => !bad c) && (decide (0 < s.length) && decide (s.length < 7)))
  | [] => by simp [keyGo]
  | c :: r => by
    simp only [keyGo, List.all_cons]
    rw [keyGo_eq]
    cases bad c <;> simp
theorem key_trim (s : Str) : key s = (decide (1 ≤ s.length) && (decide (s.length ≤ 6) && decide (Lib.trimS s alpha = []))) := by
  unfold key
  rw [keyGo_eq]
  have h1 : (s.all fun c => !bad c) = decide (Lib.trimS s alpha = []) := by
    rw [Bool.eq_iff_iff, decide_eq_true_eq, trim_nil, List.all_eq_true]
    simp only [alpha_bad]
  rw [h1]
  have h2 : decide (0 < s.length) = decide (1 ≤ s.length) := by congr 1
  have h3 : decide (s.length < 7) = decide (s.length ≤ 6) := by congr 1; exact propext ⟨fun h => by omega, fun h => by omega⟩
  rw [h2, h3]
  cases decide (Lib.trimS s alpha = []) <;> cases decide (1 ≤ s.length) <;> cases decide (s.length ≤ 6) <;> rfl
theorem sle_not (a b : Str) : sle a b = !slt b a := by
  rcases slt_tri a b with h | h | h
  · simp [sle, h, slt_asymm h]
  · subst h; simp [sle, slt_irrefl]
  · have h1 := slt_asymm h
    have h2 : a ≠ b := fun e => by subst e; rw [slt_irrefl] at h; cases h
    simp [sle, h, h1, h2]

end Go.Proofs.Ytpmbijmmoacnhaa

/-! P5 -/
/-
  The program's way of doing a deed comes to the references'.
-/
namespace Go.Proofs.Ytpmbijmmoacnhaa
open Go.AX Go.RF

theorem get_mem_some {k : Str} : ∀ {l : List Pair} {n : Int}, RF.get l k = (n, true) → (⟨k, n⟩ : Pair) ∈ l
  | [], n, h => by simp [RF.get] at h
  | p :: l, n, h => by
    simp only [RF.get] at h
    by_cases hk : p.key = k
    · rw [if_pos hk] at h
      cases h
      rw [← hk]
      exact List.mem_cons_self ..
    · rw [if_neg hk] at h
      exact List.mem_cons_of_mem _ (get_mem_some h)
theorem get_of_mem {p : Pair} : ∀ {l : List Pair}, Srt Pair.key l → p ∈ l → RF.get l p.key = (p.n, true)
  | q :: l, hs, h => by
    simp only [RF.get]
    rcases List.mem_cons.1 h with rfl | h
    · rw [if_pos rfl]
    · have := srt_absent hs p h
      rw [if_neg (fun e => this e.symm), get_of_mem (List.pairwise_cons.1 hs).2 h]
theorem get_ext {l r : List Pair} (hl : Srt Pair.key l) (hr : Srt Pair.key r) (h : ∀ k, RF.get l k = RF.get r k) : l = r :=
  srt_ext hl hr fun p => ⟨fun hp => get_mem_some (by rw [← h, get_of_mem hl hp]), fun hp => get_mem_some (by rw [h, get_of_mem hr hp])⟩

/-! ### What has been made, given to rows -/
def chOf (c : Bool × Int) : Int × Bool := if c.1 = true then (c.2, true) else (0, false)
def chAt (r : List Pair) (m : Mk) (k : Str) : Int × Bool := match mG m k with
  | some c => chOf c
  | none => RF.get r k
def app1 (out : List Pair) (k : Str) (c : Bool × Int) : List Pair := if c.1 = true then putS k c.2 out else dropS k out
def appC : List Pair → List (Str × (Bool × Int)) → List Pair
  | out, [] => out
  | out, x :: r => appC (app1 out x.1 x.2) r
theorem app1_srt {out : List Pair} (h : Srt Pair.key out) (k : Str) (c : Bool × Int) : Srt Pair.key (app1 out k c) := by
  unfold app1; split
  · exact putS_srt h
  · exact dropS_srt h
theorem app1_get {out : List Pair} (h : Srt Pair.key out) (k k' : Str) (c : Bool × Int) : RF.get (app1 out k c) k' = if k = k' then chOf c else RF.get out k' := by
  unfold app1 chOf; split
  · exact get_put
  · exact get_drop h
theorem app1_len (out : List Pair) (k : Str) (c : Bool × Int) : (app1 out k c).length ≤ out.length + 1 := by
  unfold app1; split
  · exact putS_len out
  · exact Nat.le_succ_of_le (dropS_len out)
theorem appC_srt : ∀ {l : List (Str × (Bool × Int))} {out : List Pair}, Srt Pair.key out → Srt Pair.key (appC out l)
  | [], out, h => h
  | x :: l, out, h => appC_srt (l := l) (app1_srt h _ _)
theorem appC_get {m : Mk} {k : Str} : ∀ {l : List Str} {out : List Pair}, Srt Pair.key out → RF.get (appC out (chg m l)) k = if k ∈ l then chAt out m k else RF.get out k
  | [], out, h => by simp [chg, appC]
  | x :: l, out, h => by
    simp only [chg]
    cases hx : mG m x with
    | none =>
      simp only
      rw [appC_get h]
      by_cases hk : k ∈ l
      · rw [if_pos hk, if_pos (List.mem_cons_of_mem _ hk)]
      · rw [if_neg hk]
        by_cases he : k = x
        · subst he
          rw [if_pos (List.mem_cons_self ..), chAt, hx]
        · rw [if_neg (by simp [he, hk])]
    | some c =>
      simp only [appC]
      rw [appC_get (app1_srt h _ _)]
      by_cases he : x = k
      · subst he
        rw [if_pos (List.mem_cons_self ..), app1_get h, if_pos rfl]
        simp only [chAt, hx, ite_self]
      · have hne : ¬ k = x := fun e => he e.symm
        by_cases hk : k ∈ l
        · rw [if_pos hk, if_pos (List.mem_cons_of_mem _ hk)]
          unfold chAt
          rw [app1_get h, if_neg he]
        · rw [if_neg hk, if_neg (by simp [hne, hk]), app1_get h, if_neg he]

def plainD (r : List Pair) (d : Deed) : List Pair × Done := (appC r (runC (RF.get r) d), (runM (RF.get r) d).2)

theorem see_at {r now : List Pair} {m : Mk} (h : ∀ k, RF.get now k = chAt r m k) (hf : ∀ k c, mG m k = some c → c.1 = false → c.2 = 0) (k : Str) : seeM (RF.get r) m k = (RF.get now k).1 := by
  rw [h k]
  unfold seeM chAt chOf
  cases hm : mG m k with
  | none => rfl
  | some c =>
    dsimp only
    by_cases hc : c.1 = true
    · rw [if_pos hc]
    · rw [if_neg hc]
      exact hf k c hm (by simpa using hc)

structure MInv (r : List Pair) (W : List Str) (m : Mk) (now : List Pair) : Prop where
  s : Srt Pair.key now
  a : ∀ k, RF.get now k = chAt r m k
  f : ∀ k c, mG m k = some c → c.1 = false → c.2 = 0
  w : ∀ k c, mG m k = some c → k ∈ W
theorem MInv.set {r now : List Pair} {W : List Str} {m : Mk} (h : MInv r W m now) {k : Str} (hk : k ∈ W) (c : Bool × Int) (hc : c.1 = false → c.2 = 0) : MInv r W (mS m k c) (app1 now k c) := by
  refine ⟨app1_srt h.s k c, fun k' => ?_, fun k' c' hm => ?_, fun k' c' hm => ?_⟩
  · rw [app1_get h.s]
    unfold chAt
    rw [mG_mS]
    by_cases he : k = k'
    · rw [if_pos he, if_pos he]
    · rw [if_neg he, if_neg he]
      exact h.a k'
  · rw [mG_mS] at hm
    split at hm
    · cases hm; exact hc
    · exact h.f k' c' hm
  · rw [mG_mS] at hm
    split at hm
    · next he => rw [← he]; exact hk
    · exact h.w k' c' hm
theorem run_do {r : List Pair} {W : List Str} : ∀ {l : List Ins} {sk : Int} {m : Mk} {e : Done} {now : List Pair}, MInv r W m now → e.failed = false → (∀ i ∈ l, (i.kind = 6 ∨ i.kind = 7) → i.key ∈ W) →
    (runGo (RF.get r) sk m e l).2 = (doGo r sk now e l).2 ∧ ((doGo r sk now e l).2.failed = true → (doGo r sk now e l).1 = r) ∧ ((doGo r sk now e l).2.failed = false → MInv r W (runGo (RF.get r) sk m e l).1 (doGo r sk now e l).1)
  | [], sk, m, e, now, h, he, hw => by
    simp only [runGo, doGo]
    exact ⟨trivial, fun hf => by rw [he] at hf; exact absurd hf (by simp), fun _ => h⟩
  | i :: l, sk, m, e, now, h, he, hw => by
    have hl : ∀ i ∈ l, (i.kind = 6 ∨ i.kind = 7) → i.key ∈ W := fun j hj => hw j (List.mem_cons_of_mem _ hj)
    simp only [runGo, doGo]
    rw [see_at h.a h.f]
    by_cases h0 : 0 < sk
    · rw [if_pos h0, if_pos h0]; exact run_do h he hl
    rw [if_neg h0, if_neg h0]
    have hr : ∀ k x, (rset e k x).failed = false := fun k x => by rw [rset_failed]; exact he
    by_cases h1 : i.kind = 1
    · rw [if_pos h1, if_pos h1]; exact run_do h (hr _ _) hl
    rw [if_neg h1, if_neg h1]
    by_cases h2 : i.kind = 2
    · rw [if_pos h2, if_pos h2]; exact run_do h (hr _ _) hl
    rw [if_neg h2, if_neg h2]
    by_cases h3 : i.kind = 3
    · rw [if_pos h3, if_pos h3]; exact run_do h (hr _ _) hl
    rw [if_neg h3, if_neg h3]
    by_cases h4 : i.kind = 4
    · rw [if_pos h4, if_pos h4]; exact run_do h (hr _ _) hl
    rw [if_neg h4, if_neg h4]
    by_cases h5 : i.kind = 5
    · rw [if_pos h5, if_pos h5]; exact run_do h (hr _ _) hl
    rw [if_neg h5, if_neg h5]
    by_cases h6 : i.kind = 6
    · rw [if_pos h6, if_pos h6, put_true h.s]
      have := h.set (hw i (List.mem_cons_self ..) (.inl h6)) (true, rget e i.a.toNat) (by simp)
      exact run_do this he hl
    rw [if_neg h6, if_neg h6]
    by_cases h7 : i.kind = 7
    · rw [if_pos h7, if_pos h7, put_false h.s]
      have := h.set (hw i (List.mem_cons_self ..) (.inr h7)) (false, 0) (by simp)
      exact run_do this he hl
    rw [if_neg h7, if_neg h7]
    by_cases h8 : i.kind = 8
    · rw [if_pos h8, if_pos h8]; exact run_do h he hl
    rw [if_neg h8, if_neg h8]
    by_cases h9 : rget e i.a.toNat < 0
    · rw [if_pos h9, if_pos h9]
      exact ⟨rfl, fun _ => rfl, fun hf => by simp [bustE] at hf⟩
    · rw [if_neg h9, if_neg h9]; exact run_do h he hl
theorem plain_do {r : List Pair} {d : Deed} (hs : Srt Pair.key r) (hw : ∀ i ∈ d.code, (i.kind = 6 ∨ i.kind = 7) → i.key ∈ d.writes) : plainD r d = doD r d := by
  obtain ⟨h1, h2, h3⟩ := run_do (r := r) (W := d.writes) (l := d.code) (sk := 0) (m := []) (e := done0) (now := r) ⟨hs, fun k => rfl, fun k c h => by simp [mG] at h, fun k c h => by simp [mG] at h⟩ rfl hw
  unfold plainD doD
  refine Prod.ext ?_ h1
  dsimp only
  unfold runC
  by_cases hf : (runM (RF.get r) d).2.failed = true
  · rw [if_pos hf]
    have hf' : (doGo r 0 r done0 d.code).2.failed = true := by rw [← h1]; exact hf
    rw [h2 hf']; rfl
  · rw [if_neg hf]
    have hf' : (doGo r 0 r done0 d.code).2.failed = false := by rw [← h1]; exact Bool.eq_false_iff.2 hf
    have h := h3 hf'
    refine get_ext (appC_srt hs) h.s fun k => ?_
    rw [appC_get hs, h.a k]
    by_cases hk : k ∈ d.writes
    · rw [if_pos hk]; rfl
    · rw [if_neg hk]
      unfold chAt
      cases hm : mG (runGo (RF.get r) 0 [] done0 d.code).1 k with
      | none => rfl
      | some c => exact absurd (h.w k c hm) hk
theorem doD_srt {r : List Pair} {d : Deed} (hs : Srt Pair.key r) (hw : ∀ i ∈ d.code, (i.kind = 6 ∨ i.kind = 7) → i.key ∈ d.writes) : Srt Pair.key (doD r d).1 := by
  rw [← plain_do hs hw]; exact appC_srt hs
theorem isIn_true {s : Str} : ∀ {l : List Str}, isIn l s = true → s ∈ l
  | [], h => by cases h
  | x :: l, h => by
    simp only [isIn] at h
    by_cases hx : x = s
    · rw [hx]; exact List.mem_cons_self ..
    · rw [if_neg hx] at h
      exact List.mem_cons_of_mem _ (isIn_true h)
theorem wrongIns_keyed {d : Deed} {m : Int} {i : Ins} (h : wrongIns d m i = 0) (hk : i.kind = 6 ∨ i.kind = 7) : i.key ∈ d.writes := by
  unfold wrongIns at h
  have hkk : ¬ (i.kind < 1 ∨ 9 < i.kind) := by omega
  rw [if_neg hkk] at h
  have hh : has i.kind.toNat 107 = true := by rcases hk with e | e <;> rw [e] <;> decide
  split at h
  · simp at h
  · rw [if_neg (by rw [hh]; simp), if_neg (show ¬ i.kind = 1 by omega)] at h
    split at h
    · next hi => exact isIn_true hi
    · simp at h
theorem wrong_keyed {d : Deed} (h : wrongDeed d = 0) : ∀ i ∈ d.code, (i.kind = 6 ∨ i.kind = 7) → i.key ∈ d.writes := by
  intro i hi
  unfold wrongDeed at h
  by_cases h0 : lsGo [d.reads, d.writes] = 0
  · rw [if_pos h0] at h
    by_cases hc : 12 < d.code.length
    · rw [if_pos hc] at h; simp at h
    · rw [if_neg hc] at h
      obtain ⟨j, hj⟩ := List.getElem?_of_mem hi
      exact wrongIns_keyed (codeGo_mem h j i hj)
  · rw [if_neg h0] at h; exact absurd h h0

end Go.Proofs.Ytpmbijmmoacnhaa

/-! AxNews -/
/-
  Functions whose result is a struct of slices of the caller's own, and of data.
-/
namespace Go.AX
open Go.RowKit

variable {cx : Cx} {g : Nat → Value} {σ σ' : St} {a : Act} {w w' : World} {nx : Nat} {c : Code} {Q : Exit → St → Prop}
variable {ty : TypeId} {pos : String} {af : Array Edge} {gd : Option (Nat × Bool)} {d : Nat}

/-- What a cell of the result is: data, or a slice that is the caller's own. -/
inductive Part where
  | d (x : D)
  | own (e k : Nat) (rows : List (List D))
def withL (own : Nat → Prop) (ps : List Part) (cs : Array Value) : Nat → Prop := fun b => own b ∨ ∃ j e k rows, ps[j]? = some (.own e k rows) ∧ blk (cs.getD j undef) = some b

structure PartsAt (w : World) (base : Nat) (own : Nat → Prop) (ps : List Part) (cs : Array Value) : Prop where
  size : cs.size = ps.length
  one : ∀ (j : Nat) (c : Value), cs[j]? = some c → c.oneCell' = true
  data : ∀ j x, ps[j]? = some (.d x) → Rd w (withL own ps cs) (cs.getD j undef) x
  rows : ∀ j e k rows, ps[j]? = some (.own e k rows) → RowsAt w base (withL own ps cs) e k (cs.getD j undef) rows
  sep : ∀ j j' e k rows e' k' rows' b, ps[j]? = some (.own e k rows) → ps[j']? = some (.own e' k' rows') → blk (cs.getD j undef) = some b → blk (cs.getD j' undef) = some b → j = j'

structure FnNews (P : Program) (f : FuncId) (args : List Arg) (ps : List Part) : Prop where
  run : ∃ fn, P.funcs[f]? = some fn ∧ (fn.name == "runtime.NumGoroutine") = false ∧ fn.body.isNone = false
  calls : ∀ (w : World) (own : Nat → Prop) (vs : List Value), (∀ b, own b → b < w.heap.size) → ArgsOk w own vs args →
    Calls P f vs.toArray w fun r w' => ∃ cs, r = .returned (.agg cs) ∧ Below w.heap.size w w' ∧ PartsAt w' w.heap.size own ps cs

/-- As the state has it, told as a part. -/
inductive PartE (σ : St) : AV → Part → Prop
  | d {x : D} : PartE σ (.d x) (.d x)
  | own {id n e k : Nat} {rows : List (List D)} (ho : get σ (.o id) = .ob (.arr e k rows)) (hn : n = rows.length) : PartE σ (.own id n) (.own e k rows)
def ids : List AV → List Nat
  | [] => []
  | .own id _ :: r => id :: ids r
  | _ :: r => ids r
inductive PartsL (σ : St) : List AV → List Part → Prop
  | nil : PartsL σ [] []
  | cons {av : AV} {p : Part} {avs : List AV} {ps : List Part} (h : PartE σ av p) (t : PartsL σ avs ps) : PartsL σ (av :: avs) (p :: ps)
theorem PartsL.at {avs : List AV} {ps : List Part} (h : PartsL σ avs ps) : avs.length = ps.length ∧ ∀ (j : Nat) (p : Part), ps[j]? = some p → ∃ av : AV, avs[j]? = some av ∧ PartE σ av p := by
  induction h with
  | nil => exact ⟨rfl, fun j p h => by simp at h⟩
  | cons h t ih =>
    refine ⟨by simp [ih.1], fun j p hj => ?_⟩
    cases j with
    | zero => simp at hj; subst hj; exact ⟨_, rfl, h⟩
    | succ j => simpa using ih.2 j p (by simpa using hj)
theorem ids_mem {id n : Nat} : ∀ {avs : List AV} {j : Nat}, avs[j]? = some (.own id n) → id ∈ ids avs
  | x :: avs, 0, h => by
    obtain rfl : x = .own id n := by simpa using h
    exact List.mem_cons_self ..
  | x :: avs, j + 1, h => by
    have := ids_mem (avs := avs) (j := j) (by simpa using h)
    cases x <;> simp [ids, this]
theorem ids_inj {id n m : Nat} : ∀ {avs : List AV} {i j : Nat}, (ids avs).Nodup → avs[i]? = some (.own id n) → avs[j]? = some (.own id m) → i = j
  | x :: avs, 0, 0, _, _, _ => rfl
  | x :: avs, 0, j + 1, h, hi, hj => by
    obtain rfl : x = .own id n := by simpa using hi
    simp only [ids, List.nodup_cons] at h
    exact absurd (ids_mem (by simpa using hj)) h.1
  | x :: avs, i + 1, 0, h, hi, hj => by
    obtain rfl : x = .own id m := by simpa using hj
    simp only [ids, List.nodup_cons] at h
    exact absurd (ids_mem (by simpa using hi)) h.1
  | x :: avs, i + 1, j + 1, h, hi, hj => by
    have h' : (ids avs).Nodup := by
      cases x <;> simp only [ids, List.nodup_cons] at h <;> first | exact h.2 | exact h
    exact congrArg (· + 1) (ids_inj (n := n) (m := m) h' (by simpa using hi) (by simpa using hj))
inductive RetNews (σ : St) (t : Nat) (ps : List Part) : Prop
  | mk {avs : List AV} (h : get σ (.s t) = .av (.agg avs)) (hp : PartsL σ avs ps) (hn : (ids avs).Nodup)
theorem RetNews.ok (hs : SimG cx σ a w g nx) {t : Nat} {ps : List Part} (h : RetNews σ t ps) : ∃ cs, a.tmps.getD t undef = .agg cs ∧ PartsAt w cx.w0.heap.size cx.own0 ps cs := by
  obtain ⟨h, hp, hn⟩ := h
  rename_i avs
  obtain ⟨cs, h1, h2, h3, h4⟩ := (hs.slots t _ h).1
  obtain ⟨hl, hat⟩ := hp.at
  refine ⟨cs, h1, ?_⟩
  have hc : ∀ j p, ps[j]? = some p → ∃ av, avs[j]? = some av ∧ PartE σ av p ∧ Rep1 cx g σ w (cs.getD j undef) av := fun j p hj => by
    obtain ⟨av, h5, h6⟩ := hat j p hj
    have hlt : j < cs.size := by rw [h2]; exact (List.getElem?_eq_some_iff.1 h5).1
    have h7 : cs[j]? = some cs[j] := Array.getElem?_eq_getElem hlt
    refine ⟨av, h5, h6, ?_⟩
    rw [Array.getD_eq_getD_getElem?, h7]
    exact h4 j _ av h5 h7
  have hown : ∀ j e k rows, ps[j]? = some (.own e k rows) → ∃ id n, avs[j]? = some (.own id n) ∧ cs.getD j undef = g id ∧ get σ (.o id) = .ob (.arr e k rows) := fun j e k rows hj => by
    obtain ⟨av, h5, h6, h7⟩ := hc j _ hj
    cases h6 with
    | @own id n _ _ _ ho hn => exact ⟨id, n, h5, (h7 e k rows ho).2 hn, ho⟩
  have hle : ∀ b, withL cx.own0 ps cs b → cx.own g σ b := fun b hb => by
    rcases hb with hb | ⟨j, e, k, rows, hj, hb⟩
    · exact .inl hb
    · obtain ⟨id, n, _, h6, h7⟩ := hown j e k rows hj
      exact .inr ⟨id, _, h7, by rw [← h6]; exact hb⟩
  refine ⟨by rw [h2, hl], h3, fun j x hj => ?_, fun j e k rows hj => ?_, fun j j' e k rows e' k' rows' b hj hj' hb hb' => ?_⟩
  · obtain ⟨av, h5, h6, h7⟩ := hc j _ hj
    cases h6 with
    | d => exact Rd.less hle h7
  · obtain ⟨id, n, _, h6, h7⟩ := hown j e k rows hj
    rw [h6]
    exact (objRows hs h7).re (fun b hb => obj_ge hs h7 hb) hle
  · obtain ⟨id, n, h5, h6, h7⟩ := hown j e k rows hj
    obtain ⟨id', n', h5', h6', h7'⟩ := hown j' e' k' rows' hj'
    obtain rfl := hs.sep id id' _ _ b h7 h7' (by rw [← h6]; exact hb) (by rw [← h6']; exact hb')
    exact ids_inj hn h5 h5'
def newsQ (t : Nat) (ps : List Part) : Exit → St → Prop
  | .normal, σ => RetNews σ t ps
  | .ret, σ => RetNews σ t ps
  | _, _ => False

theorem fnNews_of {P : Program} {T : Tbl} (hT : TOk P T) (hm : P.follows .mixedOrders = true) {f : FuncId} {fn : Func} {c : Code} {t : Nat} {args : List Arg} {ps : List Part}
    (hf : P.funcs[f]? = some fn) (hb : fn.body = some c) (hname : (fn.name == "runtime.NumGoroutine") = false) (hr : fn.results = #[.tmp t]) (hn : Nat.ble args.length fn.ntmps = true)
    (h : ∀ w0 own0, CW ⟨P, T, hT, hm, fn.ntmps, w0, own0⟩ c (newsQ t ps) (argSt 0 args)) : FnNews P f args ps := by
  refine ⟨⟨fn, hf, hname, by rw [hb]; rfl⟩, fun w own vs hown ha => ?_⟩
  have hsim := entry_sim (P := P) (T := T) (hT := hT) (hm := hm) (n := fn.ntmps) hown ha (by simpa using hn)
  refine calls_of_wp hf hb (wp_mono (h w own _ _ hsim) fun x a' w' he => ?_)
  obtain ⟨σ', ⟨g, nx, hg⟩, hq⟩ := he
  have fin : ∀ hq : RetNews σ' t ps, a'.defers = [] ∧ ∃ v, (results fn a'.tmps).run P w' = .ok v w' ∧ ∃ cs, Ending.returned v = .returned (.agg cs) ∧ Below w.heap.size w w' ∧ PartsAt w' w.heap.size own ps cs := by
    intro hq
    obtain ⟨cs, h1, h2⟩ := hq.ok hg
    exact ⟨hg.defers, a'.tmps.getD t undef, by rw [results_one hr]; simp [rvRun], cs, by rw [h1], hg.below, h2⟩
  cases x with
  | normal => exact fin hq
  | ret => exact fin hq
  | exit j => exact hq.elim
  | goto j => exact hq.elim
  | panic c => exact hq.elim
  | outgrown => exact hq.elim

/-- As data, too. -/
def Part.dt : Part → D
  | .d x => x
  | .own _ k rows => .sl k rows
theorem FnNews.ok {P : Program} {f : FuncId} {args : List Arg} {ps : List Part} (h : FnNews P f args ps) : FnOk P f args (.one (.agg (ps.map Part.dt))) := by
  refine ⟨h.run, fun w own vs hown ha => (h.calls w own vs hown ha).mono fun r w' hr => ?_⟩
  obtain ⟨cs, rfl, h1, h2⟩ := hr
  refine ⟨.agg cs, rfl, h1, ?_⟩
  refine .agg cs _ (by rw [h2.size, List.length_map]) h2.one fun j x c hj hc => ?_
  rw [List.getElem?_map] at hj
  cases hp : ps[j]? with
  | none => rw [hp] at hj; cases hj
  | some p =>
    rw [hp] at hj
    simp at hj; subst hj
    have hcd : cs.getD j undef = c := by rw [Array.getD_eq_getD_getElem?, hc]; rfl
    cases p with
    | d x =>
      have := h2.data j x hp
      rw [hcd] at this
      exact this.less fun b hb => .inl hb
    | own e k rows =>
      have := h2.rows j e k rows hp
      rw [hcd] at this
      refine this.rd fun b hb => ⟨.inl hb, fun he => ?_⟩
      have := (this.lt he).1
      have := hown b hb
      omega

/-! ### Called -/
/-- What joins the state: objects from nx on; the struct's cells. -/
def newObs : Nat → List Part → List (Key × Val)
  | n, [] => [(.nx, .num n)]
  | n, .d _ :: r => newObs n r
  | n, .own e k rows :: r => (.o n, .ob (.arr e k rows)) :: newObs (n + 1) r
def newAvs : Nat → List Part → List AV
  | _, [] => []
  | n, .d x :: r => .d x :: newAvs n r
  | n, .own _ _ rows :: r => .own n rows.length :: newAvs (n + 1) r
def newN : Nat → List Part → Nat
  | n, [] => n
  | n, .d _ :: r => newN n r
  | n, .own _ _ _ :: r => newN (n + 1) r
/-- The id of the object of a place. -/
def idAt : Nat → List Part → Nat → Nat
  | n, [], _ => n
  | n, .d _ :: r, j + 1 => idAt n r j
  | n, .own _ _ _ :: r, j + 1 => idAt (n + 1) r j
  | n, _ :: _, 0 => n
theorem newN_ge : ∀ {ps : List Part} {n : Nat}, n ≤ newN n ps
  | [], n => Nat.le_refl _
  | .d _ :: r, n => newN_ge (ps := r)
  | .own _ _ _ :: r, n => Nat.le_trans (Nat.le_succ n) (newN_ge (ps := r))
theorem newAvs_len : ∀ {ps : List Part} {n : Nat}, (newAvs n ps).length = ps.length
  | [], n => rfl
  | .d _ :: r, n => by simp [newAvs, newAvs_len (ps := r)]
  | .own _ _ _ :: r, n => by simp [newAvs, newAvs_len (ps := r)]
theorem newObs_s {i : Nat} : ∀ {ps : List Part} {n : Nat}, get (newObs n ps ++ σ) (.s i) = get σ (.s i)
  | [], n => get_cons_ne (by simp)
  | .d _ :: r, n => newObs_s (ps := r)
  | .own _ _ _ :: r, n => (get_cons_ne (by simp)).trans (newObs_s (ps := r))
theorem newObs_nx : ∀ {ps : List Part} {n : Nat}, get (newObs n ps ++ σ) .nx = .num (newN n ps)
  | [], n => get_cons_same
  | .d _ :: r, n => newObs_nx (ps := r)
  | .own _ _ _ :: r, n => (get_cons_ne (by simp)).trans (newObs_nx (ps := r))
theorem newObs_lo {i : Nat} : ∀ {ps : List Part} {n : Nat}, i < n → get (newObs n ps ++ σ) (.o i) = get σ (.o i)
  | [], n, _ => get_cons_ne (by simp)
  | .d _ :: r, n, h => newObs_lo (ps := r) h
  | .own _ _ _ :: r, n, h => (get_cons_ne (by simp; omega)).trans (newObs_lo (ps := r) (by omega))
/-- The objects, each of its place. -/
theorem newObs_at {i : Nat} {o : Ob} : ∀ {ps : List Part} {n : Nat}, (∀ j o, n ≤ j → get σ (.o j) ≠ .ob o) → n ≤ i → get (newObs n ps ++ σ) (.o i) = .ob o →
    ∃ j e k rows, ps[j]? = some (.own e k rows) ∧ o = .arr e k rows ∧ idAt n ps j = i ∧ i < newN n ps
  | [], n, h0, hi, h => by
    rw [show get (newObs n [] ++ σ) (.o i) = get σ (.o i) from get_cons_ne (by simp)] at h
    exact absurd h (h0 i o hi)
  | .d _ :: r, n, h0, hi, h => by
    obtain ⟨j, e, k, rows, h1, h2, h3, h4⟩ := newObs_at (ps := r) h0 hi h
    exact ⟨j + 1, e, k, rows, by simpa using h1, h2, h3, h4⟩
  | .own e k rows :: r, n, h0, hi, h => by
    by_cases he : n = i
    · subst he
      rw [show get (newObs n (.own e k rows :: r) ++ σ) (.o n) = .ob (.arr e k rows) from get_cons_same] at h
      cases h
      exact ⟨0, e, k, rows, rfl, rfl, rfl, newN_ge (ps := r)⟩
    · rw [show get (newObs n (.own e k rows :: r) ++ σ) (.o i) = get (newObs (n + 1) r ++ σ) (.o i) from get_cons_ne (by simpa using he)] at h
      obtain ⟨j, e', k', rows', h1, h2, h3, h4⟩ := newObs_at (ps := r) (fun j o hj => h0 j o (by omega)) (by omega) h
      exact ⟨j + 1, e', k', rows', by simpa using h1, h2, h3, h4⟩
theorem idAt_get {e k : Nat} {rows : List (List D)} : ∀ {ps : List Part} {n j : Nat}, ps[j]? = some (.own e k rows) → get (newObs n ps ++ σ) (.o (idAt n ps j)) = .ob (.arr e k rows) ∧ n ≤ idAt n ps j ∧ (newAvs n ps)[j]? = some (.own (idAt n ps j) rows.length) ∧ idAt n ps j < newN n ps
  | .d _ :: r, n, 0, h => by simp at h
  | .own e' k' rows' :: r, n, 0, h => by
    simp at h
    obtain ⟨rfl, rfl, rfl⟩ := h
    exact ⟨get_cons_same, Nat.le_refl _, rfl, newN_ge (ps := r)⟩
  | .d _ :: r, n, j + 1, h => by
    have := idAt_get (ps := r) (n := n) (j := j) (by simpa using h)
    exact ⟨this.1, this.2.1, this.2.2.1, this.2.2.2⟩
  | .own _ _ _ :: r, n, j + 1, h => by
    have := idAt_get (ps := r) (n := n + 1) (j := j) (by simpa using h)
    exact ⟨(get_cons_ne (by simp only [idAt, ne_eq, Key.o.injEq]; omega)).trans this.1, by simp only [idAt]; omega, this.2.2.1, this.2.2.2⟩
theorem idAt_inj {e k : Nat} {rows : List (List D)} {e' k' : Nat} {rows' : List (List D)} : ∀ {ps : List Part} {n i j : Nat}, ps[i]? = some (.own e k rows) → ps[j]? = some (.own e' k' rows') → idAt n ps i = idAt n ps j → i = j
  | _ :: r, n, 0, 0, _, _, _ => rfl
  | .d _ :: r, n, 0, j + 1, h, _, _ => by simp at h
  | .d _ :: r, n, i + 1, 0, _, h, _ => by simp at h
  | .d _ :: r, n, i + 1, j + 1, h, h', he => by rw [idAt_inj (ps := r) (n := n) (by simpa using h) (by simpa using h') he]
  | .own _ _ _ :: r, n, 0, j + 1, _, h', he => by
    have := (idAt_get (σ := []) (ps := r) (n := n + 1) (j := j) (by simpa using h')).2.1
    simp only [idAt] at he; omega
  | .own _ _ _ :: r, n, i + 1, 0, h, _, he => by
    have := (idAt_get (σ := []) (ps := r) (n := n + 1) (j := i) (by simpa using h)).2.1
    simp only [idAt] at he; omega
  | .own _ _ _ :: r, n, i + 1, j + 1, h, h', he => by rw [idAt_inj (ps := r) (n := n + 1) (by simpa using h) (by simpa using h') he]

theorem newAvs_at {av : AV} : ∀ {ps : List Part} {n j : Nat}, (newAvs n ps)[j]? = some av → ∃ p, ps[j]? = some p ∧ ((∃ x, p = .d x ∧ av = .d x) ∨ ∃ e k rows, p = .own e k rows ∧ av = .own (idAt n ps j) rows.length)
  | .d x :: r, n, 0, h => by
    simp [newAvs] at h
    exact ⟨_, rfl, .inl ⟨x, rfl, h.symm⟩⟩
  | .own e k rows :: r, n, 0, h => by
    simp [newAvs] at h
    exact ⟨_, rfl, .inr ⟨e, k, rows, rfl, h.symm⟩⟩
  | .d _ :: r, n, j + 1, h => newAvs_at (ps := r) (n := n) (j := j) (by simpa [newAvs] using h)
  | .own _ _ _ :: r, n, j + 1, h => newAvs_at (ps := r) (n := n + 1) (j := j) (by simpa [newAvs] using h)
theorem ex_g (g : Nat → Value) : ∀ (ps : List Part) (n : Nat) (c : Nat → Value), ∃ g' : Nat → Value, (∀ i, i < n → g' i = g i) ∧ ∀ j e k rows, ps[j]? = some (.own e k rows) → g' (idAt n ps j) = c j
  | [], n, c => ⟨g, fun _ _ => rfl, fun j e k rows h => by simp at h⟩
  | .d x :: r, n, c => by
    obtain ⟨g', h1, h2⟩ := ex_g g r n fun j => c (j + 1)
    refine ⟨g', h1, fun j e k rows h => ?_⟩
    cases j with
    | zero => simp at h
    | succ j => exact h2 j e k rows (by simpa using h)
  | .own _ _ _ :: r, n, c => by
    obtain ⟨g', h1, h2⟩ := ex_g g r (n + 1) fun j => c (j + 1)
    refine ⟨upd g' n (c 0), fun i hi => by rw [upd_ne (by omega)]; exact h1 i (by omega), fun j e k rows h => ?_⟩
    cases j with
    | zero => exact upd_same _ _ _
    | succ j =>
      have h' : r[j]? = some (.own e k rows) := by simpa using h
      have := (idAt_get (σ := []) (n := n + 1) h').2.1
      show upd g' n (c 0) (idAt (n + 1) r j) = _
      rw [upd_ne (by omega)]
      exact h2 j e k rows h'

theorem SimG.joins (hs : SimG cx σ a w g nx) (hb : Below w.heap.size w w') {ps : List Part} {cs : Array Value} (hr : PartsAt w' w.heap.size (cx.own g σ) ps cs) :
    ∃ g', SimG cx (newObs nx ps ++ σ) a w' g' (newN nx ps) ∧ (∀ j e k rows, ps[j]? = some (.own e k rows) → g' (idAt nx ps j) = cs.getD j undef) ∧ ∀ b, cx.own g' (newObs nx ps ++ σ) b → withL (cx.own g σ) ps cs b := by
  obtain ⟨g', hg1, hg2⟩ := ex_g g ps nx fun j => cs.getD j undef
  have h0 : ∀ j o, nx ≤ j → get σ (.o j) ≠ .ob o := fun j o hj ho => by have := (hs.objs j o ho).1; omega
  have hob : ∀ id o, get (newObs nx ps ++ σ) (.o id) = .ob o → (id < nx ∧ get σ (.o id) = .ob o ∧ g' id = g id) ∨ (nx ≤ id ∧ ∃ j e k rows, ps[j]? = some (.own e k rows) ∧ o = .arr e k rows ∧ idAt nx ps j = id ∧ id < newN nx ps ∧ g' id = cs.getD j undef) := fun id o ho => by
    by_cases hid : id < nx
    · rw [newObs_lo hid] at ho
      exact .inl ⟨hid, ho, hg1 id hid⟩
    · obtain ⟨j, e, k, rows, h1, h2, h3, h4⟩ := newObs_at h0 (by omega) ho
      exact .inr ⟨by omega, j, e, k, rows, h1, h2, h3, h4, by rw [← h3]; exact hg2 j e k rows h1⟩
  have hown : ∀ b, cx.own g' (newObs nx ps ++ σ) b → withL (cx.own g σ) ps cs b := fun b hb => by
    rcases hb with hb | ⟨id, o, h1, h2⟩
    · exact .inl (.inl hb)
    · rcases hob id o h1 with ⟨_, h3, h4⟩ | ⟨_, j, e, k, rows, h3, _, _, _, h4⟩
      · exact .inl (.inr ⟨id, o, h3, by rw [← h4]; exact h2⟩)
      · exact .inr ⟨j, e, k, rows, h3, by rw [← h4]; exact h2⟩
  have hnew : ∀ {j e k rows b}, ps[j]? = some (.own e k rows) → blk (cs.getD j undef) = some b → w.heap.size ≤ b := fun hj hbk => ((hr.rows _ _ _ _ hj).lt hbk).1
  have hge := hs.below.size
  have hl : Later cx g g' σ (newObs nx ps ++ σ) w w' nx := by
    refine ⟨Ext.of_below hb, hb.mono hge, fun b hb' => ?_, fun id o' hid ho => ⟨o', by rw [← newObs_lo (ps := ps) hid]; exact ho, ?_⟩⟩
    · rcases hown b hb' with h | ⟨j, e, k, rows, hj, h⟩
      · exact .inl h
      · exact .inr (hnew hj h)
    · have := hg1 id hid
      cases o' <;> simp [ObLe, this]
  refine ⟨g', ?_, hg2, hown⟩
  refine hs.next hl newObs_nx newN_ge hs.size hs.defers (hb.mono hge) (fun i av hi => ?_) (fun id o ho => ?_) fun id id' o o' b h1 h2 h3 h4 => ?_
  · rw [newObs_s] at hi
    exact .inl ⟨hi, rfl⟩
  · rcases hob id o ho with ⟨h1, h2, h3⟩ | ⟨h1, j, e, k, rows, h2, rfl, h3, h4, h5⟩
    · exact .inl ⟨h2, h3, fun b hbk => hb.block b (own_lt hs (.inr ⟨id, o, h2, hbk⟩))⟩
    · refine .inr ⟨h4, ?_, trivial⟩
      have := (hr.rows j e k rows h2).re (base' := cx.w0.heap.size) (fun b hbk => by have := hnew h2 hbk; omega) hown
      rw [← h5] at this
      exact this
  · have hlo : ∀ {id o b}, get σ (.o id) = .ob o → g' id = g id → blk (g' id) = some b → b < w.heap.size := fun h1 h2 h3 => own_lt hs (.inr ⟨_, _, h1, by rw [← h2]; exact h3⟩)
    rcases hob id o h1 with ⟨_, h5, h6⟩ | ⟨_, j, e, k, rows, h5, _, h6, _, h7⟩
    · rcases hob id' o' h2 with ⟨_, h5', h6'⟩ | ⟨_, j', e', k', rows', h5', _, h6', _, h7'⟩
      · exact hs.sep id id' o o' b h5 h5' (by rw [← h6]; exact h3) (by rw [← h6']; exact h4)
      · have := hlo h5 h6 h3
        have := hnew h5' (by rw [← h7']; exact h4)
        omega
    · rcases hob id' o' h2 with ⟨_, h5', h6'⟩ | ⟨_, j', e', k', rows', h5', _, h6', _, h7'⟩
      · have := hlo h5' h6' h4
        have := hnew h5 (by rw [← h7]; exact h3)
        omega
      · have := hr.sep j j' e k rows e' k' rows' b h5 h5' (by rw [← h7]; exact h3) (by rw [← h7']; exact h4)
        rw [← h6, ← h6', this]

theorem newAvs_bd {ps : List Part} {n : Nat} : ∀ av ∈ newAvs n ps, av.bd1 (newN n ps) := by
  intro av hav
  obtain ⟨j, hj⟩ := List.getElem?_of_mem hav
  obtain ⟨p, hp, h⟩ := newAvs_at hj
  rcases h with ⟨x, _, rfl⟩ | ⟨e, k, rows, rfl, rfl⟩
  · trivial
  · exact (idAt_get (σ := []) (n := n) hp).2.2.2
theorem ok_callnews {f : FuncId} {xs : List Operand} {avs : List AV} {ys : List Arg} {l : List (Key × Val)} {ps : List Part} {ats : Array TypeId} (hn : d < cx.n) (hc : FnNews cx.P f ys ps) (hsub : Subs xs avs ys l) :
    OpOk cx ⟨some d, .call { callee := .value (.func f), args := ⟨xs⟩, argTypes := ats }, ty, pos, af, gd⟩ ⟨l ++ [(.nx, .num nx)], (.s d, .av (.agg (newAvs nx ps))) :: newObs nx ps⟩ := by
  rintro σ a w K Q ⟨g, n', hs⟩ hr hK
  have hnx : n' = nx := by
    have h2 := hr.right.1
    rw [hs.hnx] at h2
    simpa using h2
  subst hnx
  have hcall := hc.calls w (cx.own g σ) (xs.map a.eval) (fun b hb => own_lt hs hb) (hsub.ok hs hr.left)
  unfold Oper.wp
  rw [call_run hc.run]
  refine hcall.mono fun r w' he => ?_
  obtain ⟨cs, rfl, hb, hres⟩ := he
  obtain ⟨g', hG, hg2, hown⟩ := SimG.joins hs hb hres
  refine hK _ _ (Sim.put hG hn (Below.refl _ _) ?_ newAvs_bd)
  refine ⟨cs, rfl, by rw [newAvs_len, hres.size], hres.one, fun j c av hj hcj => ?_⟩
  obtain ⟨p, hp, h⟩ := newAvs_at hj
  have hcd : cs.getD j undef = c := by rw [Array.getD_eq_getD_getElem?, hcj]; rfl
  rcases h with ⟨x, rfl, rfl⟩ | ⟨e, k, rows, rfl, rfl⟩
  · have := hres.data j x hp
    rw [hcd] at this
    exact Rd.less hown this
  · intro e' k' rows' hg
    rw [(idAt_get hp).1] at hg
    cases hg
    exact ⟨Nat.le_refl _, fun _ => by rw [← hcd]; exact (hg2 j e k rows hp).symm⟩
theorem a_callnews {f : FuncId} {xs : List Operand} {avs : List AV} {ys : List Arg} {l : List (Key × Val)} {ps : List Part} {ats : Array TypeId} (hc : FnNews cx.P f ys ps) (hn : get σ .nx = .num nx) (hd : Nat.blt d cx.n = true) (hsub : SubsE σ xs avs ys l) :
    OA cx σ ⟨some d, .call { callee := .value (.func f), args := ⟨xs⟩, argTypes := ats }, ty, pos, af, gd⟩ ⟨l ++ [(.nx, .num nx)], (.s d, .av (.agg (newAvs nx ps))) :: newObs nx ps⟩ :=
  ⟨ok_callnews (lt_of_blt hd) hc hsub.out.1, hsub.out.2.append ⟨hn, trivial⟩⟩

end Go.AX

/-! AxApp -/
/-
  append onto nil.
-/
namespace Go.AX
open Go.RowKit

variable {cx : Cx} {g : Nat → Value} {σ : St} {a : Act} {w : World} {nx : Nat}
variable {ty : TypeId} {pos : String} {af : Array Edge} {gd : Option (Nat × Bool)} {d : Nat}

theorem app_core {t e k id : Nat} {x y : Operand} {rows rows2 : List (List D)} {ti te : TI} {K : Act → World → Prop} {Q : Exit → Act → World → Prop} (hs : SimG cx σ a w g nx) (hn : d < cx.n) (hv : a.eval x = g id) (hy' : Rd w (cx.own g σ) (a.eval y) (.sl k rows2)) (ht : tget cx.T t = some ti) (hk : ti.kind = .sl e k)
    (hte : tget cx.T e = some te) (hby : te.bytes ≤ 65536) (ho : get σ (.o id) = .ob (.arr e k rows)) (hlen : rows.length + rows2.length ≤ 1073741824)
    (hK : ∀ a' w', Sim cx ([(.s d, .av (.own id (rows.length + rows2.length))), (.o id, .ob (.arr e k (rows ++ rows2)))] ++ σ) a' w' → K a' w') :
    (⟨some d, .call { callee := .builtin .append, args := #[x, y], argTypes := #[t, t] }, ty, pos, af, gd⟩ : Oper).wp cx.P a w K Q := by
  obtain ⟨hid, ⟨xs, h1, h2, h3, h4⟩, _⟩ := hs.objs id _ ho
  have hF := (cx.hT t ti ht).kind
  rw [hk] at hF
  obtain ⟨hu, ⟨ie, hie, hks⟩, hk0, _⟩ := hF
  obtain ⟨ie', hie', hes, heb, z, hz, hzc⟩ := (cx.hT e te hte).info
  rw [hie] at hie'
  cases hie'
  have hzl : z.cells.size = k := by
    have := (cx.hT e te hte).len
    rw [← hzc] at this
    simp at this
    omega
  have hrunS : ∀ (v' : Value) (w' : World), (Builtin.append_ #[t, t] ty #[g id, a.eval y]).run cx.P w = .ok v' w' →
      (execOp a.eval ⟨some d, .call { callee := .builtin .append, args := #[x, y], argTypes := #[t, t] }, ty, pos, af, gd⟩).run cx.P w = .ok (.value v') w' := by
    intro v' w' h
    simp [execOp, resolve, invoke, builtin, hv, h]
  by_cases hne : rows2 = []
  · subst hne
    have hyv : ∃ p c, a.eval y = .slice p 0 c := by
      generalize a.eval y = v at hy'
      generalize hD : D.sl k [] = D0 at hy'
      cases hy' with
      | v => cases hD
      | x => cases hD
      | agg => cases hD
      | nil p c => exact ⟨p, c, rfl⟩
      | sl ad cap => cases hD; exact ⟨_, cap, rfl⟩
    obtain ⟨p, c, hyv⟩ := hyv
    have hrun := hrunS (g id) w (by rw [hyv]; exact append_nothing hu hie h1)
    refine wp_val rfl hrun (hK _ _ (Sim.eqv (Sim.put hs hn (Below.refl _ _) (av := .own id (rows.length + 0)) (fun e' k' rows' hg => ?_) hid) fun q => ?_))
    · rw [ho] at hg
      cases hg
      exact ⟨Nat.le_refl _, fun _ => rfl⟩
    · cases q with
      | s i =>
        by_cases hi : i = d
        · subst hi; rw [get_cons_same]; exact get_cons_same.symm
        · rw [get_cons_ne (by simpa using fun e => hi e.symm)]
          exact ((get_cons_ne (by simpa using fun e => hi e.symm)).trans (get_cons_ne (by simp))).symm
      | o i =>
        rw [get_cons_ne (by simp)]
        by_cases hi : i = id
        · subst hi
          rw [ho]
          exact ((get_cons_ne (by simp)).trans (get_cons_same.trans (by rw [List.append_nil]))).symm
        · exact ((get_cons_ne (by simp)).trans (get_cons_ne (by simpa using fun e => hi e.symm))).symm
      | nx => rw [get_cons_ne (by simp)]; exact ((get_cons_ne (by simp)).trans (get_cons_ne (by simp))).symm
  · obtain ⟨ad, c, news, hyv, hnl, hnc, hn1, hnr⟩ := sl_cells hy' hne
    have hbytes : (rows.length + rows2.length) * te.bytes ≤ 140737488355328 := Nat.le_trans (Nat.mul_le_mul hlen hby) (by decide)
    obtain ⟨v', w', hrun0, hown, hgr, _, hat⟩ := run_append_own_at (P := cx.P) w cx.w0.heap.size t ty e ie z k te.bytes hu hie hz hks heb hzl hk0 (g id) rows.length xs h1 ad rows2.length c news hnl hnc hn1 (by simp only [maxLen]; omega) hbytes hs.below.size
    have hrun := hrunS v' w' (by rw [hyv]; exact hrun0)
    have hlen2 : 0 < rows2.length := List.length_pos_iff.2 hne
    have hgb : ∀ b, blk (g id) = some b ↔ (g id).ownBlock = some b := fun b => by rw [blk_own h1]
    have hst : ObjStep cx σ g nx nx w w' id (.arr e k (rows ++ rows2)) v' := by
      refine ⟨.inr ⟨rfl, _, ho, rfl, rfl, by simp, fun h => ?_⟩, ?_, fun b hb hno => ?_, fun b hb => ?_⟩
      · rw [List.length_append] at h; omega
      · exact (Below.refl _ _).grown hgr hs.below.size fun q hq => obj_ge hs ho (by rw [hgb]; exact hq)
      · exact hgr.block b hb fun e => hno _ ho (by rw [hgb]; exact e.symm)
      · have hb' : v'.ownBlock = some b := by rw [← blk_own hown]; exact hb
        rcases hat with h | h
        · exact .inl ⟨_, ho, by rw [hgb, ← h]; exact hb'⟩
        · rw [h] at hb'
          right
          simp at hb'
          omega
    have hG := SimG.obj hs hst (fun hl => ⟨xs ++ news, by rw [upd_same, List.length_append]; exact hown, fun u hu => ?_, fun r hr' => ?_, fun i j r q u hi hj hu => ?_⟩) trivial
    · refine wp_val rfl hrun (hK _ _ (Sim.eqv (Sim.put hG hn (Below.refl _ _) (av := .own id (rows.length + rows2.length)) (fun e' k' rows' hg => ?_) hid) fun q => ?_))
      · rw [get_cons_same] at hg
        cases hg
        exact ⟨by simp, fun _ => (upd_same _ _ _).symm⟩
      · cases q with
        | s i =>
          by_cases hi : i = d
          · subst hi; rw [get_cons_same]; exact get_cons_same.symm
          · rw [get_cons_ne (by simpa using fun e => hi e.symm), objSt_s]
            exact ((get_cons_ne (by simpa using fun e => hi e.symm)).trans (get_cons_ne (by simp))).symm
        | o i =>
          rw [get_cons_ne (by simp)]
          by_cases hi : i = id
          · subst hi
            rw [get_cons_same]
            exact ((get_cons_ne (by simp)).trans get_cons_same).symm
          · rw [objSt_o hi]
            exact ((get_cons_ne (by simp)).trans (get_cons_ne (by simpa using fun e => hi e.symm))).symm
        | nx =>
          rw [get_cons_ne (by simp), objSt_nx]
          exact (((get_cons_ne (by simp)).trans (get_cons_ne (by simp))).trans hs.hnx).symm
    · rcases List.mem_append.1 hu with hu | hu
      · exact h2 u hu
      · exact hn1 u hu
    · rcases List.mem_append.1 hr' with hr' | hr'
      · exact h3 r hr'
      · exact sl_k hy' r hr'
    · rcases Nat.lt_or_ge i rows.length with hil | hil
      · rw [List.getElem?_append_left hil] at hi
        have hjk : j < k := by
          have := (List.getElem?_eq_some_iff.1 hj).1
          rw [h3 r (List.mem_of_getElem? hi)] at this
          exact this
        have hlt : i * k + j < xs.length := by
          rw [h1.1]
          have h5 : (i + 1) * k ≤ rows.length * k := Nat.mul_le_mul_right _ hil
          rw [Nat.add_mul, Nat.one_mul] at h5
          omega
        rw [List.getElem?_append_left hlt] at hu
        exact (h4 i j r q u hi hj hu).step hl.ext hl.own
      · rw [List.getElem?_append_right hil] at hi
        have he : i * k + j = xs.length + ((i - rows.length) * k + j) := by
          rw [h1.1, Nat.sub_mul]
          have : rows.length * k ≤ i * k := Nat.mul_le_mul_right _ hil
          omega
        rw [he, List.getElem?_append_right (by omega), Nat.add_sub_cancel_left] at hu
        exact (hnr _ j r q u hi hj hu).step hl.ext hl.own

/-- append onto nil: a slice of ours, new. -/
theorem a_appnil {t e k : Nat} {y : Operand} {rows2 : List (List D)} {ti te : TI} (hnx : get σ .nx = .num nx) (hy : ev σ y = some (.d (.sl k rows2))) (ht : tget cx.T t = some ti) (hk : ti.kind = .sl e k)
    (hte : tget cx.T e = some te) (hby : Nat.ble te.bytes 65536 = true) (hd : Nat.blt d cx.n = true) (hlen : rows2.length ≤ 1073741824) :
    OA cx σ ⟨some d, .call { callee := .builtin .append, args := #[.const nilS, y], argTypes := #[t, t] }, ty, pos, af, gd⟩
      ⟨(.nx, .num nx) :: rdOf y (.d (.sl k rows2)), [(.s d, .av (.own nx rows2.length)), (.o nx, .ob (.arr e k rows2)), (.o nx, .ob (.arr e k [])), (.nx, .num (nx + 1))]⟩ := by
  refine ⟨?_, hnx, (ev_out hy).2⟩
  rintro σ a w K Q ⟨g, n', hs⟩ hr hK
  have hnx : n' = nx := by
    have h2 := hr.1
    rw [hs.hnx] at h2
    simpa using h2
  subst hnx
  have hG := newArr (w' := w) (hv := nilS) (e := e) (k := k) hs (Below.refl _ _) (fun b hb => by simp [blk] at hb) (World.ownsRow_nil w _ e k)
  have hy' : Rd w (cx.own g σ) (a.eval y) (.sl k rows2) := (hs.ev (ev_out hy).1 hr.2).1
  have hle : ∀ b, cx.own (upd g n' nilS) (objSt σ (n' + 1) n' (.arr e k [])) b → cx.own g σ b := by
    rintro b (h | ⟨j, o, h1, h2⟩)
    · exact .inl h
    · by_cases hj : j = n'
      · subst hj; rw [upd_same] at h2; simp [blk] at h2
      · rw [objSt_o hj] at h1
        rw [upd_ne hj] at h2
        exact .inr ⟨j, o, h1, h2⟩
  have := app_core (ty := ty) (pos := pos) (af := af) (gd := gd) (x := .const nilS) (K := K) (Q := Q) (rows := []) hG (lt_of_blt hd) (by rw [upd_same]; rfl) (hy'.less hle) ht hk hte (by simpa using hby) get_cons_same (by simpa using hlen) fun a' w' h => hK a' w' ?_
  · exact this
  · simpa using h

end Go.AX

/-! R5 -/
/-
  Contracts of the program's Do and All of deeds one by one, and of the references' All.
-/
namespace Go.Proofs.Ytpmbijmmoacnhaa
open Go.AX Go.RF Go.RowKit

set_option maxRecDepth 100000
set_option maxHeartbeats 8000000

theorem ok_viewR (r : List Pair) (k : Str) (hl : r.length ≤ 268435456) (hs : Srt Pair.key r) : FnOk Try.prog 15 [.d (dstr k), .pd [encRows r]] (.tup [dint (RF.get r k).1, dbool (RF.get r k).2]) := by
  refine fnOk_of tbl_ok mixed_ok Try.func15 rfl (by kernel_rfl) rfl rfl fun w0 own0 => ?_
  have c1 := ok_pget r k hl hs
  repeat (first | ((with_reducible apply s1); exact rfl) | (with_reducible first | apply CW.seq | apply CW.block | apply CW.region | apply CW.draw | apply CW.skip | apply CW.exit | apply CW.ret | apply q_then | apply q_then_exit | apply q_then_ret | apply q_block | apply q_block_ret | apply q_block_hit | apply q_ret | apply q_end | apply q_loop_exit | apply q_loop_ret | apply q_loopT_exit | apply q_loopT_ret | apply RW.nil) | ((with_reducible apply s3); exact rfl; exact by_k) | ((with_reducible apply s2); exact rfl; exact by_k) | ((with_reducible apply s4); exact rfl) | ((with_reducible apply s5); (first | (focus ((with_reducible apply a_call); exact c1; exact rfl; (repeat (first | exact SubsE.nil | (apply SubsE.cons; exact rfl; (first | exact .d (.refl _) | exact .d (.nil _) | exact .agg rfl (.refl _) | exact .pd | exact .ptr rfl); (first | exact trivial | exact ⟨rfl, trivial⟩)))); done)) | exact by_oa); exact by_g) | ((with_reducible apply CW.cond_t); exact rfl; exact by_ks) | ((with_reducible apply CW.cond_f); exact rfl; exact by_ks) | ((with_reducible apply q_block_miss); exact rfl) | (refine And.intro (show chk [] [] _ _ = true by kernel_rfl) ?_))
  exact .two (.tmp rfl (.one (.d (.refl _)))) (.tmp rfl (.one (.d (.refl _))))

theorem wrong_reads {d : Deed} (h : wrongDeed d = 0) : ∀ i ∈ d.code, i.kind = 1 → i.key ∈ d.reads := by
  intro i hi hk
  unfold wrongDeed at h
  by_cases h0 : lsGo [d.reads, d.writes] = 0
  · rw [if_pos h0] at h
    by_cases hc : 12 < d.code.length
    · rw [if_pos hc] at h; simp at h
    · rw [if_neg hc] at h
      obtain ⟨j, hj⟩ := List.getElem?_of_mem hi
      have h := codeGo_mem h j i hj
      unfold wrongIns at h
      rw [if_neg (show ¬ (i.kind < 1 ∨ 9 < i.kind) by omega)] at h
      have hh : has i.kind.toNat 107 = true := by rw [hk]; decide
      split at h
      · simp at h
      · simp only [hh, hk, Bool.true_eq_false, if_false, if_true] at h
        rw [if_neg (show ¬ has (Int.toNat 1) 107 = false by decide)] at h
        by_cases hi : isIn d.reads i.key = true
        · exact isIn_true hi
        · rw [if_neg hi] at h; simp at h
  · rw [if_neg h0] at h; exact absurd h h0

theorem ok_pdo (r : List Pair) (d : Deed) (hl : r.length ≤ 134217728) (hs : Srt Pair.key r) (hr : rowsOk r) (hw : wrongDeed d = 0) :
    FnOk Try.prog 6 [.d (encRows r), .d (.agg d.enc)] (.tup [encRows (doD r d).1, .agg (doD r d).2.enc]) := by
  refine fnOk_of tbl_ok mixed_ok Try.func6 rfl (by kernel_rfl) rfl rfl fun w0 own0 => ?_
  have ho := wrongDeed_ok hw
  have cr := ok_run 15 [refD [encRows r]] [.pd [encRows r]] (RF.get r) d (.ref .nil) (fun k _ => ok_viewR r k (by omega) hs) (fun k => get_ok hr k) (by have := ho.c; omega) (by have := ho.w; omega) ho.i (wrong_reads hw)
  have hplain := plain_do hs (wrong_keyed hw)
  rw [← hplain]
  have hcl : (runC (RF.get r) d).length ≤ 5 := by
    unfold runC
    split
    · simp
    · exact Nat.le_trans (chg_len _ _) ho.w
  unfold plainD
  generalize hch : runC (RF.get r) d = ch at hcl
  unfold runRes at cr
  rw [hch] at cr
  generalize (runM (RF.get r) d).2 = e at cr
  repeat (first | (with_reducible apply stop_reg 1) | ((with_reducible apply s1); exact rfl) | (with_reducible first | apply CW.seq | apply CW.block | apply CW.region | apply CW.draw | apply CW.skip | apply CW.exit | apply CW.ret | apply q_then | apply q_then_exit | apply q_then_ret | apply q_block | apply q_block_ret | apply q_block_hit | apply q_ret | apply q_end | apply q_loop_exit | apply q_loop_ret | apply q_loopT_exit | apply q_loopT_ret | apply RW.nil) | ((with_reducible apply s3); exact rfl; exact by_k) | ((with_reducible apply s2); exact rfl; exact by_k) | ((with_reducible apply s4); exact rfl) | ((with_reducible apply s5); (first | exact by_oa); exact by_g) | ((with_reducible apply CW.cond_t); exact rfl; exact by_ks) | ((with_reducible apply CW.cond_f); exact rfl; exact by_ks) | ((with_reducible apply q_block_miss); exact rfl) | (refine And.intro (show chk [] [] _ _ = true by kernel_rfl) ?_))
  refine Stop.go (CW.stut (stut_freezebox (i := 2) (id := 0) (ds := [encRows r]) rfl) ⟨rfl, rfl, trivial⟩ ?_)
  repeat (first | (with_reducible apply stop_reg 2) | ((with_reducible apply s1); exact rfl) | (with_reducible first | apply CW.seq | apply CW.block | apply CW.region | apply CW.draw | apply CW.skip | apply CW.exit | apply CW.ret | apply q_then | apply q_then_exit | apply q_then_ret | apply q_block | apply q_block_ret | apply q_block_hit | apply q_ret | apply q_end | apply q_loop_exit | apply q_loop_ret | apply q_loopT_exit | apply q_loopT_ret | apply RW.nil) | ((with_reducible apply s3); exact rfl; exact by_k) | ((with_reducible apply s2); exact rfl; exact by_k) | ((with_reducible apply s4); exact rfl) | ((with_reducible apply s5); (first | ((with_reducible apply (a_mkfn (ds := [refD [encRows r]]))); exact rfl; apply SubsE.cons; exact rfl; exact .d (.refl _); exact trivial; exact SubsE.nil) | (focus ((with_reducible apply a_call); exact cr; exact rfl; (repeat (first | exact SubsE.nil | (apply SubsE.cons; exact rfl; (first | exact .d (.refl _) | exact .d (.nil _) | exact .agg rfl (.refl _) | exact .pd | exact .ptr rfl); (first | exact trivial | exact ⟨rfl, trivial⟩)))); done)) | exact by_oa); exact by_g) | ((with_reducible apply CW.cond_t); exact rfl; exact by_ks) | ((with_reducible apply CW.cond_f); exact rfl; exact by_ks) | ((with_reducible apply q_block_miss); exact rfl) | (refine And.intro (show chk [] [] _ _ = true by kernel_rfl) ?_))
  refine Stop.go (CW.stut (stut_refpd (i := 2)) ⟨rfl, trivial⟩ ?_)
  repeat (first | ((with_reducible apply stop_at 3); exact rfl) | ((with_reducible apply s1); exact rfl) | (with_reducible first | apply CW.seq | apply CW.block | apply CW.region | apply CW.draw | apply CW.skip | apply CW.exit | apply CW.ret | apply q_then | apply q_then_exit | apply q_then_ret | apply q_block | apply q_block_ret | apply q_block_hit | apply q_ret | apply q_end | apply q_loop_exit | apply q_loop_ret | apply q_loopT_exit | apply q_loopT_ret | apply RW.nil) | ((with_reducible apply s3); exact rfl; exact by_k) | ((with_reducible apply s2); exact rfl; exact by_k) | ((with_reducible apply s4); exact rfl) | ((with_reducible apply s5); (first | ((with_reducible apply a_appnil); (iterate 7 exact rfl); (focus first | omega | (simp; done) | (simp; omega))) | exact by_oa); exact by_g) | ((with_reducible apply CW.cond_t); exact rfl; exact by_ks) | ((with_reducible apply CW.cond_f); exact rfl; exact by_ks) | ((with_reducible apply q_block_miss); exact rfl) | (refine And.intro (show chk [] [] _ _ = true by kernel_rfl) ?_))
  refine Stop.go (CW.stut (stut_freeze (i := 9) (id := 4) (by simp [encRows])) ⟨rfl, rfl, trivial⟩ ?_)
  repeat (first | ((with_reducible apply s1); exact rfl) | (with_reducible first | apply CW.seq | apply CW.block | apply CW.region | apply CW.draw | apply CW.skip | apply CW.exit | apply CW.ret | apply q_then | apply q_then_exit | apply q_then_ret | apply q_block | apply q_block_ret | apply q_block_hit | apply q_ret | apply q_end | apply q_loop_exit | apply q_loop_ret | apply q_loopT_exit | apply q_loopT_ret | apply RW.nil) | ((with_reducible apply s3); exact rfl; exact by_k) | ((with_reducible apply s2); exact rfl; exact by_k) | ((with_reducible apply s4); exact rfl) | ((with_reducible apply s5); (first | exact by_oa); exact by_g) | ((with_reducible apply CW.cond_t); exact rfl; exact by_ks) | ((with_reducible apply CW.cond_f); exact rfl; exact by_ks) | ((with_reducible apply q_block_miss); exact rfl) | (refine And.intro (show chk [] [] _ _ = true by kernel_rfl) ?_))
  refine CW.loopT (fun t : Nat × List Pair => [sd 4 (.v nilS), sp 5 2, ob 2 done0.enc, sp 6 3, ob 3 e.enc, sd 7 (encVs (ch.map chVer)), sd 8 (encStrs (ch.map (·.1))), sd 9 (encRows t.2), sd 21 (encVs (ch.map chVer)), sd 22 (dint (ch.map chVer).length), sd 23 (dint t.1), nxt 4])
    (fun t => t.1 ≤ ch.length ∧ t.2.length ≤ r.length + t.1 ∧ Srt Pair.key t.2 ∧ appC t.2 (ch.drop t.1) = appC r ch) (fun t => ch.length - t.1) (0, r) ⟨by omega, by simp, hs, rfl⟩ ?_ ?_
  ·
    exact by_less
  · rintro ⟨j, out⟩ ⟨hj, hol, hos, hJ⟩
    dsimp only at hj hol hos hJ ⊢
    rcases drop_case hj with ⟨h1, h2⟩ | ⟨c, h1, h2, h3⟩
    · rw [h1, appC] at hJ
      repeat (first | ((with_reducible apply s1); exact rfl) | (with_reducible first | apply CW.seq | apply CW.block | apply CW.region | apply CW.draw | apply CW.skip | apply CW.exit | apply CW.ret | apply q_then | apply q_then_exit | apply q_then_ret | apply q_block | apply q_block_ret | apply q_block_hit | apply q_ret | apply q_end | apply q_loop_exit | apply q_loop_ret | apply q_loopT_exit | apply q_loopT_ret | apply RW.nil) | ((with_reducible apply s3); exact rfl; exact by_k) | ((with_reducible apply s2); exact rfl; exact by_k) | ((with_reducible apply s4); exact rfl) | ((with_reducible apply s5); (first | exact by_oa); exact by_g) | ((with_reducible apply CW.cond_t); exact rfl; exact by_ks) | ((with_reducible apply CW.cond_f); exact rfl; exact by_ks) | ((with_reducible apply q_block_miss); exact rfl) | (refine And.intro (show chk [] [] _ _ = true by kernel_rfl) ?_))
      rw [← hJ]
      exact .two (.tmp rfl (.one (.d (.refl _)))) (.cell rfl rfl rfl rfl (.aggd rfl (.refl _)))
    · rw [h1, appC] at hJ
      obtain ⟨k, b, n⟩ := c
      have h4 : (ch.map chVer)[j]? = some (chVer (k, b, n)) := by rw [List.getElem?_map, h2]; rfl
      have h5 : (ch.map (·.1))[j]? = some k := by rw [List.getElem?_map, h2]; rfl
      have hal := app1_len out k (b, n)
      cases b with
      | true =>
        have c1 := ok_pput out k n (by omega) hos
        repeat (first | ((with_reducible apply s1); exact rfl) | (with_reducible first | apply CW.seq | apply CW.block | apply CW.region | apply CW.draw | apply CW.skip | apply CW.exit | apply CW.ret | apply q_then | apply q_then_exit | apply q_then_ret | apply q_block | apply q_block_ret | apply q_block_hit | apply q_ret | apply q_end | apply q_loop_exit | apply q_loop_ret | apply q_loopT_exit | apply q_loopT_ret | apply RW.nil) | ((with_reducible apply s3); exact rfl; exact by_k) | ((with_reducible apply s2); exact rfl; exact by_k) | ((with_reducible apply s4); exact rfl) | ((with_reducible apply s5); (first | (focus ((with_reducible apply a_call); exact c1; exact rfl; (repeat (first | exact SubsE.nil | (apply SubsE.cons; exact rfl; (first | exact .d (.refl _) | exact .d (.nil _) | exact .agg rfl (.refl _) | exact .pd | exact .ptr rfl); (first | exact trivial | exact ⟨rfl, trivial⟩)))); done)) | exact by_oa); exact by_g) | ((with_reducible apply CW.cond_t); exact rfl; exact by_ks) | ((with_reducible apply CW.cond_f); exact rfl; exact by_ks) | ((with_reducible apply q_block_miss); exact rfl) | (refine And.intro (show chk [] [] _ _ = true by kernel_rfl) ?_))
        refine q_loopT (j + 1, putS k n out) ⟨by dsimp only; omega, by dsimp only; unfold app1 at hal; rw [if_pos rfl] at hal; dsimp only at hal; omega, putS_srt hos, hJ⟩ (by dsimp only; omega) ?_
        exact by_less
      | false =>
        have c1 := ok_pdrop out k (by omega) hos
        repeat (first | ((with_reducible apply s1); exact rfl) | (with_reducible first | apply CW.seq | apply CW.block | apply CW.region | apply CW.draw | apply CW.skip | apply CW.exit | apply CW.ret | apply q_then | apply q_then_exit | apply q_then_ret | apply q_block | apply q_block_ret | apply q_block_hit | apply q_ret | apply q_end | apply q_loop_exit | apply q_loop_ret | apply q_loopT_exit | apply q_loopT_ret | apply RW.nil) | ((with_reducible apply s3); exact rfl; exact by_k) | ((with_reducible apply s2); exact rfl; exact by_k) | ((with_reducible apply s4); exact rfl) | ((with_reducible apply s5); (first | (focus ((with_reducible apply a_call); exact c1; exact rfl; (repeat (first | exact SubsE.nil | (apply SubsE.cons; exact rfl; (first | exact .d (.refl _) | exact .d (.nil _) | exact .agg rfl (.refl _) | exact .pd | exact .ptr rfl); (first | exact trivial | exact ⟨rfl, trivial⟩)))); done)) | exact by_oa); exact by_g) | ((with_reducible apply CW.cond_t); exact rfl; exact by_ks) | ((with_reducible apply CW.cond_f); exact rfl; exact by_ks) | ((with_reducible apply q_block_miss); exact rfl) | (refine And.intro (show chk [] [] _ _ = true by kernel_rfl) ?_))
        refine q_loopT (j + 1, dropS k out) ⟨by dsimp only; omega, by dsimp only; have := dropS_len (k := k) out; omega, dropS_srt hos, hJ⟩ (by dsimp only; omega) ?_
        exact by_less

theorem allD_append : ∀ {l : List Deed} {r : List Pair}, (allD r l).2.length = l.length
  | [], r => rfl
  | d :: l, r => by simp [allD, allD_append (l := l)]

/-- Ends so far, and those of the rest. -/
theorem ok_pall (r : List Pair) (l : List Deed) (hl : r.length ≤ 1048576) (hll : l.length ≤ 1048576) (hs : Srt Pair.key r) (hr : rowsOk r) (hw : ∀ d ∈ l, wrongDeed d = 0) :
    FnOk Try.prog 9 [.d (encRows r), .d (encDeeds l)] (.tup [encRows (allD r l).1, encEnds (allD r l).2]) := by
  refine fnOk_of tbl_ok mixed_ok Try.func9 rfl (by kernel_rfl) rfl rfl fun w0 own0 => ?_
  repeat (first | ((with_reducible apply stop_at 3); exact rfl) | ((with_reducible apply s1); exact rfl) | (with_reducible first | apply CW.seq | apply CW.block | apply CW.region | apply CW.draw | apply CW.skip | apply CW.exit | apply CW.ret | apply q_then | apply q_then_exit | apply q_then_ret | apply q_block | apply q_block_ret | apply q_block_hit | apply q_ret | apply q_end | apply q_loop_exit | apply q_loop_ret | apply q_loopT_exit | apply q_loopT_ret | apply RW.nil) | ((with_reducible apply s3); exact rfl; exact by_k) | ((with_reducible apply s2); exact rfl; exact by_k) | ((with_reducible apply s4); exact rfl) | ((with_reducible apply s5); (first | ((with_reducible apply a_appnil); (iterate 7 exact rfl); (focus first | omega | (simp; done) | (simp; omega))) | exact by_oa); exact by_g) | ((with_reducible apply CW.cond_t); exact rfl; exact by_ks) | ((with_reducible apply CW.cond_f); exact rfl; exact by_ks) | ((with_reducible apply q_block_miss); exact rfl) | (refine And.intro (show chk [] [] _ _ = true by kernel_rfl) ?_))
  refine Stop.go (CW.stut (stut_freeze (i := 6) (id := 0) (by simp)) ⟨rfl, rfl, trivial⟩ ?_)
  refine CW.stut (stut_promote (i := 7) 34 5) ⟨rfl, rfl, trivial⟩ ?_
  repeat (first | ((with_reducible apply s1); exact rfl) | (with_reducible first | apply CW.seq | apply CW.block | apply CW.region | apply CW.draw | apply CW.skip | apply CW.exit | apply CW.ret | apply q_then | apply q_then_exit | apply q_then_ret | apply q_block | apply q_block_ret | apply q_block_hit | apply q_ret | apply q_end | apply q_loop_exit | apply q_loop_ret | apply q_loopT_exit | apply q_loopT_ret | apply RW.nil) | ((with_reducible apply s3); exact rfl; exact by_k) | ((with_reducible apply s2); exact rfl; exact by_k) | ((with_reducible apply s4); exact rfl) | ((with_reducible apply s5); (first | exact by_oa); exact by_g) | ((with_reducible apply CW.cond_t); exact rfl; exact by_ks) | ((with_reducible apply CW.cond_f); exact rfl; exact by_ks) | ((with_reducible apply q_block_miss); exact rfl) | (refine And.intro (show chk [] [] _ _ = true by kernel_rfl) ?_))
  refine CW.loopT (fun t : Nat × List Pair × List Done => [sd 4 (.v nilS), sd 5 (.v nilS), sd 6 (encRows t.2.1), so 7 1 t.2.2.length, oa 1 34 5 (t.2.2.map Done.enc), sd 14 (encDeeds l), sd 15 (dint l.length), sd 16 (dint t.1), nxt 2])
    (fun t => t.1 ≤ l.length ∧ t.2.2.length ≤ t.1 ∧ t.2.1.length ≤ r.length + 12 * t.1 ∧ Srt Pair.key t.2.1 ∧ rowsOk t.2.1 ∧ (allD t.2.1 (l.drop t.1)).1 = (allD r l).1 ∧ t.2.2 ++ (allD t.2.1 (l.drop t.1)).2 = (allD r l).2) (fun t => l.length - t.1) (0, r, []) ⟨by omega, by simp, by simp, hs, hr, rfl, rfl⟩ ?_ ?_
  ·
    exact by_less
  · rintro ⟨j, out, es⟩ ⟨hj, hes, hol, hos, hor, hJ1, hJ2⟩
    dsimp only at hj hes hol hos hor hJ1 hJ2 ⊢
    rcases drop_case hj with ⟨h1, h2⟩ | ⟨c, h1, h2, h3⟩
    · rw [h1] at hJ1 hJ2
      simp only [allD, List.append_nil] at hJ1 hJ2
      repeat (first | ((with_reducible apply s1); exact rfl) | (with_reducible first | apply CW.seq | apply CW.block | apply CW.region | apply CW.draw | apply CW.skip | apply CW.exit | apply CW.ret | apply q_then | apply q_then_exit | apply q_then_ret | apply q_block | apply q_block_ret | apply q_block_hit | apply q_ret | apply q_end | apply q_loop_exit | apply q_loop_ret | apply q_loopT_exit | apply q_loopT_ret | apply RW.nil) | ((with_reducible apply s3); exact rfl; exact by_k) | ((with_reducible apply s2); exact rfl; exact by_k) | ((with_reducible apply s4); exact rfl) | ((with_reducible apply s5); (first | exact by_oa); exact by_g) | ((with_reducible apply CW.cond_t); exact rfl; exact by_ks) | ((with_reducible apply CW.cond_f); exact rfl; exact by_ks) | ((with_reducible apply q_block_miss); exact rfl) | (refine And.intro (show chk [] [] _ _ = true by kernel_rfl) ?_))
      rw [← hJ1, ← hJ2]
      exact .two (.tmp rfl (.one (.d (.refl _)))) (.tmp rfl (.one (.own rfl (by simp) (.refl _))))
    · rw [h1] at hJ1 hJ2
      simp only [allD] at hJ1 hJ2
      have hwc := hw c (List.mem_of_getElem? h2)
      have c1 := ok_pdo out c (by omega) hos hor hwc
      have hlen := doD_len out c
      have hwl := (wrongDeed_ok hwc).c
      have hd1 := doD_srt hos (wrong_keyed hwc)
      have hd2 := doD_ok hor (wrongDeed_ok hwc)
      generalize doD out c = q at c1 hlen hd1 hd2 hJ1 hJ2
      obtain ⟨q1, q2⟩ := q
      dsimp only at c1 hlen hd1 hd2 hJ1 hJ2
      repeat (first | ((with_reducible apply s1); exact rfl) | (with_reducible first | apply CW.seq | apply CW.block | apply CW.region | apply CW.draw | apply CW.skip | apply CW.exit | apply CW.ret | apply q_then | apply q_then_exit | apply q_then_ret | apply q_block | apply q_block_ret | apply q_block_hit | apply q_ret | apply q_end | apply q_loop_exit | apply q_loop_ret | apply q_loopT_exit | apply q_loopT_ret | apply RW.nil) | ((with_reducible apply s3); exact rfl; exact by_k) | ((with_reducible apply s2); exact rfl; exact by_k) | ((with_reducible apply s4); exact rfl) | ((with_reducible apply s5); (first | (focus ((with_reducible apply a_call); exact c1; exact rfl; (repeat (first | exact SubsE.nil | (apply SubsE.cons; exact rfl; (first | exact .d (.refl _) | exact .d (.nil _) | exact .agg rfl (.refl _) | exact .pd | exact .ptr rfl); (first | exact trivial | exact ⟨rfl, trivial⟩)))); done)) | exact by_oa); exact by_g) | ((with_reducible apply CW.cond_t); exact rfl; exact by_ks) | ((with_reducible apply CW.cond_f); exact rfl; exact by_ks) | ((with_reducible apply q_block_miss); exact rfl) | (refine And.intro (show chk [] [] _ _ = true by kernel_rfl) ?_))
      refine q_loopT (j + 1, q1, es ++ [q2]) ⟨by dsimp only; omega, by dsimp only; simp; omega, by dsimp only; omega, hd1, hd2, hJ1, by rw [← hJ2]; simp⟩ (by dsimp only; omega) ?_
      exact by_less

end Go.Proofs.Ytpmbijmmoacnhaa

/-! F4 -/
/-
  Contract of the references' WrongRows.
-/
namespace Go.Proofs.Ytpmbijmmoacnhaa
open Go.AX Go.RF

set_option maxRecDepth 100000
set_option maxHeartbeats 4000000

theorem ok_wrongRows (l : List Pair) (hl : l.length ≤ 268435456) (hk : ∀ p ∈ l, p.key.length ≤ 1073741824) : FnOk Try.prog 4 [.d (encRows l)] (.one (dint (wrongRows l))) := by
  refine fnOk_of tbl_ok mixed_ok Try.func4 rfl (by kernel_rfl) rfl rfl fun w0 own0 => ?_
  repeat (first | ((with_reducible apply s1); exact rfl) | (with_reducible first | apply CW.seq | apply CW.block | apply CW.region | apply CW.draw | apply CW.skip | apply CW.exit | apply CW.ret | apply q_then | apply q_then_exit | apply q_then_ret | apply q_block | apply q_block_ret | apply q_block_hit | apply q_ret | apply q_end | apply q_loop_exit | apply q_loop_ret | apply q_loopT_exit | apply q_loopT_ret | apply RW.nil) | ((with_reducible apply s3); exact rfl; exact by_k) | ((with_reducible apply s2); exact rfl; exact by_k) | ((with_reducible apply s4); exact rfl) | ((with_reducible apply s5); (first | exact by_oa); exact by_g) | ((with_reducible apply CW.cond_t); exact rfl; exact by_ks) | ((with_reducible apply CW.cond_f); exact rfl; exact by_ks) | ((with_reducible apply q_block_miss); exact rfl) | (refine And.intro (show chk [] [] _ _ = true by kernel_rfl) ?_))
  refine CW.loopT (fun t : Nat × Str => [(.s 3, .av (.d (dstr t.2))), (.s 6, .av (.d (encRows l))), (.s 7, .av (.d (dint l.length))), (.s 8, .av (.d (dint t.1))), (.nx, .num 0)])
    (fun t => t.1 ≤ l.length ∧ wrongRowsGo t.1 t.2 (l.drop t.1) = wrongRows l) (fun t => l.length - t.1) (0, []) ⟨by omega, rfl⟩ ?_ ?_
  ·
    exact by_less
  · rintro ⟨i, last⟩ ⟨hi, hI⟩
    dsimp only at hi hI ⊢
    rcases drop_case hi with ⟨h1, h2⟩ | ⟨p, h1, h2, h3⟩
    · rw [h1] at hI
      simp only [wrongRowsGo] at hI
      repeat (first | ((with_reducible apply s1); exact rfl) | (with_reducible first | apply CW.seq | apply CW.block | apply CW.region | apply CW.draw | apply CW.skip | apply CW.exit | apply CW.ret | apply q_then | apply q_then_exit | apply q_then_ret | apply q_block | apply q_block_ret | apply q_block_hit | apply q_ret | apply q_end | apply q_loop_exit | apply q_loop_ret | apply q_loopT_exit | apply q_loopT_ret | apply RW.nil) | ((with_reducible apply s3); exact rfl; exact by_k) | ((with_reducible apply s2); exact rfl; exact by_k) | ((with_reducible apply s4); exact rfl) | ((with_reducible apply s5); (first | exact by_oa); exact by_g) | ((with_reducible apply CW.cond_t); exact rfl; exact by_ks) | ((with_reducible apply CW.cond_f); exact rfl; exact by_ks) | ((with_reducible apply q_block_miss); exact rfl) | (refine And.intro (show chk [] [] _ _ = true by kernel_rfl) ?_))
      exact .one (.tmp rfl (.one (.d (dle_int hI))))
    · rw [h1] at hI
      simp only [wrongRowsGo] at hI
      have hc := ok_key p.key (hk p (List.mem_of_getElem? h2))
      cases h4 : key p.key
      · rw [if_pos h4] at hI
        repeat (first | ((with_reducible apply s1); exact rfl) | (with_reducible first | apply CW.seq | apply CW.block | apply CW.region | apply CW.draw | apply CW.skip | apply CW.exit | apply CW.ret | apply q_then | apply q_then_exit | apply q_then_ret | apply q_block | apply q_block_ret | apply q_block_hit | apply q_ret | apply q_end | apply q_loop_exit | apply q_loop_ret | apply q_loopT_exit | apply q_loopT_ret | apply RW.nil) | ((with_reducible apply s3); exact rfl; exact by_k) | ((with_reducible apply s2); exact rfl; exact by_k) | ((with_reducible apply s4); exact rfl) | ((with_reducible apply s5); (first | (focus ((with_reducible apply a_call); exact hc; exact rfl; (repeat (first | exact SubsE.nil | (apply SubsE.cons; exact rfl; (first | exact .d (.refl _) | exact .d (.nil _) | exact .agg rfl (.refl _) | exact .pd | exact .ptr rfl); (first | exact trivial | exact ⟨rfl, trivial⟩)))); done)) | exact by_oa); exact by_g) | ((with_reducible apply CW.cond_t); exact rfl; exact by_ks) | ((with_reducible apply CW.cond_f); exact rfl; exact by_ks) | ((with_reducible apply q_block_miss); exact rfl) | (refine And.intro (show chk [] [] _ _ = true by kernel_rfl) ?_))
        exact .one (.tmp rfl (.one (.d (dle_int hI))))
      · rw [if_neg (by simp [h4])] at hI
        by_cases h5 : 0 < i
        · cases h6 : sle p.key last
          · rw [if_neg (by simp [h6])] at hI
            have h6' : (Go.Op.bytesLess p.key last || decide (p.key = last)) = false := h6
            by_cases h7 : 1073741824 < p.n
            · rw [if_pos (.inl h7)] at hI
              repeat (first | ((with_reducible apply s1); exact rfl) | (with_reducible first | apply CW.seq | apply CW.block | apply CW.region | apply CW.draw | apply CW.skip | apply CW.exit | apply CW.ret | apply q_then | apply q_then_exit | apply q_then_ret | apply q_block | apply q_block_ret | apply q_block_hit | apply q_ret | apply q_end | apply q_loop_exit | apply q_loop_ret | apply q_loopT_exit | apply q_loopT_ret | apply RW.nil) | ((with_reducible apply s3); exact rfl; exact by_k) | ((with_reducible apply s2); exact rfl; exact by_k) | ((with_reducible apply s4); exact rfl) | ((with_reducible apply s5); (first | (focus ((with_reducible apply a_call); exact hc; exact rfl; (repeat (first | exact SubsE.nil | (apply SubsE.cons; exact rfl; (first | exact .d (.refl _) | exact .d (.nil _) | exact .agg rfl (.refl _) | exact .pd | exact .ptr rfl); (first | exact trivial | exact ⟨rfl, trivial⟩)))); done)) | exact by_oa); exact by_g) | ((with_reducible apply CW.cond_t); exact rfl; exact by_ks) | ((with_reducible apply CW.cond_f); exact rfl; exact by_ks) | ((with_reducible apply q_block_miss); exact rfl) | (refine And.intro (show chk [] [] _ _ = true by kernel_rfl) ?_))
              exact .one (.tmp rfl (.one (.d (dle_int hI))))
            · by_cases h8 : p.n < -1073741824
              · rw [if_pos (.inr h8)] at hI
                repeat (first | ((with_reducible apply s1); exact rfl) | (with_reducible first | apply CW.seq | apply CW.block | apply CW.region | apply CW.draw | apply CW.skip | apply CW.exit | apply CW.ret | apply q_then | apply q_then_exit | apply q_then_ret | apply q_block | apply q_block_ret | apply q_block_hit | apply q_ret | apply q_end | apply q_loop_exit | apply q_loop_ret | apply q_loopT_exit | apply q_loopT_ret | apply RW.nil) | ((with_reducible apply s3); exact rfl; exact by_k) | ((with_reducible apply s2); exact rfl; exact by_k) | ((with_reducible apply s4); exact rfl) | ((with_reducible apply s5); (first | (focus ((with_reducible apply a_call); exact hc; exact rfl; (repeat (first | exact SubsE.nil | (apply SubsE.cons; exact rfl; (first | exact .d (.refl _) | exact .d (.nil _) | exact .agg rfl (.refl _) | exact .pd | exact .ptr rfl); (first | exact trivial | exact ⟨rfl, trivial⟩)))); done)) | exact by_oa); exact by_g) | ((with_reducible apply CW.cond_t); exact rfl; exact by_ks) | ((with_reducible apply CW.cond_f); exact rfl; exact by_ks) | ((with_reducible apply q_block_miss); exact rfl) | (refine And.intro (show chk [] [] _ _ = true by kernel_rfl) ?_))
                exact .one (.tmp rfl (.one (.d (dle_int hI))))
              · rw [if_neg (by omega)] at hI
                repeat (first | ((with_reducible apply s1); exact rfl) | (with_reducible first | apply CW.seq | apply CW.block | apply CW.region | apply CW.draw | apply CW.skip | apply CW.exit | apply CW.ret | apply q_then | apply q_then_exit | apply q_then_ret | apply q_block | apply q_block_ret | apply q_block_hit | apply q_ret | apply q_end | apply q_loop_exit | apply q_loop_ret | apply q_loopT_exit | apply q_loopT_ret | apply RW.nil) | ((with_reducible apply s3); exact rfl; exact by_k) | ((with_reducible apply s2); exact rfl; exact by_k) | ((with_reducible apply s4); exact rfl) | ((with_reducible apply s5); (first | (focus ((with_reducible apply a_call); exact hc; exact rfl; (repeat (first | exact SubsE.nil | (apply SubsE.cons; exact rfl; (first | exact .d (.refl _) | exact .d (.nil _) | exact .agg rfl (.refl _) | exact .pd | exact .ptr rfl); (first | exact trivial | exact ⟨rfl, trivial⟩)))); done)) | exact by_oa); exact by_g) | ((with_reducible apply CW.cond_t); exact rfl; exact by_ks) | ((with_reducible apply CW.cond_f); exact rfl; exact by_ks) | ((with_reducible apply q_block_miss); exact rfl) | (refine And.intro (show chk [] [] _ _ = true by kernel_rfl) ?_))
                refine q_loopT (i + 1, _) ⟨by omega, hI⟩ (by dsimp only; omega) ?_
                exact by_less
          · rw [if_pos ⟨h5, h6⟩] at hI
            have h6' : (Go.Op.bytesLess p.key last || decide (p.key = last)) = true := h6
            repeat (first | ((with_reducible apply s1); exact rfl) | (with_reducible first | apply CW.seq | apply CW.block | apply CW.region | apply CW.draw | apply CW.skip | apply CW.exit | apply CW.ret | apply q_then | apply q_then_exit | apply q_then_ret | apply q_block | apply q_block_ret | apply q_block_hit | apply q_ret | apply q_end | apply q_loop_exit | apply q_loop_ret | apply q_loopT_exit | apply q_loopT_ret | apply RW.nil) | ((with_reducible apply s3); exact rfl; exact by_k) | ((with_reducible apply s2); exact rfl; exact by_k) | ((with_reducible apply s4); exact rfl) | ((with_reducible apply s5); (first | (focus ((with_reducible apply a_call); exact hc; exact rfl; (repeat (first | exact SubsE.nil | (apply SubsE.cons; exact rfl; (first | exact .d (.refl _) | exact .d (.nil _) | exact .agg rfl (.refl _) | exact .pd | exact .ptr rfl); (first | exact trivial | exact ⟨rfl, trivial⟩)))); done)) | exact by_oa); exact by_g) | ((with_reducible apply CW.cond_t); exact rfl; exact by_ks) | ((with_reducible apply CW.cond_f); exact rfl; exact by_ks) | ((with_reducible apply q_block_miss); exact rfl) | (refine And.intro (show chk [] [] _ _ = true by kernel_rfl) ?_))
            exact .one (.tmp rfl (.one (.d (dle_int hI))))
        · rw [if_neg (by simp; omega)] at hI
          by_cases h7 : 1073741824 < p.n
          · rw [if_pos (.inl h7)] at hI
            repeat (first | ((with_reducible apply s1); exact rfl) | (with_reducible first | apply CW.seq | apply CW.block | apply CW.region | apply CW.draw | apply CW.skip | apply CW.exit | apply CW.ret | apply q_then | apply q_then_exit | apply q_then_ret | apply q_block | apply q_block_ret | apply q_block_hit | apply q_ret | apply q_end | apply q_loop_exit | apply q_loop_ret | apply q_loopT_exit | apply q_loopT_ret | apply RW.nil) | ((with_reducible apply s3); exact rfl; exact by_k) | ((with_reducible apply s2); exact rfl; exact by_k) | ((with_reducible apply s4); exact rfl) | ((with_reducible apply s5); (first | (focus ((with_reducible apply a_call); exact hc; exact rfl; (repeat (first | exact SubsE.nil | (apply SubsE.cons; exact rfl; (first | exact .d (.refl _) | exact .d (.nil _) | exact .agg rfl (.refl _) | exact .pd | exact .ptr rfl); (first | exact trivial | exact ⟨rfl, trivial⟩)))); done)) | exact by_oa); exact by_g) | ((with_reducible apply CW.cond_t); exact rfl; exact by_ks) | ((with_reducible apply CW.cond_f); exact rfl; exact by_ks) | ((with_reducible apply q_block_miss); exact rfl) | (refine And.intro (show chk [] [] _ _ = true by kernel_rfl) ?_))
            exact .one (.tmp rfl (.one (.d (dle_int hI))))
          · by_cases h8 : p.n < -1073741824
            · rw [if_pos (.inr h8)] at hI
              repeat (first | ((with_reducible apply s1); exact rfl) | (with_reducible first | apply CW.seq | apply CW.block | apply CW.region | apply CW.draw | apply CW.skip | apply CW.exit | apply CW.ret | apply q_then | apply q_then_exit | apply q_then_ret | apply q_block | apply q_block_ret | apply q_block_hit | apply q_ret | apply q_end | apply q_loop_exit | apply q_loop_ret | apply q_loopT_exit | apply q_loopT_ret | apply RW.nil) | ((with_reducible apply s3); exact rfl; exact by_k) | ((with_reducible apply s2); exact rfl; exact by_k) | ((with_reducible apply s4); exact rfl) | ((with_reducible apply s5); (first | (focus ((with_reducible apply a_call); exact hc; exact rfl; (repeat (first | exact SubsE.nil | (apply SubsE.cons; exact rfl; (first | exact .d (.refl _) | exact .d (.nil _) | exact .agg rfl (.refl _) | exact .pd | exact .ptr rfl); (first | exact trivial | exact ⟨rfl, trivial⟩)))); done)) | exact by_oa); exact by_g) | ((with_reducible apply CW.cond_t); exact rfl; exact by_ks) | ((with_reducible apply CW.cond_f); exact rfl; exact by_ks) | ((with_reducible apply q_block_miss); exact rfl) | (refine And.intro (show chk [] [] _ _ = true by kernel_rfl) ?_))
              exact .one (.tmp rfl (.one (.d (dle_int hI))))
            · rw [if_neg (by omega)] at hI
              repeat (first | ((with_reducible apply s1); exact rfl) | (with_reducible first | apply CW.seq | apply CW.block | apply CW.region | apply CW.draw | apply CW.skip | apply CW.exit | apply CW.ret | apply q_then | apply q_then_exit | apply q_then_ret | apply q_block | apply q_block_ret | apply q_block_hit | apply q_ret | apply q_end | apply q_loop_exit | apply q_loop_ret | apply q_loopT_exit | apply q_loopT_ret | apply RW.nil) | ((with_reducible apply s3); exact rfl; exact by_k) | ((with_reducible apply s2); exact rfl; exact by_k) | ((with_reducible apply s4); exact rfl) | ((with_reducible apply s5); (first | (focus ((with_reducible apply a_call); exact hc; exact rfl; (repeat (first | exact SubsE.nil | (apply SubsE.cons; exact rfl; (first | exact .d (.refl _) | exact .d (.nil _) | exact .agg rfl (.refl _) | exact .pd | exact .ptr rfl); (first | exact trivial | exact ⟨rfl, trivial⟩)))); done)) | exact by_oa); exact by_g) | ((with_reducible apply CW.cond_t); exact rfl; exact by_ks) | ((with_reducible apply CW.cond_f); exact rfl; exact by_ks) | ((with_reducible apply q_block_miss); exact rfl) | (refine And.intro (show chk [] [] _ _ = true by kernel_rfl) ?_))
              refine q_loopT (i + 1, _) ⟨by omega, hI⟩ (by dsimp only; omega) ?_
              exact by_less

end Go.Proofs.Ytpmbijmmoacnhaa
