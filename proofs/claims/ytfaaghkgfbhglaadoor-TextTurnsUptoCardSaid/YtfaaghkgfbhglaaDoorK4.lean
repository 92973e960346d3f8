/-
  Part 4 of what the claim leans on: H11 H12 P16 P17 P18 P19 P20 L16 AxLaid.
-/
import Derived.Test.YtfaaghkgfbhglaaDoorK3
import Derived.Shelf.Vars
import Derived.FnData

/-! H11 -/
/-
  Contract of the program's Parse, at whatever text: the references'.
-/
namespace Go.Proofs.YtfaaghkgfbhglaaDoor
open Go.AX Go.RF Go.RowKit

set_option maxRecDepth 100000
set_option maxHeartbeats 16000000

theorem ok_tparse (s : Str) (hbig : s.length ≤ 1000000000) : FnOk Tryd.prog 7 [.d (dstr s)] (.tup [.agg (parseR s).1.enc, dint (parseR s).2]) := by
  refine fnOk_of tbl_ok mixed_ok Tryd.func7 rfl (by kernel_rfl) rfl rfl fun w0 own0 => ?_
  by_cases hs : 400 < s.length
  · have hP : parseE s = .error 4 := by unfold parseE; rw [if_pos hs]
    repeat (first|((with_reducible apply s1); exact rfl)|(with_reducible first|apply CW.seq|apply CW.block|apply CW.region|apply CW.draw|apply CW.skip|apply CW.exit|apply CW.ret|apply q_then|apply q_then_exit|apply q_then_ret|apply q_block|apply q_block_ret|apply q_block_hit|apply q_ret|apply q_end|apply q_loop_exit|apply q_loop_ret|apply q_loopT_exit|apply q_loopT_ret|apply RW.nil)|((with_reducible apply s3); exact rfl; exact by_k)|((with_reducible apply s2); exact rfl; exact by_k)|((with_reducible apply s4); exact rfl)|((with_reducible apply s5); exact by_oa; exact by_g)|((with_reducible apply CW.cond_t); exact rfl; exact by_ks)|((with_reducible apply CW.cond_f); exact rfl; exact by_ks)|((with_reducible apply q_block_miss); exact rfl)|(refine And.intro (show chk [] [] _ _ = true by kernel_rfl) ?_))
    exact .two (.cell rfl rfl rfl rfl (.aggd rfl (no_le hP))) (.tmp rfl (.one (.d (er_le hP))))
  have c1 := ok_lsplit s [59, 32] (by omega) (by simp)
  have hsl := split_len s [59, 32]
  have hsp : ∀ p ∈ split s [59, 32], p.length ≤ 400 := fun p hp => Nat.le_trans (split_part hp) (by omega)
  by_cases h2 : (split s [59, 32]).length < 2
  · have hP : parseE s = .error 8 := by
      unfold parseE
      rw [if_neg hs]
      match split s [59, 32], h2 with
      | [], _ => rfl
      | [_], _ => rfl
      | _ :: _ :: _, h => simp at h; omega
    generalize split s [59, 32] = l at *
    repeat (first|((with_reducible apply s1); exact rfl)|(with_reducible first|apply CW.seq|apply CW.block|apply CW.region|apply CW.draw|apply CW.skip|apply CW.exit|apply CW.ret|apply q_then|apply q_then_exit|apply q_then_ret|apply q_block|apply q_block_ret|apply q_block_hit|apply q_ret|apply q_end|apply q_loop_exit|apply q_loop_ret|apply q_loopT_exit|apply q_loopT_ret|apply RW.nil)|((with_reducible apply s3); exact rfl; exact by_k)|((with_reducible apply s2); exact rfl; exact by_k)|((with_reducible apply s4); exact rfl)|((with_reducible apply s5); (first|exact a_call c1 rfl by_sub|exact by_oa); exact by_g)|((with_reducible apply CW.cond_t); exact rfl; exact by_ks)|((with_reducible apply CW.cond_f); exact rfl; exact by_ks)|((with_reducible apply q_block_miss); exact rfl)|(refine And.intro (show chk [] [] _ _ = true by kernel_rfl) ?_))
    exact .two (.cell rfl rfl rfl rfl (.aggd rfl (no_le hP))) (.tmp rfl (.one (.d (er_le hP))))
  obtain ⟨p0, p1, ps, e0⟩ : ∃ p0 p1 ps, split s [59, 32] = p0 :: p1 :: ps := by
    match split s [59, 32], h2 with
    | [], h => simp at h
    | [_], h => simp at h
    | a :: b :: r, _ => exact ⟨a, b, r, rfl⟩
  obtain ⟨v0, rs, e1⟩ := split_cons p0 [32]
  obtain ⟨v1, ws, e2⟩ := split_cons p1 [32]
  have hPF := parseE_fin (by omega) e0 e1 e2
  generalize hl : split s [59, 32] = l at *
  have h2l : 2 ≤ l.length := by omega
  repeat (first|((with_reducible apply stop_at 7); exact rfl)|((with_reducible apply s1); exact rfl)|(with_reducible first|apply CW.seq|apply CW.block|apply CW.region|apply CW.draw|apply CW.skip|apply CW.exit|apply CW.ret|apply q_then|apply q_then_exit|apply q_then_ret|apply q_block|apply q_block_ret|apply q_block_hit|apply q_ret|apply q_end|apply q_loop_exit|apply q_loop_ret|apply q_loopT_exit|apply q_loopT_ret|apply RW.nil)|((with_reducible apply s3); exact rfl; exact by_k)|((with_reducible apply s2); exact rfl; exact by_k)|((with_reducible apply s4); exact rfl)|((with_reducible apply s5); (first|exact a_call c1 rfl by_sub|exact by_oa); exact by_g)|((with_reducible apply CW.cond_t); exact rfl; exact by_ks)|((with_reducible apply CW.cond_f); exact rfl; exact by_ks)|((with_reducible apply q_block_miss); exact rfl)|(refine And.intro (show chk [] [] _ _ = true by kernel_rfl) ?_))
  refine Stop.go (CW.stut (stut_promote_cell (id := 1) (j := 2) 35 5 rfl) ⟨rfl, rfl, trivial⟩ ?_)
  repeat (first|((with_reducible apply s1); exact rfl)|(with_reducible first|apply CW.seq|apply CW.block|apply CW.region|apply CW.draw|apply CW.skip|apply CW.exit|apply CW.ret|apply q_then|apply q_then_exit|apply q_then_ret|apply q_block|apply q_block_ret|apply q_block_hit|apply q_ret|apply q_end|apply q_loop_exit|apply q_loop_ret|apply q_loopT_exit|apply q_loopT_ret|apply RW.nil)|((with_reducible apply s3); exact rfl; exact by_k)|((with_reducible apply s2); exact rfl; exact by_k)|((with_reducible apply s4); exact rfl)|((with_reducible apply s5); exact by_oa; exact by_g)|((with_reducible apply CW.cond_t); exact rfl; exact by_ks)|((with_reducible apply CW.cond_f); exact rfl; exact by_ks)|((with_reducible apply q_block_miss); exact rfl)|(refine And.intro (show chk [] [] _ _ = true by kernel_rfl) ?_))
  refine CW.loopT (fun t : Nat × D × D × List Ins => [sp 2 0, ob 0 noEnc, sp 5 1, (.o 1, .ob (.box [.d t.2.1, .d t.2.2.1, .own 2 t.2.2.2.length])), oa 2 35 5 (t.2.2.2.map Ins.enc), sd 22 (encStrs l), sd 23 (dint l.length), sd 24 (dint t.1), nxt 3])
    (fun t => t.1 ≤ l.length ∧ (t.1 < 2 → t.2.2.2 = []) ∧ (1 ≤ t.1 → v0 = wReads ∧ t.2.1 = encStrs rs) ∧ (2 ≤ t.1 → v1 = wWrites ∧ t.2.2.1 = encStrs ws) ∧ t.2.2.2.length ≤ t.1 ∧ (2 ≤ t.1 → parseE s = finE rs ws t.2.2.2 (l.drop t.1))) (fun t => l.length - t.1) (0, .v nilS, .v nilS, [])
    ⟨by dsimp only; omega, fun _ => rfl, fun h => by dsimp only at h; omega, fun h => by dsimp only at h; omega, by simp, fun h => by dsimp only at h; omega⟩ ?_ ?_
  ·
    exact by_less
  · rintro ⟨x, R, W, code⟩ ⟨hx, hc0, hR, hW, hc, hF⟩
    dsimp only at hx hc0 hR hW hc hF ⊢
    rcases drop_case hx with ⟨h1, h2⟩ | ⟨p, h1, h2, h3⟩
    · obtain ⟨_, rfl⟩ := hR (by omega)
      obtain ⟨_, rfl⟩ := hW (by omega)
      have hF := hF (by omega)
      rw [h1] at hF
      unfold finE at hF
      simp only [codeE, List.append_nil] at hF
      have hrs : ∀ k ∈ rs, k.length ≤ 400 := fun k hk => Nat.le_trans (split_part (s := p0) (sep := [32]) (by rw [e1]; exact List.mem_cons_of_mem _ hk)) (hsp p0 (by rw [e0]; simp))
      have hws : ∀ k ∈ ws, k.length ≤ 400 := fun k hk => Nat.le_trans (split_part (s := p1) (sep := [32]) (by rw [e2]; exact List.mem_cons_of_mem _ hk)) (hsp p1 (by rw [e0]; simp))
      have hrl : rs.length ≤ 400 := by have := split_len p0 [32]; rw [e1] at this; have := hsp p0 (by rw [e0]; simp); simp at *; omega
      have hwl : ws.length ≤ 400 := by have := split_len p1 [32]; rw [e2] at this; have := hsp p1 (by rw [e0]; simp); simp at *; omega
      have hsm : Deed.Sm ⟨rs, ws, code⟩ := ⟨by dsimp only; omega, by dsimp only; omega, by dsimp only; omega, fun k hk => by have := hrs k hk; omega, fun k hk => by have := hws k hk; omega⟩
      have cw := ok_pwrongDeed ⟨rs, ws, code⟩ hsm
      have co := ok_deedOwn ⟨rs, ws, code⟩ hsm
      by_cases hw : wrongDeed ⟨rs, ws, code⟩ = 0
      · rw [if_pos hw] at hF
        rw [hw] at cw
        have hr : parseR s = (⟨rs, ws, code⟩, 0) := by unfold parseR; rw [hF]; rfl
        rw [hr]
        repeat (first|((with_reducible apply stop_at 22); exact rfl)|((with_reducible apply s1); exact rfl)|(with_reducible first|apply CW.seq|apply CW.block|apply CW.region|apply CW.draw|apply CW.skip|apply CW.exit|apply CW.ret|apply q_then|apply q_then_exit|apply q_then_ret|apply q_block|apply q_block_ret|apply q_block_hit|apply q_ret|apply q_end|apply q_loop_exit|apply q_loop_ret|apply q_loopT_exit|apply q_loopT_ret|apply RW.nil)|((with_reducible apply s3); exact rfl; exact by_k)|((with_reducible apply s2); exact rfl; exact by_k)|((with_reducible apply s4); exact rfl)|((with_reducible apply s5); exact by_oa; exact by_g)|((with_reducible apply CW.cond_t); exact rfl; exact by_ks)|((with_reducible apply CW.cond_f); exact rfl; exact by_ks)|((with_reducible apply q_block_miss); exact rfl)|(refine And.intro (show chk [] [] _ _ = true by kernel_rfl) ?_))
        refine Stop.go (CW.stut (stut_freeze_cell (id := 1) (j := 2) (i := 2) rfl (by simp)) ⟨rfl, rfl, trivial⟩ ?_)
        repeat (first|((with_reducible apply s1); exact rfl)|(with_reducible first|apply CW.seq|apply CW.block|apply CW.region|apply CW.draw|apply CW.skip|apply CW.exit|apply CW.ret|apply q_then|apply q_then_exit|apply q_then_ret|apply q_block|apply q_block_ret|apply q_block_hit|apply q_ret|apply q_end|apply q_loop_exit|apply q_loop_ret|apply q_loopT_exit|apply q_loopT_ret|apply RW.nil)|((with_reducible apply s3); exact rfl; exact by_k)|((with_reducible apply s2); exact rfl; exact by_k)|((with_reducible apply s4); exact rfl)|((with_reducible apply s5); (first|exact a_call cw rfl by_sub|exact a_call co rfl by_sub|exact by_oa); exact by_g)|((with_reducible apply CW.cond_t); exact rfl; exact by_ks)|((with_reducible apply CW.cond_f); exact rfl; exact by_ks)|((with_reducible apply q_block_miss); exact rfl)|(refine And.intro (show chk [] [] _ _ = true by kernel_rfl) ?_))
        exact .two (.cell rfl rfl rfl rfl (.aggd rfl (.refl _))) (.tmp rfl (.one (.d (.refl _))))
      · rw [if_neg hw] at hF
        generalize wrongDeed ⟨rs, ws, code⟩ = we at *
        repeat (first|((with_reducible apply stop_at 22); exact rfl)|((with_reducible apply s1); exact rfl)|(with_reducible first|apply CW.seq|apply CW.block|apply CW.region|apply CW.draw|apply CW.skip|apply CW.exit|apply CW.ret|apply q_then|apply q_then_exit|apply q_then_ret|apply q_block|apply q_block_ret|apply q_block_hit|apply q_ret|apply q_end|apply q_loop_exit|apply q_loop_ret|apply q_loopT_exit|apply q_loopT_ret|apply RW.nil)|((with_reducible apply s3); exact rfl; exact by_k)|((with_reducible apply s2); exact rfl; exact by_k)|((with_reducible apply s4); exact rfl)|((with_reducible apply s5); exact by_oa; exact by_g)|((with_reducible apply CW.cond_t); exact rfl; exact by_ks)|((with_reducible apply CW.cond_f); exact rfl; exact by_ks)|((with_reducible apply q_block_miss); exact rfl)|(refine And.intro (show chk [] [] _ _ = true by kernel_rfl) ?_))
        refine Stop.go (CW.stut (stut_freeze_cell (id := 1) (j := 2) (i := 2) rfl (by simp)) ⟨rfl, rfl, trivial⟩ ?_)
        repeat (first|((with_reducible apply s1); exact rfl)|(with_reducible first|apply CW.seq|apply CW.block|apply CW.region|apply CW.draw|apply CW.skip|apply CW.exit|apply CW.ret|apply q_then|apply q_then_exit|apply q_then_ret|apply q_block|apply q_block_ret|apply q_block_hit|apply q_ret|apply q_end|apply q_loop_exit|apply q_loop_ret|apply q_loopT_exit|apply q_loopT_ret|apply RW.nil)|((with_reducible apply s3); exact rfl; exact by_k)|((with_reducible apply s2); exact rfl; exact by_k)|((with_reducible apply s4); exact rfl)|((with_reducible apply s5); (first|exact a_call cw rfl by_sub|exact by_oa); exact by_g)|((with_reducible apply CW.cond_t); exact rfl; exact by_ks)|((with_reducible apply CW.cond_f); exact rfl; exact by_ks)|((with_reducible apply q_block_miss); exact rfl)|(refine And.intro (show chk [] [] _ _ = true by kernel_rfl) ?_))
        exact .two (.cell rfl rfl rfl rfl (.aggd rfl (no_le hF))) (.tmp rfl (.one (.d (er_le hF))))
    · have hp : p ∈ l := List.mem_of_getElem? h2
      have hpl := hsp p hp
      have c2 := ok_lsplit p [32] (by omega) (by simp)
      by_cases hx0 : x = 0
      · subst hx0
        obtain rfl := hc0 (by omega)
        have h2' := h2
        rw [e0] at h2
        obtain rfl : p0 = p := by simpa using h2
        rw [e1] at c2
        have hrl : rs.length ≤ 400 := by have := split_len p0 [32]; rw [e1] at this; simp at *; omega
        have hw0 : (v0 :: rs)[0]? = some v0 := rfl
        have hWd : wReads = [114, 101, 97, 100, 115] := rfl
        by_cases hv : v0 = wReads
        · rw [hWd] at hv
          repeat (first|((with_reducible apply s1); exact rfl)|(with_reducible first|apply CW.seq|apply CW.block|apply CW.region|apply CW.draw|apply CW.skip|apply CW.exit|apply CW.ret|apply q_then|apply q_then_exit|apply q_then_ret|apply q_block|apply q_block_ret|apply q_block_hit|apply q_ret|apply q_end|apply q_loop_exit|apply q_loop_ret|apply q_loopT_exit|apply q_loopT_ret|apply RW.nil)|((with_reducible apply s3); exact rfl; exact by_k)|((with_reducible apply s2); exact rfl; exact by_k)|((with_reducible apply s4); exact rfl)|((with_reducible apply s5); (first|exact a_call c2 rfl by_sub|exact by_oa); exact by_g)|((with_reducible apply CW.cond_t); exact rfl; exact by_ks)|((with_reducible apply CW.cond_f); exact rfl; exact by_ks)|((with_reducible apply q_block_miss); exact rfl)|(refine And.intro (show chk [] [] _ _ = true by kernel_rfl) ?_))
          refine q_loopT (1, encStrs rs, W, []) ⟨by dsimp only; omega, fun _ => rfl, fun _ => ⟨hv, rfl⟩, fun h => by dsimp only at h; omega, by simp, fun h => by dsimp only at h; omega⟩ (by dsimp only; omega) ?_
          exact by_less
        · have hP : parseE s = .error 2 := by rw [hPF, if_neg hv]
          rw [hWd] at hv
          repeat (first|((with_reducible apply s1); exact rfl)|(with_reducible first|apply CW.seq|apply CW.block|apply CW.region|apply CW.draw|apply CW.skip|apply CW.exit|apply CW.ret|apply q_then|apply q_then_exit|apply q_then_ret|apply q_block|apply q_block_ret|apply q_block_hit|apply q_ret|apply q_end|apply q_loop_exit|apply q_loop_ret|apply q_loopT_exit|apply q_loopT_ret|apply RW.nil)|((with_reducible apply s3); exact rfl; exact by_k)|((with_reducible apply s2); exact rfl; exact by_k)|((with_reducible apply s4); exact rfl)|((with_reducible apply s5); (first|exact a_call c2 rfl by_sub|exact by_oa); exact by_g)|((with_reducible apply CW.cond_t); exact rfl; exact by_ks)|((with_reducible apply CW.cond_f); exact rfl; exact by_ks)|((with_reducible apply q_block_miss); exact rfl)|(refine And.intro (show chk [] [] _ _ = true by kernel_rfl) ?_))
          exact .two (.cell rfl rfl rfl rfl (.aggd rfl (no_le hP))) (.tmp rfl (.one (.d (er_le hP))))
      by_cases hx1 : x = 1
      · subst hx1
        obtain rfl := hc0 (by omega)
        obtain ⟨hv0, hR⟩ := hR (by omega)
        have h2' := h2
        rw [e0] at h2
        obtain rfl : p1 = p := by simpa using h2
        rw [e2] at c2
        have hwl : ws.length ≤ 400 := by have := split_len p1 [32]; rw [e2] at this; simp at *; omega
        have hw0 : (v1 :: ws)[0]? = some v1 := rfl
        have hWd : wWrites = [119, 114, 105, 116, 101, 115] := rfl
        by_cases hv : v1 = wWrites
        · have hv' := hv
          rw [hWd] at hv
          repeat (first|((with_reducible apply s1); exact rfl)|(with_reducible first|apply CW.seq|apply CW.block|apply CW.region|apply CW.draw|apply CW.skip|apply CW.exit|apply CW.ret|apply q_then|apply q_then_exit|apply q_then_ret|apply q_block|apply q_block_ret|apply q_block_hit|apply q_ret|apply q_end|apply q_loop_exit|apply q_loop_ret|apply q_loopT_exit|apply q_loopT_ret|apply RW.nil)|((with_reducible apply s3); exact rfl; exact by_k)|((with_reducible apply s2); exact rfl; exact by_k)|((with_reducible apply s4); exact rfl)|((with_reducible apply s5); (first|exact a_call c2 rfl by_sub|exact by_oa); exact by_g)|((with_reducible apply CW.cond_t); exact rfl; exact by_ks)|((with_reducible apply CW.cond_f); exact rfl; exact by_ks)|((with_reducible apply q_block_miss); exact rfl)|(refine And.intro (show chk [] [] _ _ = true by kernel_rfl) ?_))
          refine q_loopT (2, R, encStrs ws, []) ⟨by dsimp only; omega, fun h => by dsimp only at h; omega, fun _ => ⟨hv0, hR⟩, fun _ => ⟨hv, rfl⟩, by simp, fun _ => by rw [hPF, if_pos hv0, if_pos hv', e0]; rfl⟩ (by dsimp only; omega) ?_
          exact by_less
        · have hP : parseE s = .error 2 := by rw [hPF, if_pos hv0, if_neg hv]
          rw [hWd] at hv
          repeat (first|((with_reducible apply s1); exact rfl)|(with_reducible first|apply CW.seq|apply CW.block|apply CW.region|apply CW.draw|apply CW.skip|apply CW.exit|apply CW.ret|apply q_then|apply q_then_exit|apply q_then_ret|apply q_block|apply q_block_ret|apply q_block_hit|apply q_ret|apply q_end|apply q_loop_exit|apply q_loop_ret|apply q_loopT_exit|apply q_loopT_ret|apply RW.nil)|((with_reducible apply s3); exact rfl; exact by_k)|((with_reducible apply s2); exact rfl; exact by_k)|((with_reducible apply s4); exact rfl)|((with_reducible apply s5); (first|exact a_call c2 rfl by_sub|exact by_oa); exact by_g)|((with_reducible apply CW.cond_t); exact rfl; exact by_ks)|((with_reducible apply CW.cond_f); exact rfl; exact by_ks)|((with_reducible apply q_block_miss); exact rfl)|(refine And.intro (show chk [] [] _ _ = true by kernel_rfl) ?_))
          exact .two (.cell rfl rfl rfl rfl (.aggd rfl (no_le hP))) (.tmp rfl (.one (.d (er_le hP))))
      have hF := hF (by omega)
      rw [h1, finE_cons] at hF
      obtain ⟨w, wz, hwds⟩ := split_cons p [32]
      rw [hwds] at hF c2
      have hwl : wz.length ≤ 400 := by have := split_len p [32]; rw [hwds] at this; simp at *; omega
      have ci := ok_tinstr w wz (by omega) (fun u hu => Nat.le_trans (split_part (s := p) (sep := [32]) (by rw [hwds]; exact List.mem_cons_of_mem _ hu)) (by omega))
      have hw0 : (w :: wz)[0]? = some w := rfl
      cases hI : insE (w :: wz) with
      | error e =>
        rw [hI] at hF ci
        dsimp only at hF
        have he0 : e ≠ 0 := by
          intro e0'
          subst e0'
          simp only [insE] at hI
          split at hI
          · cases hI
          · split at hI
            · split at hI <;> cases hI
            · cases hI
        repeat (first|((with_reducible apply s1); exact rfl)|(with_reducible first|apply CW.seq|apply CW.block|apply CW.region|apply CW.draw|apply CW.skip|apply CW.exit|apply CW.ret|apply q_then|apply q_then_exit|apply q_then_ret|apply q_block|apply q_block_ret|apply q_block_hit|apply q_ret|apply q_end|apply q_loop_exit|apply q_loop_ret|apply q_loopT_exit|apply q_loopT_ret|apply RW.nil)|((with_reducible apply s3); exact rfl; exact by_k)|((with_reducible apply s2); exact rfl; exact by_k)|((with_reducible apply s4); exact rfl)|((with_reducible apply s5); (first|exact a_call c2 rfl by_sub|exact a_call ci rfl by_sub|exact by_oa); exact by_g)|((with_reducible apply CW.cond_t); exact rfl; exact by_ks)|((with_reducible apply CW.cond_f); exact rfl; exact by_ks)|((with_reducible apply q_block_miss); exact rfl)|(refine And.intro (show chk [] [] _ _ = true by kernel_rfl) ?_))
        exact .two (.cell rfl rfl rfl rfl (.aggd rfl (no_le hF))) (.tmp rfl (.one (.d (er_le hF))))
      | ok i =>
        rw [hI] at hF ci
        dsimp only at hF
        repeat (first|((with_reducible apply s1); exact rfl)|(with_reducible first|apply CW.seq|apply CW.block|apply CW.region|apply CW.draw|apply CW.skip|apply CW.exit|apply CW.ret|apply q_then|apply q_then_exit|apply q_then_ret|apply q_block|apply q_block_ret|apply q_block_hit|apply q_ret|apply q_end|apply q_loop_exit|apply q_loop_ret|apply q_loopT_exit|apply q_loopT_ret|apply RW.nil)|((with_reducible apply s3); exact rfl; exact by_k)|((with_reducible apply s2); exact rfl; exact by_k)|((with_reducible apply s4); exact rfl)|((with_reducible apply s5); (first|exact a_call c2 rfl by_sub|exact a_call ci rfl by_sub|exact by_oa); exact by_g)|((with_reducible apply CW.cond_t); exact rfl; exact by_ks)|((with_reducible apply CW.cond_f); exact rfl; exact by_ks)|((with_reducible apply q_block_miss); exact rfl)|(refine And.intro (show chk [] [] _ _ = true by kernel_rfl) ?_))
        refine q_loopT (x + 1, R, W, code ++ [i]) ⟨by dsimp only; omega, fun h => by dsimp only at h; omega, fun _ => hR (by omega), fun _ => hW (by omega), by dsimp only; simp; omega, fun _ => hF⟩ (by dsimp only; omega) ?_
        exact by_less

end Go.Proofs.YtfaaghkgfbhglaaDoor

/-! H12 -/
/-
  Contract of the program's Print, at a right deed: the references'.
-/
namespace Go.Proofs.YtfaaghkgfbhglaaDoor
open Go.AX Go.RF Go.RowKit

set_option maxRecDepth 100000
set_option maxHeartbeats 16000000

theorem tailS_len {sep w : Str} {l : List Str} (h : w ∈ l) : w.length ≤ (tailS sep l).length := by
  induction l with
  | nil => cases h
  | cons x l ih =>
    simp only [tailS, List.length_append]
    rcases List.mem_cons.1 h with rfl | h
    · omega
    · have := ih h; omega
theorem joinS_part {sep w : Str} {l : List Str} (h : w ∈ l) : w.length ≤ (joinS sep l).length := by
  cases l with
  | nil => cases h
  | cons x l =>
    rw [joinS_cons]
    simp only [List.length_append]
    rcases List.mem_cons.1 h with rfl | h
    · omega
    · have := tailS_len (sep := sep) h; omega
theorem words_tail {K : Nat} (h1 : 1 ≤ K) (h9 : K ≤ 9) : words.tail[K - 1]? = some (words.getD K []) := by
  have : ∀ k : Fin 9, words.tail[k.val]? = some (words.getD (k.val + 1) []) := by decide
  have := this ⟨K - 1, by omega⟩
  rwa [show K - 1 + 1 = K by omega] at this
theorem take_snoc {α : Type} {l : List α} {n : Nat} {x : α} (h : l[n]? = some x) : l.take n ++ [x] = l.take (n + 1) := by
  rw [List.take_add_one, h]; rfl

theorem ok_tprint (d : Deed) (hw : wrongDeed d = 0) (hd : d.Sm) (hF : (printD d).length ≤ 1000000) : FnOk Tryd.prog 6 [.d (.agg d.enc)] (.one (dstr (printD d))) := by
  refine fnOk_of tbl_ok mixed_ok Tryd.func6 rfl (by kernel_rfl) rfl rfl fun w0 own0 => ?_
  have hok := wrongDeed_ok hw
  have hnn := wrong_n hw
  have hr := hok.r
  have hwl := hok.w
  have hcl := hok.c
  have cj := fun (l : List Str) (hl : l.length ≤ 1000000) (h : joinS [32] l ∈ partsD d) => ok_join l [32] hl (Nat.le_trans (joinS_part (sep := [59, 32]) h) hF)
  have cJ := ok_join (partsD d) [59, 32] (by simp [partsD]; omega) hF
  have hpl : (partsD d).length = 2 + d.code.length := by simp [partsD]; omega
  have hp0 : (partsD d)[0]? = some (joinS [32] (wReads :: d.reads)) := rfl
  have hp1 : (partsD d)[1]? = some (joinS [32] (wWrites :: d.writes)) := rfl
  have hp2 : ∀ z i, d.code[z]? = some i → (partsD d)[2 + z]? = some (joinS [32] (insW i)) := fun z i h => by
    rw [Nat.add_comm]
    simp [partsD, h]
  have cw := ok_twords
  rw [show printD d = joinS [59, 32] (partsD d) from rfl]
  rw [show printD d = joinS [59, 32] (partsD d) from rfl] at hF
  generalize hPD : partsD d = PD at *
  repeat (first|((with_reducible apply s5); ((with_reducible apply a_bs ([d.reads, d.writes].map fun l => [encStrs l])); (iterate 9 exact rfl); (repeat (first | exact PartsE.nil | (apply PartsE.cons; exact rfl; exact rfl)))); exact by_g)|((with_reducible apply stop_at 2); exact rfl)|((with_reducible apply s1); exact rfl)|(with_reducible first|apply CW.seq|apply CW.block|apply CW.region|apply CW.draw|apply CW.skip|apply CW.exit|apply CW.ret|apply q_then|apply q_then_exit|apply q_then_ret|apply q_block|apply q_block_ret|apply q_block_hit|apply q_ret|apply q_end|apply q_loop_exit|apply q_loop_ret|apply q_loopT_exit|apply q_loopT_ret|apply RW.nil)|((with_reducible apply s3); exact rfl; exact by_k)|((with_reducible apply s2); exact rfl; exact by_k)|((with_reducible apply s4); exact rfl)|((with_reducible apply s5); exact by_oa; exact by_g)|((with_reducible apply CW.cond_t); exact rfl; exact by_ks)|((with_reducible apply CW.cond_f); exact rfl; exact by_ks)|((with_reducible apply q_block_miss); exact rfl)|(refine And.intro (show chk [] [] _ _ = true by kernel_rfl) ?_))
  refine Stop.go (CW.stut (stut_promote (i := 3) 9 1) ⟨rfl, rfl, trivial⟩ ?_)
  repeat (first|((with_reducible apply s5); ((with_reducible apply a_bs ([d.reads, d.writes].map fun l => [encStrs l])); (iterate 9 exact rfl); (repeat (first | exact PartsE.nil | (apply PartsE.cons; exact rfl; exact rfl)))); exact by_g)|((with_reducible apply s1); exact rfl)|(with_reducible first|apply CW.seq|apply CW.block|apply CW.region|apply CW.draw|apply CW.skip|apply CW.exit|apply CW.ret|apply q_then|apply q_then_exit|apply q_then_ret|apply q_block|apply q_block_ret|apply q_block_hit|apply q_ret|apply q_end|apply q_loop_exit|apply q_loop_ret|apply q_loopT_exit|apply q_loopT_ret|apply RW.nil)|((with_reducible apply s3); exact rfl; exact by_k)|((with_reducible apply s2); exact rfl; exact by_k)|((with_reducible apply s4); exact rfl)|((with_reducible apply s5); exact by_oa; exact by_g)|((with_reducible apply CW.cond_t); exact rfl; exact by_ks)|((with_reducible apply CW.cond_f); exact rfl; exact by_ks)|((with_reducible apply q_block_miss); exact rfl)|(refine And.intro (show chk [] [] _ _ = true by kernel_rfl) ?_))
  refine CW.loopT (fun t : Nat => [sp 1 0, ob 0 d.enc, so 3 1 (PD.take t).length, oa 1 9 1 ((PD.take t).map encStr1), sd 15 (.sl 1 ([d.reads, d.writes].map fun l => [encStrs l])), sd 16 (dint 2), sd 17 (dint t), nxt 2])
    (fun t => t ≤ 2) (fun t => 2 - t) 0 (by omega) ?_ ?_
  ·
    exact by_less
  · intro t ht
    have hn0 : ([wReads, wWrites] : List Str)[0]? = some wReads := rfl
    have hn1 : ([wReads, wWrites] : List Str)[1]? = some wWrites := rfl
    have hd0 : ([d.reads, d.writes] : List (List Str))[0]? = some d.reads := rfl
    have hd1 : ([d.reads, d.writes] : List (List Str))[1]? = some d.writes := rfl
    match t, ht with
    | 0, _ =>
      have c1 := cj (wReads :: d.reads) (by simp; omega) (List.mem_of_getElem? hp0)
      have hts := take_snoc hp0
      generalize joinS [32] (wReads :: d.reads) = J at c1 hts
      repeat (first|((with_reducible apply s5); ((with_reducible apply a_bs (([wReads, wWrites] : List Str).map encStr1)); (iterate 9 exact rfl); (repeat (first | exact PartsE.nil | (apply PartsE.cons; exact rfl; exact rfl)))); exact by_g)|((with_reducible apply s5); (with_reducible apply (a_bsO [encStr1 wReads])); (iterate 10 exact rfl); (repeat (first | exact PartsE.nil | (apply PartsE.cons; exact rfl; exact rfl))); exact by_g)|((with_reducible apply s1); exact rfl)|(with_reducible first|apply CW.seq|apply CW.block|apply CW.region|apply CW.draw|apply CW.skip|apply CW.exit|apply CW.ret|apply q_then|apply q_then_exit|apply q_then_ret|apply q_block|apply q_block_ret|apply q_block_hit|apply q_ret|apply q_end|apply q_loop_exit|apply q_loop_ret|apply q_loopT_exit|apply q_loopT_ret|apply RW.nil)|((with_reducible apply s3); exact rfl; exact by_k)|((with_reducible apply s2); exact rfl; exact by_k)|((with_reducible apply s4); exact rfl)|((with_reducible apply s5); (first|((with_reducible apply a_ia); (iterate 5 exact rfl); exact idx_map (k := 0) hd0)|((with_reducible apply a_ia); (iterate 5 exact rfl); exact idx_map (k := 0) hn0)|(focus ((with_reducible apply a_lend); exact c1; exact rfl; exact .plain rfl; (focus first | exact rfl | (simp; done) | (simp; omega)); (iterate 2 exact rfl); exact by_sub))|exact by_oa); exact by_g)|((with_reducible apply CW.cond_t); exact rfl; exact by_ks)|((with_reducible apply CW.cond_f); exact rfl; exact by_ks)|((with_reducible apply q_block_miss); exact rfl)|(refine And.intro (show chk [] [] _ _ = true by kernel_rfl) ?_))
      refine q_loopT 1 (by omega) (by omega) ?_
      rw [← hts]
      exact by_less
    | 1, _ =>
      have c1 := cj (wWrites :: d.writes) (by simp; omega) (List.mem_of_getElem? hp1)
      have hts := take_snoc hp1
      have htl : (PD.take 1).length = 1 := by rw [List.length_take]; omega
      generalize joinS [32] (wWrites :: d.writes) = J at c1 hts
      generalize PD.take 1 = P1 at *
      repeat (first|((with_reducible apply s5); ((with_reducible apply a_bs (([wReads, wWrites] : List Str).map encStr1)); (iterate 9 exact rfl); (repeat (first | exact PartsE.nil | (apply PartsE.cons; exact rfl; exact rfl)))); exact by_g)|((with_reducible apply s5); (with_reducible apply (a_bsO [encStr1 wWrites])); (iterate 10 exact rfl); (repeat (first | exact PartsE.nil | (apply PartsE.cons; exact rfl; exact rfl))); exact by_g)|((with_reducible apply s1); exact rfl)|(with_reducible first|apply CW.seq|apply CW.block|apply CW.region|apply CW.draw|apply CW.skip|apply CW.exit|apply CW.ret|apply q_then|apply q_then_exit|apply q_then_ret|apply q_block|apply q_block_ret|apply q_block_hit|apply q_ret|apply q_end|apply q_loop_exit|apply q_loop_ret|apply q_loopT_exit|apply q_loopT_ret|apply RW.nil)|((with_reducible apply s3); exact rfl; exact by_k)|((with_reducible apply s2); exact rfl; exact by_k)|((with_reducible apply s4); exact rfl)|((with_reducible apply s5); (first|((with_reducible apply a_ia); (iterate 5 exact rfl); exact idx_map (k := 1) hd1)|((with_reducible apply a_ia); (iterate 5 exact rfl); exact idx_map (k := 1) hn1)|(focus ((with_reducible apply a_lend); exact c1; exact rfl; exact .plain rfl; (focus first | exact rfl | (simp; done) | (simp; omega)); (iterate 2 exact rfl); exact by_sub))|exact by_oa); exact by_g)|((with_reducible apply CW.cond_t); exact rfl; exact by_ks)|((with_reducible apply CW.cond_f); exact rfl; exact by_ks)|((with_reducible apply q_block_miss); exact rfl)|(refine And.intro (show chk [] [] _ _ = true by kernel_rfl) ?_))
      refine q_loopT 2 (by omega) (by omega) ?_
      rw [← hts]
      exact by_less
    | 2, _ =>
      repeat (first|((with_reducible apply s1); exact rfl)|(with_reducible first|apply CW.seq|apply CW.block|apply CW.region|apply CW.draw|apply CW.skip|apply CW.exit|apply CW.ret|apply q_then|apply q_then_exit|apply q_then_ret|apply q_block|apply q_block_ret|apply q_block_hit|apply q_ret|apply q_end|apply q_loop_exit|apply q_loop_ret|apply q_loopT_exit|apply q_loopT_ret|apply RW.nil)|((with_reducible apply s3); exact rfl; exact by_k)|((with_reducible apply s2); exact rfl; exact by_k)|((with_reducible apply s4); exact rfl)|((with_reducible apply s5); exact by_oa; exact by_g)|((with_reducible apply CW.cond_t); exact rfl; exact by_ks)|((with_reducible apply CW.cond_f); exact rfl; exact by_ks)|((with_reducible apply q_block_miss); exact rfl)|(refine And.intro (show chk [] [] _ _ = true by kernel_rfl) ?_))
      refine CW.loopT (fun z : Nat => [sp 1 0, ob 0 d.enc, so 3 1 (PD.take (2 + z)).length, oa 1 9 1 ((PD.take (2 + z)).map encStr1), sd 35 (encCode d.code), sd 36 (dint d.code.length), sd 37 (dint z), nxt 2])
        (fun z => z ≤ d.code.length) (fun z => d.code.length - z) 0 (by omega) ?_ ?_
      ·
        exact by_less
      · intro z hz
        have htl : (PD.take (2 + z)).length = 2 + z := by rw [List.length_take]; omega
        rcases drop_case hz with ⟨h1, h2⟩ | ⟨i, h1, h2, h3⟩
        · rw [show PD.take (2 + z) = PD by rw [List.take_of_length_le (by omega)]]
          repeat (first|((with_reducible apply s1); exact rfl)|(with_reducible first|apply CW.seq|apply CW.block|apply CW.region|apply CW.draw|apply CW.skip|apply CW.exit|apply CW.ret|apply q_then|apply q_then_exit|apply q_then_ret|apply q_block|apply q_block_ret|apply q_block_hit|apply q_ret|apply q_end|apply q_loop_exit|apply q_loop_ret|apply q_loopT_exit|apply q_loopT_ret|apply RW.nil)|((with_reducible apply s3); exact rfl; exact by_k)|((with_reducible apply s2); exact rfl; exact by_k)|((with_reducible apply s4); exact rfl)|((with_reducible apply s5); (first|(focus ((with_reducible apply a_lend); exact cJ; exact rfl; exact .plain rfl; (focus first | exact rfl | (simp; done) | (simp; omega)); (iterate 2 exact rfl); exact by_sub))|exact by_oa); exact by_g)|((with_reducible apply CW.cond_t); exact rfl; exact by_ks)|((with_reducible apply CW.cond_f); exact rfl; exact by_ks)|((with_reducible apply q_block_miss); exact rfl)|(refine And.intro (show chk [] [] _ _ = true by kernel_rfl) ?_))
          exact .one (.tmp rfl (.one (.d (.refl _))))
        · have him := List.mem_of_getElem? h2
          have hi := hok.i i him
          have hin := hnn i him
          have hik := hi.k
          have hia := hi.a
          have hib := hi.b
          have ca := ok_itoaG i.a (by omega) (by omega)
          have cb := ok_itoaG i.b (by omega) (by omega)
          have cn := ok_itoaG i.n (by omega) (by omega)
          have la := itoa_len i.a (by omega) (by omega)
          have lb := itoa_len i.b (by omega) (by omega)
          have hp := hp2 z i h2
          have hts := take_snoc hp
          have cJ1 := cj (insW i) (by simp [insW]; have := form_len i.kind.toNat; omega) (List.mem_of_getElem? hp)
          generalize joinS [32] (insW i) = J at cJ1 hts hp
          have hk0 : 0 ≤ i.kind := by omega
          obtain ⟨K, hK⟩ := Int.eq_ofNat_of_zero_le hk0
          unfold insW at cJ1
          have cf := ok_fields K (by omega) (by omega)
          have hwk := words_tail (K := K) (by omega) (by omega)
          have hfl := form_len K
          have hlet : ∀ c ∈ form K, c = 114 ∨ c = 115 ∨ c = 110 ∨ c = 107 := fun c hc => form_let hc
          rw [hK, Int.toNat_natCast] at cJ1
          generalize words.getD K [] = wd at hwk cJ1
          generalize form K = f at *
          obtain ⟨ik, ia, ib, inn, ikey⟩ := i
          dsimp only at hK ca cb cn la lb hik
          subst hK
          have hix : idx (words.tail.map encStr1) ((K : Int) - 1) = some (encStr1 wd) := by
            have := idx_map (f := encStr1) hwk
            rwa [show ((K - 1 : Nat) : Int) = (K : Int) - 1 by omega] at this
          generalize hPe : PD.take (2 + z) = P at *
          repeat (first|((with_reducible apply s5); (with_reducible apply (a_bsO [encStr1 wd])); (iterate 10 exact rfl); (repeat (first | exact PartsE.nil | (apply PartsE.cons; exact rfl; exact rfl))); exact by_g)|((with_reducible apply s1); exact rfl)|(with_reducible first|apply CW.seq|apply CW.block|apply CW.region|apply CW.draw|apply CW.skip|apply CW.exit|apply CW.ret|apply q_then|apply q_then_exit|apply q_then_ret|apply q_block|apply q_block_ret|apply q_block_hit|apply q_ret|apply q_end|apply q_loop_exit|apply q_loop_ret|apply q_loopT_exit|apply q_loopT_ret|apply RW.nil)|((with_reducible apply s3); exact rfl; exact by_k)|((with_reducible apply s2); exact rfl; exact by_k)|((with_reducible apply s4); exact rfl)|((with_reducible apply s5); (first|exact a_call cw rfl by_sub|exact a_call cf rfl by_sub|((with_reducible apply a_ia); (iterate 5 exact rfl); exact hix)|((with_reducible apply a_range); exact rfl; exact rfl; exact Tryd.underlying9; exact rfl)|exact by_oa); exact by_g)|((with_reducible apply CW.cond_t); exact rfl; exact by_ks)|((with_reducible apply CW.cond_f); exact rfl; exact by_ks)|((with_reducible apply q_block_miss); exact rfl)|(refine And.intro (show chk [] [] _ _ = true by kernel_rfl) ?_))
          refine CW.loopT (fun j : Nat => [sp 1 0, ob 0 d.enc, so 3 1 P.length, oa 1 9 1 (P.map encStr1), sd 35 (encCode d.code), sd 36 (dint d.code.length), sd 37 (dint z), sp 7 2, ob 2 (Ins.enc ⟨K, ia, ib, inn, ikey⟩), so 8 3 (wd :: (f.take j).map (fieldW ⟨K, ia, ib, inn, ikey⟩)).length, oa 3 9 1 ((wd :: (f.take j).map (fieldW ⟨K, ia, ib, inn, ikey⟩)).map encStr1), (.s 51, .av (.h 4)), (.o 4, .ob (.gen (ItP f j))), nxt 5])
            (fun j => j ≤ f.length) (fun j => f.length - j) 0 (by omega) ?_ ?_
          ·
            exact by_less
          · intro j hj
            have hjl : (wd :: (f.take j).map (fieldW ⟨K, ia, ib, inn, ikey⟩)).length = j + 1 := by simp; omega
            rcases drop_case hj with ⟨b1, b2⟩ | ⟨c, b1, b2, b3⟩
            · rw [b2, List.take_length] at *
              generalize wd :: f.map (fieldW ⟨K, ia, ib, inn, ikey⟩) = L at *
              repeat (first|((with_reducible apply s1); exact rfl)|(with_reducible first|apply CW.seq|apply CW.block|apply CW.region|apply CW.draw|apply CW.skip|apply CW.exit|apply CW.ret|apply q_then|apply q_then_exit|apply q_then_ret|apply q_block|apply q_block_ret|apply q_block_hit|apply q_ret|apply q_end|apply q_loop_exit|apply q_loop_ret|apply q_loopT_exit|apply q_loopT_ret|apply RW.nil)|((with_reducible apply s3); exact rfl; exact by_k)|((with_reducible apply s2); exact rfl; exact by_k)|((with_reducible apply s4); exact rfl)|((with_reducible apply s5); (first|(focus ((with_reducible apply a_lend); exact cJ1; exact rfl; exact .plain rfl; (focus first | exact rfl | (simp; done) | (simp; omega)); (iterate 2 exact rfl); exact by_sub))|((with_reducible apply (a_nextE (k := f.length) 4)); exact rfl; exact rfl; exact Nat.le_refl _; exact rfl)|exact by_oa); exact by_g)|((with_reducible apply CW.cond_t); exact rfl; exact by_ks)|((with_reducible apply CW.cond_f); exact rfl; exact by_ks)|((with_reducible apply q_block_miss); exact rfl)|(refine And.intro (show chk [] [] _ _ = true by kernel_rfl) ?_))
              refine q_loopT (z + 1) (by omega) (by omega) ?_
              rw [show 2 + (z + 1) = 2 + z + 1 by omega, ← hts]
              exact by_less
            · have hc := hlet c (List.mem_of_getElem? b2)
              have hc1 : c.toNat < 128 := by rcases hc with rfl | rfl | rfl | rfl <;> decide
              have hsn : (wd :: (f.take j).map (fieldW ⟨K, ia, ib, inn, ikey⟩)) ++ [fieldW ⟨K, ia, ib, inn, ikey⟩ c] = wd :: (f.take (j + 1)).map (fieldW ⟨K, ia, ib, inn, ikey⟩) := by
                rw [← take_snoc b2]; simp
              have hql : ∀ x : Str, x = fieldW ⟨K, ia, ib, inn, ikey⟩ c → ((wd :: (f.take j).map (fieldW ⟨K, ia, ib, inn, ikey⟩)) ++ [x]) = wd :: (f.take (j + 1)).map (fieldW ⟨K, ia, ib, inn, ikey⟩) := fun x hx => by rw [hx]; exact hsn
              rcases hc with rfl | rfl | rfl | rfl
              · have hq := hql (114 :: Lib.itoa ia) rfl
                generalize wd :: (f.take j).map (fieldW ⟨K, ia, ib, inn, ikey⟩) = L at *
                repeat (first|((with_reducible apply s1); exact rfl)|(with_reducible first|apply CW.seq|apply CW.block|apply CW.region|apply CW.draw|apply CW.skip|apply CW.exit|apply CW.ret|apply q_then|apply q_then_exit|apply q_then_ret|apply q_block|apply q_block_ret|apply q_block_hit|apply q_ret|apply q_end|apply q_loop_exit|apply q_loop_ret|apply q_loopT_exit|apply q_loopT_ret|apply RW.nil)|((with_reducible apply s3); exact rfl; exact by_k)|((with_reducible apply s2); exact rfl; exact by_k)|((with_reducible apply s4); exact rfl)|((with_reducible apply s5); (first|exact a_call ca rfl by_sub|((with_reducible apply a_bin); exact rfl; exact rfl; exact bin_sadd (by simp; omega); exact rfl)|((with_reducible apply (a_next (k := j) 4)); exact rfl; exact rfl; exact b2; exact hc1; exact rfl)|exact by_oa); exact by_g)|((with_reducible apply CW.cond_t); exact rfl; exact by_ks)|((with_reducible apply CW.cond_f); exact rfl; exact by_ks)|((with_reducible apply q_block_miss); exact rfl)|(refine And.intro (show chk [] [] _ _ = true by kernel_rfl) ?_))
                refine q_loopT (j + 1) (by omega) (by omega) ?_
                rw [← hq]
                exact by_less
              · have hq := hql (114 :: Lib.itoa ib) rfl
                generalize wd :: (f.take j).map (fieldW ⟨K, ia, ib, inn, ikey⟩) = L at *
                repeat (first|((with_reducible apply s1); exact rfl)|(with_reducible first|apply CW.seq|apply CW.block|apply CW.region|apply CW.draw|apply CW.skip|apply CW.exit|apply CW.ret|apply q_then|apply q_then_exit|apply q_then_ret|apply q_block|apply q_block_ret|apply q_block_hit|apply q_ret|apply q_end|apply q_loop_exit|apply q_loop_ret|apply q_loopT_exit|apply q_loopT_ret|apply RW.nil)|((with_reducible apply s3); exact rfl; exact by_k)|((with_reducible apply s2); exact rfl; exact by_k)|((with_reducible apply s4); exact rfl)|((with_reducible apply s5); (first|exact a_call cb rfl by_sub|((with_reducible apply a_bin); exact rfl; exact rfl; exact bin_sadd (by simp; omega); exact rfl)|((with_reducible apply (a_next (k := j) 4)); exact rfl; exact rfl; exact b2; exact hc1; exact rfl)|exact by_oa); exact by_g)|((with_reducible apply CW.cond_t); exact rfl; exact by_ks)|((with_reducible apply CW.cond_f); exact rfl; exact by_ks)|((with_reducible apply q_block_miss); exact rfl)|(refine And.intro (show chk [] [] _ _ = true by kernel_rfl) ?_))
                refine q_loopT (j + 1) (by omega) (by omega) ?_
                rw [← hq]
                exact by_less
              · have hq := hql (Lib.itoa inn) rfl
                generalize wd :: (f.take j).map (fieldW ⟨K, ia, ib, inn, ikey⟩) = L at *
                repeat (first|((with_reducible apply s1); exact rfl)|(with_reducible first|apply CW.seq|apply CW.block|apply CW.region|apply CW.draw|apply CW.skip|apply CW.exit|apply CW.ret|apply q_then|apply q_then_exit|apply q_then_ret|apply q_block|apply q_block_ret|apply q_block_hit|apply q_ret|apply q_end|apply q_loop_exit|apply q_loop_ret|apply q_loopT_exit|apply q_loopT_ret|apply RW.nil)|((with_reducible apply s3); exact rfl; exact by_k)|((with_reducible apply s2); exact rfl; exact by_k)|((with_reducible apply s4); exact rfl)|((with_reducible apply s5); (first|exact a_call cn rfl by_sub|((with_reducible apply (a_next (k := j) 4)); exact rfl; exact rfl; exact b2; exact hc1; exact rfl)|exact by_oa); exact by_g)|((with_reducible apply CW.cond_t); exact rfl; exact by_ks)|((with_reducible apply CW.cond_f); exact rfl; exact by_ks)|((with_reducible apply q_block_miss); exact rfl)|(refine And.intro (show chk [] [] _ _ = true by kernel_rfl) ?_))
                refine q_loopT (j + 1) (by omega) (by omega) ?_
                rw [← hq]
                exact by_less
              · have hq := hql ikey rfl
                generalize wd :: (f.take j).map (fieldW ⟨K, ia, ib, inn, ikey⟩) = L at *
                repeat (first|((with_reducible apply s1); exact rfl)|(with_reducible first|apply CW.seq|apply CW.block|apply CW.region|apply CW.draw|apply CW.skip|apply CW.exit|apply CW.ret|apply q_then|apply q_then_exit|apply q_then_ret|apply q_block|apply q_block_ret|apply q_block_hit|apply q_ret|apply q_end|apply q_loop_exit|apply q_loop_ret|apply q_loopT_exit|apply q_loopT_ret|apply RW.nil)|((with_reducible apply s3); exact rfl; exact by_k)|((with_reducible apply s2); exact rfl; exact by_k)|((with_reducible apply s4); exact rfl)|((with_reducible apply s5); (first|((with_reducible apply (a_next (k := j) 4)); exact rfl; exact rfl; exact b2; exact hc1; exact rfl)|exact by_oa); exact by_g)|((with_reducible apply CW.cond_t); exact rfl; exact by_ks)|((with_reducible apply CW.cond_f); exact rfl; exact by_ks)|((with_reducible apply q_block_miss); exact rfl)|(refine And.intro (show chk [] [] _ _ = true by kernel_rfl) ?_))
                refine q_loopT (j + 1) (by omega) (by omega) ?_
                rw [← hq]
                exact by_less

end Go.Proofs.YtfaaghkgfbhglaaDoor

/-! P16 -/
/-
  A right deed's text is no longer than may be.
-/
namespace Go.Proofs.YtfaaghkgfbhglaaDoor
open Go.AX Go.RF

theorem keysGo_key {l : List Str} : ∀ {r : List Str} {i : Nat}, keysGo l i r = 0 → ∀ k ∈ r, key k = true
  | [], _, _, k, hk => by cases hk
  | x :: r, i, h, k, hk => by
    simp only [keysGo] at h
    split at h
    · cases h
    · next hx =>
      split at h
      · cases h
      · rcases List.mem_cons.1 hk with rfl | hk
        · simpa using hx
        · exact keysGo_key h k hk
theorem wrong_key {d : Deed} (h : wrongDeed d = 0) : (∀ k ∈ d.reads, key k = true) ∧ ∀ k ∈ d.writes, key k = true := by
  unfold wrongDeed at h
  split at h
  · next h0 =>
    simp only [lsGo] at h0
    split at h0
    · next h1 =>
      split at h0
      · next h2 =>
        unfold keysWrong at h1 h2
        split at h1
        · cases h1
        split at h2
        · cases h2
        exact ⟨keysGo_key h1, keysGo_key h2⟩
      · next h2 => exact absurd h0 h2
    · next h1 => exact absurd h0 h1
  · next h0 => exact absurd h h0
theorem nDigits_le : ∀ (k u : Nat), u < 10 ^ (k + 1) → Lib.nDigits u ≤ k + 1
  | 0, u, h => by unfold Lib.nDigits; rw [dif_pos (by simpa using h)]; exact Nat.le_refl _
  | k + 1, u, h => by
    unfold Lib.nDigits
    split
    · omega
    · have := nDigits_le k (u / 10) (by rw [Nat.pow_succ] at h; omega)
      omega
theorem itoa_small {n : Int} (h0 : 0 ≤ n) (h1 : n ≤ 3) : (Lib.itoa n).length ≤ 1 := by
  unfold Lib.itoa
  rw [if_neg (by omega), Lib.decDigits_length]
  exact nDigits_le 0 _ (by omega)
theorem itoa_mid {n : Int} (h0 : -1073741824 ≤ n) (h1 : n ≤ 1073741824) : (Lib.itoa n).length ≤ 11 := by
  unfold Lib.itoa
  split
  · rw [List.length_cons, Lib.decDigits_length]
    have := nDigits_le 9 n.natAbs (by omega)
    omega
  · rw [Lib.decDigits_length]
    have := nDigits_le 9 n.toNat (by omega)
    omega
theorem tailS_le {sep : Str} {m : Nat} : ∀ {l : List Str}, (∀ w ∈ l, w.length ≤ m) → (tailS sep l).length ≤ l.length * (sep.length + m)
  | [], _ => by simp [tailS]
  | w :: l, h => by
    have h1 := h w (List.mem_cons_self ..)
    have h2 := tailS_le (sep := sep) (l := l) fun x hx => h x (List.mem_cons_of_mem _ hx)
    simp only [tailS, List.length_append, List.length_cons]
    rw [Nat.add_mul, Nat.one_mul]
    omega
theorem wrongIns_key {d : Deed} {m : Int} {i : Ins} (h : wrongIns d m i = 0) : i.key = [] ∨ i.key ∈ d.reads ∨ i.key ∈ d.writes := by
  unfold wrongIns at h
  split at h
  · cases h
  split at h
  · cases h
  split at h
  · split at h
    · next h1 => exact .inl h1
    · cases h
  · by_cases hx : isIn (if i.kind = 1 then d.reads else d.writes) i.key = true
    · have := isIn_true hx
      split at this
      · exact .inr (.inl this)
      · exact .inr (.inr this)
    · rw [if_neg hx] at h; cases h
theorem insW_len {d : Deed} (h : wrongDeed d = 0) {i : Ins} (hi : i ∈ d.code) : (joinS [32] (insW i)).length ≤ 20 := by
  have hok := (wrongDeed_ok h).i i hi
  have hn := wrong_n h i hi
  have hkey : i.key.length ≤ 6 := by
    have hw : ∃ m, wrongIns d m i = 0 := by
      unfold wrongDeed at h
      split at h
      · split at h
        · cases h
        · obtain ⟨j, hj⟩ := List.getElem?_of_mem hi
          exact ⟨_, codeGo_mem h j i hj⟩
      · next h1 => exact absurd h h1
    obtain ⟨m, hm⟩ := hw
    obtain ⟨h1, h2⟩ := wrong_key h
    rcases wrongIns_key hm with h3 | h3 | h3
    · rw [h3]; simp
    · exact key_len (h1 _ h3)
    · exact key_len (h2 _ h3)
  have ha := itoa_small hok.a.1 hok.a.2
  have hb := itoa_small hok.b.1 hok.b.2
  have hnn := itoa_mid hn.1 hn.2
  have hk := hok.k
  rw [insW_eq]
  obtain ⟨k, a, b, n, key⟩ := i
  dsimp only at hk hkey ha hb hnn
  obtain ⟨K, rfl⟩ := Int.eq_ofNat_of_zero_le (show 0 ≤ k by omega)
  rw [Int.toNat_natCast]
  match K, hk with
  | 0, hk => omega
  | 1, _ => simp [words, form, forms, tailS, fieldW]; omega
  | 2, _ => simp [words, form, forms, tailS, fieldW]; omega
  | 3, _ => simp [words, form, forms, tailS, fieldW]; omega
  | 4, _ => simp [words, form, forms, tailS, fieldW]; omega
  | 5, _ => simp [words, form, forms, tailS, fieldW]; omega
  | 6, _ => simp [words, form, forms, tailS, fieldW]; omega
  | 7, _ => simp [words, form, forms, tailS, fieldW]; omega
  | 8, _ => simp [words, form, forms, tailS, fieldW]; omega
  | 9, _ => simp [words, form, forms, tailS, fieldW]; omega
  | K + 10, hk => omega
theorem printD_len {d : Deed} (h : wrongDeed d = 0) : (printD d).length ≤ 400 := by
  have hok := wrongDeed_ok h
  obtain ⟨h1, h2⟩ := wrong_key h
  have hr := tailS_le (sep := [32]) (m := 6) fun w hw => key_len (h1 w hw)
  have hw := tailS_le (sep := [32]) (m := 6) fun w hw => key_len (h2 w hw)
  have hc := tailS_le (sep := [59, 32]) (m := 20) (l := d.code.map fun i => joinS [32] (insW i)) fun w hw => by
    obtain ⟨i, hi, rfl⟩ := List.mem_map.1 hw
    exact insW_len h hi
  have l1 := hok.r
  have l2 := hok.w
  have l3 := hok.c
  rw [printD_eq]
  simp only [List.length_append, List.length_map, List.length_cons, List.length_nil] at *
  have e1 : wReads.length = 5 := rfl
  have e2 : wWrites.length = 6 := rfl
  omega

end Go.Proofs.YtfaaghkgfbhglaaDoor

/-! P17 -/
/-
  Texts parted and put together again.
-/
namespace Go.Proofs.YtfaaghkgfbhglaaDoor
open Go.AX Go.RF

theorem splitF_join {sep : Str} : ∀ (n : Nat) (cur r : Str), joinS sep (splitF sep n cur r) = cur ++ r
  | 0, cur, r => rfl
  | n + 1, cur, r => by
    simp only [splitF]
    split
    · rfl
    · next h1 =>
      split
      · next h2 =>
        rw [joinS_cons]
        have ih := splitF_join (sep := sep) n [] (r.drop sep.length)
        have hne := splitF_ne sep n [] (r.drop sep.length)
        cases hs : splitF sep n [] (r.drop sep.length) with
        | nil => exact absurd hs hne
        | cons x y =>
          rw [hs, joinS_cons] at ih
          simp only [tailS]
          rw [ih, List.nil_append]
          conv => rhs; rw [← List.take_append_drop sep.length r, h2]
      · cases r with
        | nil => simp [joinS]
        | cons c t =>
          show joinS sep (splitF sep n (cur ++ [c]) t) = _
          rw [splitF_join n (cur ++ [c]) t]; simp
theorem split_join_id (s sep : Str) : joinS sep (split s sep) = s := splitF_join s.length [] s
theorem splitF_scan {c : UInt8} {st : Str} : ∀ (w : Str) (n : Nat) (cur rest : Str), c ∉ w → splitF (c :: st) (n + w.length) cur (w ++ rest) = splitF (c :: st) n (cur ++ w) rest
  | [], n, cur, rest, _ => by simp
  | x :: w, n, cur, rest, h => by
    have hx : x ≠ c := fun e => h (by rw [e]; exact List.mem_cons_self ..)
    have hw : c ∉ w := fun e => h (List.mem_cons_of_mem _ e)
    rw [List.length_cons, show n + (w.length + 1) = (n + w.length) + 1 by omega, List.cons_append]
    simp only [splitF]
    by_cases hl : (x :: (w ++ rest)).length < (c :: st).length
    · rw [if_pos hl]
      have hl2 : rest.length < (c :: st).length := by simp at hl ⊢; omega
      cases n with
      | zero => simp [splitF]
      | succ n => simp only [splitF]; rw [if_pos hl2]; simp
    · rw [if_neg hl, if_neg (by simp [hx])]
      rw [splitF_scan w n (cur ++ [x]) rest hw]
      simp
theorem libS_word {c : UInt8} {st w rest : Str} (h : c ∉ w) : libS (c :: st) (w ++ rest) = hdS w (libS (c :: st) rest) := by
  have h1 := splitF_lib (sep := c :: st) (by simp) (rest.length + w.length) [] (w ++ rest) (by simp; omega)
  have h2 := splitF_lib (sep := c :: st) (by simp) rest.length ([] ++ w) rest (Nat.le_refl _)
  rw [splitF_scan w rest.length [] rest h, h2] at h1
  have h3 : ∀ l : List Str, hdS [] l = l := fun l => by cases l <;> rfl
  rw [h3] at h1
  exact h1.symm
theorem libS_sep {c : UInt8} {st rest : Str} : libS (c :: st) ((c :: st) ++ rest) = [] :: libS (c :: st) rest := by
  have hi : Lib.index ((c :: st) ++ rest) (c :: st) = ((0 : Nat) : Int) := by
    rw [List.cons_append, index_cons, if_pos (by rw [List.isPrefixOf_iff_prefix]; exact ⟨rest, by simp⟩)]; rfl
  rw [libS_hit (by simp) hi]
  simp
theorem libS_nil {c : UInt8} {st : Str} : libS (c :: st) [] = [[]] := libS_miss rfl
theorem join_split_id {c : UInt8} {st : Str} : ∀ {ws : List Str}, ws ≠ [] → (∀ w ∈ ws, c ∉ w) → split (joinS (c :: st) ws) (c :: st) = ws := by
  have key : ∀ (ws : List Str) (w : Str), (∀ x ∈ w :: ws, c ∉ x) → libS (c :: st) (w ++ tailS (c :: st) ws) = w :: ws := by
    intro ws
    induction ws with
    | nil =>
      intro w h
      rw [libS_word (h w (List.mem_cons_self ..))]
      show hdS w (libS (c :: st) []) = _
      rw [libS_nil]; simp [hdS]
    | cons x r ih =>
      intro w h
      rw [libS_word (h w (List.mem_cons_self ..))]
      simp only [tailS]
      rw [libS_sep, ih x fun y hy => h y (List.mem_cons_of_mem _ hy)]
      simp [hdS]
  intro ws h0 h
  match ws, h0 with
  | w :: r, _ =>
    rw [joinS_cons, split_lib (by simp)]
    exact key r w h

/-! ### Numbers written, and read -/
theorem parseU_append : ∀ (l r : Str) (acc : Nat), Lib.parseUint10 acc (l ++ r) = match Lib.parseUint10 acc l with
    | .ok v => Lib.parseUint10 v r
    | x => x
  | [], r, acc => rfl
  | c :: l, r, acc => by
    simp only [List.cons_append, Lib.parseUint10]
    split
    · split
      · rfl
      · split
        · rfl
        · exact parseU_append l r _
    · rfl
theorem digit_byte {k : Nat} (h : k < 10) : (UInt8.ofNat (48 + k)).toNat = 48 + k := by
  simp [UInt8.toNat_ofNat]; omega
theorem parseU_dec : ∀ (u : Nat), u < 18446744073709551616 → Lib.parseUint10 0 (Lib.decDigits u) = .ok u := by
  intro u
  induction u using Nat.strongRecOn with
  | ind u ih =>
    intro h
    unfold Lib.decDigits
    by_cases h1 : u < 10
    · rw [dif_pos h1]
      simp only [Lib.parseUint10]
      rw [digit_byte h1, if_pos (by omega), if_neg (by omega), if_neg (by omega)]
      congr 1; omega
    · rw [dif_neg h1, parseU_append, ih (u / 10) (by omega) (by omega)]
      simp only [Lib.parseUint10]
      rw [digit_byte (show u % 10 < 10 by omega), if_pos (by omega), if_neg (by omega), if_neg (by omega)]
      congr 1; omega
theorem dec_ne (u : Nat) : Lib.decDigits u ≠ [] := by
  unfold Lib.decDigits
  split <;> simp
theorem dec_clean : ∀ (u : Nat), ∀ c ∈ Lib.decDigits u, 48 ≤ c.toNat ∧ c.toNat ≤ 57 := by
  intro u
  induction u using Nat.strongRecOn with
  | ind u ih =>
    intro c hc
    unfold Lib.decDigits at hc
    by_cases h1 : u < 10
    · rw [dif_pos h1] at hc
      rw [List.mem_singleton.1 hc, digit_byte h1]; omega
    · rw [dif_neg h1] at hc
      rcases List.mem_append.1 hc with hc | hc
      · exact ih (u / 10) (by omega) c hc
      · rw [List.mem_singleton.1 hc, digit_byte (show u % 10 < 10 by omega)]; omega
theorem atoi_itoa {n : Int} (h0 : -1073741824 ≤ n) (h1 : n ≤ 1073741824) : Lib.atoiAll (Lib.itoa n) = .ok n := by
  unfold Lib.itoa
  by_cases hn : n < 0
  · rw [if_pos hn]
    have hp := parseU_dec n.natAbs (by omega)
    unfold Lib.atoiAll Lib.parseMag
    simp only
    rw [if_pos (Or.inr (by decide)), if_neg (dec_ne _), hp]
    have h45 : (45 : UInt8).toNat = 45 := rfl
    simp only [h45]
    rw [if_neg (by simp), if_neg (by omega), if_pos trivial]
    congr 1; omega
  · rw [if_neg hn]
    have hp := parseU_dec n.toNat (by omega)
    have hne := dec_ne n.toNat
    have hcl := dec_clean n.toNat
    cases hd : Lib.decDigits n.toNat with
    | nil => exact absurd hd hne
    | cons c r =>
      have hc := hcl c (by rw [hd]; exact List.mem_cons_self ..)
      rw [hd] at hp
      unfold Lib.atoiAll Lib.parseMag
      simp only
      rw [if_neg (show ¬ (c.toNat = 43 ∨ c.toNat = 45) by omega), if_neg (by simp), hp]
      have h45 : ¬ c.toNat = 45 := by omega
      simp only
      rw [if_neg (by omega), if_neg (by omega), if_neg h45]
      congr 1; omega
theorem numV_itoa {n : Int} (h0 : -1073741824 ≤ n) (h1 : n ≤ 1073741824) : numV (Lib.itoa n) = some n := by
  unfold numV
  rw [atoi_itoa h0 h1]
  simp
theorem itoa_clean {n : Int} : ∀ c ∈ Lib.itoa n, c ≠ 32 ∧ c ≠ 59 := by
  intro c hc
  have key : ∀ u : Nat, c ∈ Lib.decDigits u → c ≠ 32 ∧ c ≠ 59 := fun u h => by
    have := dec_clean u c h
    exact ⟨fun e => by subst e; revert this; decide, fun e => by subst e; revert this; decide⟩
  unfold Lib.itoa at hc
  split at hc
  · rcases List.mem_cons.1 hc with rfl | hc
    · decide
    · exact key _ hc
  · exact key _ hc

end Go.Proofs.YtfaaghkgfbhglaaDoor

/-! P18 -/
/-
  A right deed comes back from its text; a text that is read is its deed's.
-/
namespace Go.Proofs.YtfaaghkgfbhglaaDoor
open Go.AX Go.RF

def clean (w : Str) : Prop := ∀ c ∈ w, c ≠ 32 ∧ c ≠ 59
theorem key_clean {k : Str} (h : key k = true) : clean k := by
  have : ∀ r : Str, keyGo k r = true → clean r := by
    intro r
    induction r with
    | nil => intro _ c hc; cases hc
    | cons x r ih =>
      intro h
      simp only [keyGo] at h
      split at h
      · cases h
      · next hx =>
        intro c hc
        rcases List.mem_cons.1 hc with rfl | hc
        · simp only [bad, Bool.or_eq_true, decide_eq_true_eq, not_or] at hx
          refine ⟨fun e => ?_, fun e => ?_⟩ <;> subst e <;> revert hx <;> decide
        · exact ih h c hc
  exact this k h
theorem words_clean : ∀ k : Nat, clean (words.getD k []) := by
  intro k
  rcases Nat.lt_or_ge k 10 with h | h
  · have : ∀ k : Fin 10, ∀ c ∈ words.getD k.val [], c ≠ 32 ∧ c ≠ 59 := by decide
    exact this ⟨k, h⟩
  · rw [List.getD_eq_getElem?_getD, List.getElem?_eq_none (show words.length ≤ k from h)]
    intro c hc; cases hc
theorem reg_clean (n : Int) : clean (114 :: Lib.itoa n) := by
  intro c hc
  rcases List.mem_cons.1 hc with rfl | hc
  · decide
  · exact itoa_clean c hc
theorem regV_itoa {n : Int} (h0 : -1073741824 ≤ n) (h1 : n ≤ 1073741824) : regV (114 :: Lib.itoa n) = some n := numV_itoa h0 h1

theorem insE_insW {d : Deed} {m : Int} {i : Ins} (h : wrongIns d m i = 0) (hm : m ≤ 1073741824) : insE (insW i) = .ok i := by
  have hn := wrongIns_n h hm
  obtain ⟨k, a, b, n, key⟩ := i
  unfold wrongIns at h
  dsimp only at h hn
  by_cases hk : k < 1 ∨ 9 < k
  · rw [if_pos hk] at h; cases h
  rw [if_neg hk] at h
  by_cases ho : insOut k.toNat a b n m = true
  · rw [if_pos ho] at h; cases h
  rw [if_neg ho] at h
  obtain ⟨K, rfl⟩ := Int.eq_ofNat_of_zero_le (show 0 ≤ k by omega)
  simp only [Int.toNat_natCast] at h ho
  simp only [insOut, Bool.or_eq_true, decide_eq_true_eq, not_or] at ho
  obtain ⟨o1, o2, o3, o4, o5, o6⟩ := ho
  have hb2 : b ≤ 1073741824 := by unfold insB at o4; split at o4 <;> omega
  have ha2 : a ≤ 1073741824 := by unfold insA at o2; split at o2 <;> omega
  have ra := regV_itoa (n := a) (by omega) ha2
  have rb := regV_itoa (n := b) (by omega) hb2
  have rn := numV_itoa hn.1 hn.2
  match K, hk with
  | 0, hk => omega
  | 1, _ =>
    simp only [show has 1 114 = true from rfl, show has 1 115 = false from rfl, insA, insB, insLow, insHigh] at o2 o4 o5 o6
    obtain ⟨rfl, rfl⟩ : b = 0 ∧ n = 0 := by constructor <;> simp at o2 o4 o5 o6 <;> omega
    simp [insE, insW, words, form, forms, kindOf, kindGo, fieldW, fillI, ra]
  | 2, _ =>
    simp only [show has 2 114 = true from rfl, show has 2 115 = false from rfl, show has 2 107 = false from rfl, insA, insB] at o2 o4 h
    have hkey : key = [] := Classical.byContradiction fun e => by simp [e] at h
    obtain rfl : b = 0 := by simp at o4; omega
    subst hkey
    simp [insE, insW, words, form, forms, kindOf, kindGo, fieldW, fillI, ra, rn]
  | 3, _ =>
    simp only [show has 3 107 = false from rfl, insLow, insHigh] at o5 o6 h
    have hkey : key = [] := Classical.byContradiction fun e => by simp [e] at h
    obtain rfl : n = 0 := by simp at o5 o6; omega
    subst hkey
    simp [insE, insW, words, form, forms, kindOf, kindGo, fieldW, fillI, ra, rb]
  | 4, _ =>
    simp only [show has 4 107 = false from rfl, insLow, insHigh] at o5 o6 h
    have hkey : key = [] := Classical.byContradiction fun e => by simp [e] at h
    obtain rfl : n = 0 := by simp at o5 o6; omega
    subst hkey
    simp [insE, insW, words, form, forms, kindOf, kindGo, fieldW, fillI, ra, rb]
  | 5, _ =>
    simp only [show has 5 107 = false from rfl, insLow, insHigh] at o5 o6 h
    have hkey : key = [] := Classical.byContradiction fun e => by simp [e] at h
    obtain rfl : n = 0 := by simp at o5 o6; omega
    subst hkey
    simp [insE, insW, words, form, forms, kindOf, kindGo, fieldW, fillI, ra, rb]
  | 6, _ =>
    simp only [show has 6 114 = true from rfl, show has 6 115 = false from rfl, insA, insB, insLow, insHigh] at o2 o4 o5 o6
    obtain ⟨rfl, rfl⟩ : b = 0 ∧ n = 0 := by constructor <;> simp at o2 o4 o5 o6 <;> omega
    simp [insE, insW, words, form, forms, kindOf, kindGo, fieldW, fillI, ra]
  | 7, _ =>
    simp only [show has 7 114 = false from rfl, show has 7 115 = false from rfl, insA, insB, insLow, insHigh] at o2 o4 o5 o6
    obtain ⟨rfl, rfl, rfl⟩ : a = 0 ∧ b = 0 ∧ n = 0 := by refine ⟨?_, ?_, ?_⟩ <;> simp at o2 o4 o5 o6 <;> omega
    simp [insE, insW, words, form, forms, kindOf, kindGo, fieldW, fillI]
  | 8, _ =>
    simp only [show has 8 114 = true from rfl, show has 8 115 = false from rfl, show has 8 107 = false from rfl, insA, insB] at o2 o4 h
    have hkey : key = [] := Classical.byContradiction fun e => by simp [e] at h
    obtain rfl : b = 0 := by simp at o4; omega
    subst hkey
    simp [insE, insW, words, form, forms, kindOf, kindGo, fieldW, fillI, ra, rn]
  | 9, _ =>
    simp only [show has 9 114 = true from rfl, show has 9 115 = false from rfl, show has 9 107 = false from rfl, insA, insB, insLow, insHigh] at o2 o4 o5 o6 h
    have hkey : key = [] := Classical.byContradiction fun e => by simp [e] at h
    obtain ⟨rfl, rfl⟩ : b = 0 ∧ n = 0 := by constructor <;> simp at o2 o4 o5 o6 <;> omega
    subst hkey
    simp [insE, insW, words, form, forms, kindOf, kindGo, fieldW, fillI, ra]
  | K + 10, hk => omega


theorem field_clean {i : Ins} {c : UInt8} (hk : clean i.key) : clean (fieldW i c) := by
  unfold fieldW
  split
  · exact reg_clean _
  split
  · exact reg_clean _
  split
  · exact fun c hc => itoa_clean c hc
  · exact hk
theorem join_no59 {ws : List Str} (h : ∀ w ∈ ws, clean w) : (59 : UInt8) ∉ joinS [32] ws := by
  cases ws with
  | nil => simp [joinS]
  | cons w r =>
    rw [joinS_cons]
    have ht : ∀ r : List Str, (∀ w ∈ r, clean w) → (59 : UInt8) ∉ tailS [32] r := by
      intro r
      induction r with
      | nil => intro _; simp [tailS]
      | cons x r ih =>
        intro h hm
        simp only [tailS, List.mem_append] at hm
        rcases hm with hm | hm | hm
        · simp at hm
        · exact (h x (List.mem_cons_self ..) _ hm).2 rfl
        · exact ih (fun y hy => h y (List.mem_cons_of_mem _ hy)) hm
    intro hm
    rcases List.mem_append.1 hm with hm | hm
    · exact (h w (List.mem_cons_self ..) _ hm).2 rfl
    · exact ht r (fun y hy => h y (List.mem_cons_of_mem _ hy)) hm
theorem split_words {ws : List Str} (h0 : ws ≠ []) (h : ∀ w ∈ ws, clean w) : split (joinS [32] ws) [32] = ws :=
  join_split_id h0 fun w hw hm => (h w hw _ hm).1 rfl
theorem ins_wrong {d : Deed} (h : wrongDeed d = 0) {i : Ins} (hi : i ∈ d.code) : ∃ m, m ≤ 1073741824 ∧ wrongIns d m i = 0 := by
  have hok := (wrongDeed_ok h).c
  unfold wrongDeed at h
  split at h
  · split at h
    · cases h
    · obtain ⟨j, hj⟩ := List.getElem?_of_mem hi
      exact ⟨_, by omega, codeGo_mem h j i hj⟩
  · next h1 => exact absurd h h1
theorem insW_clean {d : Deed} (h : wrongDeed d = 0) {i : Ins} (hi : i ∈ d.code) : ∀ w ∈ insW i, clean w := by
  obtain ⟨m, _, hm⟩ := ins_wrong h hi
  obtain ⟨h1, h2⟩ := wrong_key h
  have hk : clean i.key := by
    rcases wrongIns_key hm with h3 | h3 | h3
    · rw [h3]; intro c hc; cases hc
    · exact key_clean (h1 _ h3)
    · exact key_clean (h2 _ h3)
  intro w hw
  unfold insW at hw
  rcases List.mem_cons.1 hw with rfl | hw
  · exact words_clean _
  · obtain ⟨c, _, rfl⟩ := List.mem_map.1 hw
    exact field_clean hk
theorem codeE_of {l : List Ins} (h : ∀ i ∈ l, insE (insW i) = .ok i ∧ ∀ w ∈ insW i, clean w) : codeE (l.map fun i => joinS [32] (insW i)) = .ok l := by
  induction l with
  | nil => rfl
  | cons i l ih =>
    obtain ⟨h1, h2⟩ := h i (List.mem_cons_self ..)
    simp only [List.map_cons, codeE]
    rw [split_words (by simp [insW]) h2, h1, ih fun x hx => h x (List.mem_cons_of_mem _ hx)]
/-- Written, and read again. -/
theorem parse_print {d : Deed} (h : wrongDeed d = 0) : parseE (printD d) = .ok d := by
  obtain ⟨h1, h2⟩ := wrong_key h
  have hl := printD_len h
  have c0 : clean wReads := by intro c hc; revert c; decide
  have c1 : clean wWrites := by intro c hc; revert c; decide
  have hr : ∀ w ∈ wReads :: d.reads, clean w := fun w hw => by
    rcases List.mem_cons.1 hw with rfl | hw
    · exact c0
    · exact key_clean (h1 w hw)
  have hw : ∀ w ∈ wWrites :: d.writes, clean w := fun w hw => by
    rcases List.mem_cons.1 hw with rfl | hw
    · exact c1
    · exact key_clean (h2 w hw)
  have hs : split (printD d) [59, 32] = partsD d := join_split_id (by simp [partsD]) fun w hm => by
    unfold partsD at hm
    rcases List.mem_cons.1 hm with rfl | hm
    · exact join_no59 hr
    rcases List.mem_cons.1 hm with rfl | hm
    · exact join_no59 hw
    obtain ⟨i, hi, rfl⟩ := List.mem_map.1 hm
    exact join_no59 (insW_clean h hi)
  have hf := parseE_fin (s := printD d) hl hs (split_words (by simp) hr) (split_words (by simp) hw)
  rw [hf, if_pos rfl, if_pos rfl]
  unfold finE
  rw [codeE_of fun i hi => ⟨by obtain ⟨m, h3, h4⟩ := ins_wrong h hi; exact insE_insW h4 h3, insW_clean h hi⟩]
  simp only [List.nil_append]
  rw [if_pos h]

/-! ### Read, and written again -/
theorem numV_eq {w : Str} {n : Int} (h : numV w = some n) : Lib.itoa n = w := by
  unfold numV at h
  split at h
  · split at h
    · next hy => cases h; exact hy
    · cases h
  · cases h
theorem regV_eq {w : Str} {n : Int} (h : regV w = some n) : (114 :: Lib.itoa n) = w := by
  match w, h with
  | [], h => simp [regV] at h
  | c :: r, h =>
    by_cases hc : c = 114
    · subst hc; rw [numV_eq (show numV r = some n from h)]
    · unfold regV at h
      split at h
      · next r' he => cases he; exact absurd rfl hc
      · cases h

end Go.Proofs.YtfaaghkgfbhglaaDoor

/-! P19 -/
/-
  A text that is read is its deed's.
-/
namespace Go.Proofs.YtfaaghkgfbhglaaDoor
open Go.AX Go.RF

theorem kindOf_word {w : Str} (h : kindOf w ≠ 0) : words.getD (kindOf w).toNat [] = w ∧ kindOf w < 10 ∧ 0 ≤ kindOf w := by
  by_cases h1 : w = [108, 111, 97, 100]
  · subst h1; decide
  by_cases h2 : w = [99, 111, 110, 115, 116]
  · subst h2; decide
  by_cases h3 : w = [97, 100, 100]
  · subst h3; decide
  by_cases h4 : w = [115, 117, 98]
  · subst h4; decide
  by_cases h5 : w = [109, 117, 108]
  · subst h5; decide
  by_cases h6 : w = [115, 116, 111, 114, 101]
  · subst h6; decide
  by_cases h7 : w = [100, 114, 111, 112]
  · subst h7; decide
  by_cases h8 : w = [115, 107, 105, 112]
  · subst h8; decide
  by_cases h9 : w = [102, 97, 105, 108]
  · subst h9; decide
  exact absurd (by
    unfold kindOf
    simp [words, kindGo, Ne.symm h1, Ne.symm h2, Ne.symm h3, Ne.symm h4, Ne.symm h5, Ne.symm h6, Ne.symm h7, Ne.symm h8, Ne.symm h9]) h
theorem fill_kind : ∀ {f : Str} {ws : List Str} {i i' : Ins}, fillI i f ws = some i' → i'.kind = i.kind
  | [], ws, i, i', h => by simp only [fillI, Option.some.injEq] at h; rw [h]
  | c :: f, [], i, i', h => by simp only [fillI, Option.some.injEq] at h; rw [h]
  | c :: f, w :: ws, i, i', h => by
    simp only [fillI] at h
    split at h
    · exact (fill_kind h).trans rfl
    split at h
    · split at h
      · exact (fill_kind h).trans rfl
      · cases h
    · split at h
      · split at h
        · exact (fill_kind h).trans rfl
        · exact (fill_kind h).trans rfl
      · cases h
theorem f_rk {k : Int} {ws : List Str} {i : Ins} (hl : ws.length = 2) (hf : fillI ⟨k, 0, 0, 0, []⟩ [114, 107] ws = some i) : [114, 107].map (fieldW i) = ws := by
  match ws, hl with
  | [x, y], _ =>
    cases hx : regV x with
    | none => simp [fillI, hx] at hf
    | some a =>
      simp [fillI, hx] at hf
      subst hf
      simp [fieldW, regV_eq hx]
theorem f_rn {k : Int} {ws : List Str} {i : Ins} (hl : ws.length = 2) (hf : fillI ⟨k, 0, 0, 0, []⟩ [114, 110] ws = some i) : [114, 110].map (fieldW i) = ws := by
  match ws, hl with
  | [x, y], _ =>
    cases hx : regV x with
    | none => simp [fillI, hx] at hf
    | some a =>
      cases hy : numV y with
      | none => simp [fillI, hx, hy] at hf
      | some b =>
        simp [fillI, hx, hy] at hf
        subst hf
        simp [fieldW, regV_eq hx, numV_eq hy]
theorem f_rs {k : Int} {ws : List Str} {i : Ins} (hl : ws.length = 2) (hf : fillI ⟨k, 0, 0, 0, []⟩ [114, 115] ws = some i) : [114, 115].map (fieldW i) = ws := by
  match ws, hl with
  | [x, y], _ =>
    cases hx : regV x with
    | none => simp [fillI, hx] at hf
    | some a =>
      cases hy : regV y with
      | none => simp [fillI, hx, hy] at hf
      | some b =>
        simp [fillI, hx, hy] at hf
        subst hf
        simp [fieldW, regV_eq hx, regV_eq hy]
theorem f_k {k : Int} {ws : List Str} {i : Ins} (hl : ws.length = 1) (hf : fillI ⟨k, 0, 0, 0, []⟩ [107] ws = some i) : [107].map (fieldW i) = ws := by
  match ws, hl with
  | [x], _ =>
    simp [fillI] at hf
    subst hf
    simp [fieldW]
theorem f_r {k : Int} {ws : List Str} {i : Ins} (hl : ws.length = 1) (hf : fillI ⟨k, 0, 0, 0, []⟩ [114] ws = some i) : [114].map (fieldW i) = ws := by
  match ws, hl with
  | [x], _ =>
    cases hx : regV x with
    | none => simp [fillI, hx] at hf
    | some a =>
      simp [fillI, hx] at hf
      subst hf
      simp [fieldW, regV_eq hx]
theorem form_word {n : Nat} (h1 : n ≠ 0) (h9 : n < 10) {k : Int} {ws : List Str} {i : Ins} (hl : ws.length = (form n).length) (hf : fillI ⟨k, 0, 0, 0, []⟩ (form n) ws = some i) : (form n).map (fieldW i) = ws := by
  match n, h1, h9 with
  | 1, _, _ => exact f_rk hl hf
  | 2, _, _ => exact f_rn hl hf
  | 3, _, _ => exact f_rs hl hf
  | 4, _, _ => exact f_rs hl hf
  | 5, _, _ => exact f_rs hl hf
  | 6, _, _ => exact f_rk hl hf
  | 7, _, _ => exact f_k hl hf
  | 8, _, _ => exact f_rn hl hf
  | 9, _, _ => exact f_r hl hf
theorem insE_word {l : List Str} {i : Ins} (h : insE l = .ok i) : insW i = l := by
  match l, h with
  | [], h => simp [insE] at h
  | w :: ws, h =>
    simp only [insE] at h
    split at h
    · cases h
    · next h0 =>
      split at h
      · next hl =>
        split at h
        · next i' hf =>
          cases h
          obtain ⟨hw, h9, hp⟩ := kindOf_word h0
          have hk := fill_kind hf
          dsimp only at hk
          unfold insW
          rw [hk, hw, form_word (n := (kindOf w).toNat) (by omega) (by omega) hl hf]
        · cases h
      · cases h
theorem codeE_words : ∀ {ps : List Str} {l : List Ins}, codeE ps = .ok l → (l.map fun i => joinS [32] (insW i)) = ps
  | [], l, h => by simp only [codeE] at h; cases h; rfl
  | p :: ps, l, h => by
    simp only [codeE] at h
    cases hi : insE (split p [32]) with
    | error e => rw [hi] at h; cases h
    | ok i =>
      rw [hi] at h
      dsimp only at h
      cases hr : codeE ps with
      | error e => rw [hr] at h; cases h
      | ok r =>
        rw [hr] at h
        cases h
        rw [List.map_cons, insE_word hi, split_join_id, codeE_words hr]
/-- A text that is read is its deed's. -/
theorem print_parse {s : Str} {d : Deed} (h : parseE s = .ok d) : printD d = s := by
  unfold parseE at h
  split at h
  · cases h
  split at h
  · next p0 p1 ps hsp =>
    split at h
    · next h0 =>
      split at h
      · next h1 =>
        split at h
        · cases h
        · next code hc =>
          split at h
          · cases h
            have e0 : wReads :: (split p0 [32]).tail = split p0 [32] := by
              cases hx : split p0 [32] with
              | nil => rw [hx] at h0; cases h0
              | cons x y => rw [hx] at h0; cases h0; rfl
            have e1 : wWrites :: (split p1 [32]).tail = split p1 [32] := by
              cases hx : split p1 [32] with
              | nil => rw [hx] at h1; cases h1
              | cons x y => rw [hx] at h1; cases h1; rfl
            unfold printD partsD
            dsimp only
            rw [e0, e1, split_join_id, split_join_id, codeE_words hc, ← hsp, split_join_id]
          · cases h
      · cases h
    · cases h
  · cases h

end Go.Proofs.YtfaaghkgfbhglaaDoor

/-! P20 -/
/-
  Right deeds are small; what is wrong with a text is never nought.
-/
namespace Go.Proofs.YtfaaghkgfbhglaaDoor
open Go.AX Go.RF

theorem wrong_sm {d : Deed} (h : wrongDeed d = 0) : d.Sm := by
  have hok := wrongDeed_ok h
  obtain ⟨h1, h2⟩ := wrong_key h
  have := hok.r; have := hok.w; have := hok.c
  exact ⟨by omega, by omega, by omega, fun s hs => by have := key_len (h1 s hs); omega, fun s hs => by have := key_len (h2 s hs); omega⟩
theorem insE_err {l : List Str} {e : Int} (h : insE l = .error e) : e ≠ 0 := by
  unfold insE at h
  split at h
  · cases h; decide
  · split at h
    · cases h; decide
    · split at h
      · split at h
        · cases h
        · cases h; decide
      · cases h; decide
theorem codeE_err : ∀ {l : List Str} {e : Int}, codeE l = .error e → e ≠ 0
  | [], e, h => by cases h
  | p :: r, e, h => by
    simp only [codeE] at h
    split at h
    · next e' he => cases h; exact insE_err he
    · split at h
      · next e' he => cases h; exact codeE_err he
      · cases h
theorem parseE_err {s : Str} {e : Int} (h : parseE s = .error e) : e ≠ 0 := by
  unfold parseE at h
  split at h
  · cases h; decide
  split at h
  · split at h
    · split at h
      · split at h
        · next e' he => cases h; exact codeE_err he
        · split at h
          · cases h
          · next h1 => cases h; exact h1
      · cases h; decide
    · cases h; decide
  · cases h; decide
theorem parseE_right {s : Str} {d : Deed} (h : parseE s = .ok d) : wrongDeed d = 0 := by
  unfold parseE at h
  split at h
  · cases h
  split at h
  · split at h
    · split at h
      · split at h
        · cases h
        · split at h
          · next h1 => cases h; exact h1
          · cases h
      · cases h
    · cases h
  · cases h
theorem parseR_ok {s : Str} {d : Deed} (h : parseE s = .ok d) : parseR s = (d, 0) := by unfold parseR; rw [h]; rfl
theorem parseR_err {s : Str} {e : Int} (h : parseE s = .error e) : parseR s = (noDeed, e) := by unfold parseR; rw [h]; rfl

end Go.Proofs.YtfaaghkgfbhglaaDoor

/-! L16 -/
/-
  The law TextTurns answers true of whatever data.
-/
namespace Go.Proofs.YtfaaghkgfbhglaaDoor
open Go.AX Go.RF

set_option maxRecDepth 100000
set_option maxHeartbeats 8000000

/-- 'reads a b; writes c; load r0 a; const r1 -5; skip r0 1; store r1 c; fail r1', and its deed. -/
def tgS : Str := [114, 101, 97, 100, 115, 32, 97, 32, 98, 59, 32, 119, 114, 105, 116, 101, 115, 32, 99, 59, 32, 108, 111, 97, 100, 32, 114, 48, 32, 97, 59, 32, 99, 111, 110, 115, 116, 32, 114, 49, 32, 45, 53, 59, 32, 115, 107, 105, 112, 32, 114, 48, 32, 49, 59, 32, 115, 116, 111, 114, 101, 32, 114, 49, 32, 99, 59, 32, 102, 97, 105, 108, 32, 114, 49]
def tg : Deed := ⟨[[97], [98]], [[99]], [⟨1, 0, 0, 0, [97]⟩, ⟨2, 1, 0, -5, []⟩, ⟨8, 0, 0, 1, []⟩, ⟨6, 1, 0, 0, [99]⟩, ⟨9, 1, 0, 0, []⟩]⟩
theorem tg_parse : parseR tgS = (tg, 0) := by decide +kernel
theorem tg_print : printD tg = tgS := by decide +kernel
theorem tg_right : wrongDeed tg = 0 := by decide +kernel

theorem ok_alive3 : FnOk Tryd.prog 4 [] (.one (dbool true)) := by
  refine fnOk_of tbl_ok mixed_ok Tryd.func4 rfl (by kernel_rfl) rfl rfl fun w0 own0 => ?_
  have c1 := ok_tparse tgS (by simp [tgS])
  rw [tg_parse] at c1
  have c2 := ok_tprint tg tg_right (wrong_sm tg_right) (by rw [tg_print]; simp [tgS])
  rw [tg_print] at c2
  have h0 : tg.code[2]? = some ⟨8, 0, 0, 1, []⟩ := rfl
  have hl : tg.code.length = 5 := rfl
  generalize tg = x at *
  repeat (first|((with_reducible apply s1); exact rfl)|(with_reducible first|apply CW.seq|apply CW.block|apply CW.region|apply CW.draw|apply CW.skip|apply CW.exit|apply CW.ret|apply q_then|apply q_then_exit|apply q_then_ret|apply q_block|apply q_block_ret|apply q_block_hit|apply q_ret|apply q_end|apply q_loop_exit|apply q_loop_ret|apply q_loopT_exit|apply q_loopT_ret|apply RW.nil)|((with_reducible apply s3); exact rfl; exact by_k)|((with_reducible apply s2); exact rfl; exact by_k)|((with_reducible apply s4); exact rfl)|((with_reducible apply s5); (first|exact a_call c1 rfl by_sub|exact a_call c2 rfl by_sub|exact by_oa); exact by_g)|((with_reducible apply CW.cond_t); exact rfl; exact by_ks)|((with_reducible apply CW.cond_f); exact rfl; exact by_ks)|((with_reducible apply q_block_miss); exact rfl)|(refine And.intro (show chk [] [] _ _ = true by kernel_rfl) ?_))
  exact .one (.tmp rfl (.one (.d (dle_bool (by simp [hl]; rfl)))))

theorem ok_TextTurns (s : Str) (d : Deed) (hs : s.length ≤ 1048576) (hd : d.Sm) : FnOk Tryd.prog 3 [.d (dstr s), .d (.agg d.enc)] (.one (dbool true)) := by
  refine fnOk_of tbl_ok mixed_ok Tryd.func3 rfl (by kernel_rfl) rfl rfl fun w0 own0 => ?_
  have c0 := ok_alive3
  have c1 := ok_wrongDeed d hd.r hd.w hd.c hd.rk hd.wk
  have c2 := ok_tparse s (by omega)
  by_cases hw : wrongDeed d = 0
  · rw [hw] at c1
    have hl := printD_len hw
    have c3 := ok_tprint d hw hd (by omega)
    have c4 := ok_tparse (printD d) (by omega)
    rw [parseR_ok (parse_print hw)] at c4
    dsimp only at c4
    have c5 := ok_sameDeed d d hd.r hd.w hd.c
    rw [decide_eq_true rfl] at c5
    generalize printD d = t at *
    cases hp : parseE s with
    | error e =>
      rw [parseR_err hp] at c2
      have n1 : noDeed.reads.length = 0 := rfl
      have n2 : noDeed.writes.length = 0 := rfl
      have n3 : noDeed.code.length = 0 := rfl
      generalize noDeed = x at *
      have he := parseE_err hp
      dsimp only at c2
      repeat (first|((with_reducible apply s1); exact rfl)|(with_reducible first|apply CW.seq|apply CW.block|apply CW.region|apply CW.draw|apply CW.skip|apply CW.exit|apply CW.ret|apply q_then|apply q_then_exit|apply q_then_ret|apply q_block|apply q_block_ret|apply q_block_hit|apply q_ret|apply q_end|apply q_loop_exit|apply q_loop_ret|apply q_loopT_exit|apply q_loopT_ret|apply RW.nil)|((with_reducible apply s3); exact rfl; exact by_k)|((with_reducible apply s2); exact rfl; exact by_k)|((with_reducible apply s4); exact rfl)|((with_reducible apply s5); (first|exact a_call c0 rfl by_sub|exact a_call c1 rfl by_sub|exact a_call c3 rfl by_sub|exact a_call c4 rfl by_sub|exact a_call c5 rfl by_sub|exact a_call c2 rfl by_sub|exact by_oa); exact by_g)|((with_reducible apply CW.cond_t); exact rfl; exact by_ks)|((with_reducible apply CW.cond_f); exact rfl; exact by_ks)|((with_reducible apply q_block_miss); exact rfl)|(refine And.intro (show chk [] [] _ _ = true by kernel_rfl) ?_))
      exact .one (.tmp rfl (.one (.d (dle_bool (by simp [n1, n2, n3])))))
    | ok x =>
      rw [parseR_ok hp] at c2
      have hx := parseE_right hp
      have hps := print_parse hp
      have hm := wrong_sm hx
      have c6 := ok_tprint x hx hm (by have := printD_len hx; omega)
      rw [hps] at c6
      have c7 := ok_wrongDeed x hm.r hm.w hm.c hm.rk hm.wk
      rw [hx] at c7
      dsimp only at c2
      repeat (first|((with_reducible apply s1); exact rfl)|(with_reducible first|apply CW.seq|apply CW.block|apply CW.region|apply CW.draw|apply CW.skip|apply CW.exit|apply CW.ret|apply q_then|apply q_then_exit|apply q_then_ret|apply q_block|apply q_block_ret|apply q_block_hit|apply q_ret|apply q_end|apply q_loop_exit|apply q_loop_ret|apply q_loopT_exit|apply q_loopT_ret|apply RW.nil)|((with_reducible apply s3); exact rfl; exact by_k)|((with_reducible apply s2); exact rfl; exact by_k)|((with_reducible apply s4); exact rfl)|((with_reducible apply s5); (first|exact a_call c0 rfl by_sub|exact a_call c1 rfl by_sub|exact a_call c3 rfl by_sub|exact a_call c4 rfl by_sub|exact a_call c5 rfl by_sub|exact a_call c2 rfl by_sub|exact a_call c6 rfl by_sub|exact a_call c7 rfl by_sub|exact by_oa); exact by_g)|((with_reducible apply CW.cond_t); exact rfl; exact by_ks)|((with_reducible apply CW.cond_f); exact rfl; exact by_ks)|((with_reducible apply q_block_miss); exact rfl)|(refine And.intro (show chk [] [] _ _ = true by kernel_rfl) ?_))
      exact .one (.tmp rfl (.one (.d (.refl _))))
  · generalize wrongDeed d = we at *
    cases hp : parseE s with
    | error e =>
      rw [parseR_err hp] at c2
      have n1 : noDeed.reads.length = 0 := rfl
      have n2 : noDeed.writes.length = 0 := rfl
      have n3 : noDeed.code.length = 0 := rfl
      generalize noDeed = x at *
      have he := parseE_err hp
      dsimp only at c2
      repeat (first|((with_reducible apply s1); exact rfl)|(with_reducible first|apply CW.seq|apply CW.block|apply CW.region|apply CW.draw|apply CW.skip|apply CW.exit|apply CW.ret|apply q_then|apply q_then_exit|apply q_then_ret|apply q_block|apply q_block_ret|apply q_block_hit|apply q_ret|apply q_end|apply q_loop_exit|apply q_loop_ret|apply q_loopT_exit|apply q_loopT_ret|apply RW.nil)|((with_reducible apply s3); exact rfl; exact by_k)|((with_reducible apply s2); exact rfl; exact by_k)|((with_reducible apply s4); exact rfl)|((with_reducible apply s5); (first|exact a_call c0 rfl by_sub|exact a_call c1 rfl by_sub|exact a_call c2 rfl by_sub|exact by_oa); exact by_g)|((with_reducible apply CW.cond_t); exact rfl; exact by_ks)|((with_reducible apply CW.cond_f); exact rfl; exact by_ks)|((with_reducible apply q_block_miss); exact rfl)|(refine And.intro (show chk [] [] _ _ = true by kernel_rfl) ?_))
      exact .one (.tmp rfl (.one (.d (dle_bool (by simp [n1, n2, n3])))))
    | ok x =>
      rw [parseR_ok hp] at c2
      have hx := parseE_right hp
      have hps := print_parse hp
      have hm := wrong_sm hx
      have c6 := ok_tprint x hx hm (by have := printD_len hx; omega)
      rw [hps] at c6
      have c7 := ok_wrongDeed x hm.r hm.w hm.c hm.rk hm.wk
      rw [hx] at c7
      dsimp only at c2
      repeat (first|((with_reducible apply s1); exact rfl)|(with_reducible first|apply CW.seq|apply CW.block|apply CW.region|apply CW.draw|apply CW.skip|apply CW.exit|apply CW.ret|apply q_then|apply q_then_exit|apply q_then_ret|apply q_block|apply q_block_ret|apply q_block_hit|apply q_ret|apply q_end|apply q_loop_exit|apply q_loop_ret|apply q_loopT_exit|apply q_loopT_ret|apply RW.nil)|((with_reducible apply s3); exact rfl; exact by_k)|((with_reducible apply s2); exact rfl; exact by_k)|((with_reducible apply s4); exact rfl)|((with_reducible apply s5); (first|exact a_call c0 rfl by_sub|exact a_call c1 rfl by_sub|exact a_call c2 rfl by_sub|exact a_call c6 rfl by_sub|exact a_call c7 rfl by_sub|exact by_oa); exact by_g)|((with_reducible apply CW.cond_t); exact rfl; exact by_ks)|((with_reducible apply CW.cond_f); exact rfl; exact by_ks)|((with_reducible apply q_block_miss); exact rfl)|(refine And.intro (show chk [] [] _ _ = true by kernel_rfl) ?_))
      exact .one (.tmp rfl (.one (.d (.refl _))))

end Go.Proofs.YtfaaghkgfbhglaaDoor

/-! AxLaid -/
/-
  What package-level variables hold, out of a row's list of them.
-/
namespace Go.AX
open Go.RowKit

theorem laid_drop {P : Program} {w : World} : ∀ {laid : List (String × DataW Unit)} (i : Nat), laidMet P laid w → laidMet P (laid.drop i) w
  | _, 0, h => h
  | [], _ + 1, h => h
  | (n, d) :: r, i + 1, h => by
    obtain ⟨ps, hv, hnd, hrows⟩ := h
    obtain ⟨g, t, cs, fuel, p, q, _, _, _, _, hq, rfl⟩ := hv
    exact laid_drop i ⟨q, hq, List.Nodup.sublist (List.sublist_append_right _ _) hnd, fun b off hm => hrows b off (List.mem_append_right _ hm)⟩
theorem trod_iface {P : Program} {w : World} {ti : TypeId} {ms : Array (String × TypeId)} {sp : Nat → Bool} {fuel : Nat} {cs : List Value} {nm : String} {d : DataW Unit} {p : List MemPlace} (hi : P.underlying ti = some (.interface ms))
    (h : DataW.trod (fun _ => ()) P w 0 sp false fuel ti cs = some (.iface nm d, p)) : ∃ u v, cs = [.iface u v] := by
  cases fuel with
  | zero => simp [DataW.trod] at h
  | succ n =>
    rcases cs with _ | ⟨c, _ | ⟨c2, r⟩⟩
    · simp [DataW.trod, hi] at h
    · cases c <;> simp [DataW.trod, hi] at h ⊢
    · cases c <;> simp [DataW.trod, hi] at h
/-- A variable of an interface type that the list has, not nil. -/
theorem gl_iface {P : Program} {w : World} {laid rest : List (String × DataW Unit)} {n nm : String} {d : DataW Unit} {g : Nat} {ti : TypeId} {ms : Array (String × TypeId)} (i : Nat) (hi : laid.drop i = (n, .iface nm d) :: rest)
    (hg : P.globalNamed n = some g) (ht : (P.globals[g]?).map (·.type) = some ti) (hu : P.underlying ti = some (.interface ms)) (h : laidMet P laid w) : GlAt P w n fun cs => ∃ tp p, cs = #[.iface tp p] := by
  intro g' hg'
  have h1 := laid_drop i h
  rw [hi] at h1
  obtain ⟨ps, ⟨g0, t0, cs0, f0, p0, q0, hg0, ht0, hv0, hd0, _, _⟩, _⟩ := h1
  obtain rfl := Option.some.inj (hg.symm.trans hg0)
  obtain rfl := Option.some.inj (ht.symm.trans ht0)
  obtain ⟨u, v, hc⟩ := trod_iface hu hd0
  refine ⟨cs0, hv0, u, v, ?_⟩
  rw [← Array.toArray_toList (xs := cs0), hc]
/-- A table that the list has. -/
theorem gl_tab {P : Program} {w : World} {laid rest : List (String × DataW Unit)} {n : String} {k : IntKind} {zs : List Int} {g : Nat} {t e : TypeId} {m : Nat} (i : Nat) (hi : laid.drop i = (n, Lib.tabData k zs) :: rest)
    (hg : P.globalNamed n = some g) (hty : (P.globals[g]?).map (·.type) = some t) (ht : P.underlying t = some (.array m e)) (he : P.underlying e = some (.int k)) (hce : P.cellsOf e = 1) (hct : P.cellsOf t = m) (h : laidMet P laid w) :
    GlAt P w n fun cs => cs = (zs.map fun z => Value.int k z).toArray := by
  intro g' hg'
  have h1 := laid_drop i h
  rw [hi] at h1
  exact ⟨_, Lib.tabIs_of_head hg hty ht he hce hct h1, rfl⟩
/-- A variable of an integer's type. -/
theorem gl_int {P : Program} {w : World} {n : String} {g : Nat} {m : Int} (hg : P.globalNamed n = some g) (h : w.cell? ⟨g, 0, none⟩ = some (.int .i64 m)) : GlAt P w n fun cs => ∃ m, cs[0]? = some (.int .i64 m) := by
  intro g' hg'
  have hx : ∃ cs, w.var? P n = some cs ∧ cs[0]? = some (.int .i64 m) := by
    unfold World.var?
    rw [hg]
    simp only [Option.bind_some]
    unfold World.cell? at h
    simp only at h
    split at h
    · next cs _ _ hh => rw [hh]; exact ⟨cs, rfl, h⟩
    · cases h
  obtain ⟨cs, h1, h2⟩ := hx
  exact ⟨cs, h1, m, h2⟩

end Go.AX
