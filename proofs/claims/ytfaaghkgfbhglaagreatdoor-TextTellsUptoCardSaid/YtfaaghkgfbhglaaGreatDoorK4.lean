/-
  Part 4 of what the claim leans on: H10 ShTrim R3 G20 G21 H11 H12 P16 L15 AxLaid.
-/
import Derived.Test.YtfaaghkgfbhglaaGreatDoorK3
import Derived.Shelf.Strings.SlTrimAscii
import Derived.Test.YtfaaghkgfbhglaaGreatDoorProg
import Derived.Shelf.Vars
import Derived.FnData

/-! H10 -/
/-
  Contract of the program's instr: the instruction of words.
-/
namespace Go.Proofs.YtfaaghkgfbhglaaGreatDoor
open Go.AX Go.RF Go.RowKit

set_option maxRecDepth 100000
set_option maxHeartbeats 16000000

theorem kind_idx (w : Str) : idxS 0 words.tail w = kindOf w - 1 ∧ 0 ≤ kindOf w ∧ kindOf w < 10 := by
  by_cases h1 : w = [108, 111, 97, 100]
  · subst h1; decide
  by_cases h2 : w = [99, 111, 110, 115, 116]
  · subst h2; decide
  by_cases h3 : w = [97, 100, 100]
  · subst h3; decide
  by_cases h4 : w = [115, 117, 98]
  · subst h4; decide
  by_cases h5 : w = [109, 117, 108]
  · subst h5; decide
  by_cases h6 : w = [115, 116, 111, 114, 101]
  · subst h6; decide
  by_cases h7 : w = [100, 114, 111, 112]
  · subst h7; decide
  by_cases h8 : w = [115, 107, 105, 112]
  · subst h8; decide
  by_cases h9 : w = [102, 97, 105, 108]
  · subst h9; decide
  have hk : kindOf w = 0 := by
    unfold kindOf
    simp [words, kindGo, Ne.symm h1, Ne.symm h2, Ne.symm h3, Ne.symm h4, Ne.symm h5, Ne.symm h6, Ne.symm h7, Ne.symm h8, Ne.symm h9]
  have hi : idxS 0 words.tail w = -1 := by
    simp [words, idxS, Ne.symm h1, Ne.symm h2, Ne.symm h3, Ne.symm h4, Ne.symm h5, Ne.symm h6, Ne.symm h7, Ne.symm h8, Ne.symm h9]
  rw [hk, hi]
  decide
def noIns : Ins := ⟨0, 0, 0, 0, []⟩
def resI : Except Int Ins → Ins × Int
  | .ok i => (i, 0)
  | .error e => (noIns, e)
theorem bin_kind {P : Program} {t : TypeId} {k : Int} (h : 0 ≤ k ∧ k < 10) : BinR P .add t (.int .i64 (k - 1)) (.int .i64 1) (.int .i64 k) := by
  have := bin_add (P := P) (t := t) (a := k - 1) (b := 1) (by omega)
  rwa [show k - 1 + 1 = k by omega] at this
theorem cutp_yes (r : Str) : Lib.trimPrefix (114 :: r) [114] = r ∧ Lib.hasPrefix (114 :: r) [114] = true := by
  have h : Lib.hasPrefix (114 :: r) [114] = true := by simp [Lib.hasPrefix, List.isPrefixOf]
  exact ⟨by unfold Lib.trimPrefix; rw [if_pos h]; rfl, h⟩
theorem cutp_no {u : Str} (h : ∀ r, u ≠ 114 :: r) : Lib.hasPrefix u [114] = false ∧ (Lib.trimPrefix u [114]) = u := by
  have h1 : Lib.hasPrefix u [114] = false := by
    cases u with
    | nil => rfl
    | cons c r =>
      have : c ≠ 114 := fun e => h r (by rw [e])
      simp [Lib.hasPrefix, List.isPrefixOf, this.symm]
  exact ⟨h1, by unfold Lib.trimPrefix; rw [h1]; rfl⟩

theorem ok_tinstr (w : Str) (ws : List Str) (hl : ws.length ≤ 1000000) (hu : ∀ u ∈ ws, u.length ≤ 1000000) :
    FnOk Tryz.prog 11 [.d (encStrs (w :: ws))] (.tup [.agg (resI (insE (w :: ws))).1.enc, dint (resI (insE (w :: ws))).2]) := by
  refine fnOk_of tbl_ok mixed_ok Tryz.func11 rfl (by kernel_rfl) rfl rfl fun w0 own0 => ?_
  have cw := ok_twords
  obtain ⟨hki, hk0, hk9⟩ := kind_idx w
  have ci := ok_indexS words.tail w (by decide)
  rw [hki] at ci
  have hbk := fun {t : TypeId} => bin_kind (P := Tryz.prog) (t := t) ⟨hk0, hk9⟩
  have hw0 : (w :: ws)[0]? = some w := rfl
  obtain ⟨K, hKe⟩ := Int.eq_ofNat_of_zero_le hk0
  by_cases hkz : kindOf w = 0
  · have hE : insE (w :: ws) = .error 1 := by simp only [insE]; rw [if_pos hkz]
    rw [hE]
    rw [hkz] at ci hbk
    repeat (first|((with_reducible apply s1); exact rfl)|(with_reducible first|apply CW.seq|apply CW.block|apply CW.region|apply CW.draw|apply CW.skip|apply CW.exit|apply CW.ret|apply q_then|apply q_then_exit|apply q_then_ret|apply q_block|apply q_block_ret|apply q_block_hit|apply q_ret|apply q_end|apply q_loop_exit|apply q_loop_ret|apply q_loopT_exit|apply q_loopT_ret|apply RW.nil)|((with_reducible apply s3); exact rfl; exact by_k)|((with_reducible apply s2); exact rfl; exact by_k)|((with_reducible apply s4); exact rfl)|((with_reducible apply s5); (first|exact a_call cw rfl by_sub|exact a_call ci rfl by_sub|((with_reducible apply a_bin); exact rfl; exact rfl; exact hbk; exact rfl)|exact by_oa); exact by_g)|((with_reducible apply CW.cond_t); exact rfl; exact by_ks)|((with_reducible apply CW.cond_f); exact rfl; exact by_ks)|((with_reducible apply q_block_miss); exact rfl)|(refine And.intro (show chk [] [] _ _ = true by kernel_rfl) ?_))
    exact .two (.cell rfl rfl rfl rfl (.aggd (ds := noIns.enc) rfl (.refl _))) (.tmp rfl (.one (.d (.refl _))))
  have hins := insE_fill (w := w) (ws := ws) hkz
  have hins2 : ¬ ws.length = (form (kindOf w).toNat).length → insE (w :: ws) = .error 2 := fun h => by simp only [insE]; rw [if_neg hkz, if_neg h]
  rw [hKe] at hins hins2 hkz hk9 ci hbk
  rw [Int.toNat_natCast] at hins hins2
  have cf := ok_fields K (by omega) (by omega)
  have hlet : ∀ c ∈ form K, c = 114 ∨ c = 115 ∨ c = 110 ∨ c = 107 := fun c hc => form_let hc
  have hfl := form_len K
  generalize form K = f at *
  by_cases hlen : ws.length = f.length
  · have hins := hins hlen
    obtain ⟨tg, htg⟩ : ∃ tg, fillI ⟨K, 0, 0, 0, []⟩ f ws = tg := ⟨_, rfl⟩
    rw [htg] at hins
    repeat (first|((with_reducible apply s1); exact rfl)|(with_reducible first|apply CW.seq|apply CW.block|apply CW.region|apply CW.draw|apply CW.skip|apply CW.exit|apply CW.ret|apply q_then|apply q_then_exit|apply q_then_ret|apply q_block|apply q_block_ret|apply q_block_hit|apply q_ret|apply q_end|apply q_loop_exit|apply q_loop_ret|apply q_loopT_exit|apply q_loopT_ret|apply RW.nil)|((with_reducible apply s3); exact rfl; exact by_k)|((with_reducible apply s2); exact rfl; exact by_k)|((with_reducible apply s4); exact rfl)|((with_reducible apply s5); (first|exact a_call cw rfl by_sub|exact a_call ci rfl by_sub|exact a_call cf rfl by_sub|((with_reducible apply a_bin); exact rfl; exact rfl; exact hbk; exact rfl)|((with_reducible apply a_range); exact rfl; exact rfl; exact Tryz.underlying9; exact rfl)|exact by_oa); exact by_g)|((with_reducible apply CW.cond_t); exact rfl; exact by_ks)|((with_reducible apply CW.cond_f); exact rfl; exact by_ks)|((with_reducible apply q_block_miss); exact rfl)|(refine And.intro (show chk [] [] _ _ = true by kernel_rfl) ?_))
    refine CW.loopT (fun t : Nat × Ins => [sd 0 (encStrs (w :: ws)), sp 2 0, ob 0 noIns.enc, sp 4 1, ob 1 t.2.enc, (.s 34, .av (.h 2)), (.o 2, .ob (.gen (ItP f t.1))), nxt 3])
      (fun t => t.1 ≤ f.length ∧ fillI t.2 (f.drop t.1) (ws.drop t.1) = tg) (fun t => f.length - t.1) (0, ⟨K, 0, 0, 0, []⟩) ⟨by dsimp only; omega, htg⟩ ?_ ?_
    ·
      exact by_less
    · rintro ⟨j, i⟩ ⟨hj, hI⟩
      dsimp only at hj hI ⊢
      rcases drop_case hj with ⟨b1, b2⟩ | ⟨c, b1, b2, b3⟩
      · rw [b1, fillI] at hI
        subst hI
        dsimp only at hins
        rw [hins]
        repeat (first|((with_reducible apply s1); exact rfl)|(with_reducible first|apply CW.seq|apply CW.block|apply CW.region|apply CW.draw|apply CW.skip|apply CW.exit|apply CW.ret|apply q_then|apply q_then_exit|apply q_then_ret|apply q_block|apply q_block_ret|apply q_block_hit|apply q_ret|apply q_end|apply q_loop_exit|apply q_loop_ret|apply q_loopT_exit|apply q_loopT_ret|apply RW.nil)|((with_reducible apply s3); exact rfl; exact by_k)|((with_reducible apply s2); exact rfl; exact by_k)|((with_reducible apply s4); exact rfl)|((with_reducible apply s5); (first|((with_reducible apply (a_nextE (k := j) 2)); exact rfl; exact rfl; exact Nat.le_of_eq b2.symm; exact rfl)|exact by_oa); exact by_g)|((with_reducible apply CW.cond_t); exact rfl; exact by_ks)|((with_reducible apply CW.cond_f); exact rfl; exact by_ks)|((with_reducible apply q_block_miss); exact rfl)|(refine And.intro (show chk [] [] _ _ = true by kernel_rfl) ?_))
        exact .two (.cell rfl rfl rfl rfl (.aggd (ds := i.enc) rfl (.refl _))) (.tmp rfl (.one (.d (.refl _))))
      · have hc := hlet c (List.mem_of_getElem? b2)
        have hc1 : c.toNat < 128 := by rcases hc with rfl | rfl | rfl | rfl <;> decide
        have hwj : j < ws.length := by omega
        have hwa : (w :: ws)[j + 1]? = some ws[j] := by simp [List.getElem?_eq_getElem hwj]
        rw [show j + 1 = 1 + j by omega] at hwa
        rw [b1, List.drop_eq_getElem_cons hwj] at hI
        have hul := hu ws[j] (List.getElem_mem hwj)
        generalize ws[j] = u at hwa hI hul
        simp only [fillI] at hI
        have hix : idx ((w :: ws).map encStr1) (1 + (j : Int)) = some (encStr1 u) := by
          have := idx_map (f := encStr1) hwa
          rwa [show ((1 + j : Nat) : Int) = 1 + (j : Int) by omega] at this
        by_cases q1 : c = 107
        · rw [if_pos q1] at hI
          subst q1
          repeat (first|((with_reducible apply s1); exact rfl)|(with_reducible first|apply CW.seq|apply CW.block|apply CW.region|apply CW.draw|apply CW.skip|apply CW.exit|apply CW.ret|apply q_then|apply q_then_exit|apply q_then_ret|apply q_block|apply q_block_ret|apply q_block_hit|apply q_ret|apply q_end|apply q_loop_exit|apply q_loop_ret|apply q_loopT_exit|apply q_loopT_ret|apply RW.nil)|((with_reducible apply s3); exact rfl; exact by_k)|((with_reducible apply s2); exact rfl; exact by_k)|((with_reducible apply s4); exact rfl)|((with_reducible apply s5); (first|((with_reducible apply (a_next (k := j) 2)); exact rfl; exact rfl; exact b2; exact hc1; exact rfl)|((with_reducible apply a_ia); (iterate 5 exact rfl); exact hix)|exact by_oa); exact by_g)|((with_reducible apply CW.cond_t); exact rfl; exact by_ks)|((with_reducible apply CW.cond_f); exact rfl; exact by_ks)|((with_reducible apply q_block_miss); exact rfl)|(refine And.intro (show chk [] [] _ _ = true by kernel_rfl) ?_))
          refine q_loopT (j + 1, { i with key := u }) ⟨by dsimp only; omega, hI⟩ (by dsimp only; omega) ?_
          exact by_less
        rw [if_neg q1] at hI
        by_cases q2 : c = 110
        · rw [if_pos q2] at hI
          subst q2
          have cm := ok_number u (by omega)
          cases hn : numV u with
          | some n =>
            rw [hn] at hI cm
            rw [numV_atoi hn] at cm
            repeat (first|((with_reducible apply s1); exact rfl)|(with_reducible first|apply CW.seq|apply CW.block|apply CW.region|apply CW.draw|apply CW.skip|apply CW.exit|apply CW.ret|apply q_then|apply q_then_exit|apply q_then_ret|apply q_block|apply q_block_ret|apply q_block_hit|apply q_ret|apply q_end|apply q_loop_exit|apply q_loop_ret|apply q_loopT_exit|apply q_loopT_ret|apply RW.nil)|((with_reducible apply s3); exact rfl; exact by_k)|((with_reducible apply s2); exact rfl; exact by_k)|((with_reducible apply s4); exact rfl)|((with_reducible apply s5); (first|exact a_call cm rfl by_sub|((with_reducible apply (a_next (k := j) 2)); exact rfl; exact rfl; exact b2; exact hc1; exact rfl)|((with_reducible apply a_ia); (iterate 5 exact rfl); exact hix)|exact by_oa); exact by_g)|((with_reducible apply CW.cond_t); exact rfl; exact by_ks)|((with_reducible apply CW.cond_f); exact rfl; exact by_ks)|((with_reducible apply q_block_miss); exact rfl)|(refine And.intro (show chk [] [] _ _ = true by kernel_rfl) ?_))
            refine q_loopT (j + 1, { i with n := n }) ⟨by dsimp only; omega, hI⟩ (by dsimp only; omega) ?_
            exact by_less
          | none =>
            rw [hn] at hI cm
            dsimp only at hI
            subst hI
            dsimp only at hins
            rw [hins]
            generalize atoiV u = na at cm
            repeat (first|((with_reducible apply s1); exact rfl)|(with_reducible first|apply CW.seq|apply CW.block|apply CW.region|apply CW.draw|apply CW.skip|apply CW.exit|apply CW.ret|apply q_then|apply q_then_exit|apply q_then_ret|apply q_block|apply q_block_ret|apply q_block_hit|apply q_ret|apply q_end|apply q_loop_exit|apply q_loop_ret|apply q_loopT_exit|apply q_loopT_ret|apply RW.nil)|((with_reducible apply s3); exact rfl; exact by_k)|((with_reducible apply s2); exact rfl; exact by_k)|((with_reducible apply s4); exact rfl)|((with_reducible apply s5); (first|exact a_call cm rfl by_sub|((with_reducible apply (a_next (k := j) 2)); exact rfl; exact rfl; exact b2; exact hc1; exact rfl)|((with_reducible apply a_ia); (iterate 5 exact rfl); exact hix)|exact by_oa); exact by_g)|((with_reducible apply CW.cond_t); exact rfl; exact by_ks)|((with_reducible apply CW.cond_f); exact rfl; exact by_ks)|((with_reducible apply q_block_miss); exact rfl)|(refine And.intro (show chk [] [] _ _ = true by kernel_rfl) ?_))
            exact .two (.cell rfl rfl rfl rfl (.aggd (ds := noIns.enc) rfl (.refl _))) (.tmp rfl (.one (.d (.refl _))))
        rw [if_neg q2] at hI
        have cc := ok_cutp u [114]
        cases hrv : regV u with
        | some n =>
          rw [hrv] at hI
          dsimp only at hI
          obtain ⟨r, rfl, q3⟩ := regV_some hrv
          have cm := ok_number r (by simp at hul; omega)
          rw [q3, numV_atoi q3] at cm
          rw [(cutp_yes r).1, (cutp_yes r).2] at cc
          by_cases q4 : c = 114
          · rw [if_pos q4] at hI
            subst q4
            repeat (first|((with_reducible apply s1); exact rfl)|(with_reducible first|apply CW.seq|apply CW.block|apply CW.region|apply CW.draw|apply CW.skip|apply CW.exit|apply CW.ret|apply q_then|apply q_then_exit|apply q_then_ret|apply q_block|apply q_block_ret|apply q_block_hit|apply q_ret|apply q_end|apply q_loop_exit|apply q_loop_ret|apply q_loopT_exit|apply q_loopT_ret|apply RW.nil)|((with_reducible apply s3); exact rfl; exact by_k)|((with_reducible apply s2); exact rfl; exact by_k)|((with_reducible apply s4); exact rfl)|((with_reducible apply s5); (first|exact a_call cm rfl by_sub|exact a_call cc rfl by_sub|((with_reducible apply (a_next (k := j) 2)); exact rfl; exact rfl; exact b2; exact hc1; exact rfl)|((with_reducible apply a_ia); (iterate 5 exact rfl); exact hix)|exact by_oa); exact by_g)|((with_reducible apply CW.cond_t); exact rfl; exact by_ks)|((with_reducible apply CW.cond_f); exact rfl; exact by_ks)|((with_reducible apply q_block_miss); exact rfl)|(refine And.intro (show chk [] [] _ _ = true by kernel_rfl) ?_))
            refine q_loopT (j + 1, { i with a := n }) ⟨by dsimp only; omega, hI⟩ (by dsimp only; omega) ?_
            exact by_less
          · rw [if_neg q4] at hI
            obtain rfl : c = 115 := by rcases hc with h | h | h | h <;> first | exact h | exact absurd h ‹_›
            repeat (first|((with_reducible apply s1); exact rfl)|(with_reducible first|apply CW.seq|apply CW.block|apply CW.region|apply CW.draw|apply CW.skip|apply CW.exit|apply CW.ret|apply q_then|apply q_then_exit|apply q_then_ret|apply q_block|apply q_block_ret|apply q_block_hit|apply q_ret|apply q_end|apply q_loop_exit|apply q_loop_ret|apply q_loopT_exit|apply q_loopT_ret|apply RW.nil)|((with_reducible apply s3); exact rfl; exact by_k)|((with_reducible apply s2); exact rfl; exact by_k)|((with_reducible apply s4); exact rfl)|((with_reducible apply s5); (first|exact a_call cm rfl by_sub|exact a_call cc rfl by_sub|((with_reducible apply (a_next (k := j) 2)); exact rfl; exact rfl; exact b2; exact hc1; exact rfl)|((with_reducible apply a_ia); (iterate 5 exact rfl); exact hix)|exact by_oa); exact by_g)|((with_reducible apply CW.cond_t); exact rfl; exact by_ks)|((with_reducible apply CW.cond_f); exact rfl; exact by_ks)|((with_reducible apply q_block_miss); exact rfl)|(refine And.intro (show chk [] [] _ _ = true by kernel_rfl) ?_))
            refine q_loopT (j + 1, { i with b := n }) ⟨by dsimp only; omega, hI⟩ (by dsimp only; omega) ?_
            exact by_less
        | none =>
          rw [hrv] at hI
          dsimp only at hI
          subst hI
          dsimp only at hins
          rw [hins]
          have hall : ∃ u' b, FnOk Tryz.prog 29 [.d (dstr u), .d (dstr [114])] (.tup [dstr u', dbool b]) ∧ u'.length ≤ u.length ∧ (b && (numV u').isSome) = false := by
            rcases regV_none hrv with rfl | ⟨c0, r, rfl, q3⟩ | ⟨r, rfl, q3⟩
            · refine ⟨_, _, cc, ?_, ?_⟩
              · rw [(cutp_no (u := []) (by simp)).2]; exact Nat.le_refl _
              · rw [(cutp_no (u := []) (by simp)).1]; rfl
            · have hne : ∀ r', (c0 :: r : Str) ≠ 114 :: r' := fun r' e => by cases e; exact q3 rfl
              refine ⟨_, _, cc, ?_, ?_⟩
              · rw [(cutp_no hne).2]; exact Nat.le_refl _
              · rw [(cutp_no hne).1]; rfl
            · refine ⟨_, _, cc, ?_, ?_⟩
              · rw [(cutp_yes r).1]; simp
              · rw [(cutp_yes r).1, (cutp_yes r).2, q3]; rfl
          obtain ⟨u', b, cc, hul', hb⟩ := hall
          have cm := ok_number u' (by omega)
          generalize atoiV u' = na at cm
          generalize (numV u').isSome = is at cm hb
          have hcs : c = 114 ∨ c = 115 := by rcases hc with h | h | h | h <;> first | exact .inl h | exact .inr h | exact absurd h ‹_›
          rcases hcs with rfl | rfl
          · cases b with
            | true =>
              obtain rfl : is = false := by simpa using hb
              repeat (first|((with_reducible apply s1); exact rfl)|(with_reducible first|apply CW.seq|apply CW.block|apply CW.region|apply CW.draw|apply CW.skip|apply CW.exit|apply CW.ret|apply q_then|apply q_then_exit|apply q_then_ret|apply q_block|apply q_block_ret|apply q_block_hit|apply q_ret|apply q_end|apply q_loop_exit|apply q_loop_ret|apply q_loopT_exit|apply q_loopT_ret|apply RW.nil)|((with_reducible apply s3); exact rfl; exact by_k)|((with_reducible apply s2); exact rfl; exact by_k)|((with_reducible apply s4); exact rfl)|((with_reducible apply s5); (first|exact a_call cm rfl by_sub|exact a_call cc rfl by_sub|((with_reducible apply (a_next (k := j) 2)); exact rfl; exact rfl; exact b2; exact hc1; exact rfl)|((with_reducible apply a_ia); (iterate 5 exact rfl); exact hix)|exact by_oa); exact by_g)|((with_reducible apply CW.cond_t); exact rfl; exact by_ks)|((with_reducible apply CW.cond_f); exact rfl; exact by_ks)|((with_reducible apply q_block_miss); exact rfl)|(refine And.intro (show chk [] [] _ _ = true by kernel_rfl) ?_))
              exact .two (.cell rfl rfl rfl rfl (.aggd (ds := noIns.enc) rfl (.refl _))) (.tmp rfl (.one (.d (.refl _))))
            | false =>
              repeat (first|((with_reducible apply s1); exact rfl)|(with_reducible first|apply CW.seq|apply CW.block|apply CW.region|apply CW.draw|apply CW.skip|apply CW.exit|apply CW.ret|apply q_then|apply q_then_exit|apply q_then_ret|apply q_block|apply q_block_ret|apply q_block_hit|apply q_ret|apply q_end|apply q_loop_exit|apply q_loop_ret|apply q_loopT_exit|apply q_loopT_ret|apply RW.nil)|((with_reducible apply s3); exact rfl; exact by_k)|((with_reducible apply s2); exact rfl; exact by_k)|((with_reducible apply s4); exact rfl)|((with_reducible apply s5); (first|exact a_call cm rfl by_sub|exact a_call cc rfl by_sub|((with_reducible apply (a_next (k := j) 2)); exact rfl; exact rfl; exact b2; exact hc1; exact rfl)|((with_reducible apply a_ia); (iterate 5 exact rfl); exact hix)|exact by_oa); exact by_g)|((with_reducible apply CW.cond_t); exact rfl; exact by_ks)|((with_reducible apply CW.cond_f); exact rfl; exact by_ks)|((with_reducible apply q_block_miss); exact rfl)|(refine And.intro (show chk [] [] _ _ = true by kernel_rfl) ?_))
              exact .two (.cell rfl rfl rfl rfl (.aggd (ds := noIns.enc) rfl (.refl _))) (.tmp rfl (.one (.d (.refl _))))
          · cases b with
            | true =>
              obtain rfl : is = false := by simpa using hb
              repeat (first|((with_reducible apply s1); exact rfl)|(with_reducible first|apply CW.seq|apply CW.block|apply CW.region|apply CW.draw|apply CW.skip|apply CW.exit|apply CW.ret|apply q_then|apply q_then_exit|apply q_then_ret|apply q_block|apply q_block_ret|apply q_block_hit|apply q_ret|apply q_end|apply q_loop_exit|apply q_loop_ret|apply q_loopT_exit|apply q_loopT_ret|apply RW.nil)|((with_reducible apply s3); exact rfl; exact by_k)|((with_reducible apply s2); exact rfl; exact by_k)|((with_reducible apply s4); exact rfl)|((with_reducible apply s5); (first|exact a_call cm rfl by_sub|exact a_call cc rfl by_sub|((with_reducible apply (a_next (k := j) 2)); exact rfl; exact rfl; exact b2; exact hc1; exact rfl)|((with_reducible apply a_ia); (iterate 5 exact rfl); exact hix)|exact by_oa); exact by_g)|((with_reducible apply CW.cond_t); exact rfl; exact by_ks)|((with_reducible apply CW.cond_f); exact rfl; exact by_ks)|((with_reducible apply q_block_miss); exact rfl)|(refine And.intro (show chk [] [] _ _ = true by kernel_rfl) ?_))
              exact .two (.cell rfl rfl rfl rfl (.aggd (ds := noIns.enc) rfl (.refl _))) (.tmp rfl (.one (.d (.refl _))))
            | false =>
              repeat (first|((with_reducible apply s1); exact rfl)|(with_reducible first|apply CW.seq|apply CW.block|apply CW.region|apply CW.draw|apply CW.skip|apply CW.exit|apply CW.ret|apply q_then|apply q_then_exit|apply q_then_ret|apply q_block|apply q_block_ret|apply q_block_hit|apply q_ret|apply q_end|apply q_loop_exit|apply q_loop_ret|apply q_loopT_exit|apply q_loopT_ret|apply RW.nil)|((with_reducible apply s3); exact rfl; exact by_k)|((with_reducible apply s2); exact rfl; exact by_k)|((with_reducible apply s4); exact rfl)|((with_reducible apply s5); (first|exact a_call cm rfl by_sub|exact a_call cc rfl by_sub|((with_reducible apply (a_next (k := j) 2)); exact rfl; exact rfl; exact b2; exact hc1; exact rfl)|((with_reducible apply a_ia); (iterate 5 exact rfl); exact hix)|exact by_oa); exact by_g)|((with_reducible apply CW.cond_t); exact rfl; exact by_ks)|((with_reducible apply CW.cond_f); exact rfl; exact by_ks)|((with_reducible apply q_block_miss); exact rfl)|(refine And.intro (show chk [] [] _ _ = true by kernel_rfl) ?_))
              exact .two (.cell rfl rfl rfl rfl (.aggd (ds := noIns.enc) rfl (.refl _))) (.tmp rfl (.one (.d (.refl _))))
  · rw [hins2 hlen]
    repeat (first|((with_reducible apply s1); exact rfl)|(with_reducible first|apply CW.seq|apply CW.block|apply CW.region|apply CW.draw|apply CW.skip|apply CW.exit|apply CW.ret|apply q_then|apply q_then_exit|apply q_then_ret|apply q_block|apply q_block_ret|apply q_block_hit|apply q_ret|apply q_end|apply q_loop_exit|apply q_loop_ret|apply q_loopT_exit|apply q_loopT_ret|apply RW.nil)|((with_reducible apply s3); exact rfl; exact by_k)|((with_reducible apply s2); exact rfl; exact by_k)|((with_reducible apply s4); exact rfl)|((with_reducible apply s5); (first|exact a_call cw rfl by_sub|exact a_call ci rfl by_sub|exact a_call cf rfl by_sub|((with_reducible apply a_bin); exact rfl; exact rfl; exact hbk; exact rfl)|exact by_oa); exact by_g)|((with_reducible apply CW.cond_t); exact rfl; exact by_ks)|((with_reducible apply CW.cond_f); exact rfl; exact by_ks)|((with_reducible apply q_block_miss); exact rfl)|(refine And.intro (show chk [] [] _ _ = true by kernel_rfl) ?_))
    exact .two (.cell rfl rfl rfl rfl (.aggd (ds := noIns.enc) rfl (.refl _))) (.tmp rfl (.one (.d (.refl _))))

end Go.Proofs.YtfaaghkgfbhglaaGreatDoor

/-! ShTrim -/
/-
  The library's Trim, at this program's numbers (printed by tools/mklays.py 160).
-/
namespace Go.Proofs
open Go.Shelf Go.RowKit
set_option maxRecDepth 100000
noncomputable def Tryz.lays160_ren : Go.Shelf.Ren := ⟨fun | 119 => 101 | 120 => 99 | 137 => 100 | 151 => 92 | 152 => 98 | 160 => 57 | 197 => 53 | 217 => 70 | 224 => 72 | 225 => 71 | 227 => 76 | 228 => 91 | 231 => 74 | 232 => 75 | 233 => 77 | 234 => 78 | 235 => 79 | 236 => 80 | 260 => 69 | 266 => 89 | 271 => 93 | n => n, fun | 0 => 0 | 3 => 3 | 4 => 4 | 5 => 5 | 9 => 9 | 21 => 21 | 46 => 97 | 105 => 77 | 116 => 100 | 117 => 101 | 119 => 117 | 124 => 104 | 138 => 119 | 139 => 120 | n => n, fun | 3 => (Tryz.prog.globals.findIdx? (·.name == "unicode/utf8.first")).getD 0 | 4 => (Tryz.prog.globals.findIdx? (·.name == "unicode/utf8.acceptRanges")).getD 0 | n => n⟩
theorem Tryz.lays160 : Go.Proofs.Lays.n160 Tryz.prog Tryz.lays160_ren := {
  mixed := by kernel_rfl
  f119 := Tryz.func101.trans (congrArg some (by kernel_rfl))
  f120 := Tryz.func99.trans (congrArg some (by kernel_rfl))
  f137 := Tryz.func100.trans (congrArg some (by kernel_rfl))
  f151 := Tryz.func92.trans (congrArg some (by kernel_rfl))
  f152 := Tryz.func98.trans (congrArg some (by kernel_rfl))
  f160 := Tryz.func57.trans (congrArg some (by kernel_rfl))
  f197 := Tryz.func53.trans (congrArg some (by kernel_rfl))
  f217 := Tryz.func70.trans (congrArg some (by kernel_rfl))
  f224 := Tryz.func72.trans (congrArg some (by kernel_rfl))
  f225 := Tryz.func71.trans (congrArg some (by kernel_rfl))
  f227 := Tryz.func76.trans (congrArg some (by kernel_rfl))
  f228 := Tryz.func91.trans (congrArg some (by kernel_rfl))
  f231 := Tryz.func74.trans (congrArg some (by kernel_rfl))
  f232 := Tryz.func75.trans (congrArg some (by kernel_rfl))
  f233 := Tryz.func77.trans (congrArg some (by kernel_rfl))
  f234 := Tryz.func78.trans (congrArg some (by kernel_rfl))
  f235 := Tryz.func79.trans (congrArg some (by kernel_rfl))
  f236 := Tryz.func80.trans (congrArg some (by kernel_rfl))
  f260 := Tryz.func69.trans (congrArg some (by kernel_rfl))
  f266 := Tryz.func89.trans (congrArg some (by kernel_rfl))
  f271 := Tryz.func93.trans (congrArg some (by kernel_rfl))
  t0 := Tryz.underlying0
  a0 := Tryz.isAgg0
  z0 := Tryz.sizeOf0
  v0 := Tryz.zeroValue0
  t3 := Tryz.underlying3
  a3 := Tryz.isAgg3
  z3 := Tryz.sizeOf3
  v3 := Tryz.zeroValue3
  t4 := Tryz.underlying4
  a4 := Tryz.isAgg4
  z4 := Tryz.sizeOf4
  v4 := Tryz.zeroValue4
  t5 := Tryz.underlying5
  a5 := Tryz.isAgg5
  z5 := Tryz.sizeOf5
  v5 := Tryz.zeroValue5
  t9 := Tryz.underlying9
  a9 := Tryz.isAgg9
  z9 := Tryz.sizeOf9
  v9 := Tryz.zeroValue9
  t21 := Tryz.underlying21
  a21 := Tryz.isAgg21
  z21 := Tryz.sizeOf21
  v21 := Tryz.zeroValue21
  t46 := Tryz.underlying97
  a46 := Tryz.isAgg97
  z46 := Tryz.sizeOf97
  v46 := Tryz.zeroValue97
  t105 := Tryz.underlying77
  a105 := Tryz.isAgg77
  z105 := Tryz.sizeOf77
  v105 := Tryz.zeroValue77
  t116 := Tryz.underlying100
  a116 := Tryz.isAgg100
  z116 := Tryz.sizeOf100
  t117 := Tryz.underlying101
  a117 := Tryz.isAgg101
  z117 := Tryz.sizeOf101
  v117 := Tryz.zeroValue101
  t119 := Tryz.underlying117
  a119 := Tryz.isAgg117
  z119 := Tryz.sizeOf117
  t124 := Tryz.underlying104
  a124 := Tryz.isAgg104
  z124 := Tryz.sizeOf104
  v124 := Tryz.zeroValue104
  t138 := Tryz.underlying119
  a138 := Tryz.isAgg119
  z138 := Tryz.sizeOf119
  v138 := Tryz.zeroValue119
  t139 := Tryz.underlying120
  a139 := Tryz.isAgg120
  z139 := Tryz.sizeOf120
  v139 := Tryz.zeroValue120
  g3 := by kernel_rfl
  g4 := by kernel_rfl
  }
end Go.Proofs

/-! R3 -/
/-
  Contracts of the program's Key and Wrong of rows, and of the references' Round at whatever number.
-/
namespace Go.Proofs.YtfaaghkgfbhglaaGreatDoor
open Go.AX Go.RF Go.RowKit

set_option maxRecDepth 100000
set_option maxHeartbeats 8000000

theorem ok_trim (s : Str) (hs : s.length ≤ 1073741824) : FnOk Tryz.prog 57 [.d (dstr s), .d (dstr alpha)] (.one (dstr (Lib.trimS s alpha))) := by
  refine ⟨⟨_, Tryz.func57, by kernel_rfl, by kernel_rfl⟩, fun w own vs hown ha => ?_⟩
  match vs, ha with
  | [x, y], ⟨h1, h2, _⟩ =>
    obtain rfl : x = str s := rd_v h1
    obtain rfl : y = str alpha := rd_v h2
    refine (Any.strings_Trim_laid Tryz.lays160 (by kernel_rfl) ⟨s.toArray⟩ ⟨alpha.toArray⟩ w (by show s.toArray.size ≤ _; simp; omega) (by decide) (ascii_of_all (by decide))).mono fun e w' he => ?_
    obtain ⟨rfl, hb⟩ := he
    exact ⟨_, rfl, hb, Rd.v _⟩

theorem ok_pkey (s : Str) (hs : s.length ≤ 1073741824) : FnOk Tryz.prog 44 [.d (dstr s)] (.one (dbool (key s))) := by
  refine fnOk_of tbl_ok mixed_ok Tryz.func44 rfl (by kernel_rfl) rfl rfl fun w0 own0 => ?_
  have ht := ok_trim s hs
  rw [key_trim]
  by_cases h1 : 1 ≤ s.length
  · by_cases h2 : s.length ≤ 6
    ·
      repeat (first|((with_reducible apply s1); exact rfl)|(with_reducible first|apply CW.seq|apply CW.block|apply CW.region|apply CW.draw|apply CW.skip|apply CW.exit|apply CW.ret|apply q_then|apply q_then_exit|apply q_then_ret|apply q_block|apply q_block_ret|apply q_block_hit|apply q_ret|apply q_end|apply q_loop_exit|apply q_loop_ret|apply q_loopT_exit|apply q_loopT_ret|apply RW.nil)|((with_reducible apply s3); exact rfl; exact by_k)|((with_reducible apply s2); exact rfl; exact by_k)|((with_reducible apply s4); exact rfl)|((with_reducible apply s5); (first|exact a_call ht rfl by_sub|exact by_oa); exact by_g)|((with_reducible apply CW.cond_t); exact rfl; exact by_ks)|((with_reducible apply CW.cond_f); exact rfl; exact by_ks)|((with_reducible apply q_block_miss); exact rfl)|(refine And.intro (show chk [] [] _ _ = true by kernel_rfl) ?_))
      exact .one (.tmp rfl (.one (.d (dle_bool (by simp [h1, h2])))))
    ·
      repeat (first|((with_reducible apply s1); exact rfl)|(with_reducible first|apply CW.seq|apply CW.block|apply CW.region|apply CW.draw|apply CW.skip|apply CW.exit|apply CW.ret|apply q_then|apply q_then_exit|apply q_then_ret|apply q_block|apply q_block_ret|apply q_block_hit|apply q_ret|apply q_end|apply q_loop_exit|apply q_loop_ret|apply q_loopT_exit|apply q_loopT_ret|apply RW.nil)|((with_reducible apply s3); exact rfl; exact by_k)|((with_reducible apply s2); exact rfl; exact by_k)|((with_reducible apply s4); exact rfl)|((with_reducible apply s5); exact by_oa; exact by_g)|((with_reducible apply CW.cond_t); exact rfl; exact by_ks)|((with_reducible apply CW.cond_f); exact rfl; exact by_ks)|((with_reducible apply q_block_miss); exact rfl)|(refine And.intro (show chk [] [] _ _ = true by kernel_rfl) ?_))
      exact .one (.tmp rfl (.one (.d (dle_bool (by simp [h2])))))
  ·
    repeat (first|((with_reducible apply s1); exact rfl)|(with_reducible first|apply CW.seq|apply CW.block|apply CW.region|apply CW.draw|apply CW.skip|apply CW.exit|apply CW.ret|apply q_then|apply q_then_exit|apply q_then_ret|apply q_block|apply q_block_ret|apply q_block_hit|apply q_ret|apply q_end|apply q_loop_exit|apply q_loop_ret|apply q_loopT_exit|apply q_loopT_ret|apply RW.nil)|((with_reducible apply s3); exact rfl; exact by_k)|((with_reducible apply s2); exact rfl; exact by_k)|((with_reducible apply s4); exact rfl)|((with_reducible apply s5); exact by_oa; exact by_g)|((with_reducible apply CW.cond_t); exact rfl; exact by_ks)|((with_reducible apply CW.cond_f); exact rfl; exact by_ks)|((with_reducible apply q_block_miss); exact rfl)|(refine And.intro (show chk [] [] _ _ = true by kernel_rfl) ?_))
    exact .one (.tmp rfl (.one (.d (dle_bool (by simp [h1])))))

end Go.Proofs.YtfaaghkgfbhglaaGreatDoor

/-! G20 -/
/-
  Contracts of the program's Wrong of deeds.
-/
namespace Go.Proofs.YtfaaghkgfbhglaaGreatDoor
open Go.AX Go.RF

set_option maxRecDepth 100000
set_option maxHeartbeats 8000000

def regsN (k : Int) : Int := if k = 3 ∨ k = 4 ∨ k = 5 then 2 else if k = 7 then 0 else 1
def keyedB (k : Int) : Bool := decide (k = 1 ∨ k = 6 ∨ k = 7)
def loI (k : Int) : Int := if k = 2 then -1073741824 else if k = 8 then 1 else 0
def hiI (k m : Int) : Int := if k = 2 then 1073741824 else if k = 8 then m else 0
def outI (n lo hi a b x : Int) : Bool := decide (a < 0 ∨ 4 ≤ a ∨ (n < 1 ∧ a ≠ 0) ∨ b < 0 ∨ 4 ≤ b ∨ (n < 2 ∧ b ≠ 0) ∨ x < lo ∨ hi < x)
def pwrongIns (d : Deed) (m : Int) (i : Ins) : Int :=
  if i.kind < 1 ∨ 9 < i.kind then 1
  else if outI (regsN i.kind) (loI i.kind) (hiI i.kind m) i.a i.b i.n = true then 3
  else if keyedB i.kind = false ∧ i.key ≠ [] then 2
  else if (i.kind = 1 ∧ isIn d.reads i.key = false) ∨ (keyedB i.kind = true ∧ i.kind ≠ 1 ∧ isIn d.writes i.key = false) then 9 else 0

theorem pwrong_eq (d : Deed) (m : Int) (i : Ins) : pwrongIns d m i = wrongIns d m i := by
  unfold pwrongIns wrongIns
  by_cases h : i.kind < 1 ∨ 9 < i.kind
  · rw [if_pos h, if_pos h]
  rw [if_neg h, if_neg h]
  obtain ⟨kd, a, b, n, key⟩ := i
  dsimp only at h ⊢
  have hout : outI (regsN kd) (loI kd) (hiI kd m) a b n = insOut kd.toNat a b n m := by
    have hkd : kd = 1 ∨ kd = 2 ∨ kd = 3 ∨ kd = 4 ∨ kd = 5 ∨ kd = 6 ∨ kd = 7 ∨ kd = 8 ∨ kd = 9 := by omega
    unfold outI insOut
    rw [Bool.eq_iff_iff]
    simp only [Bool.or_eq_true, decide_eq_true_eq]
    rcases hkd with rfl | rfl | rfl | rfl | rfl | rfl | rfl | rfl | rfl
    · rw [show regsN 1 = 1 from rfl, show loI 1 = 0 from rfl, show hiI 1 m = 0 from rfl, show insA (Int.toNat 1) = 3 from rfl, show insB (Int.toNat 1) = 0 from rfl, show insLow (Int.toNat 1) = 0 from rfl, show insHigh (Int.toNat 1) m = 0 from rfl]
      omega
    · rw [show regsN 2 = 1 from rfl, show loI 2 = -1073741824 from rfl, show hiI 2 m = 1073741824 from rfl, show insA (Int.toNat 2) = 3 from rfl, show insB (Int.toNat 2) = 0 from rfl, show insLow (Int.toNat 2) = -1073741824 from rfl, show insHigh (Int.toNat 2) m = 1073741824 from rfl]
      omega
    · rw [show regsN 3 = 2 from rfl, show loI 3 = 0 from rfl, show hiI 3 m = 0 from rfl, show insA (Int.toNat 3) = 3 from rfl, show insB (Int.toNat 3) = 3 from rfl, show insLow (Int.toNat 3) = 0 from rfl, show insHigh (Int.toNat 3) m = 0 from rfl]
      omega
    · rw [show regsN 4 = 2 from rfl, show loI 4 = 0 from rfl, show hiI 4 m = 0 from rfl, show insA (Int.toNat 4) = 3 from rfl, show insB (Int.toNat 4) = 3 from rfl, show insLow (Int.toNat 4) = 0 from rfl, show insHigh (Int.toNat 4) m = 0 from rfl]
      omega
    · rw [show regsN 5 = 2 from rfl, show loI 5 = 0 from rfl, show hiI 5 m = 0 from rfl, show insA (Int.toNat 5) = 3 from rfl, show insB (Int.toNat 5) = 3 from rfl, show insLow (Int.toNat 5) = 0 from rfl, show insHigh (Int.toNat 5) m = 0 from rfl]
      omega
    · rw [show regsN 6 = 1 from rfl, show loI 6 = 0 from rfl, show hiI 6 m = 0 from rfl, show insA (Int.toNat 6) = 3 from rfl, show insB (Int.toNat 6) = 0 from rfl, show insLow (Int.toNat 6) = 0 from rfl, show insHigh (Int.toNat 6) m = 0 from rfl]
      omega
    · rw [show regsN 7 = 0 from rfl, show loI 7 = 0 from rfl, show hiI 7 m = 0 from rfl, show insA (Int.toNat 7) = 0 from rfl, show insB (Int.toNat 7) = 0 from rfl, show insLow (Int.toNat 7) = 0 from rfl, show insHigh (Int.toNat 7) m = 0 from rfl]
      omega
    · rw [show regsN 8 = 1 from rfl, show loI 8 = 1 from rfl, show hiI 8 m = m from rfl, show insA (Int.toNat 8) = 3 from rfl, show insB (Int.toNat 8) = 0 from rfl, show insLow (Int.toNat 8) = 1 from rfl, show insHigh (Int.toNat 8) m = m from rfl]
      omega
    · rw [show regsN 9 = 1 from rfl, show loI 9 = 0 from rfl, show hiI 9 m = 0 from rfl, show insA (Int.toNat 9) = 3 from rfl, show insB (Int.toNat 9) = 0 from rfl, show insLow (Int.toNat 9) = 0 from rfl, show insHigh (Int.toNat 9) m = 0 from rfl]
      omega
  rw [hout]
  split
  · rfl
  have hkd : kd = 1 ∨ kd = 2 ∨ kd = 3 ∨ kd = 4 ∨ kd = 5 ∨ kd = 6 ∨ kd = 7 ∨ kd = 8 ∨ kd = 9 := by omega
  have hk9 : has kd.toNat 107 = keyedB kd := by rcases hkd with rfl | rfl | rfl | rfl | rfl | rfl | rfl | rfl | rfl <;> decide
  rw [hk9]
  cases hkb : keyedB kd with
  | false =>
    have h1 : ¬ kd = 1 := fun e => by subst e; cases hkb
    by_cases hk0 : key = []
    · simp [hk0, h1]
    · simp [hk0]
  | true =>
    simp only [Bool.true_eq_false, false_and, if_false, true_and]
    by_cases h1 : kd = 1
    · simp only [h1, if_true, ne_eq, not_true_eq_false, false_and, or_false, true_and]
      cases isIn d.reads key <;> rfl
    · simp only [h1, if_false, false_and, ne_eq, not_false_eq_true, true_and, false_or]
      cases isIn d.writes key <;> rfl

theorem ok_regs (k : Int) : FnOk Tryz.prog 46 [.d (dint k)] (.one (dint (regsN k))) := by
  refine fnOk_of tbl_ok mixed_ok Tryz.func46 rfl (by kernel_rfl) rfl rfl fun w0 own0 => ?_
  unfold regsN
  by_cases h3 : k = 3
  · rw [if_pos (.inl h3)]
    repeat (first|((with_reducible apply s1); exact rfl)|(with_reducible first|apply CW.seq|apply CW.block|apply CW.region|apply CW.draw|apply CW.skip|apply CW.exit|apply CW.ret|apply q_then|apply q_then_exit|apply q_then_ret|apply q_block|apply q_block_ret|apply q_block_hit|apply q_ret|apply q_end|apply q_loop_exit|apply q_loop_ret|apply q_loopT_exit|apply q_loopT_ret|apply RW.nil)|((with_reducible apply s3); exact rfl; exact by_k)|((with_reducible apply s2); exact rfl; exact by_k)|((with_reducible apply s4); exact rfl)|((with_reducible apply s5); exact by_oa; exact by_g)|((with_reducible apply CW.cond_t); exact rfl; exact by_ks)|((with_reducible apply CW.cond_f); exact rfl; exact by_ks)|((with_reducible apply q_block_miss); exact rfl)|(refine And.intro (show chk [] [] _ _ = true by kernel_rfl) ?_))
    exact .one (.tmp rfl (.one (.d (.refl _))))
  by_cases h4 : k = 4
  · rw [if_pos (.inr (.inl h4))]
    repeat (first|((with_reducible apply s1); exact rfl)|(with_reducible first|apply CW.seq|apply CW.block|apply CW.region|apply CW.draw|apply CW.skip|apply CW.exit|apply CW.ret|apply q_then|apply q_then_exit|apply q_then_ret|apply q_block|apply q_block_ret|apply q_block_hit|apply q_ret|apply q_end|apply q_loop_exit|apply q_loop_ret|apply q_loopT_exit|apply q_loopT_ret|apply RW.nil)|((with_reducible apply s3); exact rfl; exact by_k)|((with_reducible apply s2); exact rfl; exact by_k)|((with_reducible apply s4); exact rfl)|((with_reducible apply s5); exact by_oa; exact by_g)|((with_reducible apply CW.cond_t); exact rfl; exact by_ks)|((with_reducible apply CW.cond_f); exact rfl; exact by_ks)|((with_reducible apply q_block_miss); exact rfl)|(refine And.intro (show chk [] [] _ _ = true by kernel_rfl) ?_))
    exact .one (.tmp rfl (.one (.d (.refl _))))
  by_cases h5 : k = 5
  · rw [if_pos (.inr (.inr h5))]
    repeat (first|((with_reducible apply s1); exact rfl)|(with_reducible first|apply CW.seq|apply CW.block|apply CW.region|apply CW.draw|apply CW.skip|apply CW.exit|apply CW.ret|apply q_then|apply q_then_exit|apply q_then_ret|apply q_block|apply q_block_ret|apply q_block_hit|apply q_ret|apply q_end|apply q_loop_exit|apply q_loop_ret|apply q_loopT_exit|apply q_loopT_ret|apply RW.nil)|((with_reducible apply s3); exact rfl; exact by_k)|((with_reducible apply s2); exact rfl; exact by_k)|((with_reducible apply s4); exact rfl)|((with_reducible apply s5); exact by_oa; exact by_g)|((with_reducible apply CW.cond_t); exact rfl; exact by_ks)|((with_reducible apply CW.cond_f); exact rfl; exact by_ks)|((with_reducible apply q_block_miss); exact rfl)|(refine And.intro (show chk [] [] _ _ = true by kernel_rfl) ?_))
    exact .one (.tmp rfl (.one (.d (.refl _))))
  rw [if_neg (by omega)]
  by_cases h7 : k = 7
  · rw [if_pos h7]
    repeat (first|((with_reducible apply s1); exact rfl)|(with_reducible first|apply CW.seq|apply CW.block|apply CW.region|apply CW.draw|apply CW.skip|apply CW.exit|apply CW.ret|apply q_then|apply q_then_exit|apply q_then_ret|apply q_block|apply q_block_ret|apply q_block_hit|apply q_ret|apply q_end|apply q_loop_exit|apply q_loop_ret|apply q_loopT_exit|apply q_loopT_ret|apply RW.nil)|((with_reducible apply s3); exact rfl; exact by_k)|((with_reducible apply s2); exact rfl; exact by_k)|((with_reducible apply s4); exact rfl)|((with_reducible apply s5); exact by_oa; exact by_g)|((with_reducible apply CW.cond_t); exact rfl; exact by_ks)|((with_reducible apply CW.cond_f); exact rfl; exact by_ks)|((with_reducible apply q_block_miss); exact rfl)|(refine And.intro (show chk [] [] _ _ = true by kernel_rfl) ?_))
    exact .one (.tmp rfl (.one (.d (.refl _))))
  · rw [if_neg h7]
    repeat (first|((with_reducible apply s1); exact rfl)|(with_reducible first|apply CW.seq|apply CW.block|apply CW.region|apply CW.draw|apply CW.skip|apply CW.exit|apply CW.ret|apply q_then|apply q_then_exit|apply q_then_ret|apply q_block|apply q_block_ret|apply q_block_hit|apply q_ret|apply q_end|apply q_loop_exit|apply q_loop_ret|apply q_loopT_exit|apply q_loopT_ret|apply RW.nil)|((with_reducible apply s3); exact rfl; exact by_k)|((with_reducible apply s2); exact rfl; exact by_k)|((with_reducible apply s4); exact rfl)|((with_reducible apply s5); exact by_oa; exact by_g)|((with_reducible apply CW.cond_t); exact rfl; exact by_ks)|((with_reducible apply CW.cond_f); exact rfl; exact by_ks)|((with_reducible apply q_block_miss); exact rfl)|(refine And.intro (show chk [] [] _ _ = true by kernel_rfl) ?_))
    exact .one (.tmp rfl (.one (.d (.refl _))))

theorem ok_instr (d : Deed) (i : Ins) (m : Int) (hr : d.reads.length ≤ 268435456) (hw : d.writes.length ≤ 268435456) :
    FnOk Tryz.prog 32 [.pd d.enc, .d (.agg i.enc), .d (dint m)] (.one (dint (wrongIns d m i))) := by
  refine fnOk_of tbl_ok mixed_ok Tryz.func32 rfl (by kernel_rfl) rfl rfl fun w0 own0 => ?_
  rw [← pwrong_eq]
  have cr := ok_regs i.kind
  have c1 := ok_containsS d.reads i.key (by omega)
  have c2 := ok_containsS d.writes i.key (by omega)
  repeat (first|(with_reducible apply stop_reg 1)|((with_reducible apply s1); exact rfl)|(with_reducible first|apply CW.seq|apply CW.block|apply CW.region|apply CW.draw|apply CW.skip|apply CW.exit|apply CW.ret|apply q_then|apply q_then_exit|apply q_then_ret|apply q_block|apply q_block_ret|apply q_block_hit|apply q_ret|apply q_end|apply q_loop_exit|apply q_loop_ret|apply q_loopT_exit|apply q_loopT_ret|apply RW.nil)|((with_reducible apply s3); exact rfl; exact by_k)|((with_reducible apply s2); exact rfl; exact by_k)|((with_reducible apply s4); exact rfl)|((with_reducible apply s5); exact by_oa; exact by_g)|((with_reducible apply CW.cond_t); exact rfl; exact by_ks)|((with_reducible apply CW.cond_f); exact rfl; exact by_ks)|((with_reducible apply q_block_miss); exact rfl)|(refine And.intro (show chk [] [] _ _ = true by kernel_rfl) ?_))
  refine Stop.cutk [sd 7 (dbool (keyedB i.kind))] [.s 0, .s 2, .s 4, .o 0, .nx] ?_ ?_
  · by_cases h1 : i.kind = 1
    · rw [show keyedB i.kind = true from decide_eq_true (.inl h1)]
      repeat (first|((with_reducible apply s1); exact rfl)|(with_reducible first|apply CW.seq|apply CW.block|apply CW.region|apply CW.draw|apply CW.skip|apply CW.exit|apply CW.ret|apply q_then|apply q_then_exit|apply q_then_ret|apply q_block|apply q_block_ret|apply q_block_hit|apply q_ret|apply q_end|apply q_loop_exit|apply q_loop_ret|apply q_loopT_exit|apply q_loopT_ret|apply RW.nil)|((with_reducible apply s3); exact rfl; exact by_k)|((with_reducible apply s2); exact rfl; exact by_k)|((with_reducible apply s4); exact rfl)|((with_reducible apply s5); exact by_oa; exact by_g)|((with_reducible apply CW.cond_t); exact rfl; exact by_ks)|((with_reducible apply CW.cond_f); exact rfl; exact by_ks)|((with_reducible apply q_block_miss); exact rfl)|(refine And.intro (show chk [] [] _ _ = true by kernel_rfl) ?_))
      refine q_cut ?_
      exact by_less
    by_cases h6 : i.kind = 6
    · rw [show keyedB i.kind = true from decide_eq_true (.inr (.inl h6))]
      repeat (first|((with_reducible apply s1); exact rfl)|(with_reducible first|apply CW.seq|apply CW.block|apply CW.region|apply CW.draw|apply CW.skip|apply CW.exit|apply CW.ret|apply q_then|apply q_then_exit|apply q_then_ret|apply q_block|apply q_block_ret|apply q_block_hit|apply q_ret|apply q_end|apply q_loop_exit|apply q_loop_ret|apply q_loopT_exit|apply q_loopT_ret|apply RW.nil)|((with_reducible apply s3); exact rfl; exact by_k)|((with_reducible apply s2); exact rfl; exact by_k)|((with_reducible apply s4); exact rfl)|((with_reducible apply s5); exact by_oa; exact by_g)|((with_reducible apply CW.cond_t); exact rfl; exact by_ks)|((with_reducible apply CW.cond_f); exact rfl; exact by_ks)|((with_reducible apply q_block_miss); exact rfl)|(refine And.intro (show chk [] [] _ _ = true by kernel_rfl) ?_))
      refine q_cut ?_
      exact by_less
    by_cases h7 : i.kind = 7
    · rw [show keyedB i.kind = true from decide_eq_true (.inr (.inr h7))]
      repeat (first|((with_reducible apply s1); exact rfl)|(with_reducible first|apply CW.seq|apply CW.block|apply CW.region|apply CW.draw|apply CW.skip|apply CW.exit|apply CW.ret|apply q_then|apply q_then_exit|apply q_then_ret|apply q_block|apply q_block_ret|apply q_block_hit|apply q_ret|apply q_end|apply q_loop_exit|apply q_loop_ret|apply q_loopT_exit|apply q_loopT_ret|apply RW.nil)|((with_reducible apply s3); exact rfl; exact by_k)|((with_reducible apply s2); exact rfl; exact by_k)|((with_reducible apply s4); exact rfl)|((with_reducible apply s5); exact by_oa; exact by_g)|((with_reducible apply CW.cond_t); exact rfl; exact by_ks)|((with_reducible apply CW.cond_f); exact rfl; exact by_ks)|((with_reducible apply q_block_miss); exact rfl)|(refine And.intro (show chk [] [] _ _ = true by kernel_rfl) ?_))
      refine q_cut ?_
      exact by_less
    · rw [show keyedB i.kind = false from decide_eq_false (by omega)]
      repeat (first|((with_reducible apply s1); exact rfl)|(with_reducible first|apply CW.seq|apply CW.block|apply CW.region|apply CW.draw|apply CW.skip|apply CW.exit|apply CW.ret|apply q_then|apply q_then_exit|apply q_then_ret|apply q_block|apply q_block_ret|apply q_block_hit|apply q_ret|apply q_end|apply q_loop_exit|apply q_loop_ret|apply q_loopT_exit|apply q_loopT_ret|apply RW.nil)|((with_reducible apply s3); exact rfl; exact by_k)|((with_reducible apply s2); exact rfl; exact by_k)|((with_reducible apply s4); exact rfl)|((with_reducible apply s5); exact by_oa; exact by_g)|((with_reducible apply CW.cond_t); exact rfl; exact by_ks)|((with_reducible apply CW.cond_f); exact rfl; exact by_ks)|((with_reducible apply q_block_miss); exact rfl)|(refine And.intro (show chk [] [] _ _ = true by kernel_rfl) ?_))
      refine q_cut ?_
      exact by_less
  repeat (first|((with_reducible apply stop_at 3); exact rfl)|((with_reducible apply s1); exact rfl)|(with_reducible first|apply CW.seq|apply CW.block|apply CW.region|apply CW.draw|apply CW.skip|apply CW.exit|apply CW.ret|apply q_then|apply q_then_exit|apply q_then_ret|apply q_block|apply q_block_ret|apply q_block_hit|apply q_ret|apply q_end|apply q_loop_exit|apply q_loop_ret|apply q_loopT_exit|apply q_loopT_ret|apply RW.nil)|((with_reducible apply s3); exact rfl; exact by_k)|((with_reducible apply s2); exact rfl; exact by_k)|((with_reducible apply s4); exact rfl)|((with_reducible apply s5); exact by_oa; exact by_g)|((with_reducible apply CW.cond_t); exact rfl; exact by_ks)|((with_reducible apply CW.cond_f); exact rfl; exact by_ks)|((with_reducible apply q_block_miss); exact rfl)|(refine And.intro (show chk [] [] _ _ = true by kernel_rfl) ?_))
  refine Stop.cutk [sd 8 (dint (loI i.kind)), sd 9 (dint (hiI i.kind m))] [.s 0, .s 4, .s 7, .o 0, .nx] ?_ ?_
  · by_cases h2 : i.kind = 2
    · rw [show loI i.kind = -1073741824 from if_pos h2, show hiI i.kind m = 1073741824 from if_pos h2]
      repeat (first|((with_reducible apply s1); exact rfl)|(with_reducible first|apply CW.seq|apply CW.block|apply CW.region|apply CW.draw|apply CW.skip|apply CW.exit|apply CW.ret|apply q_then|apply q_then_exit|apply q_then_ret|apply q_block|apply q_block_ret|apply q_block_hit|apply q_ret|apply q_end|apply q_loop_exit|apply q_loop_ret|apply q_loopT_exit|apply q_loopT_ret|apply RW.nil)|((with_reducible apply s3); exact rfl; exact by_k)|((with_reducible apply s2); exact rfl; exact by_k)|((with_reducible apply s4); exact rfl)|((with_reducible apply s5); exact by_oa; exact by_g)|((with_reducible apply CW.cond_t); exact rfl; exact by_ks)|((with_reducible apply CW.cond_f); exact rfl; exact by_ks)|((with_reducible apply q_block_miss); exact rfl)|(refine And.intro (show chk [] [] _ _ = true by kernel_rfl) ?_))
      refine q_cut ?_
      exact by_less
    by_cases h8 : i.kind = 8
    · rw [show loI i.kind = 1 by unfold loI; rw [if_neg h2, if_pos h8], show hiI i.kind m = m by unfold hiI; rw [if_neg h2, if_pos h8]]
      repeat (first|((with_reducible apply s1); exact rfl)|(with_reducible first|apply CW.seq|apply CW.block|apply CW.region|apply CW.draw|apply CW.skip|apply CW.exit|apply CW.ret|apply q_then|apply q_then_exit|apply q_then_ret|apply q_block|apply q_block_ret|apply q_block_hit|apply q_ret|apply q_end|apply q_loop_exit|apply q_loop_ret|apply q_loopT_exit|apply q_loopT_ret|apply RW.nil)|((with_reducible apply s3); exact rfl; exact by_k)|((with_reducible apply s2); exact rfl; exact by_k)|((with_reducible apply s4); exact rfl)|((with_reducible apply s5); exact by_oa; exact by_g)|((with_reducible apply CW.cond_t); exact rfl; exact by_ks)|((with_reducible apply CW.cond_f); exact rfl; exact by_ks)|((with_reducible apply q_block_miss); exact rfl)|(refine And.intro (show chk [] [] _ _ = true by kernel_rfl) ?_))
      refine q_cut ?_
      exact by_less
    · rw [show loI i.kind = 0 by unfold loI; rw [if_neg h2, if_neg h8], show hiI i.kind m = 0 by unfold hiI; rw [if_neg h2, if_neg h8]]
      repeat (first|((with_reducible apply s1); exact rfl)|(with_reducible first|apply CW.seq|apply CW.block|apply CW.region|apply CW.draw|apply CW.skip|apply CW.exit|apply CW.ret|apply q_then|apply q_then_exit|apply q_then_ret|apply q_block|apply q_block_ret|apply q_block_hit|apply q_ret|apply q_end|apply q_loop_exit|apply q_loop_ret|apply q_loopT_exit|apply q_loopT_ret|apply RW.nil)|((with_reducible apply s3); exact rfl; exact by_k)|((with_reducible apply s2); exact rfl; exact by_k)|((with_reducible apply s4); exact rfl)|((with_reducible apply s5); exact by_oa; exact by_g)|((with_reducible apply CW.cond_t); exact rfl; exact by_ks)|((with_reducible apply CW.cond_f); exact rfl; exact by_ks)|((with_reducible apply q_block_miss); exact rfl)|(refine And.intro (show chk [] [] _ _ = true by kernel_rfl) ?_))
      refine q_cut ?_
      exact by_less
  unfold pwrongIns
  generalize regsN i.kind = n at cr ⊢
  generalize loI i.kind = lo
  generalize hiI i.kind m = hi
  by_cases hk0 : i.kind < 1
  · rw [if_pos (.inl hk0)]
    repeat (first|((with_reducible apply s1); exact rfl)|(with_reducible first|apply CW.seq|apply CW.block|apply CW.region|apply CW.draw|apply CW.skip|apply CW.exit|apply CW.ret|apply q_then|apply q_then_exit|apply q_then_ret|apply q_block|apply q_block_ret|apply q_block_hit|apply q_ret|apply q_end|apply q_loop_exit|apply q_loop_ret|apply q_loopT_exit|apply q_loopT_ret|apply RW.nil)|((with_reducible apply s3); exact rfl; exact by_k)|((with_reducible apply s2); exact rfl; exact by_k)|((with_reducible apply s4); exact rfl)|((with_reducible apply s5); (first|exact a_call cr rfl by_sub|exact by_oa); exact by_g)|((with_reducible apply CW.cond_t); exact rfl; exact by_ks)|((with_reducible apply CW.cond_f); exact rfl; exact by_ks)|((with_reducible apply q_block_miss); exact rfl)|(refine And.intro (show chk [] [] _ _ = true by kernel_rfl) ?_))
    exact .one (.tmp rfl (.one (.d (.refl _))))
  by_cases hk9 : 9 < i.kind
  · rw [if_pos (.inr hk9)]
    repeat (first|((with_reducible apply s1); exact rfl)|(with_reducible first|apply CW.seq|apply CW.block|apply CW.region|apply CW.draw|apply CW.skip|apply CW.exit|apply CW.ret|apply q_then|apply q_then_exit|apply q_then_ret|apply q_block|apply q_block_ret|apply q_block_hit|apply q_ret|apply q_end|apply q_loop_exit|apply q_loop_ret|apply q_loopT_exit|apply q_loopT_ret|apply RW.nil)|((with_reducible apply s3); exact rfl; exact by_k)|((with_reducible apply s2); exact rfl; exact by_k)|((with_reducible apply s4); exact rfl)|((with_reducible apply s5); (first|exact a_call cr rfl by_sub|exact by_oa); exact by_g)|((with_reducible apply CW.cond_t); exact rfl; exact by_ks)|((with_reducible apply CW.cond_f); exact rfl; exact by_ks)|((with_reducible apply q_block_miss); exact rfl)|(refine And.intro (show chk [] [] _ _ = true by kernel_rfl) ?_))
    exact .one (.tmp rfl (.one (.d (.refl _))))
  rw [if_neg (by omega)]
  repeat (first|((with_reducible apply stop_at 11); exact rfl)|((with_reducible apply s1); exact rfl)|(with_reducible first|apply CW.seq|apply CW.block|apply CW.region|apply CW.draw|apply CW.skip|apply CW.exit|apply CW.ret|apply q_then|apply q_then_exit|apply q_then_ret|apply q_block|apply q_block_ret|apply q_block_hit|apply q_ret|apply q_end|apply q_loop_exit|apply q_loop_ret|apply q_loopT_exit|apply q_loopT_ret|apply RW.nil)|((with_reducible apply s3); exact rfl; exact by_k)|((with_reducible apply s2); exact rfl; exact by_k)|((with_reducible apply s4); exact rfl)|((with_reducible apply s5); (first|exact a_call cr rfl by_sub|exact by_oa); exact by_g)|((with_reducible apply CW.cond_t); exact rfl; exact by_ks)|((with_reducible apply CW.cond_f); exact rfl; exact by_ks)|((with_reducible apply q_block_miss); exact rfl)|(refine And.intro (show chk [] [] _ _ = true by kernel_rfl) ?_))
  refine Stop.cutk [sd 43 (dbool (outI n lo hi i.a i.b i.n))] [.s 0, .s 4, .s 7, .o 0, .nx] ?_ ?_
  · have T : (i.a < 0 ∨ 4 ≤ i.a ∨ (n < 1 ∧ i.a ≠ 0) ∨ i.b < 0 ∨ 4 ≤ i.b ∨ (n < 2 ∧ i.b ≠ 0) ∨ i.n < lo ∨ hi < i.n) → outI n lo hi i.a i.b i.n = true := fun h => decide_eq_true h
    have F : ¬ (i.a < 0 ∨ 4 ≤ i.a ∨ (n < 1 ∧ i.a ≠ 0) ∨ i.b < 0 ∨ 4 ≤ i.b ∨ (n < 2 ∧ i.b ≠ 0) ∨ i.n < lo ∨ hi < i.n) → outI n lo hi i.a i.b i.n = false := fun h => decide_eq_false h
    by_cases ha0 : i.a < 0
    · rw [T (by omega)]
      repeat (first|((with_reducible apply s1); exact rfl)|(with_reducible first|apply CW.seq|apply CW.block|apply CW.region|apply CW.draw|apply CW.skip|apply CW.exit|apply CW.ret|apply q_then|apply q_then_exit|apply q_then_ret|apply q_block|apply q_block_ret|apply q_block_hit|apply q_ret|apply q_end|apply q_loop_exit|apply q_loop_ret|apply q_loopT_exit|apply q_loopT_ret|apply RW.nil)|((with_reducible apply s3); exact rfl; exact by_k)|((with_reducible apply s2); exact rfl; exact by_k)|((with_reducible apply s4); exact rfl)|((with_reducible apply s5); exact by_oa; exact by_g)|((with_reducible apply CW.cond_t); exact rfl; exact by_ks)|((with_reducible apply CW.cond_f); exact rfl; exact by_ks)|((with_reducible apply q_block_miss); exact rfl)|(refine And.intro (show chk [] [] _ _ = true by kernel_rfl) ?_))
      refine q_cut ?_
      exact by_less
    by_cases ha4 : 4 ≤ i.a
    · rw [T (by omega)]
      repeat (first|((with_reducible apply s1); exact rfl)|(with_reducible first|apply CW.seq|apply CW.block|apply CW.region|apply CW.draw|apply CW.skip|apply CW.exit|apply CW.ret|apply q_then|apply q_then_exit|apply q_then_ret|apply q_block|apply q_block_ret|apply q_block_hit|apply q_ret|apply q_end|apply q_loop_exit|apply q_loop_ret|apply q_loopT_exit|apply q_loopT_ret|apply RW.nil)|((with_reducible apply s3); exact rfl; exact by_k)|((with_reducible apply s2); exact rfl; exact by_k)|((with_reducible apply s4); exact rfl)|((with_reducible apply s5); exact by_oa; exact by_g)|((with_reducible apply CW.cond_t); exact rfl; exact by_ks)|((with_reducible apply CW.cond_f); exact rfl; exact by_ks)|((with_reducible apply q_block_miss); exact rfl)|(refine And.intro (show chk [] [] _ _ = true by kernel_rfl) ?_))
      refine q_cut ?_
      exact by_less
    by_cases hn1 : n < 1
    · by_cases ha : i.a = 0
      · skip
        by_cases hb0 : i.b < 0
        · rw [T (by omega)]
          repeat (first|((with_reducible apply s1); exact rfl)|(with_reducible first|apply CW.seq|apply CW.block|apply CW.region|apply CW.draw|apply CW.skip|apply CW.exit|apply CW.ret|apply q_then|apply q_then_exit|apply q_then_ret|apply q_block|apply q_block_ret|apply q_block_hit|apply q_ret|apply q_end|apply q_loop_exit|apply q_loop_ret|apply q_loopT_exit|apply q_loopT_ret|apply RW.nil)|((with_reducible apply s3); exact rfl; exact by_k)|((with_reducible apply s2); exact rfl; exact by_k)|((with_reducible apply s4); exact rfl)|((with_reducible apply s5); exact by_oa; exact by_g)|((with_reducible apply CW.cond_t); exact rfl; exact by_ks)|((with_reducible apply CW.cond_f); exact rfl; exact by_ks)|((with_reducible apply q_block_miss); exact rfl)|(refine And.intro (show chk [] [] _ _ = true by kernel_rfl) ?_))
          refine q_cut ?_
          exact by_less
        by_cases hb4 : 4 ≤ i.b
        · rw [T (by omega)]
          repeat (first|((with_reducible apply s1); exact rfl)|(with_reducible first|apply CW.seq|apply CW.block|apply CW.region|apply CW.draw|apply CW.skip|apply CW.exit|apply CW.ret|apply q_then|apply q_then_exit|apply q_then_ret|apply q_block|apply q_block_ret|apply q_block_hit|apply q_ret|apply q_end|apply q_loop_exit|apply q_loop_ret|apply q_loopT_exit|apply q_loopT_ret|apply RW.nil)|((with_reducible apply s3); exact rfl; exact by_k)|((with_reducible apply s2); exact rfl; exact by_k)|((with_reducible apply s4); exact rfl)|((with_reducible apply s5); exact by_oa; exact by_g)|((with_reducible apply CW.cond_t); exact rfl; exact by_ks)|((with_reducible apply CW.cond_f); exact rfl; exact by_ks)|((with_reducible apply q_block_miss); exact rfl)|(refine And.intro (show chk [] [] _ _ = true by kernel_rfl) ?_))
          refine q_cut ?_
          exact by_less
        by_cases hn2 : n < 2
        · by_cases hb : i.b = 0
          · skip
            by_cases hx0 : i.n < lo
            · rw [T (by omega)]
              repeat (first|((with_reducible apply s1); exact rfl)|(with_reducible first|apply CW.seq|apply CW.block|apply CW.region|apply CW.draw|apply CW.skip|apply CW.exit|apply CW.ret|apply q_then|apply q_then_exit|apply q_then_ret|apply q_block|apply q_block_ret|apply q_block_hit|apply q_ret|apply q_end|apply q_loop_exit|apply q_loop_ret|apply q_loopT_exit|apply q_loopT_ret|apply RW.nil)|((with_reducible apply s3); exact rfl; exact by_k)|((with_reducible apply s2); exact rfl; exact by_k)|((with_reducible apply s4); exact rfl)|((with_reducible apply s5); exact by_oa; exact by_g)|((with_reducible apply CW.cond_t); exact rfl; exact by_ks)|((with_reducible apply CW.cond_f); exact rfl; exact by_ks)|((with_reducible apply q_block_miss); exact rfl)|(refine And.intro (show chk [] [] _ _ = true by kernel_rfl) ?_))
              refine q_cut ?_
              exact by_less
            by_cases hx1 : hi < i.n
            · rw [T (by omega)]
              repeat (first|((with_reducible apply s1); exact rfl)|(with_reducible first|apply CW.seq|apply CW.block|apply CW.region|apply CW.draw|apply CW.skip|apply CW.exit|apply CW.ret|apply q_then|apply q_then_exit|apply q_then_ret|apply q_block|apply q_block_ret|apply q_block_hit|apply q_ret|apply q_end|apply q_loop_exit|apply q_loop_ret|apply q_loopT_exit|apply q_loopT_ret|apply RW.nil)|((with_reducible apply s3); exact rfl; exact by_k)|((with_reducible apply s2); exact rfl; exact by_k)|((with_reducible apply s4); exact rfl)|((with_reducible apply s5); exact by_oa; exact by_g)|((with_reducible apply CW.cond_t); exact rfl; exact by_ks)|((with_reducible apply CW.cond_f); exact rfl; exact by_ks)|((with_reducible apply q_block_miss); exact rfl)|(refine And.intro (show chk [] [] _ _ = true by kernel_rfl) ?_))
              refine q_cut ?_
              exact by_less
            rw [F (by omega)]
            repeat (first|((with_reducible apply s1); exact rfl)|(with_reducible first|apply CW.seq|apply CW.block|apply CW.region|apply CW.draw|apply CW.skip|apply CW.exit|apply CW.ret|apply q_then|apply q_then_exit|apply q_then_ret|apply q_block|apply q_block_ret|apply q_block_hit|apply q_ret|apply q_end|apply q_loop_exit|apply q_loop_ret|apply q_loopT_exit|apply q_loopT_ret|apply RW.nil)|((with_reducible apply s3); exact rfl; exact by_k)|((with_reducible apply s2); exact rfl; exact by_k)|((with_reducible apply s4); exact rfl)|((with_reducible apply s5); exact by_oa; exact by_g)|((with_reducible apply CW.cond_t); exact rfl; exact by_ks)|((with_reducible apply CW.cond_f); exact rfl; exact by_ks)|((with_reducible apply q_block_miss); exact rfl)|(refine And.intro (show chk [] [] _ _ = true by kernel_rfl) ?_))
            refine q_cut ?_
            exact by_less
          · rw [T (by omega)]
            repeat (first|((with_reducible apply s1); exact rfl)|(with_reducible first|apply CW.seq|apply CW.block|apply CW.region|apply CW.draw|apply CW.skip|apply CW.exit|apply CW.ret|apply q_then|apply q_then_exit|apply q_then_ret|apply q_block|apply q_block_ret|apply q_block_hit|apply q_ret|apply q_end|apply q_loop_exit|apply q_loop_ret|apply q_loopT_exit|apply q_loopT_ret|apply RW.nil)|((with_reducible apply s3); exact rfl; exact by_k)|((with_reducible apply s2); exact rfl; exact by_k)|((with_reducible apply s4); exact rfl)|((with_reducible apply s5); exact by_oa; exact by_g)|((with_reducible apply CW.cond_t); exact rfl; exact by_ks)|((with_reducible apply CW.cond_f); exact rfl; exact by_ks)|((with_reducible apply q_block_miss); exact rfl)|(refine And.intro (show chk [] [] _ _ = true by kernel_rfl) ?_))
            refine q_cut ?_
            exact by_less
        by_cases hx0 : i.n < lo
        · rw [T (by omega)]
          repeat (first|((with_reducible apply s1); exact rfl)|(with_reducible first|apply CW.seq|apply CW.block|apply CW.region|apply CW.draw|apply CW.skip|apply CW.exit|apply CW.ret|apply q_then|apply q_then_exit|apply q_then_ret|apply q_block|apply q_block_ret|apply q_block_hit|apply q_ret|apply q_end|apply q_loop_exit|apply q_loop_ret|apply q_loopT_exit|apply q_loopT_ret|apply RW.nil)|((with_reducible apply s3); exact rfl; exact by_k)|((with_reducible apply s2); exact rfl; exact by_k)|((with_reducible apply s4); exact rfl)|((with_reducible apply s5); exact by_oa; exact by_g)|((with_reducible apply CW.cond_t); exact rfl; exact by_ks)|((with_reducible apply CW.cond_f); exact rfl; exact by_ks)|((with_reducible apply q_block_miss); exact rfl)|(refine And.intro (show chk [] [] _ _ = true by kernel_rfl) ?_))
          refine q_cut ?_
          exact by_less
        by_cases hx1 : hi < i.n
        · rw [T (by omega)]
          repeat (first|((with_reducible apply s1); exact rfl)|(with_reducible first|apply CW.seq|apply CW.block|apply CW.region|apply CW.draw|apply CW.skip|apply CW.exit|apply CW.ret|apply q_then|apply q_then_exit|apply q_then_ret|apply q_block|apply q_block_ret|apply q_block_hit|apply q_ret|apply q_end|apply q_loop_exit|apply q_loop_ret|apply q_loopT_exit|apply q_loopT_ret|apply RW.nil)|((with_reducible apply s3); exact rfl; exact by_k)|((with_reducible apply s2); exact rfl; exact by_k)|((with_reducible apply s4); exact rfl)|((with_reducible apply s5); exact by_oa; exact by_g)|((with_reducible apply CW.cond_t); exact rfl; exact by_ks)|((with_reducible apply CW.cond_f); exact rfl; exact by_ks)|((with_reducible apply q_block_miss); exact rfl)|(refine And.intro (show chk [] [] _ _ = true by kernel_rfl) ?_))
          refine q_cut ?_
          exact by_less
        rw [F (by omega)]
        repeat (first|((with_reducible apply s1); exact rfl)|(with_reducible first|apply CW.seq|apply CW.block|apply CW.region|apply CW.draw|apply CW.skip|apply CW.exit|apply CW.ret|apply q_then|apply q_then_exit|apply q_then_ret|apply q_block|apply q_block_ret|apply q_block_hit|apply q_ret|apply q_end|apply q_loop_exit|apply q_loop_ret|apply q_loopT_exit|apply q_loopT_ret|apply RW.nil)|((with_reducible apply s3); exact rfl; exact by_k)|((with_reducible apply s2); exact rfl; exact by_k)|((with_reducible apply s4); exact rfl)|((with_reducible apply s5); exact by_oa; exact by_g)|((with_reducible apply CW.cond_t); exact rfl; exact by_ks)|((with_reducible apply CW.cond_f); exact rfl; exact by_ks)|((with_reducible apply q_block_miss); exact rfl)|(refine And.intro (show chk [] [] _ _ = true by kernel_rfl) ?_))
        refine q_cut ?_
        exact by_less
      · rw [T (by omega)]
        repeat (first|((with_reducible apply s1); exact rfl)|(with_reducible first|apply CW.seq|apply CW.block|apply CW.region|apply CW.draw|apply CW.skip|apply CW.exit|apply CW.ret|apply q_then|apply q_then_exit|apply q_then_ret|apply q_block|apply q_block_ret|apply q_block_hit|apply q_ret|apply q_end|apply q_loop_exit|apply q_loop_ret|apply q_loopT_exit|apply q_loopT_ret|apply RW.nil)|((with_reducible apply s3); exact rfl; exact by_k)|((with_reducible apply s2); exact rfl; exact by_k)|((with_reducible apply s4); exact rfl)|((with_reducible apply s5); exact by_oa; exact by_g)|((with_reducible apply CW.cond_t); exact rfl; exact by_ks)|((with_reducible apply CW.cond_f); exact rfl; exact by_ks)|((with_reducible apply q_block_miss); exact rfl)|(refine And.intro (show chk [] [] _ _ = true by kernel_rfl) ?_))
        refine q_cut ?_
        exact by_less
    by_cases hb0 : i.b < 0
    · rw [T (by omega)]
      repeat (first|((with_reducible apply s1); exact rfl)|(with_reducible first|apply CW.seq|apply CW.block|apply CW.region|apply CW.draw|apply CW.skip|apply CW.exit|apply CW.ret|apply q_then|apply q_then_exit|apply q_then_ret|apply q_block|apply q_block_ret|apply q_block_hit|apply q_ret|apply q_end|apply q_loop_exit|apply q_loop_ret|apply q_loopT_exit|apply q_loopT_ret|apply RW.nil)|((with_reducible apply s3); exact rfl; exact by_k)|((with_reducible apply s2); exact rfl; exact by_k)|((with_reducible apply s4); exact rfl)|((with_reducible apply s5); exact by_oa; exact by_g)|((with_reducible apply CW.cond_t); exact rfl; exact by_ks)|((with_reducible apply CW.cond_f); exact rfl; exact by_ks)|((with_reducible apply q_block_miss); exact rfl)|(refine And.intro (show chk [] [] _ _ = true by kernel_rfl) ?_))
      refine q_cut ?_
      exact by_less
    by_cases hb4 : 4 ≤ i.b
    · rw [T (by omega)]
      repeat (first|((with_reducible apply s1); exact rfl)|(with_reducible first|apply CW.seq|apply CW.block|apply CW.region|apply CW.draw|apply CW.skip|apply CW.exit|apply CW.ret|apply q_then|apply q_then_exit|apply q_then_ret|apply q_block|apply q_block_ret|apply q_block_hit|apply q_ret|apply q_end|apply q_loop_exit|apply q_loop_ret|apply q_loopT_exit|apply q_loopT_ret|apply RW.nil)|((with_reducible apply s3); exact rfl; exact by_k)|((with_reducible apply s2); exact rfl; exact by_k)|((with_reducible apply s4); exact rfl)|((with_reducible apply s5); exact by_oa; exact by_g)|((with_reducible apply CW.cond_t); exact rfl; exact by_ks)|((with_reducible apply CW.cond_f); exact rfl; exact by_ks)|((with_reducible apply q_block_miss); exact rfl)|(refine And.intro (show chk [] [] _ _ = true by kernel_rfl) ?_))
      refine q_cut ?_
      exact by_less
    by_cases hn2 : n < 2
    · by_cases hb : i.b = 0
      · skip
        by_cases hx0 : i.n < lo
        · rw [T (by omega)]
          repeat (first|((with_reducible apply s1); exact rfl)|(with_reducible first|apply CW.seq|apply CW.block|apply CW.region|apply CW.draw|apply CW.skip|apply CW.exit|apply CW.ret|apply q_then|apply q_then_exit|apply q_then_ret|apply q_block|apply q_block_ret|apply q_block_hit|apply q_ret|apply q_end|apply q_loop_exit|apply q_loop_ret|apply q_loopT_exit|apply q_loopT_ret|apply RW.nil)|((with_reducible apply s3); exact rfl; exact by_k)|((with_reducible apply s2); exact rfl; exact by_k)|((with_reducible apply s4); exact rfl)|((with_reducible apply s5); exact by_oa; exact by_g)|((with_reducible apply CW.cond_t); exact rfl; exact by_ks)|((with_reducible apply CW.cond_f); exact rfl; exact by_ks)|((with_reducible apply q_block_miss); exact rfl)|(refine And.intro (show chk [] [] _ _ = true by kernel_rfl) ?_))
          refine q_cut ?_
          exact by_less
        by_cases hx1 : hi < i.n
        · rw [T (by omega)]
          repeat (first|((with_reducible apply s1); exact rfl)|(with_reducible first|apply CW.seq|apply CW.block|apply CW.region|apply CW.draw|apply CW.skip|apply CW.exit|apply CW.ret|apply q_then|apply q_then_exit|apply q_then_ret|apply q_block|apply q_block_ret|apply q_block_hit|apply q_ret|apply q_end|apply q_loop_exit|apply q_loop_ret|apply q_loopT_exit|apply q_loopT_ret|apply RW.nil)|((with_reducible apply s3); exact rfl; exact by_k)|((with_reducible apply s2); exact rfl; exact by_k)|((with_reducible apply s4); exact rfl)|((with_reducible apply s5); exact by_oa; exact by_g)|((with_reducible apply CW.cond_t); exact rfl; exact by_ks)|((with_reducible apply CW.cond_f); exact rfl; exact by_ks)|((with_reducible apply q_block_miss); exact rfl)|(refine And.intro (show chk [] [] _ _ = true by kernel_rfl) ?_))
          refine q_cut ?_
          exact by_less
        rw [F (by omega)]
        repeat (first|((with_reducible apply s1); exact rfl)|(with_reducible first|apply CW.seq|apply CW.block|apply CW.region|apply CW.draw|apply CW.skip|apply CW.exit|apply CW.ret|apply q_then|apply q_then_exit|apply q_then_ret|apply q_block|apply q_block_ret|apply q_block_hit|apply q_ret|apply q_end|apply q_loop_exit|apply q_loop_ret|apply q_loopT_exit|apply q_loopT_ret|apply RW.nil)|((with_reducible apply s3); exact rfl; exact by_k)|((with_reducible apply s2); exact rfl; exact by_k)|((with_reducible apply s4); exact rfl)|((with_reducible apply s5); exact by_oa; exact by_g)|((with_reducible apply CW.cond_t); exact rfl; exact by_ks)|((with_reducible apply CW.cond_f); exact rfl; exact by_ks)|((with_reducible apply q_block_miss); exact rfl)|(refine And.intro (show chk [] [] _ _ = true by kernel_rfl) ?_))
        refine q_cut ?_
        exact by_less
      · rw [T (by omega)]
        repeat (first|((with_reducible apply s1); exact rfl)|(with_reducible first|apply CW.seq|apply CW.block|apply CW.region|apply CW.draw|apply CW.skip|apply CW.exit|apply CW.ret|apply q_then|apply q_then_exit|apply q_then_ret|apply q_block|apply q_block_ret|apply q_block_hit|apply q_ret|apply q_end|apply q_loop_exit|apply q_loop_ret|apply q_loopT_exit|apply q_loopT_ret|apply RW.nil)|((with_reducible apply s3); exact rfl; exact by_k)|((with_reducible apply s2); exact rfl; exact by_k)|((with_reducible apply s4); exact rfl)|((with_reducible apply s5); exact by_oa; exact by_g)|((with_reducible apply CW.cond_t); exact rfl; exact by_ks)|((with_reducible apply CW.cond_f); exact rfl; exact by_ks)|((with_reducible apply q_block_miss); exact rfl)|(refine And.intro (show chk [] [] _ _ = true by kernel_rfl) ?_))
        refine q_cut ?_
        exact by_less
    by_cases hx0 : i.n < lo
    · rw [T (by omega)]
      repeat (first|((with_reducible apply s1); exact rfl)|(with_reducible first|apply CW.seq|apply CW.block|apply CW.region|apply CW.draw|apply CW.skip|apply CW.exit|apply CW.ret|apply q_then|apply q_then_exit|apply q_then_ret|apply q_block|apply q_block_ret|apply q_block_hit|apply q_ret|apply q_end|apply q_loop_exit|apply q_loop_ret|apply q_loopT_exit|apply q_loopT_ret|apply RW.nil)|((with_reducible apply s3); exact rfl; exact by_k)|((with_reducible apply s2); exact rfl; exact by_k)|((with_reducible apply s4); exact rfl)|((with_reducible apply s5); exact by_oa; exact by_g)|((with_reducible apply CW.cond_t); exact rfl; exact by_ks)|((with_reducible apply CW.cond_f); exact rfl; exact by_ks)|((with_reducible apply q_block_miss); exact rfl)|(refine And.intro (show chk [] [] _ _ = true by kernel_rfl) ?_))
      refine q_cut ?_
      exact by_less
    by_cases hx1 : hi < i.n
    · rw [T (by omega)]
      repeat (first|((with_reducible apply s1); exact rfl)|(with_reducible first|apply CW.seq|apply CW.block|apply CW.region|apply CW.draw|apply CW.skip|apply CW.exit|apply CW.ret|apply q_then|apply q_then_exit|apply q_then_ret|apply q_block|apply q_block_ret|apply q_block_hit|apply q_ret|apply q_end|apply q_loop_exit|apply q_loop_ret|apply q_loopT_exit|apply q_loopT_ret|apply RW.nil)|((with_reducible apply s3); exact rfl; exact by_k)|((with_reducible apply s2); exact rfl; exact by_k)|((with_reducible apply s4); exact rfl)|((with_reducible apply s5); exact by_oa; exact by_g)|((with_reducible apply CW.cond_t); exact rfl; exact by_ks)|((with_reducible apply CW.cond_f); exact rfl; exact by_ks)|((with_reducible apply q_block_miss); exact rfl)|(refine And.intro (show chk [] [] _ _ = true by kernel_rfl) ?_))
      refine q_cut ?_
      exact by_less
    rw [F (by omega)]
    repeat (first|((with_reducible apply s1); exact rfl)|(with_reducible first|apply CW.seq|apply CW.block|apply CW.region|apply CW.draw|apply CW.skip|apply CW.exit|apply CW.ret|apply q_then|apply q_then_exit|apply q_then_ret|apply q_block|apply q_block_ret|apply q_block_hit|apply q_ret|apply q_end|apply q_loop_exit|apply q_loop_ret|apply q_loopT_exit|apply q_loopT_ret|apply RW.nil)|((with_reducible apply s3); exact rfl; exact by_k)|((with_reducible apply s2); exact rfl; exact by_k)|((with_reducible apply s4); exact rfl)|((with_reducible apply s5); exact by_oa; exact by_g)|((with_reducible apply CW.cond_t); exact rfl; exact by_ks)|((with_reducible apply CW.cond_f); exact rfl; exact by_ks)|((with_reducible apply q_block_miss); exact rfl)|(refine And.intro (show chk [] [] _ _ = true by kernel_rfl) ?_))
    refine q_cut ?_
    exact by_less
  cases ho : outI n lo hi i.a i.b i.n with
  | true =>
    rw [if_pos rfl]
    repeat (first|((with_reducible apply s1); exact rfl)|(with_reducible first|apply CW.seq|apply CW.block|apply CW.region|apply CW.draw|apply CW.skip|apply CW.exit|apply CW.ret|apply q_then|apply q_then_exit|apply q_then_ret|apply q_block|apply q_block_ret|apply q_block_hit|apply q_ret|apply q_end|apply q_loop_exit|apply q_loop_ret|apply q_loopT_exit|apply q_loopT_ret|apply RW.nil)|((with_reducible apply s3); exact rfl; exact by_k)|((with_reducible apply s2); exact rfl; exact by_k)|((with_reducible apply s4); exact rfl)|((with_reducible apply s5); exact by_oa; exact by_g)|((with_reducible apply CW.cond_t); exact rfl; exact by_ks)|((with_reducible apply CW.cond_f); exact rfl; exact by_ks)|((with_reducible apply q_block_miss); exact rfl)|(refine And.intro (show chk [] [] _ _ = true by kernel_rfl) ?_))
    exact .one (.tmp rfl (.one (.d (.refl _))))
  | false =>
    rw [if_neg (by simp)]
    by_cases hkey : i.key = []
    · rw [if_neg (fun h => h.2 hkey)]
      by_cases h1 : i.kind = 1
      · have hk1 : keyedB i.kind = true := decide_eq_true (.inl h1)
        rw [hk1]
        cases hin : isIn d.reads i.key with
        | false =>
          rw [if_pos (.inl ⟨h1, rfl⟩)]
          rw [hin] at c1
          repeat (first|((with_reducible apply s1); exact rfl)|(with_reducible first|apply CW.seq|apply CW.block|apply CW.region|apply CW.draw|apply CW.skip|apply CW.exit|apply CW.ret|apply q_then|apply q_then_exit|apply q_then_ret|apply q_block|apply q_block_ret|apply q_block_hit|apply q_ret|apply q_end|apply q_loop_exit|apply q_loop_ret|apply q_loopT_exit|apply q_loopT_ret|apply RW.nil)|((with_reducible apply s3); exact rfl; exact by_k)|((with_reducible apply s2); exact rfl; exact by_k)|((with_reducible apply s4); exact rfl)|((with_reducible apply s5); (first|exact a_call c1 rfl by_sub|((with_reducible apply a_nilpd); (iterate 2 exact rfl))|exact by_oa); exact by_g)|((with_reducible apply CW.cond_t); exact rfl; exact by_ks)|((with_reducible apply CW.cond_f); exact rfl; exact by_ks)|((with_reducible apply q_block_miss); exact rfl)|(refine And.intro (show chk [] [] _ _ = true by kernel_rfl) ?_))
          exact .one (.tmp rfl (.one (.d (.refl _))))
        | true =>
          rw [if_neg (by simp [h1])]
          rw [hin] at c1
          repeat (first|((with_reducible apply s1); exact rfl)|(with_reducible first|apply CW.seq|apply CW.block|apply CW.region|apply CW.draw|apply CW.skip|apply CW.exit|apply CW.ret|apply q_then|apply q_then_exit|apply q_then_ret|apply q_block|apply q_block_ret|apply q_block_hit|apply q_ret|apply q_end|apply q_loop_exit|apply q_loop_ret|apply q_loopT_exit|apply q_loopT_ret|apply RW.nil)|((with_reducible apply s3); exact rfl; exact by_k)|((with_reducible apply s2); exact rfl; exact by_k)|((with_reducible apply s4); exact rfl)|((with_reducible apply s5); (first|exact a_call c1 rfl by_sub|((with_reducible apply a_nilpd); (iterate 2 exact rfl))|exact by_oa); exact by_g)|((with_reducible apply CW.cond_t); exact rfl; exact by_ks)|((with_reducible apply CW.cond_f); exact rfl; exact by_ks)|((with_reducible apply q_block_miss); exact rfl)|(refine And.intro (show chk [] [] _ _ = true by kernel_rfl) ?_))
          exact .one (.tmp rfl (.one (.d (.refl _))))
      · cases hkb : keyedB i.kind with
        | false =>
          rw [if_neg (by simp [h1])]
          repeat (first|((with_reducible apply s1); exact rfl)|(with_reducible first|apply CW.seq|apply CW.block|apply CW.region|apply CW.draw|apply CW.skip|apply CW.exit|apply CW.ret|apply q_then|apply q_then_exit|apply q_then_ret|apply q_block|apply q_block_ret|apply q_block_hit|apply q_ret|apply q_end|apply q_loop_exit|apply q_loop_ret|apply q_loopT_exit|apply q_loopT_ret|apply RW.nil)|((with_reducible apply s3); exact rfl; exact by_k)|((with_reducible apply s2); exact rfl; exact by_k)|((with_reducible apply s4); exact rfl)|((with_reducible apply s5); exact by_oa; exact by_g)|((with_reducible apply CW.cond_t); exact rfl; exact by_ks)|((with_reducible apply CW.cond_f); exact rfl; exact by_ks)|((with_reducible apply q_block_miss); exact rfl)|(refine And.intro (show chk [] [] _ _ = true by kernel_rfl) ?_))
          exact .one (.tmp rfl (.one (.d (.refl _))))
        | true =>
          cases hin : isIn d.writes i.key with
          | false =>
            rw [if_pos (.inr ⟨rfl, h1, rfl⟩)]
            rw [hin] at c2
            repeat (first|((with_reducible apply s1); exact rfl)|(with_reducible first|apply CW.seq|apply CW.block|apply CW.region|apply CW.draw|apply CW.skip|apply CW.exit|apply CW.ret|apply q_then|apply q_then_exit|apply q_then_ret|apply q_block|apply q_block_ret|apply q_block_hit|apply q_ret|apply q_end|apply q_loop_exit|apply q_loop_ret|apply q_loopT_exit|apply q_loopT_ret|apply RW.nil)|((with_reducible apply s3); exact rfl; exact by_k)|((with_reducible apply s2); exact rfl; exact by_k)|((with_reducible apply s4); exact rfl)|((with_reducible apply s5); (first|exact a_call c2 rfl by_sub|((with_reducible apply a_nilpd); (iterate 2 exact rfl))|exact by_oa); exact by_g)|((with_reducible apply CW.cond_t); exact rfl; exact by_ks)|((with_reducible apply CW.cond_f); exact rfl; exact by_ks)|((with_reducible apply q_block_miss); exact rfl)|(refine And.intro (show chk [] [] _ _ = true by kernel_rfl) ?_))
            exact .one (.tmp rfl (.one (.d (.refl _))))
          | true =>
            rw [if_neg (by simp [h1])]
            rw [hin] at c2
            repeat (first|((with_reducible apply s1); exact rfl)|(with_reducible first|apply CW.seq|apply CW.block|apply CW.region|apply CW.draw|apply CW.skip|apply CW.exit|apply CW.ret|apply q_then|apply q_then_exit|apply q_then_ret|apply q_block|apply q_block_ret|apply q_block_hit|apply q_ret|apply q_end|apply q_loop_exit|apply q_loop_ret|apply q_loopT_exit|apply q_loopT_ret|apply RW.nil)|((with_reducible apply s3); exact rfl; exact by_k)|((with_reducible apply s2); exact rfl; exact by_k)|((with_reducible apply s4); exact rfl)|((with_reducible apply s5); (first|exact a_call c2 rfl by_sub|((with_reducible apply a_nilpd); (iterate 2 exact rfl))|exact by_oa); exact by_g)|((with_reducible apply CW.cond_t); exact rfl; exact by_ks)|((with_reducible apply CW.cond_f); exact rfl; exact by_ks)|((with_reducible apply q_block_miss); exact rfl)|(refine And.intro (show chk [] [] _ _ = true by kernel_rfl) ?_))
            exact .one (.tmp rfl (.one (.d (.refl _))))
    · by_cases h1 : i.kind = 1
      · have hk1 : keyedB i.kind = true := decide_eq_true (.inl h1)
        rw [hk1, if_neg (by simp)]
        cases hin : isIn d.reads i.key with
        | false =>
          rw [if_pos (.inl ⟨h1, rfl⟩)]
          rw [hin] at c1
          repeat (first|((with_reducible apply s1); exact rfl)|(with_reducible first|apply CW.seq|apply CW.block|apply CW.region|apply CW.draw|apply CW.skip|apply CW.exit|apply CW.ret|apply q_then|apply q_then_exit|apply q_then_ret|apply q_block|apply q_block_ret|apply q_block_hit|apply q_ret|apply q_end|apply q_loop_exit|apply q_loop_ret|apply q_loopT_exit|apply q_loopT_ret|apply RW.nil)|((with_reducible apply s3); exact rfl; exact by_k)|((with_reducible apply s2); exact rfl; exact by_k)|((with_reducible apply s4); exact rfl)|((with_reducible apply s5); (first|exact a_call c1 rfl by_sub|((with_reducible apply a_nilpd); (iterate 2 exact rfl))|exact by_oa); exact by_g)|((with_reducible apply CW.cond_t); exact rfl; exact by_ks)|((with_reducible apply CW.cond_f); exact rfl; exact by_ks)|((with_reducible apply q_block_miss); exact rfl)|(refine And.intro (show chk [] [] _ _ = true by kernel_rfl) ?_))
          exact .one (.tmp rfl (.one (.d (.refl _))))
        | true =>
          rw [if_neg (by simp [h1])]
          rw [hin] at c1
          repeat (first|((with_reducible apply s1); exact rfl)|(with_reducible first|apply CW.seq|apply CW.block|apply CW.region|apply CW.draw|apply CW.skip|apply CW.exit|apply CW.ret|apply q_then|apply q_then_exit|apply q_then_ret|apply q_block|apply q_block_ret|apply q_block_hit|apply q_ret|apply q_end|apply q_loop_exit|apply q_loop_ret|apply q_loopT_exit|apply q_loopT_ret|apply RW.nil)|((with_reducible apply s3); exact rfl; exact by_k)|((with_reducible apply s2); exact rfl; exact by_k)|((with_reducible apply s4); exact rfl)|((with_reducible apply s5); (first|exact a_call c1 rfl by_sub|((with_reducible apply a_nilpd); (iterate 2 exact rfl))|exact by_oa); exact by_g)|((with_reducible apply CW.cond_t); exact rfl; exact by_ks)|((with_reducible apply CW.cond_f); exact rfl; exact by_ks)|((with_reducible apply q_block_miss); exact rfl)|(refine And.intro (show chk [] [] _ _ = true by kernel_rfl) ?_))
          exact .one (.tmp rfl (.one (.d (.refl _))))
      · cases hkb : keyedB i.kind with
        | false =>
          rw [if_pos ⟨rfl, hkey⟩]
          repeat (first|((with_reducible apply s1); exact rfl)|(with_reducible first|apply CW.seq|apply CW.block|apply CW.region|apply CW.draw|apply CW.skip|apply CW.exit|apply CW.ret|apply q_then|apply q_then_exit|apply q_then_ret|apply q_block|apply q_block_ret|apply q_block_hit|apply q_ret|apply q_end|apply q_loop_exit|apply q_loop_ret|apply q_loopT_exit|apply q_loopT_ret|apply RW.nil)|((with_reducible apply s3); exact rfl; exact by_k)|((with_reducible apply s2); exact rfl; exact by_k)|((with_reducible apply s4); exact rfl)|((with_reducible apply s5); exact by_oa; exact by_g)|((with_reducible apply CW.cond_t); exact rfl; exact by_ks)|((with_reducible apply CW.cond_f); exact rfl; exact by_ks)|((with_reducible apply q_block_miss); exact rfl)|(refine And.intro (show chk [] [] _ _ = true by kernel_rfl) ?_))
          exact .one (.tmp rfl (.one (.d (.refl _))))
        | true =>
          rw [if_neg (by simp)]
          cases hin : isIn d.writes i.key with
          | false =>
            rw [if_pos (.inr ⟨rfl, h1, rfl⟩)]
            rw [hin] at c2
            repeat (first|((with_reducible apply s1); exact rfl)|(with_reducible first|apply CW.seq|apply CW.block|apply CW.region|apply CW.draw|apply CW.skip|apply CW.exit|apply CW.ret|apply q_then|apply q_then_exit|apply q_then_ret|apply q_block|apply q_block_ret|apply q_block_hit|apply q_ret|apply q_end|apply q_loop_exit|apply q_loop_ret|apply q_loopT_exit|apply q_loopT_ret|apply RW.nil)|((with_reducible apply s3); exact rfl; exact by_k)|((with_reducible apply s2); exact rfl; exact by_k)|((with_reducible apply s4); exact rfl)|((with_reducible apply s5); (first|exact a_call c2 rfl by_sub|((with_reducible apply a_nilpd); (iterate 2 exact rfl))|exact by_oa); exact by_g)|((with_reducible apply CW.cond_t); exact rfl; exact by_ks)|((with_reducible apply CW.cond_f); exact rfl; exact by_ks)|((with_reducible apply q_block_miss); exact rfl)|(refine And.intro (show chk [] [] _ _ = true by kernel_rfl) ?_))
            exact .one (.tmp rfl (.one (.d (.refl _))))
          | true =>
            rw [if_neg (by simp [h1])]
            rw [hin] at c2
            repeat (first|((with_reducible apply s1); exact rfl)|(with_reducible first|apply CW.seq|apply CW.block|apply CW.region|apply CW.draw|apply CW.skip|apply CW.exit|apply CW.ret|apply q_then|apply q_then_exit|apply q_then_ret|apply q_block|apply q_block_ret|apply q_block_hit|apply q_ret|apply q_end|apply q_loop_exit|apply q_loop_ret|apply q_loopT_exit|apply q_loopT_ret|apply RW.nil)|((with_reducible apply s3); exact rfl; exact by_k)|((with_reducible apply s2); exact rfl; exact by_k)|((with_reducible apply s4); exact rfl)|((with_reducible apply s5); (first|exact a_call c2 rfl by_sub|((with_reducible apply a_nilpd); (iterate 2 exact rfl))|exact by_oa); exact by_g)|((with_reducible apply CW.cond_t); exact rfl; exact by_ks)|((with_reducible apply CW.cond_f); exact rfl; exact by_ks)|((with_reducible apply q_block_miss); exact rfl)|(refine And.intro (show chk [] [] _ _ = true by kernel_rfl) ?_))
            exact .one (.tmp rfl (.one (.d (.refl _))))

theorem ok_dkeys (l : List Str) (hl : l.length ≤ 268435456) (hk : ∀ s ∈ l, s.length ≤ 1073741824) : FnOk Tryz.prog 31 [.d (encStrs l)] (.one (dint (keysWrong l))) := by
  refine fnOk_of tbl_ok mixed_ok Tryz.func31 rfl (by kernel_rfl) rfl rfl fun w0 own0 => ?_
  unfold keysWrong
  by_cases h4 : 5 < l.length
  · rw [if_pos h4]
    repeat (first|((with_reducible apply s1); exact rfl)|(with_reducible first|apply CW.seq|apply CW.block|apply CW.region|apply CW.draw|apply CW.skip|apply CW.exit|apply CW.ret|apply q_then|apply q_then_exit|apply q_then_ret|apply q_block|apply q_block_ret|apply q_block_hit|apply q_ret|apply q_end|apply q_loop_exit|apply q_loop_ret|apply q_loopT_exit|apply q_loopT_ret|apply RW.nil)|((with_reducible apply s3); exact rfl; exact by_k)|((with_reducible apply s2); exact rfl; exact by_k)|((with_reducible apply s4); exact rfl)|((with_reducible apply s5); exact by_oa; exact by_g)|((with_reducible apply CW.cond_t); exact rfl; exact by_ks)|((with_reducible apply CW.cond_f); exact rfl; exact by_ks)|((with_reducible apply q_block_miss); exact rfl)|(refine And.intro (show chk [] [] _ _ = true by kernel_rfl) ?_))
    exact .one (.tmp rfl (.one (.d (.refl _))))
  · rw [if_neg h4]
    repeat (first|((with_reducible apply s1); exact rfl)|(with_reducible first|apply CW.seq|apply CW.block|apply CW.region|apply CW.draw|apply CW.skip|apply CW.exit|apply CW.ret|apply q_then|apply q_then_exit|apply q_then_ret|apply q_block|apply q_block_ret|apply q_block_hit|apply q_ret|apply q_end|apply q_loop_exit|apply q_loop_ret|apply q_loopT_exit|apply q_loopT_ret|apply RW.nil)|((with_reducible apply s3); exact rfl; exact by_k)|((with_reducible apply s2); exact rfl; exact by_k)|((with_reducible apply s4); exact rfl)|((with_reducible apply s5); exact by_oa; exact by_g)|((with_reducible apply CW.cond_t); exact rfl; exact by_ks)|((with_reducible apply CW.cond_f); exact rfl; exact by_ks)|((with_reducible apply q_block_miss); exact rfl)|(refine And.intro (show chk [] [] _ _ = true by kernel_rfl) ?_))
    refine CW.loopT (fun t : Nat => [sd 0 (encStrs l), sd 2 (dint 0), sd 8 (encStrs l), sd 9 (dint l.length), sd 10 (dint t), nxt 0])
      (fun t => t ≤ l.length ∧ keysGo l t (l.drop t) = keysGo l 0 l) (fun t => l.length - t) 0 ⟨by omega, rfl⟩ ?_ ?_
    ·
      exact by_less
    · rintro i ⟨hi, hJ⟩
      rcases drop_case hi with ⟨h5, h6⟩ | ⟨k, h5, h6, h7⟩
      · rw [h5, keysGo] at hJ
        repeat (first|((with_reducible apply s1); exact rfl)|(with_reducible first|apply CW.seq|apply CW.block|apply CW.region|apply CW.draw|apply CW.skip|apply CW.exit|apply CW.ret|apply q_then|apply q_then_exit|apply q_then_ret|apply q_block|apply q_block_ret|apply q_block_hit|apply q_ret|apply q_end|apply q_loop_exit|apply q_loop_ret|apply q_loopT_exit|apply q_loopT_ret|apply RW.nil)|((with_reducible apply s3); exact rfl; exact by_k)|((with_reducible apply s2); exact rfl; exact by_k)|((with_reducible apply s4); exact rfl)|((with_reducible apply s5); exact by_oa; exact by_g)|((with_reducible apply CW.cond_t); exact rfl; exact by_ks)|((with_reducible apply CW.cond_f); exact rfl; exact by_ks)|((with_reducible apply q_block_miss); exact rfl)|(refine And.intro (show chk [] [] _ _ = true by kernel_rfl) ?_))
        rw [← hJ]
        exact .one (.tmp rfl (.one (.d (.refl _))))
      · rw [h5, keysGo] at hJ
        have hck := ok_pkey k (hk k (List.mem_of_getElem? h6))
        have hin : FnOk Tryz.prog 45 [.d (.sl 1 ((l.map encStr1).take i)), .d (dstr k)] (.one (dbool (isIn (l.take i) k))) := by
          rw [← List.map_take]
          exact ok_containsS (l.take i) k (by rw [List.length_take]; omega)
        cases h8 : key k with
        | false =>
          rw [h8] at hck
          rw [if_pos h8] at hJ
          repeat (first|((with_reducible apply s1); exact rfl)|(with_reducible first|apply CW.seq|apply CW.block|apply CW.region|apply CW.draw|apply CW.skip|apply CW.exit|apply CW.ret|apply q_then|apply q_then_exit|apply q_then_ret|apply q_block|apply q_block_ret|apply q_block_hit|apply q_ret|apply q_end|apply q_loop_exit|apply q_loop_ret|apply q_loopT_exit|apply q_loopT_ret|apply RW.nil)|((with_reducible apply s3); exact rfl; exact by_k)|((with_reducible apply s2); exact rfl; exact by_k)|((with_reducible apply s4); exact rfl)|((with_reducible apply s5); (first|exact a_call hck rfl by_sub|exact by_oa); exact by_g)|((with_reducible apply CW.cond_t); exact rfl; exact by_ks)|((with_reducible apply CW.cond_f); exact rfl; exact by_ks)|((with_reducible apply q_block_miss); exact rfl)|(refine And.intro (show chk [] [] _ _ = true by kernel_rfl) ?_))
          rw [← hJ]
          exact .one (.tmp rfl (.one (.d (.refl _))))
        | true =>
          rw [h8] at hck
          rw [if_neg (by simp [h8])] at hJ
          cases h9 : isIn (l.take i) k with
          | false =>
            rw [h9] at hin
            rw [if_neg (by simp [h9])] at hJ
            repeat (first|((with_reducible apply s1); exact rfl)|(with_reducible first|apply CW.seq|apply CW.block|apply CW.region|apply CW.draw|apply CW.skip|apply CW.exit|apply CW.ret|apply q_then|apply q_then_exit|apply q_then_ret|apply q_block|apply q_block_ret|apply q_block_hit|apply q_ret|apply q_end|apply q_loop_exit|apply q_loop_ret|apply q_loopT_exit|apply q_loopT_ret|apply RW.nil)|((with_reducible apply s3); exact rfl; exact by_k)|((with_reducible apply s2); exact rfl; exact by_k)|((with_reducible apply s4); exact rfl)|((with_reducible apply s5); (first|exact a_call hck rfl by_sub|exact a_call hin rfl by_sub|exact by_oa); exact by_g)|((with_reducible apply CW.cond_t); exact rfl; exact by_ks)|((with_reducible apply CW.cond_f); exact rfl; exact by_ks)|((with_reducible apply q_block_miss); exact rfl)|(refine And.intro (show chk [] [] _ _ = true by kernel_rfl) ?_))
            refine q_loopT (i + 1) ⟨by omega, hJ⟩ (by omega) ?_
            exact by_less
          | true =>
            rw [h9] at hin
            rw [if_pos h9] at hJ
            repeat (first|((with_reducible apply s1); exact rfl)|(with_reducible first|apply CW.seq|apply CW.block|apply CW.region|apply CW.draw|apply CW.skip|apply CW.exit|apply CW.ret|apply q_then|apply q_then_exit|apply q_then_ret|apply q_block|apply q_block_ret|apply q_block_hit|apply q_ret|apply q_end|apply q_loop_exit|apply q_loop_ret|apply q_loopT_exit|apply q_loopT_ret|apply RW.nil)|((with_reducible apply s3); exact rfl; exact by_k)|((with_reducible apply s2); exact rfl; exact by_k)|((with_reducible apply s4); exact rfl)|((with_reducible apply s5); (first|exact a_call hck rfl by_sub|exact a_call hin rfl by_sub|exact by_oa); exact by_g)|((with_reducible apply CW.cond_t); exact rfl; exact by_ks)|((with_reducible apply CW.cond_f); exact rfl; exact by_ks)|((with_reducible apply q_block_miss); exact rfl)|(refine And.intro (show chk [] [] _ _ = true by kernel_rfl) ?_))
            rw [← hJ]
            exact .one (.tmp rfl (.one (.d (.refl _))))

end Go.Proofs.YtfaaghkgfbhglaaGreatDoor

/-! G21 -/
/-
  Contract of the program's Wrong of deeds.
-/
namespace Go.Proofs.YtfaaghkgfbhglaaGreatDoor
open Go.AX Go.RF

set_option maxRecDepth 100000
set_option maxHeartbeats 8000000

theorem ok_pwrongDeed (d : Deed) (hs : d.Sm) : FnOk Tryz.prog 12 [.d (.agg d.enc)] (.one (dint (wrongDeed d))) := by
  refine fnOk_of tbl_ok mixed_ok Tryz.func12 rfl (by kernel_rfl) rfl rfl fun w0 own0 => ?_
  have hc := hs.c
  repeat (first|((with_reducible apply s5); ((with_reducible apply a_bs ([d.reads, d.writes].map fun l => [encStrs l])); (iterate 9 exact rfl); (repeat (first | exact PartsE.nil | (apply PartsE.cons; exact rfl; exact rfl)))); exact by_g)|((with_reducible apply s1); exact rfl)|(with_reducible first|apply CW.seq|apply CW.block|apply CW.region|apply CW.draw|apply CW.skip|apply CW.exit|apply CW.ret|apply q_then|apply q_then_exit|apply q_then_ret|apply q_block|apply q_block_ret|apply q_block_hit|apply q_ret|apply q_end|apply q_loop_exit|apply q_loop_ret|apply q_loopT_exit|apply q_loopT_ret|apply RW.nil)|((with_reducible apply s3); exact rfl; exact by_k)|((with_reducible apply s2); exact rfl; exact by_k)|((with_reducible apply s4); exact rfl)|((with_reducible apply s5); exact by_oa; exact by_g)|((with_reducible apply CW.cond_t); exact rfl; exact by_ks)|((with_reducible apply CW.cond_f); exact rfl; exact by_ks)|((with_reducible apply q_block_miss); exact rfl)|(refine And.intro (show chk [] [] _ _ = true by kernel_rfl) ?_))
  refine CW.loopT (fun j : Nat => [sp 1 0, ob 0 d.enc, sd 2 (dint 0), sd 13 (.sl 1 ([d.reads, d.writes].map fun l => [encStrs l])), sd 14 (dint 2), sd 15 (dint j), nxt 1])
    (fun j => j ≤ [d.reads, d.writes].length ∧ lsGo ([d.reads, d.writes].drop j) = lsGo [d.reads, d.writes]) (fun j => 2 - j) 0 ⟨by simp, rfl⟩ ?_ ?_
  ·
    exact by_less
  · rintro j ⟨hj, hI⟩
    have hj2 : j ≤ 2 := hj
    rcases drop_case hj with ⟨h1, h2⟩ | ⟨l, h1, h2, h3⟩
    · have h2' : j = 2 := h2
      rw [h1] at hI
      have hI' : lsGo [d.reads, d.writes] = 0 := hI.symm
      unfold wrongDeed
      rw [if_pos hI']
      by_cases h4 : 12 < d.code.length
      · rw [if_pos h4]
        repeat (first|((with_reducible apply s1); exact rfl)|(with_reducible first|apply CW.seq|apply CW.block|apply CW.region|apply CW.draw|apply CW.skip|apply CW.exit|apply CW.ret|apply q_then|apply q_then_exit|apply q_then_ret|apply q_block|apply q_block_ret|apply q_block_hit|apply q_ret|apply q_end|apply q_loop_exit|apply q_loop_ret|apply q_loopT_exit|apply q_loopT_ret|apply RW.nil)|((with_reducible apply s3); exact rfl; exact by_k)|((with_reducible apply s2); exact rfl; exact by_k)|((with_reducible apply s4); exact rfl)|((with_reducible apply s5); exact by_oa; exact by_g)|((with_reducible apply CW.cond_t); exact rfl; exact by_ks)|((with_reducible apply CW.cond_f); exact rfl; exact by_ks)|((with_reducible apply q_block_miss); exact rfl)|(refine And.intro (show chk [] [] _ _ = true by kernel_rfl) ?_))
        exact .one (.tmp rfl (.one (.d (.refl _))))
      · rw [if_neg h4]
        repeat (first|((with_reducible apply s1); exact rfl)|(with_reducible first|apply CW.seq|apply CW.block|apply CW.region|apply CW.draw|apply CW.skip|apply CW.exit|apply CW.ret|apply q_then|apply q_then_exit|apply q_then_ret|apply q_block|apply q_block_ret|apply q_block_hit|apply q_ret|apply q_end|apply q_loop_exit|apply q_loop_ret|apply q_loopT_exit|apply q_loopT_ret|apply RW.nil)|((with_reducible apply s3); exact rfl; exact by_k)|((with_reducible apply s2); exact rfl; exact by_k)|((with_reducible apply s4); exact rfl)|((with_reducible apply s5); exact by_oa; exact by_g)|((with_reducible apply CW.cond_t); exact rfl; exact by_ks)|((with_reducible apply CW.cond_f); exact rfl; exact by_ks)|((with_reducible apply q_block_miss); exact rfl)|(refine And.intro (show chk [] [] _ _ = true by kernel_rfl) ?_))
        refine CW.loopT (fun k : Nat => [sp 1 0, ob 0 d.enc, sd 2 (dint 0), sd 30 (encCode d.code), sd 31 (dint d.code.length), sd 32 (dint k), nxt 1])
          (fun k => k ≤ d.code.length ∧ codeGo d k (d.code.drop k) = codeGo d 0 d.code) (fun k => d.code.length - k) 0 ⟨by omega, rfl⟩ ?_ ?_
        ·
          exact by_less
        · rintro k ⟨hk, hJ⟩
          rcases drop_case hk with ⟨h5, h6⟩ | ⟨i, h5, h6, h7⟩
          · rw [h5, codeGo] at hJ
            repeat (first|((with_reducible apply s1); exact rfl)|(with_reducible first|apply CW.seq|apply CW.block|apply CW.region|apply CW.draw|apply CW.skip|apply CW.exit|apply CW.ret|apply q_then|apply q_then_exit|apply q_then_ret|apply q_block|apply q_block_ret|apply q_block_hit|apply q_ret|apply q_end|apply q_loop_exit|apply q_loop_ret|apply q_loopT_exit|apply q_loopT_ret|apply RW.nil)|((with_reducible apply s3); exact rfl; exact by_k)|((with_reducible apply s2); exact rfl; exact by_k)|((with_reducible apply s4); exact rfl)|((with_reducible apply s5); exact by_oa; exact by_g)|((with_reducible apply CW.cond_t); exact rfl; exact by_ks)|((with_reducible apply CW.cond_f); exact rfl; exact by_ks)|((with_reducible apply q_block_miss); exact rfl)|(refine And.intro (show chk [] [] _ _ = true by kernel_rfl) ?_))
            rw [← hJ]
            exact .one (.tmp rfl (.one (.d (.refl _))))
          · rw [h5, codeGo] at hJ
            have ci : FnOk Tryz.prog 32 [.pd d.enc, .d (.agg i.enc), .d (dint (((d.code.map Ins.enc).length : Int) - 1 - k))] (.one (dint (wrongIns d ((d.code.length : Int) - 1 - k) i))) := by
              rw [List.length_map]; exact ok_instr d i ((d.code.length : Int) - 1 - k) hs.r hs.w
            by_cases h8 : wrongIns d ((d.code.length : Int) - 1 - k) i = 0
            · rw [if_pos h8] at hJ
              rw [h8] at ci
              repeat (first|((with_reducible apply s1); exact rfl)|(with_reducible first|apply CW.seq|apply CW.block|apply CW.region|apply CW.draw|apply CW.skip|apply CW.exit|apply CW.ret|apply q_then|apply q_then_exit|apply q_then_ret|apply q_block|apply q_block_ret|apply q_block_hit|apply q_ret|apply q_end|apply q_loop_exit|apply q_loop_ret|apply q_loopT_exit|apply q_loopT_ret|apply RW.nil)|((with_reducible apply s3); exact rfl; exact by_k)|((with_reducible apply s2); exact rfl; exact by_k)|((with_reducible apply s4); exact rfl)|((with_reducible apply s5); (first|exact a_call ci rfl by_sub|exact by_oa); exact by_g)|((with_reducible apply CW.cond_t); exact rfl; exact by_ks)|((with_reducible apply CW.cond_f); exact rfl; exact by_ks)|((with_reducible apply q_block_miss); exact rfl)|(refine And.intro (show chk [] [] _ _ = true by kernel_rfl) ?_))
              refine q_loopT (k + 1) ⟨by omega, hJ⟩ (by omega) ?_
              exact by_less
            · rw [if_neg h8] at hJ
              repeat (first|((with_reducible apply s1); exact rfl)|(with_reducible first|apply CW.seq|apply CW.block|apply CW.region|apply CW.draw|apply CW.skip|apply CW.exit|apply CW.ret|apply q_then|apply q_then_exit|apply q_then_ret|apply q_block|apply q_block_ret|apply q_block_hit|apply q_ret|apply q_end|apply q_loop_exit|apply q_loop_ret|apply q_loopT_exit|apply q_loopT_ret|apply RW.nil)|((with_reducible apply s3); exact rfl; exact by_k)|((with_reducible apply s2); exact rfl; exact by_k)|((with_reducible apply s4); exact rfl)|((with_reducible apply s5); (first|exact a_call ci rfl by_sub|exact by_oa); exact by_g)|((with_reducible apply CW.cond_t); exact rfl; exact by_ks)|((with_reducible apply CW.cond_f); exact rfl; exact by_ks)|((with_reducible apply q_block_miss); exact rfl)|(refine And.intro (show chk [] [] _ _ = true by kernel_rfl) ?_))
              rw [← hJ]
              exact .one (.tmp rfl (.one (.d (.refl _))))
    · rw [h1, lsGo] at hI
      have h3' : j < 2 := h3
      have hl : l.length ≤ 268435456 ∧ ∀ s ∈ l, s.length ≤ 1073741824 := by
        have := List.mem_of_getElem? h2
        simp at this
        rcases this with rfl | rfl
        · exact ⟨hs.r, hs.rk⟩
        · exact ⟨hs.w, hs.wk⟩
      have ck := ok_dkeys l hl.1 hl.2
      by_cases h8 : keysWrong l = 0
      · rw [if_pos h8] at hI
        rw [h8] at ck
        repeat (first|((with_reducible apply s1); exact rfl)|(with_reducible first|apply CW.seq|apply CW.block|apply CW.region|apply CW.draw|apply CW.skip|apply CW.exit|apply CW.ret|apply q_then|apply q_then_exit|apply q_then_ret|apply q_block|apply q_block_ret|apply q_block_hit|apply q_ret|apply q_end|apply q_loop_exit|apply q_loop_ret|apply q_loopT_exit|apply q_loopT_ret|apply RW.nil)|((with_reducible apply s3); exact rfl; exact by_k)|((with_reducible apply s2); exact rfl; exact by_k)|((with_reducible apply s4); exact rfl)|((with_reducible apply s5); (first|exact a_call ck rfl by_sub|exact by_oa); exact by_g)|((with_reducible apply CW.cond_t); exact rfl; exact by_ks)|((with_reducible apply CW.cond_f); exact rfl; exact by_ks)|((with_reducible apply q_block_miss); exact rfl)|(refine And.intro (show chk [] [] _ _ = true by kernel_rfl) ?_))
        refine q_loopT (j + 1) ⟨by simp; omega, hI⟩ (by omega) ?_
        exact by_less
      · rw [if_neg h8] at hI
        unfold wrongDeed
        rw [if_neg (by rw [← hI]; exact h8)]
        repeat (first|((with_reducible apply s1); exact rfl)|(with_reducible first|apply CW.seq|apply CW.block|apply CW.region|apply CW.draw|apply CW.skip|apply CW.exit|apply CW.ret|apply q_then|apply q_then_exit|apply q_then_ret|apply q_block|apply q_block_ret|apply q_block_hit|apply q_ret|apply q_end|apply q_loop_exit|apply q_loop_ret|apply q_loopT_exit|apply q_loopT_ret|apply RW.nil)|((with_reducible apply s3); exact rfl; exact by_k)|((with_reducible apply s2); exact rfl; exact by_k)|((with_reducible apply s4); exact rfl)|((with_reducible apply s5); (first|exact a_call ck rfl by_sub|exact by_oa); exact by_g)|((with_reducible apply CW.cond_t); exact rfl; exact by_ks)|((with_reducible apply CW.cond_f); exact rfl; exact by_ks)|((with_reducible apply q_block_miss); exact rfl)|(refine And.intro (show chk [] [] _ _ = true by kernel_rfl) ?_))
        rw [← hI]
        exact .one (.tmp rfl (.one (.d (.refl _))))

end Go.Proofs.YtfaaghkgfbhglaaGreatDoor

/-! H11 -/
/-
  Contract of the program's Parse, at whatever text: the references'.
-/
namespace Go.Proofs.YtfaaghkgfbhglaaGreatDoor
open Go.AX Go.RF Go.RowKit

set_option maxRecDepth 100000
set_option maxHeartbeats 16000000

theorem ok_tparse (s : Str) (hbig : s.length ≤ 1000000000) : FnOk Tryz.prog 4 [.d (dstr s)] (.tup [.agg (parseR s).1.enc, dint (parseR s).2]) := by
  refine fnOk_of tbl_ok mixed_ok Tryz.func4 rfl (by kernel_rfl) rfl rfl fun w0 own0 => ?_
  by_cases hs : 400 < s.length
  · have hP : parseE s = .error 4 := by unfold parseE; rw [if_pos hs]
    repeat (first|((with_reducible apply s1); exact rfl)|(with_reducible first|apply CW.seq|apply CW.block|apply CW.region|apply CW.draw|apply CW.skip|apply CW.exit|apply CW.ret|apply q_then|apply q_then_exit|apply q_then_ret|apply q_block|apply q_block_ret|apply q_block_hit|apply q_ret|apply q_end|apply q_loop_exit|apply q_loop_ret|apply q_loopT_exit|apply q_loopT_ret|apply RW.nil)|((with_reducible apply s3); exact rfl; exact by_k)|((with_reducible apply s2); exact rfl; exact by_k)|((with_reducible apply s4); exact rfl)|((with_reducible apply s5); exact by_oa; exact by_g)|((with_reducible apply CW.cond_t); exact rfl; exact by_ks)|((with_reducible apply CW.cond_f); exact rfl; exact by_ks)|((with_reducible apply q_block_miss); exact rfl)|(refine And.intro (show chk [] [] _ _ = true by kernel_rfl) ?_))
    exact .two (.cell rfl rfl rfl rfl (.aggd rfl (no_le hP))) (.tmp rfl (.one (.d (er_le hP))))
  have c1 := ok_lsplit s [59, 32] (by omega) (by simp)
  have hsl := split_len s [59, 32]
  have hsp : ∀ p ∈ split s [59, 32], p.length ≤ 400 := fun p hp => Nat.le_trans (split_part hp) (by omega)
  by_cases h2 : (split s [59, 32]).length < 2
  · have hP : parseE s = .error 8 := by
      unfold parseE
      rw [if_neg hs]
      match split s [59, 32], h2 with
      | [], _ => rfl
      | [_], _ => rfl
      | _ :: _ :: _, h => simp at h; omega
    generalize split s [59, 32] = l at *
    repeat (first|((with_reducible apply s1); exact rfl)|(with_reducible first|apply CW.seq|apply CW.block|apply CW.region|apply CW.draw|apply CW.skip|apply CW.exit|apply CW.ret|apply q_then|apply q_then_exit|apply q_then_ret|apply q_block|apply q_block_ret|apply q_block_hit|apply q_ret|apply q_end|apply q_loop_exit|apply q_loop_ret|apply q_loopT_exit|apply q_loopT_ret|apply RW.nil)|((with_reducible apply s3); exact rfl; exact by_k)|((with_reducible apply s2); exact rfl; exact by_k)|((with_reducible apply s4); exact rfl)|((with_reducible apply s5); (first|exact a_call c1 rfl by_sub|exact by_oa); exact by_g)|((with_reducible apply CW.cond_t); exact rfl; exact by_ks)|((with_reducible apply CW.cond_f); exact rfl; exact by_ks)|((with_reducible apply q_block_miss); exact rfl)|(refine And.intro (show chk [] [] _ _ = true by kernel_rfl) ?_))
    exact .two (.cell rfl rfl rfl rfl (.aggd rfl (no_le hP))) (.tmp rfl (.one (.d (er_le hP))))
  obtain ⟨p0, p1, ps, e0⟩ : ∃ p0 p1 ps, split s [59, 32] = p0 :: p1 :: ps := by
    match split s [59, 32], h2 with
    | [], h => simp at h
    | [_], h => simp at h
    | a :: b :: r, _ => exact ⟨a, b, r, rfl⟩
  obtain ⟨v0, rs, e1⟩ := split_cons p0 [32]
  obtain ⟨v1, ws, e2⟩ := split_cons p1 [32]
  have hPF := parseE_fin (by omega) e0 e1 e2
  generalize hl : split s [59, 32] = l at *
  have h2l : 2 ≤ l.length := by omega
  repeat (first|((with_reducible apply stop_at 7); exact rfl)|((with_reducible apply s1); exact rfl)|(with_reducible first|apply CW.seq|apply CW.block|apply CW.region|apply CW.draw|apply CW.skip|apply CW.exit|apply CW.ret|apply q_then|apply q_then_exit|apply q_then_ret|apply q_block|apply q_block_ret|apply q_block_hit|apply q_ret|apply q_end|apply q_loop_exit|apply q_loop_ret|apply q_loopT_exit|apply q_loopT_ret|apply RW.nil)|((with_reducible apply s3); exact rfl; exact by_k)|((with_reducible apply s2); exact rfl; exact by_k)|((with_reducible apply s4); exact rfl)|((with_reducible apply s5); (first|exact a_call c1 rfl by_sub|exact by_oa); exact by_g)|((with_reducible apply CW.cond_t); exact rfl; exact by_ks)|((with_reducible apply CW.cond_f); exact rfl; exact by_ks)|((with_reducible apply q_block_miss); exact rfl)|(refine And.intro (show chk [] [] _ _ = true by kernel_rfl) ?_))
  refine Stop.go (CW.stut (stut_promote_cell (id := 1) (j := 2) 35 5 rfl) ⟨rfl, rfl, trivial⟩ ?_)
  repeat (first|((with_reducible apply s1); exact rfl)|(with_reducible first|apply CW.seq|apply CW.block|apply CW.region|apply CW.draw|apply CW.skip|apply CW.exit|apply CW.ret|apply q_then|apply q_then_exit|apply q_then_ret|apply q_block|apply q_block_ret|apply q_block_hit|apply q_ret|apply q_end|apply q_loop_exit|apply q_loop_ret|apply q_loopT_exit|apply q_loopT_ret|apply RW.nil)|((with_reducible apply s3); exact rfl; exact by_k)|((with_reducible apply s2); exact rfl; exact by_k)|((with_reducible apply s4); exact rfl)|((with_reducible apply s5); exact by_oa; exact by_g)|((with_reducible apply CW.cond_t); exact rfl; exact by_ks)|((with_reducible apply CW.cond_f); exact rfl; exact by_ks)|((with_reducible apply q_block_miss); exact rfl)|(refine And.intro (show chk [] [] _ _ = true by kernel_rfl) ?_))
  refine CW.loopT (fun t : Nat × D × D × List Ins => [sp 2 0, ob 0 noEnc, sp 5 1, (.o 1, .ob (.box [.d t.2.1, .d t.2.2.1, .own 2 t.2.2.2.length])), oa 2 35 5 (t.2.2.2.map Ins.enc), sd 22 (encStrs l), sd 23 (dint l.length), sd 24 (dint t.1), nxt 3])
    (fun t => t.1 ≤ l.length ∧ (t.1 < 2 → t.2.2.2 = []) ∧ (1 ≤ t.1 → v0 = wReads ∧ t.2.1 = encStrs rs) ∧ (2 ≤ t.1 → v1 = wWrites ∧ t.2.2.1 = encStrs ws) ∧ t.2.2.2.length ≤ t.1 ∧ (2 ≤ t.1 → parseE s = finE rs ws t.2.2.2 (l.drop t.1))) (fun t => l.length - t.1) (0, .v nilS, .v nilS, [])
    ⟨by dsimp only; omega, fun _ => rfl, fun h => by dsimp only at h; omega, fun h => by dsimp only at h; omega, by simp, fun h => by dsimp only at h; omega⟩ ?_ ?_
  ·
    exact by_less
  · rintro ⟨x, R, W, code⟩ ⟨hx, hc0, hR, hW, hc, hF⟩
    dsimp only at hx hc0 hR hW hc hF ⊢
    rcases drop_case hx with ⟨h1, h2⟩ | ⟨p, h1, h2, h3⟩
    · obtain ⟨_, rfl⟩ := hR (by omega)
      obtain ⟨_, rfl⟩ := hW (by omega)
      have hF := hF (by omega)
      rw [h1] at hF
      unfold finE at hF
      simp only [codeE, List.append_nil] at hF
      have hrs : ∀ k ∈ rs, k.length ≤ 400 := fun k hk => Nat.le_trans (split_part (s := p0) (sep := [32]) (by rw [e1]; exact List.mem_cons_of_mem _ hk)) (hsp p0 (by rw [e0]; simp))
      have hws : ∀ k ∈ ws, k.length ≤ 400 := fun k hk => Nat.le_trans (split_part (s := p1) (sep := [32]) (by rw [e2]; exact List.mem_cons_of_mem _ hk)) (hsp p1 (by rw [e0]; simp))
      have hrl : rs.length ≤ 400 := by have := split_len p0 [32]; rw [e1] at this; have := hsp p0 (by rw [e0]; simp); simp at *; omega
      have hwl : ws.length ≤ 400 := by have := split_len p1 [32]; rw [e2] at this; have := hsp p1 (by rw [e0]; simp); simp at *; omega
      have hsm : Deed.Sm ⟨rs, ws, code⟩ := ⟨by dsimp only; omega, by dsimp only; omega, by dsimp only; omega, fun k hk => by have := hrs k hk; omega, fun k hk => by have := hws k hk; omega⟩
      have cw := ok_pwrongDeed ⟨rs, ws, code⟩ hsm
      have co := ok_deedOwn ⟨rs, ws, code⟩ hsm
      by_cases hw : wrongDeed ⟨rs, ws, code⟩ = 0
      · rw [if_pos hw] at hF
        rw [hw] at cw
        have hr : parseR s = (⟨rs, ws, code⟩, 0) := by unfold parseR; rw [hF]; rfl
        rw [hr]
        repeat (first|((with_reducible apply stop_at 22); exact rfl)|((with_reducible apply s1); exact rfl)|(with_reducible first|apply CW.seq|apply CW.block|apply CW.region|apply CW.draw|apply CW.skip|apply CW.exit|apply CW.ret|apply q_then|apply q_then_exit|apply q_then_ret|apply q_block|apply q_block_ret|apply q_block_hit|apply q_ret|apply q_end|apply q_loop_exit|apply q_loop_ret|apply q_loopT_exit|apply q_loopT_ret|apply RW.nil)|((with_reducible apply s3); exact rfl; exact by_k)|((with_reducible apply s2); exact rfl; exact by_k)|((with_reducible apply s4); exact rfl)|((with_reducible apply s5); exact by_oa; exact by_g)|((with_reducible apply CW.cond_t); exact rfl; exact by_ks)|((with_reducible apply CW.cond_f); exact rfl; exact by_ks)|((with_reducible apply q_block_miss); exact rfl)|(refine And.intro (show chk [] [] _ _ = true by kernel_rfl) ?_))
        refine Stop.go (CW.stut (stut_freeze_cell (id := 1) (j := 2) (i := 2) rfl (by simp)) ⟨rfl, rfl, trivial⟩ ?_)
        repeat (first|((with_reducible apply s1); exact rfl)|(with_reducible first|apply CW.seq|apply CW.block|apply CW.region|apply CW.draw|apply CW.skip|apply CW.exit|apply CW.ret|apply q_then|apply q_then_exit|apply q_then_ret|apply q_block|apply q_block_ret|apply q_block_hit|apply q_ret|apply q_end|apply q_loop_exit|apply q_loop_ret|apply q_loopT_exit|apply q_loopT_ret|apply RW.nil)|((with_reducible apply s3); exact rfl; exact by_k)|((with_reducible apply s2); exact rfl; exact by_k)|((with_reducible apply s4); exact rfl)|((with_reducible apply s5); (first|exact a_call cw rfl by_sub|exact a_call co rfl by_sub|exact by_oa); exact by_g)|((with_reducible apply CW.cond_t); exact rfl; exact by_ks)|((with_reducible apply CW.cond_f); exact rfl; exact by_ks)|((with_reducible apply q_block_miss); exact rfl)|(refine And.intro (show chk [] [] _ _ = true by kernel_rfl) ?_))
        exact .two (.cell rfl rfl rfl rfl (.aggd rfl (.refl _))) (.tmp rfl (.one (.d (.refl _))))
      · rw [if_neg hw] at hF
        generalize wrongDeed ⟨rs, ws, code⟩ = we at *
        repeat (first|((with_reducible apply stop_at 22); exact rfl)|((with_reducible apply s1); exact rfl)|(with_reducible first|apply CW.seq|apply CW.block|apply CW.region|apply CW.draw|apply CW.skip|apply CW.exit|apply CW.ret|apply q_then|apply q_then_exit|apply q_then_ret|apply q_block|apply q_block_ret|apply q_block_hit|apply q_ret|apply q_end|apply q_loop_exit|apply q_loop_ret|apply q_loopT_exit|apply q_loopT_ret|apply RW.nil)|((with_reducible apply s3); exact rfl; exact by_k)|((with_reducible apply s2); exact rfl; exact by_k)|((with_reducible apply s4); exact rfl)|((with_reducible apply s5); exact by_oa; exact by_g)|((with_reducible apply CW.cond_t); exact rfl; exact by_ks)|((with_reducible apply CW.cond_f); exact rfl; exact by_ks)|((with_reducible apply q_block_miss); exact rfl)|(refine And.intro (show chk [] [] _ _ = true by kernel_rfl) ?_))
        refine Stop.go (CW.stut (stut_freeze_cell (id := 1) (j := 2) (i := 2) rfl (by simp)) ⟨rfl, rfl, trivial⟩ ?_)
        repeat (first|((with_reducible apply s1); exact rfl)|(with_reducible first|apply CW.seq|apply CW.block|apply CW.region|apply CW.draw|apply CW.skip|apply CW.exit|apply CW.ret|apply q_then|apply q_then_exit|apply q_then_ret|apply q_block|apply q_block_ret|apply q_block_hit|apply q_ret|apply q_end|apply q_loop_exit|apply q_loop_ret|apply q_loopT_exit|apply q_loopT_ret|apply RW.nil)|((with_reducible apply s3); exact rfl; exact by_k)|((with_reducible apply s2); exact rfl; exact by_k)|((with_reducible apply s4); exact rfl)|((with_reducible apply s5); (first|exact a_call cw rfl by_sub|exact by_oa); exact by_g)|((with_reducible apply CW.cond_t); exact rfl; exact by_ks)|((with_reducible apply CW.cond_f); exact rfl; exact by_ks)|((with_reducible apply q_block_miss); exact rfl)|(refine And.intro (show chk [] [] _ _ = true by kernel_rfl) ?_))
        exact .two (.cell rfl rfl rfl rfl (.aggd rfl (no_le hF))) (.tmp rfl (.one (.d (er_le hF))))
    · have hp : p ∈ l := List.mem_of_getElem? h2
      have hpl := hsp p hp
      have c2 := ok_lsplit p [32] (by omega) (by simp)
      by_cases hx0 : x = 0
      · subst hx0
        obtain rfl := hc0 (by omega)
        have h2' := h2
        rw [e0] at h2
        obtain rfl : p0 = p := by simpa using h2
        rw [e1] at c2
        have hrl : rs.length ≤ 400 := by have := split_len p0 [32]; rw [e1] at this; simp at *; omega
        have hw0 : (v0 :: rs)[0]? = some v0 := rfl
        have hWd : wReads = [114, 101, 97, 100, 115] := rfl
        by_cases hv : v0 = wReads
        · rw [hWd] at hv
          repeat (first|((with_reducible apply s1); exact rfl)|(with_reducible first|apply CW.seq|apply CW.block|apply CW.region|apply CW.draw|apply CW.skip|apply CW.exit|apply CW.ret|apply q_then|apply q_then_exit|apply q_then_ret|apply q_block|apply q_block_ret|apply q_block_hit|apply q_ret|apply q_end|apply q_loop_exit|apply q_loop_ret|apply q_loopT_exit|apply q_loopT_ret|apply RW.nil)|((with_reducible apply s3); exact rfl; exact by_k)|((with_reducible apply s2); exact rfl; exact by_k)|((with_reducible apply s4); exact rfl)|((with_reducible apply s5); (first|exact a_call c2 rfl by_sub|exact by_oa); exact by_g)|((with_reducible apply CW.cond_t); exact rfl; exact by_ks)|((with_reducible apply CW.cond_f); exact rfl; exact by_ks)|((with_reducible apply q_block_miss); exact rfl)|(refine And.intro (show chk [] [] _ _ = true by kernel_rfl) ?_))
          refine q_loopT (1, encStrs rs, W, []) ⟨by dsimp only; omega, fun _ => rfl, fun _ => ⟨hv, rfl⟩, fun h => by dsimp only at h; omega, by simp, fun h => by dsimp only at h; omega⟩ (by dsimp only; omega) ?_
          exact by_less
        · have hP : parseE s = .error 2 := by rw [hPF, if_neg hv]
          rw [hWd] at hv
          repeat (first|((with_reducible apply s1); exact rfl)|(with_reducible first|apply CW.seq|apply CW.block|apply CW.region|apply CW.draw|apply CW.skip|apply CW.exit|apply CW.ret|apply q_then|apply q_then_exit|apply q_then_ret|apply q_block|apply q_block_ret|apply q_block_hit|apply q_ret|apply q_end|apply q_loop_exit|apply q_loop_ret|apply q_loopT_exit|apply q_loopT_ret|apply RW.nil)|((with_reducible apply s3); exact rfl; exact by_k)|((with_reducible apply s2); exact rfl; exact by_k)|((with_reducible apply s4); exact rfl)|((with_reducible apply s5); (first|exact a_call c2 rfl by_sub|exact by_oa); exact by_g)|((with_reducible apply CW.cond_t); exact rfl; exact by_ks)|((with_reducible apply CW.cond_f); exact rfl; exact by_ks)|((with_reducible apply q_block_miss); exact rfl)|(refine And.intro (show chk [] [] _ _ = true by kernel_rfl) ?_))
          exact .two (.cell rfl rfl rfl rfl (.aggd rfl (no_le hP))) (.tmp rfl (.one (.d (er_le hP))))
      by_cases hx1 : x = 1
      · subst hx1
        obtain rfl := hc0 (by omega)
        obtain ⟨hv0, hR⟩ := hR (by omega)
        have h2' := h2
        rw [e0] at h2
        obtain rfl : p1 = p := by simpa using h2
        rw [e2] at c2
        have hwl : ws.length ≤ 400 := by have := split_len p1 [32]; rw [e2] at this; simp at *; omega
        have hw0 : (v1 :: ws)[0]? = some v1 := rfl
        have hWd : wWrites = [119, 114, 105, 116, 101, 115] := rfl
        by_cases hv : v1 = wWrites
        · have hv' := hv
          rw [hWd] at hv
          repeat (first|((with_reducible apply s1); exact rfl)|(with_reducible first|apply CW.seq|apply CW.block|apply CW.region|apply CW.draw|apply CW.skip|apply CW.exit|apply CW.ret|apply q_then|apply q_then_exit|apply q_then_ret|apply q_block|apply q_block_ret|apply q_block_hit|apply q_ret|apply q_end|apply q_loop_exit|apply q_loop_ret|apply q_loopT_exit|apply q_loopT_ret|apply RW.nil)|((with_reducible apply s3); exact rfl; exact by_k)|((with_reducible apply s2); exact rfl; exact by_k)|((with_reducible apply s4); exact rfl)|((with_reducible apply s5); (first|exact a_call c2 rfl by_sub|exact by_oa); exact by_g)|((with_reducible apply CW.cond_t); exact rfl; exact by_ks)|((with_reducible apply CW.cond_f); exact rfl; exact by_ks)|((with_reducible apply q_block_miss); exact rfl)|(refine And.intro (show chk [] [] _ _ = true by kernel_rfl) ?_))
          refine q_loopT (2, R, encStrs ws, []) ⟨by dsimp only; omega, fun h => by dsimp only at h; omega, fun _ => ⟨hv0, hR⟩, fun _ => ⟨hv, rfl⟩, by simp, fun _ => by rw [hPF, if_pos hv0, if_pos hv', e0]; rfl⟩ (by dsimp only; omega) ?_
          exact by_less
        · have hP : parseE s = .error 2 := by rw [hPF, if_pos hv0, if_neg hv]
          rw [hWd] at hv
          repeat (first|((with_reducible apply s1); exact rfl)|(with_reducible first|apply CW.seq|apply CW.block|apply CW.region|apply CW.draw|apply CW.skip|apply CW.exit|apply CW.ret|apply q_then|apply q_then_exit|apply q_then_ret|apply q_block|apply q_block_ret|apply q_block_hit|apply q_ret|apply q_end|apply q_loop_exit|apply q_loop_ret|apply q_loopT_exit|apply q_loopT_ret|apply RW.nil)|((with_reducible apply s3); exact rfl; exact by_k)|((with_reducible apply s2); exact rfl; exact by_k)|((with_reducible apply s4); exact rfl)|((with_reducible apply s5); (first|exact a_call c2 rfl by_sub|exact by_oa); exact by_g)|((with_reducible apply CW.cond_t); exact rfl; exact by_ks)|((with_reducible apply CW.cond_f); exact rfl; exact by_ks)|((with_reducible apply q_block_miss); exact rfl)|(refine And.intro (show chk [] [] _ _ = true by kernel_rfl) ?_))
          exact .two (.cell rfl rfl rfl rfl (.aggd rfl (no_le hP))) (.tmp rfl (.one (.d (er_le hP))))
      have hF := hF (by omega)
      rw [h1, finE_cons] at hF
      obtain ⟨w, wz, hwds⟩ := split_cons p [32]
      rw [hwds] at hF c2
      have hwl : wz.length ≤ 400 := by have := split_len p [32]; rw [hwds] at this; simp at *; omega
      have ci := ok_tinstr w wz (by omega) (fun u hu => Nat.le_trans (split_part (s := p) (sep := [32]) (by rw [hwds]; exact List.mem_cons_of_mem _ hu)) (by omega))
      have hw0 : (w :: wz)[0]? = some w := rfl
      cases hI : insE (w :: wz) with
      | error e =>
        rw [hI] at hF ci
        dsimp only at hF
        have he0 : e ≠ 0 := by
          intro e0'
          subst e0'
          simp only [insE] at hI
          split at hI
          · cases hI
          · split at hI
            · split at hI <;> cases hI
            · cases hI
        repeat (first|((with_reducible apply s1); exact rfl)|(with_reducible first|apply CW.seq|apply CW.block|apply CW.region|apply CW.draw|apply CW.skip|apply CW.exit|apply CW.ret|apply q_then|apply q_then_exit|apply q_then_ret|apply q_block|apply q_block_ret|apply q_block_hit|apply q_ret|apply q_end|apply q_loop_exit|apply q_loop_ret|apply q_loopT_exit|apply q_loopT_ret|apply RW.nil)|((with_reducible apply s3); exact rfl; exact by_k)|((with_reducible apply s2); exact rfl; exact by_k)|((with_reducible apply s4); exact rfl)|((with_reducible apply s5); (first|exact a_call c2 rfl by_sub|exact a_call ci rfl by_sub|exact by_oa); exact by_g)|((with_reducible apply CW.cond_t); exact rfl; exact by_ks)|((with_reducible apply CW.cond_f); exact rfl; exact by_ks)|((with_reducible apply q_block_miss); exact rfl)|(refine And.intro (show chk [] [] _ _ = true by kernel_rfl) ?_))
        exact .two (.cell rfl rfl rfl rfl (.aggd rfl (no_le hF))) (.tmp rfl (.one (.d (er_le hF))))
      | ok i =>
        rw [hI] at hF ci
        dsimp only at hF
        repeat (first|((with_reducible apply s1); exact rfl)|(with_reducible first|apply CW.seq|apply CW.block|apply CW.region|apply CW.draw|apply CW.skip|apply CW.exit|apply CW.ret|apply q_then|apply q_then_exit|apply q_then_ret|apply q_block|apply q_block_ret|apply q_block_hit|apply q_ret|apply q_end|apply q_loop_exit|apply q_loop_ret|apply q_loopT_exit|apply q_loopT_ret|apply RW.nil)|((with_reducible apply s3); exact rfl; exact by_k)|((with_reducible apply s2); exact rfl; exact by_k)|((with_reducible apply s4); exact rfl)|((with_reducible apply s5); (first|exact a_call c2 rfl by_sub|exact a_call ci rfl by_sub|exact by_oa); exact by_g)|((with_reducible apply CW.cond_t); exact rfl; exact by_ks)|((with_reducible apply CW.cond_f); exact rfl; exact by_ks)|((with_reducible apply q_block_miss); exact rfl)|(refine And.intro (show chk [] [] _ _ = true by kernel_rfl) ?_))
        refine q_loopT (x + 1, R, W, code ++ [i]) ⟨by dsimp only; omega, fun h => by dsimp only at h; omega, fun _ => hR (by omega), fun _ => hW (by omega), by dsimp only; simp; omega, fun _ => hF⟩ (by dsimp only; omega) ?_
        exact by_less

end Go.Proofs.YtfaaghkgfbhglaaGreatDoor

/-! H12 -/
/-
  Contract of the program's Print, at a right deed: the references'.
-/
namespace Go.Proofs.YtfaaghkgfbhglaaGreatDoor
open Go.AX Go.RF Go.RowKit

set_option maxRecDepth 100000
set_option maxHeartbeats 16000000

theorem tailS_len {sep w : Str} {l : List Str} (h : w ∈ l) : w.length ≤ (tailS sep l).length := by
  induction l with
  | nil => cases h
  | cons x l ih =>
    simp only [tailS, List.length_append]
    rcases List.mem_cons.1 h with rfl | h
    · omega
    · have := ih h; omega
theorem joinS_part {sep w : Str} {l : List Str} (h : w ∈ l) : w.length ≤ (joinS sep l).length := by
  cases l with
  | nil => cases h
  | cons x l =>
    rw [joinS_cons]
    simp only [List.length_append]
    rcases List.mem_cons.1 h with rfl | h
    · omega
    · have := tailS_len (sep := sep) h; omega
theorem words_tail {K : Nat} (h1 : 1 ≤ K) (h9 : K ≤ 9) : words.tail[K - 1]? = some (words.getD K []) := by
  have : ∀ k : Fin 9, words.tail[k.val]? = some (words.getD (k.val + 1) []) := by decide
  have := this ⟨K - 1, by omega⟩
  rwa [show K - 1 + 1 = K by omega] at this
theorem take_snoc {α : Type} {l : List α} {n : Nat} {x : α} (h : l[n]? = some x) : l.take n ++ [x] = l.take (n + 1) := by
  rw [List.take_add_one, h]; rfl

theorem ok_tprint (d : Deed) (hw : wrongDeed d = 0) (hd : d.Sm) (hF : (printD d).length ≤ 1000000) : FnOk Tryz.prog 8 [.d (.agg d.enc)] (.one (dstr (printD d))) := by
  refine fnOk_of tbl_ok mixed_ok Tryz.func8 rfl (by kernel_rfl) rfl rfl fun w0 own0 => ?_
  have hok := wrongDeed_ok hw
  have hnn := wrong_n hw
  have hr := hok.r
  have hwl := hok.w
  have hcl := hok.c
  have cj := fun (l : List Str) (hl : l.length ≤ 1000000) (h : joinS [32] l ∈ partsD d) => ok_join l [32] hl (Nat.le_trans (joinS_part (sep := [59, 32]) h) hF)
  have cJ := ok_join (partsD d) [59, 32] (by simp [partsD]; omega) hF
  have hpl : (partsD d).length = 2 + d.code.length := by simp [partsD]; omega
  have hp0 : (partsD d)[0]? = some (joinS [32] (wReads :: d.reads)) := rfl
  have hp1 : (partsD d)[1]? = some (joinS [32] (wWrites :: d.writes)) := rfl
  have hp2 : ∀ z i, d.code[z]? = some i → (partsD d)[2 + z]? = some (joinS [32] (insW i)) := fun z i h => by
    rw [Nat.add_comm]
    simp [partsD, h]
  have cw := ok_twords
  rw [show printD d = joinS [59, 32] (partsD d) from rfl]
  rw [show printD d = joinS [59, 32] (partsD d) from rfl] at hF
  generalize hPD : partsD d = PD at *
  repeat (first|((with_reducible apply s5); ((with_reducible apply a_bs ([d.reads, d.writes].map fun l => [encStrs l])); (iterate 9 exact rfl); (repeat (first | exact PartsE.nil | (apply PartsE.cons; exact rfl; exact rfl)))); exact by_g)|((with_reducible apply stop_at 2); exact rfl)|((with_reducible apply s1); exact rfl)|(with_reducible first|apply CW.seq|apply CW.block|apply CW.region|apply CW.draw|apply CW.skip|apply CW.exit|apply CW.ret|apply q_then|apply q_then_exit|apply q_then_ret|apply q_block|apply q_block_ret|apply q_block_hit|apply q_ret|apply q_end|apply q_loop_exit|apply q_loop_ret|apply q_loopT_exit|apply q_loopT_ret|apply RW.nil)|((with_reducible apply s3); exact rfl; exact by_k)|((with_reducible apply s2); exact rfl; exact by_k)|((with_reducible apply s4); exact rfl)|((with_reducible apply s5); exact by_oa; exact by_g)|((with_reducible apply CW.cond_t); exact rfl; exact by_ks)|((with_reducible apply CW.cond_f); exact rfl; exact by_ks)|((with_reducible apply q_block_miss); exact rfl)|(refine And.intro (show chk [] [] _ _ = true by kernel_rfl) ?_))
  refine Stop.go (CW.stut (stut_promote (i := 3) 9 1) ⟨rfl, rfl, trivial⟩ ?_)
  repeat (first|((with_reducible apply s5); ((with_reducible apply a_bs ([d.reads, d.writes].map fun l => [encStrs l])); (iterate 9 exact rfl); (repeat (first | exact PartsE.nil | (apply PartsE.cons; exact rfl; exact rfl)))); exact by_g)|((with_reducible apply s1); exact rfl)|(with_reducible first|apply CW.seq|apply CW.block|apply CW.region|apply CW.draw|apply CW.skip|apply CW.exit|apply CW.ret|apply q_then|apply q_then_exit|apply q_then_ret|apply q_block|apply q_block_ret|apply q_block_hit|apply q_ret|apply q_end|apply q_loop_exit|apply q_loop_ret|apply q_loopT_exit|apply q_loopT_ret|apply RW.nil)|((with_reducible apply s3); exact rfl; exact by_k)|((with_reducible apply s2); exact rfl; exact by_k)|((with_reducible apply s4); exact rfl)|((with_reducible apply s5); exact by_oa; exact by_g)|((with_reducible apply CW.cond_t); exact rfl; exact by_ks)|((with_reducible apply CW.cond_f); exact rfl; exact by_ks)|((with_reducible apply q_block_miss); exact rfl)|(refine And.intro (show chk [] [] _ _ = true by kernel_rfl) ?_))
  refine CW.loopT (fun t : Nat => [sp 1 0, ob 0 d.enc, so 3 1 (PD.take t).length, oa 1 9 1 ((PD.take t).map encStr1), sd 15 (.sl 1 ([d.reads, d.writes].map fun l => [encStrs l])), sd 16 (dint 2), sd 17 (dint t), nxt 2])
    (fun t => t ≤ 2) (fun t => 2 - t) 0 (by omega) ?_ ?_
  ·
    exact by_less
  · intro t ht
    have hn0 : ([wReads, wWrites] : List Str)[0]? = some wReads := rfl
    have hn1 : ([wReads, wWrites] : List Str)[1]? = some wWrites := rfl
    have hd0 : ([d.reads, d.writes] : List (List Str))[0]? = some d.reads := rfl
    have hd1 : ([d.reads, d.writes] : List (List Str))[1]? = some d.writes := rfl
    match t, ht with
    | 0, _ =>
      have c1 := cj (wReads :: d.reads) (by simp; omega) (List.mem_of_getElem? hp0)
      have hts := take_snoc hp0
      generalize joinS [32] (wReads :: d.reads) = J at c1 hts
      repeat (first|((with_reducible apply s5); ((with_reducible apply a_bs (([wReads, wWrites] : List Str).map encStr1)); (iterate 9 exact rfl); (repeat (first | exact PartsE.nil | (apply PartsE.cons; exact rfl; exact rfl)))); exact by_g)|((with_reducible apply s5); (with_reducible apply (a_bsO [encStr1 wReads])); (iterate 10 exact rfl); (repeat (first | exact PartsE.nil | (apply PartsE.cons; exact rfl; exact rfl))); exact by_g)|((with_reducible apply s1); exact rfl)|(with_reducible first|apply CW.seq|apply CW.block|apply CW.region|apply CW.draw|apply CW.skip|apply CW.exit|apply CW.ret|apply q_then|apply q_then_exit|apply q_then_ret|apply q_block|apply q_block_ret|apply q_block_hit|apply q_ret|apply q_end|apply q_loop_exit|apply q_loop_ret|apply q_loopT_exit|apply q_loopT_ret|apply RW.nil)|((with_reducible apply s3); exact rfl; exact by_k)|((with_reducible apply s2); exact rfl; exact by_k)|((with_reducible apply s4); exact rfl)|((with_reducible apply s5); (first|((with_reducible apply a_ia); (iterate 5 exact rfl); exact idx_map (k := 0) hd0)|((with_reducible apply a_ia); (iterate 5 exact rfl); exact idx_map (k := 0) hn0)|(focus ((with_reducible apply a_lend); exact c1; exact rfl; exact .plain rfl; (focus first | exact rfl | (simp; done) | (simp; omega)); (iterate 2 exact rfl); exact by_sub))|exact by_oa); exact by_g)|((with_reducible apply CW.cond_t); exact rfl; exact by_ks)|((with_reducible apply CW.cond_f); exact rfl; exact by_ks)|((with_reducible apply q_block_miss); exact rfl)|(refine And.intro (show chk [] [] _ _ = true by kernel_rfl) ?_))
      refine q_loopT 1 (by omega) (by omega) ?_
      rw [← hts]
      exact by_less
    | 1, _ =>
      have c1 := cj (wWrites :: d.writes) (by simp; omega) (List.mem_of_getElem? hp1)
      have hts := take_snoc hp1
      have htl : (PD.take 1).length = 1 := by rw [List.length_take]; omega
      generalize joinS [32] (wWrites :: d.writes) = J at c1 hts
      generalize PD.take 1 = P1 at *
      repeat (first|((with_reducible apply s5); ((with_reducible apply a_bs (([wReads, wWrites] : List Str).map encStr1)); (iterate 9 exact rfl); (repeat (first | exact PartsE.nil | (apply PartsE.cons; exact rfl; exact rfl)))); exact by_g)|((with_reducible apply s5); (with_reducible apply (a_bsO [encStr1 wWrites])); (iterate 10 exact rfl); (repeat (first | exact PartsE.nil | (apply PartsE.cons; exact rfl; exact rfl))); exact by_g)|((with_reducible apply s1); exact rfl)|(with_reducible first|apply CW.seq|apply CW.block|apply CW.region|apply CW.draw|apply CW.skip|apply CW.exit|apply CW.ret|apply q_then|apply q_then_exit|apply q_then_ret|apply q_block|apply q_block_ret|apply q_block_hit|apply q_ret|apply q_end|apply q_loop_exit|apply q_loop_ret|apply q_loopT_exit|apply q_loopT_ret|apply RW.nil)|((with_reducible apply s3); exact rfl; exact by_k)|((with_reducible apply s2); exact rfl; exact by_k)|((with_reducible apply s4); exact rfl)|((with_reducible apply s5); (first|((with_reducible apply a_ia); (iterate 5 exact rfl); exact idx_map (k := 1) hd1)|((with_reducible apply a_ia); (iterate 5 exact rfl); exact idx_map (k := 1) hn1)|(focus ((with_reducible apply a_lend); exact c1; exact rfl; exact .plain rfl; (focus first | exact rfl | (simp; done) | (simp; omega)); (iterate 2 exact rfl); exact by_sub))|exact by_oa); exact by_g)|((with_reducible apply CW.cond_t); exact rfl; exact by_ks)|((with_reducible apply CW.cond_f); exact rfl; exact by_ks)|((with_reducible apply q_block_miss); exact rfl)|(refine And.intro (show chk [] [] _ _ = true by kernel_rfl) ?_))
      refine q_loopT 2 (by omega) (by omega) ?_
      rw [← hts]
      exact by_less
    | 2, _ =>
      repeat (first|((with_reducible apply s1); exact rfl)|(with_reducible first|apply CW.seq|apply CW.block|apply CW.region|apply CW.draw|apply CW.skip|apply CW.exit|apply CW.ret|apply q_then|apply q_then_exit|apply q_then_ret|apply q_block|apply q_block_ret|apply q_block_hit|apply q_ret|apply q_end|apply q_loop_exit|apply q_loop_ret|apply q_loopT_exit|apply q_loopT_ret|apply RW.nil)|((with_reducible apply s3); exact rfl; exact by_k)|((with_reducible apply s2); exact rfl; exact by_k)|((with_reducible apply s4); exact rfl)|((with_reducible apply s5); exact by_oa; exact by_g)|((with_reducible apply CW.cond_t); exact rfl; exact by_ks)|((with_reducible apply CW.cond_f); exact rfl; exact by_ks)|((with_reducible apply q_block_miss); exact rfl)|(refine And.intro (show chk [] [] _ _ = true by kernel_rfl) ?_))
      refine CW.loopT (fun z : Nat => [sp 1 0, ob 0 d.enc, so 3 1 (PD.take (2 + z)).length, oa 1 9 1 ((PD.take (2 + z)).map encStr1), sd 35 (encCode d.code), sd 36 (dint d.code.length), sd 37 (dint z), nxt 2])
        (fun z => z ≤ d.code.length) (fun z => d.code.length - z) 0 (by omega) ?_ ?_
      ·
        exact by_less
      · intro z hz
        have htl : (PD.take (2 + z)).length = 2 + z := by rw [List.length_take]; omega
        rcases drop_case hz with ⟨h1, h2⟩ | ⟨i, h1, h2, h3⟩
        · rw [show PD.take (2 + z) = PD by rw [List.take_of_length_le (by omega)]]
          repeat (first|((with_reducible apply s1); exact rfl)|(with_reducible first|apply CW.seq|apply CW.block|apply CW.region|apply CW.draw|apply CW.skip|apply CW.exit|apply CW.ret|apply q_then|apply q_then_exit|apply q_then_ret|apply q_block|apply q_block_ret|apply q_block_hit|apply q_ret|apply q_end|apply q_loop_exit|apply q_loop_ret|apply q_loopT_exit|apply q_loopT_ret|apply RW.nil)|((with_reducible apply s3); exact rfl; exact by_k)|((with_reducible apply s2); exact rfl; exact by_k)|((with_reducible apply s4); exact rfl)|((with_reducible apply s5); (first|(focus ((with_reducible apply a_lend); exact cJ; exact rfl; exact .plain rfl; (focus first | exact rfl | (simp; done) | (simp; omega)); (iterate 2 exact rfl); exact by_sub))|exact by_oa); exact by_g)|((with_reducible apply CW.cond_t); exact rfl; exact by_ks)|((with_reducible apply CW.cond_f); exact rfl; exact by_ks)|((with_reducible apply q_block_miss); exact rfl)|(refine And.intro (show chk [] [] _ _ = true by kernel_rfl) ?_))
          exact .one (.tmp rfl (.one (.d (.refl _))))
        · have him := List.mem_of_getElem? h2
          have hi := hok.i i him
          have hin := hnn i him
          have hik := hi.k
          have hia := hi.a
          have hib := hi.b
          have ca := ok_itoaG i.a (by omega) (by omega)
          have cb := ok_itoaG i.b (by omega) (by omega)
          have cn := ok_itoaG i.n (by omega) (by omega)
          have la := itoa_len i.a (by omega) (by omega)
          have lb := itoa_len i.b (by omega) (by omega)
          have hp := hp2 z i h2
          have hts := take_snoc hp
          have cJ1 := cj (insW i) (by simp [insW]; have := form_len i.kind.toNat; omega) (List.mem_of_getElem? hp)
          generalize joinS [32] (insW i) = J at cJ1 hts hp
          have hk0 : 0 ≤ i.kind := by omega
          obtain ⟨K, hK⟩ := Int.eq_ofNat_of_zero_le hk0
          unfold insW at cJ1
          have cf := ok_fields K (by omega) (by omega)
          have hwk := words_tail (K := K) (by omega) (by omega)
          have hfl := form_len K
          have hlet : ∀ c ∈ form K, c = 114 ∨ c = 115 ∨ c = 110 ∨ c = 107 := fun c hc => form_let hc
          rw [hK, Int.toNat_natCast] at cJ1
          generalize words.getD K [] = wd at hwk cJ1
          generalize form K = f at *
          obtain ⟨ik, ia, ib, inn, ikey⟩ := i
          dsimp only at hK ca cb cn la lb hik
          subst hK
          have hix : idx (words.tail.map encStr1) ((K : Int) - 1) = some (encStr1 wd) := by
            have := idx_map (f := encStr1) hwk
            rwa [show ((K - 1 : Nat) : Int) = (K : Int) - 1 by omega] at this
          generalize hPe : PD.take (2 + z) = P at *
          repeat (first|((with_reducible apply s5); (with_reducible apply (a_bsO [encStr1 wd])); (iterate 10 exact rfl); (repeat (first | exact PartsE.nil | (apply PartsE.cons; exact rfl; exact rfl))); exact by_g)|((with_reducible apply s1); exact rfl)|(with_reducible first|apply CW.seq|apply CW.block|apply CW.region|apply CW.draw|apply CW.skip|apply CW.exit|apply CW.ret|apply q_then|apply q_then_exit|apply q_then_ret|apply q_block|apply q_block_ret|apply q_block_hit|apply q_ret|apply q_end|apply q_loop_exit|apply q_loop_ret|apply q_loopT_exit|apply q_loopT_ret|apply RW.nil)|((with_reducible apply s3); exact rfl; exact by_k)|((with_reducible apply s2); exact rfl; exact by_k)|((with_reducible apply s4); exact rfl)|((with_reducible apply s5); (first|exact a_call cw rfl by_sub|exact a_call cf rfl by_sub|((with_reducible apply a_ia); (iterate 5 exact rfl); exact hix)|((with_reducible apply a_range); exact rfl; exact rfl; exact Tryz.underlying9; exact rfl)|exact by_oa); exact by_g)|((with_reducible apply CW.cond_t); exact rfl; exact by_ks)|((with_reducible apply CW.cond_f); exact rfl; exact by_ks)|((with_reducible apply q_block_miss); exact rfl)|(refine And.intro (show chk [] [] _ _ = true by kernel_rfl) ?_))
          refine CW.loopT (fun j : Nat => [sp 1 0, ob 0 d.enc, so 3 1 P.length, oa 1 9 1 (P.map encStr1), sd 35 (encCode d.code), sd 36 (dint d.code.length), sd 37 (dint z), sp 7 2, ob 2 (Ins.enc ⟨K, ia, ib, inn, ikey⟩), so 8 3 (wd :: (f.take j).map (fieldW ⟨K, ia, ib, inn, ikey⟩)).length, oa 3 9 1 ((wd :: (f.take j).map (fieldW ⟨K, ia, ib, inn, ikey⟩)).map encStr1), (.s 51, .av (.h 4)), (.o 4, .ob (.gen (ItP f j))), nxt 5])
            (fun j => j ≤ f.length) (fun j => f.length - j) 0 (by omega) ?_ ?_
          ·
            exact by_less
          · intro j hj
            have hjl : (wd :: (f.take j).map (fieldW ⟨K, ia, ib, inn, ikey⟩)).length = j + 1 := by simp; omega
            rcases drop_case hj with ⟨b1, b2⟩ | ⟨c, b1, b2, b3⟩
            · rw [b2, List.take_length] at *
              generalize wd :: f.map (fieldW ⟨K, ia, ib, inn, ikey⟩) = L at *
              repeat (first|((with_reducible apply s1); exact rfl)|(with_reducible first|apply CW.seq|apply CW.block|apply CW.region|apply CW.draw|apply CW.skip|apply CW.exit|apply CW.ret|apply q_then|apply q_then_exit|apply q_then_ret|apply q_block|apply q_block_ret|apply q_block_hit|apply q_ret|apply q_end|apply q_loop_exit|apply q_loop_ret|apply q_loopT_exit|apply q_loopT_ret|apply RW.nil)|((with_reducible apply s3); exact rfl; exact by_k)|((with_reducible apply s2); exact rfl; exact by_k)|((with_reducible apply s4); exact rfl)|((with_reducible apply s5); (first|(focus ((with_reducible apply a_lend); exact cJ1; exact rfl; exact .plain rfl; (focus first | exact rfl | (simp; done) | (simp; omega)); (iterate 2 exact rfl); exact by_sub))|((with_reducible apply (a_nextE (k := f.length) 4)); exact rfl; exact rfl; exact Nat.le_refl _; exact rfl)|exact by_oa); exact by_g)|((with_reducible apply CW.cond_t); exact rfl; exact by_ks)|((with_reducible apply CW.cond_f); exact rfl; exact by_ks)|((with_reducible apply q_block_miss); exact rfl)|(refine And.intro (show chk [] [] _ _ = true by kernel_rfl) ?_))
              refine q_loopT (z + 1) (by omega) (by omega) ?_
              rw [show 2 + (z + 1) = 2 + z + 1 by omega, ← hts]
              exact by_less
            · have hc := hlet c (List.mem_of_getElem? b2)
              have hc1 : c.toNat < 128 := by rcases hc with rfl | rfl | rfl | rfl <;> decide
              have hsn : (wd :: (f.take j).map (fieldW ⟨K, ia, ib, inn, ikey⟩)) ++ [fieldW ⟨K, ia, ib, inn, ikey⟩ c] = wd :: (f.take (j + 1)).map (fieldW ⟨K, ia, ib, inn, ikey⟩) := by
                rw [← take_snoc b2]; simp
              have hql : ∀ x : Str, x = fieldW ⟨K, ia, ib, inn, ikey⟩ c → ((wd :: (f.take j).map (fieldW ⟨K, ia, ib, inn, ikey⟩)) ++ [x]) = wd :: (f.take (j + 1)).map (fieldW ⟨K, ia, ib, inn, ikey⟩) := fun x hx => by rw [hx]; exact hsn
              rcases hc with rfl | rfl | rfl | rfl
              · have hq := hql (114 :: Lib.itoa ia) rfl
                generalize wd :: (f.take j).map (fieldW ⟨K, ia, ib, inn, ikey⟩) = L at *
                repeat (first|((with_reducible apply s1); exact rfl)|(with_reducible first|apply CW.seq|apply CW.block|apply CW.region|apply CW.draw|apply CW.skip|apply CW.exit|apply CW.ret|apply q_then|apply q_then_exit|apply q_then_ret|apply q_block|apply q_block_ret|apply q_block_hit|apply q_ret|apply q_end|apply q_loop_exit|apply q_loop_ret|apply q_loopT_exit|apply q_loopT_ret|apply RW.nil)|((with_reducible apply s3); exact rfl; exact by_k)|((with_reducible apply s2); exact rfl; exact by_k)|((with_reducible apply s4); exact rfl)|((with_reducible apply s5); (first|exact a_call ca rfl by_sub|((with_reducible apply a_bin); exact rfl; exact rfl; exact bin_sadd (by simp; omega); exact rfl)|((with_reducible apply (a_next (k := j) 4)); exact rfl; exact rfl; exact b2; exact hc1; exact rfl)|exact by_oa); exact by_g)|((with_reducible apply CW.cond_t); exact rfl; exact by_ks)|((with_reducible apply CW.cond_f); exact rfl; exact by_ks)|((with_reducible apply q_block_miss); exact rfl)|(refine And.intro (show chk [] [] _ _ = true by kernel_rfl) ?_))
                refine q_loopT (j + 1) (by omega) (by omega) ?_
                rw [← hq]
                exact by_less
              · have hq := hql (114 :: Lib.itoa ib) rfl
                generalize wd :: (f.take j).map (fieldW ⟨K, ia, ib, inn, ikey⟩) = L at *
                repeat (first|((with_reducible apply s1); exact rfl)|(with_reducible first|apply CW.seq|apply CW.block|apply CW.region|apply CW.draw|apply CW.skip|apply CW.exit|apply CW.ret|apply q_then|apply q_then_exit|apply q_then_ret|apply q_block|apply q_block_ret|apply q_block_hit|apply q_ret|apply q_end|apply q_loop_exit|apply q_loop_ret|apply q_loopT_exit|apply q_loopT_ret|apply RW.nil)|((with_reducible apply s3); exact rfl; exact by_k)|((with_reducible apply s2); exact rfl; exact by_k)|((with_reducible apply s4); exact rfl)|((with_reducible apply s5); (first|exact a_call cb rfl by_sub|((with_reducible apply a_bin); exact rfl; exact rfl; exact bin_sadd (by simp; omega); exact rfl)|((with_reducible apply (a_next (k := j) 4)); exact rfl; exact rfl; exact b2; exact hc1; exact rfl)|exact by_oa); exact by_g)|((with_reducible apply CW.cond_t); exact rfl; exact by_ks)|((with_reducible apply CW.cond_f); exact rfl; exact by_ks)|((with_reducible apply q_block_miss); exact rfl)|(refine And.intro (show chk [] [] _ _ = true by kernel_rfl) ?_))
                refine q_loopT (j + 1) (by omega) (by omega) ?_
                rw [← hq]
                exact by_less
              · have hq := hql (Lib.itoa inn) rfl
                generalize wd :: (f.take j).map (fieldW ⟨K, ia, ib, inn, ikey⟩) = L at *
                repeat (first|((with_reducible apply s1); exact rfl)|(with_reducible first|apply CW.seq|apply CW.block|apply CW.region|apply CW.draw|apply CW.skip|apply CW.exit|apply CW.ret|apply q_then|apply q_then_exit|apply q_then_ret|apply q_block|apply q_block_ret|apply q_block_hit|apply q_ret|apply q_end|apply q_loop_exit|apply q_loop_ret|apply q_loopT_exit|apply q_loopT_ret|apply RW.nil)|((with_reducible apply s3); exact rfl; exact by_k)|((with_reducible apply s2); exact rfl; exact by_k)|((with_reducible apply s4); exact rfl)|((with_reducible apply s5); (first|exact a_call cn rfl by_sub|((with_reducible apply (a_next (k := j) 4)); exact rfl; exact rfl; exact b2; exact hc1; exact rfl)|exact by_oa); exact by_g)|((with_reducible apply CW.cond_t); exact rfl; exact by_ks)|((with_reducible apply CW.cond_f); exact rfl; exact by_ks)|((with_reducible apply q_block_miss); exact rfl)|(refine And.intro (show chk [] [] _ _ = true by kernel_rfl) ?_))
                refine q_loopT (j + 1) (by omega) (by omega) ?_
                rw [← hq]
                exact by_less
              · have hq := hql ikey rfl
                generalize wd :: (f.take j).map (fieldW ⟨K, ia, ib, inn, ikey⟩) = L at *
                repeat (first|((with_reducible apply s1); exact rfl)|(with_reducible first|apply CW.seq|apply CW.block|apply CW.region|apply CW.draw|apply CW.skip|apply CW.exit|apply CW.ret|apply q_then|apply q_then_exit|apply q_then_ret|apply q_block|apply q_block_ret|apply q_block_hit|apply q_ret|apply q_end|apply q_loop_exit|apply q_loop_ret|apply q_loopT_exit|apply q_loopT_ret|apply RW.nil)|((with_reducible apply s3); exact rfl; exact by_k)|((with_reducible apply s2); exact rfl; exact by_k)|((with_reducible apply s4); exact rfl)|((with_reducible apply s5); (first|((with_reducible apply (a_next (k := j) 4)); exact rfl; exact rfl; exact b2; exact hc1; exact rfl)|exact by_oa); exact by_g)|((with_reducible apply CW.cond_t); exact rfl; exact by_ks)|((with_reducible apply CW.cond_f); exact rfl; exact by_ks)|((with_reducible apply q_block_miss); exact rfl)|(refine And.intro (show chk [] [] _ _ = true by kernel_rfl) ?_))
                refine q_loopT (j + 1) (by omega) (by omega) ?_
                rw [← hq]
                exact by_less

end Go.Proofs.YtfaaghkgfbhglaaGreatDoor

/-! P16 -/
/-
  A right deed's text is no longer than may be.
-/
namespace Go.Proofs.YtfaaghkgfbhglaaGreatDoor
open Go.AX Go.RF

theorem keysGo_key {l : List Str} : ∀ {r : List Str} {i : Nat}, keysGo l i r = 0 → ∀ k ∈ r, key k = true
  | [], _, _, k, hk => by cases hk
  | x :: r, i, h, k, hk => by
    simp only [keysGo] at h
    split at h
    · cases h
    · next hx =>
      split at h
      · cases h
      · rcases List.mem_cons.1 hk with rfl | hk
        · simpa using hx
        · exact keysGo_key h k hk
theorem wrong_key {d : Deed} (h : wrongDeed d = 0) : (∀ k ∈ d.reads, key k = true) ∧ ∀ k ∈ d.writes, key k = true := by
  unfold wrongDeed at h
  split at h
  · next h0 =>
    simp only [lsGo] at h0
    split at h0
    · next h1 =>
      split at h0
      · next h2 =>
        unfold keysWrong at h1 h2
        split at h1
        · cases h1
        split at h2
        · cases h2
        exact ⟨keysGo_key h1, keysGo_key h2⟩
      · next h2 => exact absurd h0 h2
    · next h1 => exact absurd h0 h1
  · next h0 => exact absurd h h0
theorem nDigits_le : ∀ (k u : Nat), u < 10 ^ (k + 1) → Lib.nDigits u ≤ k + 1
  | 0, u, h => by unfold Lib.nDigits; rw [dif_pos (by simpa using h)]; exact Nat.le_refl _
  | k + 1, u, h => by
    unfold Lib.nDigits
    split
    · omega
    · have := nDigits_le k (u / 10) (by rw [Nat.pow_succ] at h; omega)
      omega
theorem itoa_small {n : Int} (h0 : 0 ≤ n) (h1 : n ≤ 3) : (Lib.itoa n).length ≤ 1 := by
  unfold Lib.itoa
  rw [if_neg (by omega), Lib.decDigits_length]
  exact nDigits_le 0 _ (by omega)
theorem itoa_mid {n : Int} (h0 : -1073741824 ≤ n) (h1 : n ≤ 1073741824) : (Lib.itoa n).length ≤ 11 := by
  unfold Lib.itoa
  split
  · rw [List.length_cons, Lib.decDigits_length]
    have := nDigits_le 9 n.natAbs (by omega)
    omega
  · rw [Lib.decDigits_length]
    have := nDigits_le 9 n.toNat (by omega)
    omega
theorem tailS_le {sep : Str} {m : Nat} : ∀ {l : List Str}, (∀ w ∈ l, w.length ≤ m) → (tailS sep l).length ≤ l.length * (sep.length + m)
  | [], _ => by simp [tailS]
  | w :: l, h => by
    have h1 := h w (List.mem_cons_self ..)
    have h2 := tailS_le (sep := sep) (l := l) fun x hx => h x (List.mem_cons_of_mem _ hx)
    simp only [tailS, List.length_append, List.length_cons]
    rw [Nat.add_mul, Nat.one_mul]
    omega
theorem wrongIns_key {d : Deed} {m : Int} {i : Ins} (h : wrongIns d m i = 0) : i.key = [] ∨ i.key ∈ d.reads ∨ i.key ∈ d.writes := by
  unfold wrongIns at h
  split at h
  · cases h
  split at h
  · cases h
  split at h
  · split at h
    · next h1 => exact .inl h1
    · cases h
  · by_cases hx : isIn (if i.kind = 1 then d.reads else d.writes) i.key = true
    · have := isIn_true hx
      split at this
      · exact .inr (.inl this)
      · exact .inr (.inr this)
    · rw [if_neg hx] at h; cases h
theorem insW_len {d : Deed} (h : wrongDeed d = 0) {i : Ins} (hi : i ∈ d.code) : (joinS [32] (insW i)).length ≤ 20 := by
  have hok := (wrongDeed_ok h).i i hi
  have hn := wrong_n h i hi
  have hkey : i.key.length ≤ 6 := by
    have hw : ∃ m, wrongIns d m i = 0 := by
      unfold wrongDeed at h
      split at h
      · split at h
        · cases h
        · obtain ⟨j, hj⟩ := List.getElem?_of_mem hi
          exact ⟨_, codeGo_mem h j i hj⟩
      · next h1 => exact absurd h h1
    obtain ⟨m, hm⟩ := hw
    obtain ⟨h1, h2⟩ := wrong_key h
    rcases wrongIns_key hm with h3 | h3 | h3
    · rw [h3]; simp
    · exact key_len (h1 _ h3)
    · exact key_len (h2 _ h3)
  have ha := itoa_small hok.a.1 hok.a.2
  have hb := itoa_small hok.b.1 hok.b.2
  have hnn := itoa_mid hn.1 hn.2
  have hk := hok.k
  rw [insW_eq]
  obtain ⟨k, a, b, n, key⟩ := i
  dsimp only at hk hkey ha hb hnn
  obtain ⟨K, rfl⟩ := Int.eq_ofNat_of_zero_le (show 0 ≤ k by omega)
  rw [Int.toNat_natCast]
  match K, hk with
  | 0, hk => omega
  | 1, _ => simp [words, form, forms, tailS, fieldW]; omega
  | 2, _ => simp [words, form, forms, tailS, fieldW]; omega
  | 3, _ => simp [words, form, forms, tailS, fieldW]; omega
  | 4, _ => simp [words, form, forms, tailS, fieldW]; omega
  | 5, _ => simp [words, form, forms, tailS, fieldW]; omega
  | 6, _ => simp [words, form, forms, tailS, fieldW]; omega
  | 7, _ => simp [words, form, forms, tailS, fieldW]; omega
  | 8, _ => simp [words, form, forms, tailS, fieldW]; omega
  | 9, _ => simp [words, form, forms, tailS, fieldW]; omega
  | K + 10, hk => omega
theorem printD_len {d : Deed} (h : wrongDeed d = 0) : (printD d).length ≤ 400 := by
  have hok := wrongDeed_ok h
  obtain ⟨h1, h2⟩ := wrong_key h
  have hr := tailS_le (sep := [32]) (m := 6) fun w hw => key_len (h1 w hw)
  have hw := tailS_le (sep := [32]) (m := 6) fun w hw => key_len (h2 w hw)
  have hc := tailS_le (sep := [59, 32]) (m := 20) (l := d.code.map fun i => joinS [32] (insW i)) fun w hw => by
    obtain ⟨i, hi, rfl⟩ := List.mem_map.1 hw
    exact insW_len h hi
  have l1 := hok.r
  have l2 := hok.w
  have l3 := hok.c
  rw [printD_eq]
  simp only [List.length_append, List.length_map, List.length_cons, List.length_nil] at *
  have e1 : wReads.length = 5 := rfl
  have e2 : wWrites.length = 6 := rfl
  omega

end Go.Proofs.YtfaaghkgfbhglaaGreatDoor

/-! L15 -/
/-
  The law TextTells answers true of whatever data.
-/
namespace Go.Proofs.YtfaaghkgfbhglaaGreatDoor
open Go.AX Go.RF

set_option maxRecDepth 100000
set_option maxHeartbeats 8000000

theorem parseE_ok {s : Str} {d : Deed} (h : parseE s = .ok d) : wrongDeed d = 0 := by
  unfold parseE at h
  split at h
  · cases h
  split at h
  · split at h
    · split at h
      · split at h
        · cases h
        · split at h
          · next h1 => cases h; exact h1
          · cases h
      · cases h
    · cases h
  · cases h
/-- Small enough, however it was read. -/
theorem parseR_sm (s : Str) : (parseR s).1.reads.length ≤ 5 ∧ (parseR s).1.writes.length ≤ 5 ∧ (parseR s).1.code.length ≤ 12 := by
  unfold parseR
  cases h : parseE s with
  | ok d =>
    have := wrongDeed_ok (parseE_ok h)
    exact ⟨this.r, this.w, this.c⟩
  | error e => simp [resE, noDeed]

theorem ok_TextTells (s : Str) (d : Deed) (hs : s.length ≤ 1048576) (hd : d.Sm) : FnOk Tryz.prog 3 [.d (dstr s), .d (.agg d.enc)] (.one (dbool true)) := by
  refine fnOk_of tbl_ok mixed_ok Tryz.func3 rfl (by kernel_rfl) rfl rfl fun w0 own0 => ?_
  have c1 := ok_tparse s (by omega)
  have c2 := ok_parse s (by omega)
  obtain ⟨h1, h2, h3⟩ := parseR_sm s
  have c3 := ok_sameDeed (parseR s).1 (parseR s).1 (by omega) (by omega) (by omega)
  rw [decide_eq_true rfl] at c3
  have c4 := ok_wrongDeed d hd.r hd.w hd.c hd.rk hd.wk
  generalize parseR s = p at *
  by_cases hw : wrongDeed d = 0
  · rw [hw] at c4
    have hl := printD_len hw
    have c5 := ok_tprint d hw hd (by omega)
    have c6 := ok_rprint d hw hd (by omega)
    generalize printD d = t at c5 c6
    repeat (first|((with_reducible apply s1); exact rfl)|(with_reducible first|apply CW.seq|apply CW.block|apply CW.region|apply CW.draw|apply CW.skip|apply CW.exit|apply CW.ret|apply q_then|apply q_then_exit|apply q_then_ret|apply q_block|apply q_block_ret|apply q_block_hit|apply q_ret|apply q_end|apply q_loop_exit|apply q_loop_ret|apply q_loopT_exit|apply q_loopT_ret|apply RW.nil)|((with_reducible apply s3); exact rfl; exact by_k)|((with_reducible apply s2); exact rfl; exact by_k)|((with_reducible apply s4); exact rfl)|((with_reducible apply s5); (first|exact a_call c1 rfl by_sub|exact a_call c2 rfl by_sub|exact a_call c3 rfl by_sub|exact a_call c4 rfl by_sub|exact a_call c5 rfl by_sub|exact a_call c6 rfl by_sub|exact by_oa); exact by_g)|((with_reducible apply CW.cond_t); exact rfl; exact by_ks)|((with_reducible apply CW.cond_f); exact rfl; exact by_ks)|((with_reducible apply q_block_miss); exact rfl)|(refine And.intro (show chk [] [] _ _ = true by kernel_rfl) ?_))
    exact .one (.tmp rfl (.one (.d (dle_bool (by simp)))))
  · generalize wrongDeed d = we at *
    repeat (first|((with_reducible apply s1); exact rfl)|(with_reducible first|apply CW.seq|apply CW.block|apply CW.region|apply CW.draw|apply CW.skip|apply CW.exit|apply CW.ret|apply q_then|apply q_then_exit|apply q_then_ret|apply q_block|apply q_block_ret|apply q_block_hit|apply q_ret|apply q_end|apply q_loop_exit|apply q_loop_ret|apply q_loopT_exit|apply q_loopT_ret|apply RW.nil)|((with_reducible apply s3); exact rfl; exact by_k)|((with_reducible apply s2); exact rfl; exact by_k)|((with_reducible apply s4); exact rfl)|((with_reducible apply s5); (first|exact a_call c1 rfl by_sub|exact a_call c2 rfl by_sub|exact a_call c3 rfl by_sub|exact a_call c4 rfl by_sub|exact by_oa); exact by_g)|((with_reducible apply CW.cond_t); exact rfl; exact by_ks)|((with_reducible apply CW.cond_f); exact rfl; exact by_ks)|((with_reducible apply q_block_miss); exact rfl)|(refine And.intro (show chk [] [] _ _ = true by kernel_rfl) ?_))
    exact .one (.tmp rfl (.one (.d (dle_bool (by simp [hw])))))

end Go.Proofs.YtfaaghkgfbhglaaGreatDoor

/-! AxLaid -/
/-
  What package-level variables hold, out of a row's list of them.
-/
namespace Go.AX
open Go.RowKit

theorem laid_drop {P : Program} {w : World} : ∀ {laid : List (String × DataW Unit)} (i : Nat), laidMet P laid w → laidMet P (laid.drop i) w
  | _, 0, h => h
  | [], _ + 1, h => h
  | (n, d) :: r, i + 1, h => by
    obtain ⟨ps, hv, hnd, hrows⟩ := h
    obtain ⟨g, t, cs, fuel, p, q, _, _, _, _, hq, rfl⟩ := hv
    exact laid_drop i ⟨q, hq, List.Nodup.sublist (List.sublist_append_right _ _) hnd, fun b off hm => hrows b off (List.mem_append_right _ hm)⟩
theorem trod_iface {P : Program} {w : World} {ti : TypeId} {ms : Array (String × TypeId)} {sp : Nat → Bool} {fuel : Nat} {cs : List Value} {nm : String} {d : DataW Unit} {p : List MemPlace} (hi : P.underlying ti = some (.interface ms))
    (h : DataW.trod (fun _ => ()) P w 0 sp false fuel ti cs = some (.iface nm d, p)) : ∃ u v, cs = [.iface u v] := by
  cases fuel with
  | zero => simp [DataW.trod] at h
  | succ n =>
    rcases cs with _ | ⟨c, _ | ⟨c2, r⟩⟩
    · simp [DataW.trod, hi] at h
    · cases c <;> simp [DataW.trod, hi] at h ⊢
    · cases c <;> simp [DataW.trod, hi] at h
/-- A variable of an interface type that the list has, not nil. -/
theorem gl_iface {P : Program} {w : World} {laid rest : List (String × DataW Unit)} {n nm : String} {d : DataW Unit} {g : Nat} {ti : TypeId} {ms : Array (String × TypeId)} (i : Nat) (hi : laid.drop i = (n, .iface nm d) :: rest)
    (hg : P.globalNamed n = some g) (ht : (P.globals[g]?).map (·.type) = some ti) (hu : P.underlying ti = some (.interface ms)) (h : laidMet P laid w) : GlAt P w n fun cs => ∃ tp p, cs = #[.iface tp p] := by
  intro g' hg'
  have h1 := laid_drop i h
  rw [hi] at h1
  obtain ⟨ps, ⟨g0, t0, cs0, f0, p0, q0, hg0, ht0, hv0, hd0, _, _⟩, _⟩ := h1
  obtain rfl := Option.some.inj (hg.symm.trans hg0)
  obtain rfl := Option.some.inj (ht.symm.trans ht0)
  obtain ⟨u, v, hc⟩ := trod_iface hu hd0
  refine ⟨cs0, hv0, u, v, ?_⟩
  rw [← Array.toArray_toList (xs := cs0), hc]
/-- A table that the list has. -/
theorem gl_tab {P : Program} {w : World} {laid rest : List (String × DataW Unit)} {n : String} {k : IntKind} {zs : List Int} {g : Nat} {t e : TypeId} {m : Nat} (i : Nat) (hi : laid.drop i = (n, Lib.tabData k zs) :: rest)
    (hg : P.globalNamed n = some g) (hty : (P.globals[g]?).map (·.type) = some t) (ht : P.underlying t = some (.array m e)) (he : P.underlying e = some (.int k)) (hce : P.cellsOf e = 1) (hct : P.cellsOf t = m) (h : laidMet P laid w) :
    GlAt P w n fun cs => cs = (zs.map fun z => Value.int k z).toArray := by
  intro g' hg'
  have h1 := laid_drop i h
  rw [hi] at h1
  exact ⟨_, Lib.tabIs_of_head hg hty ht he hce hct h1, rfl⟩
/-- A variable of an integer's type. -/
theorem gl_int {P : Program} {w : World} {n : String} {g : Nat} {m : Int} (hg : P.globalNamed n = some g) (h : w.cell? ⟨g, 0, none⟩ = some (.int .i64 m)) : GlAt P w n fun cs => ∃ m, cs[0]? = some (.int .i64 m) := by
  intro g' hg'
  have hx : ∃ cs, w.var? P n = some cs ∧ cs[0]? = some (.int .i64 m) := by
    unfold World.var?
    rw [hg]
    simp only [Option.bind_some]
    unfold World.cell? at h
    simp only at h
    split at h
    · next cs _ _ hh => rw [hh]; exact ⟨cs, rfl, h⟩
    · cases h
  obtain ⟨cs, h1, h2⟩ := hx
  exact ⟨cs, h1, m, h2⟩

end Go.AX
