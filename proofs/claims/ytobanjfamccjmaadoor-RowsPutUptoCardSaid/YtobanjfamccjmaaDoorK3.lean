/-
  Part 3 of what the claim leans on: F2 F5 Eq2 F13 F17 G3 AxFam AxFam2 G8 G11 AxIns G12 G13 G14 AxPin4 R2 F1 F6 F7 F8 F10 F12 F14 F18 F9 F15 F3 F16 F19 F20 F21 G4 P1 P2 P4 ShTrim R3.
-/
import Derived.Test.YtobanjfamccjmaaDoorK2
import Derived.Shelf.Spec.SlicesInsertGrow
import Derived.Maps.AppendAt
import Derived.Lib.SlTrimSet
import Derived.Shelf.Strings.SlTrimAscii
import Derived.Test.YtobanjfamccjmaaDoorProg

/-! F2 -/
/-
  Contracts of the references' functions on rows.
-/
namespace Go.Proofs.YtobanjfamccjmaaDoor
open Go.AX Go.RF

set_option maxRecDepth 100000

theorem ok_get (l : List Pair) (k : Str) (hl : l.length ≤ 1073741824) : FnOk Tryd.prog 13 [.d (encRows l), .d (dstr k)] (.tup [dint (RF.get l k).1, dbool (RF.get l k).2]) := by
  refine fnOk_of tbl_ok mixed_ok Tryd.func13 rfl (by kernel_rfl) rfl rfl fun w0 own0 => ?_
  repeat (first | ((with_reducible apply s1); exact rfl) | (with_reducible first | apply CW.seq | apply CW.block | apply CW.region | apply CW.draw | apply CW.skip | apply CW.exit | apply CW.ret | apply q_then | apply q_then_exit | apply q_then_ret | apply q_block | apply q_block_ret | apply q_block_hit | apply q_ret | apply q_end | apply q_loop_exit | apply q_loop_ret | apply q_loopT_exit | apply q_loopT_ret | apply RW.nil) | ((with_reducible apply s3); exact rfl; exact by_k) | ((with_reducible apply s2); exact rfl; exact by_k) | ((with_reducible apply s4); exact rfl) | ((with_reducible apply s5); (first | exact by_oa); exact by_g) | ((with_reducible apply CW.cond_t); exact rfl; exact by_ks) | ((with_reducible apply CW.cond_f); exact rfl; exact by_ks) | ((with_reducible apply q_block_miss); exact rfl) | (refine And.intro (show chk [] [] _ _ = true by kernel_rfl) ?_))
  refine CW.loopT (fun i : Nat => [(.s 1, .av (.d (dstr k))), (.s 8, .av (.d (encRows l))), (.s 9, .av (.d (dint l.length))), (.s 10, .av (.d (dint i))), (.nx, .num 0)]) (fun i => i ≤ l.length ∧ RF.get (l.drop i) k = RF.get l k) (fun i => l.length - i) 0 ⟨by omega, rfl⟩ ?_ fun i hI => ?_
  ·
    exact by_less
  · obtain ⟨hi, hI⟩ := hI
    rcases drop_case hi with ⟨h1, h2⟩ | ⟨p, h1, h2, h3⟩
    ·
      repeat (first | ((with_reducible apply s1); exact rfl) | (with_reducible first | apply CW.seq | apply CW.block | apply CW.region | apply CW.draw | apply CW.skip | apply CW.exit | apply CW.ret | apply q_then | apply q_then_exit | apply q_then_ret | apply q_block | apply q_block_ret | apply q_block_hit | apply q_ret | apply q_end | apply q_loop_exit | apply q_loop_ret | apply q_loopT_exit | apply q_loopT_ret | apply RW.nil) | ((with_reducible apply s3); exact rfl; exact by_k) | ((with_reducible apply s2); exact rfl; exact by_k) | ((with_reducible apply s4); exact rfl) | ((with_reducible apply s5); (first | exact by_oa); exact by_g) | ((with_reducible apply CW.cond_t); exact rfl; exact by_ks) | ((with_reducible apply CW.cond_f); exact rfl; exact by_ks) | ((with_reducible apply q_block_miss); exact rfl) | (refine And.intro (show chk [] [] _ _ = true by kernel_rfl) ?_))
      rw [h1] at hI
      rw [← hI]
      exact .two (.tmp rfl (.one (.d (.refl _)))) (.tmp rfl (.one (.d (.refl _))))
    · rw [h1] at hI
      simp only [RF.get] at hI
      by_cases h4 : p.key = k
      ·
        repeat (first | ((with_reducible apply s1); exact rfl) | (with_reducible first | apply CW.seq | apply CW.block | apply CW.region | apply CW.draw | apply CW.skip | apply CW.exit | apply CW.ret | apply q_then | apply q_then_exit | apply q_then_ret | apply q_block | apply q_block_ret | apply q_block_hit | apply q_ret | apply q_end | apply q_loop_exit | apply q_loop_ret | apply q_loopT_exit | apply q_loopT_ret | apply RW.nil) | ((with_reducible apply s3); exact rfl; exact by_k) | ((with_reducible apply s2); exact rfl; exact by_k) | ((with_reducible apply s4); exact rfl) | ((with_reducible apply s5); (first | exact by_oa); exact by_g) | ((with_reducible apply CW.cond_t); exact rfl; exact by_ks) | ((with_reducible apply CW.cond_f); exact rfl; exact by_ks) | ((with_reducible apply q_block_miss); exact rfl) | (refine And.intro (show chk [] [] _ _ = true by kernel_rfl) ?_))
        rw [if_pos h4] at hI
        rw [← hI]
        exact .two (.tmp rfl (.one (.d (.refl _)))) (.tmp rfl (.one (.d (.refl _))))
      ·
        repeat (first | ((with_reducible apply s1); exact rfl) | (with_reducible first | apply CW.seq | apply CW.block | apply CW.region | apply CW.draw | apply CW.skip | apply CW.exit | apply CW.ret | apply q_then | apply q_then_exit | apply q_then_ret | apply q_block | apply q_block_ret | apply q_block_hit | apply q_ret | apply q_end | apply q_loop_exit | apply q_loop_ret | apply q_loopT_exit | apply q_loopT_ret | apply RW.nil) | ((with_reducible apply s3); exact rfl; exact by_k) | ((with_reducible apply s2); exact rfl; exact by_k) | ((with_reducible apply s4); exact rfl) | ((with_reducible apply s5); (first | exact by_oa); exact by_g) | ((with_reducible apply CW.cond_t); exact rfl; exact by_ks) | ((with_reducible apply CW.cond_f); exact rfl; exact by_ks) | ((with_reducible apply q_block_miss); exact rfl) | (refine And.intro (show chk [] [] _ _ = true by kernel_rfl) ?_))
        rw [if_neg h4] at hI
        refine q_loopT (i + 1) ⟨by omega, hI⟩ (by omega) ?_
        exact by_less

theorem ok_key (s : Str) (hl : s.length ≤ 1073741824) : FnOk Tryd.prog 7 [.d (dstr s)] (.one (dbool (key s))) := by
  refine fnOk_of tbl_ok mixed_ok Tryd.func7 rfl (by kernel_rfl) rfl rfl fun w0 own0 => ?_
  repeat (first | ((with_reducible apply s1); exact rfl) | (with_reducible first | apply CW.seq | apply CW.block | apply CW.region | apply CW.draw | apply CW.skip | apply CW.exit | apply CW.ret | apply q_then | apply q_then_exit | apply q_then_ret | apply q_block | apply q_block_ret | apply q_block_hit | apply q_ret | apply q_end | apply q_loop_exit | apply q_loop_ret | apply q_loopT_exit | apply q_loopT_ret | apply RW.nil) | ((with_reducible apply s3); exact rfl; exact by_k) | ((with_reducible apply s2); exact rfl; exact by_k) | ((with_reducible apply s4); exact rfl) | ((with_reducible apply s5); (first | exact by_oa); exact by_g) | ((with_reducible apply CW.cond_t); exact rfl; exact by_ks) | ((with_reducible apply CW.cond_f); exact rfl; exact by_ks) | ((with_reducible apply q_block_miss); exact rfl) | (refine And.intro (show chk [] [] _ _ = true by kernel_rfl) ?_))
  refine CW.loopT (fun i : Nat => [(.s 0, .av (.d (dstr s))), (.s 5, .av (.d (dint s.length))), (.s 6, .av (.d (dint i))), (.nx, .num 0)]) (fun i => i ≤ s.length ∧ keyGo s (s.drop i) = key s) (fun i => s.length - i) 0 ⟨by omega, rfl⟩ ?_ fun i hI => ?_
  ·
    exact by_less
  · obtain ⟨hi, hI⟩ := hI
    rcases drop_case hi with ⟨h1, h2⟩ | ⟨c, h1, h2, h3⟩
    · rw [h1] at hI
      simp only [keyGo] at hI
      by_cases h4 : 0 < s.length
      ·
        repeat (first | ((with_reducible apply s1); exact rfl) | (with_reducible first | apply CW.seq | apply CW.block | apply CW.region | apply CW.draw | apply CW.skip | apply CW.exit | apply CW.ret | apply q_then | apply q_then_exit | apply q_then_ret | apply q_block | apply q_block_ret | apply q_block_hit | apply q_ret | apply q_end | apply q_loop_exit | apply q_loop_ret | apply q_loopT_exit | apply q_loopT_ret | apply RW.nil) | ((with_reducible apply s3); exact rfl; exact by_k) | ((with_reducible apply s2); exact rfl; exact by_k) | ((with_reducible apply s4); exact rfl) | ((with_reducible apply s5); (first | exact by_oa); exact by_g) | ((with_reducible apply CW.cond_t); exact rfl; exact by_ks) | ((with_reducible apply CW.cond_f); exact rfl; exact by_ks) | ((with_reducible apply q_block_miss); exact rfl) | (refine And.intro (show chk [] [] _ _ = true by kernel_rfl) ?_))
        exact .one (.tmp rfl (.one (.d (dle_bool (by rw [← hI]; simp [h4]; omega)))))
      ·
        repeat (first | ((with_reducible apply s1); exact rfl) | (with_reducible first | apply CW.seq | apply CW.block | apply CW.region | apply CW.draw | apply CW.skip | apply CW.exit | apply CW.ret | apply q_then | apply q_then_exit | apply q_then_ret | apply q_block | apply q_block_ret | apply q_block_hit | apply q_ret | apply q_end | apply q_loop_exit | apply q_loop_ret | apply q_loopT_exit | apply q_loopT_ret | apply RW.nil) | ((with_reducible apply s3); exact rfl; exact by_k) | ((with_reducible apply s2); exact rfl; exact by_k) | ((with_reducible apply s4); exact rfl) | ((with_reducible apply s5); (first | exact by_oa); exact by_g) | ((with_reducible apply CW.cond_t); exact rfl; exact by_ks) | ((with_reducible apply CW.cond_f); exact rfl; exact by_ks) | ((with_reducible apply q_block_miss); exact rfl) | (refine And.intro (show chk [] [] _ _ = true by kernel_rfl) ?_))
        exact .one (.tmp rfl (.one (.d (dle_bool (by rw [← hI]; simp [h4])))))
    · rw [h1] at hI
      simp only [keyGo] at hI
      by_cases h4 : (c.toNat : Int) < 97
      ·
        repeat (first | ((with_reducible apply s1); exact rfl) | (with_reducible first | apply CW.seq | apply CW.block | apply CW.region | apply CW.draw | apply CW.skip | apply CW.exit | apply CW.ret | apply q_then | apply q_then_exit | apply q_then_ret | apply q_block | apply q_block_ret | apply q_block_hit | apply q_ret | apply q_end | apply q_loop_exit | apply q_loop_ret | apply q_loopT_exit | apply q_loopT_ret | apply RW.nil) | ((with_reducible apply s3); exact rfl; exact by_k) | ((with_reducible apply s2); exact rfl; exact by_k) | ((with_reducible apply s4); exact rfl) | ((with_reducible apply s5); (first | exact by_oa); exact by_g) | ((with_reducible apply CW.cond_t); exact rfl; exact by_ks) | ((with_reducible apply CW.cond_f); exact rfl; exact by_ks) | ((with_reducible apply q_block_miss); exact rfl) | (refine And.intro (show chk [] [] _ _ = true by kernel_rfl) ?_))
        rw [if_pos (by simp only [bad, h4]; rfl)] at hI
        exact .one (.tmp rfl (.one (.d (dle_bool hI))))
      · by_cases h5 : (122 : Int) < (c.toNat : Int)
        ·
          repeat (first | ((with_reducible apply s1); exact rfl) | (with_reducible first | apply CW.seq | apply CW.block | apply CW.region | apply CW.draw | apply CW.skip | apply CW.exit | apply CW.ret | apply q_then | apply q_then_exit | apply q_then_ret | apply q_block | apply q_block_ret | apply q_block_hit | apply q_ret | apply q_end | apply q_loop_exit | apply q_loop_ret | apply q_loopT_exit | apply q_loopT_ret | apply RW.nil) | ((with_reducible apply s3); exact rfl; exact by_k) | ((with_reducible apply s2); exact rfl; exact by_k) | ((with_reducible apply s4); exact rfl) | ((with_reducible apply s5); (first | exact by_oa); exact by_g) | ((with_reducible apply CW.cond_t); exact rfl; exact by_ks) | ((with_reducible apply CW.cond_f); exact rfl; exact by_ks) | ((with_reducible apply q_block_miss); exact rfl) | (refine And.intro (show chk [] [] _ _ = true by kernel_rfl) ?_))
          rw [if_pos (by simp [bad, h5])] at hI
          exact .one (.tmp rfl (.one (.d (dle_bool hI))))
        ·
          repeat (first | ((with_reducible apply s1); exact rfl) | (with_reducible first | apply CW.seq | apply CW.block | apply CW.region | apply CW.draw | apply CW.skip | apply CW.exit | apply CW.ret | apply q_then | apply q_then_exit | apply q_then_ret | apply q_block | apply q_block_ret | apply q_block_hit | apply q_ret | apply q_end | apply q_loop_exit | apply q_loop_ret | apply q_loopT_exit | apply q_loopT_ret | apply RW.nil) | ((with_reducible apply s3); exact rfl; exact by_k) | ((with_reducible apply s2); exact rfl; exact by_k) | ((with_reducible apply s4); exact rfl) | ((with_reducible apply s5); (first | exact by_oa); exact by_g) | ((with_reducible apply CW.cond_t); exact rfl; exact by_ks) | ((with_reducible apply CW.cond_f); exact rfl; exact by_ks) | ((with_reducible apply q_block_miss); exact rfl) | (refine And.intro (show chk [] [] _ _ = true by kernel_rfl) ?_))
          rw [if_neg (by simp [bad]; omega)] at hI
          refine q_loopT (i + 1) ⟨by omega, hI⟩ (by omega) ?_
          exact by_less

theorem ok_round (n : Int) (hn : -4611686018427387904 ≤ n ∧ n ≤ 4611686018427387904) : FnOk Tryd.prog 11 [.d (dint n)] (.one (dint (round n))) := by
  refine fnOk_of tbl_ok mixed_ok Tryd.func11 rfl (by kernel_rfl) rfl rfl fun w0 own0 => ?_
  have h1 : n.tdiv 1073741825 * 1073741825 + n.tmod 1073741825 = n := Int.tdiv_mul_add_tmod n 1073741825
  have h2 : n.tmod 1073741825 < 1073741825 := Int.tmod_lt_of_pos n (by omega)
  have h3 : -1073741825 < n.tmod 1073741825 := by
    have := Int.neg_le_neg (Int.le_of_lt (Int.tmod_lt_of_pos (-n) (show (0 : Int) < 1073741825 by omega)))
    have h4 := Int.tmod_lt_of_pos (-n) (show (0 : Int) < 1073741825 by omega)
    rw [Int.neg_tmod] at h4
    omega
  repeat (first | ((with_reducible apply st_bin); exact rfl; exact rfl; (first | (apply bin_quo; omega; omega) | (apply bin_mul; omega) | (apply bin_sub; omega)); exact .none rfl; exact rfl) | ((with_reducible apply s1); exact rfl) | (with_reducible first | apply CW.seq | apply CW.block | apply CW.region | apply CW.draw | apply CW.skip | apply CW.exit | apply CW.ret | apply q_then | apply q_then_exit | apply q_then_ret | apply q_block | apply q_block_ret | apply q_block_hit | apply q_ret | apply q_end | apply q_loop_exit | apply q_loop_ret | apply q_loopT_exit | apply q_loopT_ret | apply RW.nil) | ((with_reducible apply s3); exact rfl; exact by_k) | ((with_reducible apply s2); exact rfl; exact by_k) | ((with_reducible apply s4); exact rfl) | ((with_reducible apply s5); (first | exact by_oa); exact by_g) | ((with_reducible apply CW.cond_t); exact rfl; exact by_ks) | ((with_reducible apply CW.cond_f); exact rfl; exact by_ks) | ((with_reducible apply q_block_miss); exact rfl) | (refine And.intro (show chk [] [] _ _ = true by kernel_rfl) ?_))
  exact .one (.tmp rfl (.one (.d (.refl _))))

theorem form_at {k : Nat} (h : k < 10) : forms[k]? = some (form k) := by
  simp [form, List.getD_eq_getElem?_getD, List.getElem?_eq_getElem (show k < forms.length from h)]

theorem form_len (k : Nat) : (form k).length ≤ 2 := by
  rcases Nat.lt_or_ge k 10 with h | h
  · have : ∀ k : Fin 10, (form k).length ≤ 2 := by decide
    exact this ⟨k, h⟩
  · simp [form, List.getD_eq_getElem?_getD, List.getElem?_eq_none (show forms.length ≤ k from h)]

end Go.Proofs.YtobanjfamccjmaaDoor

/-! F5 -/
/-
  Contract of the references' WrongDeed.
-/
namespace Go.Proofs.YtobanjfamccjmaaDoor
open Go.AX Go.RF

set_option maxRecDepth 100000
set_option maxHeartbeats 4000000

theorem ls_first {l : List Str} {r : List (List Str)} {v : Int} (h : lsGo (l :: r) = v) : (keysWrong l = 0 ∧ lsGo r = v) ∨ (keysWrong l ≠ 0 ∧ keysWrong l = v) := by
  simp only [lsGo] at h
  split at h
  · next h0 => exact .inl ⟨h0, h⟩
  · next h0 => exact .inr ⟨h0, h⟩

end Go.Proofs.YtobanjfamccjmaaDoor

/-! Eq2 -/
/-
  Ends held against each other.
-/
namespace Go.Proofs.YtobanjfamccjmaaDoor
open Go.AX Go.RF

def Done.vals (e : Done) : List Value := [.bool e.failed, i64 e.r0, i64 e.r1, i64 e.r2, i64 e.r3]

end Go.Proofs.YtobanjfamccjmaaDoor

/-! F13 -/
/-
  Contract of the references' Add.
-/
namespace Go.Proofs.YtobanjfamccjmaaDoor
open Go.AX Go.RF

set_option maxRecDepth 100000
set_option maxHeartbeats 4000000

end Go.Proofs.YtobanjfamccjmaaDoor

/-! F17 -/
/-
  Contract of the references' Add of deeds to engines.
-/
namespace Go.Proofs.YtobanjfamccjmaaDoor
open Go.AX Go.RF

set_option maxRecDepth 100000
set_option maxHeartbeats 8000000

/-- How large an engine is, at most. -/
structure Engine.Sz (e : Engine) (N : Nat) : Prop where
  c : e.chains.length ≤ N
  v : ∀ c ∈ e.chains, c.vs.length ≤ N
  d : e.deeds.length ≤ N
  s : e.state.length = e.deeds.length
  n : e.ends.length = e.deeds.length
  b : 0 ≤ e.base ∧ e.base + e.deeds.length ≤ N
  dd : ∀ d ∈ e.deeds, d.Sm
theorem Engine.Sz.sm {e : Engine} {N : Nat} (h : Engine.Sz e N) (hN : N ≤ 134217728) : e.Sm :=
  ⟨by have := h.c; omega, fun c hc => by have := h.v c hc; omega, by have := h.d; omega, by have := h.d; have := h.s; omega, by have := h.d; have := h.n; omega, by have := h.b; omega, h.dd⟩

theorem addGo_len {k : Str} {b : Int} : ∀ (l : List Chain) (dn : Bool) (out : List Chain), (addGo k b dn out l).length ≤ out.length + 2 * l.length + 1
  | [], dn, out => by
    simp only [addGo]
    split <;> simp
  | c :: l, dn, out => by
    simp only [addGo]
    split
    · refine Nat.le_trans (addGo_len l _ _) ?_
      split <;> simp <;> omega
    · refine Nat.le_trans (addGo_len l _ _) ?_
      split <;> simp <;> omega
theorem addGo_true {k : Str} {b : Int} : ∀ (l out : List Chain), (addGo k b true out l).length = out.length + l.length
  | [], out => by simp [addGo]
  | c :: l, out => by
    simp only [addGo, Bool.not_true, Bool.false_and, Bool.true_or]
    split
    · rw [addGo_true l]; simp; omega
    · rw [addGo_true l]; simp; omega
theorem addGo_false {k : Str} {b : Int} : ∀ (l out : List Chain), (addGo k b false out l).length ≤ out.length + l.length + 1
  | [], out => by simp [addGo]
  | c :: l, out => by
    simp only [addGo, Bool.not_false, Bool.true_and, Bool.false_or]
    by_cases h : (!(slt c.key k || decide (c.key = k))) = true
    · rw [h]
      simp only [if_true]
      split
      · rw [addGo_true l]; simp; omega
      · rw [addGo_true l]; simp; omega
    · rw [show (!(slt c.key k || decide (c.key = k))) = false by simpa using h]
      simp only [Bool.false_eq_true, if_false]
      split
      · rw [addGo_true l]; simp; omega
      · refine Nat.le_trans (addGo_false l _) ?_
        simp; omega
theorem addC_len (l : List Chain) (k : Str) (b : Int) : (addC l k b).length ≤ l.length + 1 := by
  have := addGo_false (k := k) (b := b) l []
  unfold addC
  simpa using this
theorem addGo_vs {k : Str} {b : Int} {M : Nat} : ∀ {l : List Chain} {dn : Bool} {out : List Chain}, (∀ c ∈ l, c.vs.length ≤ M) → (∀ c ∈ out, c.vs.length ≤ M + 1) → ∀ c ∈ addGo k b dn out l, c.vs.length ≤ M + 1
  | [], dn, out, _, ho, c, hc => by
    simp only [addGo] at hc
    split at hc
    · exact ho c hc
    · rcases List.mem_append.1 hc with hc | hc
      · exact ho c hc
      · simp at hc; subst hc; simp
  | x :: l, dn, out, hl, ho, c, hc => by
    simp only [addGo] at hc
    have h1 : ∀ (g : Bool), ∀ c ∈ (if g = true then out ++ [⟨k, [⟨b, false, false, 0⟩]⟩] else out), c.vs.length ≤ M + 1 := by
      intro g c hc
      split at hc
      · rcases List.mem_append.1 hc with hc | hc
        · exact ho c hc
        · simp at hc; subst hc; simp
      · exact ho c hc
    have hx := hl x (List.mem_cons_self ..)
    split at hc
    · refine addGo_vs (fun c hc => hl c (List.mem_cons_of_mem _ hc)) (fun c hc => ?_) c hc
      rcases List.mem_append.1 hc with hc | hc
      · exact h1 _ c hc
      · simp at hc; subst hc; simp; omega
    · refine addGo_vs (fun c hc => hl c (List.mem_cons_of_mem _ hc)) (fun c hc => ?_) c hc
      rcases List.mem_append.1 hc with hc | hc
      · exact h1 _ c hc
      · simp at hc; subst hc; omega
theorem addC_vs {l : List Chain} {k : Str} {b : Int} {M : Nat} (h : ∀ c ∈ l, c.vs.length ≤ M) : ∀ c ∈ addC l k b, c.vs.length ≤ M + 1 := addGo_vs h (by simp)
theorem addKeys_sz {b : Int} {M : Nat} : ∀ {ks : List Str} {l : List Chain} {n : Nat}, l.length ≤ n → (∀ c ∈ l, c.vs.length ≤ M) → (addKeys b l ks).length ≤ n + ks.length ∧ ∀ c ∈ addKeys b l ks, c.vs.length ≤ M + ks.length
  | [], l, n, h1, h2 => ⟨h1, h2⟩
  | k :: ks, l, n, h1, h2 => by
    have := addKeys_sz (b := b) (M := M + 1) (ks := ks) (l := addC l k b) (n := n + 1) (Nat.le_trans (addC_len l k b) (by omega)) (addC_vs h2)
    refine ⟨by simp only [addKeys, List.length_cons]; omega, fun c hc => ?_⟩
    have := this.2 c hc
    simp; omega
theorem add1_sz {e : Engine} {N : Nat} (h : Engine.Sz e N) {d : Deed} (hd : d.Sm) (hw : d.writes.length ≤ 5) : Engine.Sz (add1 e d) (N + 5) := by
  have := addKeys_sz (b := e.base + e.deeds.length) (ks := d.writes) h.c h.v
  refine ⟨by have := this.1; simp only [add1]; omega, fun c hc => by have := this.2 c hc; omega, ?_, ?_, ?_, ?_, ?_⟩
  · have := h.d; simp [add1]; omega
  · have := h.s; simp [add1, this]
  · have := h.n; simp [add1, this]
  · have := h.b; simp [add1]; omega
  · intro x hx
    rcases List.mem_append.1 hx with hx | hx
    · exact h.dd x hx
    · simp at hx; subst hx; exact hd

theorem wrong_writes {d : Deed} (h : wrongDeed d = 0) : d.reads.length ≤ 5 ∧ d.writes.length ≤ 5 ∧ d.code.length ≤ 12 := by
  unfold wrongDeed at h
  by_cases h0 : lsGo [d.reads, d.writes] = 0
  · rw [if_pos h0] at h
    simp only [lsGo] at h0
    have hc : d.code.length ≤ 12 := by
      by_cases hc : 12 < d.code.length
      · rw [if_pos hc] at h; simp at h
      · omega
    have key : ∀ l : List Str, keysWrong l = 0 → l.length ≤ 5 := by
      intro l hl
      unfold keysWrong at hl
      by_cases h5 : 5 < l.length
      · rw [if_pos h5] at hl; simp at hl
      · omega
    by_cases h1 : keysWrong d.reads = 0
    · rw [if_pos h1] at h0
      by_cases h2 : keysWrong d.writes = 0
      · exact ⟨key _ h1, key _ h2, hc⟩
      · rw [if_neg h2] at h0; exact absurd h0 h2
    · rw [if_neg h1] at h0; exact absurd h0 h1
  · rw [if_neg h0] at h; exact absurd h h0
theorem wrongs_mem : ∀ {l : List Deed}, wrongs l = 0 → ∀ d ∈ l, wrongDeed d = 0
  | [], _, d, hd => by cases hd
  | x :: l, h, d, hd => by
    simp only [wrongs] at h
    by_cases h0 : wrongDeed x = 0
    · rw [if_pos h0] at h
      rcases List.mem_cons.1 hd with rfl | hd
      · exact h0
      · exact wrongs_mem h d hd
    · rw [if_neg h0] at h; exact absurd h h0

end Go.Proofs.YtobanjfamccjmaaDoor

/-! G3 -/
/-
  Contracts of the program's copies, and of what it counts in engines.
-/
namespace Go.Proofs.YtobanjfamccjmaaDoor
open Go.AX Go.RF

set_option maxRecDepth 100000
set_option maxHeartbeats 4000000

end Go.Proofs.YtobanjfamccjmaaDoor

/-! AxFam -/
/-
  A region in whatever order, one of whose operations may leave one of many states: all that stand behind it in the text wait for it.
-/
namespace Go.AX
open Go.RowKit

variable {cx : Cx} {σ σ' : St} {a a' : Act} {w w' : World} {ops : Array Oper}

theorem wpAny_but {ts : List Tr} {s0 : Nat} {Q : Exit → Act → World → Prop} (hA : ∀ i o, ops[i]? = some o → i ≠ s0 → ∃ t, ts[i]? = some t ∧ TrOk cx ops o t) (hlen : ts.length = ops.size) (hfit : Fit ops.toList ts) :
    ∀ (fuel : Nat) (listed : Array Bool) (σ : St) (a : Act) (w : World), listed.size = ops.size → listed.getD s0 true = true → Closed ops listed → Run (left ts listed 0) σ → (left ts listed 0).length = fuel → Sim cx σ a w →
      (∀ a' w', Sim cx (fin (left ts listed 0) σ) a' w' → Q .normal a' w') → wpAny cx.P .any ops Q fuel listed a w := by
  intro fuel
  induction fuel with
  | zero =>
    intro listed σ a w hsz hls hcl hrun hl hs hq
    have hnil : left ts listed 0 = [] := List.eq_nil_of_length_eq_zero hl
    refine ⟨?_, hq a w (by rw [hnil]; exact hs)⟩
    refine List.eq_nil_iff_forall_not_mem.2 fun i hi => ?_
    obtain ⟨h1, o, ho, _⟩ := mem_ready.1 hi
    have := left_nil hnil i (by rw [hlen]; exact (Array.getElem?_eq_some_iff.1 ho).1)
    rw [Nat.zero_add, h1] at this
    cases this
  | succ fuel ih =>
    intro listed σ a w hsz hls hcl hrun hl hs hq
    refine ⟨fun hr => ?_, fun i hi => ?_⟩
    · have hne : left ts listed 0 ≠ [] := by intro e; rw [e] at hl; simp at hl
      obtain ⟨i, h1, h2, h3⟩ := left_ne hne
      rw [Nat.zero_add] at h2
      have hi : i < ops.size := by omega
      have hm : i ∈ Region.ready .any ops listed := mem_ready.2 ⟨h2, ops[i], Array.getElem?_eq_getElem hi, fun j hj => by
        have hj' := hfit.down i ops[i] (by simp [hi]) j hj
        have := h3 j hj'
        rw [Nat.zero_add] at this
        rw [← getD_tf (by omega)]; exact this⟩
      rw [hr] at hm
      cases hm
    · obtain ⟨h1, o, ho, h2⟩ := mem_ready.1 hi
      have hi' : i < ops.size := (Array.getElem?_eq_some_iff.1 ho).1
      have his : i ≠ s0 := fun e => by subst e; rw [hls] at h1; cases h1
      obtain ⟨t, ht, htr⟩ := hA i o ho his
      obtain ⟨pre, post, h3, h4, h5⟩ := left_split (k := 0) ht (by rw [Nat.zero_add]; exact h1) (by omega)
      rw [Nat.zero_add] at h4
      rw [h3] at hrun hq hl
      have hap : ∀ s ∈ pre, Apart s t := by
        intro s hsm
        obtain ⟨j, h6, h7, h8⟩ := h5 s hsm
        rw [Nat.zero_add] at h8
        rcases hfit.apart i j s t h6 h7 ht with h9 | h9
        · exfalso
          have hanc : ∀ m, m ∈ edges o → Anc ops.toList j m → False := fun m hm hma => by
            have hml : listed.getD m false = true := h2 m hm
            have hms := hfit.down i o (by simpa using ho) m hm
            have := hcl.anc hsz hma (by rw [getD_tf (by omega)]; exact hml) (by omega)
            rw [← getD_tf (by omega)] at this
            rw [h8] at this; cases this
          cases h9 with
          | one ho' h =>
            rw [show ops.toList[i]? = some o by simpa using ho] at ho'
            cases ho'
            have := h2 j h
            rw [← getD_tf (by omega)] at this
            rw [h8] at this; cases this
          | step ho' h hm =>
            rw [show ops.toList[i]? = some o by simpa using ho] at ho'
            cases ho'
            exact hanc _ h hm
        · exact h9
      obtain ⟨h6, h7⟩ := Run.front hap hrun
      unfold wpOp
      rw [ho]
      have hstep := htr σ a w (wpAny cx.P .any ops Q fuel (listed.setIfInBounds i true)) Q hs h6.1 fun a' w' hs' => by
        refine ih _ _ a' w' (by simp [hsz]) (by simpa only [Array.getD_eq_getD_getElem?, Array.getElem?_setIfInBounds, if_neg his] using hls) (fun i' o' ho' hi2 hli j hj => ?_) (by rw [h4]; exact h6.2) (by rw [h4]; simp at hl ⊢; omega) hs' (fun a2 w2 hs2 => hq a2 w2 ?_)
        · by_cases he : i' = i
          · subst he
            rw [ho] at ho'
            cases ho'
            have hne : j ≠ i' := fun e => by have := hfit.down i' o (by simpa using ho) j hj; omega
            simp only [Array.getD_eq_getD_getElem?, Array.getElem?_setIfInBounds, if_neg (show ¬ i' = j from fun e => hne e.symm)]
            simpa only [Array.getD_eq_getD_getElem?] using h2 j hj
          · have hli' : listed.getD i' true = true := by
              simpa only [Array.getD_eq_getD_getElem?, Array.getElem?_setIfInBounds, if_neg (show ¬ i = i' from fun e => he e.symm)] using hli
            have hjl := hcl i' o' ho' (by simpa using hi2) hli' j hj
            by_cases hji : i = j
            · subst hji
              simp [Array.getD_eq_getD_getElem?, hsz, hi']
            · simpa only [Array.getD_eq_getD_getElem?, Array.getElem?_setIfInBounds, if_neg hji] using hjl
        · rw [h4] at hs2
          exact hs2.eqv h7.symm
      dsimp only
      split
      · rename_i hw; rw [if_pos hw] at hstep; exact .inl hstep
      · rename_i hw; rw [if_neg hw] at hstep; exact hstep


theorem wpAny_fam {ι : Type} {ts : ι → List Tr} {s0 : Nat} {os : Oper} {rs : List (Key × Val)} {Q : Exit → Act → World → Prop} (x0 : ι) (hA : ∀ x i o, ops[i]? = some o → i ≠ s0 → ∃ t, (ts x)[i]? = some t ∧ TrOk cx ops o t)
    (hpre : ∀ x i, i < s0 → (ts x)[i]? = (ts x0)[i]?) (hlen : ∀ x, (ts x).length = ops.size) (hfit : ∀ x, Fit ops.toList (ts x))
    (hos : ops[s0]? = some os) (hgs : os.guard = none) (hrs : ∀ x, ∃ t, (ts x)[s0]? = some t ∧ t.rd = rs)
    (hsp : ∀ (σ : St) (a : Act) (w : World) (K : Act → World → Prop) (Q : Exit → Act → World → Prop), Sim cx σ a w → App σ rs → (∀ x t a' w', (ts x)[s0]? = some t → Sim cx (t.wr ++ σ) a' w' → K a' w') → os.wp cx.P a w K Q)
    (hanc : ∀ i, s0 < i → i < ops.size → Anc ops.toList s0 i) :
    ∀ (fuel : Nat) (listed : Array Bool) (σ : St) (a : Act) (w : World), listed.size = ops.size → listed.getD s0 true = false → Closed ops listed → (∀ x, Run (left (ts x) listed 0) σ) → (∀ x, (left (ts x) listed 0).length = fuel) → Sim cx σ a w →
      (∀ x a' w', Sim cx (fin (left (ts x) listed 0) σ) a' w' → Q .normal a' w') → wpAny cx.P .any ops Q fuel listed a w := by
  intro fuel
  induction fuel with
  | zero =>
    intro listed σ a w hsz hls hcl hrun hl hs hq
    have hnil : left (ts x0) listed 0 = [] := List.eq_nil_of_length_eq_zero (hl x0)
    have := left_nil hnil s0 (by rw [hlen]; exact (Array.getElem?_eq_some_iff.1 hos).1)
    rw [Nat.zero_add, hls] at this
    cases this
  | succ fuel ih =>
    intro listed σ a w hsz hls hcl hrun hl hs hq
    refine ⟨fun hr => ?_, fun i hi => ?_⟩
    · have hne : left (ts x0) listed 0 ≠ [] := by intro e; have := hl x0; rw [e] at this; simp at this
      obtain ⟨i, h1, h2, h3⟩ := left_ne hne
      rw [Nat.zero_add] at h2
      have hi : i < ops.size := by have := hlen x0; omega
      have hm : i ∈ Region.ready .any ops listed := mem_ready.2 ⟨h2, ops[i], Array.getElem?_eq_getElem hi, fun j hj => by
        have hj' := (hfit x0).down i ops[i] (by simp [hi]) j hj
        have := h3 j hj'
        rw [Nat.zero_add] at this
        rw [← getD_tf (by omega)]; exact this⟩
      rw [hr] at hm
      cases hm
    · obtain ⟨h1, o, ho, h2⟩ := mem_ready.1 hi
      have hi' : i < ops.size := (Array.getElem?_eq_some_iff.1 ho).1
      -- the listed places are closed still
      have hcl' : Closed ops (listed.setIfInBounds i true) := fun i' o' ho' hi2 hli j hj => by
        by_cases he : i' = i
        · subst he
          rw [ho] at ho'
          cases ho'
          have hne : j ≠ i' := fun e => by have := (hfit x0).down i' o (by simpa using ho) j hj; omega
          simp only [Array.getD_eq_getD_getElem?, Array.getElem?_setIfInBounds, if_neg (show ¬ i' = j from fun e => hne e.symm)]
          simpa only [Array.getD_eq_getD_getElem?] using h2 j hj
        · have hli' : listed.getD i' true = true := by
            simpa only [Array.getD_eq_getD_getElem?, Array.getElem?_setIfInBounds, if_neg (show ¬ i = i' from fun e => he e.symm)] using hli
          have hjl := hcl i' o' ho' (by simpa using hi2) hli' j hj
          by_cases hji : i = j
          · subst hji
            simp [Array.getD_eq_getD_getElem?, hsz, hi']
          · simpa only [Array.getD_eq_getD_getElem?, Array.getElem?_setIfInBounds, if_neg hji] using hjl
      -- what stands ahead of it in the text, and is still to come, is apart from it
      have hapx : ∀ (x : ι) (t : Tr) (pre : List Tr), (ts x)[i]? = some t → (∀ s ∈ pre, ∃ j, j < i ∧ (ts x)[j]? = some s ∧ listed.getD (0 + j) true = false) → ∀ s ∈ pre, Apart s t := by
        intro x t pre ht h5 s hsm
        obtain ⟨j, h6, h7, h8⟩ := h5 s hsm
        rw [Nat.zero_add] at h8
        rcases (hfit x).apart i j s t h6 h7 ht with h9 | h9
        · exfalso
          have hanc2 : ∀ m, m ∈ edges o → Anc ops.toList j m → False := fun m hm hma => by
            have hml : listed.getD m false = true := h2 m hm
            have hms := (hfit x).down i o (by simpa using ho) m hm
            have := hcl.anc hsz hma (by rw [getD_tf (by omega)]; exact hml) (by omega)
            rw [← getD_tf (by omega)] at this
            rw [h8] at this; cases this
          cases h9 with
          | one ho' h =>
            rw [show ops.toList[i]? = some o by simpa using ho] at ho'
            cases ho'
            have := h2 j h
            rw [← getD_tf (by omega)] at this
            rw [h8] at this; cases this
          | step ho' h hm =>
            rw [show ops.toList[i]? = some o by simpa using ho] at ho'
            cases ho'
            exact hanc2 _ h hm
        · exact h9
      by_cases his : i = s0
      · -- the special one
        subst his
        rw [hos] at ho
        cases ho
        unfold wpOp
        rw [hos]
        have hrs0 : App σ rs := by
          obtain ⟨t, ht, htr⟩ := hrs x0
          obtain ⟨pre, post, h3, h4, h5⟩ := left_split (k := 0) ht (by rw [Nat.zero_add]; exact h1) (by omega)
          have hr0 := hrun x0
          rw [h3] at hr0
          have := (Run.front (hapx x0 t pre ht h5) hr0).1.1
          rwa [htr] at this
        have hstep := hsp σ a w (wpAny cx.P .any ops Q fuel (listed.setIfInBounds i true)) Q hs hrs0 fun x t a' w' ht hs' => by
          obtain ⟨pre, post, h3, h4, h5⟩ := left_split (k := 0) ht (by rw [Nat.zero_add]; exact h1) (by omega)
          rw [Nat.zero_add] at h4
          have hr0 := hrun x
          have hl0 := hl x
          rw [h3] at hr0 hl0
          obtain ⟨h6, h7⟩ := Run.front (hapx x t pre ht h5) hr0
          refine wpAny_but (s0 := i) (hA x) (hlen x) (hfit x) fuel _ _ a' w' (by simp [hsz]) (by simp [Array.getD_eq_getD_getElem?, hsz, hi']) hcl' (by rw [h4]; exact h6.2) (by rw [h4]; simp at hl0 ⊢; omega) hs' fun a2 w2 hs2 => hq x a2 w2 ?_
          rw [h4] at hs2
          rw [h3]
          exact hs2.eqv h7.symm
        dsimp only
        rw [if_pos (by simp [Region.wanted, hgs])]
        exact .inl hstep
      · -- one ahead of it
        have hlt : i < s0 := by
          rcases Nat.lt_or_ge i s0 with h | h
          · exact h
          · exfalso
            have ha := hanc i (by omega) hi'
            cases ha with
            | one ho' h =>
              rw [show ops.toList[i]? = some o by simpa using ho] at ho'
              cases ho'
              have := h2 s0 h
              have hs0 : s0 < ops.size := (Array.getElem?_eq_some_iff.1 hos).1
              rw [← getD_tf (by omega), hls] at this; cases this
            | @step _ _ m _ ho' h hm =>
              rw [show ops.toList[i]? = some o by simpa using ho] at ho'
              cases ho'
              have hml : listed.getD m false = true := h2 m h
              have hms := (hfit x0).down i o (by simpa using ho) m h
              have := hcl.anc hsz hm (by rw [getD_tf (by omega)]; exact hml) (by omega)
              have hs0 : s0 < ops.size := (Array.getElem?_eq_some_iff.1 hos).1
              rw [← getD_tf (by omega), hls] at this; cases this
        obtain ⟨t, ht, htr⟩ := hA x0 i o ho his
        have htx : ∀ x, (ts x)[i]? = some t := fun x => (hpre x i hlt).trans ht
        have hspl : ∀ x, App σ t.rd ∧ Run (left (ts x) (listed.setIfInBounds i true) 0) (t.wr ++ σ) ∧ (left (ts x) (listed.setIfInBounds i true) 0).length = fuel ∧
            Eqv (fin (left (ts x) listed 0) σ) (fin (left (ts x) (listed.setIfInBounds i true) 0) (t.wr ++ σ)) := by
          intro x
          obtain ⟨pre, post, h3, h4, h5⟩ := left_split (k := 0) (htx x) (by rw [Nat.zero_add]; exact h1) (by omega)
          rw [Nat.zero_add] at h4
          have hr0 := hrun x
          have hl0 := hl x
          rw [h3] at hr0 hl0
          obtain ⟨h6, h7⟩ := Run.front (hapx x t pre (htx x) h5) hr0
          rw [h3, h4]
          exact ⟨h6.1, h6.2, by simp at hl0 ⊢; omega, h7⟩
        unfold wpOp
        rw [ho]
        have hstep := htr σ a w (wpAny cx.P .any ops Q fuel (listed.setIfInBounds i true)) Q hs (hspl x0).1 fun a' w' hs' =>
          ih _ _ a' w' (by simp [hsz]) (by simpa only [Array.getD_eq_getD_getElem?, Array.getElem?_setIfInBounds, if_neg his] using hls) hcl' (fun x => (hspl x).2.1) (fun x => (hspl x).2.2.1) hs' fun x a2 w2 hs2 => hq x a2 w2 (hs2.eqv (hspl x).2.2.2.symm)
        dsimp only
        split
        · rename_i hw; rw [if_pos hw] at hstep; exact .inl hstep
        · rename_i hw; rw [if_neg hw] at hstep; exact hstep

end Go.AX

/-! AxFam2 -/
/-
  The same, for a walk.
-/
namespace Go.AX
open Go.RowKit

variable {cx : Cx} {σ σ' : St} {a a' : Act} {w w' : World} {ops : Array Oper} {Q : Exit → St → Prop}
variable {ty : TypeId} {pos : String} {af : Array Edge} {gd : Option (Nat × Bool)} {d nx : Nat} {g : Nat → Value}

theorem Run.append : ∀ {t1 t2 : List Tr} {σ : St}, Run t1 σ → Run t2 (fin t1 σ) → Run (t1 ++ t2) σ ∧ fin (t1 ++ t2) σ = fin t2 (fin t1 σ)
  | [], t2, σ, _, h => ⟨h, rfl⟩
  | t :: t1, t2, σ, h1, h2 => by
    obtain ⟨h3, h4⟩ := Run.append h1.2 h2
    exact ⟨⟨h1.1, h3⟩, h4⟩

/-- All that stand behind the place in the text wait for it. -/
def ancB (s0 : Nat) : Nat → List Oper → Bool
  | _, [] => true
  | i, o :: l => (Nat.ble i s0 || (edges o).any fun j => Nat.ble s0 j && Nat.blt j i) && ancB s0 (i + 1) l
theorem ancB_at {s0 : Nat} : ∀ {l : List Oper} {k i : Nat} {o : Oper}, ancB s0 k l = true → l[i]? = some o → s0 < k + i → ∃ j ∈ edges o, s0 ≤ j ∧ j < k + i
  | [], k, i, o, _, h, _ => by simp at h
  | o' :: l, k, i, o, h, ho, hs => by
    simp only [ancB, Bool.and_eq_true, Bool.or_eq_true] at h
    cases i with
    | zero =>
      obtain rfl : o' = o := by simpa using ho
      rcases h.1 with h1 | h1
      · have := Nat.le_of_ble_eq_true h1; omega
      · obtain ⟨j, hj, hb⟩ := List.any_eq_true.1 h1
        simp only [Bool.and_eq_true] at hb
        exact ⟨j, hj, Nat.le_of_ble_eq_true hb.1, by have := hb.2; simp [Nat.blt_eq] at this; omega⟩
    | succ i =>
      obtain ⟨j, h1, h2, h3⟩ := ancB_at (k := k + 1) (i := i) h.2 (by simpa using ho) (by omega)
      exact ⟨j, h1, h2, by omega⟩
theorem anc_of {s0 : Nat} {l : List Oper} (h : ancB s0 0 l = true) : ∀ (n i : Nat), i < n → s0 < i → i < l.length → Anc l s0 i
  | 0, i, hn, _, _ => by omega
  | n + 1, i, hn, hs, hl => by
    obtain ⟨j, h1, h2, h3⟩ := ancB_at (k := 0) (i := i) h (List.getElem?_eq_getElem hl) (by omega)
    rcases Nat.lt_or_ge s0 j with h4 | h4
    · exact .step (List.getElem?_eq_getElem hl) h1 (anc_of h n j (by omega) h4 (by omega))
    · obtain rfl : j = s0 := by omega
      exact .one (List.getElem?_eq_getElem hl) h1

theorem CW.drawF {ι : Type} (x0 : ι) {id : Nat} {l l1 l2 : List Oper} {os : Oper} {tS : ι → Tr} {rs : List (Key × Val)} (hl : l = l1 ++ os :: l2) (hgs : os.guard = none) (hrs : ∀ x, (tS x).rd = rs)
    (hsp : ∀ (σ : St) (a : Act) (w : World) (K : Act → World → Prop) (Q : Exit → Act → World → Prop), Sim cx σ a w → App σ rs → (∀ x a' w', Sim cx ((tS x).wr ++ σ) a' w' → K a' w') → os.wp cx.P a w K Q)
    (hanc : ancB l1.length 0 l = true)
    (h : RW cx l.toArray (fun ts1 σ1 => App σ1 rs ∧ ∀ x, RW cx l.toArray (fun ts2 σ2 => chk [] [] l (ts1 ++ tS x :: ts2) = true ∧ Q .normal σ2) [] l2 ((tS x).wr ++ σ1)) [] l1 σ) : CW cx (.region id l.toArray true) Q σ := by
  obtain ⟨ts1, σ1, h1, h2, h3⟩ := h
  rw [List.nil_append] at h3
  obtain ⟨F, hF⟩ : ∃ F : ι → List Tr × St, ∀ x, Steps' cx l.toArray l2 ((tS x).wr ++ σ1) (F x).1 (F x).2 ∧ chk [] [] l (ts1 ++ tS x :: (F x).1) = true ∧ Q .normal (F x).2 := by
    refine ⟨fun x => (Classical.choose (h3 x), Classical.choose (Classical.choose_spec (h3 x))), fun x => ?_⟩
    have := Classical.choose_spec (Classical.choose_spec (h3 x))
    exact ⟨this.1, by simpa using this.2.1, this.2.2⟩
  have hlenA : ∀ {ops : Array Oper} {l : List Oper} {ts : List Tr}, All2 cx ops l ts → ts.length = l.length := by
    intro ops l
    induction l with
    | nil => intro ts h; cases ts with
      | nil => rfl
      | cons t ts => exact h.elim
    | cons o l ih => intro ts h; cases ts with
      | nil => exact h.elim
      | cons t ts => simp [ih h.2]
  have hA1 := h1.trs
  have hl1 := hlenA hA1
  have hl2 : ∀ x, (F x).1.length = l2.length := fun x => hlenA (hF x).1.trs
  have hleft : ∀ (ts : List Tr) (n k : Nat), k + ts.length ≤ n → left ts (Array.replicate n false) k = ts := by
    intro ts
    induction ts with
    | nil => intro n k _; rfl
    | cons t ts ih =>
      intro n k hk
      simp at hk
      have h0 : (Array.replicate n false).getD k true = false := by simp [Array.getD, show k < n by omega]
      simp only [left, h0]
      rw [if_neg (by simp), ih n (k + 1) (by omega)]
  have hsz : l.toArray.size = l1.length + (l2.length + 1) := by subst hl; simp
  have hl0 : ∀ x, left (ts1 ++ tS x :: (F x).1) (Array.replicate l.toArray.size false) 0 = ts1 ++ tS x :: (F x).1 := fun x => hleft _ _ _ (by have := hl2 x; rw [hsz]; simp; omega)
  have hrun : ∀ x, Run (ts1 ++ tS x :: (F x).1) σ ∧ fin (ts1 ++ tS x :: (F x).1) σ = (F x).2 := fun x => by
    obtain ⟨r1, r2⟩ := h1.run
    obtain ⟨r3, r4⟩ := (hF x).1.run
    obtain ⟨r5, r6⟩ := Run.append (t2 := tS x :: (F x).1) r1 (by rw [r2]; exact ⟨by rw [hrs]; exact h2, r3⟩)
    exact ⟨r5, by rw [r6, r2]; exact r4⟩
  intro a w hs
  refine wp_region_any cx.mixed (wpAny_fam (ts := fun x => ts1 ++ tS x :: (F x).1) (s0 := l1.length) (os := os) (rs := rs) x0 (fun x i o ho hne => ?_) (fun x i hi => ?_) (fun x => by have := hl2 x; rw [hsz]; simp; omega) (fun x => fit_of_chk (hF x).2.1) (by subst hl; simp) hgs (fun x => ⟨tS x, by simp [← hl1], hrs x⟩)
    (fun σ a w K Q hs ha hK => hsp σ a w K Q hs ha fun x a' w' hs' => hK x (tS x) a' w' (by simp [← hl1]) hs') (fun i hi hil => anc_of hanc (i + 1) i (by omega) hi (by simpa using hil)) l.toArray.size _ σ a _ (by simp) ?_ (fun i o _ hi hli => ?_) (fun x => by rw [hl0]; exact (hrun x).1) (fun x => by rw [hl0]; have := hl2 x; rw [hsz]; simp; omega) hs.drawn fun x a' w' hs' => ⟨(F x).2, by rw [hl0, (hrun x).2] at hs'; exact hs', (hF x).2.2⟩)
  · have ho' : l[i]? = some o := by simpa using ho
    rw [hl] at ho'
    rcases Nat.lt_or_ge i l1.length with hi | hi
    · rw [List.getElem?_append_left hi] at ho'
      obtain ⟨t, h4, h5⟩ := hA1.at ho'
      exact ⟨t, by rw [List.getElem?_append_left (by omega)]; exact h4, h5⟩
    · rw [List.getElem?_append_right hi] at ho'
      obtain ⟨j, rfl⟩ : ∃ j, i = l1.length + (j + 1) := ⟨i - l1.length - 1, by omega⟩
      rw [show l1.length + (j + 1) - l1.length = j + 1 by omega, List.getElem?_cons_succ] at ho'
      obtain ⟨t, h4, h5⟩ := (hF x).1.trs.at ho'
      exact ⟨t, by rw [List.getElem?_append_right (by omega), hl1, show l1.length + (j + 1) - l1.length = j + 1 by omega, List.getElem?_cons_succ]; exact h4, h5⟩
  · show (ts1 ++ tS x :: (F x).1)[i]? = (ts1 ++ tS x0 :: (F x0).1)[i]?
    rw [List.getElem?_append_left (by omega), List.getElem?_append_left (by omega)]
  · simp [Array.getD, hsz]
  · have h9 : i < l.length := by simpa using hi
    simp [Array.getD] at hli
    omega

/-- A call whose result is new, and whose handle is known at once. -/
theorem fam_newpin {f : FuncId} {xs : List Operand} {avs : List AV} {ys : List Arg} {l : List (Key × Val)} {e k : Nat} {rows : List (List D)} {ats : Array TypeId} (hd : Nat.blt d cx.n = true) (hc : FnNew cx.P f ys e k rows) (hsub : Subs xs avs ys l)
    (σ : St) (a : Act) (w : World) (K : Act → World → Prop) (Q : Exit → Act → World → Prop) (hs : Sim cx σ a w) (hr : App σ (l ++ [(.nx, .num nx)]))
    (hK : ∀ (x : Option Addr × Nat × Nat) a' w', Sim cx ([(.s d, .av (.d (.v (.slice x.1 x.2.1 x.2.2)))), (.o nx, .ob (.pin e k rows (.slice x.1 x.2.1 x.2.2))), (.nx, .num (nx + 1))] ++ σ) a' w' → K a' w') :
    Oper.wp cx.P ⟨some d, .call { callee := .value (.func f), args := ⟨xs⟩, argTypes := ats }, ty, pos, af, gd⟩ a w K Q := by
  obtain ⟨g, n', hs⟩ := hs
  have hnx : n' = nx := by
    have h2 := hr.right.1
    rw [hs.hnx] at h2
    simpa using h2
  subst hnx
  have hcall := hc.calls w (cx.own g σ) (xs.map a.eval) (fun b hb => own_lt hs hb) (hsub.ok hs hr.left)
  unfold Oper.wp
  rw [call_run hc.run]
  refine hcall.mono fun r w' he => ?_
  obtain ⟨v, rfl, hb, hres⟩ := he
  have hG := SimG.join hs hb hres (.inr rfl)
  have hsl : ∃ p n c, v = .slice p n c := by
    obtain ⟨xs, h1, _⟩ := hres
    rcases h1.2 with ⟨h, _⟩ | ⟨g, cap, cur, h, _⟩
    · exact ⟨_, _, _, h⟩
    · exact ⟨_, _, _, h⟩
  obtain ⟨p, n, c, rfl⟩ := hsl
  exact hK (p, n, c) _ _ (Sim.put hG (lt_of_blt hd) (Below.refl _ _) (av := .d (.v (.slice p n c))) (Rd.v _) trivial)

theorem own2_ret {t e k e2 k2 id n id2 : Nat} {rowsF : Value → List (List D)} {rows2 : List (List D)} {x : Value} (h1 : get σ (.s t) = .av (.own id n)) (h2 : get σ (.o id) = .ob (.arr e k (rowsF x))) (h3 : n = (rowsF x).length)
    (h4 : get σ (.o id2) = .ob (.pin e2 k2 rows2 x)) : own2Q t e k rowsF e2 k2 rows2 .ret σ := ⟨id, n, id2, x, h1, h2, h3, h4⟩

end Go.AX

/-! G8 -/
/-
  Contracts of the program's copies of chains: what comes back is the caller's own, and one chain's versions, too.
-/
namespace Go.Proofs.YtobanjfamccjmaaDoor
open Go.AX Go.RF

set_option maxRecDepth 100000
set_option maxHeartbeats 8000000

def keptRows (l : List Chain) (m : Nat) (c : Chain) (x : Value) : List (List D) := (l.map Chain.enc).set m [dstr c.key, .v x]

end Go.Proofs.YtobanjfamccjmaaDoor

/-! G11 -/
/-
  Contract of the library's Insert, of one element of two cells.
-/
namespace Go.Proofs.YtobanjfamccjmaaDoor
open Go.AX Go.RF Go.RowKit Go.Shelf Go.Lib

theorem run_copy_k {P : Program} (w : World) (dT sT ty elem : TypeId) (k g o dLen dCap : Nat) (a : Addr) (sLen sCap q : Nat) (cur : Array Value) (t : TypeId) (cs : List Value)
    (hu : P.underlying dT = some (.slice elem)) (hs : (P.info? elem).map (·.size) = some k)
    (hg : w.heap[g]? = some (.cells cur t (0, 0))) (hq : Nat.min sLen dLen = q) (hn : cs.length = q * k)
    (hsrc : ∀ j v, cs[j]? = some v → w.cell? (a.add j) = some v) (hfit : o + cs.length ≤ cur.size) (h1 : ∀ v ∈ cs, v.oneCell' = true) :
    (Builtin.copy_ #[dT, sT] ty #[.slice (some ⟨g, o, none⟩) dLen dCap, .slice (some a) sLen sCap]).run P w =
      .ok (goInt q) (w.setRow g (cur.toList.take o ++ cs ++ cur.toList.drop (o + cs.length)).toArray) := by
  have hl := run_loadCells_list (P := P) w a cs hsrc
  have hst := run_storeCells_at P g o t cs 0 cur w hg (by simpa using hfit) h1
  cases hq' : P.info? elem with
  | none => simp [hq'] at hs
  | some i =>
    have hi : i.size = k := by simpa [hq'] using hs
    simp [Builtin.copy_, run_underlying hu, Builtin.lenOf, Builtin.firstCells, sizeOf, typeInfo, hq', hi, hq, ← hn, hl, hst]

theorem run_overlaps_b {P : Program} (w : World) (tS tR e : TypeId) (ht : P.underlying tS = some (.slice e)) (size : Nat) (hz : ∀ w, (Go.sizeOf e).run P w = .ok size w)
    (a b : Addr) (la ca lb cb : Nat) (hne : a.block ≠ b.block) (tA tB : TypeId) (kA kB : Nat)
    (hsa : w.shape? a.block = some (tA, kA + 1)) (hsb : w.shape? b.block = some (tB, kB + 1)) (hfb : w.frozen? b = false) (hfe : w.frozen? { block := b.block, off := kB + 1 } = false) :
    (Extern.SlicesOverlaps.overlaps #[tS, tS] #[tR] #[.slice (some a) la ca, .slice (some b) lb cb]).run P w = .ok (.bool false) w := by
  have hnb : (a.block != b.block) = true := by simpa using hne
  have hnb' : (a.block == b.block) = false := by simpa using hne
  change Sem.run P (α := Value) (do
    let some t := (#[tS, tS] : Array TypeId)[0]? | stuck "slices.overlaps: no parameter types"
    let .slice elem ← underlying t | stuck "slices.overlaps: slice type expected"
    let size ← sizeOf elem
    match (some a : Option Addr), (some b : Option Addr) with
    | some a, some b =>
      if la = 0 ∨ lb = 0 ∨ size = 0 then pure (Value.bool false)
      else if a.block != b.block && (← frozen a) && (← frozen b) then unsupported .addressObserved
      else do
        if a.block != b.block then do
          noView a; noView b
          if ← mayBeOne a b then return Value.bool ((← choose (.extern "sameAddr.stringBytes" 2)) == 1)
        pure (Value.bool (a.block == b.block && a.off < b.off + lb * size && b.off < a.off + la * size))
    | _, _ => pure (Value.bool false)) w = _
  by_cases h0 : la = 0 ∨ lb = 0 ∨ size = 0
  · simp [run_underlying ht, hz, h0]
  · cases hfa : w.frozen? a <;> cases hfa2 : w.frozen? { block := a.block, off := kA + 1 } <;>
      simp [run_underlying ht, hz, h0, hnb, hnb', frozen, noView, viewAt, mayBeOne, stringish, shape, Sem.run, hsa, hsb, hfb, hfe, hfa, hfa2]

theorem alloc_new_at (w : World) (o : Obj) : (w.alloc o).heap[w.heap.size]? = some o := heap_alloc_new w o

theorem append_ty {P : Program} (ts : Array TypeId) (ty : TypeId) (args : Array Value) (w : World) : (Builtin.append_ ts ty args).run P w = (Builtin.append_ ts 0 args).run P w := rfl
theorem append_types {P : Program} {t u e e' : TypeId} (ht : P.underlying t = some (.slice e)) (hu : P.underlying u = some (.slice e')) (ty : TypeId) (args : Array Value) (w : World) :
    (Builtin.append_ #[t, u] ty args).run P w = (Builtin.append_ #[t, t] ty args).run P w := by
  cases h0 : args[0]? with
  | none => simp [Builtin.append_, h0]
  | some s =>
    cases h1 : args[1]? with
    | none => simp [Builtin.append_, h0, h1]
    | some x => cases s <;> simp [Builtin.append_, h0, h1, run_underlying ht, run_underlying hu]

theorem flat_len {n k : Nat} {l : List Value} (h : n * k ≤ l.length) : (l.take (n * k)).length = n * k := by simp; omega

/-- What Insert leaves in a row: the pieces. -/
theorem room_cells {cur : List Value} {n i : Nat} {c0 c1 : Value} (hi : i < n) (hl : (n + 1) * 2 ≤ cur.length) :
    let mid := cur.take ((i + 1) * 2) ++ (cur.drop (i * 2)).take ((n - i) * 2) ++ cur.drop ((i + 1) * 2 + (n - i) * 2)
    (mid.take (i * 2) ++ [c0, c1] ++ mid.drop (i * 2 + 2)).take ((n + 1) * 2) = (cur.take (n * 2)).take (i * 2) ++ [c0, c1] ++ (cur.take (n * 2)).drop (i * 2) := by
  intro mid
  have hm : mid = cur.take ((i + 1) * 2) ++ (cur.drop (i * 2)).take ((n - i) * 2) ++ cur.drop ((i + 1) * 2 + (n - i) * 2) := rfl
  have hml : mid.length = cur.length := by rw [hm]; simp; omega
  have h1 : (cur.take ((i + 1) * 2)).length = (i + 1) * 2 := by simp; omega
  have h2 : ((cur.drop (i * 2)).take ((n - i) * 2)).length = (n - i) * 2 := by simp; omega
  have e1 : mid.take (i * 2) = cur.take (i * 2) := by
    rw [hm, List.append_assoc, List.take_append_of_le_length (by rw [h1]; omega), List.take_take, Nat.min_eq_left (by omega)]
  have e2 : mid.drop (i * 2 + 2) = (cur.drop (i * 2)).take ((n - i) * 2) ++ cur.drop ((i + 1) * 2 + (n - i) * 2) := by
    rw [hm, List.append_assoc, List.drop_append_of_le_length (by rw [h1]; omega), List.drop_eq_nil_of_le (by rw [h1]; omega), List.nil_append]
  rw [e1, e2, List.take_take, Nat.min_eq_left (show i * 2 ≤ n * 2 by omega), List.drop_take]
  have h3 : (cur.take (i * 2)).length = i * 2 := by simp; omega
  rw [List.take_append, List.take_of_length_le (by simp; omega)]
  congr 1
  rw [List.take_append_of_le_length (by simp; omega), List.take_of_length_le (by simp; omega)]
  congr 1
  omega

theorem shape_of {w : World} {ad : Addr} {c : Value} (h : w.cell? (ad.add 0) = some c) : ∃ t k, w.shape? ad.block = some (t, k + 1) := by
  rw [AX.add_zero] at h
  unfold World.cell? at h
  unfold World.shape?
  split at h
  · next cs e fr hh =>
    split at h
    · cases h
    · have := (Array.getElem?_eq_some_iff.1 h).1
      exact ⟨e, cs.size - 1, by simp; omega⟩
  · cases h

/-- What Insert leaves in a new row. -/
theorem grow_cells {xs zs : List Value} {n i : Nat} {c0 c1 : Value} (hi : i < n) (hl : xs.length = n * 2) (hz : (n + 1 - i) * 2 ≤ zs.length) :
    let row := xs.take (i * 2) ++ zs
    let mid := row.take (i * 2) ++ [c0, c1] ++ row.drop (i * 2 + 2)
    (mid.take ((i + 1) * 2) ++ xs.drop (i * 2) ++ mid.drop ((i + 1) * 2 + (n - i) * 2)).take ((n + 1) * 2) = xs.take (i * 2) ++ [c0, c1] ++ xs.drop (i * 2) := by
  intro row mid
  have h3 : (xs.take (i * 2)).length = i * 2 := by simp; omega
  have hr : row.take (i * 2) = xs.take (i * 2) := by
    show (xs.take (i * 2) ++ zs).take (i * 2) = _
    rw [List.take_append_of_le_length (by omega), List.take_of_length_le (by omega)]
  have hm : mid.take ((i + 1) * 2) = xs.take (i * 2) ++ [c0, c1] := by
    show (row.take (i * 2) ++ [c0, c1] ++ row.drop (i * 2 + 2)).take ((i + 1) * 2) = _
    rw [hr, List.take_append_of_le_length (by simp; omega), List.take_of_length_le (by simp; omega)]
  rw [hm, List.take_append_of_le_length (by simp; omega), List.take_of_length_le (by simp; omega)]

end Go.Proofs.YtobanjfamccjmaaDoor

/-! AxIns -/
/-
  What Insert leaves, as rows of data.
-/
namespace Go.AX
open Go.RowKit

theorem getElem?_ins {α : Type} {l : List α} {m : Nat} {x : α} (hm : m ≤ l.length) (i : Nat) :
    (l.take m ++ x :: l.drop m)[i]? = if i < m then l[i]? else if i = m then some x else l[i - 1]? := by
  have hl : (l.take m).length = m := by simp; omega
  by_cases h1 : i < m
  · rw [if_pos h1, List.getElem?_append_left (by omega), List.getElem?_take, if_pos h1]
  · rw [if_neg h1, List.getElem?_append_right (by omega), hl]
    by_cases h2 : i = m
    · subst h2; simp
    · rw [if_neg h2]
      obtain ⟨j, rfl⟩ : ∃ j, i = m + (j + 1) := ⟨i - m - 1, by omega⟩
      rw [show m + (j + 1) - m = j + 1 by omega, List.getElem?_cons_succ, List.getElem?_drop]
      congr 1
theorem getElem?_ins2 {α : Type} {l : List α} {m n : Nat} {a b : α} (hl : l.length = n * 2) (hm : m ≤ n) (i j : Nat) (hj : j < 2) :
    (l.take (m * 2) ++ [a, b] ++ l.drop (m * 2))[i * 2 + j]? = if i < m then l[i * 2 + j]? else if i = m then [a, b][j]? else l[(i - 1) * 2 + j]? := by
  have hm2 : m * 2 ≤ n * 2 := Nat.mul_le_mul_right 2 hm
  have h1 : (l.take (m * 2)).length = m * 2 := by simp; omega
  rw [List.append_assoc]
  by_cases hi : i < m
  · have : (i + 1) * 2 ≤ m * 2 := Nat.mul_le_mul_right 2 hi
    rw [if_pos hi, List.getElem?_append_left (by omega), List.getElem?_take, if_pos (by omega)]
  · rw [if_neg hi, List.getElem?_append_right (by omega), h1]
    by_cases he : i = m
    · subst he
      rw [if_pos rfl, show i * 2 + j - i * 2 = j by omega, List.getElem?_append_left (by simpa using hj)]
    · rw [if_neg he]
      have : (m + 1) * 2 ≤ i * 2 := Nat.mul_le_mul_right 2 (by omega)
      rw [List.getElem?_append_right (by simp; omega), List.getElem?_drop]
      congr 1
      simp; omega

/-- Behind an Insert. -/
theorem rows_ins {w w' : World} {own : Nat → Prop} {v v' : Value} {e m : Nat} {rows : List (List D)} {xs : List Value} {c0 c1 : Value} {d0 d1 : D}
    (hm : m ≤ rows.length) (hb : BelowBut v w w') (hp : ∀ b, blk v' = some b → blk v = some b ∨ w.heap.size ≤ b)
    (hlen : xs.length = rows.length * 2) (hone : ∀ x ∈ xs, Value.oneCell' x = true) (hrl : ∀ r ∈ rows, r.length = 2)
    (hrd : ∀ (i j : Nat) (r : List D) (d : D) (x : Value), rows[i]? = some r → r[j]? = some d → xs[i * 2 + j]? = some x → Rd w (with1 own v) x d)
    (h0 : Rd w (with1 own v) c0 d0) (h1 : Rd w (with1 own v) c1 d1) (o0 : c0.oneCell' = true) (o1 : c1.oneCell' = true)
    (hown : w'.ownsRow 0 e 2 v' (rows.length + 1) (xs.take (m * 2) ++ [c0, c1] ++ xs.drop (m * 2))) :
    RowsAt w' 0 (with1 own v') e 2 v' (rows.take m ++ [d0, d1] :: rows.drop m) := by
  have hext : Ext (with1 own v) w w' := ⟨hb.size, fun b h1 h2 => hb.block b h1 fun h => h2 (.inr h)⟩
  have ho : ∀ b, with1 own v' b → with1 own v b ∨ w.heap.size ≤ b := by
    rintro b (h | h)
    · exact .inl (.inl h)
    · rcases hp b h with h | h
      · exact .inl (.inr h)
      · exact .inr h
  refine ⟨xs.take (m * 2) ++ [c0, c1] ++ xs.drop (m * 2), ?_, fun x hx => ?_, fun r hr => ?_, fun i j r d x hi hj hx => ?_⟩
  · have : (rows.take m ++ [d0, d1] :: rows.drop m).length = rows.length + 1 := by simp; omega
    rw [this]; exact hown
  · rcases List.mem_append.1 hx with hx | hx
    · rcases List.mem_append.1 hx with hx | hx
      · exact hone x (List.mem_of_mem_take hx)
      · simp at hx; rcases hx with rfl | rfl
        · exact o0
        · exact o1
    · exact hone x (List.mem_of_mem_drop hx)
  · rcases List.mem_append.1 hr with h | h
    · exact hrl r (List.mem_of_mem_take h)
    · rcases List.mem_cons.1 h with rfl | h
      · rfl
      · exact hrl r (List.mem_of_mem_drop h)
  · refine Rd.step hext ho ?_
    rw [getElem?_ins hm] at hi
    have hj2 : j < 2 := by
      have hjl := (List.getElem?_eq_some_iff.1 hj).1
      split at hi
      · rw [hrl r (List.mem_of_getElem? hi)] at hjl; exact hjl
      · split at hi
        · cases hi; simpa using hjl
        · rw [hrl r (List.mem_of_getElem? hi)] at hjl; exact hjl
    rw [getElem?_ins2 hlen hm i j hj2] at hx
    split at hi
    · next h => rw [if_pos h] at hx; exact hrd i j r d x hi hj hx
    · next h =>
      rw [if_neg h] at hx
      split at hi
      · next h' =>
        rw [if_pos h'] at hx
        cases hi
        match j, hj2, hj, hx with
        | 0, _, hj, hx => simp at hj hx; subst hj; subst hx; exact h0
        | 1, _, hj, hx => simp at hj hx; subst hj; subst hx; exact h1
      · next h' => rw [if_neg h'] at hx; exact hrd (i - 1) j r d x hi hj hx

theorem getElem?_del {α : Type} {l : List α} {m : Nat} (hm : m < l.length) (i : Nat) : (l.take m ++ l.drop (m + 1))[i]? = if i < m then l[i]? else l[i + 1]? := by
  have hl : (l.take m).length = m := by simp; omega
  by_cases h1 : i < m
  · rw [if_pos h1, List.getElem?_append_left (by omega), List.getElem?_take, if_pos h1]
  · rw [if_neg h1, List.getElem?_append_right (by omega), hl, List.getElem?_drop]
    congr 1; omega
theorem getElem?_del2 {α : Type} {l : List α} {m n : Nat} (hl : l.length = n * 2) (hm : m < n) (i j : Nat) (hj : j < 2) :
    (l.take (m * 2) ++ l.drop ((m + 1) * 2))[i * 2 + j]? = if i < m then l[i * 2 + j]? else l[(i + 1) * 2 + j]? := by
  have hm2 : m * 2 ≤ n * 2 := Nat.mul_le_mul_right 2 (by omega)
  have h1 : (l.take (m * 2)).length = m * 2 := by simp; omega
  by_cases hi : i < m
  · have : (i + 1) * 2 ≤ m * 2 := Nat.mul_le_mul_right 2 hi
    rw [if_pos hi, List.getElem?_append_left (by omega), List.getElem?_take, if_pos (by omega)]
  · rw [if_neg hi, List.getElem?_append_right (by omega), h1, List.getElem?_drop]
    congr 1; omega
/-- Behind a Delete of one. -/
theorem rows_del {w w' : World} {own : Nat → Prop} {v v' : Value} {e m : Nat} {rows : List (List D)} {xs : List Value}
    (hm : m < rows.length) (hb : BelowBut v w w') (hp : ∀ b, blk v' = some b → blk v = some b ∨ w.heap.size ≤ b)
    (hlen : xs.length = rows.length * 2) (hone : ∀ x ∈ xs, Value.oneCell' x = true) (hrl : ∀ r ∈ rows, r.length = 2)
    (hrd : ∀ (i j : Nat) (r : List D) (d : D) (x : Value), rows[i]? = some r → r[j]? = some d → xs[i * 2 + j]? = some x → Rd w (with1 own v) x d)
    (hown : w'.ownsRow 0 e 2 v' (rows.length - 1) (xs.take (m * 2) ++ xs.drop ((m + 1) * 2))) :
    RowsAt w' 0 (with1 own v') e 2 v' (rows.take m ++ rows.drop (m + 1)) := by
  have hext : Ext (with1 own v) w w' := ⟨hb.size, fun b h1 h2 => hb.block b h1 fun h => h2 (.inr h)⟩
  have ho : ∀ b, with1 own v' b → with1 own v b ∨ w.heap.size ≤ b := by
    rintro b (h | h)
    · exact .inl (.inl h)
    · rcases hp b h with h | h
      · exact .inl (.inr h)
      · exact .inr h
  refine ⟨xs.take (m * 2) ++ xs.drop ((m + 1) * 2), ?_, fun x hx => ?_, fun r hr => ?_, fun i j r d x hi hj hx => ?_⟩
  · have : (rows.take m ++ rows.drop (m + 1)).length = rows.length - 1 := by simp; omega
    rw [this]; exact hown
  · rcases List.mem_append.1 hx with hx | hx
    · exact hone x (List.mem_of_mem_take hx)
    · exact hone x (List.mem_of_mem_drop hx)
  · rcases List.mem_append.1 hr with h | h
    · exact hrl r (List.mem_of_mem_take h)
    · exact hrl r (List.mem_of_mem_drop h)
  · refine Rd.step hext ho ?_
    rw [getElem?_del hm] at hi
    have hj2 : j < 2 := by
      have hjl := (List.getElem?_eq_some_iff.1 hj).1
      split at hi <;> (rw [hrl r (List.mem_of_getElem? hi)] at hjl; exact hjl)
    rw [getElem?_del2 hlen hm i j hj2] at hx
    split at hi
    · next h => rw [if_pos h] at hx; exact hrd i j r d x hi hj hx
    · next h => rw [if_neg h] at hx; exact hrd (i + 1) j r d x hi hj hx

/-- A slice of one element of two cells, read. -/
theorem rd_pair {w : World} {own : Nat → Prop} {v : Value} {d0 d1 : D} (h : Rd w own v (.sl 2 [[d0, d1]])) :
    ∃ ad cp c0 c1, v = .slice (some ad) 1 cp ∧ ¬ own ad.block ∧ ad.block < w.heap.size ∧ w.cell? (ad.add 0) = some c0 ∧ w.cell? (ad.add 1) = some c1 ∧
      c0.oneCell' = true ∧ c1.oneCell' = true ∧ Rd w own c0 d0 ∧ Rd w own c1 d1 := by
  cases h with
  | sl ad cap k rows f hb hs hcap hk hc h1 hr =>
    exact ⟨ad, cap, f 0 0, f 0 1, rfl, hb, hs, by simpa using hc 0 0 _ d0 rfl rfl, by simpa using hc 0 1 _ d1 rfl rfl, h1 0 0 _ d0 rfl rfl, h1 0 1 _ d1 rfl rfl, hr 0 0 _ d0 rfl rfl, hr 0 1 _ d1 rfl rfl⟩

end Go.AX

/-! G12 -/
/-
  Contract of the library's Insert, put together.
-/
namespace Go.Proofs.YtobanjfamccjmaaDoor
open Go.AX Go.RF

end Go.Proofs.YtobanjfamccjmaaDoor

/-! G13 -/
/-
  Contract of the library's Insert, of one pair into rows: printed by tools/mkins.py from what was done over chains.
-/
namespace Go.Proofs.YtobanjfamccjmaaDoor
open Go.AX Go.RF Go.RowKit Go.Shelf Go.Lib

set_option maxHeartbeats 4000000 in
set_option maxRecDepth 100000 in
theorem insert_roomP (g n cap i : Nat) (ad : Addr) (cp : Nat) (w : World) (cur : Array Value) (c0 c1 : Value) (hg : w.heap[g]? = some (.cells cur 40 (0, 0))) (hsz : cur.size = cap * 2) (hi : i < n) (hn : n ≤ 268435456) (hc : n + 1 ≤ cap) (hcm : cap ≤ maxLen)
    (had : ad.block ≠ g) (h0 : w.cell? (ad.add 0) = some c0) (h1 : w.cell? (ad.add 1) = some c1) (hone : ∀ v ∈ cur.toList.take (n * 2), v.oneCell' = true) (hc0 : c0.oneCell' = true) (hc1 : c1.oneCell' = true) :
    Calls Tryd.prog 22 #[.slice (some ⟨g, 0, none⟩) n cap, .int .i64 (i : Int), .slice (some ad) 1 cp] w fun e w' =>
      e = .returned (.slice (some ⟨g, 0, none⟩) (n + 1) cap) ∧ ∃ m1 cs', w' = (w.drew.setRow g m1).setRow g cs' ∧ cs'.size = cap * 2 ∧ cs'.toList.take ((n + 1) * 2) = (cur.toList.take (n * 2)).take (i * 2) ++ [c0, c1] ++ (cur.toList.take (n * 2)).drop (i * 2) := by
  have mixed := mixed_ok
  have hz1 : ¬ ((1 : Int) = 0) := by omega
  have hz2 : ¬ ((i : Int) = (n : Int)) := by omega
  have hz3 : ¬ ((cap : Int) < (n : Int) + 1) := by omega
  have hb2 : ¬ (cap = i + 1) := by omega
  have hb4 : ¬ (cap = i) := by omega
  have hin : i ≤ n := by omega
  have hw1 : IntKind.i64.wrap ((i : Int) + 1) = (i : Int) + 1 := by rw [IntKind.wrap_i64]; omega
  have hb1 : (0 : Int) ≤ (i : Int) + 1 := by omega
  have htn : ((i : Int) + 1).toNat = i + 1 := by omega
  have hb3 : (i : Int) ≤ (n : Int) + 1 := by omega
  have hov : ∀ lb cb, (callFunc 34 #[.slice (some ad) 1 cp, .slice (some ⟨g, (i + 1) * 2, none⟩) lb cb]).run Tryd.prog w = .ok (.value (.bool false)) w := fun lb cb => by
    obtain ⟨tA, kA, hsa⟩ := shape_of h0
    have hsb : w.shape? g = some (40, (cap * 2 - 1) + 1) := by
      simp [World.shape?, hg, hsz]; omega
    rw [run_callFunc_extern Tryd.func34 (by kernel_rfl) (by kernel_rfl) (by kernel_rfl) (e := Extern.SlicesOverlaps.overlaps #[22, 22] #[4]) (by kernel_rfl),
      run_overlaps_b w 22 4 40 Tryd.underlying22 2 Tryd.sizeOf40 ad ⟨g, (i + 1) * 2, none⟩ 1 cp lb cb had tA 40 kA (cap * 2 - 1) hsa hsb (by simp [World.frozen?, hg]) (by simp [World.frozen?, hg])]
    rfl
  have hin2 : (Tryd.prog.info? 40).map (·.size) = some 2 := by kernel_rfl
  have hT : Tryd.prog.underlying 23 = some (.slice 40) := Tryd.underlying23
  have hcl : (n + 1) * 2 ≤ cur.size := by rw [hsz]; exact Nat.mul_le_mul_right 2 hc
  have hgd : w.drew.heap[g]? = some (.cells cur 40 (0, 0)) := hg
  have htl : ((cur.toList.drop (i * 2)).take ((n - i) * 2)).length = (n - i) * 2 := by simp; omega
  have hcp1 : ∀ ty dc sc, (Builtin.copy_ #[23, 23] ty #[.slice (some ⟨g, (i + 1) * 2, none⟩) (n - i) dc, .slice (some ⟨g, i * 2, none⟩) (n + 1 - i) sc]).run Tryd.prog w.drew =
      .ok (goInt (n - i : Nat)) (w.drew.setRow g (cur.toList.take ((i + 1) * 2) ++ (cur.toList.drop (i * 2)).take ((n - i) * 2) ++ cur.toList.drop ((i + 1) * 2 + (n - i) * 2)).toArray) := fun ty dc sc => by
    have h := run_copy_k (P := Tryd.prog) w.drew 23 23 ty 40 2 g ((i + 1) * 2) (n - i) dc ⟨g, i * 2, none⟩ (n + 1 - i) sc (n - i) cur 40 ((cur.toList.drop (i * 2)).take ((n - i) * 2)) hT hin2 hgd
      (Nat.min_eq_right (by omega)) htl (fun j v hj => by
        rw [List.getElem?_take] at hj
        split at hj
        · rw [List.getElem?_drop] at hj
          rw [Addr.add_lit]
          simp [World.cell?, hgd]
          simpa using hj
        · cases hj) (by rw [htl]; omega) (fun v hv => ?_)
    · rw [htl] at h
      exact h
    · obtain ⟨j, hj⟩ := List.getElem?_of_mem hv
      rw [List.getElem?_take] at hj
      split at hj
      · rw [List.getElem?_drop] at hj
        refine hone v (List.mem_of_getElem? (i := i * 2 + j) ?_)
        rw [List.getElem?_take, if_pos (by omega)]; exact hj
      · cases hj
  generalize hmid : cur.toList.take ((i + 1) * 2) ++ (cur.toList.drop (i * 2)).take ((n - i) * 2) ++ cur.toList.drop ((i + 1) * 2 + (n - i) * 2) = mid at hcp1
  have hml : mid.length = cur.size := by rw [← hmid]; simp; omega
  have hg1 : (w.drew.setRow g mid.toArray).heap[g]? = some (.cells mid.toArray 40 (0, 0)) := setRow_heap _ _ _ _ _ _ hgd
  have hadc : ∀ j v, [c0, c1][j]? = some v → (w.drew.setRow g mid.toArray).cell? (ad.add j) = some v := fun j v hj => by
    have hk : ∀ q, (w.drew.setRow g mid.toArray).cell? (ad.add q) = w.cell? (ad.add q) := fun q => by
      have hb : (ad.add q).block = ad.block := add_block ad q
      simp only [World.cell?, hb]
      rw [setRow_other _ _ _ _ had]
      rfl
    match j, hj with
    | 0, hj => simp at hj; subst hj; rw [hk]; exact h0
    | 1, hj => simp at hj; subst hj; rw [hk]; exact h1
  have hcp2 : ∀ ty dc, (Builtin.copy_ #[23, 22] ty #[.slice (some ⟨g, i * 2, none⟩) (n + 1 - i) dc, .slice (some ad) 1 cp]).run Tryd.prog (w.drew.setRow g mid.toArray) =
      .ok (goInt (1 : Nat)) ((w.drew.setRow g mid.toArray).setRow g (mid.take (i * 2) ++ [c0, c1] ++ mid.drop (i * 2 + 2)).toArray) := fun ty dc => by
    have h := run_copy_k (P := Tryd.prog) (w.drew.setRow g mid.toArray) 23 22 ty 40 2 g (i * 2) (n + 1 - i) dc ad 1 cp 1 mid.toArray 40 [c0, c1] hT hin2 hg1
      (Nat.min_eq_left (by omega)) rfl hadc (by simp; omega) (by simp [hc0, hc1])
    simpa using h
  go_enter Tryd.func22, Tryd.ntmps22
  go_wp2_with (simp only [hov])
  go_region_law_o (refine step_copy_runI rfl _ _ 23 23 rfl _ _ (by simp [Act.eval, Act.put]) (by simp [Act.eval, Act.put]) (hcp1 _ _ _) ?_)
  go_wp2_with (at_builtin; refine wpList_copy_runI _ rfl _ _ 23 22 rfl _ _ rfl rfl (hcp2 _ _) ?_)
  go_ret
  refine ⟨rfl, _, _, rfl, by simp; omega, ?_⟩
  have := room_cells (cur := cur.toList) (n := n) (i := i) (c0 := c0) (c1 := c1) hi (by simpa using hcl)
  rw [hmid] at this
  simpa using this

set_option maxHeartbeats 4000000 in
set_option maxRecDepth 100000 in
theorem insert_growP (g n cap i : Nat) (ad : Addr) (cp : Nat) (w : World) (cur : Array Value) (c0 c1 : Value) (hg : w.heap[g]? = some (.cells cur 40 (0, 0))) (hsz : cur.size = cap * 2) (hi : i < n) (hn : n ≤ 268435456) (hnc : n ≤ cap) (hc : cap < n + 1) (hcm : cap ≤ maxLen)
    (hadw : ad.block < w.heap.size) (h0 : w.cell? (ad.add 0) = some c0) (h1 : w.cell? (ad.add 1) = some c1) (hone : ∀ v ∈ cur.toList.take (n * 2), v.oneCell' = true) (hc0 : c0.oneCell' = true) (hc1 : c1.oneCell' = true) :
    Calls Tryd.prog 22 #[.slice (some ⟨g, 0, none⟩) n cap, .int .i64 (i : Int), .slice (some ad) 1 cp] w fun e w' =>
      ∃ G, e = .returned (.slice (some ⟨w.heap.size, 0, none⟩) (n + 1) G) ∧ n + 1 ≤ G ∧ G ≤ maxLen ∧ Below w.heap.size w w' ∧ ∃ cs', w'.heap[w.heap.size]? = some (.cells cs' 40 (0, 0)) ∧ cs'.size = G * 2 ∧
        cs'.toList.take ((n + 1) * 2) = (cur.toList.take (n * 2)).take (i * 2) ++ [c0, c1] ++ (cur.toList.take (n * 2)).drop (i * 2) := by
  have mixed := mixed_ok
  have hz1 : ¬ ((1 : Int) = 0) := by omega
  have hz2 : ¬ ((i : Int) = (n : Int)) := by omega
  have hz3 : (cap : Int) < (n : Int) + 1 := by omega
  have hin : i ≤ n := by omega
  have hw1 : IntKind.i64.wrap ((i : Int) + 1) = (i : Int) + 1 := by rw [IntKind.wrap_i64]; omega
  have hb1 : (0 : Int) ≤ (i : Int) + 1 := by omega
  have htn : ((i : Int) + 1).toNat = i + 1 := by omega
  have hb3 : (i : Int) ≤ (n : Int) := by omega
  have hci : ¬ (cap = i) := by omega
  have hin2 : (Tryd.prog.info? 40).map (·.size) = some 2 := by kernel_rfl
  have hT : Tryd.prog.underlying 23 = some (.slice 40) := Tryd.underlying23
  have hcl : n * 2 ≤ cur.size := by rw [hsz]; exact Nat.mul_le_mul_right 2 hnc
  have hgw : g < w.heap.size := by
    rcases Nat.lt_or_ge g w.heap.size with h | h
    · exact h
    · rw [Array.getElem?_eq_none h] at hg; cases hg
  generalize hxs : cur.toList.take (n * 2) = xs at hone
  have hxl : xs.length = n * 2 := by rw [← hxs]; simp; omega
  have hcell : ∀ (W : World), W.heap[g]? = w.heap[g]? → ∀ j v, xs[j]? = some v → W.cell? ⟨g, j, none⟩ = some v := fun W hW j v hj => by
    rw [← hxs, List.getElem?_take] at hj
    split at hj
    · simp [World.cell?, hW, hg]
      simpa using hj
    · cases hj
  have htb : ∃ ti, tget tbl 40 = some ti ∧ ti.n = 2 ∧ ti.bytes = 24 ∧ ti.zero = [.string ⟨#[]⟩, .int .i64 0] := ⟨_, rfl, rfl, rfl, rfl⟩
  obtain ⟨ti, ht1, ht2, ht3, ht4⟩ := htb
  obtain ⟨i0, hi0, hzs, hzb, z, hz0, hzc⟩ := (tbl_ok _ _ ht1).info
  rw [ht2] at hzs
  rw [ht3] at hzb
  rw [ht4] at hzc
  have hzz : z.cells.size = 2 := by rw [← Array.length_toList, hzc]; rfl
  have hold : (Builtin.firstCells i0.size i (.slice (some ⟨g, 0, none⟩) i cap)).run Tryd.prog w.drew = .ok (xs.take (i * 2)).toArray w.drew := by
    rw [hzs]
    exact run_firstCells_some w.drew 2 i ⟨g, 0, none⟩ i cap (xs.take (i * 2)) (by rw [List.length_take]; omega) (fun j v hj => by
      rw [Addr.add_lit, Nat.zero_add]
      rw [List.getElem?_take] at hj
      split at hj
      · exact hcell w.drew rfl j v hj
      · cases hj)
  obtain ⟨G, hG⟩ : ∃ G, G = grownCap w (n + 1) cap 40 := ⟨_, rfl⟩
  have hGn : n + 1 ≤ G := by rw [hG]; exact grownCap_ge w _ _ _
  have hGm : G ≤ maxLen := by rw [hG]; exact grownCap_le_maxLen w (n + 1) cap 40 (by unfold maxLen; omega)
  have hG63 : G ≤ 9223372036854775807 := by unfold maxLen at hGm; omega
  obtain ⟨zs, hzs2⟩ : ∃ zs : Array Value, zs = Builtin.zeroCells z.cells (n + 1 - i) ++ Builtin.zeroCells z.cells (G - (n + 1)) := ⟨_, rfl⟩
  have hzl : zs.size = (G - i) * 2 := by rw [hzs2]; simp [size_zeroCells, hzz]; omega
  obtain ⟨ROW, hROW⟩ : ∃ ROW : Array Value, ROW = (xs.take (i * 2)).toArray ++ zs := ⟨_, rfl⟩
  have hRl : ROW.size = G * 2 := by rw [hROW]; simp [hzl]; omega
  have hrz : ∀ ty, (Builtin.append_ #[23, 3] ty #[.slice (some ⟨g, 0, none⟩) i cap, .int .i64 ((n : Int) + 1 - (i : Int))]).run Tryd.prog w =
      .ok (.slice (some ⟨w.heap.size, 0, none⟩) (n + 1) G) (w.drew.alloc (.cells ROW 40)) := fun ty => by
    have h := Lib.run_append_grow_zeros (P := Tryd.prog) w 23 3 ty 40 i0 z .i64 .i64 hT Tryd.underlying3 hi0 hz0 (some ⟨g, 0, none⟩) i cap (xs.take (i * 2)) hold (n + 1 - i) (by omega) (by omega) (by omega) (by omega) (by rw [hzb]; omega)
      (by rw [hzb, show i + (n + 1 - i) = n + 1 by omega]; exact growslice_fits hc (by omega))
    rw [show i + (n + 1 - i) = n + 1 by omega, ← hG, Array.append_assoc, ← hzs2, ← hROW] at h
    rw [show (n : Int) + 1 - (i : Int) = ((n + 1 - i : Nat) : Int) by omega]
    exact h
  have hGi : ¬ (G = i) := by omega
  have hGim : ¬ (G = i + 1) := by omega
  have hgs : ¬ w.heap.size = g := by omega
  obtain ⟨mid, hmid⟩ : ∃ mid : List Value, mid = ROW.toList.take (i * 2) ++ [c0, c1] ++ ROW.toList.drop (i * 2 + 2) := ⟨_, rfl⟩
  have hml : mid.length = G * 2 := by rw [hmid]; simp; omega
  obtain ⟨fin, hfin⟩ : ∃ fin : List Value, fin = mid.take ((i + 1) * 2) ++ xs.drop (i * 2) ++ mid.drop ((i + 1) * 2 + (n - i) * 2) := ⟨_, rfl⟩
  have hfl : fin.length = G * 2 := by rw [hfin]; simp; omega
  have hN : (w.alloc (.cells ROW 40)).heap[w.heap.size]? = some (.cells ROW 40 (0, 0)) := alloc_new_at w _
  have hadc : ∀ (W : World), W.heap = (w.alloc (.cells ROW 40)).heap → ∀ j v, [c0, c1][j]? = some v → W.cell? (ad.add j) = some v := fun W hW j v hj => by
    have hk : ∀ q, W.cell? (ad.add q) = w.cell? (ad.add q) := fun q => by
      have hb : (ad.add q).block = ad.block := add_block ad q
      simp only [World.cell?, hb, hW]
      rw [Below.heap_alloc w _ _ hadw]
    match j, hj with
    | 0, hj => simp at hj; subst hj; rw [hk]; exact h0
    | 1, hj => simp at hj; subst hj; rw [hk]; exact h1
  have hcpA : ∀ (W : World), W.heap = (w.alloc (.cells ROW 40)).heap → ∀ ty dc, (Builtin.copy_ #[23, 22] ty #[.slice (some ⟨w.heap.size, i * 2, none⟩) (n + 1 - i) dc, .slice (some ad) 1 cp]).run Tryd.prog W =
      .ok (goInt (1 : Nat)) (W.setRow w.heap.size mid.toArray) := fun W hW ty dc => by
    have h := run_copy_k (P := Tryd.prog) W 23 22 ty 40 2 w.heap.size (i * 2) (n + 1 - i) dc ad 1 cp 1 ROW 40 [c0, c1] hT hin2 (by rw [hW]; exact hN)
      (Nat.min_eq_left (by omega)) rfl (hadc W hW) (by simp; omega) (by simp [hc0, hc1])
    rw [hmid]
    simpa using h
  have hdl : (xs.drop (i * 2)).length = (n - i) * 2 := by rw [List.length_drop, hxl]; omega
  have hcpB : ∀ (W : World), W.heap[w.heap.size]? = some (.cells mid.toArray 40 (0, 0)) → W.heap[g]? = w.heap[g]? → ∀ ty dc sc, (Builtin.copy_ #[23, 23] ty #[.slice (some ⟨w.heap.size, (i + 1) * 2, none⟩) (n - i) dc, .slice (some ⟨g, i * 2, none⟩) (n - i) sc]).run Tryd.prog W =
      .ok (goInt (n - i : Nat)) (W.setRow w.heap.size fin.toArray) := fun W hW hWg ty dc sc => by
    have h := run_copy_k (P := Tryd.prog) W 23 23 ty 40 2 w.heap.size ((i + 1) * 2) (n - i) dc ⟨g, i * 2, none⟩ (n - i) sc (n - i) mid.toArray 40 (xs.drop (i * 2)) hT hin2 hW
      (Nat.min_self _) hdl (fun j v hj => by
        rw [Addr.add_lit]
        rw [List.getElem?_drop] at hj
        exact hcell W hWg _ v hj) (by rw [hdl]; simp; omega) (fun v hv => hone v (List.mem_of_mem_drop hv))
    rw [hdl] at h
    rw [hfin]
    simpa using h
  have hE : ((w.alloc (.cells ROW 40)).drew).heap = (w.alloc (.cells ROW 40)).heap := rfl
  have hB1 : ∀ (W : World), W.heap = (w.alloc (.cells ROW 40)).heap → (W.setRow w.heap.size mid.toArray).drew.heap[w.heap.size]? = some (.cells mid.toArray 40 (0, 0)) := fun W hW => setRow_heap W _ _ _ _ _ (by rw [hW]; exact hN)
  have hB2 : ∀ (W : World), W.heap = (w.alloc (.cells ROW 40)).heap → (W.setRow w.heap.size mid.toArray).drew.heap[g]? = w.heap[g]? := fun W hW => by
    show (W.setRow w.heap.size mid.toArray).heap[g]? = _
    rw [setRow_other _ _ _ _ (by omega), hW]
    exact Below.heap_alloc w _ _ hgw
  have hlast : fin.take ((n + 1) * 2) = xs.take (i * 2) ++ [c0, c1] ++ xs.drop (i * 2) := by
    have h := grow_cells (xs := xs) (zs := zs.toList) (n := n) (i := i) (c0 := c0) (c1 := c1) hi hxl (by rw [Array.length_toList, hzl]; exact Nat.mul_le_mul_right 2 (by omega))
    rw [hfin, hmid, hROW]
    simpa using h
  clear hzs2 hROW hmid hfin hG
  go_enter Tryd.func22, Tryd.ntmps22
  go_wp2_with (first
    | (at_builtin; refine Lib.wpList_append_run _ rfl _ _ _ _ rfl _ _ rfl rfl _ _ (hrz _) ?_)
    | (at_builtin; refine wpList_copy_runI _ rfl _ _ 23 22 rfl _ _ rfl rfl (hcpA _ rfl _ _) ?_))
  go_region_law_o (refine step_copy_runI rfl _ _ 23 23 rfl (.slice (some ⟨w.heap.size, (i + 1) * 2, none⟩) (n - i) (G - (i + 1))) (.slice (some ⟨g, i * 2, none⟩) (n - i) (cap - i)) (by simp [Act.eval, Act.put]) (by simp [Act.eval, Act.put]) (hcpB ((w.alloc (.cells ROW 40)).drew.setRow w.heap.size mid.toArray).drew (hB1 _ hE) (hB2 _ hE) _ _ _) ?_)
  go_wp2
  go_ret
  refine ⟨G, rfl, hGn, hGm, ⟨rfl, rfl, rfl, by simp [setRow_size], fun k hk => ?_⟩, fin.toArray, setRow_heap _ _ _ _ _ _ (hB1 _ hE), by simp [hfl], by simpa using hlast⟩
  rw [setRow_other _ _ _ _ (by omega)]
  show ((w.alloc (.cells ROW 40)).drew.setRow w.heap.size mid.toArray).heap[k]? = _
  rw [setRow_other _ _ _ _ (by omega)]
  exact Below.heap_alloc w _ _ hk

set_option maxHeartbeats 4000000 in
set_option maxRecDepth 100000 in
theorem insert_endP (v : Value) (n : Nat) (xs : List Value) (ad : Addr) (cp : Nat) (w : World) (c0 c1 : Value) (hown : w.ownsRow 0 40 2 v n xs) (hn : n ≤ 268435456)
    (h0 : w.cell? (ad.add 0) = some c0) (h1 : w.cell? (ad.add 1) = some c1) (hc0 : c0.oneCell' = true) (hc1 : c1.oneCell' = true) :
    Calls Tryd.prog 22 #[v, .int .i64 (n : Int), .slice (some ad) 1 cp] w fun e w' =>
      ∃ v', e = .returned v' ∧ w'.ownsRow 0 40 2 v' (n + 1) (xs ++ [c0, c1]) ∧ w.grownBy w' v.ownBlock ∧ (v'.ownBlock = v.ownBlock ∨ v'.ownBlock = some w.heap.size) := by
  have mixed := mixed_ok
  have hz1 : ¬ ((1 : Int) = 0) := by omega
  have hT : Tryd.prog.underlying 23 = some (.slice 40) := Tryd.underlying23
  have htb : ∃ ti, tget tbl 40 = some ti ∧ ti.n = 2 ∧ ti.bytes = 24 ∧ ti.zero = [.string ⟨#[]⟩, .int .i64 0] := ⟨_, rfl, rfl, rfl, rfl⟩
  obtain ⟨ti, ht1, ht2, ht3, ht4⟩ := htb
  obtain ⟨i0, hi0, hzs, hzb, z, hz0, hzc⟩ := (tbl_ok _ _ ht1).info
  rw [ht2] at hzs
  rw [ht3] at hzb
  rw [ht4] at hzc
  have hzz : z.cells.size = 2 := by rw [← Array.length_toList, hzc]; rfl
  have hnews : ∀ j u, [c0, c1][j]? = some u → w.cell? (ad.add j) = some u := fun j u hj => by
    match j, hj with
    | 0, hj => simp at hj; subst hj; exact h0
    | 1, hj => simp at hj; subst hj; exact h1
  have hone : ∀ u ∈ [c0, c1], u.oneCell' = true := by simp [hc0, hc1]
  obtain ⟨R, hR⟩ : ∃ R : Value → World → Prop, R = fun v' w' => w'.ownsRow 0 40 2 v' (n + 1) (xs ++ [c0, c1]) ∧ w.grownBy w' v.ownBlock ∧ (v'.ownBlock = v.ownBlock ∨ v'.ownBlock = some w.heap.size) := ⟨_, rfl⟩
  have hmk : ∀ v' w', w'.ownsRow 0 40 2 v' (n + 1) (xs ++ [c0, c1]) → w.grownBy w' v.ownBlock → (v'.ownBlock = v.ownBlock ∨ v'.ownBlock = some w.heap.size) → R v' w' := fun v' w' a b c => by rw [hR]; exact ⟨a, b, c⟩
  suffices h : Calls Tryd.prog 22 #[v, .int .i64 (n : Int), .slice (some ad) 1 cp] w fun e w' => ∃ v', e = .returned v' ∧ R v' w' by
    refine h.mono fun e w' => ?_
    rintro ⟨v', a, b⟩
    rw [hR] at b
    exact ⟨v', a, b⟩
  clear hR
  have hb : n + 1 ≤ maxLen := by unfold maxLen; omega
  have hv : (v = .slice none 0 0 ∧ n = 0) ∨ ∃ g cap, v = .slice (some ⟨g, 0, none⟩) n cap ∧ n ≤ cap := by
    rcases hown.2 with h | ⟨g, cap, cur, e, _, _, h, _⟩
    · exact .inl h
    · exact .inr ⟨g, cap, e, h⟩
  obtain ⟨v', w', hr, q1, q2, _, q4⟩ := run_append_own_at (P := Tryd.prog) w 0 23 0 40 i0 z 2 24 hT hi0 hz0 hzs hzb hzz (by decide) v n xs hown ad 1 cp [c0, c1] rfl hnews hone hb (by omega) (Nat.zero_le _)
  have hR := hmk v' w' q1 q2 q4
  have hap : ∀ ty, (Builtin.append_ #[23, 22] ty #[v, .slice (some ad) 1 cp]).run Tryd.prog w = .ok v' w' := fun ty => (append_types hT Tryd.underlying22 ty _ w).trans ((append_ty _ _ _ w).trans hr)
  clear hmk q1 q2 q4 hr hown hnews
  rcases hv with ⟨rfl, rfl⟩ | ⟨g, cap, rfl, hnc⟩
  · go_enter Tryd.func22, Tryd.ntmps22
    go_wp2_with (at_builtin; refine Lib.wpList_append_run _ rfl _ _ 23 22 rfl _ _ rfl rfl _ _ (hap _) ?_)
    go_ret
    exact ⟨_, rfl, hR⟩
  · go_enter Tryd.func22, Tryd.ntmps22
    go_wp2_with (at_builtin; refine Lib.wpList_append_run _ rfl _ _ 23 22 rfl _ _ rfl rfl _ _ (hap _) ?_)
    all_goals
      go_ret
      exact ⟨_, rfl, hR⟩

theorem upd_insertP (rows : List (List D)) (m : Nat) (d0 d1 : D) (hm : m ≤ rows.length) (hl : rows.length ≤ 268435456) :
    FnUpd Tryd.prog 22 40 2 rows [.d (dint m), .d (.sl 2 [[d0, d1]])] (rows.take m ++ [d0, d1] :: rows.drop m) := by
  refine ⟨⟨_, Tryd.func22, by kernel_rfl, by kernel_rfl⟩, fun w own v vs hown hR hsep ha => ?_⟩
  match vs, ha with
  | [v1, v2], ⟨h1, h2, _⟩ =>
    have e1 := rd_v h1
    subst e1
    obtain ⟨ad, cp, c0, c1, rfl, hnb, hadw, hc0, hc1, o0, o1, r0, r1⟩ := rd_pair h2
    obtain ⟨xs, hrow, hone, hrl, hrd⟩ := hR
    have hbv : blk v = v.ownBlock := blk_own hrow
    have hxl := hrow.1
    by_cases hmn : m = rows.length
    · subst hmn
      refine (insert_endP v rows.length xs ad cp w c0 c1 hrow hl hc0 hc1 o0 o1).mono fun e w' => ?_
      rintro ⟨v', rfl, q1, q2, q3⟩
      have hp : ∀ b, blk v' = some b → blk v = some b ∨ w.heap.size ≤ b := fun b hb => by
        rw [blk_own q1] at hb
        rw [hbv]
        rcases q3 with h | h
        · rw [h] at hb; exact .inl hb
        · rw [h] at hb; cases hb; exact .inr (Nat.le_refl _)
      have hbb : BelowBut v w w' := ⟨q2.os, q2.tape, q2.output, q2.size, fun b hb hn => q2.block b hb fun h => hn (by rw [hbv, h])⟩
      refine ⟨v', rfl, hbb, hp, rows_ins (Nat.le_refl _) hbb hp hxl hone hrl hrd r0 r1 o0 o1 ?_⟩
      rw [List.take_of_length_le (by omega), List.drop_eq_nil_of_le (by omega), List.append_nil]
      exact q1
    · rcases hrow.2 with ⟨_, h0⟩ | ⟨g, cap, cur, rfl, _, hg, hnc, hcm, hsz, htk⟩
      · omega
      · have hadg : ad.block ≠ g := fun h => hnb (.inr (by rw [h]; rfl))
        by_cases hroom : rows.length + 1 ≤ cap
        · refine (insert_roomP g rows.length cap m ad cp w cur c0 c1 hg hsz (by omega) hl hroom hcm hadg hc0 hc1 (by rw [htk]; exact hone) o0 o1).mono fun e w' => ?_
          rintro ⟨rfl, m1, cs', rfl, q1, q2⟩
          have hp : ∀ b, blk (.slice (some ⟨g, 0, none⟩) (rows.length + 1) cap) = some b → blk (.slice (some ⟨g, 0, none⟩) rows.length cap) = some b ∨ w.heap.size ≤ b := fun b hb => .inl hb
          have hbb : BelowBut (.slice (some ⟨g, 0, none⟩) rows.length cap) w ((w.drew.setRow g m1).setRow g cs') := ⟨rfl, rfl, rfl, by simp [setRow_size], fun b hb hn => by
            have hbg : b ≠ g := fun h => hn (by rw [h]; rfl)
            rw [setRow_other _ _ _ _ hbg, setRow_other _ _ _ _ hbg]; rfl⟩
          refine ⟨_, rfl, hbb, hp, rows_ins hm hbb hp hxl hone hrl hrd r0 r1 o0 o1 ⟨by simp; omega, .inr ⟨g, cap, cs', rfl, Nat.zero_le _, setRow_heap _ _ _ _ _ _ (setRow_heap _ _ _ _ _ _ hg), hroom, hcm, q1, ?_⟩⟩⟩
          rw [q2, htk]
        · refine (insert_growP g rows.length cap m ad cp w cur c0 c1 hg hsz (by omega) hl hnc (by omega) hcm hadw hc0 hc1 (by rw [htk]; exact hone) o0 o1).mono fun e w' => ?_
          rintro ⟨G, rfl, q1, q2, hB, cs', q3, q4, q5⟩
          have hp : ∀ b, blk (.slice (some ⟨w.heap.size, 0, none⟩) (rows.length + 1) G) = some b → blk (.slice (some ⟨g, 0, none⟩) rows.length cap) = some b ∨ w.heap.size ≤ b := fun b hb => .inr (by cases hb; exact Nat.le_refl _)
          have hbb : BelowBut (.slice (some ⟨g, 0, none⟩) rows.length cap) w w' := ⟨hB.os, hB.tape, hB.output, hB.size, fun b hb _ => hB.block b hb⟩
          refine ⟨_, rfl, hbb, hp, rows_ins hm hbb hp hxl hone hrl hrd r0 r1 o0 o1 ⟨by simp; omega, .inr ⟨_, G, cs', rfl, Nat.zero_le _, q3, q1, q2, q4, ?_⟩⟩⟩
          rw [q5, htk]

end Go.Proofs.YtobanjfamccjmaaDoor

/-! G14 -/
/-
  Contract of the library's Delete, of one pair out of rows.
-/
namespace Go.Proofs.YtobanjfamccjmaaDoor
open Go.AX Go.RF Go.RowKit Go.Shelf Go.Lib

theorem step_append_runI {P : Program} {ops : Array Oper} {o : Oper} {a : Act} {w : World} {K : Act → World → Prop} {Q : Exit → Act → World → Prop} {E : Prop}
    (hg : o.guard = none) (d x : Operand) (dT sT : TypeId) (hop : o.op = Op.call { callee := Callee.builtin Builtin.append, args := #[d, x], argTypes := #[dT, sT] })
    (v u : Value) (hd : a.eval d = v) (hx : a.eval x = u) {v' : Value} {w' : World} (hr : (Builtin.append_ #[dT, sT] o.type #[v, u]).run P w = .ok v' w') (hK : K (a.put o.dst v') w') :
    if Region.wanted o (yielded ops a.tmps) = true then Oper.wp P o a w K Q else E := by
  have hw : Region.wanted o (yielded ops a.tmps) = true := by simp [Region.wanted, hg]
  rw [if_pos hw]
  unfold Oper.wp
  simp [execOp, hop, resolve, invoke, builtin, hd, hx, hr, Result.andThen]
  exact hK
theorem wpList_clear_runI {P : Program} {ops : Array Oper} {rest : List Oper} {o : Oper} {a : Act} {w : World} {Q : Exit → Act → World → Prop} (hgd : o.guard = none) (x : Operand) (t : TypeId)
    (ho : o.op = .call { callee := .builtin .clear, args := #[x], argTypes := #[t] }) (u : Value) (hx : a.eval x = u) {v' : Value} {w' : World}
    (hr : (Builtin.clear_ #[t] o.type #[u]).run P w = .ok v' w') (h : wpList P ops Q rest (a.put o.dst v') w') : wpList P ops Q (o :: rest) a w := by
  refine wpList_plain hgd fun K hK => ?_
  unfold Oper.wp
  simp [execOp, ho, resolve, invoke, builtin, hx, hr, Result.andThen]
  exact hK _ _ h

/-- What Delete leaves: the pieces. -/
theorem del_cells {cur zs : List Value} {n m : Nat} (hm : m < n) (hl : n * 2 ≤ cur.length) :
    let news := (cur.drop ((m + 1) * 2)).take ((n - (m + 1)) * 2)
    let m1 := cur.take (m * 2) ++ news ++ cur.drop (m * 2 + news.length)
    (m1.take ((m + (n - (m + 1))) * 2) ++ zs ++ m1.drop ((m + (n - (m + 1))) * 2 + zs.length)).take ((n - 1) * 2) = (cur.take (n * 2)).take (m * 2) ++ (cur.take (n * 2)).drop ((m + 1) * 2) := by
  intro news m1
  have h1 : (cur.take (m * 2)).length = m * 2 := by simp; omega
  have h2 : news.length = (n - (m + 1)) * 2 := by simp [news]; omega
  have hk : (m + (n - (m + 1))) * 2 = (n - 1) * 2 := by congr 1; omega
  have h3 : m1.take ((n - 1) * 2) = cur.take (m * 2) ++ news := by
    show (cur.take (m * 2) ++ news ++ cur.drop (m * 2 + news.length)).take ((n - 1) * 2) = _
    rw [List.take_append_of_le_length (by rw [List.length_append, h1, h2]; omega), List.take_of_length_le (by rw [List.length_append, h1, h2]; omega)]
  rw [hk, h3, List.append_assoc, List.take_append_of_le_length (by rw [List.length_append, h1, h2]; omega), List.take_of_length_le (by rw [List.length_append, h1, h2]; omega)]
  rw [List.take_take, Nat.min_eq_left (by omega), List.drop_take, show n * 2 - (m + 1) * 2 = (n - (m + 1)) * 2 by omega]

set_option maxHeartbeats 4000000 in
set_option maxRecDepth 100000 in
theorem delete_walk (g n cap m : Nat) (w : World) (cur : Array Value) (hg : w.heap[g]? = some (.cells cur 40 (0, 0))) (hsz : cur.size = cap * 2) (hm : m < n) (hn : n ≤ 268435456) (hnc : n ≤ cap) (hcm : cap ≤ maxLen) (hone : ∀ v ∈ cur.toList.take (n * 2), v.oneCell' = true) :
    Calls Tryd.prog 23 #[.slice (some ⟨g, 0, none⟩) n cap, .int .i64 (m : Int), .int .i64 ((m : Int) + 1)] w fun e w' =>
      e = .returned (.slice (some ⟨g, 0, none⟩) (n - 1) cap) ∧ ∃ m1 cs', w' = (w.drew.setRow g m1).setRow g cs' ∧ cs'.size = cap * 2 ∧ cs'.toList.take ((n - 1) * 2) = (cur.toList.take (n * 2)).take (m * 2) ++ (cur.toList.take (n * 2)).drop ((m + 1) * 2) := by
  have mixed := mixed_ok
  have hnm : ¬ ((m : Int) = (m : Int) + 1) := by omega
  have hT : Tryd.prog.underlying 23 = some (.slice 40) := Tryd.underlying23
  have htb : ∃ ti, tget tbl 40 = some ti ∧ ti.n = 2 ∧ ti.zero = [.string ⟨#[]⟩, .int .i64 0] := ⟨_, rfl, rfl, rfl⟩
  obtain ⟨ti, ht1, ht2, ht4⟩ := htb
  obtain ⟨i0, hi0, hzs, _, z, hz0, hzc⟩ := (tbl_ok _ _ ht1).info
  rw [ht2] at hzs
  rw [ht4] at hzc
  have hcl : n * 2 ≤ cur.size := by rw [hsz]; exact Nat.mul_le_mul_right 2 hnc
  obtain ⟨news, hnews⟩ : ∃ news, news = (cur.toList.drop ((m + 1) * 2)).take ((n - (m + 1)) * 2) := ⟨_, rfl⟩
  have hnl : news.length = (n - (m + 1)) * 2 := by rw [hnews]; simp; omega
  obtain ⟨m1, hm1⟩ : ∃ m1 : List Value, m1 = cur.toList.take (m * 2) ++ news ++ cur.toList.drop (m * 2 + news.length) := ⟨_, rfl⟩
  have hm1l : m1.length = cur.size := by rw [hm1]; simp; omega
  obtain ⟨zs, hzs2⟩ : ∃ zs : List Value, zs = [.string ⟨#[]⟩, .int .i64 0] := ⟨_, rfl⟩
  obtain ⟨m2, hm2⟩ : ∃ m2 : List Value, m2 = m1.take ((m + (n - (m + 1))) * 2) ++ zs ++ m1.drop ((m + (n - (m + 1))) * 2 + zs.length) := ⟨_, rfl⟩
  have hm2l : m2.length = cur.size := by rw [hm2, hzs2]; simp; omega
  have hlast : m2.take ((n - 1) * 2) = (cur.toList.take (n * 2)).take (m * 2) ++ (cur.toList.take (n * 2)).drop ((m + 1) * 2) := by
    have h := del_cells (cur := cur.toList) (zs := zs) hm (by simpa using hcl)
    rw [hm2, hm1, hnews]
    exact h
  have hap : ∀ (A : Addr), (cap = m + 1 ∨ A = ⟨g, (m + 1) * 2, none⟩) → ∀ ty, (Builtin.append_ #[23, 23] ty #[.slice (some ⟨g, 0, none⟩) m cap, .slice (some A) (n - (m + 1)) (cap - (m + 1))]).run Tryd.prog w.drew =
      .ok (.slice (some ⟨g, 0, none⟩) (m + (n - (m + 1))) cap) (w.drew.setRow g m1.toArray) := fun A hA ty => by
    have hnw : ∀ j u, news[j]? = some u → w.drew.cell? (A.add j) = some u := fun j u hj => by
      rcases hA with hA | rfl
      · have : news = [] := List.eq_nil_of_length_eq_zero (by rw [hnl]; omega)
        rw [this] at hj; simp at hj
      · rw [hnews, List.getElem?_take] at hj
        split at hj
        · rw [List.getElem?_drop] at hj
          rw [Addr.add_lit]
          have hgd : w.drew.heap[g]? = some (.cells cur 40 (0, 0)) := hg
          simp [World.cell?, hgd]
          simpa using hj
        · cases hj
    have ho1 : ∀ u ∈ news, u.oneCell' = true := fun u hu => by
      obtain ⟨j, hj⟩ := List.getElem?_of_mem hu
      rw [hnews, List.getElem?_take] at hj
      split at hj
      · rw [List.getElem?_drop] at hj
        refine hone u (List.mem_of_getElem? (i := (m + 1) * 2 + j) ?_)
        rw [List.getElem?_take, if_pos (by omega)]; exact hj
      · cases hj
    have h := run_append_room (P := Tryd.prog) (w := w.drew) (ty := ty) 23 40 i0 hT hi0 g m cap cur hg A (n - (m + 1)) (cap - (m + 1)) news (by rw [hzs]; exact hnl) hnw ho1 (by omega) (by rw [hzs, hnl]; omega)
    rw [hzs] at h
    rw [hm1]
    exact h
  have hg1 : (w.drew.setRow g m1.toArray).heap[g]? = some (.cells m1.toArray 40 (0, 0)) := setRow_heap _ _ _ _ _ _ hg
  have hclr : ∀ ty, (Builtin.clear_ #[23] ty #[.slice (some ⟨g, (m + (n - (m + 1))) * 2, none⟩) (n - (m + (n - (m + 1)))) (cap - (m + (n - (m + 1))))]).run Tryd.prog (w.drew.setRow g m1.toArray) =
      .ok (.tuple #[]) ((w.drew.setRow g m1.toArray).setRow g m2.toArray) := fun ty => by
    have e1 : n - (m + (n - (m + 1))) = 1 := by omega
    have hst := run_storeCells_at Tryd.prog g ((m + (n - (m + 1))) * 2) 40 zs 0 m1.toArray (w.drew.setRow g m1.toArray) hg1 (by rw [hzs2]; simp; omega) (by rw [hzs2]; simp [Value.oneCell'])
    have hzz : (Builtin.zeroCells z.cells 1).toList = zs := by
      rw [hzs2, ← hzc]
      have h2 : z.cells.size = 2 := by rw [← Array.length_toList, hzc]; rfl
      apply List.ext_getElem
      · simp [Builtin.zeroCells, h2]
      · intro i h3 h4
        have h5 : i < 2 := by simpa [h2] using h4
        simp [Builtin.zeroCells, Nat.mod_eq_of_lt h5, h2]
        exact getElem!_pos z.cells i (by omega)
    have hzv : (zeroValue 40).run Tryd.prog (w.drew.setRow g m1.toArray) = .ok z (w.drew.setRow g m1.toArray) := by simp [zeroValue, typeInfo, hi0, hz0]
    rw [e1]
    simp only [Nat.add_zero] at hst
    simp [Builtin.clear_, run_underlying hT, hzv, hzz, hst, hm2]
  have hi1 : m ≤ cap := by omega
  have hi2 : m + 1 ≤ cap := by omega
  have hi3 : m + 1 ≤ n := by omega
  clear hm1 hm2 hnews hzs2
  have hj1 : (0 : Int) ≤ (m : Int) + 1 := by omega
  have hj2 : (m : Int) + 1 ≤ (n : Int) := by omega
  have hj3 : (m : Int) ≤ (m : Int) + 1 := by omega
  have htn : ((m : Int) + 1).toNat = m + 1 := by omega
  by_cases hcj : cap = m + 1
  · have hap1 := hap ⟨g, 0, none⟩ (.inl hcj)
    obtain rfl : n = m + 1 := by omega
    subst hcj
    have hap2 : ∀ ty, (Builtin.append_ #[23, 23] ty #[.slice (some ⟨g, 0, none⟩) m (m + 1), .slice (some ⟨g, 0, none⟩) 0 0]).run Tryd.prog w.drew = .ok (.slice (some ⟨g, 0, none⟩) m (m + 1)) (w.drew.setRow g m1.toArray) := fun ty => by simpa using hap1 ty
    have hclr2 : ∀ ty, (Builtin.clear_ #[23] ty #[.slice (some ⟨g, m * 2, none⟩) 1 1]).run Tryd.prog (w.drew.setRow g m1.toArray) = .ok (.tuple #[]) ((w.drew.setRow g m1.toArray).setRow g m2.toArray) := fun ty => by
      have h := hclr ty
      rw [show m + 1 - (m + 1) = 0 by omega, show m + 0 = m by omega, show m + 1 - m = 1 by omega] at h
      exact h
    clear hap hap1 hclr
    go_enter Tryd.func23, Tryd.ntmps23
    go_wp2_with fail
    go_region_law_o (refine step_append_runI rfl _ _ 23 23 rfl (.slice (some ⟨g, 0, none⟩) m (m + 1)) (.slice (some ⟨g, 0, none⟩) 0 0) (by simp [Act.eval, Act.put]) (by simp [Act.eval, Act.put]) (hap2 _) ?_)
    go_wp2_with (at_builtin; refine wpList_clear_runI rfl _ 23 rfl _ rfl (hclr2 _) ?_)
    go_ret
    exact ⟨by rw [show m + 1 - 1 = m by omega]; rfl, _, _, rfl, by simp [hm2l, hsz], by simpa using hlast⟩
  · have hap1 := hap ⟨g, (m + 1) * 2, none⟩ (.inr rfl)
    clear hap
    go_enter Tryd.func23, Tryd.ntmps23
    go_wp2_with fail
    go_region_law_o (refine step_append_runI rfl _ _ 23 23 rfl (.slice (some ⟨g, 0, none⟩) m cap) (.slice (some ⟨g, (m + 1) * 2, none⟩) (n - (m + 1)) (cap - (m + 1))) (by simp [Act.eval, Act.put]) (by simp [Act.eval, Act.put]) (hap1 _) ?_)
    go_wp2_with (at_builtin; refine wpList_clear_runI rfl _ 23 rfl _ rfl (hclr _) ?_)
    go_ret
    exact ⟨by rw [show n - 1 = m + (n - (m + 1)) by omega]; rfl, _, _, rfl, by simp [hm2l, hsz], by simpa using hlast⟩

theorem upd_delete (rows : List (List D)) (m : Nat) (hm : m < rows.length) (hl : rows.length ≤ 268435456) :
    FnUpd Tryd.prog 23 40 2 rows [.d (dint m), .d (dint ((m : Int) + 1))] (rows.take m ++ rows.drop (m + 1)) := by
  refine ⟨⟨_, Tryd.func23, by kernel_rfl, by kernel_rfl⟩, fun w own v vs hown hR hsep ha => ?_⟩
  match vs, ha with
  | [v1, v2], ⟨h1, h2, _⟩ =>
    have e1 := rd_v h1
    have e2 := rd_v h2
    subst e1 e2
    obtain ⟨xs, hrow, hone, hrl, hrd⟩ := hR
    have hxl := hrow.1
    rcases hrow.2 with ⟨_, h0⟩ | ⟨g, cap, cur, rfl, _, hg, hnc, hcm, hsz, htk⟩
    · omega
    · refine (delete_walk g rows.length cap m w cur hg hsz hm hl hnc hcm (by rw [htk]; exact hone)).mono fun e w' => ?_
      rintro ⟨rfl, m1, cs', rfl, q1, q2⟩
      have hp : ∀ b, blk (.slice (some ⟨g, 0, none⟩) (rows.length - 1) cap) = some b → blk (.slice (some ⟨g, 0, none⟩) rows.length cap) = some b ∨ w.heap.size ≤ b := fun b hb => .inl hb
      have hbb : BelowBut (.slice (some ⟨g, 0, none⟩) rows.length cap) w ((w.drew.setRow g m1).setRow g cs') := ⟨rfl, rfl, rfl, by simp [setRow_size], fun b hb hn => by
        have hbg : b ≠ g := fun h => hn (by rw [h]; rfl)
        rw [setRow_other _ _ _ _ hbg, setRow_other _ _ _ _ hbg]; rfl⟩
      refine ⟨_, rfl, hbb, hp, rows_del hm hbb hp hxl hone hrl hrd ⟨by simp; omega, .inr ⟨g, cap, cs', rfl, Nat.zero_le _, setRow_heap _ _ _ _ _ _ (setRow_heap _ _ _ _ _ _ hg), by omega, hcm, q1, ?_⟩⟩⟩
      rw [q2, htk]

end Go.Proofs.YtobanjfamccjmaaDoor

/-! AxPin4 -/
/-
  Stutters between a region's operations; facts out of a state; a slice whose handle is known, read and written in place.
-/
namespace Go.AX
open Go.RowKit

variable {cx : Cx} {g : Nat → Value} {σ σ' : St} {a : Act} {w w' : World} {nx : Nat} {c : Code} {Q : Exit → St → Prop}
variable {ty : TypeId} {pos : String} {af : Array Edge} {gd : Option (Nat × Bool)} {d : Nat}
variable {ops : Array Oper} {rest : List Oper} {o : Oper}

theorem SW.s1 {rd wr : List (Key × Val)} (ha : autA cx σ o = some ⟨rd, wr⟩) (h : SW cx ops Q rest (wr ++ σ)) : SW cx ops Q (o :: rest) σ := by
  obtain ⟨dst, op, ty, pos, af, gd⟩ := o
  cases gd with
  | some p => cases ha
  | none =>
    simp only [autA] at ha
    split at ha
    · next hd => 
      obtain ⟨h1, h2⟩ := trA_ok (cx := cx) (ty := ty) (pos := pos) (af := af) (gd := none) hd ha
      exact SW.step rfl ⟨h1, h2⟩ h
    · cases ha
theorem SW.s5 {rd wr : List (Key × Val)} (ho : OA cx σ o ⟨rd, wr⟩) (hg : o.guard = none) (h : SW cx ops Q rest (wr ++ σ)) : SW cx ops Q (o :: rest) σ := SW.step hg ho h
theorem SW.nil (h : Q .normal σ) : SW cx ops Q [] σ := fun a w hs => wpList_nil ⟨σ, hs, h⟩
theorem SW.stut {t : Tr} {l : List Oper} (hs : Stut cx t) (ha : App σ t.rd) (h : SW cx ops Q l (t.wr ++ σ)) : SW cx ops Q l σ := fun a w hsim => h a w (hs σ a w hsim ha)
theorem CW.fact {p : Prop} (hf : ∀ a w, Sim cx σ a w → p) (h : p → CW cx c Q σ) : CW cx c Q σ := fun a w hs => h (hf a w hs) a w hs
theorem SW.fact {p : Prop} {l : List Oper} (hf : ∀ a w, Sim cx σ a w → p) (h : p → SW cx ops Q l σ) : SW cx ops Q l σ := fun a w hs => h (hf a w hs) a w hs
/-- The handle of a slice that has elements. -/
theorem pin_shape {id e k : Nat} {rows : List (List D)} {x : Value} (ho : get σ (.o id) = .ob (.pin e k rows x)) (h0 : rows ≠ []) (a : Act) (w : World) (hs : Sim cx σ a w) : ∃ b cp, x = .slice (some ⟨b, 0, none⟩) rows.length cp := by
  obtain ⟨g, nx, hs⟩ := hs
  obtain ⟨_, ⟨hgx, xs, h1, _⟩, _⟩ := hs.objs id _ ho
  rcases h1.2 with ⟨_, hn⟩ | ⟨b, cap, cur, hv, _⟩
  · exact absurd (List.eq_nil_of_length_eq_zero hn) h0
  · exact ⟨b, cap, by rw [← hgx]; exact hv⟩
theorem pin_slice {id e k : Nat} {rows : List (List D)} {x : Value} (ho : get σ (.o id) = .ob (.pin e k rows x)) (a : Act) (w : World) (hs : Sim cx σ a w) : ∃ p cp, x = .slice p rows.length cp := by
  obtain ⟨g, nx, hs⟩ := hs
  obtain ⟨_, ⟨hgx, xs, h1, _⟩, _⟩ := hs.objs id _ ho
  rcases h1.2 with ⟨hv, hn⟩ | ⟨b, cap, cur, hv, _⟩
  · exact ⟨none, 0, by rw [← hgx, hv, hn]⟩
  · exact ⟨_, cap, by rw [← hgx]; exact hv⟩
theorem stut_unpin {i id e k : Nat} {rows : List (List D)} {x : Value} :
    Stut cx ⟨[(.s i, .av (.d (.v x))), (.o id, .ob (.pin e k rows x)), (.nx, .num nx)], [(.s i, .av (.own nx rows.length)), (.o nx, .ob (.arr e k rows)), (.nx, .num (nx + 1)), (.o id, .none)]⟩ := by
  intro σ a w hs hr
  exact sim_unpin i id e k nx rows x hr.1 hr.2.1 hr.2.2.1 hs

/-- A slice value whose handle is known: an element's address; a field's. -/
theorem ok_iav {t : TypeId} {x y : Operand} {b n cp k i : Nat} {kd : IntKind} {ti : TI} (hd : d < cx.n) (hx : EvS x (.d (.v (.slice (some ⟨b, 0, none⟩) n cp)))) (hy : EvS y (.d (.v (.int kd (i : Int))))) (ht : tget cx.T t = some ti) (hk : slK ti = some k) (hi : i < n) :
    OpOk cx ⟨some d, .indexAddr t x y, ty, pos, af, gd⟩ ⟨rdOf x (.d (.v (.slice (some ⟨b, 0, none⟩) n cp))) ++ rdOf y (.d (.v (.int kd (i : Int)))), [(.s d, .av (.d (.v (.pointer (some ⟨b, i * k, none⟩)))))]⟩ := by
  refine ok_val rfl hd fun σ a w g nx hs hr => ?_
  obtain ⟨_, ie, hu, hie, hks, _⟩ := slice_of (cx.hT t ti ht) hk
  have hv := rep_v (hs.ev hx hr.left).1
  have hy' := rep_v (hs.ev hy hr.right).1
  refine ⟨.pointer (some ⟨b, i * k, none⟩), w, ?_, Below.refl _ _, Rd.v _, trivial⟩
  have : (⟨b, 0, none⟩ : Addr).add (i * k) = ⟨b, i * k, none⟩ := by rw [add_lit, Nat.zero_add]
  simp [execOp, hy', hv, Instr.indexAt, asIntOf, run_underlying hu, sizeOf, typeInfo, hie, hks, this]
  omega
theorem ok_fav {t : TypeId} {x : Operand} {b q : Nat} {ti : TI} {fl off : Nat} (hd : d < cx.n) (hx : EvS x (.d (.v (.pointer (some ⟨b, q, none⟩))))) (ht : tget cx.T t = some ti) (hf : fldOff ti fl = some off) :
    OpOk cx ⟨some d, .fieldAddr t x fl, ty, pos, af, gd⟩ ⟨rdOf x (.d (.v (.pointer (some ⟨b, q, none⟩)))), [(.s d, .av (.d (.v (.pointer (some ⟨b, q + off, none⟩)))))]⟩ := by
  refine ok_val rfl hd fun σ a w g nx hs hr => ?_
  have hv := rep_v (hs.ev hx hr).1
  refine ⟨.pointer (some ⟨b, q + off, none⟩), w, ?_, Below.refl _ _, Rd.v _, trivial⟩
  have h2 := fieldAt_of (cx.hT t ti ht) hf ⟨b, q, none⟩ w
  rw [add_lit] at h2
  simp [execOp, hv, h2]

/-- An element's cells are read. -/
theorem ok_load_pin {t : TypeId} {x : Operand} {id n i f e k b cp q : Nat} {rows : List (List D)} {r : List D} {ti : TI} {y : D} (hd : d < cx.n) (hx : EvS x (.d (.v (.pointer (some ⟨b, q, none⟩))))) (ht : tget cx.T t = some ti) (hq : q = i * k + f) (hr : rows[i]? = some r)
    (hl : ldD ti (r.drop f) = some y) :
    OpOk cx ⟨some d, .load t x, ty, pos, af, gd⟩ ⟨rdOf x (.d (.v (.pointer (some ⟨b, q, none⟩)))) ++ [(.o id, .ob (.pin e k rows (.slice (some ⟨b, 0, none⟩) n cp)))], [(.s d, .av (.d y))]⟩ := by
  refine ok_val rfl hd fun σ a w g nx hs hrd => ?_
  have ho : get σ (.o id) = .ob (.pin e k rows (.slice (some ⟨b, 0, none⟩) n cp)) := hrd.right.1
  subst hq
  have hv := rep_v (hs.ev hx hrd.left).1
  obtain ⟨_, ⟨hgx, xs, h1, h2, h3, h4⟩, _⟩ := hs.objs id _ ho
  have hb : blk (g id) = some b := by rw [hgx]; rfl
  have hil := (List.getElem?_eq_some_iff.1 hr).1
  have hrk := h3 r (List.mem_of_getElem? hr)
  have hc : RdCells w (cx.own g σ) ⟨b, i * k + f, none⟩ (r.drop f) := by
    intro j z hz
    rw [List.getElem?_drop] at hz
    have hj : f + j < k := by rw [← hrk]; exact (List.getElem?_eq_some_iff.1 hz).1
    have hlen : i * k + (f + j) < xs.length := by
      rw [h1.1]
      have h5 : (i + 1) * k ≤ rows.length * k := Nat.mul_le_mul_right _ hil
      rw [Nat.add_mul, Nat.one_mul] at h5
      omega
    refine ⟨xs[i * k + (f + j)], ?_, h2 _ (List.getElem_mem _), h4 i (f + j) r z _ hr hz (List.getElem?_eq_getElem hlen)⟩
    rw [add_lit, show i * k + f + j = i * k + (f + j) by omega]
    have := h1.cells (g := b) (by rw [← blk_own h1]; exact hb) (i * k + (f + j)) _ (List.getElem?_eq_getElem hlen)
    rw [add_lit, Nat.zero_add] at this
    exact this
  obtain ⟨v, h5, h6⟩ := run_load_cells (cx.hT t ti ht) hc hl
  have h5' : (loadVar t ⟨b, i * k + f, none⟩).run cx.P w = .ok v w := by simpa [Instr.loadAt, Instr.sureAddr] using h5
  exact ⟨v, w, by simp [execOp, hv, Instr.loadAt, Instr.sureAddr, h5'], Below.refl _ _, h6, trivial⟩

/-- An element's cells are written. -/
theorem ok_store_pin {t : TypeId} {x y : Operand} {id n i f e k b cp q : Nat} {rows : List (List D)} {r new : List D} {av : AV} {ti : TI} (hx : EvS x (.d (.v (.pointer (some ⟨b, q, none⟩))))) (hy : EvS y av) (ht : tget cx.T t = some ti) (hc : dcells av = some new)
    (hq : q = i * k + f) (hr : rows[i]? = some r) (hnn : Nat.beq new.length ti.n = true) (hle : f + new.length ≤ r.length) :
    OpOk cx ⟨none, .store t x y, ty, pos, af, gd⟩ ⟨rdOf x (.d (.v (.pointer (some ⟨b, q, none⟩)))) ++ (rdOf y av ++ [(.o id, .ob (.pin e k rows (.slice (some ⟨b, 0, none⟩) n cp)))]), [(.o id, .ob (.pin e k (rows.set i (splice r f new)) (.slice (some ⟨b, 0, none⟩) n cp)))]⟩ := by
  rintro σ a w K Q ⟨g, nx, hs⟩ hrd hK
  have ho : get σ (.o id) = .ob (.pin e k rows (.slice (some ⟨b, 0, none⟩) n cp)) := hrd.right.right.1
  subst hq
  have hv := rep_v (hs.ev hx hrd.left).1
  obtain ⟨hav, hbd⟩ := hs.ev hy hrd.right.left
  obtain ⟨hidn, ⟨hgx, xs, h1, h2, h3, h4⟩, _⟩ := hs.objs id _ ho
  have hb : blk (g id) = some b := by rw [hgx]; rfl
  obtain ⟨c1, c2, c3⟩ := dcells_ok hs hav hc
  have hF := cx.hT t ti ht
  have hnn' : new.length = ti.n := by simpa using hnn
  have hil := (List.getElem?_eq_some_iff.1 hr).1
  have hrk := h3 r (List.mem_of_getElem? hr)
  have h5 : (i + 1) * k ≤ rows.length * k := Nat.mul_le_mul_right _ hil
  rw [Nat.add_mul, Nat.one_mul] at h5
  rcases h1.2 with ⟨_, h6⟩ | ⟨b', cap, cur, hv', hge, hh, hle', hcm, hsz, htk⟩
  · omega
  have hbb : b' = b := by rw [hv'] at hb; simpa [blk] using hb
  subst hbb
  generalize hX : a.eval y = X at hav c1 c2 c3
  have hlen : X.cells.toList.length = new.length := c1
  have hcap : rows.length * k ≤ cap * k := Nat.mul_le_mul_right _ hle'
  have hst := run_storeCells_at (P := cx.P) b' (i * k + f) e X.cells.toList 0 cur w hh (by rw [hlen]; omega) c2
  simp only [Nat.add_zero] at hst
  have hX' : X.cells.size = ti.n := by rw [← hnn', ← hlen]; simp
  have hrun : (Instr.storeAt t (.pointer (some ⟨b', i * k + f, none⟩)) X).run cx.P w = .ok () (w.setRow b' (splice cur.toList (i * k + f) X.cells.toList).toArray) := by
    simp [Instr.storeAt, Instr.sureAddr, storeVar, sizeOf_of hF w, hX', hst, splice]
  generalize hcs' : (splice cur.toList (i * k + f) X.cells.toList).toArray = cs' at hrun
  have hheap : (w.setRow b' cs').heap[b']? = some (.cells cs' e (0, 0)) := setRow_heap w b' cur cs' e (0, 0) hh
  have hle2 : i * k + f + X.cells.toList.length ≤ cur.toList.length := by rw [hlen]; simp; omega
  have hrows : (rows.set i (splice r f new)).length = rows.length := by simp
  have hOS : ObjStep cx σ g nx nx w (w.setRow b' cs') id (.pin e k (rows.set i (splice r f new)) (.slice (some ⟨b', 0, none⟩) n cp)) (g id) := by
    refine ⟨.inr ⟨rfl, .pin e k rows (.slice (some ⟨b', 0, none⟩) n cp), ho, trivial⟩, ⟨rfl, rfl, rfl, by simp, fun k hk => setRow_other w b' k cs' (by omega)⟩, fun b hb hne => setRow_other w b' b cs' (fun e => hne _ ho (by rw [hv', e]; rfl)), fun b hb => .inl ⟨_, ho, hb⟩⟩
  have hxs' : cs'.toList.take (rows.length * k) = splice xs (i * k + f) X.cells.toList := by
    subst hcs'
    apply List.ext_getElem?
    intro j
    have hxl : xs.length = rows.length * k := h1.1
    rw [List.getElem?_take]
    show (if j < rows.length * k then (splice cur.toList (i * k + f) X.cells.toList)[j]? else none) = _
    rw [splice_get hle2, splice_get (l := xs) (by rw [hxl, hlen]; omega)]
    by_cases hj : j < rows.length * k
    · rw [if_pos hj]
      split
      · rfl
      · rw [← htk, List.getElem?_take, if_pos hj]
    · rw [if_neg hj, if_neg (by rw [hlen]; omega), List.getElem?_eq_none (by omega)]
  have hG := SimG.obj hs hOS (fun hlat => ?_) trivial
  · unfold Oper.wp
    simp only [execOp, hv, hX, Sem.run_bind, hrun, Result.andThen_ok, Sem.run_pure, Oper.upon, Act.put]
    refine hK _ _ (Sim.eqv ⟨_, _, hG⟩ fun k => ?_)
    cases k with
    | s i => rw [objSt_s]; exact (get_cons_ne (by simp)).symm
    | o i =>
      by_cases hi : i = id
      · subst hi; rw [get_cons_same]; exact get_cons_same.symm
      · rw [objSt_o hi]; exact (get_cons_ne (by simpa using fun e => hi e.symm)).symm
    | nx => rw [objSt_nx]; exact hs.hnx.symm.trans (get_cons_ne (by simp)).symm
  · have hsl : (splice xs (i * k + f) X.cells.toList).length = xs.length := splice_len (by rw [h1.1, hlen]; omega)
    refine ⟨(upd_same _ _ _).trans hgx, splice xs (i * k + f) X.cells.toList, ⟨by rw [hsl, h1.1, hrows], .inr ⟨b', cap, cs', ?_, hge, hheap, by rw [hrows]; exact hle', hcm, ?_, by rw [hrows]; exact hxs'⟩⟩, fun x hx => ?_, fun r' hr' => ?_, fun i' j r' z x hi' hj hx => ?_⟩
    · rw [upd_same, hv', hrows]
    · subst hcs'; rw [← hsz]; simpa using splice_len hle2
    · obtain ⟨j, hj⟩ := List.getElem?_of_mem hx
      rw [splice_get (by rw [h1.1, hlen]; omega)] at hj
      split at hj
      · exact c2 x (List.mem_of_getElem? hj)
      · exact h2 x (List.mem_of_getElem? hj)
    · rcases List.mem_or_eq_of_mem_set hr' with h | h
      · exact h3 r' h
      · subst h; rw [splice_len hle, hrk]
    · have hjk : j < k := by
        have hm : r' ∈ rows.set i (splice r f new) := List.mem_of_getElem? hi'
        have : r'.length = k := by
          rcases List.mem_or_eq_of_mem_set hm with h | h
          · exact h3 r' h
          · subst h; rw [splice_len hle, hrk]
        rw [← this]; exact (List.getElem?_eq_some_iff.1 hj).1
      rw [splice_get (by rw [h1.1, hlen]; omega)] at hx
      by_cases hii : i = i'
      · subst hii
        rw [List.getElem?_set_self hil] at hi'
        cases hi'
        rw [splice_get hle] at hj
        by_cases hin : f ≤ j ∧ j < f + new.length
        · rw [if_pos hin] at hj
          rw [if_pos (by rw [hlen]; omega), show i * k + j - (i * k + f) = j - f by omega] at hx
          exact (c3 (j - f) x z hj hx).step hlat.ext hlat.own
        · rw [if_neg hin] at hj
          rw [if_neg (by rw [hlen]; omega)] at hx
          exact (h4 i j r z x hr hj hx).step hlat.ext hlat.own
      · rw [List.getElem?_set_ne hii] at hi'
        have hout : ¬ (i * k + f ≤ i' * k + j ∧ i' * k + j < i * k + f + X.cells.toList.length) := by
          rw [hlen]
          rcases Nat.lt_or_ge i' i with hlt | hge
          · have := Nat.mul_le_mul_right k hlt
            rw [Nat.succ_mul] at this
            omega
          · have := Nat.mul_le_mul_right k (show i + 1 ≤ i' by omega)
            rw [Nat.add_mul, Nat.one_mul] at this
            omega
        rw [if_neg hout] at hx
        exact (h4 i' j r' z x hi' hj hx).step hlat.ext hlat.own


theorem a_iav {t : TypeId} {x y : Operand} {b n cp k i : Nat} {kd : IntKind} {ti : TI} (hx : ev σ x = some (.d (.v (.slice (some ⟨b, 0, none⟩) n cp)))) (hy : ev σ y = some (.d (.v (.int kd (i : Int))))) (ht : tget cx.T t = some ti) (hk : slK ti = some k) (hd : Nat.blt d cx.n = true) (hi : i < n) :
    OA cx σ ⟨some d, .indexAddr t x y, ty, pos, af, gd⟩ ⟨rdOf x (.d (.v (.slice (some ⟨b, 0, none⟩) n cp))) ++ rdOf y (.d (.v (.int kd (i : Int)))), [(.s d, .av (.d (.v (.pointer (some ⟨b, i * k, none⟩)))))]⟩ :=
  ⟨ok_iav (lt_of_blt hd) (ev_out hx).1 (ev_out hy).1 ht hk hi, (ev_out hx).2.append (ev_out hy).2⟩
theorem a_fav {t : TypeId} {x : Operand} {b q : Nat} {ti : TI} {fl off : Nat} (hx : ev σ x = some (.d (.v (.pointer (some ⟨b, q, none⟩))))) (ht : tget cx.T t = some ti) (hf : fldOff ti fl = some off) (hd : Nat.blt d cx.n = true) :
    OA cx σ ⟨some d, .fieldAddr t x fl, ty, pos, af, gd⟩ ⟨rdOf x (.d (.v (.pointer (some ⟨b, q, none⟩)))), [(.s d, .av (.d (.v (.pointer (some ⟨b, q + off, none⟩)))))]⟩ :=
  ⟨ok_fav (lt_of_blt hd) (ev_out hx).1 ht hf, (ev_out hx).2⟩
theorem a_lpin {t : TypeId} {x : Operand} (id i f : Nat) {n e k b cp q : Nat} {rows : List (List D)} {r : List D} {ti : TI} {y : D} (hx : ev σ x = some (.d (.v (.pointer (some ⟨b, q, none⟩))))) (ho : get σ (.o id) = .ob (.pin e k rows (.slice (some ⟨b, 0, none⟩) n cp))) (ht : tget cx.T t = some ti)
    (hd : Nat.blt d cx.n = true) (hr : rows[i]? = some r) (hl : ldD ti (r.drop f) = some y) (hq : q = i * k + f) :
    OA cx σ ⟨some d, .load t x, ty, pos, af, gd⟩ ⟨rdOf x (.d (.v (.pointer (some ⟨b, q, none⟩)))) ++ [(.o id, .ob (.pin e k rows (.slice (some ⟨b, 0, none⟩) n cp)))], [(.s d, .av (.d y))]⟩ :=
  ⟨ok_load_pin (lt_of_blt hd) (ev_out hx).1 ht hq hr hl, (ev_out hx).2.append ⟨ho, trivial⟩⟩
theorem a_spin {t : TypeId} {x y : Operand} (id i f : Nat) {n e k b cp q : Nat} {rows : List (List D)} {r new : List D} {av : AV} {ti : TI} (hx : ev σ x = some (.d (.v (.pointer (some ⟨b, q, none⟩))))) (ho : get σ (.o id) = .ob (.pin e k rows (.slice (some ⟨b, 0, none⟩) n cp))) (hy : ev σ y = some av) (ht : tget cx.T t = some ti)
    (hc : dcells av = some new) (hnn : Nat.beq new.length ti.n = true) (hr : rows[i]? = some r) (hle : Nat.ble (f + new.length) r.length = true) (hq : q = i * k + f) :
    OA cx σ ⟨none, .store t x y, ty, pos, af, gd⟩ ⟨rdOf x (.d (.v (.pointer (some ⟨b, q, none⟩)))) ++ (rdOf y av ++ [(.o id, .ob (.pin e k rows (.slice (some ⟨b, 0, none⟩) n cp)))]), [(.o id, .ob (.pin e k (rows.set i (splice r f new)) (.slice (some ⟨b, 0, none⟩) n cp)))]⟩ :=
  ⟨ok_store_pin (ev_out hx).1 (ev_out hy).1 ht hc hq hr hnn (by simpa using hle), (ev_out hx).2.append ((ev_out hy).2.append ⟨ho, trivial⟩)⟩

/-- A slice with a known handle, handed on as data: it is ours no more. -/
theorem stut_freeze_pin {i id e k : Nat} {rows : List (List D)} {x : Value} : Stut cx ⟨[(.s i, .av (.d (.v x))), (.o id, .ob (.pin e k rows x))], [(.s i, .av (.d (.sl k rows))), (.o id, .none)]⟩ := by
  rintro σ a w hs hr
  have hs0 := hs
  obtain ⟨g, nx, hG⟩ := hs0
  have ho : get σ (.o id) = .ob (.pin e k rows x) := hr.2.1
  obtain ⟨_, ⟨hgx, hrows⟩, _⟩ := hG.objs id _ ho
  have hrows' : RowsAt w cx.w0.heap.size (cx.own g σ) e k (g id) rows := hrows
  have hv := rd_v (hG.slots i _ hr.1).1
  have h1 := hs.less (Less.drop hs id)
  obtain ⟨g2, nx2, hG2⟩ := h1
  have hl := Less.drop hs id
  have hlat : Later cx g g σ ((.o id, .none) :: σ) w w nx := by
    refine ⟨Ext.refl _ _, Below.refl _ _, fun b hb => ?_, fun j o' _ h => ⟨o', hl.o _ _ h, ?_⟩⟩
    · rcases hb with hb | ⟨j, o, h5, h6⟩
      · exact .inl (.inl hb)
      · exact .inl (.inr ⟨j, o, hl.o _ _ h5, h6⟩)
    · cases o' <;> simp [ObLe]
  have hG3 : SimG cx ((.o id, .none) :: σ) a w g nx :=
    hG.next hlat ((get_cons_ne (by simp)).trans hG.hnx) (Nat.le_refl _) hG.size hG.defers (Below.refl _ _) (fun j av hj => .inl ⟨hl.s _ _ hj, rfl⟩) (fun j o hj => .inl ⟨hl.o _ _ hj, rfl, fun _ _ => rfl⟩)
      (fun j j' o o' b h1 h2 => hG.sep j j' o o' b (hl.o _ _ h1) (hl.o _ _ h2))
  refine Sim.retell hG3 (av := .d (.sl k rows)) ?_ trivial
  show Rd w _ (a.tmps.getD i undef) (.sl k rows)
  rw [hv, ← hgx]
  refine hrows'.rd fun b hb => ?_
  rcases hb with h | ⟨j, o, h1, h2⟩
  · refine ⟨.inl h, fun hb => ?_⟩
    have h3 := obj_ge hG ho hb
    have h4 := hG.own0 b h
    omega
  · have hj : j ≠ id := fun e => by subst e; rw [get_cons_same] at h1; cases h1
    have h1' := hl.o _ _ h1
    exact ⟨.inr ⟨j, o, h1', h2⟩, fun hb => hj (hG.sep j id o _ b h1' ho h2 hb)⟩

end Go.AX

/-! R2 -/
/-
  Contracts of the program's Get, Put, Drop and Round of rows.
-/
namespace Go.Proofs.YtobanjfamccjmaaDoor
open Go.AX Go.RF Go.RowKit

set_option maxRecDepth 100000
set_option maxHeartbeats 8000000

/-! ### Rows in order: what a key has, given, taken -/
def putS (k : Str) (n : Int) : List Pair → List Pair
  | [] => [⟨k, n⟩]
  | p :: r => if p.key = k then ⟨k, n⟩ :: r else if slt p.key k = true then p :: putS k n r else ⟨k, n⟩ :: p :: r
def dropS (k : Str) : List Pair → List Pair
  | [] => []
  | p :: r => if p.key = k then r else p :: dropS k r

theorem atr_some {l : List Pair} {k : Str} {m : Nat} (h : isAtR l k m = true) : ∃ c, l[m]? = some c ∧ c.key = k := by
  unfold isAtR isAtK at h
  split at h
  · next c hc => exact ⟨c, hc, by simpa using h⟩
  · cases h
theorem atk_tail {d : Pair} {l : List Pair} {k : Str} {m : Nat} (hm : AtK Pair.key (d :: l) k (m + 1)) : AtK Pair.key l k m :=
  ⟨by have := hm.le; simpa using this, fun x c hx hlt => hm.lt (x + 1) c (by simpa using hx) (by omega), fun x c hx hge => hm.ge (x + 1) c (by simpa using hx) (by omega)⟩
theorem get_some {k : Str} : ∀ {l : List Pair} {m : Nat} {c : Pair}, AtK Pair.key l k m → l[m]? = some c → c.key = k → RF.get l k = (c.n, true)
  | [], m, c, _, h, _ => by simp at h
  | d :: l, 0, c, _, h, hk => by simp at h; subst h; simp [RF.get, hk]
  | d :: l, m + 1, c, hm, h, hk => by
    have h1 := hm.lt 0 d rfl (by omega)
    simp only [RF.get]
    rw [if_neg (slt_ne h1), get_some (atk_tail hm) (by simpa using h) hk]
theorem get_none {k : Str} : ∀ {l : List Pair} {m : Nat}, AtK Pair.key l k m → isAtR l k m = false → Srt Pair.key l → RF.get l k = (0, false)
  | [], m, _, _, _ => rfl
  | d :: l, 0, hm, hn, hs => by
    have h1 : d.key ≠ k := by simpa [isAtR, isAtK] using hn
    have h2 := hm.ge 0 d rfl (Nat.le_refl _)
    have h0 : ∀ p ∈ l, p.key ≠ k := fun p hp e => by
      have h3 := (List.pairwise_cons.1 hs).1 p hp
      rw [e] at h3
      rw [h3] at h2; cases h2
    simp only [RF.get]
    rw [if_neg h1]
    clear hm hn hs h1 h2
    induction l with
    | nil => rfl
    | cons p l ih =>
      simp only [RF.get]
      rw [if_neg (h0 p (List.mem_cons_self ..))]
      exact ih fun q hq => h0 q (List.mem_cons_of_mem _ hq)
  | d :: l, m + 1, hm, hn, hs => by
    have h1 := hm.lt 0 d rfl (by omega)
    simp only [RF.get]
    rw [if_neg (slt_ne h1)]
    exact get_none (atk_tail hm) (by simpa [isAtR, isAtK] using hn) (List.pairwise_cons.1 hs).2
theorem putS_found {k : Str} {n : Int} : ∀ {l : List Pair} {m : Nat} {c : Pair}, AtK Pair.key l k m → l[m]? = some c → c.key = k → putS k n l = l.set m ⟨c.key, n⟩
  | [], m, c, _, h, _ => by simp at h
  | d :: l, 0, c, _, h, hk => by
    simp at h; subst h
    simp only [putS]
    rw [if_pos hk, List.set_cons_zero, hk]
  | d :: l, m + 1, c, hm, h, hk => by
    have h1 := hm.lt 0 d rfl (by omega)
    simp only [putS]
    rw [if_neg (slt_ne h1), if_pos h1, putS_found (atk_tail hm) (by simpa using h) hk, List.set_cons_succ]
theorem putS_new {k : Str} {n : Int} : ∀ {l : List Pair} {m : Nat}, AtK Pair.key l k m → isAtR l k m = false → putS k n l = l.take m ++ ⟨k, n⟩ :: l.drop m
  | [], m, hm, _ => by
    obtain rfl : m = 0 := by simpa using hm.le
    rfl
  | d :: l, 0, hm, hn => by
    have h1 : d.key ≠ k := by simpa [isAtR, isAtK] using hn
    have h2 := hm.ge 0 d rfl (Nat.le_refl _)
    simp only [putS]
    rw [if_neg h1, if_neg (by rw [h2]; simp)]
    rfl
  | d :: l, m + 1, hm, hn => by
    have h1 := hm.lt 0 d rfl (by omega)
    simp only [putS]
    rw [if_neg (slt_ne h1), if_pos h1, putS_new (atk_tail hm) (by simpa [isAtR, isAtK] using hn)]
    rfl
theorem dropS_found {k : Str} : ∀ {l : List Pair} {m : Nat} {c : Pair}, AtK Pair.key l k m → l[m]? = some c → c.key = k → dropS k l = l.take m ++ l.drop (m + 1)
  | [], m, c, _, h, _ => by simp at h
  | d :: l, 0, c, _, h, hk => by
    simp at h; subst h
    simp [dropS, hk]
  | d :: l, m + 1, c, hm, h, hk => by
    have h1 := hm.lt 0 d rfl (by omega)
    simp only [dropS]
    rw [if_neg (slt_ne h1), dropS_found (atk_tail hm) (by simpa using h) hk]
    rfl
theorem dropS_none {k : Str} : ∀ {l : List Pair}, (∀ p ∈ l, p.key ≠ k) → dropS k l = l
  | [], _ => rfl
  | d :: l, h => by
    simp only [dropS]
    rw [if_neg (h d (List.mem_cons_self ..)), dropS_none fun p hp => h p (List.mem_cons_of_mem _ hp)]
theorem not_at {l : List Pair} {k : Str} {m : Nat} (hm : AtK Pair.key l k m) (hn : isAtR l k m = false) (hs : Srt Pair.key l) : ∀ p ∈ l, p.key ≠ k := by
  intro p hp e
  obtain ⟨i, hi⟩ := List.getElem?_of_mem hp
  rcases Nat.lt_trichotomy i m with h | h | h
  · have := hm.lt i p hi h; rw [e, slt_irrefl] at this; cases this
  · subst h
    unfold isAtR isAtK at hn
    rw [hi] at hn
    simp [e] at hn
  · have hil := (List.getElem?_eq_some_iff.1 hi).1
    have h1 := hm.ge m (l[m]'(by omega)) (List.getElem?_eq_getElem (by omega)) (Nat.le_refl _)
    have h2 := hs.lt (List.getElem?_eq_getElem (show m < l.length by omega)) hi h
    rw [e] at h2
    rw [h2] at h1; cases h1
theorem dropS_at {l : List Pair} {k : Str} {m : Nat} (hm : AtK Pair.key l k m) (hn : isAtR l k m = false) (hs : Srt Pair.key l) : dropS k l = l := dropS_none (not_at hm hn hs)

theorem putGo_done {k : Str} {n : Int} {h : Bool} : ∀ {l out : List Pair}, (∀ p ∈ l, p.key ≠ k) → putGo k n h true out l = out ++ l
  | [], out, _ => by simp [putGo]
  | p :: l, out, hl => by
    simp only [putGo]
    rw [if_neg (hl p (List.mem_cons_self ..))]
    simp only [Bool.true_or, Bool.not_true, Bool.false_and, Bool.false_eq_true, if_false]
    rw [putGo_done fun q hq => hl q (List.mem_cons_of_mem _ hq)]
    simp
theorem putGo_srt {k : Str} {n : Int} {h : Bool} : ∀ {l out : List Pair}, Srt Pair.key l → putGo k n h false out l = out ++ (if h = true then putS k n l else dropS k l)
  | [], out, _ => by cases h <;> simp [putGo, putS, dropS]
  | p :: l, out, hs => by
    obtain ⟨h1, h2⟩ := List.pairwise_cons.1 hs
    cases hl : slt p.key k with
    | true =>
      have hk : p.key ≠ k := slt_ne hl
      simp only [putGo, hl]
      rw [if_neg hk]
      simp only [Bool.not_true, Bool.or_false, Bool.not_false, Bool.and_false, Bool.false_and, Bool.false_eq_true, if_false]
      rw [putGo_srt h2]
      cases h <;> simp [putS, dropS, hk, hl]
    | false =>
      have hne : ∀ q ∈ l, q.key ≠ k := fun q hq e => by
        have h3 := h1 q hq
        rw [e] at h3
        rw [h3] at hl; cases hl
      simp only [putGo, hl]
      simp only [Bool.not_false, Bool.or_true, Bool.true_and, Bool.and_true]
      rw [putGo_done hne]
      by_cases hk : p.key = k
      · cases h <;> simp [putS, dropS, hk]
      · cases h <;> simp [putS, dropS, hk, hl, dropS_none hne]
theorem put_true {l : List Pair} (hs : Srt Pair.key l) (k : Str) (n : Int) : put l k n true = putS k n l := by
  unfold put; rw [putGo_srt hs]; rfl
theorem put_false {l : List Pair} (hs : Srt Pair.key l) (k : Str) (n : Int) : put l k n false = dropS k l := by
  unfold put; rw [putGo_srt hs]; rfl
theorem putS_mem {k : Str} {n : Int} : ∀ {l : List Pair} {p : Pair}, p ∈ putS k n l → p ∈ l ∨ p = ⟨k, n⟩
  | [], p, h => by simp [putS] at h; exact .inr h
  | q :: l, p, h => by
    simp only [putS] at h
    split at h
    · rcases List.mem_cons.1 h with h | h
      · exact .inr h
      · exact .inl (List.mem_cons_of_mem _ h)
    · split at h
      · rcases List.mem_cons.1 h with h | h
        · exact .inl (h ▸ List.mem_cons_self ..)
        · rcases putS_mem h with h | h
          · exact .inl (List.mem_cons_of_mem _ h)
          · exact .inr h
      · rcases List.mem_cons.1 h with h | h
        · exact .inr h
        · exact .inl h
theorem dropS_sub {k : Str} : ∀ l : List Pair, (dropS k l).Sublist l
  | [] => List.Sublist.slnil
  | p :: l => by
    simp only [dropS]
    split
    · exact List.sublist_cons_self ..
    · exact (dropS_sub l).cons_cons _
theorem putS_srt {k : Str} {n : Int} : ∀ {l : List Pair}, Srt Pair.key l → Srt Pair.key (putS k n l)
  | [], _ => List.pairwise_singleton ..
  | c :: l, hs => by
    obtain ⟨h1, h2⟩ := List.pairwise_cons.1 hs
    simp only [putS]
    by_cases hk : c.key = k
    · rw [if_pos hk]
      exact List.pairwise_cons.2 ⟨fun d hd => by show slt k d.key = true; rw [← hk]; exact h1 d hd, h2⟩
    · rw [if_neg hk]
      split
      · next h3 =>
        refine List.pairwise_cons.2 ⟨fun d hd => ?_, putS_srt h2⟩
        rcases putS_mem hd with h | rfl
        · exact h1 d h
        · exact h3
      · next h3 =>
        have h4 : slt k c.key = true := by
          rcases slt_tri c.key k with h | h | h
          · exact absurd h h3
          · exact absurd h hk
          · exact h
        refine List.pairwise_cons.2 ⟨fun d hd => ?_, hs⟩
        rcases List.mem_cons.1 hd with rfl | hd
        · exact h4
        · exact slt_trans h4 (h1 d hd)
theorem dropS_srt {k : Str} {l : List Pair} (hs : Srt Pair.key l) : Srt Pair.key (dropS k l) := hs.sublist (dropS_sub l)
theorem putS_len {k : Str} {n : Int} : ∀ l : List Pair, (putS k n l).length ≤ l.length + 1
  | [] => by simp [putS]
  | p :: l => by
    have := putS_len (k := k) (n := n) l
    simp only [putS]
    split
    · simp
    · split <;> simp <;> omega
theorem dropS_len {k : Str} (l : List Pair) : (dropS k l).length ≤ l.length := (dropS_sub l).length_le

/-! ### The walks -/
theorem ok_pround (n : Int) (hn : inI n) : FnOk Tryd.prog 10 [.d (dint n)] (.one (dint (round n))) := by
  refine fnOk_of tbl_ok mixed_ok Tryd.func10 rfl (by kernel_rfl) rfl rfl fun w0 own0 => ?_
  repeat (first | ((with_reducible apply s1); exact rfl) | (with_reducible first | apply CW.seq | apply CW.block | apply CW.region | apply CW.draw | apply CW.skip | apply CW.exit | apply CW.ret | apply q_then | apply q_then_exit | apply q_then_ret | apply q_block | apply q_block_ret | apply q_block_hit | apply q_ret | apply q_end | apply q_loop_exit | apply q_loop_ret | apply q_loopT_exit | apply q_loopT_ret | apply RW.nil) | ((with_reducible apply s3); exact rfl; exact by_k) | ((with_reducible apply s2); exact rfl; exact by_k) | ((with_reducible apply s4); exact rfl) | ((with_reducible apply s5); (first | ((with_reducible apply a_bin); (iterate 2 exact rfl); exact bin_rem (by omega); exact rfl) | exact by_oa); exact by_g) | ((with_reducible apply CW.cond_t); exact rfl; exact by_ks) | ((with_reducible apply CW.cond_f); exact rfl; exact by_ks) | ((with_reducible apply q_block_miss); exact rfl) | (refine And.intro (show chk [] [] _ _ = true by kernel_rfl) ?_))
  refine .one (.tmp rfl (.one (.d (dle_eq ?_))))
  have h1 : n.tdiv 1073741825 * 1073741825 + n.tmod 1073741825 = n := Int.tdiv_mul_add_tmod n 1073741825
  show dint _ = dint _
  congr 1
  unfold round
  omega

theorem ok_pget (l : List Pair) (k : Str) (hl : l.length ≤ 268435456) (hs : Srt Pair.key l) : FnOk Tryd.prog 12 [.d (encRows l), .d (dstr k)] (.tup [dint (RF.get l k).1, dbool (RF.get l k).2]) := by
  refine fnOk_of tbl_ok mixed_ok Tryd.func12 rfl (by kernel_rfl) rfl rfl fun w0 own0 => ?_
  obtain ⟨m, hm⟩ := hs.at k
  have hf := ok_rfind l k m hl hm
  cases hb : isAtR l k m with
  | true =>
    obtain ⟨c, hc, hck⟩ := atr_some hb
    rw [hb] at hf
    rw [get_some hm hc hck]
    repeat (first | ((with_reducible apply s1); exact rfl) | (with_reducible first | apply CW.seq | apply CW.block | apply CW.region | apply CW.draw | apply CW.skip | apply CW.exit | apply CW.ret | apply q_then | apply q_then_exit | apply q_then_ret | apply q_block | apply q_block_ret | apply q_block_hit | apply q_ret | apply q_end | apply q_loop_exit | apply q_loop_ret | apply q_loopT_exit | apply q_loopT_ret | apply RW.nil) | ((with_reducible apply s3); exact rfl; exact by_k) | ((with_reducible apply s2); exact rfl; exact by_k) | ((with_reducible apply s4); exact rfl) | ((with_reducible apply s5); (first | (focus ((with_reducible apply a_call); exact hf; exact rfl; (repeat (first | exact SubsE.nil | (apply SubsE.cons; exact rfl; (first | exact .d (.refl _) | exact .d (.nil _) | exact .agg rfl (.refl _) | exact .pd | exact .ptr rfl); (first | exact trivial | exact ⟨rfl, trivial⟩)))); done)) | exact by_oa); exact by_g) | ((with_reducible apply CW.cond_t); exact rfl; exact by_ks) | ((with_reducible apply CW.cond_f); exact rfl; exact by_ks) | ((with_reducible apply q_block_miss); exact rfl) | (refine And.intro (show chk [] [] _ _ = true by kernel_rfl) ?_))
    exact .two (.tmp rfl (.one (.d (.refl _)))) (.tmp rfl (.one (.d (.refl _))))
  | false =>
    rw [hb] at hf
    rw [get_none hm hb hs]
    repeat (first | ((with_reducible apply s1); exact rfl) | (with_reducible first | apply CW.seq | apply CW.block | apply CW.region | apply CW.draw | apply CW.skip | apply CW.exit | apply CW.ret | apply q_then | apply q_then_exit | apply q_then_ret | apply q_block | apply q_block_ret | apply q_block_hit | apply q_ret | apply q_end | apply q_loop_exit | apply q_loop_ret | apply q_loopT_exit | apply q_loopT_ret | apply RW.nil) | ((with_reducible apply s3); exact rfl; exact by_k) | ((with_reducible apply s2); exact rfl; exact by_k) | ((with_reducible apply s4); exact rfl) | ((with_reducible apply s5); (first | (focus ((with_reducible apply a_call); exact hf; exact rfl; (repeat (first | exact SubsE.nil | (apply SubsE.cons; exact rfl; (first | exact .d (.refl _) | exact .d (.nil _) | exact .agg rfl (.refl _) | exact .pd | exact .ptr rfl); (first | exact trivial | exact ⟨rfl, trivial⟩)))); done)) | exact by_oa); exact by_g) | ((with_reducible apply CW.cond_t); exact rfl; exact by_ks) | ((with_reducible apply CW.cond_f); exact rfl; exact by_ks) | ((with_reducible apply q_block_miss); exact rfl) | (refine And.intro (show chk [] [] _ _ = true by kernel_rfl) ?_))
    exact .two (.tmp rfl (.one (.d (.refl _)))) (.tmp rfl (.one (.d (.refl _))))

theorem ok_pput (l : List Pair) (k : Str) (n : Int) (hl : l.length ≤ 268435456) (hs : Srt Pair.key l) : FnOk Tryd.prog 15 [.d (encRows l), .d (dstr k), .d (dint n)] (.one (encRows (putS k n l))) := by
  refine fnOk_of tbl_ok mixed_ok Tryd.func15 rfl (by kernel_rfl) rfl rfl fun w0 own0 => ?_
  obtain ⟨m, hm⟩ := hs.at k
  have hml := hm.le
  have hf := ok_rfind l k m hl hm
  have hn := new_clone_pair (l.map Pair.enc) (by simp; omega)
  cases hb : isAtR l k m with
  | true =>
    obtain ⟨c, hc, hck⟩ := atr_some hb
    have hmlt := (List.getElem?_eq_some_iff.1 hc).1
    rw [hb] at hf
    rw [putS_found hm hc hck]
    repeat (first | ((with_reducible apply s1); exact rfl) | (with_reducible first | apply CW.seq | apply CW.block | apply CW.region | apply CW.draw | apply CW.skip | apply CW.exit | apply CW.ret | apply q_then | apply q_then_exit | apply q_then_ret | apply q_block | apply q_block_ret | apply q_block_hit | apply q_ret | apply q_end | apply q_loop_exit | apply q_loop_ret | apply q_loopT_exit | apply q_loopT_ret | apply RW.nil) | ((with_reducible apply s3); exact rfl; exact by_k) | ((with_reducible apply s2); exact rfl; exact by_k) | ((with_reducible apply s4); exact rfl) | ((with_reducible apply s5); (first | (focus ((with_reducible apply a_call); exact hf; exact rfl; (repeat (first | exact SubsE.nil | (apply SubsE.cons; exact rfl; (first | exact .d (.refl _) | exact .d (.nil _) | exact .agg rfl (.refl _) | exact .pd | exact .ptr rfl); (first | exact trivial | exact ⟨rfl, trivial⟩)))); done)) | (focus ((with_reducible apply a_callnew); exact hn; (iterate 2 exact rfl); (repeat (first | exact SubsE.nil | (apply SubsE.cons; exact rfl; (first | exact .d (.refl _) | exact .d (.nil _) | exact .agg rfl (.refl _) | exact .pd | exact .ptr rfl); (first | exact trivial | exact ⟨rfl, trivial⟩)))); done)) | exact by_oa); exact by_g) | ((with_reducible apply CW.cond_t); exact rfl; exact by_ks) | ((with_reducible apply CW.cond_f); exact rfl; exact by_ks) | ((with_reducible apply q_block_miss); exact rfl) | (refine And.intro (show chk [] [] _ _ = true by kernel_rfl) ?_))
    refine .one (.tmp rfl (.one (.own rfl (by simp) (dle_eq ?_))))
    show D.sl 2 _ = D.sl 2 _
    congr 1
    rw [List.map_set]
    congr 1
  | false =>
    rw [hb] at hf
    rw [putS_new hm hb]
    have hi := upd_insertP (l.map Pair.enc) m (dstr k) (dint n) (by simp; omega) (by simp; omega)
    repeat (first | ((with_reducible apply s1); exact rfl) | (with_reducible first | apply CW.seq | apply CW.block | apply CW.region | apply CW.draw | apply CW.skip | apply CW.exit | apply CW.ret | apply q_then | apply q_then_exit | apply q_then_ret | apply q_block | apply q_block_ret | apply q_block_hit | apply q_ret | apply q_end | apply q_loop_exit | apply q_loop_ret | apply q_loopT_exit | apply q_loopT_ret | apply RW.nil) | ((with_reducible apply s3); exact rfl; exact by_k) | ((with_reducible apply s2); exact rfl; exact by_k) | ((with_reducible apply s4); exact rfl) | ((with_reducible apply s5); (first | (focus ((with_reducible apply a_call); exact hf; exact rfl; (repeat (first | exact SubsE.nil | (apply SubsE.cons; exact rfl; (first | exact .d (.refl _) | exact .d (.nil _) | exact .agg rfl (.refl _) | exact .pd | exact .ptr rfl); (first | exact trivial | exact ⟨rfl, trivial⟩)))); done)) | (focus ((with_reducible apply a_callnew); exact hn; (iterate 2 exact rfl); (repeat (first | exact SubsE.nil | (apply SubsE.cons; exact rfl; (first | exact .d (.refl _) | exact .d (.nil _) | exact .agg rfl (.refl _) | exact .pd | exact .ptr rfl); (first | exact trivial | exact ⟨rfl, trivial⟩)))); done)) | (focus ((with_reducible apply a_upd); exact hi; (iterate 3 exact rfl); (focus first | exact rfl | (simp; done) | (simp; omega)); exact rfl; (repeat (first | exact SubsE.nil | (apply SubsE.cons; exact rfl; (first | exact .d (.refl _) | exact .d (.nil _) | exact .agg rfl (.refl _) | exact .pd | exact .ptr rfl); (first | exact trivial | exact ⟨rfl, trivial⟩)))); done)) | exact by_oa); exact by_g) | ((with_reducible apply CW.cond_t); exact rfl; exact by_ks) | ((with_reducible apply CW.cond_f); exact rfl; exact by_ks) | ((with_reducible apply q_block_miss); exact rfl) | (refine And.intro (show chk [] [] _ _ = true by kernel_rfl) ?_))
    refine .one (.tmp rfl (.one (.own rfl (by simp) (dle_eq ?_))))
    show D.sl 2 _ = D.sl 2 _
    congr 1
    simp [Pair.enc]

theorem ok_pdrop (l : List Pair) (k : Str) (hl : l.length ≤ 268435456) (hs : Srt Pair.key l) : FnOk Tryd.prog 17 [.d (encRows l), .d (dstr k)] (.one (encRows (dropS k l))) := by
  refine fnOk_of tbl_ok mixed_ok Tryd.func17 rfl (by kernel_rfl) rfl rfl fun w0 own0 => ?_
  obtain ⟨m, hm⟩ := hs.at k
  have hml := hm.le
  have hf := ok_rfind l k m hl hm
  have hn := new_clone_pair (l.map Pair.enc) (by simp; omega)
  cases hb : isAtR l k m with
  | true =>
    obtain ⟨c, hc, hck⟩ := atr_some hb
    have hmlt := (List.getElem?_eq_some_iff.1 hc).1
    rw [hb] at hf
    rw [dropS_found hm hc hck]
    have hd := upd_delete (l.map Pair.enc) m (by simpa using hmlt) (by simp; omega)
    repeat (first | ((with_reducible apply s1); exact rfl) | (with_reducible first | apply CW.seq | apply CW.block | apply CW.region | apply CW.draw | apply CW.skip | apply CW.exit | apply CW.ret | apply q_then | apply q_then_exit | apply q_then_ret | apply q_block | apply q_block_ret | apply q_block_hit | apply q_ret | apply q_end | apply q_loop_exit | apply q_loop_ret | apply q_loopT_exit | apply q_loopT_ret | apply RW.nil) | ((with_reducible apply s3); exact rfl; exact by_k) | ((with_reducible apply s2); exact rfl; exact by_k) | ((with_reducible apply s4); exact rfl) | ((with_reducible apply s5); (first | (focus ((with_reducible apply a_call); exact hf; exact rfl; (repeat (first | exact SubsE.nil | (apply SubsE.cons; exact rfl; (first | exact .d (.refl _) | exact .d (.nil _) | exact .agg rfl (.refl _) | exact .pd | exact .ptr rfl); (first | exact trivial | exact ⟨rfl, trivial⟩)))); done)) | (focus ((with_reducible apply a_callnew); exact hn; (iterate 2 exact rfl); (repeat (first | exact SubsE.nil | (apply SubsE.cons; exact rfl; (first | exact .d (.refl _) | exact .d (.nil _) | exact .agg rfl (.refl _) | exact .pd | exact .ptr rfl); (first | exact trivial | exact ⟨rfl, trivial⟩)))); done)) | (focus ((with_reducible apply a_upd); exact hd; (iterate 3 exact rfl); (focus first | exact rfl | (simp; done) | (simp; omega)); exact rfl; (repeat (first | exact SubsE.nil | (apply SubsE.cons; exact rfl; (first | exact .d (.refl _) | exact .d (.nil _) | exact .agg rfl (.refl _) | exact .pd | exact .ptr rfl); (first | exact trivial | exact ⟨rfl, trivial⟩)))); done)) | exact by_oa); exact by_g) | ((with_reducible apply CW.cond_t); exact rfl; exact by_ks) | ((with_reducible apply CW.cond_f); exact rfl; exact by_ks) | ((with_reducible apply q_block_miss); exact rfl) | (refine And.intro (show chk [] [] _ _ = true by kernel_rfl) ?_))
    refine .one (.tmp rfl (.one (.own rfl (by simp) (dle_eq ?_))))
    show D.sl 2 _ = D.sl 2 _
    congr 1
    simp
  | false =>
    rw [hb] at hf
    rw [dropS_at hm hb hs]
    repeat (first | ((with_reducible apply s1); exact rfl) | (with_reducible first | apply CW.seq | apply CW.block | apply CW.region | apply CW.draw | apply CW.skip | apply CW.exit | apply CW.ret | apply q_then | apply q_then_exit | apply q_then_ret | apply q_block | apply q_block_ret | apply q_block_hit | apply q_ret | apply q_end | apply q_loop_exit | apply q_loop_ret | apply q_loopT_exit | apply q_loopT_ret | apply RW.nil) | ((with_reducible apply s3); exact rfl; exact by_k) | ((with_reducible apply s2); exact rfl; exact by_k) | ((with_reducible apply s4); exact rfl) | ((with_reducible apply s5); (first | (focus ((with_reducible apply a_call); exact hf; exact rfl; (repeat (first | exact SubsE.nil | (apply SubsE.cons; exact rfl; (first | exact .d (.refl _) | exact .d (.nil _) | exact .agg rfl (.refl _) | exact .pd | exact .ptr rfl); (first | exact trivial | exact ⟨rfl, trivial⟩)))); done)) | (focus ((with_reducible apply a_callnew); exact hn; (iterate 2 exact rfl); (repeat (first | exact SubsE.nil | (apply SubsE.cons; exact rfl; (first | exact .d (.refl _) | exact .d (.nil _) | exact .agg rfl (.refl _) | exact .pd | exact .ptr rfl); (first | exact trivial | exact ⟨rfl, trivial⟩)))); done)) | exact by_oa); exact by_g) | ((with_reducible apply CW.cond_t); exact rfl; exact by_ks) | ((with_reducible apply CW.cond_f); exact rfl; exact by_ks) | ((with_reducible apply q_block_miss); exact rfl) | (refine And.intro (show chk [] [] _ _ = true by kernel_rfl) ?_))
    exact .one (.tmp rfl (.one (.own rfl (by simp) (.refl _))))

end Go.Proofs.YtobanjfamccjmaaDoor

/-! F1 -/
/-
  Contracts of the references' small functions on data: lists held against each other.
-/
namespace Go.Proofs.YtobanjfamccjmaaDoor
open Go.AX Go.RF

set_option maxRecDepth 100000

theorem ok_SameRows (l r : List Pair) (hl : l.length ≤ 1073741824) : FnOk Tryd.prog 14 [.d (encRows l), .d (encRows r)] (.one (dbool (allB (fun a b => decide (a = b)) l r))) := by
  refine fnOk_of tbl_ok mixed_ok Tryd.func14 rfl (by kernel_rfl) rfl rfl fun w0 own0 => ?_
  by_cases hlen : l.length = r.length
  ·
    repeat (first | ((with_reducible apply s1); exact rfl) | (with_reducible first | apply CW.seq | apply CW.block | apply CW.region | apply CW.draw | apply CW.skip | apply CW.exit | apply CW.ret | apply q_then | apply q_then_exit | apply q_then_ret | apply q_block | apply q_block_ret | apply q_block_hit | apply q_ret | apply q_end | apply q_loop_exit | apply q_loop_ret | apply q_loopT_exit | apply q_loopT_ret | apply RW.nil) | ((with_reducible apply s3); exact rfl; exact by_k) | ((with_reducible apply s2); exact rfl; exact by_k) | ((with_reducible apply s4); exact rfl) | ((with_reducible apply s5); (first | exact by_oa); exact by_g) | ((with_reducible apply CW.cond_t); exact rfl; exact by_ks) | ((with_reducible apply CW.cond_f); exact rfl; exact by_ks) | ((with_reducible apply q_block_miss); exact rfl) | (refine And.intro (show chk [] [] _ _ = true by kernel_rfl) ?_))
    refine CW.loop (fun k => [(.s 0, .av (.d (encRows l))), (.s 1, .av (.d (encRows r))), (.s 11, .av (.d (encRows l))), (.s 12, .av (.d (dint l.length))), (.s 13, .av (.d (dint k))), (.nx, .num 0)]) (agree (fun a b => decide (a = b)) l r) ?_ fun k hk => ?_
    ·
      exact by_less
    · rcases agree_case hlen hk with ⟨h1, h1', a, b, h2, h3, h4⟩ | ⟨h1, h2⟩ | ⟨h1, h2, a, b, h3, h4, h5⟩
      · replace h4 : a = b := by simpa using h4
        repeat (first | ((with_reducible apply s1); exact rfl) | (with_reducible first | apply CW.seq | apply CW.block | apply CW.region | apply CW.draw | apply CW.skip | apply CW.exit | apply CW.ret | apply q_then | apply q_then_exit | apply q_then_ret | apply q_block | apply q_block_ret | apply q_block_hit | apply q_ret | apply q_end | apply q_loop_exit | apply q_loop_ret | apply q_loopT_exit | apply q_loopT_ret | apply RW.nil) | ((with_reducible apply s3); exact rfl; exact by_k) | ((with_reducible apply s2); exact rfl; exact by_k) | ((with_reducible apply s4); exact rfl) | ((with_reducible apply s5); (first | ((with_reducible apply a_agg); exact neq_pair a b; (iterate 5 exact rfl)) | exact by_oa); exact by_g) | ((with_reducible apply CW.cond_t); exact rfl; exact by_ks) | ((with_reducible apply CW.cond_f); exact rfl; exact by_ks) | ((with_reducible apply q_block_miss); exact rfl) | (refine And.intro (show chk [] [] _ _ = true by kernel_rfl) ?_))
        refine q_loop h1 ?_
        exact by_less
      ·
        repeat (first | ((with_reducible apply s1); exact rfl) | (with_reducible first | apply CW.seq | apply CW.block | apply CW.region | apply CW.draw | apply CW.skip | apply CW.exit | apply CW.ret | apply q_then | apply q_then_exit | apply q_then_ret | apply q_block | apply q_block_ret | apply q_block_hit | apply q_ret | apply q_end | apply q_loop_exit | apply q_loop_ret | apply q_loopT_exit | apply q_loopT_ret | apply RW.nil) | ((with_reducible apply s3); exact rfl; exact by_k) | ((with_reducible apply s2); exact rfl; exact by_k) | ((with_reducible apply s4); exact rfl) | ((with_reducible apply s5); (first | exact by_oa); exact by_g) | ((with_reducible apply CW.cond_t); exact rfl; exact by_ks) | ((with_reducible apply CW.cond_f); exact rfl; exact by_ks) | ((with_reducible apply q_block_miss); exact rfl) | (refine And.intro (show chk [] [] _ _ = true by kernel_rfl) ?_))
        exact .one (.tmp rfl (.one (.d (dle_bool h2.symm))))
      · replace h5 : ¬ a = b := by simpa using h5
        repeat (first | ((with_reducible apply s1); exact rfl) | (with_reducible first | apply CW.seq | apply CW.block | apply CW.region | apply CW.draw | apply CW.skip | apply CW.exit | apply CW.ret | apply q_then | apply q_then_exit | apply q_then_ret | apply q_block | apply q_block_ret | apply q_block_hit | apply q_ret | apply q_end | apply q_loop_exit | apply q_loop_ret | apply q_loopT_exit | apply q_loopT_ret | apply RW.nil) | ((with_reducible apply s3); exact rfl; exact by_k) | ((with_reducible apply s2); exact rfl; exact by_k) | ((with_reducible apply s4); exact rfl) | ((with_reducible apply s5); (first | ((with_reducible apply a_agg); exact neq_pair a b; (iterate 5 exact rfl)) | exact by_oa); exact by_g) | ((with_reducible apply CW.cond_t); exact rfl; exact by_ks) | ((with_reducible apply CW.cond_f); exact rfl; exact by_ks) | ((with_reducible apply q_block_miss); exact rfl) | (refine And.intro (show chk [] [] _ _ = true by kernel_rfl) ?_))
        exact .one (.tmp rfl (.one (.d (dle_bool h2.symm))))
  ·
    repeat (first | ((with_reducible apply s1); exact rfl) | (with_reducible first | apply CW.seq | apply CW.block | apply CW.region | apply CW.draw | apply CW.skip | apply CW.exit | apply CW.ret | apply q_then | apply q_then_exit | apply q_then_ret | apply q_block | apply q_block_ret | apply q_block_hit | apply q_ret | apply q_end | apply q_loop_exit | apply q_loop_ret | apply q_loopT_exit | apply q_loopT_ret | apply RW.nil) | ((with_reducible apply s3); exact rfl; exact by_k) | ((with_reducible apply s2); exact rfl; exact by_k) | ((with_reducible apply s4); exact rfl) | ((with_reducible apply s5); (first | exact by_oa); exact by_g) | ((with_reducible apply CW.cond_t); exact rfl; exact by_ks) | ((with_reducible apply CW.cond_f); exact rfl; exact by_ks) | ((with_reducible apply q_block_miss); exact rfl) | (refine And.intro (show chk [] [] _ _ = true by kernel_rfl) ?_))
    refine .one (.tmp rfl (.one (.d (dle_bool ?_))))
    cases hb : allB (fun a b => decide (a = b)) l r
    · rfl
    · exact absurd (allB_len hb) hlen

end Go.Proofs.YtobanjfamccjmaaDoor

/-! F6 -/
/-
  Contracts of the references' functions that hold lists of ends, deeds, chains against each other.
-/
namespace Go.Proofs.YtobanjfamccjmaaDoor
open Go.AX Go.RF

set_option maxRecDepth 100000
set_option maxHeartbeats 4000000

end Go.Proofs.YtobanjfamccjmaaDoor

/-! F7 -/
/-
  Contract of the references' Before.
-/
namespace Go.Proofs.YtobanjfamccjmaaDoor
open Go.AX Go.RF

set_option maxRecDepth 100000
set_option maxHeartbeats 4000000

end Go.Proofs.YtobanjfamccjmaaDoor

/-! F8 -/
/-
  Contracts of the references' RowsAt and Right.
-/
namespace Go.Proofs.YtobanjfamccjmaaDoor
open Go.AX Go.RF

set_option maxRecDepth 100000
set_option maxHeartbeats 4000000

end Go.Proofs.YtobanjfamccjmaaDoor

/-! F10 -/
/-
  Contract of the references' Clear.
-/
namespace Go.Proofs.YtobanjfamccjmaaDoor
open Go.AX Go.RF

set_option maxRecDepth 100000
set_option maxHeartbeats 4000000

end Go.Proofs.YtobanjfamccjmaaDoor

/-! F12 -/
/-
  Contracts of the references' SameChains.
-/
namespace Go.Proofs.YtobanjfamccjmaaDoor
open Go.AX Go.RF

set_option maxRecDepth 100000
set_option maxHeartbeats 4000000

end Go.Proofs.YtobanjfamccjmaaDoor

/-! F14 -/
/-
  Contracts of the references' New, Mark, Clear, Seen, SameEngine of engines.
-/
namespace Go.Proofs.YtobanjfamccjmaaDoor
open Go.AX Go.RF

set_option maxRecDepth 100000
set_option maxHeartbeats 4000000

theorem markN_le : ∀ l : List Int, markN l ≤ l.length
  | [] => by simp [markN]
  | s :: r => by
    have := markN_le r
    simp only [markN]
    split <;> simp <;> omega

end Go.Proofs.YtobanjfamccjmaaDoor

/-! F18 -/
/-
  Contract of the references' Add of deeds to engines: the walk.
-/
namespace Go.Proofs.YtobanjfamccjmaaDoor
open Go.AX Go.RF

set_option maxRecDepth 100000
set_option maxHeartbeats 8000000

end Go.Proofs.YtobanjfamccjmaaDoor

/-! F9 -/
/-
  Contract of the references' Set.
-/
namespace Go.Proofs.YtobanjfamccjmaaDoor
open Go.AX Go.RF

set_option maxRecDepth 100000
set_option maxHeartbeats 4000000

end Go.Proofs.YtobanjfamccjmaaDoor

/-! F15 -/
/-
  Contracts of the references' Keys, Needs, Ready.
-/
namespace Go.Proofs.YtobanjfamccjmaaDoor
open Go.AX Go.RF

set_option maxRecDepth 100000
set_option maxHeartbeats 4000000

def orIn (h : Bool) (l : List Str) (s : Str) : Bool := match l with
  | [] => h
  | x :: l => orIn (h || decide (x = s)) l s
theorem orIn_eq : ∀ {l : List Str} {h : Bool} {s : Str}, orIn h l s = (h || isIn l s)
  | [], h, s => by simp [orIn, isIn]
  | x :: l, h, s => by
    simp only [orIn, orIn_eq (l := l), isIn]
    by_cases e : x = s <;> simp [e]

theorem keysGo_len : ∀ (l out : List Str), (keysGo' out l).length ≤ out.length + l.length
  | [], out => by simp [keysGo']
  | k :: r, out => by
    have := keysGo_len r (if isIn out k = true then out else out ++ [k])
    simp only [keysGo']
    split at this <;> simp_all <;> omega
theorem keysD_len {d : Deed} (h : d.Sm) : (keysD d).length ≤ 536870912 := by
  have := keysGo_len (d.reads ++ d.writes) []
  have h1 := h.r
  have h2 := h.w
  simp at this
  unfold keysD
  omega

theorem hit_case (cs : List Chain) (b want : Int) (k : Str) : hit cs b want k = (!(before cs k b).made && decide ((before cs k b).by_ = want)) := rfl

def needsAt (e : Engine) (at_ : Nat) : List Int := match e.deeds[at_]? with
  | some d => needs e at_ d
  | none => []
def readyGo (e : Engine) : Nat → List Int → List Int
  | _, [] => []
  | i, s :: r => if s = 0 ∧ needsAt e i = [] then (i : Int) :: readyGo e (i + 1) r else readyGo e (i + 1) r
def ready (e : Engine) : List Int := readyGo e 0 e.state

theorem needs_len (cs : List Chain) (base b : Int) (ks : List Str) : ∀ (l : List Nat) (j : Nat), (needsGo cs base b ks j l).length ≤ l.length
  | [], _ => by simp [needsGo]
  | k :: r, j => by
    have := needs_len cs base b ks r 0
    simp only [needsGo]
    split <;> simp <;> omega

end Go.Proofs.YtobanjfamccjmaaDoor

/-! F3 -/
/-
  Contracts of the references' functions on rows, continued.
-/
namespace Go.Proofs.YtobanjfamccjmaaDoor
open Go.AX Go.RF

set_option maxRecDepth 100000
set_option maxHeartbeats 4000000

theorem ok_put (l : List Pair) (k : Str) (n : Int) (hs : Bool) (hl : l.length ≤ 268435456) : FnOk Tryd.prog 16 [.d (encRows l), .d (dstr k), .d (dint n), .d (dbool hs)] (.one (encRows (put l k n hs))) := by
  refine fnOk_of tbl_ok mixed_ok Tryd.func16 rfl (by kernel_rfl) rfl rfl fun w0 own0 => ?_
  repeat (first | ((with_reducible apply s1); exact rfl) | (with_reducible first | apply CW.seq | apply CW.block | apply CW.region | apply CW.draw | apply CW.skip | apply CW.exit | apply CW.ret | apply q_then | apply q_then_exit | apply q_then_ret | apply q_block | apply q_block_ret | apply q_block_hit | apply q_ret | apply q_end | apply q_loop_exit | apply q_loop_ret | apply q_loopT_exit | apply q_loopT_ret | apply RW.nil) | ((with_reducible apply s3); exact rfl; exact by_k) | ((with_reducible apply s2); exact rfl; exact by_k) | ((with_reducible apply s4); exact rfl) | ((with_reducible apply s5); (first | exact by_oa); exact by_g) | ((with_reducible apply CW.cond_t); exact rfl; exact by_ks) | ((with_reducible apply CW.cond_f); exact rfl; exact by_ks) | ((with_reducible apply q_block_miss); exact rfl) | (refine And.intro (show chk [] [] _ _ = true by kernel_rfl) ?_))
  refine CW.stut (stut_promote (i := 9) 40 2) ⟨rfl, rfl, trivial⟩ ?_
  refine CW.loopT (fun t : Nat × Bool × List Pair => [(.s 1, .av (.d (dstr k))), (.s 2, .av (.d (dint n))), (.s 3, .av (.d (dbool hs))), (.s 9, .av (.own 0 t.2.2.length)), (.s 10, .av (.d (dbool t.2.1))), (.s 13, .av (.d (encRows l))), (.s 14, .av (.d (dint l.length))), (.s 15, .av (.d (dint t.1))), (.o 0, .ob (.arr 40 2 (t.2.2.map Pair.enc))), (.nx, .num 1)])
    (fun t => t.1 ≤ l.length ∧ t.2.2.length ≤ 2 * t.1 ∧ putGo k n hs t.2.1 t.2.2 (l.drop t.1) = put l k n hs) (fun t => l.length - t.1) (0, false, []) ⟨by omega, by simp, rfl⟩ ?_ ?_
  ·
    exact by_less
  · rintro ⟨i, done, out⟩ ⟨hi, ho, hI⟩
    dsimp only at hi ho hI ⊢
    rcases drop_case hi with ⟨h1, h2⟩ | ⟨p, h1, h2, h3⟩
    · rw [h1] at hI
      simp only [putGo] at hI
      cases done
      · cases hs
        ·
          repeat (first | ((with_reducible apply s1); exact rfl) | (with_reducible first | apply CW.seq | apply CW.block | apply CW.region | apply CW.draw | apply CW.skip | apply CW.exit | apply CW.ret | apply q_then | apply q_then_exit | apply q_then_ret | apply q_block | apply q_block_ret | apply q_block_hit | apply q_ret | apply q_end | apply q_loop_exit | apply q_loop_ret | apply q_loopT_exit | apply q_loopT_ret | apply RW.nil) | ((with_reducible apply s3); exact rfl; exact by_k) | ((with_reducible apply s2); exact rfl; exact by_k) | ((with_reducible apply s4); exact rfl) | ((with_reducible apply s5); (first | exact by_oa); exact by_g) | ((with_reducible apply CW.cond_t); exact rfl; exact by_ks) | ((with_reducible apply CW.cond_f); exact rfl; exact by_ks) | ((with_reducible apply q_block_miss); exact rfl) | (refine And.intro (show chk [] [] _ _ = true by kernel_rfl) ?_))
          exact .one (.tmp rfl (.one (.own rfl (by simp) (dle_eq (by rw [← hI]; rfl)))))
        ·
          repeat (first | ((with_reducible apply s1); exact rfl) | (with_reducible first | apply CW.seq | apply CW.block | apply CW.region | apply CW.draw | apply CW.skip | apply CW.exit | apply CW.ret | apply q_then | apply q_then_exit | apply q_then_ret | apply q_block | apply q_block_ret | apply q_block_hit | apply q_ret | apply q_end | apply q_loop_exit | apply q_loop_ret | apply q_loopT_exit | apply q_loopT_ret | apply RW.nil) | ((with_reducible apply s3); exact rfl; exact by_k) | ((with_reducible apply s2); exact rfl; exact by_k) | ((with_reducible apply s4); exact rfl) | ((with_reducible apply s5); (first | exact by_oa); exact by_g) | ((with_reducible apply CW.cond_t); exact rfl; exact by_ks) | ((with_reducible apply CW.cond_f); exact rfl; exact by_ks) | ((with_reducible apply q_block_miss); exact rfl) | (refine And.intro (show chk [] [] _ _ = true by kernel_rfl) ?_))
          exact .one (.tmp rfl (.one (.own rfl (by simp) (dle_eq (by rw [← hI]; simp [encRows]; rfl)))))
      ·
        repeat (first | ((with_reducible apply s1); exact rfl) | (with_reducible first | apply CW.seq | apply CW.block | apply CW.region | apply CW.draw | apply CW.skip | apply CW.exit | apply CW.ret | apply q_then | apply q_then_exit | apply q_then_ret | apply q_block | apply q_block_ret | apply q_block_hit | apply q_ret | apply q_end | apply q_loop_exit | apply q_loop_ret | apply q_loopT_exit | apply q_loopT_ret | apply RW.nil) | ((with_reducible apply s3); exact rfl; exact by_k) | ((with_reducible apply s2); exact rfl; exact by_k) | ((with_reducible apply s4); exact rfl) | ((with_reducible apply s5); (first | exact by_oa); exact by_g) | ((with_reducible apply CW.cond_t); exact rfl; exact by_ks) | ((with_reducible apply CW.cond_f); exact rfl; exact by_ks) | ((with_reducible apply q_block_miss); exact rfl) | (refine And.intro (show chk [] [] _ _ = true by kernel_rfl) ?_))
        exact .one (.tmp rfl (.one (.own rfl (by simp) (dle_eq (by rw [← hI]; rfl)))))
    · rw [h1] at hI
      simp only [putGo] at hI
      cases done <;> cases h5 : slt p.key k <;> cases hs <;> simp [h5] at hI <;> by_cases h4 : p.key = k <;> (first | rw [if_pos h4] at hI | rw [if_neg h4] at hI)
      all_goals
        repeat (first | ((with_reducible apply s1); exact rfl) | (with_reducible first | apply CW.seq | apply CW.block | apply CW.region | apply CW.draw | apply CW.skip | apply CW.exit | apply CW.ret | apply q_then | apply q_then_exit | apply q_then_ret | apply q_block | apply q_block_ret | apply q_block_hit | apply q_ret | apply q_end | apply q_loop_exit | apply q_loop_ret | apply q_loopT_exit | apply q_loopT_ret | apply RW.nil) | ((with_reducible apply s3); exact rfl; exact by_k) | ((with_reducible apply s2); exact rfl; exact by_k) | ((with_reducible apply s4); exact rfl) | ((with_reducible apply s5); (first | exact by_oa); exact by_g) | ((with_reducible apply CW.cond_t); exact rfl; exact by_ks) | ((with_reducible apply CW.cond_f); exact rfl; exact by_ks) | ((with_reducible apply q_block_miss); exact rfl) | (refine And.intro (show chk [] [] _ _ = true by kernel_rfl) ?_))
        refine q_loopT (i + 1, _, _) ⟨by omega, ?_, hI⟩ (by dsimp only; omega) ?_
        · dsimp only; (first | omega | (simp; omega))
        ·
          exact by_less

end Go.Proofs.YtobanjfamccjmaaDoor

/-! F16 -/
/-
  Contracts of the references' Do and All.
-/
namespace Go.Proofs.YtobanjfamccjmaaDoor
open Go.AX Go.RF

set_option maxRecDepth 100000
set_option maxHeartbeats 8000000

theorem ld_reg (e : Done) {A : Nat} (h : A < 4) {ti : TI} (hk : ti.kind = .int .i64) : ldA ti ((e.enc.map AV.d).drop (1 + A * 1)) = some (.d (dint (rget e A))) := by
  have : A = 0 ∨ A = 1 ∨ A = 2 ∨ A = 3 := by omega
  rcases this with rfl | rfl | rfl | rfl <;> simp [ldA, hk, Done.enc, rget]
theorem st_reg (e : Done) {A : Nat} (h : A < 4) (x : Int) : putCells (e.enc.map AV.d) (1 + A * 1) [.d (dint x)] = (rset e A x).enc.map AV.d := by
  have : A = 0 ∨ A = 1 ∨ A = 2 ∨ A = 3 := by omega
  rcases this with rfl | rfl | rfl | rfl <;> rfl
theorem fit_reg (e : Done) {A : Nat} (h : A < 4) : Nat.ble ((1 + A * 1) + 1) (e.enc.map AV.d).length = true := by
  simp [Done.enc]; omega

theorem mul_bound {a b : Int} (ha : -1073741824 ≤ a ∧ a ≤ 1073741824) (hb : -1073741824 ≤ b ∧ b ≤ 1073741824) : -1152921504606846976 ≤ a * b ∧ a * b ≤ 1152921504606846976 := by
  have h1 : (a * b).natAbs ≤ 1073741824 * 1073741824 := by
    rw [Int.natAbs_mul]
    exact Nat.mul_le_mul (by omega) (by omega)
  omega

end Go.Proofs.YtobanjfamccjmaaDoor

/-! F19 -/
/-
  Contract of the references' Go of engines.
-/
namespace Go.Proofs.YtobanjfamccjmaaDoor
open Go.AX Go.RF

set_option maxRecDepth 100000
set_option maxHeartbeats 8000000

def goRows (cs : List Chain) (b : Int) : List Pair → List Str → List Pair
  | r, [] => r
  | r, k :: ks => goRows cs b (if (before cs k b).has = true then put r k (before cs k b).n true else r) ks
def goSets (r : List Pair) (b : Int) : List Chain → List Str → List Chain
  | cs, [] => cs
  | cs, k :: ks => goSets r b (setChains cs k ⟨b, true, (RF.get r k).2, (RF.get r k).1⟩) ks
def goDone (e : Engine) (at_ : Nat) (d : Deed) : List Pair × Done := doD (goRows e.chains (e.base + at_) [] (keysD d)) d
def goNew (e : Engine) (at_ : Nat) (d : Deed) : Engine :=
  ⟨goSets (goDone e at_ d).1 (e.base + at_) e.chains d.writes, e.deeds, e.state.set at_ 1, e.ends.set at_ (goDone e at_ d).2, e.base⟩
def goAt (e : Engine) (at_ : Nat) : Engine × Int := match e.deeds[at_]? with
  | some d => if e.state[at_]? = some 1 then (e, 11) else if needs e at_ d = [] then (goNew e at_ d, 0) else (e, 10)
  | none => (e, 6)
def goE (e : Engine) (at_ : Int) : Engine × Int := if at_ < 0 then (e, 6) else goAt e at_.toNat

/-- Deeds that may be done. -/
structure Deed.Ok (d : Deed) : Prop where
  i : ∀ i ∈ d.code, i.Ok
  r : d.reads.length ≤ 5
  w : d.writes.length ≤ 5
  c : d.code.length ≤ 12
theorem Deed.Ok.keys {d : Deed} (h : Deed.Ok d) : (keysD d).length ≤ 10 := by
  have := keysGo_len (d.reads ++ d.writes) []
  have h1 := h.r
  have h2 := h.w
  simp at this
  unfold keysD
  omega
def chOk (l : List Chain) : Prop := ∀ c ∈ l, ∀ v ∈ c.vs, nOk v.n

theorem bvs_ok {h : Bool} {b : Int} : ∀ {l : List Version} {out : Version}, nOk out.n → (∀ v ∈ l, nOk v.n) → nOk (bvs h b out l).n
  | [], out, ho, _ => ho
  | v :: l, out, ho, hl => by
    simp only [bvs]
    refine bvs_ok ?_ fun w hw => hl w (List.mem_cons_of_mem _ hw)
    split
    · exact hl v (List.mem_cons_self ..)
    · exact ho
theorem beforeGo_ok {k : Str} {b : Int} : ∀ {l : List Chain} {out : Version}, nOk out.n → chOk l → nOk (beforeGo k b out l).n
  | [], out, ho, _ => ho
  | c :: l, out, ho, hl => by
    simp only [beforeGo]
    exact beforeGo_ok (bvs_ok ho (hl c (List.mem_cons_self ..))) fun x hx => hl x (List.mem_cons_of_mem _ hx)
theorem before_ok {l : List Chain} (h : chOk l) (k : Str) (b : Int) : nOk (before l k b).n := beforeGo_ok (by simp [nOk]) h
theorem goRows_ok {cs : List Chain} {b : Int} (h : chOk cs) : ∀ {ks : List Str} {r : List Pair}, rowsOk r → rowsOk (goRows cs b r ks) ∧ (goRows cs b r ks).length ≤ r.length + ks.length
  | [], r, hr => ⟨hr, by simp [goRows]⟩
  | k :: ks, r, hr => by
    simp only [goRows]
    by_cases hh : (before cs k b).has = true
    · rw [if_pos hh]
      have := goRows_ok (b := b) h (ks := ks) (put_ok hr k (before_ok h k b) true)
      refine ⟨this.1, ?_⟩
      have h2 := put_len r k (before cs k b).n true
      have h3 := this.2
      simp; omega
    · rw [if_neg hh]
      have := goRows_ok (b := b) h (ks := ks) hr
      exact ⟨this.1, by have h3 := this.2; simp; omega⟩
theorem doGo_len {r0 : List Pair} : ∀ (l : List Ins) (sk : Int) (now : List Pair) (e : Done), (doGo r0 sk now e l).1.length ≤ max r0.length (now.length + l.length)
  | [], sk, now, e => by simp only [doGo]; simp; omega
  | i :: l, sk, now, e => by
    have ih := fun sk now e => doGo_len (r0 := r0) l sk now e
    have h1 := put_len now i.key (rget e i.a.toNat) true
    have h2 := put_len now i.key 0 false
    simp only [doGo, List.length_cons]
    repeat' split
    all_goals first
      | (refine Nat.le_trans (ih _ _ _) ?_; omega)
      | (simp only []; omega)
theorem doD_len (r : List Pair) (d : Deed) : (doD r d).1.length ≤ r.length + d.code.length := by
  have := doGo_len (r0 := r) d.code 0 r done0
  unfold doD
  omega
theorem setC_len {k : Str} {v : Version} {c : Chain} : (setC k v c).vs.length = c.vs.length := by simp [setC]
theorem set_vs {l : List Chain} {k : Str} {v : Version} {M : Nat} (h : ∀ c ∈ l, c.vs.length ≤ M) : ∀ c ∈ setChains l k v, c.vs.length ≤ M := by
  intro c hc
  obtain ⟨c0, h0, rfl⟩ := List.mem_map.1 hc
  rw [setC_len]; exact h c0 h0

end Go.Proofs.YtobanjfamccjmaaDoor

/-! F20 -/
/-
  Engines as they are built: what holds of them; plain facts.
-/
namespace Go.Proofs.YtobanjfamccjmaaDoor
open Go.AX Go.RF

structure EInv (e : Engine) (N : Nat) : Prop where
  z : Engine.Sz e N
  o : ∀ d ∈ e.deeds, Deed.Ok d
  c : chOk e.chains

theorem EInv.mono {e : Engine} {N M : Nat} (h : EInv e N) (hm : N ≤ M) : EInv e M := by
  obtain ⟨hz, ho, hc⟩ := h
  refine ⟨⟨by have := hz.c; omega, fun c hc => by have := hz.v c hc; omega, by have := hz.d; omega, hz.s, hz.n, by have := hz.b; omega, hz.dd⟩, ho, hc⟩

theorem codeGo_mem {d : Deed} : ∀ {l : List Ins} {k : Nat}, codeGo d k l = 0 → ∀ j i, l[j]? = some i → wrongIns d ((d.code.length : Int) - 1 - ((k + j : Nat) : Int)) i = 0
  | [], k, _, j, i, hj => by simp at hj
  | x :: l, k, h, j, i, hj => by
    simp only [codeGo] at h
    by_cases h0 : wrongIns d ((d.code.length : Int) - 1 - k) x = 0
    · rw [if_pos h0] at h
      cases j with
      | zero => simp at hj; subst hj; simpa using h0
      | succ j =>
        have := codeGo_mem h j i (by simpa using hj)
        rw [show k + (j + 1) = k + 1 + j by omega]
        exact this
    · rw [if_neg h0] at h; exact absurd h h0

theorem has_ins {k : Int} (h : 1 ≤ k ∧ k ≤ 9) : insA k.toNat ≤ 3 ∧ insB k.toNat ≤ 3 := by
  unfold insA insB
  constructor <;> split <;> omega

theorem wrongIns_ok {d : Deed} {m : Int} (hm : m ≤ 11) {i : Ins} (h : wrongIns d m i = 0) : i.Ok := by
  unfold wrongIns at h
  by_cases hk : i.kind < 1 ∨ 9 < i.kind
  · rw [if_pos hk] at h; simp at h
  rw [if_neg hk] at h
  by_cases ho : insOut i.kind.toNat i.a i.b i.n m = true
  · rw [if_pos ho] at h; simp at h
  have hkk : 1 ≤ i.kind ∧ i.kind ≤ 9 := by omega
  have hs := has_ins hkk
  simp only [insOut, Bool.or_eq_true, decide_eq_true_eq, not_or] at ho
  obtain ⟨h1, h2, h3, h4, h5, h6⟩ := ho
  refine ⟨hkk, by omega, by omega, fun hc => ?_, fun hc => ?_⟩
  · rw [hc] at h5 h6
    simp [insLow, insHigh] at h5 h6
    unfold nOk; omega
  · rw [hc] at h5 h6
    simp [insLow, insHigh] at h5 h6
    omega

theorem wrongDeed_ok {d : Deed} (h : wrongDeed d = 0) : Deed.Ok d := by
  obtain ⟨h1, h2, h3⟩ := wrong_writes h
  refine ⟨fun i hi => ?_, h1, h2, h3⟩
  unfold wrongDeed at h
  by_cases h0 : lsGo [d.reads, d.writes] = 0
  · rw [if_pos h0] at h
    by_cases hc : 12 < d.code.length
    · rw [if_pos hc] at h; simp at h
    · rw [if_neg hc] at h
      obtain ⟨j, hj⟩ := List.getElem?_of_mem hi
      exact wrongIns_ok (by omega) (codeGo_mem h j i hj)
  · rw [if_neg h0] at h; exact absurd h h0

theorem addGo_ch {k : Str} {b : Int} {P : Version → Prop} (h0 : P ⟨b, false, false, 0⟩) : ∀ {l : List Chain} {dn : Bool} {out : List Chain}, (∀ c ∈ l, ∀ v ∈ c.vs, P v) → (∀ c ∈ out, ∀ v ∈ c.vs, P v) → ∀ c ∈ addGo k b dn out l, ∀ v ∈ c.vs, P v
  | [], dn, out, _, ho, c, hc => by
    simp only [addGo] at hc
    split at hc
    · exact ho c hc
    · rcases List.mem_append.1 hc with hc | hc
      · exact ho c hc
      · simp at hc; subst hc; simpa using h0
  | x :: l, dn, out, hl, ho, c, hc => by
    simp only [addGo] at hc
    have h1 : ∀ (g : Bool), ∀ c ∈ (if g = true then out ++ [⟨k, [⟨b, false, false, 0⟩]⟩] else out), ∀ v ∈ c.vs, P v := by
      intro g c hc
      split at hc
      · rcases List.mem_append.1 hc with hc | hc
        · exact ho c hc
        · simp at hc; subst hc; simpa using h0
      · exact ho c hc
    have hx := hl x (List.mem_cons_self ..)
    split at hc
    · refine addGo_ch h0 (fun c hc => hl c (List.mem_cons_of_mem _ hc)) (fun c hc => ?_) c hc
      rcases List.mem_append.1 hc with hc | hc
      · exact h1 _ c hc
      · simp at hc; subst hc
        intro v hv
        rcases List.mem_append.1 hv with hv | hv
        · exact hx v hv
        · simp at hv; subst hv; exact h0
    · refine addGo_ch h0 (fun c hc => hl c (List.mem_cons_of_mem _ hc)) (fun c hc => ?_) c hc
      rcases List.mem_append.1 hc with hc | hc
      · exact h1 _ c hc
      · simp at hc; subst hc; exact hx
theorem addC_ok {l : List Chain} (h : chOk l) (k : Str) (b : Int) : chOk (addC l k b) := addGo_ch (P := fun v => nOk v.n) (by simp [nOk]) h (by simp)
theorem addKeys_ok {b : Int} : ∀ {ks : List Str} {l : List Chain}, chOk l → chOk (addKeys b l ks)
  | [], l, h => h
  | k :: ks, l, h => by simp only [addKeys]; exact addKeys_ok (addC_ok h k b)
theorem EInv.add1 {e : Engine} {N : Nat} (h : EInv e N) {d : Deed} (hs : d.Sm) (ho : Deed.Ok d) : EInv (add1 e d) (N + 5) := by
  refine ⟨add1_sz h.z hs ho.w, fun x hx => ?_, addKeys_ok h.c⟩
  rcases List.mem_append.1 hx with hx | hx
  · exact h.o x hx
  · simp at hx; subst hx; exact ho
theorem EInv.addAll : ∀ {l : List Deed} {e : Engine} {N : Nat}, EInv e N → (∀ d ∈ l, d.Sm ∧ Deed.Ok d) → EInv (addAll e l) (N + 5 * l.length)
  | [], e, N, h, _ => h
  | d :: l, e, N, h, hl => by
    have := EInv.addAll (h.add1 (hl d (List.mem_cons_self ..)).1 (hl d (List.mem_cons_self ..)).2) fun x hx => hl x (List.mem_cons_of_mem _ hx)
    simp only [RF.addAll, List.length_cons]
    rw [show N + 5 * (l.length + 1) = N + 5 + 5 * l.length by omega]
    exact this
theorem EInv.addE {e : Engine} {N : Nat} (h : EInv e N) {l : List Deed} (hs : ∀ d ∈ l, d.Sm) (hw : (addE e l).2 = 0) : EInv (addE e l).1 (N + 5 * l.length) := by
  unfold RF.addE at hw ⊢
  by_cases h0 : wrongs l = 0
  · rw [if_pos h0]
    exact h.addAll fun d hd => ⟨hs d hd, wrongDeed_ok (wrongs_mem h0 d hd)⟩
  · rw [if_neg h0] at hw; exact absurd hw h0
theorem newE_inv {r : List Pair} (hr : rowsOk r) : EInv (newE r) (r.length + 1) := by
  refine ⟨⟨by simp [newE], fun c hc => ?_, by simp [newE], by simp [newE], by simp [newE], by simp [newE]; omega, by simp [newE]⟩, by simp [newE], fun c hc v hv => ?_⟩
  · obtain ⟨p, hp, rfl⟩ := List.mem_map.1 hc
    simp [rowChain]
  · obtain ⟨p, hp, rfl⟩ := List.mem_map.1 hc
    simp [rowChain] at hv
    subst hv
    exact hr p hp

theorem doGo_ok {r0 : List Pair} (h0 : rowsOk r0) : ∀ {l : List Ins} {sk : Int} {now : List Pair} {e : Done}, (∀ i ∈ l, i.Ok) → rowsOk now → e.Ok → rowsOk (doGo r0 sk now e l).1 ∧ (doGo r0 sk now e l).2.Ok
  | [], sk, now, e, _, hn, he => ⟨hn, he⟩
  | i :: l, sk, now, e, hl, hn, he => by
    have hio := hl i (List.mem_cons_self ..)
    have ih := fun (sk : Int) (now : List Pair) (e : Done) (h1 : rowsOk now) (h2 : e.Ok) => doGo_ok h0 (l := l) (sk := sk) (now := now) (e := e) (fun j hj => hl j (List.mem_cons_of_mem _ hj)) h1 h2
    simp only [doGo]
    split
    · exact ih _ _ _ hn he
    split
    · exact ih _ _ _ hn (rset_ok he _ (get_ok hn _))
    split
    · next hk => exact ih _ _ _ hn (rset_ok he _ (hio.c hk))
    split
    · exact ih _ _ _ hn (rset_ok he _ (round_ok _))
    split
    · exact ih _ _ _ hn (rset_ok he _ (round_ok _))
    split
    · exact ih _ _ _ hn (rset_ok he _ (round_ok _))
    split
    · exact ih _ _ _ (put_ok hn _ (rget_ok he _) _) he
    split
    · exact ih _ _ _ (put_ok hn _ (by simp [nOk]) _) he
    split
    · exact ih _ _ _ hn he
    split
    · exact ⟨h0, ⟨he.a, he.b, he.c, he.d⟩⟩
    · exact ih _ _ _ hn he
theorem done0_ok : done0.Ok := ⟨by simp [nOk, done0], by simp [nOk, done0], by simp [nOk, done0], by simp [nOk, done0]⟩
theorem doD_ok {r : List Pair} {d : Deed} (h0 : rowsOk r) (hd : Deed.Ok d) : rowsOk (doD r d).1 := (doGo_ok h0 hd.i h0 done0_ok).1
theorem set_ok {l : List Chain} (h : chOk l) (k : Str) {v : Version} (hv : nOk v.n) : chOk (setChains l k v) := by
  intro c hc w hw
  obtain ⟨c0, h0, rfl⟩ := List.mem_map.1 hc
  simp only [setC] at hw
  obtain ⟨w0, hw0, rfl⟩ := List.mem_map.1 hw
  unfold setV
  split
  · exact hv
  · exact h c0 h0 w0 hw0
theorem goSets_ok {r : List Pair} (hr : rowsOk r) {b : Int} {M : Nat} : ∀ {ks : List Str} {l : List Chain}, chOk l → (∀ c ∈ l, c.vs.length ≤ M) → chOk (goSets r b l ks) ∧ (goSets r b l ks).length = l.length ∧ ∀ c ∈ goSets r b l ks, c.vs.length ≤ M
  | [], l, h, hv => ⟨h, rfl, hv⟩
  | k :: ks, l, h, hv => by
    simp only [goSets]
    have := goSets_ok hr (b := b) (ks := ks) (set_ok h k (v := ⟨b, true, (RF.get r k).2, (RF.get r k).1⟩) (get_ok hr k)) (set_vs hv)
    refine ⟨this.1, by rw [this.2.1]; simp [setChains], this.2.2⟩
theorem EInv.goNew {e : Engine} {N : Nat} (h : EInv e N) {A : Nat} {d : Deed} (hd : d ∈ e.deeds) : EInv (goNew e A d) N := by
  obtain ⟨hz, ho, hc⟩ := h
  have hr := doD_ok (goRows_ok (b := e.base + A) hc (ks := keysD d) (r := []) (by simp [rowsOk])).1 (ho d hd)
  have := goSets_ok hr (b := e.base + A) (ks := d.writes) hc hz.v
  refine ⟨⟨?_, this.2.2, hz.d, ?_, ?_, hz.b, hz.dd⟩, ho, this.1⟩
  · show (goSets _ _ _ _).length ≤ N
    rw [goDone, this.2.1]; exact hz.c
  · simp [Proofs.YtobanjfamccjmaaDoor.goNew]; exact hz.s
  · simp [Proofs.YtobanjfamccjmaaDoor.goNew]; exact hz.n
theorem EInv.goE {e : Engine} {N : Nat} (h : EInv e N) (at_ : Int) : EInv (goE e at_).1 N := by
  unfold Proofs.YtobanjfamccjmaaDoor.goE
  split
  · exact h
  unfold goAt
  cases hA : e.deeds[at_.toNat]? with
  | none => exact h
  | some d =>
    dsimp only
    split
    · exact h
    split
    · exact h.goNew (List.mem_of_getElem? hA)
    · exact h
theorem clrV_sub {b : Int} : ∀ {l : List Version} {v : Version}, v ∈ clrV b l → v ∈ l
  | [], v, h => by simp [clrV] at h
  | x :: l, v, h => by
    simp only [clrV] at h
    split at h
    · exact List.mem_cons_of_mem _ (clrV_sub h)
    · rcases List.mem_cons.1 h with rfl | h
      · exact List.mem_cons_self ..
      · exact List.mem_cons_of_mem _ (clrV_sub h)
theorem clrV_len {b : Int} : ∀ (l : List Version), (clrV b l).length ≤ l.length
  | [] => by simp [clrV]
  | x :: l => by
    have := clrV_len (b := b) l
    simp only [clrV]
    split <;> simp <;> omega
theorem clear_mem {b : Int} : ∀ {l : List Chain} {c : Chain}, c ∈ clear b l → ∃ c0 ∈ l, c = ⟨c0.key, clrV b c0.vs⟩
  | [], c, h => by simp [clear] at h
  | x :: l, c, h => by
    simp only [clear] at h
    split at h
    · obtain ⟨c0, h0, h1⟩ := clear_mem h
      exact ⟨c0, List.mem_cons_of_mem _ h0, h1⟩
    · rcases List.mem_cons.1 h with rfl | h
      · exact ⟨x, List.mem_cons_self .., rfl⟩
      · obtain ⟨c0, h0, h1⟩ := clear_mem h
        exact ⟨c0, List.mem_cons_of_mem _ h0, h1⟩
theorem clear_len {b : Int} : ∀ (l : List Chain), (clear b l).length ≤ l.length
  | [] => by simp [clear]
  | x :: l => by
    have := clear_len (b := b) l
    simp only [clear]
    split <;> simp <;> omega
theorem EInv.clearE {e : Engine} {N : Nat} (h : EInv e N) : EInv (clearE e) N := by
  obtain ⟨hz, ho, hc⟩ := h
  have hm := markN_le e.state
  have hsl := hz.s
  have hnl := hz.n
  have hd := hz.d
  have hb := hz.b
  refine ⟨⟨?_, fun c hcc => ?_, ?_, ?_, ?_, ?_, fun d hd => hz.dd d (List.mem_of_mem_drop hd)⟩, fun d hd => ho d (List.mem_of_mem_drop hd), fun c hcc v hv => ?_⟩
  · have := clear_len (b := e.base + markN e.state) e.chains
    have := hz.c
    simp only [RF.clearE]; omega
  · obtain ⟨c0, h0, rfl⟩ := clear_mem hcc
    have := clrV_len (b := e.base + markN e.state) c0.vs
    have := hz.v c0 h0
    simp only []; omega
  · simp only [RF.clearE, List.length_drop]; omega
  · simp only [RF.clearE, List.length_drop]; omega
  · simp only [RF.clearE, List.length_drop]; omega
  · simp only [RF.clearE, List.length_drop]; omega
  · obtain ⟨c0, h0, rfl⟩ := clear_mem hcc
    exact hc c0 h0 v (clrV_sub hv)

end Go.Proofs.YtobanjfamccjmaaDoor

/-! F21 -/
/-
  Contract of the references' Build of engines.
-/
namespace Go.Proofs.YtobanjfamccjmaaDoor
open Go.AX Go.RF

set_option maxRecDepth 100000
set_option maxHeartbeats 8000000

def pickE (e : Engine) (n : Int) : Engine := if n = 7 then clearE e else if n < 0 then e else match (ready e)[n.toNat]? with
  | some x => (goE e x).1
  | none => e
def pickGo : Nat → Engine → List Int → Engine × List Int
  | 0, e, p => (e, p)
  | _ + 1, e, [] => (e, [])
  | k + 1, e, n :: p => pickGo k (pickE e n) p
def batchE (e : Engine) (b : List Deed) : Engine := if (addE e b).2 = 0 then (addE e b).1 else e
def buildGo : Engine → List (List Deed) → List Int → Engine
  | e, [], _ => e
  | e, b :: bs, p => buildGo (pickGo 3 (batchE e b) p).1 bs (pickGo 3 (batchE e b) p).2
def buildE (r : List Pair) (bs : List (List Deed)) (p : List Int) : Engine := buildGo (newE r) bs p
def sumLen : List (List Deed) → Nat
  | [] => 0
  | b :: bs => b.length + sumLen bs

theorem EInv.pickE {e : Engine} {N : Nat} (h : EInv e N) (n : Int) : EInv (pickE e n) N := by
  unfold Proofs.YtobanjfamccjmaaDoor.pickE
  split
  · exact h.clearE
  split
  · exact h
  split
  · exact h.goE _
  · exact h
theorem EInv.batchE {e : Engine} {N : Nat} (h : EInv e N) {b : List Deed} (hs : ∀ d ∈ b, d.Sm) : EInv (batchE e b) (N + 5 * b.length) := by
  unfold Proofs.YtobanjfamccjmaaDoor.batchE
  split
  · next hw => exact h.addE hs hw
  · exact h.mono (by omega)
theorem EInv.pickGo : ∀ {k : Nat} {e : Engine} {p : List Int} {N : Nat}, EInv e N → EInv (pickGo k e p).1 N
  | 0, e, p, N, h => h
  | k + 1, e, [], N, h => h
  | k + 1, e, n :: p, N, h => by
    simp only [Proofs.YtobanjfamccjmaaDoor.pickGo]
    exact EInv.pickGo (h.pickE n)
theorem EInv.buildGo : ∀ {bs : List (List Deed)} {e : Engine} {p : List Int} {N : Nat}, EInv e N → (∀ b ∈ bs, ∀ d ∈ b, d.Sm) → EInv (buildGo e bs p) (N + 5 * sumLen bs)
  | [], e, p, N, h, _ => h
  | b :: bs, e, p, N, h, hb => by
    simp only [Proofs.YtobanjfamccjmaaDoor.buildGo, sumLen]
    have := EInv.buildGo (p := (Proofs.YtobanjfamccjmaaDoor.pickGo 3 (Proofs.YtobanjfamccjmaaDoor.batchE e b) p).2) ((h.batchE (hb b (List.mem_cons_self ..))).pickGo (k := 3) (p := p)) fun x hx => hb x (List.mem_cons_of_mem _ hx)
    rw [show N + 5 * (b.length + sumLen bs) = N + 5 * b.length + 5 * sumLen bs by omega]
    exact this
theorem sumLen_at : ∀ {bs : List (List Deed)} {j : Nat} {b : List Deed}, bs[j]? = some b → b.length + sumLen (bs.drop (j + 1)) = sumLen (bs.drop j)
  | [], j, b, h => by simp at h
  | x :: bs, 0, b, h => by simp at h; subst h; simp [sumLen]
  | x :: bs, j + 1, b, h => by simpa using sumLen_at (bs := bs) (j := j) (by simpa using h)

theorem readyGo_len {e : Engine} : ∀ (l : List Int) (i : Nat), (readyGo e i l).length ≤ l.length
  | [], i => by simp [readyGo]
  | s :: l, i => by
    have := readyGo_len (e := e) l (i + 1)
    simp only [readyGo]
    split <;> simp <;> omega

end Go.Proofs.YtobanjfamccjmaaDoor

/-! G4 -/
/-
  Contracts of the program's Clear of chains, Of, Size, Mark.
-/
namespace Go.Proofs.YtobanjfamccjmaaDoor
open Go.AX Go.RF

set_option maxRecDepth 100000
set_option maxHeartbeats 8000000

def lastGo (b : Int) : Nat → Int → List Version → Int
  | _, la, [] => la
  | k, la, v :: r => lastGo b (k + 1) (if v.by_ < b then (k : Int) else la) r
def keepB (la : Int) (k : Nat) (v : Version) : Bool := decide (la ≤ k) && !(decide ((k : Int) = la) && (v.made && !v.has))
def keepGo (la : Int) : Nat → List Version → List Version
  | _, [] => []
  | k, v :: r => if keepB la k v = true then v :: keepGo la (k + 1) r else keepGo la (k + 1) r
def pclrV (b : Int) (l : List Version) : List Version := keepGo (lastGo b 0 (-1) l) 0 l
def pclear (b : Int) : List Chain → List Chain
  | [] => []
  | c :: r => if pclrV b c.vs = [] then pclear b r else ⟨c.key, pclrV b c.vs⟩ :: pclear b r

def sizeGo : Int → List Chain → Int
  | n, [] => n
  | n, c :: r => sizeGo (n + c.vs.length) r

end Go.Proofs.YtobanjfamccjmaaDoor

/-! P1 -/
/-
  Engines as they are built have chains in order, and versions in order: plain facts; what forgetting comes to.
-/
namespace Go.Proofs.YtobanjfamccjmaaDoor
open Go.AX Go.RF

def VSrt (l : List Version) : Prop := l.Pairwise fun a b => a.by_ < b.by_
theorem VSrt.cons {v : Version} {l : List Version} : VSrt (v :: l) ↔ (∀ w ∈ l, v.by_ < w.by_) ∧ VSrt l := List.pairwise_cons

theorem lastGo_ge {b : Int} : ∀ {l : List Version} {k : Nat} {la : Int}, (∀ v ∈ l, b ≤ v.by_) → lastGo b k la l = la
  | [], k, la, _ => rfl
  | v :: l, k, la, h => by
    have := h v (List.mem_cons_self ..)
    simp only [lastGo]
    rw [if_neg (by omega)]
    exact lastGo_ge fun w hw => h w (List.mem_cons_of_mem _ hw)
theorem lastGo_le {b : Int} : ∀ (l : List Version) {k : Nat} {la : Int}, la < k → la ≤ lastGo b k la l
  | [], k, la, _ => Int.le_refl _
  | v :: l, k, la, h => by
    simp only [lastGo]
    split
    · have := lastGo_le (b := b) l (k := k + 1) (la := (k : Int)) (by omega); omega
    · exact lastGo_le l (by omega)
theorem keepGo_all : ∀ {l : List Version} {k : Nat} {la : Int}, la < k → keepGo la k l = l
  | [], k, la, _ => rfl
  | v :: l, k, la, h => by
    simp only [keepGo]
    rw [if_pos (by simp [keepB]; omega), keepGo_all (by omega)]
theorem clrV_all {b : Int} : ∀ {l : List Version}, (∀ v ∈ l, b ≤ v.by_) → clrV b l = l
  | [], _ => rfl
  | v :: l, h => by
    have := h v (List.mem_cons_self ..)
    simp only [clrV]
    rw [if_neg (by simp [old]; omega), clrV_all fun w hw => h w (List.mem_cons_of_mem _ hw)]
theorem pclr_go {b : Int} : ∀ {l : List Version} {k : Nat} {la : Int}, VSrt l → la < k → keepGo (lastGo b k la l) k l = clrV b l
  | [], k, la, _, _ => rfl
  | v :: l, k, la, hs, hk => by
    obtain ⟨h1, h2⟩ := VSrt.cons.1 hs
    by_cases hv : v.by_ < b
    · cases l with
      | nil =>
        simp only [lastGo, if_pos hv, keepGo, clrV]
        cases hm : v.made <;> cases hh : v.has <;> simp [keepB, old, later, hv, hm, hh]
      | cons w l =>
        have ih := pclr_go (b := b) (l := w :: l) (k := k + 1) (la := (k : Int)) h2 (by omega)
        have hl : lastGo b k la (v :: w :: l) = lastGo b (k + 1) k (w :: l) := by rw [lastGo, if_pos hv]
        rw [hl]
        by_cases hw : w.by_ < b
        · have h3 : (k : Int) < lastGo b (k + 1) k (w :: l) := by
            rw [lastGo, if_pos hw]
            have := lastGo_le (b := b) l (k := k + 1 + 1) (la := ((k + 1 : Nat) : Int)) (by omega)
            omega
          rw [keepGo, if_neg (by simp [keepB]; omega), ih, clrV.eq_2 b v (w :: l), if_pos (by simp [old, later, hv, hw])]
        · have hge : ∀ x ∈ w :: l, b ≤ x.by_ := fun x hx => by
            rcases List.mem_cons.1 hx with rfl | hx
            · omega
            · have := (VSrt.cons.1 h2).1 x hx; omega
          rw [lastGo_ge hge, keepGo, keepGo_all (by omega), clrV.eq_2 b v (w :: l), clrV_all hge]
          cases hm : v.made <;> cases hh : v.has <;> simp [keepB, old, later, hv, hw, hm, hh]
    · have hge : ∀ x ∈ v :: l, b ≤ x.by_ := fun x hx => by
        rcases List.mem_cons.1 hx with rfl | hx
        · omega
        · have := h1 x hx; omega
      rw [lastGo_ge hge, keepGo_all hk, clrV_all hge]
theorem pclrV_eq {b : Int} {l : List Version} (hs : VSrt l) : pclrV b l = clrV b l := pclr_go hs (by omega)
theorem pclear_eq {b : Int} : ∀ {l : List Chain}, (∀ c ∈ l, VSrt c.vs) → pclear b l = clear b l
  | [], _ => rfl
  | c :: l, h => by
    simp only [pclear, clear]
    rw [pclrV_eq (h c (List.mem_cons_self ..)), pclear_eq fun d hd => h d (List.mem_cons_of_mem _ hd)]

theorem allB_refl {α : Type} {f : α → α → Bool} (hf : ∀ a, f a a = true) : ∀ l : List α, allB f l l = true
  | [] => rfl
  | a :: l => by simp [allB, hf, allB_refl hf l]
theorem sameC_refl (c : Chain) : sameC c c = true := by simp [sameC, allB_refl]
theorem sameE_refl (e : Engine) : sameE e e = true := by
  simp [sameE, allB_refl, sameC_refl]

/-! ### Rows that are right -/
theorem wrongRowsGo_srt : ∀ {l : List Pair} {i : Nat} {last : Str}, wrongRowsGo (i + 1) last l = 0 → (∀ p ∈ l, slt last p.key = true ∧ key p.key = true ∧ nOk p.n) ∧ Srt Pair.key l
  | [], i, last, _ => ⟨by simp, List.Pairwise.nil⟩
  | p :: l, i, last, h => by
    simp only [wrongRowsGo] at h
    by_cases h1 : key p.key = false
    · rw [if_pos h1] at h; simp at h
    rw [if_neg h1] at h
    by_cases h2 : 0 < i + 1 ∧ sle p.key last = true
    · rw [if_pos h2] at h; simp at h
    rw [if_neg h2] at h
    by_cases h3 : 1073741824 < p.n ∨ p.n < -1073741824
    · rw [if_pos h3] at h; simp at h
    rw [if_neg h3] at h
    obtain ⟨h4, h5⟩ := wrongRowsGo_srt h
    have h6 : slt last p.key = true := by
      have h7 : ¬ sle p.key last = true := fun e => h2 ⟨by omega, e⟩
      simp only [sle, Bool.or_eq_true, decide_eq_true_eq, not_or] at h7
      rcases slt_tri last p.key with h | h | h
      · exact h
      · exact absurd h.symm h7.2
      · exact absurd h h7.1
    refine ⟨fun q hq => ?_, List.pairwise_cons.2 ⟨fun q hq => (h4 q hq).1, h5⟩⟩
    rcases List.mem_cons.1 hq with rfl | hq
    · exact ⟨h6, by simpa using h1, by unfold nOk; omega⟩
    · exact ⟨slt_trans h6 (h4 q hq).1, (h4 q hq).2⟩
theorem wrongRows_srt {l : List Pair} (h : wrongRows l = 0) : Srt Pair.key l ∧ (∀ p ∈ l, key p.key = true) ∧ rowsOk l := by
  cases l with
  | nil => exact ⟨List.Pairwise.nil, by simp, by simp [rowsOk]⟩
  | cons p l =>
    simp only [wrongRows, wrongRowsGo] at h
    by_cases h1 : key p.key = false
    · rw [if_pos h1] at h; simp at h
    rw [if_neg h1, if_neg (by simp)] at h
    by_cases h3 : 1073741824 < p.n ∨ p.n < -1073741824
    · rw [if_pos h3] at h; simp at h
    rw [if_neg h3] at h
    obtain ⟨h4, h5⟩ := wrongRowsGo_srt h
    refine ⟨List.pairwise_cons.2 ⟨fun q hq => (h4 q hq).1, h5⟩, fun q hq => ?_, fun q hq => ?_⟩
    · rcases List.mem_cons.1 hq with rfl | hq
      · simpa using h1
      · exact (h4 q hq).2.1
    · rcases List.mem_cons.1 hq with rfl | hq
      · unfold nOk; omega
      · exact (h4 q hq).2.2

/-! ### A version more, in order -/
def newV (b : Int) : Version := ⟨b, false, false, 0⟩
def addS (k : Str) (b : Int) : List Chain → List Chain
  | [] => [⟨k, [newV b]⟩]
  | c :: r => if c.key = k then ⟨c.key, c.vs ++ [newV b]⟩ :: r else if slt c.key k = true then c :: addS k b r else ⟨k, [newV b]⟩ :: c :: r
theorem addGo_done {k : Str} {b : Int} : ∀ {l out : List Chain}, (∀ c ∈ l, c.key ≠ k) → addGo k b true out l = out ++ l
  | [], out, _ => by simp [addGo]
  | c :: l, out, h => by
    simp only [addGo]
    rw [if_neg (h c (List.mem_cons_self ..))]
    simp only [Bool.not_true, Bool.false_and, Bool.true_or]
    rw [addGo_done fun d hd => h d (List.mem_cons_of_mem _ hd)]
    simp
theorem addGo_srt {k : Str} {b : Int} : ∀ {l out : List Chain}, Srt Chain.key l → addGo k b false out l = out ++ addS k b l
  | [], out, _ => by simp [addGo, addS, newV]
  | c :: l, out, hs => by
    obtain ⟨h1, h2⟩ := List.pairwise_cons.1 hs
    simp only [addGo, addS]
    by_cases hk : c.key = k
    · rw [if_pos hk, if_pos hk]
      simp only [hk, slt_irrefl, decide_true, Bool.or_true, Bool.not_true, Bool.and_false]
      rw [addGo_done fun d hd => ?_]
      · simp [newV]
      · have := h1 d hd
        rw [hk] at this
        exact fun e => slt_ne this e.symm
    · rw [if_neg hk, if_neg hk]
      cases hl : slt c.key k with
      | true =>
        simp only [Bool.true_or, Bool.not_true, Bool.and_false, Bool.or_false]
        rw [addGo_srt h2]
        simp
      | false =>
        simp only [hk, decide_false, Bool.or_false, Bool.not_false, Bool.and_true, Bool.false_or]
        rw [addGo_done fun d hd => ?_]
        · simp [newV]
        · have h3 := h1 d hd
          intro e
          rcases slt_tri c.key k with h | h | h
          · rw [hl] at h; cases h
          · exact hk h
          · rw [e] at h3
            have := slt_trans h h3
            rw [slt_irrefl] at this; cases this
theorem addC_srt {k : Str} {b : Int} {l : List Chain} (hs : Srt Chain.key l) : addC l k b = addS k b l := by
  unfold addC
  rw [addGo_srt hs]
  rfl
theorem addS_mem {k : Str} {b : Int} : ∀ {l : List Chain} {c : Chain}, c ∈ addS k b l → c ∈ l ∨ c = ⟨k, [newV b]⟩ ∨ ∃ c0 ∈ l, c0.key = k ∧ c = ⟨k, c0.vs ++ [newV b]⟩
  | [], c, h => by simp [addS] at h; exact .inr (.inl h)
  | x :: l, c, h => by
    simp only [addS] at h
    by_cases hk : x.key = k
    · rw [if_pos hk] at h
      rcases List.mem_cons.1 h with rfl | h
      · exact .inr (.inr ⟨x, List.mem_cons_self .., hk, by rw [hk]⟩)
      · exact .inl (List.mem_cons_of_mem _ h)
    · rw [if_neg hk] at h
      split at h
      · rcases List.mem_cons.1 h with rfl | h
        · exact .inl (List.mem_cons_self ..)
        · rcases addS_mem h with h | h | ⟨c0, h0, h⟩
          · exact .inl (List.mem_cons_of_mem _ h)
          · exact .inr (.inl h)
          · exact .inr (.inr ⟨c0, List.mem_cons_of_mem _ h0, h⟩)
      · rcases List.mem_cons.1 h with rfl | h
        · exact .inr (.inl rfl)
        · exact .inl h
theorem addS_srt {k : Str} {b : Int} : ∀ {l : List Chain}, Srt Chain.key l → Srt Chain.key (addS k b l)
  | [], _ => List.pairwise_singleton ..
  | c :: l, hs => by
    obtain ⟨h1, h2⟩ := List.pairwise_cons.1 hs
    simp only [addS]
    by_cases hk : c.key = k
    · rw [if_pos hk]; exact List.pairwise_cons.2 ⟨h1, h2⟩
    · rw [if_neg hk]
      cases hl : slt c.key k with
      | true =>
        rw [if_pos rfl]
        refine List.pairwise_cons.2 ⟨fun d hd => ?_, addS_srt h2⟩
        rcases addS_mem hd with h | rfl | ⟨c0, h0, h3, rfl⟩
        · exact h1 d h
        · exact hl
        · exact hl
      | false =>
        rw [if_neg (by simp)]
        have hkc : slt k c.key = true := by
          rcases slt_tri c.key k with h | h | h
          · rw [hl] at h; cases h
          · exact absurd h hk
          · exact h
        refine List.pairwise_cons.2 ⟨fun d hd => ?_, hs⟩
        rcases List.mem_cons.1 hd with rfl | hd
        · exact hkc
        · exact slt_trans hkc (h1 d hd)

/-! ### Engines -/
structure SInv (e : Engine) : Prop where
  k : Srt Chain.key e.chains
  v : ∀ c ∈ e.chains, VSrt c.vs
  b : ∀ c ∈ e.chains, ∀ v ∈ c.vs, v.by_ < e.base + e.deeds.length

theorem newE_srt {r : List Pair} (h : Srt Pair.key r) : SInv (newE r) := by
  refine ⟨List.pairwise_map.2 h, fun c hc => ?_, fun c hc v hv => ?_⟩
  · obtain ⟨p, _, rfl⟩ := List.mem_map.1 hc
    exact List.pairwise_singleton ..
  · obtain ⟨p, _, rfl⟩ := List.mem_map.1 hc
    simp [rowChain] at hv
    subst hv
    simp [newE]

theorem isIn_false {s : Str} : ∀ {l : List Str}, isIn l s = false → s ∉ l
  | [], _, h => by simp at h
  | x :: l, h, hm => by
    simp only [isIn] at h
    by_cases hx : x = s
    · rw [if_pos hx] at h; cases h
    · rw [if_neg hx] at h
      rcases List.mem_cons.1 hm with rfl | hm
      · exact hx rfl
      · exact isIn_false h hm
theorem keysGo_nodup {l : List Str} : ∀ {r : List Str} {i : Nat}, l.drop i = r → (l.take i).Nodup → keysGo l i r = 0 → l.Nodup ∧ ∀ k ∈ r, key k = true
  | [], i, hr, hn, _ => by
    have : l.length ≤ i := by simpa using hr
    rw [List.take_of_length_le this] at hn
    exact ⟨hn, by simp⟩
  | k :: r, i, hr, hn, h => by
    simp only [keysGo] at h
    by_cases h1 : key k = false
    · rw [if_pos h1] at h; simp at h
    rw [if_neg h1] at h
    by_cases h2 : isIn (l.take i) k = true
    · rw [if_pos h2] at h; simp at h
    rw [if_neg h2] at h
    have hk : l[i]? = some k := by
      have : (l.drop i)[0]? = some k := by rw [hr]; rfl
      simpa using this
    have h3 : l.take (i + 1) = l.take i ++ [k] := by rw [List.take_add_one, hk]; rfl
    have hni : k ∉ l.take i := isIn_false (by simpa using h2)
    have := keysGo_nodup (l := l) (r := r) (i := i + 1) (by rw [← List.drop_drop, hr]; rfl) (by
      rw [h3]
      refine List.nodup_append.2 ⟨hn, by simp, fun a ha b hb => ?_⟩
      simp at hb; subst hb
      exact fun e => hni (e ▸ ha)) h
    exact ⟨this.1, fun x hx => by
      rcases List.mem_cons.1 hx with rfl | hx
      · simpa using h1
      · exact this.2 x hx⟩
theorem keysWrong_nodup {l : List Str} (h : keysWrong l = 0) : l.Nodup ∧ (∀ k ∈ l, key k = true) ∧ l.length ≤ 5 := by
  unfold keysWrong at h
  by_cases h1 : 5 < l.length
  · rw [if_pos h1] at h; simp at h
  · rw [if_neg h1] at h
    have := keysGo_nodup (l := l) (r := l) (i := 0) rfl (by simp) h
    exact ⟨this.1, this.2, by omega⟩
theorem wrong_keys {d : Deed} (h : wrongDeed d = 0) : d.reads.Nodup ∧ d.writes.Nodup := by
  unfold wrongDeed at h
  by_cases h0 : lsGo [d.reads, d.writes] = 0
  · simp only [lsGo] at h0
    by_cases h1 : keysWrong d.reads = 0
    · rw [if_pos h1] at h0
      by_cases h2 : keysWrong d.writes = 0
      · exact ⟨(keysWrong_nodup h1).1, (keysWrong_nodup h2).1⟩
      · rw [if_neg h2] at h0; exact absurd h0 h2
    · rw [if_neg h1] at h0; exact absurd h0 h1
  · rw [if_neg h0] at h; exact absurd h h0

theorem addKeys_srt {b : Int} : ∀ {ks : List Str} {l : List Chain}, ks.Nodup → Srt Chain.key l → (∀ c ∈ l, VSrt c.vs ∧ (∀ v ∈ c.vs, v.by_ ≤ b) ∧ (c.key ∈ ks → ∀ v ∈ c.vs, v.by_ < b)) →
    Srt Chain.key (addKeys b l ks) ∧ ∀ c ∈ addKeys b l ks, VSrt c.vs ∧ ∀ v ∈ c.vs, v.by_ ≤ b
  | [], l, _, hs, h => ⟨hs, fun c hc => ⟨(h c hc).1, (h c hc).2.1⟩⟩
  | k :: ks, l, hn, hs, h => by
    obtain ⟨hk, hn⟩ := List.nodup_cons.1 hn
    simp only [addKeys]
    rw [addC_srt hs]
    refine addKeys_srt hn (addS_srt hs) fun c hc => ?_
    rcases addS_mem hc with h0 | rfl | ⟨c0, h0, h1, rfl⟩
    · obtain ⟨h1, h2, h3⟩ := h c h0
      exact ⟨h1, h2, fun hm => h3 (List.mem_cons_of_mem _ hm)⟩
    · exact ⟨List.pairwise_singleton .., fun v hv => by simp at hv; subst hv; exact Int.le_refl _, fun hm => absurd hm hk⟩
    · obtain ⟨h2, h3, h4⟩ := h c0 h0
      have h5 := h4 (by rw [h1]; exact List.mem_cons_self ..)
      refine ⟨List.pairwise_append.2 ⟨h2, List.pairwise_singleton .., fun a ha x hx => ?_⟩, fun v hv => ?_, fun hm => absurd hm hk⟩
      · simp at hx; subst hx; exact h5 a ha
      · rcases List.mem_append.1 hv with hv | hv
        · exact h3 v hv
        · simp at hv; subst hv; exact Int.le_refl _
theorem SInv.add1 {e : Engine} (h : SInv e) {d : Deed} (hw : d.writes.Nodup) : SInv (add1 e d) := by
  have := addKeys_srt (b := e.base + e.deeds.length) hw h.k fun c hc => ⟨h.v c hc, fun v hv => by have := h.b c hc v hv; omega, fun _ v hv => h.b c hc v hv⟩
  refine ⟨this.1, fun c hc => (this.2 c hc).1, fun c hc v hv => ?_⟩
  have := (this.2 c hc).2 v hv
  show v.by_ < e.base + ((e.deeds ++ [d]).length : Nat)
  rw [List.length_append]
  simp only [List.length_singleton]
  omega
theorem SInv.addAll : ∀ {l : List Deed} {e : Engine}, SInv e → (∀ d ∈ l, d.writes.Nodup) → SInv (addAll e l)
  | [], e, h, _ => h
  | d :: l, e, h, hl => by
    simp only [RF.addAll]
    exact SInv.addAll (h.add1 (hl d (List.mem_cons_self ..))) fun x hx => hl x (List.mem_cons_of_mem _ hx)
theorem SInv.addE {e : Engine} (h : SInv e) {l : List Deed} (hw : (addE e l).2 = 0) : SInv (addE e l).1 := by
  unfold RF.addE at hw ⊢
  by_cases h0 : wrongs l = 0
  · rw [if_pos h0]
    exact h.addAll fun d hd => (wrong_keys (wrongs_mem h0 d hd)).2
  · rw [if_neg h0] at hw; exact absurd hw h0

/-- Chains whose keys, and whose versions' deeds, are others' in turn. -/
theorem set_srt {l : List Chain} {k : Str} {v : Version} {N : Int} (hs : Srt Chain.key l) (hv : ∀ c ∈ l, VSrt c.vs ∧ ∀ w ∈ c.vs, w.by_ < N) :
    Srt Chain.key (setChains l k v) ∧ ∀ c ∈ setChains l k v, VSrt c.vs ∧ ∀ w ∈ c.vs, w.by_ < N := by
  have hb : ∀ (h : Bool) (w : Version), (setV h v w).by_ = w.by_ := fun h w => by
    unfold setV
    split
    · next hh => exact hh.2.symm
    · rfl
  refine ⟨List.pairwise_map.2 hs, fun c hc => ?_⟩
  obtain ⟨c0, h0, rfl⟩ := List.mem_map.1 hc
  obtain ⟨h1, h2⟩ := hv c0 h0
  refine ⟨List.pairwise_map.2 (h1.imp fun hab => by rw [hb, hb]; exact hab), fun w hw => ?_⟩
  obtain ⟨w0, hw0, rfl⟩ := List.mem_map.1 hw
  rw [hb]; exact h2 w0 hw0
theorem goSets_srt {r : List Pair} {b N : Int} : ∀ {ks : List Str} {l : List Chain}, Srt Chain.key l → (∀ c ∈ l, VSrt c.vs ∧ ∀ w ∈ c.vs, w.by_ < N) →
    Srt Chain.key (goSets r b l ks) ∧ ∀ c ∈ goSets r b l ks, VSrt c.vs ∧ ∀ w ∈ c.vs, w.by_ < N
  | [], l, hs, hv => ⟨hs, hv⟩
  | k :: ks, l, hs, hv => by
    simp only [goSets]
    have := set_srt (k := k) (v := ⟨b, true, (RF.get r k).2, (RF.get r k).1⟩) hs hv
    exact goSets_srt this.1 this.2
theorem SInv.goNew {e : Engine} (h : SInv e) (A : Nat) (d : Deed) : SInv (goNew e A d) := by
  have := goSets_srt (r := (goDone e A d).1) (b := e.base + A) (ks := d.writes) (N := e.base + e.deeds.length) h.k fun c hc => ⟨h.v c hc, h.b c hc⟩
  exact ⟨this.1, fun c hc => (this.2 c hc).1, fun c hc => (this.2 c hc).2⟩
theorem SInv.goE {e : Engine} (h : SInv e) (at_ : Int) : SInv (goE e at_).1 := by
  unfold Proofs.YtobanjfamccjmaaDoor.goE
  split
  · exact h
  unfold goAt
  cases hA : e.deeds[at_.toNat]? with
  | none => exact h
  | some d =>
    dsimp only
    split
    · exact h
    split
    · exact h.goNew _ _
    · exact h
theorem clrV_sublist {b : Int} : ∀ l : List Version, (clrV b l).Sublist l
  | [] => List.Sublist.slnil
  | v :: l => by
    simp only [clrV]
    split
    · exact (clrV_sublist l).cons _
    · exact (clrV_sublist l).cons_cons _
theorem clear_srt {b : Int} : ∀ {l : List Chain}, Srt Chain.key l → Srt Chain.key (clear b l)
  | [], _ => List.Pairwise.nil
  | c :: l, hs => by
    obtain ⟨h1, h2⟩ := List.pairwise_cons.1 hs
    simp only [clear]
    split
    · exact clear_srt h2
    · refine List.pairwise_cons.2 ⟨fun d hd => ?_, clear_srt h2⟩
      obtain ⟨c0, h0, rfl⟩ := clear_mem hd
      exact h1 c0 h0
theorem SInv.clearE {e : Engine} (h : SInv e) : SInv (clearE e) := by
  have hm := markN_le e.state
  refine ⟨clear_srt h.k, fun c hc => ?_, fun c hc v hv => ?_⟩
  · obtain ⟨c0, h0, rfl⟩ := clear_mem hc
    exact List.Pairwise.sublist (clrV_sublist _) (h.v c0 h0)
  · obtain ⟨c0, h0, rfl⟩ := clear_mem hc
    have := h.b c0 h0 v (clrV_sub hv)
    simp only [RF.clearE, List.length_drop]
    omega
theorem SInv.pickE {e : Engine} (h : SInv e) (n : Int) : SInv (pickE e n) := by
  unfold Proofs.YtobanjfamccjmaaDoor.pickE
  split
  · exact h.clearE
  split
  · exact h
  split
  · exact h.goE _
  · exact h
theorem SInv.batchE {e : Engine} (h : SInv e) (b : List Deed) : SInv (batchE e b) := by
  unfold Proofs.YtobanjfamccjmaaDoor.batchE
  split
  · next hw => exact h.addE hw
  · exact h
theorem SInv.pickGo : ∀ {k : Nat} {e : Engine} {p : List Int}, SInv e → SInv (pickGo k e p).1
  | 0, e, p, h => h
  | k + 1, e, [], h => h
  | k + 1, e, n :: p, h => by
    simp only [Proofs.YtobanjfamccjmaaDoor.pickGo]
    exact SInv.pickGo (h.pickE n)
theorem SInv.buildGo : ∀ {bs : List (List Deed)} {e : Engine} {p : List Int}, SInv e → SInv (buildGo e bs p)
  | [], e, p, h => h
  | b :: bs, e, p, h => by
    simp only [Proofs.YtobanjfamccjmaaDoor.buildGo]
    exact SInv.buildGo ((h.batchE b).pickGo)
theorem build_srt {r : List Pair} (h : wrongRows r = 0) (bs : List (List Deed)) (p : List Int) : SInv (buildE r bs p) := SInv.buildGo (newE_srt (wrongRows_srt h).1)

end Go.Proofs.YtobanjfamccjmaaDoor

/-! P2 -/
/-
  Right chains: in order; rows made into chains, and read again. Plain facts.
-/
namespace Go.Proofs.YtobanjfamccjmaaDoor
open Go.AX Go.RF

theorem rightVs_srt : ∀ {l : List Version} {p : Option Int}, rightVs p l = true → VSrt l ∧ (∀ v ∈ l, -1 ≤ v.by_ ∧ v.by_ ≤ 1000000 ∧ nOk v.n) ∧ ∀ u, p = some u → ∀ v ∈ l, u < v.by_
  | [], p, _ => ⟨List.Pairwise.nil, by simp, by simp⟩
  | v :: l, p, h => by
    simp only [rightVs] at h
    cases hb : vBad p v with
    | true => rw [hb] at h; simp at h
    | false =>
      rw [hb] at h
      simp only [Bool.false_eq_true, if_false] at h
      obtain ⟨h1, h2, h3⟩ := rightVs_srt h
      simp only [vBad, Bool.or_eq_false_iff, decide_eq_false_iff_not] at hb
      obtain ⟨b1, b2, b3, b4, b5, _⟩ := hb
      have h4 := h3 v.by_ rfl
      refine ⟨VSrt.cons.2 ⟨h4, h1⟩, fun w hw => ?_, fun u hu w hw => ?_⟩
      · rcases List.mem_cons.1 hw with rfl | hw
        · exact ⟨by omega, by omega, by unfold nOk; omega⟩
        · exact h2 w hw
      · subst hu
        have h5 : u < v.by_ := by simpa [prevBad] using b3
        rcases List.mem_cons.1 hw with rfl | hw
        · exact h5
        · exact Int.lt_trans h5 (h4 w hw)
structure RC (l : List Chain) : Prop where
  s : Srt Chain.key l
  v : ∀ c ∈ l, VSrt c.vs
  k : ∀ c ∈ l, key c.key = true
  n : ∀ c ∈ l, c.vs ≠ []
  b : ∀ c ∈ l, ∀ v ∈ c.vs, -1 ≤ v.by_ ∧ v.by_ ≤ 1000000 ∧ nOk v.n
theorem rightCs_srt : ∀ {l : List Chain} {p : Option Str}, rightCs p l = true → RC l ∧ ∀ u, p = some u → ∀ c ∈ l, slt u c.key = true
  | [], p, _ => ⟨⟨List.Pairwise.nil, by simp, by simp, by simp, by simp⟩, by simp⟩
  | c :: l, p, h => by
    simp only [rightCs] at h
    cases hb : cBad p c with
    | true => rw [hb] at h; simp at h
    | false =>
      rw [hb] at h
      simp only [Bool.false_eq_true, if_false] at h
      by_cases hv : rightVs none c.vs = true
      · rw [if_pos hv] at h
        obtain ⟨h1, h2⟩ := rightCs_srt h
        obtain ⟨v1, v2, _⟩ := rightVs_srt hv
        simp only [cBad, Bool.or_eq_false_iff, Bool.not_eq_false', decide_eq_false_iff_not] at hb
        obtain ⟨b1, b2, b3⟩ := hb
        have h4 := h2 c.key rfl
        refine ⟨⟨List.pairwise_cons.2 ⟨h4, h1.s⟩, ?_, ?_, ?_, ?_⟩, fun u hu d hd => ?_⟩
        · exact fun d hd => by
                         rcases List.mem_cons.1 hd with rfl | hd
                         · exact v1
                         · exact h1.v d hd
        · exact fun d hd => by
                         rcases List.mem_cons.1 hd with rfl | hd
                         · exact b1
                         · exact h1.k d hd
        · exact fun d hd => by
                         rcases List.mem_cons.1 hd with rfl | hd
                         · exact b3
                         · exact h1.n d hd
        · exact fun d hd => by
                         rcases List.mem_cons.1 hd with rfl | hd
                         · exact v2
                         · exact h1.b d hd
        · subst hu
          have h5 : slt u c.key = true := by simpa [prevSBad] using b2
          rcases List.mem_cons.1 hd with rfl | hd
          · exact h5
          · exact slt_trans h5 (h4 d hd)
      · rw [if_neg hv] at h; simp at h
theorem rightChains_srt {l : List Chain} (h : rightChains l = true) : RC l := (rightCs_srt h).1

/-! ### Rows made into chains -/
theorem chains_srt {r : List Pair} (h : Srt Pair.key r) : Srt Chain.key (r.map rowChain) := List.pairwise_map.2 h
theorem chains_v {r : List Pair} : ∀ c ∈ r.map rowChain, VSrt c.vs := by
  intro c hc
  obtain ⟨p, _, rfl⟩ := List.mem_map.1 hc
  exact List.pairwise_singleton ..
theorem before_row {r : List Pair} (h : Srt Pair.key r) {p : Pair} (hp : p ∈ r) {b : Int} (hb : -1 < b) : before (r.map rowChain) p.key b = ⟨-1, true, true, p.n⟩ := by
  obtain ⟨i, hi⟩ := List.getElem?_of_mem hp
  unfold before
  have hil := (List.getElem?_eq_some_iff.1 hi).1
  have hsp : r = r.take i ++ p :: r.drop (i + 1) := by
    have h1 := List.take_append_drop i r
    rw [List.drop_eq_getElem_cons hil, (List.getElem?_eq_some_iff.1 hi).2] at h1
    exact h1.symm
  have hne : ∀ q ∈ r.take i ++ r.drop (i + 1), q.key ≠ p.key := by
    intro q hq
    rcases List.mem_append.1 hq with hq | hq
    · obtain ⟨j, hj⟩ := List.getElem?_of_mem hq
      rw [List.getElem?_take] at hj
      split at hj
      · exact h.ne hj hi (by omega)
      · cases hj
    · obtain ⟨j, hj⟩ := List.getElem?_of_mem hq
      rw [List.getElem?_drop] at hj
      exact h.ne hj hi (by omega)
  have n1 : ∀ out, beforeGo p.key b out ((r.take i).map rowChain) = out := fun out => beforeGo_none fun c hc => by
    obtain ⟨q, hq, rfl⟩ := List.mem_map.1 hc
    exact hne q (List.mem_append_left _ hq)
  have n2 : ∀ out, beforeGo p.key b out ((r.drop (i + 1)).map rowChain) = out := fun out => beforeGo_none fun c hc => by
    obtain ⟨q, hq, rfl⟩ := List.mem_map.1 hc
    exact hne q (List.mem_append_right _ hq)
  rw [hsp, List.map_append, beforeGo_append, n1, List.map_cons]
  simp only [beforeGo]
  rw [n2]
  simp [rowChain, bvs, hb]
theorem rowsAtGo_rows {r0 : List Pair} (h : Srt Pair.key r0) {b : Int} (hb : -1 < b) : ∀ {r out : List Pair}, (∀ p ∈ r, p ∈ r0) → rowsAtGo (r0.map rowChain) b out (r.map rowChain) = (out ++ r, true)
  | [], out, _ => by simp [rowsAtGo]
  | p :: r, out, hr => by
    have h1 : before (r0.map rowChain) (rowChain p).key b = ⟨-1, true, true, p.n⟩ := before_row h (hr p (List.mem_cons_self ..)) hb
    simp only [List.map_cons, rowsAtGo, h1, Bool.true_eq_false, if_false, if_true]
    rw [rowsAtGo_rows h hb fun q hq => hr q (List.mem_cons_of_mem _ hq)]
    simp [rowChain]
theorem rowsAt_rows {r : List Pair} (h : Srt Pair.key r) {b : Int} (hb : -1 < b) : rowsAt (r.map rowChain) b = (r, true) := by
  unfold rowsAt
  rw [rowsAtGo_rows h hb (fun _ h => h)]
  rfl

theorem rowsAtGo_len {l0 : List Chain} {b : Int} : ∀ (l : List Chain) (out : List Pair), (rowsAtGo l0 b out l).1.length ≤ out.length + l.length
  | [], out => by simp [rowsAtGo]
  | c :: l, out => by
    simp only [rowsAtGo]
    split
    · simp
    split
    · have := rowsAtGo_len (l0 := l0) (b := b) l (out ++ [⟨c.key, (before l0 c.key b).n⟩]); simp at this ⊢; omega
    · have := rowsAtGo_len (l0 := l0) (b := b) l out; simp at this ⊢; omega
theorem rowsAt_len (l : List Chain) (b : Int) : (rowsAt l b).1.length ≤ l.length := by
  have := rowsAtGo_len (l0 := l) (b := b) l []
  unfold rowsAt
  simpa using this
theorem same_refl (l : List Chain) : allB sameC l l = true := allB_refl sameC_refl l
theorem addS_len {k : Str} {b : Int} : ∀ l : List Chain, (addS k b l).length ≤ l.length + 1
  | [] => by simp [addS]
  | c :: l => by
    have := addS_len (k := k) (b := b) l
    simp only [addS]
    split
    · simp
    · split
      · simp; omega
      · simp
theorem addS_vs {k : Str} {b : Int} {l : List Chain} {N : Nat} (h : ∀ c ∈ l, c.vs.length ≤ N) : ∀ c ∈ addS k b l, c.vs.length ≤ N + 1 := by
  intro c hc
  rcases addS_mem hc with h0 | rfl | ⟨c0, h0, _, rfl⟩
  · have := h c h0; omega
  · simp
  · have := h c0 h0; simp; omega
theorem set_len (l : List Chain) (k : Str) (v : Version) : (setChains l k v).length = l.length := by simp [setChains]
theorem clear_vs {l : List Chain} {b : Int} {N : Nat} (h : ∀ c ∈ l, c.vs.length ≤ N) : ∀ c ∈ clear b l, c.vs.length ≤ N := by
  intro c hc
  obtain ⟨c0, h0, rfl⟩ := clear_mem hc
  exact Nat.le_trans (clrV_sublist _).length_le (h c0 h0)

end Go.Proofs.YtobanjfamccjmaaDoor

/-! P4 -/
/-
  Rows given and taken: plain laws. Keys by Trim.
-/
namespace Go.Proofs.YtobanjfamccjmaaDoor
open Go.AX Go.RF

/-! ### What a key has, behind -/
theorem get_put {k k' : Str} {n : Int} : ∀ {l : List Pair}, RF.get (putS k n l) k' = if k = k' then (n, true) else RF.get l k'
  | [] => by simp [putS, RF.get]
  | p :: l => by
    simp only [putS]
    by_cases hk : p.key = k
    · rw [if_pos hk]
      simp only [RF.get]
      by_cases h : k = k'
      · simp [h]
      · rw [if_neg h, if_neg h, if_neg (by rw [hk]; exact h)]
    · rw [if_neg hk]
      split
      · simp only [RF.get]
        rw [get_put]
        by_cases h : p.key = k'
        · rw [if_pos h, if_neg (fun e => hk (by rw [h, e])), if_pos h]
        · rw [if_neg h, if_neg h]
      · simp only [RF.get]
theorem get_absent {k : Str} : ∀ {l : List Pair}, (∀ p ∈ l, p.key ≠ k) → RF.get l k = (0, false)
  | [], _ => rfl
  | p :: l, h => by
    simp only [RF.get]
    rw [if_neg (h p (List.mem_cons_self ..)), get_absent fun q hq => h q (List.mem_cons_of_mem _ hq)]
theorem srt_absent {p : Pair} {l : List Pair} (hs : Srt Pair.key (p :: l)) : ∀ q ∈ l, q.key ≠ p.key := fun q hq e => by
  have := (List.pairwise_cons.1 hs).1 q hq
  rw [e, slt_irrefl] at this; cases this
theorem get_drop {k k' : Str} : ∀ {l : List Pair}, Srt Pair.key l → RF.get (dropS k l) k' = if k = k' then (0, false) else RF.get l k'
  | [], _ => by simp [dropS, RF.get]
  | p :: l, hs => by
    simp only [dropS]
    by_cases hk : p.key = k
    · rw [if_pos hk]
      by_cases h : k = k'
      · rw [if_pos h]
        exact get_absent fun q hq => by rw [← h, ← hk]; exact srt_absent hs q hq
      · rw [if_neg h]
        simp only [RF.get]
        rw [if_neg (by rw [hk]; exact h)]
    · rw [if_neg hk]
      simp only [RF.get]
      rw [get_drop (List.pairwise_cons.1 hs).2]
      by_cases h : p.key = k'
      · rw [if_pos h, if_neg (fun e => hk (by rw [h, e])), if_pos h]
      · rw [if_neg h, if_neg h]

/-! ### In order, and the same members: the same -/
theorem srt_ext : ∀ {l r : List Pair}, Srt Pair.key l → Srt Pair.key r → (∀ p, p ∈ l ↔ p ∈ r) → l = r
  | [], [], _, _, _ => rfl
  | [], q :: r, _, _, h => by have := (h q).2 (List.mem_cons_self ..); simp at this
  | p :: l, [], _, _, h => by have := (h p).1 (List.mem_cons_self ..); simp at this
  | p :: l, q :: r, hl, hr, h => by
    obtain ⟨l1, l2⟩ := List.pairwise_cons.1 hl
    obtain ⟨r1, r2⟩ := List.pairwise_cons.1 hr
    have hpq : p = q := by
      rcases List.mem_cons.1 ((h p).1 (List.mem_cons_self ..)) with e | e
      · exact e
      · rcases List.mem_cons.1 ((h q).2 (List.mem_cons_self ..)) with e' | e'
        · exact e'.symm
        · have := slt_trans (l1 q e') (r1 p e)
          rw [slt_irrefl] at this; cases this
    subst hpq
    congr 1
    refine srt_ext l2 r2 fun x => ⟨fun hx => ?_, fun hx => ?_⟩
    · rcases List.mem_cons.1 ((h x).1 (List.mem_cons_of_mem _ hx)) with e | e
      · subst e; have := l1 x hx; rw [slt_irrefl] at this; cases this
      · exact e
    · rcases List.mem_cons.1 ((h x).2 (List.mem_cons_of_mem _ hx)) with e | e
      · subst e; have := r1 x hx; rw [slt_irrefl] at this; cases this
      · exact e
theorem mem_drop {k : Str} {p : Pair} : ∀ {l : List Pair}, Srt Pair.key l → (p ∈ dropS k l ↔ p ∈ l ∧ p.key ≠ k)
  | [], _ => by simp [dropS]
  | q :: l, hs => by
    simp only [dropS]
    by_cases hk : q.key = k
    · rw [if_pos hk]
      constructor
      · exact fun h => ⟨List.mem_cons_of_mem _ h, by rw [← hk]; exact srt_absent hs p h⟩
      · rintro ⟨h, hn⟩
        rcases List.mem_cons.1 h with rfl | h
        · exact absurd hk hn
        · exact h
    · rw [if_neg hk, List.mem_cons, List.mem_cons, mem_drop (List.pairwise_cons.1 hs).2]
      constructor
      · rintro (rfl | h)
        · exact ⟨.inl rfl, hk⟩
        · exact ⟨.inr h.1, h.2⟩
      · rintro ⟨rfl | h, hn⟩
        · exact .inl rfl
        · exact .inr ⟨h, hn⟩
theorem mem_put {k : Str} {n : Int} {p : Pair} : ∀ {l : List Pair}, Srt Pair.key l → (p ∈ putS k n l ↔ p = ⟨k, n⟩ ∨ (p ∈ l ∧ p.key ≠ k))
  | [], _ => by simp [putS]
  | q :: l, hs => by
    obtain ⟨h1, h2⟩ := List.pairwise_cons.1 hs
    simp only [putS]
    by_cases hk : q.key = k
    · rw [if_pos hk, List.mem_cons, List.mem_cons]
      constructor
      · rintro (h | h)
        · exact .inl h
        · exact .inr ⟨.inr h, by rw [← hk]; exact srt_absent hs p h⟩
      · rintro (h | ⟨rfl | h, hn⟩)
        · exact .inl h
        · exact absurd hk hn
        · exact .inr h
    · rw [if_neg hk]
      split
      · rw [List.mem_cons, List.mem_cons, mem_put h2]
        constructor
        · rintro (rfl | h | h)
          · exact .inr ⟨.inl rfl, hk⟩
          · exact .inl h
          · exact .inr ⟨.inr h.1, h.2⟩
        · rintro (h | ⟨rfl | h, hn⟩)
          · exact .inr (.inl h)
          · exact .inl rfl
          · exact .inr (.inr ⟨h, hn⟩)
      · next hlt =>
        have hkq : slt k q.key = true := by
          rcases slt_tri q.key k with h | h | h
          · exact absurd h hlt
          · exact absurd h hk
          · exact h
        rw [List.mem_cons]
        constructor
        · rintro (h | h)
          · exact .inl h
          · refine .inr ⟨h, ?_⟩
            rcases List.mem_cons.1 h with rfl | h
            · exact hk
            · exact fun e => by have := slt_trans hkq (h1 p h); rw [e, slt_irrefl] at this; cases this
        · rintro (h | h)
          · exact .inl h
          · exact .inr h.1
theorem put_put {a b : Str} {n m : Int} {l : List Pair} (hs : Srt Pair.key l) (hab : a ≠ b) : putS b m (putS a n l) = putS a n (putS b m l) := by
  refine srt_ext (putS_srt (putS_srt hs)) (putS_srt (putS_srt hs)) fun p => ?_
  rw [mem_put (putS_srt hs), mem_put hs, mem_put (putS_srt hs), mem_put hs]
  constructor
  · rintro (h | ⟨h | ⟨h, h1⟩, h2⟩)
    · exact .inr ⟨.inl h, by rw [h]; exact fun e => hab e.symm⟩
    · exact .inl h
    · exact .inr ⟨.inr ⟨h, h2⟩, h1⟩
  · rintro (h | ⟨h | ⟨h, h1⟩, h2⟩)
    · exact .inr ⟨.inl h, by rw [h]; exact hab⟩
    · exact .inl h
    · exact .inr ⟨.inr ⟨h, h2⟩, h1⟩
theorem drop_put {a b : Str} {n : Int} {l : List Pair} (hs : Srt Pair.key l) (hab : a ≠ b) : dropS b (putS a n l) = putS a n (dropS b l) := by
  refine srt_ext (dropS_srt (putS_srt hs)) (putS_srt (dropS_srt hs)) fun p => ?_
  rw [mem_drop (putS_srt hs), mem_put hs, mem_put (dropS_srt hs), mem_drop hs]
  constructor
  · rintro ⟨h | ⟨h, h1⟩, h2⟩
    · exact .inl h
    · exact .inr ⟨⟨h, h2⟩, h1⟩
  · rintro (h | ⟨⟨h, h1⟩, h2⟩)
    · exact ⟨.inl h, by rw [h]; exact hab⟩
    · exact ⟨.inr ⟨h, h2⟩, h1⟩

/-! ### Right rows stay right -/
theorem wrongRowsGo_of : ∀ {l : List Pair} {i : Nat} {last : Str}, Srt Pair.key l → (∀ p ∈ l, key p.key = true) → rowsOk l → (0 < i → ∀ p ∈ l, slt last p.key = true) → wrongRowsGo i last l = 0
  | [], i, last, _, _, _, _ => rfl
  | p :: l, i, last, hs, hk, hn, hp => by
    obtain ⟨h1, h2⟩ := List.pairwise_cons.1 hs
    have h3 := hn p (List.mem_cons_self ..)
    simp only [wrongRowsGo]
    rw [if_neg (by rw [hk p (List.mem_cons_self ..)]; simp), if_neg, if_neg (by unfold nOk at h3; omega)]
    · exact wrongRowsGo_of h2 (fun q hq => hk q (List.mem_cons_of_mem _ hq)) (fun q hq => hn q (List.mem_cons_of_mem _ hq)) fun _ => h1
    · rintro ⟨h4, h5⟩
      have h6 := hp h4 p (List.mem_cons_self ..)
      simp only [sle, Bool.or_eq_true, decide_eq_true_eq] at h5
      rcases h5 with h5 | h5
      · rw [slt_asymm h6] at h5; cases h5
      · rw [h5, slt_irrefl] at h6; cases h6
theorem wrongRows_of {l : List Pair} (hs : Srt Pair.key l) (hk : ∀ p ∈ l, key p.key = true) (hn : rowsOk l) : wrongRows l = 0 := wrongRowsGo_of hs hk hn (by omega)
theorem wrong_put {l : List Pair} {k : Str} {n : Int} (h : wrongRows l = 0) (hk : key k = true) (hn : nOk n) : wrongRows (putS k n l) = 0 := by
  obtain ⟨h1, h2, h3⟩ := wrongRows_srt h
  refine wrongRows_of (putS_srt h1) (fun p hp => ?_) fun p hp => ?_
  · rcases putS_mem hp with hp | rfl
    · exact h2 p hp
    · exact hk
  · rcases putS_mem hp with hp | rfl
    · exact h3 p hp
    · exact hn
theorem wrong_drop {l : List Pair} {k : Str} (h : wrongRows l = 0) : wrongRows (dropS k l) = 0 := by
  obtain ⟨h1, h2, h3⟩ := wrongRows_srt h
  exact wrongRows_of (dropS_srt h1) (fun p hp => h2 p ((dropS_sub l).subset hp)) fun p hp => h3 p ((dropS_sub l).subset hp)

/-! ### Keys, by Trim -/
def alpha : List UInt8 := [97, 98, 99, 100, 101, 102, 103, 104, 105, 106, 107, 108, 109, 110, 111, 112, 113, 114, 115, 116, 117, 118, 119, 120, 121, 122]
theorem alpha_bad (c : UInt8) : alpha.contains c = !bad c := by
  have h : ∀ n : Fin 256, alpha.contains (UInt8.ofFin n) = !bad (UInt8.ofFin n) := by decide +kernel
  have := h c.toFin
  rwa [UInt8.ofFin_toFin] at this
theorem dropWhile_nil {p : UInt8 → Bool} : ∀ {l : List UInt8}, l.dropWhile p = [] ↔ ∀ x ∈ l, p x = true
  | [] => by simp
  | x :: l => by
    cases h : p x with
    | true => rw [List.dropWhile_cons_of_pos h, dropWhile_nil]; simp [h]
    | false => rw [List.dropWhile_cons_of_neg (by simp [h])]; simp [h]
theorem dropWhile_head {p : UInt8 → Bool} : ∀ {l r : List UInt8} {x : UInt8}, l.dropWhile p = x :: r → p x = false
  | [], r, x, h => by simp at h
  | y :: l, r, x, h => by
    cases hy : p y with
    | true => rw [List.dropWhile_cons_of_pos hy] at h; exact dropWhile_head h
    | false => rw [List.dropWhile_cons_of_neg (by simp [hy])] at h; cases h; exact hy
theorem trim_nil {l cs : List UInt8} : Lib.trimS l cs = [] ↔ ∀ x ∈ l, cs.contains x = true := by
  unfold Lib.trimS Lib.trimLeftS Lib.trimRightS
  rw [dropWhile_nil]
  constructor
  · intro h
    have h1 : l.reverse.dropWhile (cs.contains ·) = [] := by
      cases h2 : l.reverse.dropWhile (cs.contains ·) with
      | nil => rfl
      | cons x r =>
        have h3 := dropWhile_head h2
        have h4 := h x (by rw [h2]; simp)
        rw [h3] at h4; cases h4
    intro x hx
    exact dropWhile_nil.1 h1 x (by simpa using hx)
  · intro h x hx
    have h1 : l.reverse.dropWhile (cs.contains ·) = [] := dropWhile_nil.2 fun x hx => h x (by simpa using hx)
    rw [h1] at hx; simp at hx
theorem keyGo_eq {s : Str} : ∀ {r : Str}, keyGo s r = ((r.all fun c => !bad c) && (decide (0 < s.length) && decide (s.length < 7)))
  | [] => by simp [keyGo]
  | c :: r => by
    simp only [keyGo, List.all_cons]
    rw [keyGo_eq]
    cases bad c <;> simp
theorem key_trim (s : Str) : key s = (decide (1 ≤ s.length) && (decide (s.length ≤ 6) && decide (Lib.trimS s alpha = []))) := by
  unfold key
  rw [keyGo_eq]
  have h1 : (s.all fun c => !bad c) = decide (Lib.trimS s alpha = []) := by
    rw [Bool.eq_iff_iff, decide_eq_true_eq, trim_nil, List.all_eq_true]
    simp only [alpha_bad]
  rw [h1]
  have h2 : decide (0 < s.length) = decide (1 ≤ s.length) := by congr 1
  have h3 : decide (s.length < 7) = decide (s.length ≤ 6) := by congr 1; exact propext ⟨fun h => by omega, fun h => by omega⟩
  rw [h2, h3]
  cases decide (Lib.trimS s alpha = []) <;> cases decide (1 ≤ s.length) <;> cases decide (s.length ≤ 6) <;> rfl
theorem sle_not (a b : Str) : sle a b = !slt b a := by
  rcases slt_tri a b with h | h | h
  · simp [sle, h, slt_asymm h]
  · subst h; simp [sle, slt_irrefl]
  · have h1 := slt_asymm h
    have h2 : a ≠ b := fun e => by subst e; rw [slt_irrefl] at h; cases h
    simp [sle, h, h1, h2]

end Go.Proofs.YtobanjfamccjmaaDoor

/-! ShTrim -/
/-
  The library's Trim, at this program's numbers (printed by tools/mklays.py 160).
-/
namespace Go.Proofs
open Go.Shelf Go.RowKit
set_option maxRecDepth 100000
noncomputable def Tryd.lays160_ren : Go.Shelf.Ren := ⟨fun | 119 => 48 | 120 => 44 | 137 => 47 | 151 => 38 | 152 => 43 | 160 => 19 | 197 => 37 | 217 => 51 | 224 => 49 | 225 => 50 | 227 => 26 | 228 => 36 | 231 => 24 | 232 => 25 | 233 => 27 | 234 => 28 | 235 => 29 | 236 => 30 | 260 => 42 | 266 => 52 | 271 => 39 | n => n, fun | 0 => 0 | 3 => 3 | 4 => 4 | 5 => 5 | 9 => 9 | 21 => 21 | 46 => 60 | 105 => 57 | 116 => 46 | 117 => 47 | 119 => 63 | 124 => 50 | 138 => 65 | 139 => 66 | n => n, fun | 3 => (Tryd.prog.globals.findIdx? (·.name == "unicode/utf8.first")).getD 0 | 4 => (Tryd.prog.globals.findIdx? (·.name == "unicode/utf8.acceptRanges")).getD 0 | n => n⟩
theorem Tryd.lays160 : Go.Proofs.Lays.n160 Tryd.prog Tryd.lays160_ren := {
  mixed := by kernel_rfl
  f119 := Tryd.func48.trans (congrArg some (by kernel_rfl))
  f120 := Tryd.func44.trans (congrArg some (by kernel_rfl))
  f137 := Tryd.func47.trans (congrArg some (by kernel_rfl))
  f151 := Tryd.func38.trans (congrArg some (by kernel_rfl))
  f152 := Tryd.func43.trans (congrArg some (by kernel_rfl))
  f160 := Tryd.func19.trans (congrArg some (by kernel_rfl))
  f197 := Tryd.func37.trans (congrArg some (by kernel_rfl))
  f217 := Tryd.func51.trans (congrArg some (by kernel_rfl))
  f224 := Tryd.func49.trans (congrArg some (by kernel_rfl))
  f225 := Tryd.func50.trans (congrArg some (by kernel_rfl))
  f227 := Tryd.func26.trans (congrArg some (by kernel_rfl))
  f228 := Tryd.func36.trans (congrArg some (by kernel_rfl))
  f231 := Tryd.func24.trans (congrArg some (by kernel_rfl))
  f232 := Tryd.func25.trans (congrArg some (by kernel_rfl))
  f233 := Tryd.func27.trans (congrArg some (by kernel_rfl))
  f234 := Tryd.func28.trans (congrArg some (by kernel_rfl))
  f235 := Tryd.func29.trans (congrArg some (by kernel_rfl))
  f236 := Tryd.func30.trans (congrArg some (by kernel_rfl))
  f260 := Tryd.func42.trans (congrArg some (by kernel_rfl))
  f266 := Tryd.func52.trans (congrArg some (by kernel_rfl))
  f271 := Tryd.func39.trans (congrArg some (by kernel_rfl))
  t0 := Tryd.underlying0
  a0 := Tryd.isAgg0
  z0 := Tryd.sizeOf0
  v0 := Tryd.zeroValue0
  t3 := Tryd.underlying3
  a3 := Tryd.isAgg3
  z3 := Tryd.sizeOf3
  v3 := Tryd.zeroValue3
  t4 := Tryd.underlying4
  a4 := Tryd.isAgg4
  z4 := Tryd.sizeOf4
  v4 := Tryd.zeroValue4
  t5 := Tryd.underlying5
  a5 := Tryd.isAgg5
  z5 := Tryd.sizeOf5
  v5 := Tryd.zeroValue5
  t9 := Tryd.underlying9
  a9 := Tryd.isAgg9
  z9 := Tryd.sizeOf9
  v9 := Tryd.zeroValue9
  t21 := Tryd.underlying21
  a21 := Tryd.isAgg21
  z21 := Tryd.sizeOf21
  v21 := Tryd.zeroValue21
  t46 := Tryd.underlying60
  a46 := Tryd.isAgg60
  z46 := Tryd.sizeOf60
  v46 := Tryd.zeroValue60
  t105 := Tryd.underlying57
  a105 := Tryd.isAgg57
  z105 := Tryd.sizeOf57
  v105 := Tryd.zeroValue57
  t116 := Tryd.underlying46
  a116 := Tryd.isAgg46
  z116 := Tryd.sizeOf46
  t117 := Tryd.underlying47
  a117 := Tryd.isAgg47
  z117 := Tryd.sizeOf47
  v117 := Tryd.zeroValue47
  t119 := Tryd.underlying63
  a119 := Tryd.isAgg63
  z119 := Tryd.sizeOf63
  t124 := Tryd.underlying50
  a124 := Tryd.isAgg50
  z124 := Tryd.sizeOf50
  v124 := Tryd.zeroValue50
  t138 := Tryd.underlying65
  a138 := Tryd.isAgg65
  z138 := Tryd.sizeOf65
  v138 := Tryd.zeroValue65
  t139 := Tryd.underlying66
  a139 := Tryd.isAgg66
  z139 := Tryd.sizeOf66
  v139 := Tryd.zeroValue66
  g3 := by kernel_rfl
  g4 := by kernel_rfl
  }
end Go.Proofs

/-! R3 -/
/-
  Contracts of the program's Key and Wrong of rows, and of the references' Round at whatever number.
-/
namespace Go.Proofs.YtobanjfamccjmaaDoor
open Go.AX Go.RF Go.RowKit

set_option maxRecDepth 100000
set_option maxHeartbeats 8000000

theorem ok_round2 (n : Int) (hn : inI n) : FnOk Tryd.prog 11 [.d (dint n)] (.one (dint (round n))) := by
  refine fnOk_of tbl_ok mixed_ok Tryd.func11 rfl (by kernel_rfl) rfl rfl fun w0 own0 => ?_
  have h1 : n.tdiv 1073741825 * 1073741825 + n.tmod 1073741825 = n := Int.tdiv_mul_add_tmod n 1073741825
  have h2 : n.tmod 1073741825 < 1073741825 := Int.tmod_lt_of_pos n (by omega)
  have h3 : -1073741825 < n.tmod 1073741825 := by
    have h4 := Int.tmod_lt_of_pos (-n) (show (0 : Int) < 1073741825 by omega)
    rw [Int.neg_tmod] at h4
    omega
  have h5 : n.tmod 1073741825 = 0 ∨ (0 < n ∧ 0 ≤ n.tmod 1073741825) ∨ (n < 0 ∧ n.tmod 1073741825 ≤ 0) := by
    rcases Int.lt_trichotomy n 0 with h | h | h
    · have h4 := Int.tmod_nonneg (a := -n) 1073741825 (by omega)
      rw [Int.neg_tmod] at h4
      exact .inr (.inr ⟨h, by omega⟩)
    · subst h; exact .inl rfl
    · exact .inr (.inl ⟨h, Int.tmod_nonneg 1073741825 (by omega)⟩)
  obtain ⟨hn1, hn2⟩ := hn
  repeat (first | ((with_reducible apply st_bin); exact rfl; exact rfl; (first | (apply bin_quo; omega; omega) | (apply bin_mul; omega) | (apply bin_sub; omega)); exact .none rfl; exact rfl) | ((with_reducible apply s1); exact rfl) | (with_reducible first | apply CW.seq | apply CW.block | apply CW.region | apply CW.draw | apply CW.skip | apply CW.exit | apply CW.ret | apply q_then | apply q_then_exit | apply q_then_ret | apply q_block | apply q_block_ret | apply q_block_hit | apply q_ret | apply q_end | apply q_loop_exit | apply q_loop_ret | apply q_loopT_exit | apply q_loopT_ret | apply RW.nil) | ((with_reducible apply s3); exact rfl; exact by_k) | ((with_reducible apply s2); exact rfl; exact by_k) | ((with_reducible apply s4); exact rfl) | ((with_reducible apply s5); (first | exact by_oa); exact by_g) | ((with_reducible apply CW.cond_t); exact rfl; exact by_ks) | ((with_reducible apply CW.cond_f); exact rfl; exact by_ks) | ((with_reducible apply q_block_miss); exact rfl) | (refine And.intro (show chk [] [] _ _ = true by kernel_rfl) ?_))
  exact .one (.tmp rfl (.one (.d (.refl _))))

theorem ok_trim (s : Str) (hs : s.length ≤ 1073741824) : FnOk Tryd.prog 19 [.d (dstr s), .d (dstr alpha)] (.one (dstr (Lib.trimS s alpha))) := by
  refine ⟨⟨_, Tryd.func19, by kernel_rfl, by kernel_rfl⟩, fun w own vs hown ha => ?_⟩
  match vs, ha with
  | [x, y], ⟨h1, h2, _⟩ =>
    obtain rfl : x = str s := rd_v h1
    obtain rfl : y = str alpha := rd_v h2
    refine (Any.strings_Trim_laid Tryd.lays160 (by kernel_rfl) ⟨s.toArray⟩ ⟨alpha.toArray⟩ w (by show s.toArray.size ≤ _; simp; omega) (by decide) (ascii_of_all (by decide))).mono fun e w' he => ?_
    obtain ⟨rfl, hb⟩ := he
    exact ⟨_, rfl, hb, Rd.v _⟩

theorem ok_pkey (s : Str) (hs : s.length ≤ 1073741824) : FnOk Tryd.prog 6 [.d (dstr s)] (.one (dbool (key s))) := by
  refine fnOk_of tbl_ok mixed_ok Tryd.func6 rfl (by kernel_rfl) rfl rfl fun w0 own0 => ?_
  have ht := ok_trim s hs
  rw [key_trim]
  by_cases h1 : 1 ≤ s.length
  · by_cases h2 : s.length ≤ 6
    ·
      repeat (first | ((with_reducible apply s1); exact rfl) | (with_reducible first | apply CW.seq | apply CW.block | apply CW.region | apply CW.draw | apply CW.skip | apply CW.exit | apply CW.ret | apply q_then | apply q_then_exit | apply q_then_ret | apply q_block | apply q_block_ret | apply q_block_hit | apply q_ret | apply q_end | apply q_loop_exit | apply q_loop_ret | apply q_loopT_exit | apply q_loopT_ret | apply RW.nil) | ((with_reducible apply s3); exact rfl; exact by_k) | ((with_reducible apply s2); exact rfl; exact by_k) | ((with_reducible apply s4); exact rfl) | ((with_reducible apply s5); (first | (focus ((with_reducible apply a_call); exact ht; exact rfl; (repeat (first | exact SubsE.nil | (apply SubsE.cons; exact rfl; (first | exact .d (.refl _) | exact .d (.nil _) | exact .agg rfl (.refl _) | exact .pd | exact .ptr rfl); (first | exact trivial | exact ⟨rfl, trivial⟩)))); done)) | exact by_oa); exact by_g) | ((with_reducible apply CW.cond_t); exact rfl; exact by_ks) | ((with_reducible apply CW.cond_f); exact rfl; exact by_ks) | ((with_reducible apply q_block_miss); exact rfl) | (refine And.intro (show chk [] [] _ _ = true by kernel_rfl) ?_))
      exact .one (.tmp rfl (.one (.d (dle_bool (by simp [h1, h2])))))
    ·
      repeat (first | ((with_reducible apply s1); exact rfl) | (with_reducible first | apply CW.seq | apply CW.block | apply CW.region | apply CW.draw | apply CW.skip | apply CW.exit | apply CW.ret | apply q_then | apply q_then_exit | apply q_then_ret | apply q_block | apply q_block_ret | apply q_block_hit | apply q_ret | apply q_end | apply q_loop_exit | apply q_loop_ret | apply q_loopT_exit | apply q_loopT_ret | apply RW.nil) | ((with_reducible apply s3); exact rfl; exact by_k) | ((with_reducible apply s2); exact rfl; exact by_k) | ((with_reducible apply s4); exact rfl) | ((with_reducible apply s5); (first | exact by_oa); exact by_g) | ((with_reducible apply CW.cond_t); exact rfl; exact by_ks) | ((with_reducible apply CW.cond_f); exact rfl; exact by_ks) | ((with_reducible apply q_block_miss); exact rfl) | (refine And.intro (show chk [] [] _ _ = true by kernel_rfl) ?_))
      exact .one (.tmp rfl (.one (.d (dle_bool (by simp [h2])))))
  ·
    repeat (first | ((with_reducible apply s1); exact rfl) | (with_reducible first | apply CW.seq | apply CW.block | apply CW.region | apply CW.draw | apply CW.skip | apply CW.exit | apply CW.ret | apply q_then | apply q_then_exit | apply q_then_ret | apply q_block | apply q_block_ret | apply q_block_hit | apply q_ret | apply q_end | apply q_loop_exit | apply q_loop_ret | apply q_loopT_exit | apply q_loopT_ret | apply RW.nil) | ((with_reducible apply s3); exact rfl; exact by_k) | ((with_reducible apply s2); exact rfl; exact by_k) | ((with_reducible apply s4); exact rfl) | ((with_reducible apply s5); (first | exact by_oa); exact by_g) | ((with_reducible apply CW.cond_t); exact rfl; exact by_ks) | ((with_reducible apply CW.cond_f); exact rfl; exact by_ks) | ((with_reducible apply q_block_miss); exact rfl) | (refine And.intro (show chk [] [] _ _ = true by kernel_rfl) ?_))
    exact .one (.tmp rfl (.one (.d (dle_bool (by simp [h1])))))

def prevR (l : List Pair) : Nat → Str
  | 0 => []
  | j + 1 => match l[j]? with
    | some p => p.key
    | none => []
theorem ok_pwrongRows (l : List Pair) (hl : l.length ≤ 268435456) (hk : ∀ p ∈ l, p.key.length ≤ 1073741824) : FnOk Tryd.prog 8 [.d (encRows l)] (.one (dint (wrongRows l))) := by
  refine fnOk_of tbl_ok mixed_ok Tryd.func8 rfl (by kernel_rfl) rfl rfl fun w0 own0 => ?_
  repeat (first | ((with_reducible apply s1); exact rfl) | (with_reducible first | apply CW.seq | apply CW.block | apply CW.region | apply CW.draw | apply CW.skip | apply CW.exit | apply CW.ret | apply q_then | apply q_then_exit | apply q_then_ret | apply q_block | apply q_block_ret | apply q_block_hit | apply q_ret | apply q_end | apply q_loop_exit | apply q_loop_ret | apply q_loopT_exit | apply q_loopT_ret | apply RW.nil) | ((with_reducible apply s3); exact rfl; exact by_k) | ((with_reducible apply s2); exact rfl; exact by_k) | ((with_reducible apply s4); exact rfl) | ((with_reducible apply s5); (first | exact by_oa); exact by_g) | ((with_reducible apply CW.cond_t); exact rfl; exact by_ks) | ((with_reducible apply CW.cond_f); exact rfl; exact by_ks) | ((with_reducible apply q_block_miss); exact rfl) | (refine And.intro (show chk [] [] _ _ = true by kernel_rfl) ?_))
  refine CW.loopT (fun i : Nat => [sd 0 (encRows l), sd 5 (encRows l), sd 6 (dint l.length), sd 7 (dint i), nxt 0])
    (fun i => i ≤ l.length ∧ wrongRowsGo i (prevR l i) (l.drop i) = wrongRows l) (fun i => l.length - i) 0 ⟨by omega, rfl⟩ ?_ ?_
  ·
    exact by_less
  · rintro i ⟨hi, hI⟩
    rcases drop_case hi with ⟨h1, h2⟩ | ⟨p, h1, h2, h3⟩
    · rw [h1] at hI
      simp only [wrongRowsGo] at hI
      repeat (first | ((with_reducible apply s1); exact rfl) | (with_reducible first | apply CW.seq | apply CW.block | apply CW.region | apply CW.draw | apply CW.skip | apply CW.exit | apply CW.ret | apply q_then | apply q_then_exit | apply q_then_ret | apply q_block | apply q_block_ret | apply q_block_hit | apply q_ret | apply q_end | apply q_loop_exit | apply q_loop_ret | apply q_loopT_exit | apply q_loopT_ret | apply RW.nil) | ((with_reducible apply s3); exact rfl; exact by_k) | ((with_reducible apply s2); exact rfl; exact by_k) | ((with_reducible apply s4); exact rfl) | ((with_reducible apply s5); (first | exact by_oa); exact by_g) | ((with_reducible apply CW.cond_t); exact rfl; exact by_ks) | ((with_reducible apply CW.cond_f); exact rfl; exact by_ks) | ((with_reducible apply q_block_miss); exact rfl) | (refine And.intro (show chk [] [] _ _ = true by kernel_rfl) ?_))
      exact .one (.tmp rfl (.one (.d (dle_int hI))))
    · rw [h1] at hI
      simp only [wrongRowsGo] at hI
      have hc := ok_pkey p.key (hk p (List.mem_of_getElem? h2))
      have hnx : prevR l (i + 1) = p.key := by simp [prevR, h2]
      cases h4 : key p.key
      · rw [if_pos h4] at hI
        rw [h4] at hc
        repeat (first | ((with_reducible apply s1); exact rfl) | (with_reducible first | apply CW.seq | apply CW.block | apply CW.region | apply CW.draw | apply CW.skip | apply CW.exit | apply CW.ret | apply q_then | apply q_then_exit | apply q_then_ret | apply q_block | apply q_block_ret | apply q_block_hit | apply q_ret | apply q_end | apply q_loop_exit | apply q_loop_ret | apply q_loopT_exit | apply q_loopT_ret | apply RW.nil) | ((with_reducible apply s3); exact rfl; exact by_k) | ((with_reducible apply s2); exact rfl; exact by_k) | ((with_reducible apply s4); exact rfl) | ((with_reducible apply s5); (first | (focus ((with_reducible apply a_call); exact hc; exact rfl; (repeat (first | exact SubsE.nil | (apply SubsE.cons; exact rfl; (first | exact .d (.refl _) | exact .d (.nil _) | exact .agg rfl (.refl _) | exact .pd | exact .ptr rfl); (first | exact trivial | exact ⟨rfl, trivial⟩)))); done)) | exact by_oa); exact by_g) | ((with_reducible apply CW.cond_t); exact rfl; exact by_ks) | ((with_reducible apply CW.cond_f); exact rfl; exact by_ks) | ((with_reducible apply q_block_miss); exact rfl) | (refine And.intro (show chk [] [] _ _ = true by kernel_rfl) ?_))
        exact .one (.tmp rfl (.one (.d (dle_int hI))))
      · rw [if_neg (by simp [h4])] at hI
        rw [h4] at hc
        have tail : (0 < i → slt (prevR l i) p.key = true) → (if 1073741824 < p.n ∨ p.n < -1073741824 then (3 : Int) else wrongRowsGo (i + 1) p.key (l.drop (i + 1))) = wrongRows l := fun h => by
          rw [if_neg (fun h5 => by
            have h6 := h h5.1
            have h7 := h5.2
            rw [sle_not, h6] at h7; cases h7)] at hI
          exact hI
        cases i with
        | zero =>
          have hI' := tail (by omega)
          by_cases h7 : p.n < -1073741824
          · rw [if_pos (.inr h7)] at hI'
            repeat (first | ((with_reducible apply s1); exact rfl) | (with_reducible first | apply CW.seq | apply CW.block | apply CW.region | apply CW.draw | apply CW.skip | apply CW.exit | apply CW.ret | apply q_then | apply q_then_exit | apply q_then_ret | apply q_block | apply q_block_ret | apply q_block_hit | apply q_ret | apply q_end | apply q_loop_exit | apply q_loop_ret | apply q_loopT_exit | apply q_loopT_ret | apply RW.nil) | ((with_reducible apply s3); exact rfl; exact by_k) | ((with_reducible apply s2); exact rfl; exact by_k) | ((with_reducible apply s4); exact rfl) | ((with_reducible apply s5); (first | (focus ((with_reducible apply a_call); exact hc; exact rfl; (repeat (first | exact SubsE.nil | (apply SubsE.cons; exact rfl; (first | exact .d (.refl _) | exact .d (.nil _) | exact .agg rfl (.refl _) | exact .pd | exact .ptr rfl); (first | exact trivial | exact ⟨rfl, trivial⟩)))); done)) | exact by_oa); exact by_g) | ((with_reducible apply CW.cond_t); exact rfl; exact by_ks) | ((with_reducible apply CW.cond_f); exact rfl; exact by_ks) | ((with_reducible apply q_block_miss); exact rfl) | (refine And.intro (show chk [] [] _ _ = true by kernel_rfl) ?_))
            exact .one (.tmp rfl (.one (.d (dle_int hI'))))
          · by_cases h8 : 1073741824 < p.n
            · rw [if_pos (.inl h8)] at hI'
              repeat (first | ((with_reducible apply s1); exact rfl) | (with_reducible first | apply CW.seq | apply CW.block | apply CW.region | apply CW.draw | apply CW.skip | apply CW.exit | apply CW.ret | apply q_then | apply q_then_exit | apply q_then_ret | apply q_block | apply q_block_ret | apply q_block_hit | apply q_ret | apply q_end | apply q_loop_exit | apply q_loop_ret | apply q_loopT_exit | apply q_loopT_ret | apply RW.nil) | ((with_reducible apply s3); exact rfl; exact by_k) | ((with_reducible apply s2); exact rfl; exact by_k) | ((with_reducible apply s4); exact rfl) | ((with_reducible apply s5); (first | (focus ((with_reducible apply a_call); exact hc; exact rfl; (repeat (first | exact SubsE.nil | (apply SubsE.cons; exact rfl; (first | exact .d (.refl _) | exact .d (.nil _) | exact .agg rfl (.refl _) | exact .pd | exact .ptr rfl); (first | exact trivial | exact ⟨rfl, trivial⟩)))); done)) | exact by_oa); exact by_g) | ((with_reducible apply CW.cond_t); exact rfl; exact by_ks) | ((with_reducible apply CW.cond_f); exact rfl; exact by_ks) | ((with_reducible apply q_block_miss); exact rfl) | (refine And.intro (show chk [] [] _ _ = true by kernel_rfl) ?_))
              exact .one (.tmp rfl (.one (.d (dle_int hI'))))
            · rw [if_neg (by omega)] at hI'
              repeat (first | ((with_reducible apply s1); exact rfl) | (with_reducible first | apply CW.seq | apply CW.block | apply CW.region | apply CW.draw | apply CW.skip | apply CW.exit | apply CW.ret | apply q_then | apply q_then_exit | apply q_then_ret | apply q_block | apply q_block_ret | apply q_block_hit | apply q_ret | apply q_end | apply q_loop_exit | apply q_loop_ret | apply q_loopT_exit | apply q_loopT_ret | apply RW.nil) | ((with_reducible apply s3); exact rfl; exact by_k) | ((with_reducible apply s2); exact rfl; exact by_k) | ((with_reducible apply s4); exact rfl) | ((with_reducible apply s5); (first | (focus ((with_reducible apply a_call); exact hc; exact rfl; (repeat (first | exact SubsE.nil | (apply SubsE.cons; exact rfl; (first | exact .d (.refl _) | exact .d (.nil _) | exact .agg rfl (.refl _) | exact .pd | exact .ptr rfl); (first | exact trivial | exact ⟨rfl, trivial⟩)))); done)) | exact by_oa); exact by_g) | ((with_reducible apply CW.cond_t); exact rfl; exact by_ks) | ((with_reducible apply CW.cond_f); exact rfl; exact by_ks) | ((with_reducible apply q_block_miss); exact rfl) | (refine And.intro (show chk [] [] _ _ = true by kernel_rfl) ?_))
              refine q_loopT (0 + 1) ⟨by omega, by rw [hnx]; exact hI'⟩ (by omega) ?_
              exact by_less
        | succ j =>
          obtain ⟨q, hq⟩ : ∃ q, l[j]? = some q := ⟨l[j]'(by omega), List.getElem?_eq_getElem (by omega)⟩
          have hpv : prevR l (j + 1) = q.key := by simp [prevR, hq]
          have hcast : (((j + 1 : Nat) : Int) - 1) = ((j : Nat) : Int) := by omega
          cases h6 : slt q.key p.key with
          | false =>
            have h6' : Go.Op.bytesLess q.key p.key = false := h6
            rw [if_pos ⟨by omega, by rw [hpv, sle_not, h6]; rfl⟩] at hI
            repeat (first | ((with_reducible apply s1); exact rfl) | (with_reducible first | apply CW.seq | apply CW.block | apply CW.region | apply CW.draw | apply CW.skip | apply CW.exit | apply CW.ret | apply q_then | apply q_then_exit | apply q_then_ret | apply q_block | apply q_block_ret | apply q_block_hit | apply q_ret | apply q_end | apply q_loop_exit | apply q_loop_ret | apply q_loopT_exit | apply q_loopT_ret | apply RW.nil) | ((with_reducible apply s3); exact rfl; exact by_k) | ((with_reducible apply s2); exact rfl; exact by_k) | ((with_reducible apply s4); exact rfl) | ((with_reducible apply s5); (first | (focus ((with_reducible apply a_call); exact hc; exact rfl; (repeat (first | exact SubsE.nil | (apply SubsE.cons; exact rfl; (first | exact .d (.refl _) | exact .d (.nil _) | exact .agg rfl (.refl _) | exact .pd | exact .ptr rfl); (first | exact trivial | exact ⟨rfl, trivial⟩)))); done)) | ((with_reducible apply a_ia); (iterate 5 exact rfl); rw [hcast]; apply idx_map; assumption) | exact by_oa); exact by_g) | ((with_reducible apply CW.cond_t); exact rfl; exact by_ks) | ((with_reducible apply CW.cond_f); exact rfl; exact by_ks) | ((with_reducible apply q_block_miss); exact rfl) | (refine And.intro (show chk [] [] _ _ = true by kernel_rfl) ?_))
            exact .one (.tmp rfl (.one (.d (dle_int hI))))
          | true =>
            have h6' : Go.Op.bytesLess q.key p.key = true := h6
            have hI' := tail fun _ => by rw [hpv]; exact h6
            by_cases h7 : p.n < -1073741824
            · rw [if_pos (.inr h7)] at hI'
              repeat (first | ((with_reducible apply s1); exact rfl) | (with_reducible first | apply CW.seq | apply CW.block | apply CW.region | apply CW.draw | apply CW.skip | apply CW.exit | apply CW.ret | apply q_then | apply q_then_exit | apply q_then_ret | apply q_block | apply q_block_ret | apply q_block_hit | apply q_ret | apply q_end | apply q_loop_exit | apply q_loop_ret | apply q_loopT_exit | apply q_loopT_ret | apply RW.nil) | ((with_reducible apply s3); exact rfl; exact by_k) | ((with_reducible apply s2); exact rfl; exact by_k) | ((with_reducible apply s4); exact rfl) | ((with_reducible apply s5); (first | (focus ((with_reducible apply a_call); exact hc; exact rfl; (repeat (first | exact SubsE.nil | (apply SubsE.cons; exact rfl; (first | exact .d (.refl _) | exact .d (.nil _) | exact .agg rfl (.refl _) | exact .pd | exact .ptr rfl); (first | exact trivial | exact ⟨rfl, trivial⟩)))); done)) | ((with_reducible apply a_ia); (iterate 5 exact rfl); rw [hcast]; apply idx_map; assumption) | exact by_oa); exact by_g) | ((with_reducible apply CW.cond_t); exact rfl; exact by_ks) | ((with_reducible apply CW.cond_f); exact rfl; exact by_ks) | ((with_reducible apply q_block_miss); exact rfl) | (refine And.intro (show chk [] [] _ _ = true by kernel_rfl) ?_))
              exact .one (.tmp rfl (.one (.d (dle_int hI'))))
            · by_cases h8 : 1073741824 < p.n
              · rw [if_pos (.inl h8)] at hI'
                repeat (first | ((with_reducible apply s1); exact rfl) | (with_reducible first | apply CW.seq | apply CW.block | apply CW.region | apply CW.draw | apply CW.skip | apply CW.exit | apply CW.ret | apply q_then | apply q_then_exit | apply q_then_ret | apply q_block | apply q_block_ret | apply q_block_hit | apply q_ret | apply q_end | apply q_loop_exit | apply q_loop_ret | apply q_loopT_exit | apply q_loopT_ret | apply RW.nil) | ((with_reducible apply s3); exact rfl; exact by_k) | ((with_reducible apply s2); exact rfl; exact by_k) | ((with_reducible apply s4); exact rfl) | ((with_reducible apply s5); (first | (focus ((with_reducible apply a_call); exact hc; exact rfl; (repeat (first | exact SubsE.nil | (apply SubsE.cons; exact rfl; (first | exact .d (.refl _) | exact .d (.nil _) | exact .agg rfl (.refl _) | exact .pd | exact .ptr rfl); (first | exact trivial | exact ⟨rfl, trivial⟩)))); done)) | ((with_reducible apply a_ia); (iterate 5 exact rfl); rw [hcast]; apply idx_map; assumption) | exact by_oa); exact by_g) | ((with_reducible apply CW.cond_t); exact rfl; exact by_ks) | ((with_reducible apply CW.cond_f); exact rfl; exact by_ks) | ((with_reducible apply q_block_miss); exact rfl) | (refine And.intro (show chk [] [] _ _ = true by kernel_rfl) ?_))
                exact .one (.tmp rfl (.one (.d (dle_int hI'))))
              · rw [if_neg (by omega)] at hI'
                repeat (first | ((with_reducible apply s1); exact rfl) | (with_reducible first | apply CW.seq | apply CW.block | apply CW.region | apply CW.draw | apply CW.skip | apply CW.exit | apply CW.ret | apply q_then | apply q_then_exit | apply q_then_ret | apply q_block | apply q_block_ret | apply q_block_hit | apply q_ret | apply q_end | apply q_loop_exit | apply q_loop_ret | apply q_loopT_exit | apply q_loopT_ret | apply RW.nil) | ((with_reducible apply s3); exact rfl; exact by_k) | ((with_reducible apply s2); exact rfl; exact by_k) | ((with_reducible apply s4); exact rfl) | ((with_reducible apply s5); (first | (focus ((with_reducible apply a_call); exact hc; exact rfl; (repeat (first | exact SubsE.nil | (apply SubsE.cons; exact rfl; (first | exact .d (.refl _) | exact .d (.nil _) | exact .agg rfl (.refl _) | exact .pd | exact .ptr rfl); (first | exact trivial | exact ⟨rfl, trivial⟩)))); done)) | ((with_reducible apply a_ia); (iterate 5 exact rfl); rw [hcast]; apply idx_map; assumption) | exact by_oa); exact by_g) | ((with_reducible apply CW.cond_t); exact rfl; exact by_ks) | ((with_reducible apply CW.cond_f); exact rfl; exact by_ks) | ((with_reducible apply q_block_miss); exact rfl) | (refine And.intro (show chk [] [] _ _ = true by kernel_rfl) ?_))
                refine q_loopT (j + 1 + 1) ⟨by omega, by rw [hnx]; exact hI'⟩ (by omega) ?_
                exact by_less

end Go.Proofs.YtobanjfamccjmaaDoor
