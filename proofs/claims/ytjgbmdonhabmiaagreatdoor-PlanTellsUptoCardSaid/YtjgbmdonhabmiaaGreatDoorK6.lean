/-
  Part 6 of what the claim leans on: G17 P7 F4 L1 L7.
-/
import Derived.Test.YtjgbmdonhabmiaaGreatDoorK5

/-! G17 -/
/-
  Contracts of the program's Needs and Ready.
-/
namespace Go.Proofs.YtjgbmdonhabmiaaGreatDoor
open Go.AX Go.RF

set_option maxRecDepth 100000
set_option maxHeartbeats 8000000

/-- What is not made is of deeds that are planned, from the base on. -/
def NB (e : Engine) : Prop := ∀ (at_ : Nat) (k : Str), (before e.chains k (e.base + at_)).made = false → e.base ≤ (before e.chains k (e.base + at_)).by_ ∧ (before e.chains k (e.base + at_)).by_ < e.base + at_

theorem ok_pneeds (e : Engine) (at_ : Nat) (d : Deed) (hs : e.Sm) (hd : e.deeds[at_]? = some d) (hn : d.reads.Nodup) (hk : Srt Chain.key e.chains) (hB : NB e) :
    FnOk Tryz.prog 13 [.d (.agg e.enc), .d (dint at_)] (.one (encInts (needs e at_ d))) := by
  refine fnOk_of tbl_ok mixed_ok Tryz.func13 rfl (by kernel_rfl) rfl rfl fun w0 own0 => ?_
  rw [← pneeds_eq (hB at_)]
  have hat := (List.getElem?_eq_some_iff.1 hd).1
  have hdl := hs.d
  have hbase := hs.b
  have hdd := hs.dd d (List.mem_of_getElem? hd)
  have ck := ok_pkeys d hn hdd.r hdd.w
  have hkl := keysD_len hdd
  have cb := fun k => ok_pbefore e.chains k (e.base + at_) (by have := hs.c; omega) (fun c h => by have := hs.v c h; omega) hk
  repeat (first | (with_reducible apply stop_reg 2) | ((with_reducible apply s1); exact rfl) | (with_reducible first | apply CW.seq | apply CW.block | apply CW.region | apply CW.draw | apply CW.skip | apply CW.exit | apply CW.ret | apply q_then | apply q_then_exit | apply q_then_ret | apply q_block | apply q_block_ret | apply q_block_hit | apply q_ret | apply q_end | apply q_loop_exit | apply q_loop_ret | apply q_loopT_exit | apply q_loopT_ret | apply RW.nil) | ((with_reducible apply s3); exact rfl; exact by_k) | ((with_reducible apply s2); exact rfl; exact by_k) | ((with_reducible apply s4); exact rfl) | ((with_reducible apply s5); (first | (focus ((with_reducible apply a_call); exact ck; exact rfl; (repeat (first | exact SubsE.nil | (apply SubsE.cons; exact rfl; (first | exact .d (.refl _) | exact .d (.nil _) | exact .agg rfl (.refl _) | exact .pd | exact .ptr rfl); (first | exact trivial | exact ⟨rfl, trivial⟩)))); done)) | exact by_oa); exact by_g) | ((with_reducible apply CW.cond_t); exact rfl; exact by_ks) | ((with_reducible apply CW.cond_f); exact rfl; exact by_ks) | ((with_reducible apply q_block_miss); exact rfl) | (refine And.intro (show chk [] [] _ _ = true by kernel_rfl) ?_))
  refine Stop.go (CW.stut (stut_promote (i := 5) 3 1) ⟨rfl, rfl, trivial⟩ ?_)
  repeat (first | ((with_reducible apply s1); exact rfl) | (with_reducible first | apply CW.seq | apply CW.block | apply CW.region | apply CW.draw | apply CW.skip | apply CW.exit | apply CW.ret | apply q_then | apply q_then_exit | apply q_then_ret | apply q_block | apply q_block_ret | apply q_block_hit | apply q_ret | apply q_end | apply q_loop_exit | apply q_loop_ret | apply q_loopT_exit | apply q_loopT_ret | apply RW.nil) | ((with_reducible apply s3); exact rfl; exact by_k) | ((with_reducible apply s2); exact rfl; exact by_k) | ((with_reducible apply s4); exact rfl) | ((with_reducible apply s5); (first | (focus ((with_reducible apply a_call); exact ck; exact rfl; (repeat (first | exact SubsE.nil | (apply SubsE.cons; exact rfl; (first | exact .d (.refl _) | exact .d (.nil _) | exact .agg rfl (.refl _) | exact .pd | exact .ptr rfl); (first | exact trivial | exact ⟨rfl, trivial⟩)))); done)) | exact by_oa); exact by_g) | ((with_reducible apply CW.cond_t); exact rfl; exact by_ks) | ((with_reducible apply CW.cond_f); exact rfl; exact by_ks) | ((with_reducible apply q_block_miss); exact rfl) | (refine And.intro (show chk [] [] _ _ = true by kernel_rfl) ?_))
  refine CW.loopT (fun t : Nat × List Int => [sd 1 (dint at_), sp 2 0, ob 0 e.enc, sd 4 (.v nilS), so 5 1 t.2.length, oa 1 3 1 (t.2.map encInt1), sd 14 (encStrs (keysD d)), sd 15 (dint (keysD d).length), sd 16 (dint t.1), nxt 2])
    (fun t => t.1 ≤ (keysD d).length ∧ t.2.length ≤ t.1 ∧ pneedsGo e.chains e.base (e.base + at_) t.2 ((keysD d).drop t.1) = pneedsGo e.chains e.base (e.base + at_) [] (keysD d)) (fun t => (keysD d).length - t.1) (0, []) ⟨by omega, by simp, rfl⟩ ?_ ?_
  ·
    exact by_less
  · rintro ⟨j, out⟩ ⟨hj, ho, hI⟩
    dsimp only at hj ho hI ⊢
    rcases drop_case hj with ⟨h1, h2⟩ | ⟨k, h1, h2, h3⟩
    · rw [h1] at hI
      simp only [pneedsGo] at hI
      have hsort := in_sort out (by omega)
      repeat (first | ((with_reducible apply s1); exact rfl) | (with_reducible first | apply CW.seq | apply CW.block | apply CW.region | apply CW.draw | apply CW.skip | apply CW.exit | apply CW.ret | apply q_then | apply q_then_exit | apply q_then_ret | apply q_block | apply q_block_ret | apply q_block_hit | apply q_ret | apply q_end | apply q_loop_exit | apply q_loop_ret | apply q_loopT_exit | apply q_loopT_ret | apply RW.nil) | ((with_reducible apply s3); exact rfl; exact by_k) | ((with_reducible apply s2); exact rfl; exact by_k) | ((with_reducible apply s4); exact rfl) | ((with_reducible apply s5); (first | (focus (with_reducible apply a_inplace); exact hsort; exact rfl; exact rfl; exact rfl; (focus first | exact rfl | (simp; done)); exact rfl) | exact by_oa); exact by_g) | ((with_reducible apply CW.cond_t); exact rfl; exact by_ks) | ((with_reducible apply CW.cond_f); exact rfl; exact by_ks) | ((with_reducible apply q_block_miss); exact rfl) | (refine And.intro (show chk [] [] _ _ = true by kernel_rfl) ?_))
      exact .one (.tmp rfl (.one (.own rfl (by simp [sorted]) (dle_eq (by unfold pneeds; rw [← hI]; rfl)))))
    · rw [h1] at hI
      simp only [pneedsGo] at hI
      have cbk := cb k
      have hBk := hB at_ k
      obtain ⟨⟨vb, vm, vh, vn⟩, hv⟩ : ∃ v, before e.chains k (e.base + at_) = v := ⟨_, rfl⟩
      rw [hv] at cbk hBk
      rw [hv] at hI
      dsimp only at hI hBk
      cases vm with
      | true =>
        rw [if_neg (by simp)] at hI
        repeat (first | ((with_reducible apply s1); exact rfl) | (with_reducible first | apply CW.seq | apply CW.block | apply CW.region | apply CW.draw | apply CW.skip | apply CW.exit | apply CW.ret | apply q_then | apply q_then_exit | apply q_then_ret | apply q_block | apply q_block_ret | apply q_block_hit | apply q_ret | apply q_end | apply q_loop_exit | apply q_loop_ret | apply q_loopT_exit | apply q_loopT_ret | apply RW.nil) | ((with_reducible apply s3); exact rfl; exact by_k) | ((with_reducible apply s2); exact rfl; exact by_k) | ((with_reducible apply s4); exact rfl) | ((with_reducible apply s5); (first | (focus ((with_reducible apply a_call); exact cbk; exact rfl; (repeat (first | exact SubsE.nil | (apply SubsE.cons; exact rfl; (first | exact .d (.refl _) | exact .d (.nil _) | exact .agg rfl (.refl _) | exact .pd | exact .ptr rfl); (first | exact trivial | exact ⟨rfl, trivial⟩)))); done)) | exact by_oa); exact by_g) | ((with_reducible apply CW.cond_t); exact rfl; exact by_ks) | ((with_reducible apply CW.cond_f); exact rfl; exact by_ks) | ((with_reducible apply q_block_miss); exact rfl) | (refine And.intro (show chk [] [] _ _ = true by kernel_rfl) ?_))
        refine q_loopT (j + 1, out) ⟨by dsimp only; omega, by dsimp only; omega, hI⟩ (by dsimp only; omega) ?_
        exact by_less
      | false =>
        obtain ⟨hB1, hB2⟩ := hBk rfl
        have cc := ok_containsI out (vb - e.base) (by omega)
        cases hc : isNum out (vb - e.base) with
        | true =>
          rw [hc] at cc hI
          rw [if_neg (by simp)] at hI
          repeat (first | ((with_reducible apply s1); exact rfl) | (with_reducible first | apply CW.seq | apply CW.block | apply CW.region | apply CW.draw | apply CW.skip | apply CW.exit | apply CW.ret | apply q_then | apply q_then_exit | apply q_then_ret | apply q_block | apply q_block_ret | apply q_block_hit | apply q_ret | apply q_end | apply q_loop_exit | apply q_loop_ret | apply q_loopT_exit | apply q_loopT_ret | apply RW.nil) | ((with_reducible apply s3); exact rfl; exact by_k) | ((with_reducible apply s2); exact rfl; exact by_k) | ((with_reducible apply s4); exact rfl) | ((with_reducible apply s5); (first | (focus ((with_reducible apply a_call); exact cbk; exact rfl; (repeat (first | exact SubsE.nil | (apply SubsE.cons; exact rfl; (first | exact .d (.refl _) | exact .d (.nil _) | exact .agg rfl (.refl _) | exact .pd | exact .ptr rfl); (first | exact trivial | exact ⟨rfl, trivial⟩)))); done)) | (focus ((with_reducible apply a_lend); exact cc; exact rfl; exact .plain rfl; (focus first | exact rfl | (simp; done) | (simp; omega)); (iterate 2 exact rfl); (repeat (first | exact SubsE.nil | (apply SubsE.cons; exact rfl; (first | exact .d (.refl _) | exact .d (.nil _) | exact .agg rfl (.refl _) | exact .pd | exact .ptr rfl); (first | exact trivial | exact ⟨rfl, trivial⟩)))); done)) | exact by_oa); exact by_g) | ((with_reducible apply CW.cond_t); exact rfl; exact by_ks) | ((with_reducible apply CW.cond_f); exact rfl; exact by_ks) | ((with_reducible apply q_block_miss); exact rfl) | (refine And.intro (show chk [] [] _ _ = true by kernel_rfl) ?_))
          refine q_loopT (j + 1, out) ⟨by dsimp only; omega, by dsimp only; omega, hI⟩ (by dsimp only; omega) ?_
          exact by_less
        | false =>
          rw [hc] at cc hI
          rw [if_pos ⟨rfl, rfl⟩] at hI
          repeat (first | ((with_reducible apply s1); exact rfl) | (with_reducible first | apply CW.seq | apply CW.block | apply CW.region | apply CW.draw | apply CW.skip | apply CW.exit | apply CW.ret | apply q_then | apply q_then_exit | apply q_then_ret | apply q_block | apply q_block_ret | apply q_block_hit | apply q_ret | apply q_end | apply q_loop_exit | apply q_loop_ret | apply q_loopT_exit | apply q_loopT_ret | apply RW.nil) | ((with_reducible apply s3); exact rfl; exact by_k) | ((with_reducible apply s2); exact rfl; exact by_k) | ((with_reducible apply s4); exact rfl) | ((with_reducible apply s5); (first | (focus ((with_reducible apply a_call); exact cbk; exact rfl; (repeat (first | exact SubsE.nil | (apply SubsE.cons; exact rfl; (first | exact .d (.refl _) | exact .d (.nil _) | exact .agg rfl (.refl _) | exact .pd | exact .ptr rfl); (first | exact trivial | exact ⟨rfl, trivial⟩)))); done)) | (focus ((with_reducible apply a_lend); exact cc; exact rfl; exact .plain rfl; (focus first | exact rfl | (simp; done) | (simp; omega)); (iterate 2 exact rfl); (repeat (first | exact SubsE.nil | (apply SubsE.cons; exact rfl; (first | exact .d (.refl _) | exact .d (.nil _) | exact .agg rfl (.refl _) | exact .pd | exact .ptr rfl); (first | exact trivial | exact ⟨rfl, trivial⟩)))); done)) | exact by_oa); exact by_g) | ((with_reducible apply CW.cond_t); exact rfl; exact by_ks) | ((with_reducible apply CW.cond_f); exact rfl; exact by_ks) | ((with_reducible apply q_block_miss); exact rfl) | (refine And.intro (show chk [] [] _ _ = true by kernel_rfl) ?_))
          refine q_loopT (j + 1, out ++ [vb - e.base]) ⟨by dsimp only; omega, by dsimp only; simp; omega, hI⟩ (by dsimp only; omega) ?_
          exact by_less

end Go.Proofs.YtjgbmdonhabmiaaGreatDoor

/-! P7 -/
/-
  Engines as they are built: what is not made is of deeds that wait; what has nothing is nothing. The program's Go comes to the references'.
-/
namespace Go.Proofs.YtjgbmdonhabmiaaGreatDoor
open Go.AX Go.RF

structure WInv (e : Engine) : Prop where
  d : ∀ d ∈ e.deeds, wrongDeed d = 0
  n : ∀ c ∈ e.chains, ∀ v ∈ c.vs, v.made = false → ∃ (k : Nat) (x : Deed), v.by_ = e.base + k ∧ e.state[k]? = some 0 ∧ e.deeds[k]? = some x ∧ c.key ∈ x.writes
  h : ∀ c ∈ e.chains, ∀ v ∈ c.vs, v.has = false → v.n = 0
  l : e.state.length = e.deeds.length

theorem newE_w (r : List Pair) : WInv (newE r) := by
  have h0 : ∀ c ∈ (newE r).chains, ∀ v ∈ c.vs, v.made = true ∧ v.has = true := by
    intro c hc v hv
    obtain ⟨p, _, rfl⟩ := List.mem_map.1 hc
    simp [rowChain] at hv
    subst hv; exact ⟨rfl, rfl⟩
  refine ⟨by simp [newE], fun c hc v hv hm => ?_, fun c hc v hv hm => ?_, rfl⟩
  · rw [(h0 c hc v hv).1] at hm; cases hm
  · rw [(h0 c hc v hv).2] at hm; cases hm
theorem addKeys_mem {b : Int} : ∀ {ks : List Str} {l : List Chain}, Srt Chain.key l → ∀ c ∈ addKeys b l ks, ∀ v ∈ c.vs, (∃ c0 ∈ l, c0.key = c.key ∧ v ∈ c0.vs) ∨ (v = newV b ∧ c.key ∈ ks)
  | [], l, _, c, hc, v, hv => .inl ⟨c, hc, rfl, hv⟩
  | k :: ks, l, hs, c, hc, v, hv => by
    simp only [addKeys] at hc
    rw [addC_srt hs] at hc
    rcases addKeys_mem (addS_srt hs) c hc v hv with ⟨c0, h0, h1, h2⟩ | ⟨h1, h2⟩
    · rcases addS_mem h0 with h3 | rfl | ⟨c1, h3, h4, rfl⟩
      · exact .inl ⟨c0, h3, h1, h2⟩
      · simp at h2
        exact .inr ⟨h2, by rw [← h1]; exact List.mem_cons_self ..⟩
      · rcases List.mem_append.1 h2 with h2 | h2
        · exact .inl ⟨c1, h3, by rw [h4]; exact h1, h2⟩
        · simp at h2
          exact .inr ⟨h2, by rw [← h1]; exact List.mem_cons_self ..⟩
    · exact .inr ⟨h1, List.mem_cons_of_mem _ h2⟩
theorem WInv.add1 {e : Engine} (h : WInv e) (hs : SInv e) {d : Deed} (hd : wrongDeed d = 0) : WInv (add1 e d) := by
  have hlt : ∀ (k : Nat) (x : Deed), e.deeds[k]? = some x → k < e.deeds.length := fun k x hx => (List.getElem?_eq_some_iff.1 hx).1
  refine ⟨fun x hx => ?_, fun c hc v hv hm => ?_, fun c hc v hv hm => ?_, ?_⟩
  · rcases List.mem_append.1 hx with hx | hx
    · exact h.d x hx
    · simp at hx; subst hx; exact hd
  · rcases addKeys_mem hs.k c hc v hv with ⟨c0, h0, h1, h2⟩ | ⟨rfl, h2⟩
    · obtain ⟨k, x, h3, h4, h5, h6⟩ := h.n c0 h0 v h2 hm
      have := hlt k x h5
      refine ⟨k, x, h3, ?_, ?_, by rw [← h1]; exact h6⟩
      · show (e.state ++ [0])[k]? = _
        rw [List.getElem?_append_left (by rw [h.l]; exact this)]; exact h4
      · show (e.deeds ++ [d])[k]? = _
        rw [List.getElem?_append_left this]; exact h5
    · refine ⟨e.deeds.length, d, rfl, ?_, ?_, h2⟩
      · show (e.state ++ [0])[e.deeds.length]? = _
        rw [← h.l]; simp
      · show (e.deeds ++ [d])[e.deeds.length]? = _
        simp
  · rcases addKeys_mem hs.k c hc v hv with ⟨c0, h0, h1, h2⟩ | ⟨rfl, h2⟩
    · exact h.h c0 h0 v h2 hm
    · rfl
  · show (e.state ++ [0]).length = (e.deeds ++ [d]).length
    simp [h.l]
theorem WInv.addAll : ∀ {l : List Deed} {e : Engine}, WInv e → SInv e → (∀ d ∈ l, wrongDeed d = 0) → WInv (addAll e l)
  | [], e, h, _, _ => h
  | d :: l, e, h, hs, hl => by
    simp only [RF.addAll]
    have hd := hl d (List.mem_cons_self ..)
    exact WInv.addAll (h.add1 hs hd) (hs.add1 (wrong_keys hd).2) fun x hx => hl x (List.mem_cons_of_mem _ hx)
theorem WInv.addE {e : Engine} (h : WInv e) (hs : SInv e) {l : List Deed} (hw : (addE e l).2 = 0) : WInv (addE e l).1 := by
  unfold RF.addE at hw ⊢
  by_cases h0 : wrongs l = 0
  · rw [if_pos h0]
    exact h.addAll hs fun d hd => wrongs_mem h0 d hd
  · rw [if_neg h0] at hw; exact absurd hw h0

theorem get_none0 {k : Str} : ∀ {r : List Pair}, (RF.get r k).2 = false → (RF.get r k).1 = 0
  | [], _ => rfl
  | p :: r, h => by
    simp only [RF.get] at h ⊢
    by_cases hp : p.key = k
    · rw [if_pos hp] at h; cases h
    · rw [if_neg hp] at h ⊢; exact get_none0 h
theorem goSets_mem {r : List Pair} {b : Int} : ∀ {ks : List Str} {l : List Chain}, ∀ c ∈ goSets r b l ks, ∀ v ∈ c.vs,
    (∃ c0 ∈ l, c0.key = c.key ∧ v ∈ c0.vs ∧ (v.by_ = b → c.key ∉ ks)) ∨ (v.made = true ∧ (v.has = false → v.n = 0))
  | [], l, c, hc, v, hv => .inl ⟨c, hc, rfl, hv, fun _ => by simp⟩
  | k :: ks, l, c, hc, v, hv => by
    simp only [goSets] at hc
    rcases goSets_mem c hc v hv with ⟨c0, h0, h1, h2, h3⟩ | h1
    · obtain ⟨c1, h4, rfl⟩ := List.mem_map.1 h0
      obtain ⟨w, h5, rfl⟩ := List.mem_map.1 h2
      by_cases hh : decide (c1.key = k) = true ∧ w.by_ = b
      · refine .inr ?_
        have e : setV (decide (c1.key = k)) ⟨b, true, (RF.get r k).2, (RF.get r k).1⟩ w = ⟨b, true, (RF.get r k).2, (RF.get r k).1⟩ := by unfold setV; rw [if_pos hh]
        rw [e]
        exact ⟨rfl, get_none0⟩
      · have e : setV (decide (c1.key = k)) ⟨b, true, (RF.get r k).2, (RF.get r k).1⟩ w = w := by unfold setV; rw [if_neg hh]
        rw [e] at h3 ⊢
        refine .inl ⟨c1, h4, h1, h5, fun hb => ?_⟩
        have h6 := h3 hb
        intro hm
        rcases List.mem_cons.1 hm with hm | hm
        · exact hh ⟨by simp [show c1.key = c.key from h1, hm], hb⟩
        · exact h6 hm
    · exact .inr h1
theorem WInv.goNew {e : Engine} (h : WInv e) (A : Nat) (d : Deed) (hd : e.deeds[A]? = some d) : WInv (goNew e A d) := by
  refine ⟨h.d, fun c hc v hv hm => ?_, fun c hc v hv hm => ?_, ?_⟩
  · rcases goSets_mem c hc v hv with ⟨c0, h0, h1, h2, h3⟩ | h1
    · obtain ⟨k, x, h4, h5, h6, h7⟩ := h.n c0 h0 v h2 hm
      by_cases hk : k = A
      · subst hk
        rw [hd] at h6
        cases h6
        exact absurd (h1 ▸ h7) (h3 h4)
      · refine ⟨k, x, h4, ?_, h6, by rw [← h1]; exact h7⟩
        show (e.state.set A 1)[k]? = _
        rw [List.getElem?_set_ne (fun e => hk e.symm)]; exact h5
    · rw [h1.1] at hm; cases hm
  · rcases goSets_mem c hc v hv with ⟨c0, h0, h1, h2, h3⟩ | h1
    · exact h.h c0 h0 v h2 hm
    · exact h1.2 hm
  · show (e.state.set A 1).length = _
    rw [List.length_set]; exact h.l
theorem WInv.goE {e : Engine} (h : WInv e) (at_ : Int) : WInv (goE e at_).1 := by
  unfold Proofs.YtjgbmdonhabmiaaGreatDoor.goE
  split
  · exact h
  unfold goAt
  cases hA : e.deeds[at_.toNat]? with
  | none => exact h
  | some d =>
    dsimp only
    split
    · exact h
    split
    · exact h.goNew _ _ hA
    · exact h
theorem markN_one : ∀ {s : List Int} {j : Nat}, j < markN s → s[j]? = some 1
  | [], j, h => by simp [markN] at h
  | x :: s, j, h => by
    simp only [markN] at h
    by_cases hx : x = 1
    · rw [if_pos hx] at h
      cases j with
      | zero => simp [hx]
      | succ j => simpa using markN_one (s := s) (j := j) (by omega)
    · rw [if_neg hx] at h; omega
theorem WInv.clearE {e : Engine} (h : WInv e) : WInv (clearE e) := by
  refine ⟨fun d hd => h.d d (List.mem_of_mem_drop hd), fun c hc v hv hm => ?_, fun c hc v hv hm => ?_, ?_⟩
  · obtain ⟨c0, h0, rfl⟩ := clear_mem hc
    obtain ⟨k, x, h1, h2, h3, h4⟩ := h.n c0 h0 v (clrV_sub hv) hm
    have hk : markN e.state ≤ k := by
      rcases Nat.lt_or_ge k (markN e.state) with hlt | hge
      · have := markN_one hlt
        rw [h2] at this; cases this
      · exact hge
    refine ⟨k - markN e.state, x, ?_, ?_, ?_, h4⟩
    · show v.by_ = e.base + markN e.state + ((k - markN e.state : Nat) : Int)
      omega
    · show (e.state.drop (markN e.state))[k - markN e.state]? = _
      rw [List.getElem?_drop, show markN e.state + (k - markN e.state) = k by omega]; exact h2
    · show (e.deeds.drop (markN e.state))[k - markN e.state]? = _
      rw [List.getElem?_drop, show markN e.state + (k - markN e.state) = k by omega]; exact h3
  · obtain ⟨c0, h0, rfl⟩ := clear_mem hc
    exact h.h c0 h0 v (clrV_sub hv) hm
  · show (e.state.drop _).length = (e.deeds.drop _).length
    simp [h.l]
theorem WInv.pickE {e : Engine} (h : WInv e) (n : Int) : WInv (pickE e n) := by
  unfold Proofs.YtjgbmdonhabmiaaGreatDoor.pickE
  split
  · exact h.clearE
  split
  · exact h
  split
  · exact h.goE _
  · exact h
theorem WInv.batchE {e : Engine} (h : WInv e) (hs : SInv e) (b : List Deed) : WInv (batchE e b) := by
  unfold Proofs.YtjgbmdonhabmiaaGreatDoor.batchE
  split
  · next hw => exact h.addE hs hw
  · exact h
theorem WInv.pickGo : ∀ {k : Nat} {e : Engine} {p : List Int}, WInv e → WInv (pickGo k e p).1
  | 0, e, p, h => h
  | k + 1, e, [], h => h
  | k + 1, e, n :: p, h => by
    simp only [Proofs.YtjgbmdonhabmiaaGreatDoor.pickGo]
    exact WInv.pickGo (h.pickE n)
theorem WInv.buildGo : ∀ {bs : List (List Deed)} {e : Engine} {p : List Int}, WInv e → SInv e → WInv (buildGo e bs p)
  | [], e, p, h, _ => h
  | b :: bs, e, p, h, hs => by
    simp only [Proofs.YtjgbmdonhabmiaaGreatDoor.buildGo]
    exact WInv.buildGo ((h.batchE hs b).pickGo) ((hs.batchE b).pickGo)
theorem build_w {r : List Pair} (h : wrongRows r = 0) (bs : List (List Deed)) (p : List Int) : WInv (buildE r bs p) := WInv.buildGo (newE_w r) (newE_srt (wrongRows_srt h).1)

/-! ### Before -/
theorem bvs_mem {h : Bool} {b : Int} : ∀ {l : List Version} {out : Version}, bvs h b out l = out ∨ (h = true ∧ bvs h b out l ∈ l ∧ (bvs h b out l).by_ < b)
  | [], out => .inl rfl
  | v :: l, out => by
    simp only [bvs]
    rcases bvs_mem (h := h) (b := b) (l := l) (out := if h && decide (v.by_ < b) then v else out) with e | ⟨h1, h2, h3⟩
    · rw [e]
      by_cases hc : (h && decide (v.by_ < b)) = true
      · rw [if_pos hc]
        simp only [Bool.and_eq_true, decide_eq_true_eq] at hc
        exact .inr ⟨hc.1, List.mem_cons_self .., hc.2⟩
      · rw [if_neg hc]; exact .inl rfl
    · exact .inr ⟨h1, List.mem_cons_of_mem _ h2, h3⟩
theorem beforeGo_mem {k : Str} {b : Int} : ∀ {l : List Chain} {out : Version}, beforeGo k b out l = out ∨ ∃ c ∈ l, c.key = k ∧ beforeGo k b out l ∈ c.vs ∧ (beforeGo k b out l).by_ < b
  | [], out => .inl rfl
  | c :: l, out => by
    simp only [beforeGo]
    rcases beforeGo_mem (k := k) (b := b) (l := l) (out := bvs (decide (c.key = k)) b out c.vs) with e | ⟨c', h1, h2⟩
    · rw [e]
      rcases bvs_mem (h := decide (c.key = k)) (b := b) (l := c.vs) (out := out) with e2 | ⟨h1, h2, h3⟩
      · exact .inl e2
      · exact .inr ⟨c, List.mem_cons_self .., by simpa using h1, h2, h3⟩
    · exact .inr ⟨c', List.mem_cons_of_mem _ h1, h2⟩
theorem before_mem (l : List Chain) (k : Str) (b : Int) : before l k b = noV ∨ ∃ c ∈ l, c.key = k ∧ before l k b ∈ c.vs ∧ (before l k b).by_ < b := beforeGo_mem
theorem WInv.nb {e : Engine} (h : WInv e) : NB e := by
  intro at_ k hm
  rcases before_mem e.chains k (e.base + at_) with h1 | ⟨c, h1, h2, h3, h4⟩
  · rw [h1] at hm; cases hm
  · obtain ⟨j, x, h5, _⟩ := h.n c h1 _ h3 hm
    exact ⟨by omega, h4⟩
/-! ### A deed that is done -/
end Go.Proofs.YtjgbmdonhabmiaaGreatDoor

/-! F4 -/
/-
  Contract of the references' WrongRows.
-/
namespace Go.Proofs.YtjgbmdonhabmiaaGreatDoor
open Go.AX Go.RF

set_option maxRecDepth 100000
set_option maxHeartbeats 4000000

theorem ok_wrongRows (l : List Pair) (hl : l.length ≤ 268435456) (hk : ∀ p ∈ l, p.key.length ≤ 1073741824) : FnOk Tryz.prog 4 [.d (encRows l)] (.one (dint (wrongRows l))) := by
  refine fnOk_of tbl_ok mixed_ok Tryz.func4 rfl (by kernel_rfl) rfl rfl fun w0 own0 => ?_
  repeat (first | ((with_reducible apply s1); exact rfl) | (with_reducible first | apply CW.seq | apply CW.block | apply CW.region | apply CW.draw | apply CW.skip | apply CW.exit | apply CW.ret | apply q_then | apply q_then_exit | apply q_then_ret | apply q_block | apply q_block_ret | apply q_block_hit | apply q_ret | apply q_end | apply q_loop_exit | apply q_loop_ret | apply q_loopT_exit | apply q_loopT_ret | apply RW.nil) | ((with_reducible apply s3); exact rfl; exact by_k) | ((with_reducible apply s2); exact rfl; exact by_k) | ((with_reducible apply s4); exact rfl) | ((with_reducible apply s5); (first | exact by_oa); exact by_g) | ((with_reducible apply CW.cond_t); exact rfl; exact by_ks) | ((with_reducible apply CW.cond_f); exact rfl; exact by_ks) | ((with_reducible apply q_block_miss); exact rfl) | (refine And.intro (show chk [] [] _ _ = true by kernel_rfl) ?_))
  refine CW.loopT (fun t : Nat × Str => [(.s 3, .av (.d (dstr t.2))), (.s 6, .av (.d (encRows l))), (.s 7, .av (.d (dint l.length))), (.s 8, .av (.d (dint t.1))), (.nx, .num 0)])
    (fun t => t.1 ≤ l.length ∧ wrongRowsGo t.1 t.2 (l.drop t.1) = wrongRows l) (fun t => l.length - t.1) (0, []) ⟨by omega, rfl⟩ ?_ ?_
  ·
    exact by_less
  · rintro ⟨i, last⟩ ⟨hi, hI⟩
    dsimp only at hi hI ⊢
    rcases drop_case hi with ⟨h1, h2⟩ | ⟨p, h1, h2, h3⟩
    · rw [h1] at hI
      simp only [wrongRowsGo] at hI
      repeat (first | ((with_reducible apply s1); exact rfl) | (with_reducible first | apply CW.seq | apply CW.block | apply CW.region | apply CW.draw | apply CW.skip | apply CW.exit | apply CW.ret | apply q_then | apply q_then_exit | apply q_then_ret | apply q_block | apply q_block_ret | apply q_block_hit | apply q_ret | apply q_end | apply q_loop_exit | apply q_loop_ret | apply q_loopT_exit | apply q_loopT_ret | apply RW.nil) | ((with_reducible apply s3); exact rfl; exact by_k) | ((with_reducible apply s2); exact rfl; exact by_k) | ((with_reducible apply s4); exact rfl) | ((with_reducible apply s5); (first | exact by_oa); exact by_g) | ((with_reducible apply CW.cond_t); exact rfl; exact by_ks) | ((with_reducible apply CW.cond_f); exact rfl; exact by_ks) | ((with_reducible apply q_block_miss); exact rfl) | (refine And.intro (show chk [] [] _ _ = true by kernel_rfl) ?_))
      exact .one (.tmp rfl (.one (.d (dle_int hI))))
    · rw [h1] at hI
      simp only [wrongRowsGo] at hI
      have hc := ok_key p.key (hk p (List.mem_of_getElem? h2))
      cases h4 : key p.key
      · rw [if_pos h4] at hI
        repeat (first | ((with_reducible apply s1); exact rfl) | (with_reducible first | apply CW.seq | apply CW.block | apply CW.region | apply CW.draw | apply CW.skip | apply CW.exit | apply CW.ret | apply q_then | apply q_then_exit | apply q_then_ret | apply q_block | apply q_block_ret | apply q_block_hit | apply q_ret | apply q_end | apply q_loop_exit | apply q_loop_ret | apply q_loopT_exit | apply q_loopT_ret | apply RW.nil) | ((with_reducible apply s3); exact rfl; exact by_k) | ((with_reducible apply s2); exact rfl; exact by_k) | ((with_reducible apply s4); exact rfl) | ((with_reducible apply s5); (first | (focus ((with_reducible apply a_call); exact hc; exact rfl; (repeat (first | exact SubsE.nil | (apply SubsE.cons; exact rfl; (first | exact .d (.refl _) | exact .d (.nil _) | exact .agg rfl (.refl _) | exact .pd | exact .ptr rfl); (first | exact trivial | exact ⟨rfl, trivial⟩)))); done)) | exact by_oa); exact by_g) | ((with_reducible apply CW.cond_t); exact rfl; exact by_ks) | ((with_reducible apply CW.cond_f); exact rfl; exact by_ks) | ((with_reducible apply q_block_miss); exact rfl) | (refine And.intro (show chk [] [] _ _ = true by kernel_rfl) ?_))
        exact .one (.tmp rfl (.one (.d (dle_int hI))))
      · rw [if_neg (by simp [h4])] at hI
        by_cases h5 : 0 < i
        · cases h6 : sle p.key last
          · rw [if_neg (by simp [h6])] at hI
            have h6' : (Go.Op.bytesLess p.key last || decide (p.key = last)) = false := h6
            by_cases h7 : 1073741824 < p.n
            · rw [if_pos (.inl h7)] at hI
              repeat (first | ((with_reducible apply s1); exact rfl) | (with_reducible first | apply CW.seq | apply CW.block | apply CW.region | apply CW.draw | apply CW.skip | apply CW.exit | apply CW.ret | apply q_then | apply q_then_exit | apply q_then_ret | apply q_block | apply q_block_ret | apply q_block_hit | apply q_ret | apply q_end | apply q_loop_exit | apply q_loop_ret | apply q_loopT_exit | apply q_loopT_ret | apply RW.nil) | ((with_reducible apply s3); exact rfl; exact by_k) | ((with_reducible apply s2); exact rfl; exact by_k) | ((with_reducible apply s4); exact rfl) | ((with_reducible apply s5); (first | (focus ((with_reducible apply a_call); exact hc; exact rfl; (repeat (first | exact SubsE.nil | (apply SubsE.cons; exact rfl; (first | exact .d (.refl _) | exact .d (.nil _) | exact .agg rfl (.refl _) | exact .pd | exact .ptr rfl); (first | exact trivial | exact ⟨rfl, trivial⟩)))); done)) | exact by_oa); exact by_g) | ((with_reducible apply CW.cond_t); exact rfl; exact by_ks) | ((with_reducible apply CW.cond_f); exact rfl; exact by_ks) | ((with_reducible apply q_block_miss); exact rfl) | (refine And.intro (show chk [] [] _ _ = true by kernel_rfl) ?_))
              exact .one (.tmp rfl (.one (.d (dle_int hI))))
            · by_cases h8 : p.n < -1073741824
              · rw [if_pos (.inr h8)] at hI
                repeat (first | ((with_reducible apply s1); exact rfl) | (with_reducible first | apply CW.seq | apply CW.block | apply CW.region | apply CW.draw | apply CW.skip | apply CW.exit | apply CW.ret | apply q_then | apply q_then_exit | apply q_then_ret | apply q_block | apply q_block_ret | apply q_block_hit | apply q_ret | apply q_end | apply q_loop_exit | apply q_loop_ret | apply q_loopT_exit | apply q_loopT_ret | apply RW.nil) | ((with_reducible apply s3); exact rfl; exact by_k) | ((with_reducible apply s2); exact rfl; exact by_k) | ((with_reducible apply s4); exact rfl) | ((with_reducible apply s5); (first | (focus ((with_reducible apply a_call); exact hc; exact rfl; (repeat (first | exact SubsE.nil | (apply SubsE.cons; exact rfl; (first | exact .d (.refl _) | exact .d (.nil _) | exact .agg rfl (.refl _) | exact .pd | exact .ptr rfl); (first | exact trivial | exact ⟨rfl, trivial⟩)))); done)) | exact by_oa); exact by_g) | ((with_reducible apply CW.cond_t); exact rfl; exact by_ks) | ((with_reducible apply CW.cond_f); exact rfl; exact by_ks) | ((with_reducible apply q_block_miss); exact rfl) | (refine And.intro (show chk [] [] _ _ = true by kernel_rfl) ?_))
                exact .one (.tmp rfl (.one (.d (dle_int hI))))
              · rw [if_neg (by omega)] at hI
                repeat (first | ((with_reducible apply s1); exact rfl) | (with_reducible first | apply CW.seq | apply CW.block | apply CW.region | apply CW.draw | apply CW.skip | apply CW.exit | apply CW.ret | apply q_then | apply q_then_exit | apply q_then_ret | apply q_block | apply q_block_ret | apply q_block_hit | apply q_ret | apply q_end | apply q_loop_exit | apply q_loop_ret | apply q_loopT_exit | apply q_loopT_ret | apply RW.nil) | ((with_reducible apply s3); exact rfl; exact by_k) | ((with_reducible apply s2); exact rfl; exact by_k) | ((with_reducible apply s4); exact rfl) | ((with_reducible apply s5); (first | (focus ((with_reducible apply a_call); exact hc; exact rfl; (repeat (first | exact SubsE.nil | (apply SubsE.cons; exact rfl; (first | exact .d (.refl _) | exact .d (.nil _) | exact .agg rfl (.refl _) | exact .pd | exact .ptr rfl); (first | exact trivial | exact ⟨rfl, trivial⟩)))); done)) | exact by_oa); exact by_g) | ((with_reducible apply CW.cond_t); exact rfl; exact by_ks) | ((with_reducible apply CW.cond_f); exact rfl; exact by_ks) | ((with_reducible apply q_block_miss); exact rfl) | (refine And.intro (show chk [] [] _ _ = true by kernel_rfl) ?_))
                refine q_loopT (i + 1, _) ⟨by omega, hI⟩ (by dsimp only; omega) ?_
                exact by_less
          · rw [if_pos ⟨h5, h6⟩] at hI
            have h6' : (Go.Op.bytesLess p.key last || decide (p.key = last)) = true := h6
            repeat (first | ((with_reducible apply s1); exact rfl) | (with_reducible first | apply CW.seq | apply CW.block | apply CW.region | apply CW.draw | apply CW.skip | apply CW.exit | apply CW.ret | apply q_then | apply q_then_exit | apply q_then_ret | apply q_block | apply q_block_ret | apply q_block_hit | apply q_ret | apply q_end | apply q_loop_exit | apply q_loop_ret | apply q_loopT_exit | apply q_loopT_ret | apply RW.nil) | ((with_reducible apply s3); exact rfl; exact by_k) | ((with_reducible apply s2); exact rfl; exact by_k) | ((with_reducible apply s4); exact rfl) | ((with_reducible apply s5); (first | (focus ((with_reducible apply a_call); exact hc; exact rfl; (repeat (first | exact SubsE.nil | (apply SubsE.cons; exact rfl; (first | exact .d (.refl _) | exact .d (.nil _) | exact .agg rfl (.refl _) | exact .pd | exact .ptr rfl); (first | exact trivial | exact ⟨rfl, trivial⟩)))); done)) | exact by_oa); exact by_g) | ((with_reducible apply CW.cond_t); exact rfl; exact by_ks) | ((with_reducible apply CW.cond_f); exact rfl; exact by_ks) | ((with_reducible apply q_block_miss); exact rfl) | (refine And.intro (show chk [] [] _ _ = true by kernel_rfl) ?_))
            exact .one (.tmp rfl (.one (.d (dle_int hI))))
        · rw [if_neg (by simp; omega)] at hI
          by_cases h7 : 1073741824 < p.n
          · rw [if_pos (.inl h7)] at hI
            repeat (first | ((with_reducible apply s1); exact rfl) | (with_reducible first | apply CW.seq | apply CW.block | apply CW.region | apply CW.draw | apply CW.skip | apply CW.exit | apply CW.ret | apply q_then | apply q_then_exit | apply q_then_ret | apply q_block | apply q_block_ret | apply q_block_hit | apply q_ret | apply q_end | apply q_loop_exit | apply q_loop_ret | apply q_loopT_exit | apply q_loopT_ret | apply RW.nil) | ((with_reducible apply s3); exact rfl; exact by_k) | ((with_reducible apply s2); exact rfl; exact by_k) | ((with_reducible apply s4); exact rfl) | ((with_reducible apply s5); (first | (focus ((with_reducible apply a_call); exact hc; exact rfl; (repeat (first | exact SubsE.nil | (apply SubsE.cons; exact rfl; (first | exact .d (.refl _) | exact .d (.nil _) | exact .agg rfl (.refl _) | exact .pd | exact .ptr rfl); (first | exact trivial | exact ⟨rfl, trivial⟩)))); done)) | exact by_oa); exact by_g) | ((with_reducible apply CW.cond_t); exact rfl; exact by_ks) | ((with_reducible apply CW.cond_f); exact rfl; exact by_ks) | ((with_reducible apply q_block_miss); exact rfl) | (refine And.intro (show chk [] [] _ _ = true by kernel_rfl) ?_))
            exact .one (.tmp rfl (.one (.d (dle_int hI))))
          · by_cases h8 : p.n < -1073741824
            · rw [if_pos (.inr h8)] at hI
              repeat (first | ((with_reducible apply s1); exact rfl) | (with_reducible first | apply CW.seq | apply CW.block | apply CW.region | apply CW.draw | apply CW.skip | apply CW.exit | apply CW.ret | apply q_then | apply q_then_exit | apply q_then_ret | apply q_block | apply q_block_ret | apply q_block_hit | apply q_ret | apply q_end | apply q_loop_exit | apply q_loop_ret | apply q_loopT_exit | apply q_loopT_ret | apply RW.nil) | ((with_reducible apply s3); exact rfl; exact by_k) | ((with_reducible apply s2); exact rfl; exact by_k) | ((with_reducible apply s4); exact rfl) | ((with_reducible apply s5); (first | (focus ((with_reducible apply a_call); exact hc; exact rfl; (repeat (first | exact SubsE.nil | (apply SubsE.cons; exact rfl; (first | exact .d (.refl _) | exact .d (.nil _) | exact .agg rfl (.refl _) | exact .pd | exact .ptr rfl); (first | exact trivial | exact ⟨rfl, trivial⟩)))); done)) | exact by_oa); exact by_g) | ((with_reducible apply CW.cond_t); exact rfl; exact by_ks) | ((with_reducible apply CW.cond_f); exact rfl; exact by_ks) | ((with_reducible apply q_block_miss); exact rfl) | (refine And.intro (show chk [] [] _ _ = true by kernel_rfl) ?_))
              exact .one (.tmp rfl (.one (.d (dle_int hI))))
            · rw [if_neg (by omega)] at hI
              repeat (first | ((with_reducible apply s1); exact rfl) | (with_reducible first | apply CW.seq | apply CW.block | apply CW.region | apply CW.draw | apply CW.skip | apply CW.exit | apply CW.ret | apply q_then | apply q_then_exit | apply q_then_ret | apply q_block | apply q_block_ret | apply q_block_hit | apply q_ret | apply q_end | apply q_loop_exit | apply q_loop_ret | apply q_loopT_exit | apply q_loopT_ret | apply RW.nil) | ((with_reducible apply s3); exact rfl; exact by_k) | ((with_reducible apply s2); exact rfl; exact by_k) | ((with_reducible apply s4); exact rfl) | ((with_reducible apply s5); (first | (focus ((with_reducible apply a_call); exact hc; exact rfl; (repeat (first | exact SubsE.nil | (apply SubsE.cons; exact rfl; (first | exact .d (.refl _) | exact .d (.nil _) | exact .agg rfl (.refl _) | exact .pd | exact .ptr rfl); (first | exact trivial | exact ⟨rfl, trivial⟩)))); done)) | exact by_oa); exact by_g) | ((with_reducible apply CW.cond_t); exact rfl; exact by_ks) | ((with_reducible apply CW.cond_f); exact rfl; exact by_ks) | ((with_reducible apply q_block_miss); exact rfl) | (refine And.intro (show chk [] [] _ _ = true by kernel_rfl) ?_))
              refine q_loopT (i + 1, _) ⟨by omega, hI⟩ (by dsimp only; omega) ?_
              exact by_less

end Go.Proofs.YtjgbmdonhabmiaaGreatDoor

/-! L1 -/
/-
  The law TidyTells answers true of whatever data.
-/
namespace Go.Proofs.YtjgbmdonhabmiaaGreatDoor
open Go.AX Go.RF

set_option maxRecDepth 100000
set_option maxHeartbeats 8000000

theorem sumLen_eq (bs : List (List Deed)) : sumLen bs = (bs.map List.length).sum := by
  induction bs with
  | nil => rfl
  | cons b bs ih => simp [sumLen, ih]
end Go.Proofs.YtjgbmdonhabmiaaGreatDoor

/-! L7 -/
/-
  The law PlanTells answers true of whatever data.
-/
namespace Go.Proofs.YtjgbmdonhabmiaaGreatDoor
open Go.AX Go.RF

set_option maxRecDepth 100000
set_option maxHeartbeats 8000000

theorem addE_sm {e : Engine} {N : Nat} (h : EInv e N) {l : List Deed} (hs : ∀ d ∈ l, d.Sm) (hN : N + 5 * l.length ≤ 90000000) : (addE e l).1.Sm := by
  by_cases h0 : (addE e l).2 = 0
  · exact (h.addE hs h0).z.sm (by omega)
  · have hne : ¬ wrongs l = 0 := fun e2 => h0 (by unfold addE; rw [if_pos e2])
    unfold addE
    rw [if_neg hne]
    exact ⟨by simp [noE], by simp [noE], by simp [noE], by simp [noE], by simp [noE], by simp [noE], by simp [noE]⟩

theorem ok_PlanTells (r : List Pair) (bs : List (List Deed)) (p : List Int) (l : List Deed) (hrl : r.length ≤ 1048576) (hrk : ∀ q ∈ r, q.key.length ≤ 1073741824) (hb : ∀ b ∈ bs, b.length ≤ 1048576 ∧ ∀ d ∈ b, d.Sm) (hbl : bs.length ≤ 1048576) (hsum : sumLen bs ≤ 1048576) (hp : p.length ≤ 1048576)
    (hl : l.length ≤ 1048576) (hld : ∀ d ∈ l, d.Sm) :
    FnOk Tryz.prog 3 [.d (encRows r), .d (encBatches bs), .d (encInts p), .d (encDeeds l)] (.one (dbool true)) := by
  refine fnOk_of tbl_ok mixed_ok Tryz.func3 rfl (by kernel_rfl) rfl rfl fun w0 own0 => ?_
  have c1 := ok_wrongRows r (by omega) hrk
  by_cases hw : wrongRows r = 0
  · obtain ⟨hsrt, _, hok⟩ := wrongRows_srt hw
    have c2 := ok_rBuild r bs p hok (by omega) (fun b h => ⟨by have := (hb b h).1; omega, (hb b h).2⟩) (by omega) (by omega) (by omega)
    have hE : EInv (buildE r bs p) (r.length + 1 + 5 * sumLen bs) := EInv.buildGo (p := p) (newE_inv hok) (fun b h => (hb b h).2)
    have hS := build_srt hw bs p
    have hW := build_w hw bs p
    have hN0 := newE_inv hok
    have c3 := ok_pnew r (by omega)
    have c4 := ok_new r (by omega)
    have c5 := ok_sameE (newE r) (newE r) (hN0.z.sm (by omega))
    rw [sameE_refl] at c5
    generalize buildE r bs p = e at c2 hE hS hW
    have hz := hE.z.sm (by omega)
    have c6 := ok_padde e l _ hE hS hld (by omega) (by omega)
    have c7 := ok_addE e l _ hE.z hld (by omega) (by omega)
    have c8 := ok_sameE (addE e l).1 (addE e l).1 (addE_sm hE hld (by omega))
    rw [sameE_refl] at c8
    have c9 := ok_planOwn e hz
    have c10 := ok_sameE e e hz
    rw [sameE_refl] at c10
    have hdl := hz.d
    repeat (first | ((with_reducible apply s1); exact rfl) | (with_reducible first | apply CW.seq | apply CW.block | apply CW.region | apply CW.draw | apply CW.skip | apply CW.exit | apply CW.ret | apply q_then | apply q_then_exit | apply q_then_ret | apply q_block | apply q_block_ret | apply q_block_hit | apply q_ret | apply q_end | apply q_loop_exit | apply q_loop_ret | apply q_loopT_exit | apply q_loopT_ret | apply RW.nil) | ((with_reducible apply s3); exact rfl; exact by_k) | ((with_reducible apply s2); exact rfl; exact by_k) | ((with_reducible apply s4); exact rfl) | ((with_reducible apply s5); (first | (focus ((with_reducible apply a_call); exact c1; exact rfl; (repeat (first | exact SubsE.nil | (apply SubsE.cons; exact rfl; (first | exact .d (.refl _) | exact .d (.nil _) | exact .agg rfl (.refl _) | exact .pd | exact .ptr rfl); (first | exact trivial | exact ⟨rfl, trivial⟩)))); done)) | (focus ((with_reducible apply a_call); exact c2; exact rfl; (repeat (first | exact SubsE.nil | (apply SubsE.cons; exact rfl; (first | exact .d (.refl _) | exact .d (.nil _) | exact .agg rfl (.refl _) | exact .pd | exact .ptr rfl); (first | exact trivial | exact ⟨rfl, trivial⟩)))); done)) | (focus ((with_reducible apply a_call); exact c3; exact rfl; (repeat (first | exact SubsE.nil | (apply SubsE.cons; exact rfl; (first | exact .d (.refl _) | exact .d (.nil _) | exact .agg rfl (.refl _) | exact .pd | exact .ptr rfl); (first | exact trivial | exact ⟨rfl, trivial⟩)))); done)) | (focus ((with_reducible apply a_call); exact c4; exact rfl; (repeat (first | exact SubsE.nil | (apply SubsE.cons; exact rfl; (first | exact .d (.refl _) | exact .d (.nil _) | exact .agg rfl (.refl _) | exact .pd | exact .ptr rfl); (first | exact trivial | exact ⟨rfl, trivial⟩)))); done)) | (focus ((with_reducible apply a_call); exact c5; exact rfl; (repeat (first | exact SubsE.nil | (apply SubsE.cons; exact rfl; (first | exact .d (.refl _) | exact .d (.nil _) | exact .agg rfl (.refl _) | exact .pd | exact .ptr rfl); (first | exact trivial | exact ⟨rfl, trivial⟩)))); done)) | (focus ((with_reducible apply a_call); exact c6; exact rfl; (repeat (first | exact SubsE.nil | (apply SubsE.cons; exact rfl; (first | exact .d (.refl _) | exact .d (.nil _) | exact .agg rfl (.refl _) | exact .pd | exact .ptr rfl); (first | exact trivial | exact ⟨rfl, trivial⟩)))); done)) | (focus ((with_reducible apply a_call); exact c7; exact rfl; (repeat (first | exact SubsE.nil | (apply SubsE.cons; exact rfl; (first | exact .d (.refl _) | exact .d (.nil _) | exact .agg rfl (.refl _) | exact .pd | exact .ptr rfl); (first | exact trivial | exact ⟨rfl, trivial⟩)))); done)) | (focus ((with_reducible apply a_call); exact c8; exact rfl; (repeat (first | exact SubsE.nil | (apply SubsE.cons; exact rfl; (first | exact .d (.refl _) | exact .d (.nil _) | exact .agg rfl (.refl _) | exact .pd | exact .ptr rfl); (first | exact trivial | exact ⟨rfl, trivial⟩)))); done)) | (focus ((with_reducible apply a_call); exact c9; exact rfl; (repeat (first | exact SubsE.nil | (apply SubsE.cons; exact rfl; (first | exact .d (.refl _) | exact .d (.nil _) | exact .agg rfl (.refl _) | exact .pd | exact .ptr rfl); (first | exact trivial | exact ⟨rfl, trivial⟩)))); done)) | (focus ((with_reducible apply a_call); exact c10; exact rfl; (repeat (first | exact SubsE.nil | (apply SubsE.cons; exact rfl; (first | exact .d (.refl _) | exact .d (.nil _) | exact .agg rfl (.refl _) | exact .pd | exact .ptr rfl); (first | exact trivial | exact ⟨rfl, trivial⟩)))); done)) | ((with_reducible apply a_bin); (iterate 2 exact rfl); (first | exact bin_bneq (by kernel_rfl) | exact bin_beql (by kernel_rfl)); exact rfl) | exact by_oa); exact by_g) | ((with_reducible apply CW.cond_t); exact rfl; exact by_ks) | ((with_reducible apply CW.cond_f); exact rfl; exact by_ks) | ((with_reducible apply q_block_miss); exact rfl) | (refine And.intro (show chk [] [] _ _ = true by kernel_rfl) ?_))
    refine CW.loopT (fun t : Nat => [sp 9 0, ob 0 e.enc, sd 58 (encDeeds e.deeds), sd 59 (dint e.deeds.length), sd 60 (dint t), nxt 1])
      (fun t => t ≤ e.deeds.length) (fun t => e.deeds.length - t) 0 (by omega) ?_ ?_
    ·
      exact by_less
    · intro i hi
      rcases drop_case hi with ⟨h1, h2⟩ | ⟨d, h1, h2, h3⟩
      ·
        repeat (first | ((with_reducible apply s1); exact rfl) | (with_reducible first | apply CW.seq | apply CW.block | apply CW.region | apply CW.draw | apply CW.skip | apply CW.exit | apply CW.ret | apply q_then | apply q_then_exit | apply q_then_ret | apply q_block | apply q_block_ret | apply q_block_hit | apply q_ret | apply q_end | apply q_loop_exit | apply q_loop_ret | apply q_loopT_exit | apply q_loopT_ret | apply RW.nil) | ((with_reducible apply s3); exact rfl; exact by_k) | ((with_reducible apply s2); exact rfl; exact by_k) | ((with_reducible apply s4); exact rfl) | ((with_reducible apply s5); (first | exact by_oa); exact by_g) | ((with_reducible apply CW.cond_t); exact rfl; exact by_ks) | ((with_reducible apply CW.cond_f); exact rfl; exact by_ks) | ((with_reducible apply q_block_miss); exact rfl) | (refine And.intro (show chk [] [] _ _ = true by kernel_rfl) ?_))
        exact .one (.tmp rfl (.one (.d (.refl _))))
      · have hdm := List.mem_of_getElem? h2
        have hds := hz.dd d hdm
        have hnd := (wrong_keys (hW.d d hdm)).1
        have k1 := ok_pneeds e i d hz h2 hnd hS.k hW.nb
        have k2 := ok_needs e i d hz h2
        have hnl : (needs e i d).length ≤ 268435456 := by
          have := needs_len e.chains e.base (e.base + i) (keysD d) (List.range i) 0
          unfold needs
          simp at this
          omega
        have k3 := ok_SameInts (needs e i d) (needs e i d) (by omega)
        rw [allB_refl (by simp)] at k3
        have k4 := ok_pkeys d hnd hds.r hds.w
        have k5 := ok_keys d hds.r hds.w
        have k6 := ok_SameTexts (keysD d) (keysD d) (by have := keysD_len hds; omega)
        rw [allB_refl (by simp)] at k6
        repeat (first | ((with_reducible apply s1); exact rfl) | (with_reducible first | apply CW.seq | apply CW.block | apply CW.region | apply CW.draw | apply CW.skip | apply CW.exit | apply CW.ret | apply q_then | apply q_then_exit | apply q_then_ret | apply q_block | apply q_block_ret | apply q_block_hit | apply q_ret | apply q_end | apply q_loop_exit | apply q_loop_ret | apply q_loopT_exit | apply q_loopT_ret | apply RW.nil) | ((with_reducible apply s3); exact rfl; exact by_k) | ((with_reducible apply s2); exact rfl; exact by_k) | ((with_reducible apply s4); exact rfl) | ((with_reducible apply s5); (first | (focus ((with_reducible apply a_call); exact k1; exact rfl; (repeat (first | exact SubsE.nil | (apply SubsE.cons; exact rfl; (first | exact .d (.refl _) | exact .d (.nil _) | exact .agg rfl (.refl _) | exact .pd | exact .ptr rfl); (first | exact trivial | exact ⟨rfl, trivial⟩)))); done)) | (focus ((with_reducible apply a_call); exact k2; exact rfl; (repeat (first | exact SubsE.nil | (apply SubsE.cons; exact rfl; (first | exact .d (.refl _) | exact .d (.nil _) | exact .agg rfl (.refl _) | exact .pd | exact .ptr rfl); (first | exact trivial | exact ⟨rfl, trivial⟩)))); done)) | (focus ((with_reducible apply a_call); exact k3; exact rfl; (repeat (first | exact SubsE.nil | (apply SubsE.cons; exact rfl; (first | exact .d (.refl _) | exact .d (.nil _) | exact .agg rfl (.refl _) | exact .pd | exact .ptr rfl); (first | exact trivial | exact ⟨rfl, trivial⟩)))); done)) | (focus ((with_reducible apply a_call); exact k4; exact rfl; (repeat (first | exact SubsE.nil | (apply SubsE.cons; exact rfl; (first | exact .d (.refl _) | exact .d (.nil _) | exact .agg rfl (.refl _) | exact .pd | exact .ptr rfl); (first | exact trivial | exact ⟨rfl, trivial⟩)))); done)) | (focus ((with_reducible apply a_call); exact k5; exact rfl; (repeat (first | exact SubsE.nil | (apply SubsE.cons; exact rfl; (first | exact .d (.refl _) | exact .d (.nil _) | exact .agg rfl (.refl _) | exact .pd | exact .ptr rfl); (first | exact trivial | exact ⟨rfl, trivial⟩)))); done)) | (focus ((with_reducible apply a_call); exact k6; exact rfl; (repeat (first | exact SubsE.nil | (apply SubsE.cons; exact rfl; (first | exact .d (.refl _) | exact .d (.nil _) | exact .agg rfl (.refl _) | exact .pd | exact .ptr rfl); (first | exact trivial | exact ⟨rfl, trivial⟩)))); done)) | ((with_reducible apply a_bin); (iterate 2 exact rfl); (first | exact bin_bneq (by kernel_rfl) | exact bin_beql (by kernel_rfl)); exact rfl) | exact by_oa); exact by_g) | ((with_reducible apply CW.cond_t); exact rfl; exact by_ks) | ((with_reducible apply CW.cond_f); exact rfl; exact by_ks) | ((with_reducible apply q_block_miss); exact rfl) | (refine And.intro (show chk [] [] _ _ = true by kernel_rfl) ?_))
        refine q_loopT (i + 1) (by omega) (by omega) ?_
        exact by_less
  ·
    repeat (first | ((with_reducible apply s1); exact rfl) | (with_reducible first | apply CW.seq | apply CW.block | apply CW.region | apply CW.draw | apply CW.skip | apply CW.exit | apply CW.ret | apply q_then | apply q_then_exit | apply q_then_ret | apply q_block | apply q_block_ret | apply q_block_hit | apply q_ret | apply q_end | apply q_loop_exit | apply q_loop_ret | apply q_loopT_exit | apply q_loopT_ret | apply RW.nil) | ((with_reducible apply s3); exact rfl; exact by_k) | ((with_reducible apply s2); exact rfl; exact by_k) | ((with_reducible apply s4); exact rfl) | ((with_reducible apply s5); (first | (focus ((with_reducible apply a_call); exact c1; exact rfl; (repeat (first | exact SubsE.nil | (apply SubsE.cons; exact rfl; (first | exact .d (.refl _) | exact .d (.nil _) | exact .agg rfl (.refl _) | exact .pd | exact .ptr rfl); (first | exact trivial | exact ⟨rfl, trivial⟩)))); done)) | exact by_oa); exact by_g) | ((with_reducible apply CW.cond_t); exact rfl; exact by_ks) | ((with_reducible apply CW.cond_f); exact rfl; exact by_ks) | ((with_reducible apply q_block_miss); exact rfl) | (refine And.intro (show chk [] [] _ _ = true by kernel_rfl) ?_))
    exact .one (.tmp rfl (.one (.d (.refl _))))

end Go.Proofs.YtjgbmdonhabmiaaGreatDoor
