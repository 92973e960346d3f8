/-
  Part 6 of what the claim leans on: P7 P9 P10 P11 P12 G24 F4 L1 L6 G25 AxStr Tx H1 ShNum H2 H3 H4 H5 AxPdA L12 P13 AxMapI L13.
-/
import Derived.Test.YtembfadhnkabhaaGreatDoorK5
import Derived.Lib.AtoiAll
import Derived.Lib.ItoaNum
import Derived.Shelf.Strconv.AtoiAll
import Derived.Shelf.Strconv.Itoa3
import Derived.Test.YtembfadhnkabhaaGreatDoorProg

/-! P7 -/
/-
  Engines as they are built: what is not made is of deeds that wait; what has nothing is nothing. The program's Go comes to the references'.
-/
namespace Go.Proofs.YtembfadhnkabhaaGreatDoor
open Go.AX Go.RF

structure WInv (e : Engine) : Prop where
  d : ∀ d ∈ e.deeds, wrongDeed d = 0
  n : ∀ c ∈ e.chains, ∀ v ∈ c.vs, v.made = false → ∃ (k : Nat) (x : Deed), v.by_ = e.base + k ∧ e.state[k]? = some 0 ∧ e.deeds[k]? = some x ∧ c.key ∈ x.writes
  h : ∀ c ∈ e.chains, ∀ v ∈ c.vs, v.has = false → v.n = 0
  l : e.state.length = e.deeds.length

theorem newE_w (r : List Pair) : WInv (newE r) := by
  have h0 : ∀ c ∈ (newE r).chains, ∀ v ∈ c.vs, v.made = true ∧ v.has = true := by
    intro c hc v hv
    obtain ⟨p, _, rfl⟩ := List.mem_map.1 hc
    simp [rowChain] at hv
    subst hv; exact ⟨rfl, rfl⟩
  refine ⟨by simp [newE], fun c hc v hv hm => ?_, fun c hc v hv hm => ?_, rfl⟩
  · rw [(h0 c hc v hv).1] at hm; cases hm
  · rw [(h0 c hc v hv).2] at hm; cases hm
theorem addKeys_mem {b : Int} : ∀ {ks : List Str} {l : List Chain}, Srt Chain.key l → ∀ c ∈ addKeys b l ks, ∀ v ∈ c.vs, (∃ c0 ∈ l, c0.key = c.key ∧ v ∈ c0.vs) ∨ (v = newV b ∧ c.key ∈ ks)
  | [], l, _, c, hc, v, hv => .inl ⟨c, hc, rfl, hv⟩
  | k :: ks, l, hs, c, hc, v, hv => by
    simp only [addKeys] at hc
    rw [addC_srt hs] at hc
    rcases addKeys_mem (addS_srt hs) c hc v hv with ⟨c0, h0, h1, h2⟩ | ⟨h1, h2⟩
    · rcases addS_mem h0 with h3 | rfl | ⟨c1, h3, h4, rfl⟩
      · exact .inl ⟨c0, h3, h1, h2⟩
      · simp at h2
        exact .inr ⟨h2, by rw [← h1]; exact List.mem_cons_self ..⟩
      · rcases List.mem_append.1 h2 with h2 | h2
        · exact .inl ⟨c1, h3, by rw [h4]; exact h1, h2⟩
        · simp at h2
          exact .inr ⟨h2, by rw [← h1]; exact List.mem_cons_self ..⟩
    · exact .inr ⟨h1, List.mem_cons_of_mem _ h2⟩
theorem WInv.add1 {e : Engine} (h : WInv e) (hs : SInv e) {d : Deed} (hd : wrongDeed d = 0) : WInv (add1 e d) := by
  have hlt : ∀ (k : Nat) (x : Deed), e.deeds[k]? = some x → k < e.deeds.length := fun k x hx => (List.getElem?_eq_some_iff.1 hx).1
  refine ⟨fun x hx => ?_, fun c hc v hv hm => ?_, fun c hc v hv hm => ?_, ?_⟩
  · rcases List.mem_append.1 hx with hx | hx
    · exact h.d x hx
    · simp at hx; subst hx; exact hd
  · rcases addKeys_mem hs.k c hc v hv with ⟨c0, h0, h1, h2⟩ | ⟨rfl, h2⟩
    · obtain ⟨k, x, h3, h4, h5, h6⟩ := h.n c0 h0 v h2 hm
      have := hlt k x h5
      refine ⟨k, x, h3, ?_, ?_, by rw [← h1]; exact h6⟩
      · show (e.state ++ [0])[k]? = _
        rw [List.getElem?_append_left (by rw [h.l]; exact this)]; exact h4
      · show (e.deeds ++ [d])[k]? = _
        rw [List.getElem?_append_left this]; exact h5
    · refine ⟨e.deeds.length, d, rfl, ?_, ?_, h2⟩
      · show (e.state ++ [0])[e.deeds.length]? = _
        rw [← h.l]; simp
      · show (e.deeds ++ [d])[e.deeds.length]? = _
        simp
  · rcases addKeys_mem hs.k c hc v hv with ⟨c0, h0, h1, h2⟩ | ⟨rfl, h2⟩
    · exact h.h c0 h0 v h2 hm
    · rfl
  · show (e.state ++ [0]).length = (e.deeds ++ [d]).length
    simp [h.l]
theorem WInv.addAll : ∀ {l : List Deed} {e : Engine}, WInv e → SInv e → (∀ d ∈ l, wrongDeed d = 0) → WInv (addAll e l)
  | [], e, h, _, _ => h
  | d :: l, e, h, hs, hl => by
    simp only [RF.addAll]
    have hd := hl d (List.mem_cons_self ..)
    exact WInv.addAll (h.add1 hs hd) (hs.add1 (wrong_keys hd).2) fun x hx => hl x (List.mem_cons_of_mem _ hx)
theorem WInv.addE {e : Engine} (h : WInv e) (hs : SInv e) {l : List Deed} (hw : (addE e l).2 = 0) : WInv (addE e l).1 := by
  unfold RF.addE at hw ⊢
  by_cases h0 : wrongs l = 0
  · rw [if_pos h0]
    exact h.addAll hs fun d hd => wrongs_mem h0 d hd
  · rw [if_neg h0] at hw; exact absurd hw h0

theorem get_none0 {k : Str} : ∀ {r : List Pair}, (RF.get r k).2 = false → (RF.get r k).1 = 0
  | [], _ => rfl
  | p :: r, h => by
    simp only [RF.get] at h ⊢
    by_cases hp : p.key = k
    · rw [if_pos hp] at h; cases h
    · rw [if_neg hp] at h ⊢; exact get_none0 h
theorem goSets_mem {r : List Pair} {b : Int} : ∀ {ks : List Str} {l : List Chain}, ∀ c ∈ goSets r b l ks, ∀ v ∈ c.vs,
    (∃ c0 ∈ l, c0.key = c.key ∧ v ∈ c0.vs ∧ (v.by_ = b → c.key ∉ ks)) ∨ (v.made = true ∧ (v.has = false → v.n = 0))
  | [], l, c, hc, v, hv => .inl ⟨c, hc, rfl, hv, fun _ => by simp⟩
  | k :: ks, l, c, hc, v, hv => by
    simp only [goSets] at hc
    rcases goSets_mem c hc v hv with ⟨c0, h0, h1, h2, h3⟩ | h1
    · obtain ⟨c1, h4, rfl⟩ := List.mem_map.1 h0
      obtain ⟨w, h5, rfl⟩ := List.mem_map.1 h2
      by_cases hh : decide (c1.key = k) = true ∧ w.by_ = b
      · refine .inr ?_
        have e : setV (decide (c1.key = k)) ⟨b, true, (RF.get r k).2, (RF.get r k).1⟩ w = ⟨b, true, (RF.get r k).2, (RF.get r k).1⟩ := by unfold setV; rw [if_pos hh]
        rw [e]
        exact ⟨rfl, get_none0⟩
      · have e : setV (decide (c1.key = k)) ⟨b, true, (RF.get r k).2, (RF.get r k).1⟩ w = w := by unfold setV; rw [if_neg hh]
        rw [e] at h3 ⊢
        refine .inl ⟨c1, h4, h1, h5, fun hb => ?_⟩
        have h6 := h3 hb
        intro hm
        rcases List.mem_cons.1 hm with hm | hm
        · exact hh ⟨by simp [show c1.key = c.key from h1, hm], hb⟩
        · exact h6 hm
    · exact .inr h1
theorem WInv.goNew {e : Engine} (h : WInv e) (A : Nat) (d : Deed) (hd : e.deeds[A]? = some d) : WInv (goNew e A d) := by
  refine ⟨h.d, fun c hc v hv hm => ?_, fun c hc v hv hm => ?_, ?_⟩
  · rcases goSets_mem c hc v hv with ⟨c0, h0, h1, h2, h3⟩ | h1
    · obtain ⟨k, x, h4, h5, h6, h7⟩ := h.n c0 h0 v h2 hm
      by_cases hk : k = A
      · subst hk
        rw [hd] at h6
        cases h6
        exact absurd (h1 ▸ h7) (h3 h4)
      · refine ⟨k, x, h4, ?_, h6, by rw [← h1]; exact h7⟩
        show (e.state.set A 1)[k]? = _
        rw [List.getElem?_set_ne (fun e => hk e.symm)]; exact h5
    · rw [h1.1] at hm; cases hm
  · rcases goSets_mem c hc v hv with ⟨c0, h0, h1, h2, h3⟩ | h1
    · exact h.h c0 h0 v h2 hm
    · exact h1.2 hm
  · show (e.state.set A 1).length = _
    rw [List.length_set]; exact h.l
theorem WInv.goE {e : Engine} (h : WInv e) (at_ : Int) : WInv (goE e at_).1 := by
  unfold Proofs.YtembfadhnkabhaaGreatDoor.goE
  split
  · exact h
  unfold goAt
  cases hA : e.deeds[at_.toNat]? with
  | none => exact h
  | some d =>
    dsimp only
    split
    · exact h
    split
    · exact h.goNew _ _ hA
    · exact h
theorem markN_one : ∀ {s : List Int} {j : Nat}, j < markN s → s[j]? = some 1
  | [], j, h => by simp [markN] at h
  | x :: s, j, h => by
    simp only [markN] at h
    by_cases hx : x = 1
    · rw [if_pos hx] at h
      cases j with
      | zero => simp [hx]
      | succ j => simpa using markN_one (s := s) (j := j) (by omega)
    · rw [if_neg hx] at h; omega
theorem WInv.clearE {e : Engine} (h : WInv e) : WInv (clearE e) := by
  refine ⟨fun d hd => h.d d (List.mem_of_mem_drop hd), fun c hc v hv hm => ?_, fun c hc v hv hm => ?_, ?_⟩
  · obtain ⟨c0, h0, rfl⟩ := clear_mem hc
    obtain ⟨k, x, h1, h2, h3, h4⟩ := h.n c0 h0 v (clrV_sub hv) hm
    have hk : markN e.state ≤ k := by
      rcases Nat.lt_or_ge k (markN e.state) with hlt | hge
      · have := markN_one hlt
        rw [h2] at this; cases this
      · exact hge
    refine ⟨k - markN e.state, x, ?_, ?_, ?_, h4⟩
    · show v.by_ = e.base + markN e.state + ((k - markN e.state : Nat) : Int)
      omega
    · show (e.state.drop (markN e.state))[k - markN e.state]? = _
      rw [List.getElem?_drop, show markN e.state + (k - markN e.state) = k by omega]; exact h2
    · show (e.deeds.drop (markN e.state))[k - markN e.state]? = _
      rw [List.getElem?_drop, show markN e.state + (k - markN e.state) = k by omega]; exact h3
  · obtain ⟨c0, h0, rfl⟩ := clear_mem hc
    exact h.h c0 h0 v (clrV_sub hv) hm
  · show (e.state.drop _).length = (e.deeds.drop _).length
    simp [h.l]
theorem WInv.pickE {e : Engine} (h : WInv e) (n : Int) : WInv (pickE e n) := by
  unfold Proofs.YtembfadhnkabhaaGreatDoor.pickE
  split
  · exact h.clearE
  split
  · exact h
  split
  · exact h.goE _
  · exact h
theorem WInv.batchE {e : Engine} (h : WInv e) (hs : SInv e) (b : List Deed) : WInv (batchE e b) := by
  unfold Proofs.YtembfadhnkabhaaGreatDoor.batchE
  split
  · next hw => exact h.addE hs hw
  · exact h
theorem WInv.pickGo : ∀ {k : Nat} {e : Engine} {p : List Int}, WInv e → WInv (pickGo k e p).1
  | 0, e, p, h => h
  | k + 1, e, [], h => h
  | k + 1, e, n :: p, h => by
    simp only [Proofs.YtembfadhnkabhaaGreatDoor.pickGo]
    exact WInv.pickGo (h.pickE n)
theorem WInv.buildGo : ∀ {bs : List (List Deed)} {e : Engine} {p : List Int}, WInv e → SInv e → WInv (buildGo e bs p)
  | [], e, p, h, _ => h
  | b :: bs, e, p, h, hs => by
    simp only [Proofs.YtembfadhnkabhaaGreatDoor.buildGo]
    exact WInv.buildGo ((h.batchE hs b).pickGo) ((hs.batchE b).pickGo)
/-! ### Before -/
theorem bvs_mem {h : Bool} {b : Int} : ∀ {l : List Version} {out : Version}, bvs h b out l = out ∨ (h = true ∧ bvs h b out l ∈ l ∧ (bvs h b out l).by_ < b)
  | [], out => .inl rfl
  | v :: l, out => by
    simp only [bvs]
    rcases bvs_mem (h := h) (b := b) (l := l) (out := if h && decide (v.by_ < b) then v else out) with e | ⟨h1, h2, h3⟩
    · rw [e]
      by_cases hc : (h && decide (v.by_ < b)) = true
      · rw [if_pos hc]
        simp only [Bool.and_eq_true, decide_eq_true_eq] at hc
        exact .inr ⟨hc.1, List.mem_cons_self .., hc.2⟩
      · rw [if_neg hc]; exact .inl rfl
    · exact .inr ⟨h1, List.mem_cons_of_mem _ h2, h3⟩
theorem beforeGo_mem {k : Str} {b : Int} : ∀ {l : List Chain} {out : Version}, beforeGo k b out l = out ∨ ∃ c ∈ l, c.key = k ∧ beforeGo k b out l ∈ c.vs ∧ (beforeGo k b out l).by_ < b
  | [], out => .inl rfl
  | c :: l, out => by
    simp only [beforeGo]
    rcases beforeGo_mem (k := k) (b := b) (l := l) (out := bvs (decide (c.key = k)) b out c.vs) with e | ⟨c', h1, h2⟩
    · rw [e]
      rcases bvs_mem (h := decide (c.key = k)) (b := b) (l := c.vs) (out := out) with e2 | ⟨h1, h2, h3⟩
      · exact .inl e2
      · exact .inr ⟨c, List.mem_cons_self .., by simpa using h1, h2, h3⟩
    · exact .inr ⟨c', List.mem_cons_of_mem _ h1, h2⟩
theorem before_mem (l : List Chain) (k : Str) (b : Int) : before l k b = noV ∨ ∃ c ∈ l, c.key = k ∧ before l k b ∈ c.vs ∧ (before l k b).by_ < b := beforeGo_mem
theorem WInv.nb {e : Engine} (h : WInv e) : NB e := by
  intro at_ k hm
  rcases before_mem e.chains k (e.base + at_) with h1 | ⟨c, h1, h2, h3, h4⟩
  · rw [h1] at hm; cases hm
  · obtain ⟨j, x, h5, _⟩ := h.n c h1 _ h3 hm
    exact ⟨by omega, h4⟩
theorem WInv.bh {e : Engine} (h : WInv e) (k : Str) (b : Int) : (before e.chains k b).has = false → (before e.chains k b).n = 0 := by
  intro hm
  rcases before_mem e.chains k b with h1 | ⟨c, h1, h2, h3, h4⟩
  · rw [h1]; rfl
  · exact h.h c h1 _ h3 hm

/-! ### A deed that is done -/
theorem keysGo'_mem {k : Str} : ∀ {l out : List Str}, k ∈ keysGo' out l ↔ k ∈ out ∨ k ∈ l
  | [], out => by simp [keysGo']
  | x :: l, out => by
    simp only [keysGo']
    rw [keysGo'_mem]
    by_cases h : isIn out x = true
    · rw [if_pos h]
      have := isIn_true h
      constructor
      · rintro (h1 | h1)
        · exact .inl h1
        · exact .inr (List.mem_cons_of_mem _ h1)
      · rintro (h1 | h1)
        · exact .inl h1
        · rcases List.mem_cons.1 h1 with rfl | h1
          · exact .inl this
          · exact .inr h1
    · rw [if_neg h]
      simp [or_assoc]
theorem goRows_get {cs : List Chain} {b : Int} : ∀ {ks : List Str} {r : List Pair}, Srt Pair.key r → Srt Pair.key (goRows cs b r ks) ∧ ∀ k, RF.get (goRows cs b r ks) k = if k ∈ ks ∧ (before cs k b).has = true then ((before cs k b).n, true) else RF.get r k
  | [], r, h => ⟨h, fun k => by simp [goRows]⟩
  | x :: ks, r, h => by
    simp only [goRows]
    by_cases hx : (before cs x b).has = true
    · rw [if_pos hx, put_true h]
      obtain ⟨h1, h2⟩ := goRows_get (cs := cs) (b := b) (ks := ks) (putS_srt (k := x) (n := (before cs x b).n) h)
      refine ⟨h1, fun k => ?_⟩
      rw [h2 k, get_put]
      by_cases hk : k ∈ ks ∧ (before cs k b).has = true
      · rw [if_pos hk, if_pos ⟨List.mem_cons_of_mem _ hk.1, hk.2⟩]
      · rw [if_neg hk]
        by_cases he : x = k
        · subst he
          rw [if_pos rfl, if_pos ⟨List.mem_cons_self .., hx⟩]
        · rw [if_neg he, if_neg]
          rintro ⟨h3, h4⟩
          rcases List.mem_cons.1 h3 with h3 | h3
          · exact he h3.symm
          · exact hk ⟨h3, h4⟩
    · rw [if_neg hx]
      obtain ⟨h1, h2⟩ := goRows_get (cs := cs) (b := b) (ks := ks) h
      refine ⟨h1, fun k => ?_⟩
      rw [h2 k]
      by_cases hk : k ∈ ks ∧ (before cs k b).has = true
      · rw [if_pos hk, if_pos ⟨List.mem_cons_of_mem _ hk.1, hk.2⟩]
      · rw [if_neg hk, if_neg]
        rintro ⟨h3, h4⟩
        rcases List.mem_cons.1 h3 with h3 | h3
        · subst h3; exact hx h4
        · exact hk ⟨h3, h4⟩
theorem pickV_chg {k : Str} {m : Mk} : ∀ {ws : List Str} {v : Version}, pickV k v (chg m ws) = match mG m k with
    | some c => if k ∈ ws then chVer (k, c) else v
    | none => v
  | [], v => by
    simp only [chg, pickV]
    split <;> simp
  | x :: ws, v => by
    simp only [chg]
    cases hx : mG m x with
    | none =>
      dsimp only
      rw [pickV_chg]
      cases hk : mG m k with
      | none => rfl
      | some c =>
        have hne : ¬ k = x := fun e => by subst e; rw [hx] at hk; cases hk
        dsimp only
        by_cases hw : k ∈ ws
        · rw [if_pos hw, if_pos (List.mem_cons_of_mem _ hw)]
        · rw [if_neg hw, if_neg (by simp [hne, hw])]
    | some c =>
      simp only [pickV]
      rw [pickV_chg]
      by_cases he : x = k
      · subst he
        rw [hx, if_pos rfl]
        dsimp only
        rw [if_pos (List.mem_cons_self ..)]
        simp
      · rw [if_neg he]
        have hne : ¬ k = x := fun e => he e.symm
        cases hk : mG m k with
        | none => rfl
        | some c' =>
          dsimp only
          by_cases hw : k ∈ ws
          · rw [if_pos hw, if_pos (List.mem_cons_of_mem _ hw)]
          · rw [if_neg hw, if_neg (by simp [hne, hw])]
theorem pgoSets_eq {cs0 : List Chain} {b : Int} {ch : List (Str × (Bool × Int))} {R : List Pair} : ∀ {ks : List Str} {cs : List Chain}, (∀ k ∈ ks, madeV cs0 b ch k = ⟨b, true, (RF.get R k).2, (RF.get R k).1⟩) → pgoSets cs0 b ch cs ks = goSets R b cs ks
  | [], cs, _ => rfl
  | k :: ks, cs, h => by
    simp only [pgoSets, goSets]
    rw [h k (List.mem_cons_self ..)]
    exact pgoSets_eq fun x hx => h x (List.mem_cons_of_mem _ hx)
theorem pgoNew_eq {e : Engine} (h : WInv e) {A : Nat} {d : Deed} (hd : e.deeds[A]? = some d) : pgoNew e A d = goNew e A d := by
  have hw := h.d d (List.mem_of_getElem? hd)
  obtain ⟨hs0, hget⟩ := goRows_get (cs := e.chains) (b := e.base + A) (ks := keysD d) (r := []) List.Pairwise.nil
  have hkd : ∀ k, k ∈ d.reads ∨ k ∈ d.writes → RF.get (goRows e.chains (e.base + A) [] (keysD d)) k = viewE e.chains (e.base + A) k := fun k hk => by
    have hm : k ∈ keysD d := by
      unfold keysD
      rw [keysGo'_mem]
      exact .inr (by simpa using hk)
    rw [hget k]
    unfold viewE
    cases hh : (before e.chains k (e.base + A)).has with
    | true => rw [if_pos ⟨hm, rfl⟩]
    | false =>
      rw [if_neg (by simp), h.bh k _ hh]
      rfl
  have hrun : runM (viewE e.chains (e.base + A)) d = runM (RF.get (goRows e.chains (e.base + A) [] (keysD d))) d :=
    runGo_congr fun i hi hk => by rw [hkd i.key (.inl (wrong_reads hw i hi hk))]
  have hrunC : runC (viewE e.chains (e.base + A)) d = runC (RF.get (goRows e.chains (e.base + A) [] (keysD d))) d := by unfold runC; rw [hrun]
  unfold pgoNew goNew goDone
  rw [hrunC, hrun]
  generalize hr0 : goRows e.chains (e.base + A) [] (keysD d) = r0 at hs0 hkd
  have hpl := plain_do hs0 (wrong_keyed hw)
  rw [← hpl]
  unfold plainD
  dsimp only
  congr 1
  refine pgoSets_eq fun k hk => ?_
  obtain ⟨h1, h2, h3⟩ := run_do (r := r0) (W := d.writes) (l := d.code) (sk := 0) (m := []) (e := done0) (now := r0) ⟨hs0, fun k => rfl, fun k c h => by simp [mG] at h, fun k c h => by simp [mG] at h⟩ rfl (wrong_keyed hw)
  unfold madeV
  have key : (RF.get (appC r0 (runC (RF.get r0) d)) k).2 = (pickV k (before e.chains k (e.base + A)) (runC (RF.get r0) d)).has ∧ (RF.get (appC r0 (runC (RF.get r0) d)) k).1 = (pickV k (before e.chains k (e.base + A)) (runC (RF.get r0) d)).n := by
    unfold runC
    by_cases hf : (runM (RF.get r0) d).2.failed = true
    · rw [if_pos hf]
      simp only [appC, pickV]
      rw [hkd k (.inr hk)]
      exact ⟨rfl, rfl⟩
    · rw [if_neg hf, appC_get hs0, if_pos hk, pickV_chg]
      have hf' : (doGo r0 0 r0 done0 d.code).2.failed = false := by rw [← h1]; exact Bool.eq_false_iff.2 hf
      have hmi := h3 hf'
      unfold chAt
      have hmm : (runM (RF.get r0) d).1 = (runGo (RF.get r0) 0 [] done0 d.code).1 := rfl
      cases hm : mG (runM (RF.get r0) d).1 k with
      | none =>
        dsimp only
        rw [hkd k (.inr hk)]
        exact ⟨rfl, rfl⟩
      | some c =>
        dsimp only
        rw [if_pos hk]
        unfold chOf chVer
        by_cases hc : c.1 = true
        · rw [if_pos hc]
          exact ⟨hc.symm, rfl⟩
        · rw [if_neg hc]
          have hc' : c.1 = false := Bool.eq_false_iff.2 hc
          exact ⟨hc'.symm, (hmi.f k c (by rw [← hmm]; exact hm) hc').symm⟩
  rw [key.1, key.2]

end Go.Proofs.YtembfadhnkabhaaGreatDoor

/-! P9 -/
/-
  Deeds that fail, deeds apart: plain laws.
-/
namespace Go.Proofs.YtembfadhnkabhaaGreatDoor
open Go.AX Go.RF

theorem do_get {r : List Pair} {d : Deed} (hs : Srt Pair.key r) (hw : wrongDeed d = 0) (k : Str) :
    RF.get (doD r d).1 k = if (runM (RF.get r) d).2.failed = true then RF.get r k else if k ∈ d.writes then chAt r (runM (RF.get r) d).1 k else RF.get r k := by
  rw [← plain_do hs (wrong_keyed hw)]
  unfold plainD runC
  dsimp only
  by_cases hf : (runM (RF.get r) d).2.failed = true
  · rw [if_pos hf, if_pos hf]; rfl
  · rw [if_neg hf, if_neg hf, appC_get hs]
theorem do_end {r : List Pair} {d : Deed} (hs : Srt Pair.key r) (hw : wrongDeed d = 0) : (doD r d).2 = (runM (RF.get r) d).2 := by
  rw [← plain_do hs (wrong_keyed hw)]; rfl
theorem do_same {r : List Pair} {d : Deed} (hs : Srt Pair.key r) (hw : wrongDeed d = 0) {k : Str} (hk : k ∉ d.writes) : RF.get (doD r d).1 k = RF.get r k := by
  rw [do_get hs hw, if_neg hk, ite_self]
end Go.Proofs.YtembfadhnkabhaaGreatDoor

/-! P10 -/
/-
  Engines, and what deeds come to one by one.
-/
namespace Go.Proofs.YtembfadhnkabhaaGreatDoor
open Go.AX Go.RF

/-! ### Versions that are made -/
theorem setV_by (h : Bool) (v w : Version) : (setV h v w).by_ = w.by_ := by
  unfold setV
  split
  · next hh => exact hh.2.symm
  · rfl
theorem bvs_map {h hit : Bool} {x : Int} {v : Version} : ∀ {l : List Version} {out : Version}, bvs h x (setV hit v out) (l.map (setV hit v)) = setV hit v (bvs h x out l)
  | [], out => rfl
  | w :: l, out => by
    simp only [List.map_cons, bvs, setV_by]
    have e : (if (h && decide (w.by_ < x)) = true then setV hit v w else setV hit v out) = setV hit v (if (h && decide (w.by_ < x)) = true then w else out) := by split <;> rfl
    rw [e]
    exact bvs_map
theorem beforeGo_set {k : Str} {x : Int} {v : Version} : ∀ {l : List Chain} {out : Version}, beforeGo k x (setV true v out) (setChains l k v) = setV true v (beforeGo k x out l)
  | [], out => rfl
  | c :: l, out => by
    simp only [setChains, List.map_cons, beforeGo, setC]
    by_cases hk : c.key = k
    · rw [decide_eq_true hk, bvs_map]
      exact beforeGo_set (l := l)
    · rw [decide_eq_false hk, bvs_false, bvs_false]
      exact beforeGo_set (l := l)
theorem beforeGo_set_ne {k k' : Str} {x : Int} {v : Version} (hne : k ≠ k') : ∀ {l : List Chain} {out : Version}, beforeGo k x out (setChains l k' v) = beforeGo k x out l
  | [], out => rfl
  | c :: l, out => by
    simp only [setChains, List.map_cons, beforeGo, setC]
    by_cases hk : c.key = k
    · have hk' : ¬ c.key = k' := fun e => hne (hk.symm.trans e)
      have hid : c.vs.map (setV (decide (c.key = k')) v) = c.vs := by
        rw [decide_eq_false hk']
        exact (List.map_congr_left fun w _ => show setV false v w = w by unfold setV; simp).trans (List.map_id _)
      rw [hid]
      exact beforeGo_set_ne hne (l := l)
    · rw [decide_eq_false hk, bvs_false, bvs_false]
      exact beforeGo_set_ne hne (l := l)
theorem before_setG {l : List Chain} {k k' : Str} {x : Int} {v : Version} (hv : v.by_ ≠ -1) : before (setChains l k' v) k x = if k' = k then setV true v (before l k x) else before l k x := by
  unfold before
  by_cases h : k' = k
  · subst h
    rw [if_pos rfl, ← beforeGo_set]
    congr 1
    unfold setV
    rw [if_neg (fun e => hv e.2.symm)]
  · rw [if_neg h]
    exact beforeGo_set_ne (fun e => h e.symm)
/-- What a deed's doing makes of versions. -/
def doneV (r : List Pair) (b : Int) (k : Str) : Version := ⟨b, true, (RF.get r k).2, (RF.get r k).1⟩
theorem before_goSets {r : List Pair} {b : Int} (hb : b ≠ -1) {k : Str} {x : Int} : ∀ {ks : List Str} {l : List Chain}, before (goSets r b l ks) k x = if k ∈ ks ∧ (before l k x).by_ = b then doneV r b k else before l k x
  | [], l => by simp [goSets]
  | k' :: ks, l => by
    simp only [goSets]
    rw [before_goSets hb, before_setG hb]
    by_cases h : k' = k
    · subst h
      rw [if_pos rfl, setV_by]
      by_cases hx : (before l k' x).by_ = b
      · have e : setV true (⟨b, true, (RF.get r k').2, (RF.get r k').1⟩ : Version) (before l k' x) = doneV r b k' := by unfold setV; rw [if_pos ⟨rfl, hx⟩]; rfl
        rw [e, ite_self, if_pos ⟨List.mem_cons_self .., hx⟩]
      · rw [if_neg (fun e => hx e.2), if_neg (fun e => hx e.2)]
        unfold setV
        rw [if_neg (fun e => hx e.2)]
    · rw [if_neg h]
      by_cases hk : k ∈ ks ∧ (before l k x).by_ = b
      · rw [if_pos hk, if_pos ⟨List.mem_cons_of_mem _ hk.1, hk.2⟩]
      · rw [if_neg hk, if_neg]
        rintro ⟨h1, h2⟩
        rcases List.mem_cons.1 h1 with h1 | h1
        · exact h h1.symm
        · exact hk ⟨h1, h2⟩

/-! ### One by one -/
/-- Rows behind so many deeds. -/
def sq (r : List Pair) (l : List Deed) (i : Nat) : List Pair := (allD r (l.take i)).1
theorem allD_snoc : ∀ {l : List Deed} {r : List Pair} {d : Deed}, allD r (l ++ [d]) = ((doD (allD r l).1 d).1, (allD r l).2 ++ [(doD (allD r l).1 d).2])
  | [], r, d => rfl
  | x :: l, r, d => by simp only [List.cons_append, allD]; rw [allD_snoc]
theorem sq_succ {r : List Pair} {l : List Deed} {i : Nat} {d : Deed} (h : l[i]? = some d) : sq r l (i + 1) = (doD (sq r l i) d).1 := by
  unfold sq
  rw [List.take_add_one, h]
  show (allD r (l.take i ++ [d])).1 = _
  rw [allD_snoc]
theorem sq_srt {r : List Pair} {l : List Deed} (hs : Srt Pair.key r) (hw : ∀ d ∈ l, wrongDeed d = 0) : ∀ (i : Nat), Srt Pair.key (sq r l i)
  | 0 => hs
  | i + 1 => by
    cases h : l[i]? with
    | none =>
      have hle := List.getElem?_eq_none_iff.1 h
      have : sq r l (i + 1) = sq r l i := by unfold sq; rw [List.take_of_length_le (by omega), List.take_of_length_le hle]
      rw [this]; exact sq_srt hs hw i
    | some d =>
      rw [sq_succ h]
      exact doD_srt (sq_srt hs hw i) (wrong_keyed (hw d (List.mem_of_getElem? h)))
theorem sq_append {r : List Pair} {l m : List Deed} {i : Nat} (h : i ≤ l.length) : sq r (l ++ m) i = sq r l i := by
  unfold sq; rw [List.take_append_of_le_length h]

/-- An engine of right deeds: what it has made is what deeds come to one by one. -/
structure QInv (e : Engine) (r : List Pair) : Prop where
  s : Srt Pair.key r
  z : ∀ k, (before e.chains k e.base).made = true
  m : ∀ (k : Str) (i : Nat), i ≤ e.deeds.length → (before e.chains k (e.base + i)).made = true → RF.get (sq r e.deeds i) k = ((before e.chains k (e.base + i)).n, (before e.chains k (e.base + i)).has)
  p : ∀ (k : Str) (i : Nat) (d : Deed), e.deeds[i]? = some d → k ∈ d.writes → (before e.chains k (e.base + (i + 1 : Nat))).by_ = e.base + i ∧ (e.state[i]? = some 1 → (before e.chains k (e.base + (i + 1 : Nat))).made = true)
  q : ∀ (k : Str) (i : Nat) (d : Deed), e.deeds[i]? = some d → k ∉ d.writes → before e.chains k (e.base + (i + 1 : Nat)) = before e.chains k (e.base + i)
  w : ∀ (i : Nat) (d : Deed), e.deeds[i]? = some d → e.state[i]? = some 1 → e.ends[i]? = some (doD (sq r e.deeds i) d).2
  b : 0 ≤ e.base

theorem newE_q {r : List Pair} (hs : Srt Pair.key r) : QInv (newE r) r := by
  have hv : ∀ k x, -1 < x → ((∃ p ∈ r, p.key = k ∧ before (r.map rowChain) k x = ⟨-1, true, true, p.n⟩) ∨ ((∀ p ∈ r, p.key ≠ k) ∧ before (r.map rowChain) k x = noV)) := fun k x hx => by
    by_cases h : ∃ p ∈ r, p.key = k
    · obtain ⟨p, hp, rfl⟩ := h
      exact .inl ⟨p, hp, rfl, before_row hs hp hx⟩
    · have hn : ∀ p ∈ r, p.key ≠ k := fun p hp he => h ⟨p, hp, he⟩
      refine .inr ⟨hn, beforeGo_none fun c hc => ?_⟩
      obtain ⟨p, hp, rfl⟩ := List.mem_map.1 hc
      exact hn p hp
  refine ⟨hs, fun k => ?_, fun k i hi hm => ?_, fun k i d h => by simp [newE] at h, fun k i d h => by simp [newE] at h, fun i d h => by simp [newE] at h, by simp [newE]⟩
  · rcases hv k 0 (by omega) with ⟨p, _, _, h⟩ | ⟨_, h⟩
    · show (before (r.map rowChain) k 0).made = true
      rw [h]
    · show (before (r.map rowChain) k 0).made = true
      rw [h]; rfl
  · have hi0 : i = 0 := by simpa [newE] using hi
    subst hi0
    show RF.get r k = ((before (r.map rowChain) k (0 + ((0 : Nat) : Int))).n, (before (r.map rowChain) k (0 + ((0 : Nat) : Int))).has)
    rcases hv k (0 + ((0 : Nat) : Int)) (by omega) with ⟨p, hp, rfl, h⟩ | ⟨hn, h⟩
    · rw [h, get_of_mem hs hp]
    · rw [h, get_absent hn]; rfl

/-! ### Deeds added -/
theorem addKeys_le {k : Str} {b x : Int} (hx : x ≤ b) : ∀ {ks : List Str} {l : List Chain}, Srt Chain.key l → before (addKeys b l ks) k x = before l k x
  | [], l, _ => rfl
  | k' :: ks, l, hs => by
    simp only [addKeys]
    rw [addC_srt hs, addKeys_le hx (addS_srt hs)]
    exact before_addS fun _ => hx
theorem addKeys_out {k : Str} {b x : Int} : ∀ {ks : List Str} {l : List Chain}, Srt Chain.key l → k ∉ ks → before (addKeys b l ks) k x = before l k x
  | [], l, _, _ => rfl
  | k' :: ks, l, hs, hk => by
    simp only [addKeys]
    rw [addC_srt hs, addKeys_out (addS_srt hs) (fun h => hk (List.mem_cons_of_mem _ h))]
    exact before_addS fun e => absurd (List.mem_cons.2 (.inl e)) hk
theorem addKeys_in {k : Str} {b x : Int} (hx : b < x) : ∀ {ks : List Str} {l : List Chain}, Srt Chain.key l → ks.Nodup → k ∈ ks → before (addKeys b l ks) k x = newV b
  | [], l, _, _, hk => by simp at hk
  | k' :: ks, l, hs, hn, hk => by
    obtain ⟨hn1, hn2⟩ := List.nodup_cons.1 hn
    simp only [addKeys]
    rw [addC_srt hs]
    by_cases h : k = k'
    · subst h
      rw [addKeys_out (addS_srt hs) hn1]
      exact behind_add hx hs
    · exact addKeys_in hx (addS_srt hs) hn2 (by
        rcases List.mem_cons.1 hk with e | e
        · exact absurd e h
        · exact e)
theorem bvs_top {h : Bool} {x y B : Int} (hx : B ≤ x) (hy : B ≤ y) : ∀ {l : List Version} {out : Version}, (∀ v ∈ l, v.by_ < B) → bvs h x out l = bvs h y out l
  | [], out, _ => rfl
  | v :: l, out, hl => by
    have hv := hl v (List.mem_cons_self ..)
    simp only [bvs]
    rw [decide_eq_true (show v.by_ < x by omega), decide_eq_true (show v.by_ < y by omega)]
    exact bvs_top hx hy fun w hw => hl w (List.mem_cons_of_mem _ hw)
theorem before_top {x y B : Int} {k : Str} (hx : B ≤ x) (hy : B ≤ y) : ∀ {l : List Chain} {out : Version}, (∀ c ∈ l, ∀ v ∈ c.vs, v.by_ < B) → beforeGo k x out l = beforeGo k y out l
  | [], out, _ => rfl
  | c :: l, out, hl => by
    simp only [beforeGo]
    rw [bvs_top hx hy (hl c (List.mem_cons_self ..))]
    exact before_top hx hy fun d hd => hl d (List.mem_cons_of_mem _ hd)
theorem QInv.add1 {e : Engine} {r : List Pair} (h : QInv e r) (hS : SInv e) (hW : WInv e) (hn : e.ends.length = e.deeds.length) {d : Deed} (hd : wrongDeed d = 0) : QInv (RF.add1 e d) r := by
  have hnd := (wrong_keys hd).2
  have hle : ∀ k (i : Nat), i ≤ e.deeds.length → before (RF.add1 e d).chains k (e.base + i) = before e.chains k (e.base + i) := fun k i hi => addKeys_le (by omega) hS.k
  have hlt : ∀ (i : Nat) (x : Deed), (RF.add1 e d).deeds[i]? = some x → (i < e.deeds.length ∧ e.deeds[i]? = some x) ∨ (i = e.deeds.length ∧ x = d) := fun i x hx => by
    have hx' : (e.deeds ++ [d])[i]? = some x := hx
    rcases Nat.lt_or_ge i e.deeds.length with hi | hi
    · rw [List.getElem?_append_left hi] at hx'
      exact .inl ⟨hi, hx'⟩
    · rw [List.getElem?_append_right hi] at hx'
      have h0 : i - e.deeds.length = 0 := by
        have := (List.getElem?_eq_some_iff.1 hx').1
        simpa using this
      rw [h0] at hx'
      exact .inr ⟨by omega, by simpa using hx'.symm⟩
  have hsqe : ∀ i, i ≤ e.deeds.length → sq r (e.deeds ++ [d]) i = sq r e.deeds i := fun i hi => sq_append hi
  have hst : ∀ i, i < e.deeds.length → (e.state ++ [0])[i]? = e.state[i]? := fun i hi => List.getElem?_append_left (by rw [hW.l]; exact hi)
  have hst1 : (e.state ++ [0])[e.deeds.length]? ≠ some 1 := by rw [← hW.l]; simp
  have htop : ∀ k, before e.chains k (e.base + (e.deeds.length + 1 : Nat)) = before e.chains k (e.base + e.deeds.length) := fun k => before_top (B := e.base + e.deeds.length) (by omega) (by omega) hS.b
  refine ⟨h.s, fun k => ?_, fun k i hi hm => ?_, fun k i x hx hk => ?_, fun k i x hx hk => ?_, fun i x hx h1 => ?_, h.b⟩
  · have := hle k 0 (by omega)
    simp only [Int.natCast_zero, Int.add_zero] at this
    show (before (RF.add1 e d).chains k e.base).made = true
    rw [this]; exact h.z k
  · have hi' : i ≤ e.deeds.length + 1 := by simpa [RF.add1] using hi
    show RF.get (sq r (e.deeds ++ [d]) i) k = ((before (RF.add1 e d).chains k (e.base + i)).n, (before (RF.add1 e d).chains k (e.base + i)).has)
    have hm' : (before (RF.add1 e d).chains k (e.base + i)).made = true := hm
    by_cases hil : i ≤ e.deeds.length
    · rw [hle k i hil] at hm' ⊢
      rw [hsqe i hil]
      exact h.m k i hil hm'
    · obtain rfl : i = e.deeds.length + 1 := by omega
      by_cases hkw : k ∈ d.writes
      · have : before (RF.add1 e d).chains k (e.base + (e.deeds.length + 1 : Nat)) = newV (e.base + e.deeds.length) := addKeys_in (by omega) hS.k hnd hkw
        rw [this] at hm'; cases hm'
      · have hb : before (RF.add1 e d).chains k (e.base + (e.deeds.length + 1 : Nat)) = before e.chains k (e.base + (e.deeds.length + 1 : Nat)) := addKeys_out hS.k hkw
        rw [hb, htop] at hm' ⊢
        have hg : (e.deeds ++ [d])[e.deeds.length]? = some d := by simp
        rw [sq_succ hg, do_same (sq_srt h.s (fun x hx => by
          rcases List.mem_append.1 hx with hx | hx
          · exact hW.d x hx
          · simp at hx; subst hx; exact hd) _) hd hkw, hsqe _ (Nat.le_refl _)]
        exact h.m k _ (Nat.le_refl _) hm'
  · rcases hlt i x hx with ⟨hi, hx'⟩ | ⟨rfl, rfl⟩
    · have := h.p k i x hx' hk
      show (before (RF.add1 e d).chains k (e.base + (i + 1 : Nat))).by_ = e.base + i ∧ ((e.state ++ [0])[i]? = some 1 → (before (RF.add1 e d).chains k (e.base + (i + 1 : Nat))).made = true)
      rw [hle k (i + 1) (by omega), hst i hi]
      exact this
    · have hb : before (RF.add1 e x).chains k (e.base + (e.deeds.length + 1 : Nat)) = newV (e.base + e.deeds.length) := addKeys_in (by omega) hS.k hnd hk
      refine ⟨by show (before (RF.add1 e x).chains k (e.base + (e.deeds.length + 1 : Nat))).by_ = _; rw [hb]; rfl, fun h1 => absurd h1 hst1⟩
  · rcases hlt i x hx with ⟨hi, hx'⟩ | ⟨rfl, rfl⟩
    · show before (RF.add1 e d).chains k (e.base + (i + 1 : Nat)) = before (RF.add1 e d).chains k (e.base + i)
      rw [hle k (i + 1) (by omega), hle k i (by omega)]
      exact h.q k i x hx' hk
    · show before (RF.add1 e x).chains k (e.base + (e.deeds.length + 1 : Nat)) = before (RF.add1 e x).chains k (e.base + e.deeds.length)
      have h1 : before (RF.add1 e x).chains k (e.base + (e.deeds.length + 1 : Nat)) = before e.chains k (e.base + (e.deeds.length + 1 : Nat)) := addKeys_out hS.k hk
      rw [h1, hle k _ (Nat.le_refl _), htop]
  · rcases hlt i x hx with ⟨hi, hx'⟩ | ⟨rfl, rfl⟩
    · show (e.ends ++ [done0])[i]? = some (doD (sq r (e.deeds ++ [d]) i) x).2
      have h1' : (e.state ++ [0])[i]? = some 1 := h1
      rw [hst i hi] at h1'
      rw [List.getElem?_append_left (by rw [hn]; exact hi), hsqe i (by omega)]
      exact h.w i x hx' h1'
    · exact absurd h1 hst1

/-! ### A deed done -/
theorem before_lt {l : List Chain} {k : Str} {b : Int} (h : (before l k b).by_ ≠ -1) : (before l k b).by_ < b := by
  rcases before_mem l k b with e | ⟨c, _, _, _, h4⟩
  · rw [e] at h; exact absurd rfl h
  · exact h4
/-- What a key has is the same until one that writes it. -/
theorem QInv.stay {e : Engine} {r : List Pair} (h : QInv e r) (hW : WInv e) (k : Str) (A : Nat) : ∀ (i : Nat), A < i → i ≤ e.deeds.length → (before e.chains k (e.base + i)).by_ = e.base + A → RF.get (sq r e.deeds i) k = RF.get (sq r e.deeds (A + 1)) k
  | 0, hA, _, _ => by omega
  | i + 1, hA, hi, hb => by
    by_cases he : i = A
    · subst he; rfl
    · obtain ⟨d, hd⟩ : ∃ d, e.deeds[i]? = some d := ⟨e.deeds[i]'(by omega), List.getElem?_eq_getElem (by omega)⟩
      by_cases hk : k ∈ d.writes
      · have := (h.p k i d hd hk).1
        rw [hb] at this
        omega
      · rw [h.q k i d hd hk] at hb
        rw [sq_succ hd, do_same (sq_srt h.s hW.d i) (hW.d d (List.mem_of_getElem? hd)) hk]
        exact h.stay hW k A i (by omega) (by omega) hb
/-- What a deed that needs nobody sees is what has come of those ahead of it. -/
theorem needs_made {e : Engine} (hW : WInv e) {A : Nat} {d : Deed} (hne : needs e A d = []) : ∀ k ∈ keysD d, (before e.chains k (e.base + A)).made = true := by
  intro k hk
  cases hm : (before e.chains k (e.base + A)).made with
  | true => rfl
  | false =>
    obtain ⟨h1, h2⟩ := hW.nb A k hm
    have : ((before e.chains k (e.base + A)).by_ - e.base) ∈ needs e A d := by
      unfold needs
      rw [needsGo_mem]
      exact ⟨((before e.chains k (e.base + A)).by_ - e.base).toNat, List.mem_range.2 (by omega), by omega, anyHit_iff.2 ⟨k, hk, hm, by omega⟩⟩
    rw [hne] at this
    simp at this
theorem go_done {e : Engine} {r : List Pair} (h : QInv e r) (hW : WInv e) {A : Nat} {d : Deed} (hd : e.deeds[A]? = some d) (hne : needs e A d = []) :
    (goDone e A d).2 = (doD (sq r e.deeds A) d).2 ∧ ∀ k ∈ d.writes, RF.get (goDone e A d).1 k = RF.get (sq r e.deeds (A + 1)) k := by
  have hA := (List.getElem?_eq_some_iff.1 hd).1
  have hw := hW.d d (List.mem_of_getElem? hd)
  have hmade := needs_made hW hne
  obtain ⟨hs0, hget⟩ := goRows_get (cs := e.chains) (b := e.base + A) (ks := keysD d) (r := []) List.Pairwise.nil
  have hsq := sq_srt h.s hW.d A
  have hsame : ∀ k, k ∈ d.reads ∨ k ∈ d.writes → RF.get (goRows e.chains (e.base + A) [] (keysD d)) k = RF.get (sq r e.deeds A) k := fun k hk => by
    have hm : k ∈ keysD d := by
      unfold keysD
      rw [keysGo'_mem]
      exact .inr (by simpa using hk)
    rw [h.m k A (by omega) (hmade k hm), hget k]
    cases hh : (before e.chains k (e.base + A)).has with
    | true => rw [if_pos ⟨hm, rfl⟩]
    | false =>
      rw [if_neg (by simp), hW.bh k _ hh]
      rfl
  have hrun : runM (RF.get (goRows e.chains (e.base + A) [] (keysD d))) d = runM (RF.get (sq r e.deeds A)) d :=
    runGo_congr fun i hi hk => by rw [hsame i.key (.inl (wrong_reads hw i hi hk))]
  unfold goDone
  refine ⟨by rw [do_end hs0 hw, do_end hsq hw, hrun], fun k hk => ?_⟩
  rw [sq_succ hd, do_get hs0 hw, do_get hsq hw, hrun, hsame k (.inr hk)]
  unfold chAt
  rw [hsame k (.inr hk)]
theorem QInv.goNew {e : Engine} {r : List Pair} (h : QInv e r) (hW : WInv e) (hn : e.ends.length = e.deeds.length) {A : Nat} {d : Deed} (hd : e.deeds[A]? = some d) (hne : needs e A d = []) : QInv (Proofs.YtembfadhnkabhaaGreatDoor.goNew e A d) r := by
  have hA := (List.getElem?_eq_some_iff.1 hd).1
  obtain ⟨hg1, hg2⟩ := go_done h hW hd hne
  have hb := h.b
  have hbf : ∀ k x, before (Proofs.YtembfadhnkabhaaGreatDoor.goNew e A d).chains k x = if k ∈ d.writes ∧ (before e.chains k x).by_ = e.base + A then doneV (goDone e A d).1 (e.base + A) k else before e.chains k x := fun k x => before_goSets (by omega)
  refine ⟨h.s, fun k => ?_, fun k i hi hm => ?_, fun k i x hx hk => ?_, fun k i x hx hk => ?_, fun i x hx h1 => ?_, h.b⟩
  · show (before (Proofs.YtembfadhnkabhaaGreatDoor.goNew e A d).chains k e.base).made = true
    rw [hbf]
    split
    · rfl
    · exact h.z k
  · have hi' : i ≤ e.deeds.length := hi
    show RF.get (sq r e.deeds i) k = ((before (Proofs.YtembfadhnkabhaaGreatDoor.goNew e A d).chains k (e.base + i)).n, (before (Proofs.YtembfadhnkabhaaGreatDoor.goNew e A d).chains k (e.base + i)).has)
    have hm' : (before (Proofs.YtembfadhnkabhaaGreatDoor.goNew e A d).chains k (e.base + i)).made = true := hm
    rw [hbf] at hm' ⊢
    by_cases hc : k ∈ d.writes ∧ (before e.chains k (e.base + i)).by_ = e.base + A
    · rw [if_pos hc]
      have hlt := before_lt (l := e.chains) (k := k) (b := e.base + i) (by rw [hc.2]; omega)
      rw [hc.2] at hlt
      rw [h.stay hW k A i (by omega) hi' hc.2, ← hg2 k hc.1]
      rfl
    · rw [if_neg hc] at hm' ⊢
      exact h.m k i hi' hm'
  · have hx' : e.deeds[i]? = some x := hx
    have hp := h.p k i x hx' hk
    show (before (Proofs.YtembfadhnkabhaaGreatDoor.goNew e A d).chains k (e.base + (i + 1 : Nat))).by_ = e.base + i ∧ ((e.state.set A 1)[i]? = some 1 → (before (Proofs.YtembfadhnkabhaaGreatDoor.goNew e A d).chains k (e.base + (i + 1 : Nat))).made = true)
    rw [hbf]
    by_cases hc : k ∈ d.writes ∧ (before e.chains k (e.base + (i + 1 : Nat))).by_ = e.base + A
    · rw [if_pos hc]
      refine ⟨?_, fun _ => rfl⟩
      show e.base + A = e.base + i
      rw [← hc.2]; exact hp.1
    · rw [if_neg hc]
      refine ⟨hp.1, fun h1 => ?_⟩
      by_cases he : i = A
      · subst he
        rw [hd] at hx'
        cases hx'
        exact absurd ⟨hk, hp.1⟩ hc
      · rw [List.getElem?_set_ne (fun e => he e.symm)] at h1
        exact hp.2 h1
  · have hx' : e.deeds[i]? = some x := hx
    show before (Proofs.YtembfadhnkabhaaGreatDoor.goNew e A d).chains k (e.base + (i + 1 : Nat)) = before (Proofs.YtembfadhnkabhaaGreatDoor.goNew e A d).chains k (e.base + i)
    rw [hbf, hbf, h.q k i x hx' hk]
  · have hx' : e.deeds[i]? = some x := hx
    show (e.ends.set A (goDone e A d).2)[i]? = some (doD (sq r e.deeds i) x).2
    have h1' : (e.state.set A 1)[i]? = some 1 := h1
    by_cases he : i = A
    · subst he
      rw [hd] at hx'
      cases hx'
      rw [List.getElem?_set_self (by omega), hg1]
    · rw [List.getElem?_set_ne (fun e => he e.symm)] at h1' ⊢
      exact h.w i x hx' h1'

/-! ### What is old, forgotten -/
theorem sq_drop {r : List Pair} {l : List Deed} {m : Nat} : ∀ (i : Nat), m + i ≤ l.length → sq (sq r l m) (l.drop m) i = sq r l (m + i)
  | 0, _ => rfl
  | i + 1, h => by
    obtain ⟨d, hd⟩ : ∃ d, l[m + i]? = some d := ⟨l[m + i]'(by omega), List.getElem?_eq_getElem (by omega)⟩
    have hd' : (l.drop m)[i]? = some d := by rw [List.getElem?_drop]; exact hd
    rw [sq_succ hd', sq_drop i (by omega), ← Nat.add_assoc, sq_succ hd]
theorem clrV_keep {b : Int} {w : Version} : ∀ {l : List Version}, w ∈ clrV b l → ¬ (w.by_ < b ∧ w.made = true ∧ w.has = false)
  | [], h => by simp [clrV] at h
  | v :: l, h => by
    simp only [clrV] at h
    split at h
    · exact clrV_keep h
    · next ho =>
      rcases List.mem_cons.1 h with rfl | h
      · rintro ⟨h1, h2, h3⟩
        exact ho (by simp [old, h1, h2, h3])
      · exact clrV_keep h
theorem before_clear {l : List Chain} (hs : Srt Chain.key l) (hv : ∀ c ∈ l, VSrt c.vs) {b x : Int} (hx : b ≤ x) (k : Str) :
    before (clear b l) k x = if (before l k x).by_ < b ∧ (before l k x).made = true ∧ (before l k x).has = false then noV else before l k x := by
  have h := seen_clear2 (k := k) (out := noV) hx hs hv
  by_cases hc : (before l k x).by_ < b ∧ (before l k x).made = true ∧ (before l k x).has = false
  · rw [if_pos hc]
    rcases h with h | h
    · have h' : before (clear b l) k x = before l k x := h
      rcases before_mem (clear b l) k x with h1 | ⟨c, h1, h2, h3, h4⟩
      · exact h1
      · obtain ⟨c0, h5, rfl⟩ := clear_mem h1
        rw [h'] at h3
        exact absurd hc (clrV_keep h3)
    · exact h.2.2.1
  · rw [if_neg hc]
    rcases h with h | h
    · exact h
    · exact absurd ⟨h.2.2.2, h.1, h.2.1⟩ hc
theorem QInv.clearE {e : Engine} {r : List Pair} (h : QInv e r) (hS : SInv e) (hW : WInv e) : QInv (clearE e) (sq r e.deeds (markN e.state)) := by
  have hml : markN e.state ≤ e.deeds.length := by rw [← hW.l]; exact markN_le e.state
  have hb := h.b
  obtain ⟨M, hM⟩ : ∃ M, markN e.state = M := ⟨_, rfl⟩
  have hform : ∀ k x, e.base + M ≤ x → before (clear (e.base + M) e.chains) k x = if (before e.chains k x).by_ < e.base + M ∧ (before e.chains k x).made = true ∧ (before e.chains k x).has = false then noV else before e.chains k x := fun k x hx => before_clear hS.k hS.v hx k
  unfold RF.clearE
  rw [hM] at hml ⊢
  have hmade : ∀ k, (before e.chains k (e.base + M)).made = true := fun k => by
    cases hm : (before e.chains k (e.base + M)).made with
    | true => rfl
    | false =>
      rcases before_mem e.chains k (e.base + M) with h1 | ⟨c, h1, h2, h3, h4⟩
      · rw [h1] at hm; cases hm
      · obtain ⟨j, x, h5, h6, _⟩ := hW.n c h1 _ h3 hm
        have : j < markN e.state := by omega
        have := markN_one this
        rw [h6] at this; cases this
  refine ⟨sq_srt h.s hW.d M, fun k => ?_, fun k i hi hm => ?_, fun k i x hx hk => ?_, fun k i x hx hk => ?_, fun i x hx h1 => ?_, by show 0 ≤ e.base + (M : Int); omega⟩
  · show (before (clear (e.base + M) e.chains) k (e.base + M)).made = true
    rw [hform k _ (Int.le_refl _)]
    split
    · rfl
    · exact hmade k
  · have hi' : i ≤ e.deeds.length - M := by simpa using hi
    show RF.get (sq (sq r e.deeds M) (e.deeds.drop M) i) k = ((before (clear (e.base + M) e.chains) k (e.base + M + i)).n, (before (clear (e.base + M) e.chains) k (e.base + M + i)).has)
    have hm' : (before (clear (e.base + M) e.chains) k (e.base + M + i)).made = true := hm
    have hx : e.base + (M : Int) + (i : Int) = e.base + ((M + i : Nat) : Int) := by omega
    rw [sq_drop i (by omega)]
    rw [hx] at hm' ⊢
    rw [hform k _ (by omega)] at hm' ⊢
    by_cases hc : (before e.chains k (e.base + ((M + i : Nat) : Int))).by_ < e.base + M ∧ (before e.chains k (e.base + ((M + i : Nat) : Int))).made = true ∧ (before e.chains k (e.base + ((M + i : Nat) : Int))).has = false
    · rw [if_pos hc, h.m k (M + i) (by omega) hc.2.1, hc.2.2, hW.bh k _ hc.2.2]
      rfl
    · rw [if_neg hc] at hm' ⊢
      exact h.m k (M + i) (by omega) hm'
  · have hx' : e.deeds[M + i]? = some x := by
      have : (e.deeds.drop M)[i]? = some x := hx
      rwa [List.getElem?_drop] at this
    obtain ⟨h1, h2⟩ := h.p k (M + i) x hx' hk
    show (before (clear (e.base + M) e.chains) k (e.base + M + (i + 1 : Nat))).by_ = e.base + M + i ∧ ((e.state.drop M)[i]? = some 1 → (before (clear (e.base + M) e.chains) k (e.base + M + (i + 1 : Nat))).made = true)
    have hxx : e.base + (M : Int) + ((i + 1 : Nat) : Int) = e.base + ((M + i + 1 : Nat) : Int) := by omega
    rw [hxx, List.getElem?_drop]
    rw [hform k _ (by omega), if_neg (by rw [h1]; omega)]
    exact ⟨by rw [h1]; omega, h2⟩
  · have hx' : e.deeds[M + i]? = some x := by
      have : (e.deeds.drop M)[i]? = some x := hx
      rwa [List.getElem?_drop] at this
    have hq := h.q k (M + i) x hx' hk
    show before (clear (e.base + M) e.chains) k (e.base + M + (i + 1 : Nat)) = before (clear (e.base + M) e.chains) k (e.base + M + i)
    have hxx : e.base + (M : Int) + ((i + 1 : Nat) : Int) = e.base + ((M + i + 1 : Nat) : Int) := by omega
    have hxy : e.base + (M : Int) + (i : Int) = e.base + ((M + i : Nat) : Int) := by omega
    rw [hxx, hxy]
    rw [hform k _ (by omega), hform k _ (by omega), hq]
  · have hx' : e.deeds[M + i]? = some x := by
      have : (e.deeds.drop M)[i]? = some x := hx
      rwa [List.getElem?_drop] at this
    have h1' : (e.state.drop M)[i]? = some 1 := h1
    rw [List.getElem?_drop] at h1'
    show (e.ends.drop M)[i]? = some (doD (sq (sq r e.deeds M) (e.deeds.drop M) i) x).2
    have hlt := (List.getElem?_eq_some_iff.1 hx').1
    rw [List.getElem?_drop, sq_drop i (by omega)]
    exact h.w (M + i) x hx' h1'

end Go.Proofs.YtembfadhnkabhaaGreatDoor

/-! P11 -/
/-
  Engines at work: all deeds are done at last, and it is as one by one.
-/
namespace Go.Proofs.YtembfadhnkabhaaGreatDoor
open Go.AX Go.RF

/-! ### What holds of engines that are built -/
structure BInv (e : Engine) (r : List Pair) : Prop where
  S : SInv e
  W : WInv e
  Q : QInv e r
  n : e.ends.length = e.deeds.length
  t : ∀ s ∈ e.state, s = 0 ∨ s = 1
  u : ∀ (k : Str) (i : Nat) (d : Deed), e.deeds[i]? = some d → k ∈ d.writes → e.state[i]? = some 0 → (before e.chains k (e.base + (i + 1 : Nat))).made = false

theorem newE_b {r : List Pair} (h : wrongRows r = 0) : BInv (newE r) r :=
  ⟨newE_srt (wrongRows_srt h).1, newE_w r, newE_q (wrongRows_srt h).1, rfl, by simp [newE], fun k i d h => by simp [newE] at h⟩
theorem BInv.add1 {e : Engine} {r : List Pair} (h : BInv e r) {d : Deed} (hd : wrongDeed d = 0) : BInv (RF.add1 e d) r := by
  refine ⟨h.S.add1 (wrong_keys hd).2, h.W.add1 h.S hd, h.Q.add1 h.S h.W h.n hd, by simp [RF.add1, h.n], fun s hs => ?_, fun k i x hx hk h0 => ?_⟩
  · rcases List.mem_append.1 (show s ∈ e.state ++ [0] from hs) with hs | hs
    · exact h.t s hs
    · simp at hs; exact .inl hs
  · have hx' : (e.deeds ++ [d])[i]? = some x := hx
    show (before (addKeys (e.base + e.deeds.length) e.chains d.writes) k (e.base + (i + 1 : Nat))).made = false
    rcases Nat.lt_or_ge i e.deeds.length with hi | hi
    · rw [List.getElem?_append_left hi] at hx'
      have h0' : (e.state ++ [0])[i]? = some 0 := h0
      rw [List.getElem?_append_left (by rw [h.W.l]; exact hi)] at h0'
      rw [addKeys_le (by omega) h.S.k]
      exact h.u k i x hx' hk h0'
    · rw [List.getElem?_append_right hi] at hx'
      have hz : i - e.deeds.length = 0 := by
        have := (List.getElem?_eq_some_iff.1 hx').1
        simpa using this
      rw [hz] at hx'
      have hx2 : x = d := by simpa using hx'.symm
      subst hx2
      rw [addKeys_in (by omega) h.S.k (wrong_keys hd).2 hk]
      rfl
theorem BInv.addAll : ∀ {l : List Deed} {e : Engine} {r : List Pair}, BInv e r → (∀ d ∈ l, wrongDeed d = 0) → BInv (RF.addAll e l) r
  | [], e, r, h, _ => h
  | d :: l, e, r, h, hl => by
    simp only [RF.addAll]
    exact BInv.addAll (h.add1 (hl d (List.mem_cons_self ..))) fun x hx => hl x (List.mem_cons_of_mem _ hx)
theorem BInv.addE {e : Engine} {r : List Pair} (h : BInv e r) {l : List Deed} (hw : (RF.addE e l).2 = 0) : BInv (RF.addE e l).1 r := by
  unfold RF.addE at hw ⊢
  by_cases h0 : wrongs l = 0
  · rw [if_pos h0]
    exact h.addAll fun d hd => wrongs_mem h0 d hd
  · rw [if_neg h0] at hw; exact absurd hw h0
theorem BInv.goNew {e : Engine} {r : List Pair} (h : BInv e r) {A : Nat} {d : Deed} (hd : e.deeds[A]? = some d) (hne : needs e A d = []) : BInv (Proofs.YtembfadhnkabhaaGreatDoor.goNew e A d) r := by
  have hb := h.Q.b
  refine ⟨h.S.goNew A d, h.W.goNew A d hd, h.Q.goNew h.W h.n hd hne, ?_, fun s hs => ?_, fun k i x hx hk h0 => ?_⟩
  · show (e.ends.set A _).length = e.deeds.length
    rw [List.length_set]; exact h.n
  · rcases List.mem_or_eq_of_mem_set (show s ∈ e.state.set A 1 from hs) with hs | hs
    · exact h.t s hs
    · exact .inr hs
  · have hx' : e.deeds[i]? = some x := hx
    have h0' : (e.state.set A 1)[i]? = some 0 := h0
    have hiA : i ≠ A := fun e1 => by
      subst e1
      rw [List.getElem?_set_self (by rw [h.W.l]; exact (List.getElem?_eq_some_iff.1 hd).1)] at h0'
      simp at h0'
    rw [List.getElem?_set_ne (fun e1 => hiA e1.symm)] at h0'
    have hp := (h.Q.p k i x hx' hk).1
    show (before (goSets (goDone e A d).1 (e.base + A) e.chains d.writes) k (e.base + (i + 1 : Nat))).made = false
    rw [before_goSets (by omega), if_neg (fun e1 => by have := e1.2; rw [hp] at this; omega)]
    exact h.u k i x hx' hk h0'
theorem BInv.goE {e : Engine} {r : List Pair} (h : BInv e r) (x : Int) : BInv (Proofs.YtembfadhnkabhaaGreatDoor.goE e x).1 r := by
  unfold Proofs.YtembfadhnkabhaaGreatDoor.goE
  split
  · exact h
  unfold goAt
  cases hA : e.deeds[x.toNat]? with
  | none => exact h
  | some d =>
    dsimp only
    split
    · exact h
    split
    · next hn => exact h.goNew hA hn
    · exact h
theorem BInv.clearE {e : Engine} {r : List Pair} (h : BInv e r) : BInv (RF.clearE e) (sq r e.deeds (markN e.state)) := by
  refine ⟨h.S.clearE, h.W.clearE, h.Q.clearE h.S h.W, ?_, fun s hs => h.t s (List.mem_of_mem_drop hs), fun k i x hx hk h0 => ?_⟩
  · show (e.ends.drop _).length = (e.deeds.drop _).length
    simp [h.n]
  · have hx' : e.deeds[markN e.state + i]? = some x := by
      have : (e.deeds.drop (markN e.state))[i]? = some x := hx
      rwa [List.getElem?_drop] at this
    have h0' : e.state[markN e.state + i]? = some 0 := by
      have : (e.state.drop (markN e.state))[i]? = some 0 := h0
      rwa [List.getElem?_drop] at this
    show (before (clear (e.base + markN e.state) e.chains) k (e.base + markN e.state + (i + 1 : Nat))).made = false
    have hp := (h.Q.p k _ x hx' hk).1
    have hu := h.u k _ x hx' hk h0'
    rw [before_clear h.S.k h.S.v (by omega)]
    rw [show e.base + (markN e.state : Int) + ((i + 1 : Nat) : Int) = e.base + ((markN e.state + i + 1 : Nat) : Int) by omega]
    rw [if_neg (by rw [hp]; omega)]
    exact hu
theorem BInv.pickE {e : Engine} {r : List Pair} (h : BInv e r) (n : Int) : ∃ r', BInv (Proofs.YtembfadhnkabhaaGreatDoor.pickE e n) r' := by
  unfold Proofs.YtembfadhnkabhaaGreatDoor.pickE
  split
  · exact ⟨_, h.clearE⟩
  split
  · exact ⟨r, h⟩
  split
  · exact ⟨r, h.goE _⟩
  · exact ⟨r, h⟩
theorem BInv.batchE {e : Engine} {r : List Pair} (h : BInv e r) (b : List Deed) : BInv (Proofs.YtembfadhnkabhaaGreatDoor.batchE e b) r := by
  unfold Proofs.YtembfadhnkabhaaGreatDoor.batchE
  split
  · next hw => exact h.addE hw
  · exact h
theorem BInv.pickGo : ∀ {k : Nat} {e : Engine} {p : List Int} {r : List Pair}, BInv e r → ∃ r', BInv (Proofs.YtembfadhnkabhaaGreatDoor.pickGo k e p).1 r'
  | 0, e, p, r, h => ⟨r, h⟩
  | k + 1, e, [], r, h => ⟨r, h⟩
  | k + 1, e, n :: p, r, h => by
    simp only [Proofs.YtembfadhnkabhaaGreatDoor.pickGo]
    obtain ⟨r', h'⟩ := h.pickE n
    exact BInv.pickGo h'
theorem BInv.buildGo : ∀ {bs : List (List Deed)} {e : Engine} {p : List Int} {r : List Pair}, BInv e r → ∃ r', BInv (Proofs.YtembfadhnkabhaaGreatDoor.buildGo e bs p) r'
  | [], e, p, r, h => ⟨r, h⟩
  | b :: bs, e, p, r, h => by
    simp only [Proofs.YtembfadhnkabhaaGreatDoor.buildGo]
    obtain ⟨r', h'⟩ := (h.batchE b).pickGo (k := 3) (p := p)
    exact BInv.buildGo h'
theorem build_b {r : List Pair} (h : wrongRows r = 0) (bs : List (List Deed)) (p : List Int) : ∃ r', BInv (buildE r bs p) r' := (newE_b h).buildGo

/-! ### Who is ready -/
theorem readyGo_mem {e : Engine} {x : Int} : ∀ {l : List Int} {i : Nat}, x ∈ readyGo e i l ↔ ∃ j : Nat, x = ((i + j : Nat) : Int) ∧ l[j]? = some 0 ∧ needsAt e (i + j) = []
  | [], i => by simp [readyGo]
  | s :: l, i => by
    have tl : x ∈ readyGo e (i + 1) l → ∃ j : Nat, x = ((i + j : Nat) : Int) ∧ (s :: l)[j]? = some 0 ∧ needsAt e (i + j) = [] := fun h => by
      obtain ⟨j, h1, h2, h3⟩ := readyGo_mem.1 h
      exact ⟨j + 1, by rw [h1]; omega, by rw [List.getElem?_cons_succ]; exact h2, by rw [show i + (j + 1) = i + 1 + j by omega]; exact h3⟩
    simp only [readyGo]
    constructor
    · intro h
      by_cases hc : s = 0 ∧ needsAt e i = []
      · rw [if_pos hc] at h
        rcases List.mem_cons.1 h with h | h
        · exact ⟨0, h, by rw [hc.1]; rfl, hc.2⟩
        · exact tl h
      · rw [if_neg hc] at h
        exact tl h
    · rintro ⟨j, h1, h2, h3⟩
      cases j with
      | zero =>
        have h4 : s = 0 := by simpa using h2
        rw [if_pos ⟨h4, h3⟩, h1]; exact List.mem_cons_self ..
      | succ j =>
        have : x ∈ readyGo e (i + 1) l := readyGo_mem.2 ⟨j, by rw [h1]; omega, by rw [List.getElem?_cons_succ] at h2; exact h2, by rw [show i + 1 + j = i + (j + 1) by omega]; exact h3⟩
        split
        · exact List.mem_cons_of_mem _ this
        · exact this
theorem ready_mem {e : Engine} {x : Int} : x ∈ ready e ↔ ∃ A : Nat, x = (A : Int) ∧ e.state[A]? = some 0 ∧ needsAt e A = [] := by
  unfold ready
  rw [readyGo_mem]
  simp only [Nat.zero_add]
theorem needs_nil {e : Engine} (hW : WInv e) {A : Nat} {d : Deed} : needs e A d = [] ↔ ∀ k ∈ keysD d, (before e.chains k (e.base + A)).made = true := by
  refine ⟨needs_made hW, fun h => ?_⟩
  cases hn : needs e A d with
  | nil => rfl
  | cons x l =>
    have hx : x ∈ needs e A d := by rw [hn]; exact List.mem_cons_self ..
    unfold needs at hx
    obtain ⟨k, _, _, h1⟩ := needsGo_mem.1 hx
    obtain ⟨s, h2, h3, _⟩ := anyHit_iff.1 h1
    rw [h s h2] at h3
    cases h3
theorem go_ready {e : Engine} (hl : e.state.length = e.deeds.length) {A : Nat} (h0 : e.state[A]? = some 0) (hn : needsAt e A = []) :
    ∃ d, e.deeds[A]? = some d ∧ needs e A d = [] ∧ goE e (A : Int) = (goNew e A d, 0) := by
  have hA := (List.getElem?_eq_some_iff.1 h0).1
  obtain ⟨d, hd⟩ : ∃ d, e.deeds[A]? = some d := ⟨e.deeds[A]'(by omega), List.getElem?_eq_getElem (by omega)⟩
  unfold needsAt at hn
  rw [hd] at hn
  refine ⟨d, hd, hn, ?_⟩
  unfold goE goAt
  rw [if_neg (by omega), Int.toNat_natCast, hd]
  dsimp only
  rw [h0, if_neg (by simp), if_pos hn]
theorem first_wait {l : List Int} {A : Nat} (h : l[A]? = some 0) : ∃ B : Nat, l[B]? = some 0 ∧ ∀ j : Nat, j < B → l[j]? ≠ some 0 := by
  induction A using Nat.strongRecOn with
  | ind A ih =>
    by_cases hj : ∃ j, j < A ∧ l[j]? = some 0
    · obtain ⟨j, h1, h2⟩ := hj
      exact ih j h1 h2
    · exact ⟨A, h, fun j hj1 hj2 => hj ⟨j, hj1, hj2⟩⟩
/-- One of those that wait needs nobody. -/
theorem free_one {e : Engine} (hW : WInv e) {A : Nat} (h : e.state[A]? = some 0) : ∃ B : Nat, e.state[B]? = some 0 ∧ needsAt e B = [] := by
  obtain ⟨B, h1, h2⟩ := first_wait h
  refine ⟨B, h1, ?_⟩
  unfold needsAt
  split
  · refine (needs_nil hW).2 fun k _ => ?_
    cases hm : (before e.chains k (e.base + B)).made with
    | true => rfl
    | false =>
      rcases before_mem e.chains k (e.base + B) with h3 | ⟨c, h3, h4, h5, h6⟩
      · rw [h3] at hm; cases hm
      · obtain ⟨j, x, h7, h8, _⟩ := hW.n c h3 _ h5 hm
        exact absurd h8 (h2 j (by omega))
  · rfl
theorem ready_nil {e : Engine} {r : List Pair} (h : BInv e r) (hr : ready e = []) : ∀ s ∈ e.state, s = 1 := fun s hs => by
  rcases h.t s hs with rfl | h1
  · obtain ⟨A, hA⟩ := List.mem_iff_getElem?.1 hs
    obtain ⟨B, h1, h2⟩ := free_one h.W hA
    have : ((B : Nat) : Int) ∈ ready e := ready_mem.2 ⟨B, rfl, h1, h2⟩
    rw [hr] at this
    simp at this
  · exact h1
/-! ### All of them -/
def waitN : List Int → Nat
  | [] => 0
  | s :: l => if s = 0 then waitN l + 1 else waitN l
theorem waitN_set : ∀ {l : List Int} {A : Nat}, l[A]? = some 0 → waitN (l.set A 1) + 1 = waitN l
  | [], A, h => by simp at h
  | s :: l, 0, h => by simp at h; subst h; simp [waitN]
  | s :: l, A + 1, h => by
    have := waitN_set (l := l) (A := A) (by rw [List.getElem?_cons_succ] at h; exact h)
    simp only [List.set_cons_succ, waitN]
    split <;> omega
def pickAt (p : Int) (n : Nat) : Nat := ((p.tmod n + n).tmod n).toNat
theorem pickAt_lt {n : Nat} (h : 0 < n) (p : Int) : pickAt p n < n := by
  have := Int.tmod_lt_of_pos (p.tmod n + n) (show (0 : Int) < n by omega)
  unfold pickAt
  omega
def pickI (l : List Int) : List Int → Nat
  | [] => 0
  | p :: _ => pickAt p l.length
theorem pickI_lt {l : List Int} (h : l ≠ []) (p : List Int) : pickI l p < l.length := by
  have := List.length_pos_iff.2 h
  cases p with
  | nil => exact this
  | cons p _ => exact pickAt_lt this p
def allGo : Nat → Engine → List Int → Engine
  | 0, e, _ => e
  | f + 1, e, p => match (ready e)[pickI (ready e) p]? with
    | some x => allGo f (goE e x).1 p.tail
    | none => e
def allE (e : Engine) (p : List Int) : Engine := allGo (waitN e.state) e p
theorem all_nil {e : Engine} {p : List Int} (h : ready e = []) : allE e p = e := by
  unfold allE
  cases waitN e.state with
  | zero => rfl
  | succ f => simp only [allGo]; rw [h]; rfl
theorem all_step {e : Engine} (hl : e.state.length = e.deeds.length) {p : List Int} {x : Int} (hx : (ready e)[pickI (ready e) p]? = some x) :
    ∃ (A : Nat) (d : Deed), x = (A : Int) ∧ e.deeds[A]? = some d ∧ e.state[A]? = some 0 ∧ needs e A d = [] ∧ goE e x = (goNew e A d, 0) ∧ waitN (goE e x).1.state + 1 = waitN e.state ∧ allE e p = allE (goE e x).1 p.tail := by
  obtain ⟨A, rfl, h1, h2⟩ := ready_mem.1 (List.mem_of_getElem? hx)
  obtain ⟨d, h3, h4, h5⟩ := go_ready hl h1 h2
  have hw : waitN (goE e (A : Int)).1.state + 1 = waitN e.state := by rw [h5]; exact waitN_set h1
  refine ⟨A, d, rfl, h3, h1, h4, h5, hw, ?_⟩
  unfold allE
  rw [← hw]
  simp only [allGo]
  rw [hx]
theorem goE_deeds (e : Engine) (x : Int) : (goE e x).1.deeds = e.deeds ∧ (goE e x).1.base = e.base := by
  unfold goE
  split
  · exact ⟨rfl, rfl⟩
  unfold goAt
  split
  · split
    · exact ⟨rfl, rfl⟩
    split <;> exact ⟨rfl, rfl⟩
  · exact ⟨rfl, rfl⟩
theorem all_inv {r : List Pair} : ∀ {f : Nat} {e : Engine} {p : List Int}, waitN e.state = f → BInv e r → BInv (allE e p) r ∧ (allE e p).deeds = e.deeds ∧ (allE e p).base = e.base ∧ ∀ s ∈ (allE e p).state, s = 1
  | f, e, p, hf, h => by
    by_cases hr : ready e = []
    · rw [all_nil hr]
      exact ⟨h, rfl, rfl, ready_nil h hr⟩
    · have hp := pickI_lt hr p
      have hx : (ready e)[pickI (ready e) p]? = some ((ready e)[pickI (ready e) p]'hp) := List.getElem?_eq_getElem hp
      obtain ⟨A, d, h1, h2, h3, h4, h5, h6, h7⟩ := all_step h.W.l hx
      rw [h7]
      cases f with
      | zero => omega
      | succ f =>
        have ih := all_inv (f := f) (e := (goE e ((ready e)[pickI (ready e) p]'hp)).1) (p := p.tail) (by omega) (h.goE _)
        rw [(goE_deeds _ _).1, (goE_deeds _ _).2] at ih
        exact ih

/-! ### What keys have -/
def seenP (cs : List Chain) (b : Int) (c : Chain) : Option Pair := if (before cs c.key b).has = true then some ⟨c.key, (before cs c.key b).n⟩ else none
theorem rowsAtGo_made {cs : List Chain} {b : Int} : ∀ {l : List Chain} {out : List Pair}, (∀ c ∈ l, (before cs c.key b).made = true) → rowsAtGo cs b out l = (out ++ l.filterMap (seenP cs b), true)
  | [], out, _ => by simp [rowsAtGo]
  | c :: l, out, h => by
    have h1 := h c (List.mem_cons_self ..)
    have h2 : ∀ c ∈ l, (before cs c.key b).made = true := fun x hx => h x (List.mem_cons_of_mem _ hx)
    simp only [rowsAtGo]
    rw [if_neg (by rw [h1]; simp)]
    by_cases hh : (before cs c.key b).has = true
    · rw [if_pos hh, rowsAtGo_made h2, List.filterMap_cons_some (show seenP cs b c = some _ from if_pos hh)]
      simp
    · rw [if_neg hh, rowsAtGo_made h2, List.filterMap_cons_none (show seenP cs b c = none from if_neg hh)]
theorem rowsAt_made {cs : List Chain} {b : Int} (hs : Srt Chain.key cs) (hb : ∀ k, (before cs k b).has = false → (before cs k b).n = 0) (h : ∀ k, (before cs k b).made = true) :
    (rowsAt cs b).2 = true ∧ Srt Pair.key (rowsAt cs b).1 ∧ ∀ k, RF.get (rowsAt cs b).1 k = ((before cs k b).n, (before cs k b).has) := by
  have he : rowsAt cs b = (cs.filterMap (seenP cs b), true) := rowsAtGo_made fun c _ => h c.key
  have hsr : Srt Pair.key (cs.filterMap (seenP cs b)) := by
    refine List.pairwise_filterMap.2 (List.Pairwise.imp (fun {x y} hxy p hp q hq => ?_) hs)
    unfold seenP at hp hq
    split at hp
    · split at hq
      · cases hp; cases hq; exact hxy
      · cases hq
    · cases hp
  rw [he]
  refine ⟨rfl, hsr, fun k => ?_⟩
  show RF.get (cs.filterMap (seenP cs b)) k = _
  cases hh : (before cs k b).has with
  | true =>
    rcases before_mem cs k b with h1 | ⟨c, h1, rfl, _, _⟩
    · rw [h1] at hh; cases hh
    · have hm : (⟨c.key, (before cs c.key b).n⟩ : Pair) ∈ cs.filterMap (seenP cs b) := List.mem_filterMap.2 ⟨c, h1, if_pos hh⟩
      exact get_of_mem hsr hm
  | false =>
    rw [hb k hh]
    refine get_absent fun p hp e => ?_
    obtain ⟨c, h1, h2⟩ := List.mem_filterMap.1 hp
    unfold seenP at h2
    split at h2
    · next hc =>
      cases h2
      have e' : c.key = k := e
      rw [e', hh] at hc
      cases hc
    · cases h2
theorem BInv.rows {e : Engine} {r : List Pair} (h : BInv e r) {i : Nat} (hi : i ≤ e.deeds.length) (hm : ∀ k, (before e.chains k (e.base + i)).made = true) : rowsAt e.chains (e.base + i) = (sq r e.deeds i, true) := by
  obtain ⟨h1, h2, h3⟩ := rowsAt_made h.S.k (fun k => h.W.bh k _) hm
  exact Prod.ext (get_ext h2 (sq_srt h.Q.s h.W.d i) fun k => by rw [h3, h.Q.m k i hi (hm k)]) h1

/-! ### How deeds ended -/
theorem allD_ends : ∀ {l : List Deed} {r : List Pair} {i : Nat} {d : Deed}, l[i]? = some d → (allD r l).2[i]? = some (doD (sq r l i) d).2
  | [], r, i, d, h => by simp at h
  | x :: l, r, 0, d, h => by simp at h; subst h; rfl
  | x :: l, r, i + 1, d, h => by
    rw [List.getElem?_cons_succ] at h
    have := allD_ends (r := (doD r x).1) h
    simp only [allD]
    rw [List.getElem?_cons_succ, this]
    rfl
theorem allD_len : ∀ {l : List Deed} {r : List Pair}, (allD r l).2.length = l.length
  | [], r => rfl
  | x :: l, r => by simp only [allD, List.length_cons]; rw [allD_len]
theorem BInv.ends {e : Engine} {r : List Pair} (h : BInv e r) (h1 : ∀ s ∈ e.state, s = 1) : e.ends = (allD r e.deeds).2 := by
  refine List.ext_getElem? fun i => ?_
  rcases Nat.lt_or_ge i e.deeds.length with hi | hi
  · have hd : e.deeds[i]? = some e.deeds[i] := List.getElem?_eq_getElem hi
    have hs : i < e.state.length := by rw [h.W.l]; exact hi
    have hs1 : e.state[i]? = some 1 := by
      rw [List.getElem?_eq_getElem hs, h1 _ (List.getElem_mem hs)]
    rw [h.Q.w i _ hd hs1, allD_ends hd]
  · rw [List.getElem?_eq_none (by rw [h.n]; exact hi), List.getElem?_eq_none (by rw [allD_len]; exact hi)]

end Go.Proofs.YtembfadhnkabhaaGreatDoor

/-! P12 -/
/-
  The laws of chapters 6, 7 and 8 that say more, in plain words.
-/
namespace Go.Proofs.YtembfadhnkabhaaGreatDoor
open Go.AX Go.RF

/-! ### Whichever goes first -/
/-! ### Who is done stays done -/
theorem bvs_self {v : Version} : ∀ {l : List Version} {out : Version}, VSrt l → v ∈ l → bvs true (v.by_ + 1) out l = v
  | [], out, _, h => by simp at h
  | w :: l, out, hs, h => by
    obtain ⟨h1, h2⟩ := VSrt.cons.1 hs
    simp only [bvs]
    rcases List.mem_cons.1 h with rfl | h
    · rw [if_pos (by simp; omega), bvs_ge fun x hx => by have := h1 x hx; omega]
    · exact bvs_self h2 h
theorem before_self {l : List Chain} (hs : Srt Chain.key l) (hv : ∀ c ∈ l, VSrt c.vs) {c : Chain} (hc : c ∈ l) {v : Version} (h : v ∈ c.vs) : before l c.key (v.by_ + 1) = v := by
  obtain ⟨m, hm⟩ := List.mem_iff_getElem?.1 hc
  rw [before_yes hs hm rfl]
  exact bvs_self (hv c hc) h
theorem run_more {e : Engine} {r : List Pair} (h : BInv e r) {A : Nat} {d : Deed} (hd : e.deeds[A]? = some d) (h0 : e.state[A]? = some 0) (hn : needs e A d = []) :
    (∀ i, i ≠ A → (goNew e A d).state[i]? = e.state[i]? ∧ (goNew e A d).ends[i]? = e.ends[i]?) ∧
      (∀ c ∈ e.chains, ∀ v ∈ c.vs, v.made = true → before (goNew e A d).chains c.key (v.by_ + 1) = v) ∧
      ∀ x ∈ ready e, x ∈ ready (goNew e A d) ↔ x ≠ (A : Int) := by
  have hb := h.Q.b
  have hbf : ∀ k x, before (goNew e A d).chains k x = if k ∈ d.writes ∧ (before e.chains k x).by_ = e.base + A then doneV (goDone e A d).1 (e.base + A) k else before e.chains k x := fun k x => before_goSets (by omega)
  refine ⟨fun i hi => ⟨?_, ?_⟩, fun c hc v hv hm => ?_, fun x hx => ?_⟩
  · show (e.state.set A 1)[i]? = _
    rw [List.getElem?_set_ne (fun e1 => hi e1.symm)]
  · show (e.ends.set A _)[i]? = _
    rw [List.getElem?_set_ne (fun e1 => hi e1.symm)]
  · have hse := before_self h.S.k h.S.v hc hv
    rw [hbf, hse, if_neg]
    rintro ⟨h1, h2⟩
    have hu := h.u c.key A d hd h1 h0
    rw [show e.base + ((A + 1 : Nat) : Int) = v.by_ + 1 by omega, hse, hm] at hu
    cases hu
  · obtain ⟨B, rfl, h1, h2⟩ := ready_mem.1 hx
    constructor
    · intro hy e1
      obtain ⟨C, h3, h4, _⟩ := ready_mem.1 hy
      obtain rfl : C = A := by omega
      have h4' : (e.state.set C 1)[C]? = some 0 := h4
      rw [List.getElem?_set_self (List.getElem?_eq_some_iff.1 h0).1] at h4'
      simp at h4'
    · intro hne
      have hBA : B ≠ A := fun e1 => hne (by rw [e1])
      refine ready_mem.2 ⟨B, rfl, ?_, ?_⟩
      · show (e.state.set A 1)[B]? = _
        rw [List.getElem?_set_ne (fun e1 => hBA e1.symm)]; exact h1
      · unfold needsAt at h2 ⊢
        show (match e.deeds[B]? with
          | some d' => needs (goNew e A d) B d'
          | none => []) = []
        split
        · next x hx' =>
          rw [hx'] at h2
          refine (needs_nil (h.goNew hd hn).W).2 fun k hk => ?_
          have := (needs_nil h.W).1 h2 k hk
          show (before (goNew e A d).chains k (e.base + B)).made = true
          rw [hbf]
          split
          · rfl
          · exact this
        · rfl

/-! ### Who comes later changes nothing ahead -/
/-! ### What is forgotten -/
/-! ### What is done leaves one each -/
end Go.Proofs.YtembfadhnkabhaaGreatDoor

/-! G24 -/
/-
  Contract of the references' Finish: all deeds are done, the first one that is ready first.
-/
namespace Go.Proofs.YtembfadhnkabhaaGreatDoor
open Go.AX Go.RF

set_option maxRecDepth 100000
set_option maxHeartbeats 8000000

theorem EInv.allE {N : Nat} : ∀ {f : Nat} {e : Engine} {p : List Int}, waitN e.state = f → EInv e N → EInv (allE e p) N
  | f, e, p, hf, h => by
    by_cases hr : ready e = []
    · rw [all_nil hr]
      exact h
    · have hp := pickI_lt hr p
      have hx : (ready e)[pickI (ready e) p]? = some ((ready e)[pickI (ready e) p]'hp) := List.getElem?_eq_getElem hp
      obtain ⟨A, d, h1, h2, h3, h4, h5, h6, h7⟩ := all_step h.z.s hx
      rw [h7]
      cases f with
      | zero => omega
      | succ f => exact EInv.allE (f := f) (p := p.tail) (by omega) (h.goE _)
end Go.Proofs.YtembfadhnkabhaaGreatDoor

/-! F4 -/
/-
  Contract of the references' WrongRows.
-/
namespace Go.Proofs.YtembfadhnkabhaaGreatDoor
open Go.AX Go.RF

set_option maxRecDepth 100000
set_option maxHeartbeats 4000000

theorem ok_wrongRows (l : List Pair) (hl : l.length ≤ 268435456) (hk : ∀ p ∈ l, p.key.length ≤ 1073741824) : FnOk Tryz.prog 9 [.d (encRows l)] (.one (dint (wrongRows l))) := by
  refine fnOk_of tbl_ok mixed_ok Tryz.func9 rfl (by kernel_rfl) rfl rfl fun w0 own0 => ?_
  repeat (first | ((with_reducible apply s1); exact rfl) | (with_reducible first | apply CW.seq | apply CW.block | apply CW.region | apply CW.draw | apply CW.skip | apply CW.exit | apply CW.ret | apply q_then | apply q_then_exit | apply q_then_ret | apply q_block | apply q_block_ret | apply q_block_hit | apply q_ret | apply q_end | apply q_loop_exit | apply q_loop_ret | apply q_loopT_exit | apply q_loopT_ret | apply RW.nil) | ((with_reducible apply s3); exact rfl; exact by_k) | ((with_reducible apply s2); exact rfl; exact by_k) | ((with_reducible apply s4); exact rfl) | ((with_reducible apply s5); (first | exact by_oa); exact by_g) | ((with_reducible apply CW.cond_t); exact rfl; exact by_ks) | ((with_reducible apply CW.cond_f); exact rfl; exact by_ks) | ((with_reducible apply q_block_miss); exact rfl) | (refine And.intro (show chk [] [] _ _ = true by kernel_rfl) ?_))
  refine CW.loopT (fun t : Nat × Str => [(.s 3, .av (.d (dstr t.2))), (.s 6, .av (.d (encRows l))), (.s 7, .av (.d (dint l.length))), (.s 8, .av (.d (dint t.1))), (.nx, .num 0)])
    (fun t => t.1 ≤ l.length ∧ wrongRowsGo t.1 t.2 (l.drop t.1) = wrongRows l) (fun t => l.length - t.1) (0, []) ⟨by omega, rfl⟩ ?_ ?_
  ·
    exact by_less
  · rintro ⟨i, last⟩ ⟨hi, hI⟩
    dsimp only at hi hI ⊢
    rcases drop_case hi with ⟨h1, h2⟩ | ⟨p, h1, h2, h3⟩
    · rw [h1] at hI
      simp only [wrongRowsGo] at hI
      repeat (first | ((with_reducible apply s1); exact rfl) | (with_reducible first | apply CW.seq | apply CW.block | apply CW.region | apply CW.draw | apply CW.skip | apply CW.exit | apply CW.ret | apply q_then | apply q_then_exit | apply q_then_ret | apply q_block | apply q_block_ret | apply q_block_hit | apply q_ret | apply q_end | apply q_loop_exit | apply q_loop_ret | apply q_loopT_exit | apply q_loopT_ret | apply RW.nil) | ((with_reducible apply s3); exact rfl; exact by_k) | ((with_reducible apply s2); exact rfl; exact by_k) | ((with_reducible apply s4); exact rfl) | ((with_reducible apply s5); (first | exact by_oa); exact by_g) | ((with_reducible apply CW.cond_t); exact rfl; exact by_ks) | ((with_reducible apply CW.cond_f); exact rfl; exact by_ks) | ((with_reducible apply q_block_miss); exact rfl) | (refine And.intro (show chk [] [] _ _ = true by kernel_rfl) ?_))
      exact .one (.tmp rfl (.one (.d (dle_int hI))))
    · rw [h1] at hI
      simp only [wrongRowsGo] at hI
      have hc := ok_key p.key (hk p (List.mem_of_getElem? h2))
      cases h4 : key p.key
      · rw [if_pos h4] at hI
        repeat (first | ((with_reducible apply s1); exact rfl) | (with_reducible first | apply CW.seq | apply CW.block | apply CW.region | apply CW.draw | apply CW.skip | apply CW.exit | apply CW.ret | apply q_then | apply q_then_exit | apply q_then_ret | apply q_block | apply q_block_ret | apply q_block_hit | apply q_ret | apply q_end | apply q_loop_exit | apply q_loop_ret | apply q_loopT_exit | apply q_loopT_ret | apply RW.nil) | ((with_reducible apply s3); exact rfl; exact by_k) | ((with_reducible apply s2); exact rfl; exact by_k) | ((with_reducible apply s4); exact rfl) | ((with_reducible apply s5); (first | (focus ((with_reducible apply a_call); exact hc; exact rfl; (repeat (first | exact SubsE.nil | (apply SubsE.cons; exact rfl; (first | exact .d (.refl _) | exact .d (.nil _) | exact .agg rfl (.refl _) | exact .pd | exact .ptr rfl); (first | exact trivial | exact ⟨rfl, trivial⟩)))); done)) | exact by_oa); exact by_g) | ((with_reducible apply CW.cond_t); exact rfl; exact by_ks) | ((with_reducible apply CW.cond_f); exact rfl; exact by_ks) | ((with_reducible apply q_block_miss); exact rfl) | (refine And.intro (show chk [] [] _ _ = true by kernel_rfl) ?_))
        exact .one (.tmp rfl (.one (.d (dle_int hI))))
      · rw [if_neg (by simp [h4])] at hI
        by_cases h5 : 0 < i
        · cases h6 : sle p.key last
          · rw [if_neg (by simp [h6])] at hI
            have h6' : (Go.Op.bytesLess p.key last || decide (p.key = last)) = false := h6
            by_cases h7 : 1073741824 < p.n
            · rw [if_pos (.inl h7)] at hI
              repeat (first | ((with_reducible apply s1); exact rfl) | (with_reducible first | apply CW.seq | apply CW.block | apply CW.region | apply CW.draw | apply CW.skip | apply CW.exit | apply CW.ret | apply q_then | apply q_then_exit | apply q_then_ret | apply q_block | apply q_block_ret | apply q_block_hit | apply q_ret | apply q_end | apply q_loop_exit | apply q_loop_ret | apply q_loopT_exit | apply q_loopT_ret | apply RW.nil) | ((with_reducible apply s3); exact rfl; exact by_k) | ((with_reducible apply s2); exact rfl; exact by_k) | ((with_reducible apply s4); exact rfl) | ((with_reducible apply s5); (first | (focus ((with_reducible apply a_call); exact hc; exact rfl; (repeat (first | exact SubsE.nil | (apply SubsE.cons; exact rfl; (first | exact .d (.refl _) | exact .d (.nil _) | exact .agg rfl (.refl _) | exact .pd | exact .ptr rfl); (first | exact trivial | exact ⟨rfl, trivial⟩)))); done)) | exact by_oa); exact by_g) | ((with_reducible apply CW.cond_t); exact rfl; exact by_ks) | ((with_reducible apply CW.cond_f); exact rfl; exact by_ks) | ((with_reducible apply q_block_miss); exact rfl) | (refine And.intro (show chk [] [] _ _ = true by kernel_rfl) ?_))
              exact .one (.tmp rfl (.one (.d (dle_int hI))))
            · by_cases h8 : p.n < -1073741824
              · rw [if_pos (.inr h8)] at hI
                repeat (first | ((with_reducible apply s1); exact rfl) | (with_reducible first | apply CW.seq | apply CW.block | apply CW.region | apply CW.draw | apply CW.skip | apply CW.exit | apply CW.ret | apply q_then | apply q_then_exit | apply q_then_ret | apply q_block | apply q_block_ret | apply q_block_hit | apply q_ret | apply q_end | apply q_loop_exit | apply q_loop_ret | apply q_loopT_exit | apply q_loopT_ret | apply RW.nil) | ((with_reducible apply s3); exact rfl; exact by_k) | ((with_reducible apply s2); exact rfl; exact by_k) | ((with_reducible apply s4); exact rfl) | ((with_reducible apply s5); (first | (focus ((with_reducible apply a_call); exact hc; exact rfl; (repeat (first | exact SubsE.nil | (apply SubsE.cons; exact rfl; (first | exact .d (.refl _) | exact .d (.nil _) | exact .agg rfl (.refl _) | exact .pd | exact .ptr rfl); (first | exact trivial | exact ⟨rfl, trivial⟩)))); done)) | exact by_oa); exact by_g) | ((with_reducible apply CW.cond_t); exact rfl; exact by_ks) | ((with_reducible apply CW.cond_f); exact rfl; exact by_ks) | ((with_reducible apply q_block_miss); exact rfl) | (refine And.intro (show chk [] [] _ _ = true by kernel_rfl) ?_))
                exact .one (.tmp rfl (.one (.d (dle_int hI))))
              · rw [if_neg (by omega)] at hI
                repeat (first | ((with_reducible apply s1); exact rfl) | (with_reducible first | apply CW.seq | apply CW.block | apply CW.region | apply CW.draw | apply CW.skip | apply CW.exit | apply CW.ret | apply q_then | apply q_then_exit | apply q_then_ret | apply q_block | apply q_block_ret | apply q_block_hit | apply q_ret | apply q_end | apply q_loop_exit | apply q_loop_ret | apply q_loopT_exit | apply q_loopT_ret | apply RW.nil) | ((with_reducible apply s3); exact rfl; exact by_k) | ((with_reducible apply s2); exact rfl; exact by_k) | ((with_reducible apply s4); exact rfl) | ((with_reducible apply s5); (first | (focus ((with_reducible apply a_call); exact hc; exact rfl; (repeat (first | exact SubsE.nil | (apply SubsE.cons; exact rfl; (first | exact .d (.refl _) | exact .d (.nil _) | exact .agg rfl (.refl _) | exact .pd | exact .ptr rfl); (first | exact trivial | exact ⟨rfl, trivial⟩)))); done)) | exact by_oa); exact by_g) | ((with_reducible apply CW.cond_t); exact rfl; exact by_ks) | ((with_reducible apply CW.cond_f); exact rfl; exact by_ks) | ((with_reducible apply q_block_miss); exact rfl) | (refine And.intro (show chk [] [] _ _ = true by kernel_rfl) ?_))
                refine q_loopT (i + 1, _) ⟨by omega, hI⟩ (by dsimp only; omega) ?_
                exact by_less
          · rw [if_pos ⟨h5, h6⟩] at hI
            have h6' : (Go.Op.bytesLess p.key last || decide (p.key = last)) = true := h6
            repeat (first | ((with_reducible apply s1); exact rfl) | (with_reducible first | apply CW.seq | apply CW.block | apply CW.region | apply CW.draw | apply CW.skip | apply CW.exit | apply CW.ret | apply q_then | apply q_then_exit | apply q_then_ret | apply q_block | apply q_block_ret | apply q_block_hit | apply q_ret | apply q_end | apply q_loop_exit | apply q_loop_ret | apply q_loopT_exit | apply q_loopT_ret | apply RW.nil) | ((with_reducible apply s3); exact rfl; exact by_k) | ((with_reducible apply s2); exact rfl; exact by_k) | ((with_reducible apply s4); exact rfl) | ((with_reducible apply s5); (first | (focus ((with_reducible apply a_call); exact hc; exact rfl; (repeat (first | exact SubsE.nil | (apply SubsE.cons; exact rfl; (first | exact .d (.refl _) | exact .d (.nil _) | exact .agg rfl (.refl _) | exact .pd | exact .ptr rfl); (first | exact trivial | exact ⟨rfl, trivial⟩)))); done)) | exact by_oa); exact by_g) | ((with_reducible apply CW.cond_t); exact rfl; exact by_ks) | ((with_reducible apply CW.cond_f); exact rfl; exact by_ks) | ((with_reducible apply q_block_miss); exact rfl) | (refine And.intro (show chk [] [] _ _ = true by kernel_rfl) ?_))
            exact .one (.tmp rfl (.one (.d (dle_int hI))))
        · rw [if_neg (by simp; omega)] at hI
          by_cases h7 : 1073741824 < p.n
          · rw [if_pos (.inl h7)] at hI
            repeat (first | ((with_reducible apply s1); exact rfl) | (with_reducible first | apply CW.seq | apply CW.block | apply CW.region | apply CW.draw | apply CW.skip | apply CW.exit | apply CW.ret | apply q_then | apply q_then_exit | apply q_then_ret | apply q_block | apply q_block_ret | apply q_block_hit | apply q_ret | apply q_end | apply q_loop_exit | apply q_loop_ret | apply q_loopT_exit | apply q_loopT_ret | apply RW.nil) | ((with_reducible apply s3); exact rfl; exact by_k) | ((with_reducible apply s2); exact rfl; exact by_k) | ((with_reducible apply s4); exact rfl) | ((with_reducible apply s5); (first | (focus ((with_reducible apply a_call); exact hc; exact rfl; (repeat (first | exact SubsE.nil | (apply SubsE.cons; exact rfl; (first | exact .d (.refl _) | exact .d (.nil _) | exact .agg rfl (.refl _) | exact .pd | exact .ptr rfl); (first | exact trivial | exact ⟨rfl, trivial⟩)))); done)) | exact by_oa); exact by_g) | ((with_reducible apply CW.cond_t); exact rfl; exact by_ks) | ((with_reducible apply CW.cond_f); exact rfl; exact by_ks) | ((with_reducible apply q_block_miss); exact rfl) | (refine And.intro (show chk [] [] _ _ = true by kernel_rfl) ?_))
            exact .one (.tmp rfl (.one (.d (dle_int hI))))
          · by_cases h8 : p.n < -1073741824
            · rw [if_pos (.inr h8)] at hI
              repeat (first | ((with_reducible apply s1); exact rfl) | (with_reducible first | apply CW.seq | apply CW.block | apply CW.region | apply CW.draw | apply CW.skip | apply CW.exit | apply CW.ret | apply q_then | apply q_then_exit | apply q_then_ret | apply q_block | apply q_block_ret | apply q_block_hit | apply q_ret | apply q_end | apply q_loop_exit | apply q_loop_ret | apply q_loopT_exit | apply q_loopT_ret | apply RW.nil) | ((with_reducible apply s3); exact rfl; exact by_k) | ((with_reducible apply s2); exact rfl; exact by_k) | ((with_reducible apply s4); exact rfl) | ((with_reducible apply s5); (first | (focus ((with_reducible apply a_call); exact hc; exact rfl; (repeat (first | exact SubsE.nil | (apply SubsE.cons; exact rfl; (first | exact .d (.refl _) | exact .d (.nil _) | exact .agg rfl (.refl _) | exact .pd | exact .ptr rfl); (first | exact trivial | exact ⟨rfl, trivial⟩)))); done)) | exact by_oa); exact by_g) | ((with_reducible apply CW.cond_t); exact rfl; exact by_ks) | ((with_reducible apply CW.cond_f); exact rfl; exact by_ks) | ((with_reducible apply q_block_miss); exact rfl) | (refine And.intro (show chk [] [] _ _ = true by kernel_rfl) ?_))
              exact .one (.tmp rfl (.one (.d (dle_int hI))))
            · rw [if_neg (by omega)] at hI
              repeat (first | ((with_reducible apply s1); exact rfl) | (with_reducible first | apply CW.seq | apply CW.block | apply CW.region | apply CW.draw | apply CW.skip | apply CW.exit | apply CW.ret | apply q_then | apply q_then_exit | apply q_then_ret | apply q_block | apply q_block_ret | apply q_block_hit | apply q_ret | apply q_end | apply q_loop_exit | apply q_loop_ret | apply q_loopT_exit | apply q_loopT_ret | apply RW.nil) | ((with_reducible apply s3); exact rfl; exact by_k) | ((with_reducible apply s2); exact rfl; exact by_k) | ((with_reducible apply s4); exact rfl) | ((with_reducible apply s5); (first | (focus ((with_reducible apply a_call); exact hc; exact rfl; (repeat (first | exact SubsE.nil | (apply SubsE.cons; exact rfl; (first | exact .d (.refl _) | exact .d (.nil _) | exact .agg rfl (.refl _) | exact .pd | exact .ptr rfl); (first | exact trivial | exact ⟨rfl, trivial⟩)))); done)) | exact by_oa); exact by_g) | ((with_reducible apply CW.cond_t); exact rfl; exact by_ks) | ((with_reducible apply CW.cond_f); exact rfl; exact by_ks) | ((with_reducible apply q_block_miss); exact rfl) | (refine And.intro (show chk [] [] _ _ = true by kernel_rfl) ?_))
              refine q_loopT (i + 1, _) ⟨by omega, hI⟩ (by dsimp only; omega) ?_
              exact by_less

end Go.Proofs.YtembfadhnkabhaaGreatDoor

/-! L1 -/
/-
  The law TidyTells answers true of whatever data.
-/
namespace Go.Proofs.YtembfadhnkabhaaGreatDoor
open Go.AX Go.RF

set_option maxRecDepth 100000
set_option maxHeartbeats 8000000

theorem sumLen_eq (bs : List (List Deed)) : sumLen bs = (bs.map List.length).sum := by
  induction bs with
  | nil => rfl
  | cons b bs ih => simp [sumLen, ih]
end Go.Proofs.YtembfadhnkabhaaGreatDoor

/-! L6 -/
/-
  The law RunTells answers true of whatever data.
-/
namespace Go.Proofs.YtembfadhnkabhaaGreatDoor
open Go.AX Go.RF

set_option maxRecDepth 100000
set_option maxHeartbeats 8000000

theorem ok_pgoE (e : Engine) (at_ : Int) (hs : e.Sm) (hS : SInv e) (hW : WInv e) (hc : chOk e.chains) (hn : e.ends.length = e.deeds.length) :
    FnOk Tryz.prog 20 [.d (.agg e.enc), .d (dint at_)] (.tup [.agg (goE e at_).1.enc, dint (goE e at_).2]) := by
  have hdl := hs.d
  have co := ok_planOwn e hs
  unfold goE
  by_cases h1 : at_ < 0
  · rw [if_pos h1]
    refine fnOk_of tbl_ok mixed_ok Tryz.func20 rfl (by kernel_rfl) rfl rfl fun w0 own0 => ?_
    repeat (first | ((with_reducible apply s1); exact rfl) | (with_reducible first | apply CW.seq | apply CW.block | apply CW.region | apply CW.draw | apply CW.skip | apply CW.exit | apply CW.ret | apply q_then | apply q_then_exit | apply q_then_ret | apply q_block | apply q_block_ret | apply q_block_hit | apply q_ret | apply q_end | apply q_loop_exit | apply q_loop_ret | apply q_loopT_exit | apply q_loopT_ret | apply RW.nil) | ((with_reducible apply s3); exact rfl; exact by_k) | ((with_reducible apply s2); exact rfl; exact by_k) | ((with_reducible apply s4); exact rfl) | ((with_reducible apply s5); (first | (focus ((with_reducible apply a_call); exact co; exact rfl; (repeat (first | exact SubsE.nil | (apply SubsE.cons; exact rfl; (first | exact .d (.refl _) | exact .d (.nil _) | exact .agg rfl (.refl _) | exact .pd | exact .ptr rfl); (first | exact trivial | exact ⟨rfl, trivial⟩)))); done)) | exact by_oa); exact by_g) | ((with_reducible apply CW.cond_t); exact rfl; exact by_ks) | ((with_reducible apply CW.cond_f); exact rfl; exact by_ks) | ((with_reducible apply q_block_miss); exact rfl) | (refine And.intro (show chk [] [] _ _ = true by kernel_rfl) ?_))
    exact .two (.cell rfl rfl rfl rfl (.aggd rfl (.refl _))) (.tmp rfl (.one (.d (.refl _))))
  rw [if_neg h1]
  obtain ⟨A, rfl⟩ := Int.eq_ofNat_of_zero_le (show 0 ≤ at_ by omega)
  rw [Int.toNat_natCast]
  unfold goAt
  cases hd : e.deeds[A]? with
  | none =>
    have hge : e.deeds.length ≤ A := List.getElem?_eq_none_iff.1 hd
    refine fnOk_of tbl_ok mixed_ok Tryz.func20 rfl (by kernel_rfl) rfl rfl fun w0 own0 => ?_
    repeat (first | ((with_reducible apply s1); exact rfl) | (with_reducible first | apply CW.seq | apply CW.block | apply CW.region | apply CW.draw | apply CW.skip | apply CW.exit | apply CW.ret | apply q_then | apply q_then_exit | apply q_then_ret | apply q_block | apply q_block_ret | apply q_block_hit | apply q_ret | apply q_end | apply q_loop_exit | apply q_loop_ret | apply q_loopT_exit | apply q_loopT_ret | apply RW.nil) | ((with_reducible apply s3); exact rfl; exact by_k) | ((with_reducible apply s2); exact rfl; exact by_k) | ((with_reducible apply s4); exact rfl) | ((with_reducible apply s5); (first | (focus ((with_reducible apply a_call); exact co; exact rfl; (repeat (first | exact SubsE.nil | (apply SubsE.cons; exact rfl; (first | exact .d (.refl _) | exact .d (.nil _) | exact .agg rfl (.refl _) | exact .pd | exact .ptr rfl); (first | exact trivial | exact ⟨rfl, trivial⟩)))); done)) | exact by_oa); exact by_g) | ((with_reducible apply CW.cond_t); exact rfl; exact by_ks) | ((with_reducible apply CW.cond_f); exact rfl; exact by_ks) | ((with_reducible apply q_block_miss); exact rfl) | (refine And.intro (show chk [] [] _ _ = true by kernel_rfl) ?_))
    exact .two (.cell rfl rfl rfl rfl (.aggd rfl (.refl _))) (.tmp rfl (.one (.d (.refl _))))
  | some d =>
    have hA := (List.getElem?_eq_some_iff.1 hd).1
    dsimp only
    obtain ⟨s, hsA⟩ : ∃ s, e.state[A]? = some s := ⟨e.state[A]'(by rw [hW.l]; exact hA), List.getElem?_eq_getElem (by rw [hW.l]; exact hA)⟩
    by_cases hs1 : s = 1
    · subst hs1
      rw [if_pos hsA]
      refine fnOk_of tbl_ok mixed_ok Tryz.func20 rfl (by kernel_rfl) rfl rfl fun w0 own0 => ?_
      repeat (first | ((with_reducible apply s1); exact rfl) | (with_reducible first | apply CW.seq | apply CW.block | apply CW.region | apply CW.draw | apply CW.skip | apply CW.exit | apply CW.ret | apply q_then | apply q_then_exit | apply q_then_ret | apply q_block | apply q_block_ret | apply q_block_hit | apply q_ret | apply q_end | apply q_loop_exit | apply q_loop_ret | apply q_loopT_exit | apply q_loopT_ret | apply RW.nil) | ((with_reducible apply s3); exact rfl; exact by_k) | ((with_reducible apply s2); exact rfl; exact by_k) | ((with_reducible apply s4); exact rfl) | ((with_reducible apply s5); (first | (focus ((with_reducible apply a_call); exact co; exact rfl; (repeat (first | exact SubsE.nil | (apply SubsE.cons; exact rfl; (first | exact .d (.refl _) | exact .d (.nil _) | exact .agg rfl (.refl _) | exact .pd | exact .ptr rfl); (first | exact trivial | exact ⟨rfl, trivial⟩)))); done)) | exact by_oa); exact by_g) | ((with_reducible apply CW.cond_t); exact rfl; exact by_ks) | ((with_reducible apply CW.cond_f); exact rfl; exact by_ks) | ((with_reducible apply q_block_miss); exact rfl) | (refine And.intro (show chk [] [] _ _ = true by kernel_rfl) ?_))
      exact .two (.cell rfl rfl rfl rfl (.aggd rfl (.refl _))) (.tmp rfl (.one (.d (.refl _))))
    rw [if_neg (by rw [hsA]; simpa using hs1)]
    have hw := hW.d d (List.mem_of_getElem? hd)
    have cn := ok_pneeds e A d hs hd (wrong_keys hw).1 hS.k hW.nb
    cases hne : needs e A d with
    | nil =>
      rw [if_pos rfl]
      rw [hne] at cn
      have := pgo_loop e A d hs hd hW.l hn hS.k hw hc (e.base + e.deeds.length) (fun c hc => ⟨hS.v c hc, hS.b c hc⟩) hne s hsA hs1 cn
      rw [pgoNew_eq hW hd] at this
      exact this
    | cons x l =>
      rw [if_neg (by simp)]
      rw [hne] at cn
      have hnl : (needs e A d).length ≤ 268435456 := by
        have := needs_len e.chains e.base (e.base + A) (keysD d) (List.range A) 0
        unfold needs
        simp at this
        omega
      rw [hne] at hnl
      have hpos : ((x :: l).length : Int) > 0 := by simp
      refine fnOk_of tbl_ok mixed_ok Tryz.func20 rfl (by kernel_rfl) rfl rfl fun w0 own0 => ?_
      repeat (first | ((with_reducible apply s1); exact rfl) | (with_reducible first | apply CW.seq | apply CW.block | apply CW.region | apply CW.draw | apply CW.skip | apply CW.exit | apply CW.ret | apply q_then | apply q_then_exit | apply q_then_ret | apply q_block | apply q_block_ret | apply q_block_hit | apply q_ret | apply q_end | apply q_loop_exit | apply q_loop_ret | apply q_loopT_exit | apply q_loopT_ret | apply RW.nil) | ((with_reducible apply s3); exact rfl; exact by_k) | ((with_reducible apply s2); exact rfl; exact by_k) | ((with_reducible apply s4); exact rfl) | ((with_reducible apply s5); (first | (focus ((with_reducible apply a_call); exact co; exact rfl; (repeat (first | exact SubsE.nil | (apply SubsE.cons; exact rfl; (first | exact .d (.refl _) | exact .d (.nil _) | exact .agg rfl (.refl _) | exact .pd | exact .ptr rfl); (first | exact trivial | exact ⟨rfl, trivial⟩)))); done)) | (focus ((with_reducible apply a_call); exact cn; exact rfl; (repeat (first | exact SubsE.nil | (apply SubsE.cons; exact rfl; (first | exact .d (.refl _) | exact .d (.nil _) | exact .agg rfl (.refl _) | exact .pd | exact .ptr rfl); (first | exact trivial | exact ⟨rfl, trivial⟩)))); done)) | exact by_oa); exact by_g) | ((with_reducible apply CW.cond_t); exact rfl; exact by_ks) | ((with_reducible apply CW.cond_f); exact rfl; exact by_ks) | ((with_reducible apply q_block_miss); exact rfl) | (refine And.intro (show chk [] [] _ _ = true by kernel_rfl) ?_))
      exact .two (.cell rfl rfl rfl rfl (.aggd rfl (.refl _))) (.tmp rfl (.one (.d (.refl _))))

end Go.Proofs.YtembfadhnkabhaaGreatDoor

/-! G25 -/
/-
  Contract of run.All: all deeds are done, in whatever order picks tell.
-/
namespace Go.Proofs.YtembfadhnkabhaaGreatDoor
open Go.AX Go.RF

set_option maxRecDepth 100000
set_option maxHeartbeats 8000000

theorem pick_at {a : Int} {n : Nat} (h : 0 < n) : (a.tmod n + n).tmod n = (pickAt a n : Int) ∧ -(n : Int) < a.tmod n ∧ a.tmod n < n := by
  have h1 := Int.tmod_lt_of_pos a (show (0 : Int) < n by omega)
  have h2 := Int.tmod_lt_of_pos (-a) (show (0 : Int) < n by omega)
  rw [Int.neg_tmod] at h2
  have h3 : 0 ≤ (a.tmod n + n).tmod n := Int.tmod_nonneg _ (by omega)
  unfold pickAt
  omega

theorem ok_runAll (e : Engine) (p : List Int) (N : Nat) (hE : EInv e N) (hN : N ≤ 100000000) (hS : SInv e) (hW : WInv e) (hp : p.length ≤ 1073741824) :
    FnOk Tryz.prog 13 [.d (.agg e.enc), .d (encInts p)] (.one (.agg (allE e p).enc)) := by
  refine fnOk_of tbl_ok mixed_ok Tryz.func13 rfl (by kernel_rfl) rfl rfl fun w0 own0 => ?_
  have c1 := ok_planOwn e (hE.z.sm (by omega))
  repeat (first | ((with_reducible apply s1); exact rfl) | (with_reducible first | apply CW.seq | apply CW.block | apply CW.region | apply CW.draw | apply CW.skip | apply CW.exit | apply CW.ret | apply q_then | apply q_then_exit | apply q_then_ret | apply q_block | apply q_block_ret | apply q_block_hit | apply q_ret | apply q_end | apply q_loop_exit | apply q_loop_ret | apply q_loopT_exit | apply q_loopT_ret | apply RW.nil) | ((with_reducible apply s3); exact rfl; exact by_k) | ((with_reducible apply s2); exact rfl; exact by_k) | ((with_reducible apply s4); exact rfl) | ((with_reducible apply s5); (first | (focus ((with_reducible apply a_call); exact c1; exact rfl; (repeat (first | exact SubsE.nil | (apply SubsE.cons; exact rfl; (first | exact .d (.refl _) | exact .d (.nil _) | exact .agg rfl (.refl _) | exact .pd | exact .ptr rfl); (first | exact trivial | exact ⟨rfl, trivial⟩)))); done)) | exact by_oa); exact by_g) | ((with_reducible apply CW.cond_t); exact rfl; exact by_ks) | ((with_reducible apply CW.cond_f); exact rfl; exact by_ks) | ((with_reducible apply q_block_miss); exact rfl) | (refine And.intro (show chk [] [] _ _ = true by kernel_rfl) ?_))
  refine CW.loopT (fun t : Engine × List Int => [sp 4 1, ob 1 noE.enc0, sp 5 2, ob 2 t.1.enc, sd 1 (encInts t.2), nxt 3])
    (fun t => EInv t.1 N ∧ SInv t.1 ∧ WInv t.1 ∧ t.2.length ≤ 1073741824 ∧ allE t.1 t.2 = allE e p) (fun t => waitN t.1.state) (e, p) ⟨hE, hS, hW, hp, rfl⟩ ?_ ?_
  ·
    exact by_less
  · rintro ⟨t, q⟩ ⟨hT, hS, hW, hq, hI⟩
    dsimp only at hT hS hW hq hI ⊢
    have hsm := hT.z.sm (by omega)
    have cr := ok_pready t hsm hT.z.s (fun d hd => (wrong_keys (hW.d d hd)).1) hS.k hW.nb
    by_cases hr : ready t = []
    · rw [all_nil hr] at hI
      rw [hr] at cr
      repeat (first | ((with_reducible apply s1); exact rfl) | (with_reducible first | apply CW.seq | apply CW.block | apply CW.region | apply CW.draw | apply CW.skip | apply CW.exit | apply CW.ret | apply q_then | apply q_then_exit | apply q_then_ret | apply q_block | apply q_block_ret | apply q_block_hit | apply q_ret | apply q_end | apply q_loop_exit | apply q_loop_ret | apply q_loopT_exit | apply q_loopT_ret | apply RW.nil) | ((with_reducible apply s3); exact rfl; exact by_k) | ((with_reducible apply s2); exact rfl; exact by_k) | ((with_reducible apply s4); exact rfl) | ((with_reducible apply s5); (first | (focus ((with_reducible apply a_call); exact cr; exact rfl; (repeat (first | exact SubsE.nil | (apply SubsE.cons; exact rfl; (first | exact .d (.refl _) | exact .d (.nil _) | exact .agg rfl (.refl _) | exact .pd | exact .ptr rfl); (first | exact trivial | exact ⟨rfl, trivial⟩)))); done)) | exact by_oa); exact by_g) | ((with_reducible apply CW.cond_t); exact rfl; exact by_ks) | ((with_reducible apply CW.cond_f); exact rfl; exact by_ks) | ((with_reducible apply q_block_miss); exact rfl) | (refine And.intro (show chk [] [] _ _ = true by kernel_rfl) ?_))
      exact .one (.cell rfl rfl rfl rfl (.aggd (ds := t.enc) rfl (dle_eq (by rw [hI]))))
    · have hn := List.length_pos_iff.2 hr
      have hpi := pickI_lt hr q
      obtain ⟨x, hx⟩ : ∃ x, (ready t)[pickI (ready t) q]? = some x := ⟨_, List.getElem?_eq_getElem hpi⟩
      obtain ⟨A, d, h1, h2, h3, h4, h5, h6, h7⟩ := all_step hT.z.s hx
      rw [h7] at hI
      have hrl : (ready t).length ≤ 100000000 := by
        have := readyGo_len (e := t) t.state 0
        have h5 := hT.z.d
        have h6 := hT.z.s
        unfold ready; omega
      have cg := ok_pgoE t x hsm hS hW hT.c hT.z.n
      have hT2 := hT.goE x
      have hS2 := hS.goE x
      have hW2 := hW.goE x
      generalize ready t = L at *
      generalize (goE t x).2 = v at cg
      generalize (goE t x).1 = t2 at *
      have hl0 : ¬ L.length = 0 := by omega
      cases q with
      | nil =>
        repeat (first | ((with_reducible apply s1); exact rfl) | (with_reducible first | apply CW.seq | apply CW.block | apply CW.region | apply CW.draw | apply CW.skip | apply CW.exit | apply CW.ret | apply q_then | apply q_then_exit | apply q_then_ret | apply q_block | apply q_block_ret | apply q_block_hit | apply q_ret | apply q_end | apply q_loop_exit | apply q_loop_ret | apply q_loopT_exit | apply q_loopT_ret | apply RW.nil) | ((with_reducible apply s3); exact rfl; exact by_k) | ((with_reducible apply s2); exact rfl; exact by_k) | ((with_reducible apply s4); exact rfl) | ((with_reducible apply s5); (first | (focus ((with_reducible apply a_call); exact cr; exact rfl; (repeat (first | exact SubsE.nil | (apply SubsE.cons; exact rfl; (first | exact .d (.refl _) | exact .d (.nil _) | exact .agg rfl (.refl _) | exact .pd | exact .ptr rfl); (first | exact trivial | exact ⟨rfl, trivial⟩)))); done)) | (focus ((with_reducible apply a_call); exact cg; exact rfl; (repeat (first | exact SubsE.nil | (apply SubsE.cons; exact rfl; (first | exact .d (.refl _) | exact .d (.nil _) | exact .agg rfl (.refl _) | exact .pd | exact .ptr rfl); (first | exact trivial | exact ⟨rfl, trivial⟩)))); done)) | ((with_reducible apply a_ia); (iterate 5 exact rfl); exact idx_map (k := 0) hx) | exact by_oa); exact by_g) | ((with_reducible apply CW.cond_t); exact rfl; exact by_ks) | ((with_reducible apply CW.cond_f); exact rfl; exact by_ks) | ((with_reducible apply q_block_miss); exact rfl) | (refine And.intro (show chk [] [] _ _ = true by kernel_rfl) ?_))
        refine q_loopT (t2, []) ⟨hT2, hS2, hW2, by simp, hI⟩ (by dsimp only; omega) ?_
        exact by_less
      | cons a q =>
        have hp0 : (a :: q)[0]? = some a := rfl
        have hq0 : ¬ (a :: q).length = 0 := by simp
        have hql : q.length ≤ 1073741824 := by simp at hq; omega
        have hlm : (L.map encInt1).length = L.length := List.length_map ..
        obtain ⟨k1, k2, k3⟩ := pick_at (a := a) (n := (L.map encInt1).length) (by omega)
        have hlr : ((L.map encInt1).length : Int) ≠ 0 := by omega
        have hx' : L[pickAt a (L.map encInt1).length]? = some x := by rw [hlm]; exact hx
        have hll : L.length ≤ 100000000 := hrl
        generalize hln : (L.map encInt1).length = ln at k1 k2 k3 hlr hx'
        repeat (first | (with_reducible apply stop_region 8) | ((with_reducible apply s1); exact rfl) | (with_reducible first | apply CW.seq | apply CW.block | apply CW.region | apply CW.draw | apply CW.skip | apply CW.exit | apply CW.ret | apply q_then | apply q_then_exit | apply q_then_ret | apply q_block | apply q_block_ret | apply q_block_hit | apply q_ret | apply q_end | apply q_loop_exit | apply q_loop_ret | apply q_loopT_exit | apply q_loopT_ret | apply RW.nil) | ((with_reducible apply s3); exact rfl; exact by_k) | ((with_reducible apply s2); exact rfl; exact by_k) | ((with_reducible apply s4); exact rfl) | ((with_reducible apply s5); (first | (focus ((with_reducible apply a_call); exact cr; exact rfl; (repeat (first | exact SubsE.nil | (apply SubsE.cons; exact rfl; (first | exact .d (.refl _) | exact .d (.nil _) | exact .agg rfl (.refl _) | exact .pd | exact .ptr rfl); (first | exact trivial | exact ⟨rfl, trivial⟩)))); done)) | ((with_reducible apply a_ia); (iterate 5 exact rfl); exact idx_map (k := 0) hp0) | ((with_reducible apply a_from); (iterate 5 exact rfl); exact cut_from (n := 1) (by simp)) | ((with_reducible apply a_bin); exact rfl; exact rfl; (rw [hln]; exact bin_rem hlr); exact rfl) | ((with_reducible apply a_bin); exact rfl; exact rfl; (rw [hln]; exact bin_add (by omega)); exact rfl) | exact by_oa); exact by_g) | ((with_reducible apply CW.cond_t); exact rfl; exact by_ks) | ((with_reducible apply CW.cond_f); exact rfl; exact by_ks) | ((with_reducible apply q_block_miss); exact rfl) | (refine And.intro (show chk [] [] _ _ = true by kernel_rfl) ?_))
        refine Stop.go ?_
        rw [k1]
        repeat (first | ((with_reducible apply s1); exact rfl) | (with_reducible first | apply CW.seq | apply CW.block | apply CW.region | apply CW.draw | apply CW.skip | apply CW.exit | apply CW.ret | apply q_then | apply q_then_exit | apply q_then_ret | apply q_block | apply q_block_ret | apply q_block_hit | apply q_ret | apply q_end | apply q_loop_exit | apply q_loop_ret | apply q_loopT_exit | apply q_loopT_ret | apply RW.nil) | ((with_reducible apply s3); exact rfl; exact by_k) | ((with_reducible apply s2); exact rfl; exact by_k) | ((with_reducible apply s4); exact rfl) | ((with_reducible apply s5); (first | (focus ((with_reducible apply a_call); exact cg; exact rfl; (repeat (first | exact SubsE.nil | (apply SubsE.cons; exact rfl; (first | exact .d (.refl _) | exact .d (.nil _) | exact .agg rfl (.refl _) | exact .pd | exact .ptr rfl); (first | exact trivial | exact ⟨rfl, trivial⟩)))); done)) | ((with_reducible apply a_ia); (iterate 5 exact rfl); exact idx_map (k := pickAt a ln) hx') | exact by_oa); exact by_g) | ((with_reducible apply CW.cond_t); exact rfl; exact by_ks) | ((with_reducible apply CW.cond_f); exact rfl; exact by_ks) | ((with_reducible apply q_block_miss); exact rfl) | (refine And.intro (show chk [] [] _ _ = true by kernel_rfl) ?_))
        refine q_loopT (t2, q) ⟨hT2, hS2, hW2, hql, hI⟩ (by dsimp only; omega) ?_
        exact by_less

end Go.Proofs.YtembfadhnkabhaaGreatDoor

/-! AxStr -/
/-
  Parts of texts; errors against nil.
-/
namespace Go.AX
open Go.RowKit Go.RF

variable {cx : Cx} {g : Nat → Value} {σ : St} {a : Act} {w w' : World} {nx : Nat}
variable {ty : TypeId} {pos : String} {af : Array Edge} {gd : Option (Nat × Bool)} {d : Nat}

theorem extract_str (s : List UInt8) (l h : Nat) : Value.string ((⟨s.toArray⟩ : ByteArray).extract l h) = str ((s.drop l).take (h - l)) := by
  have : (⟨s.toArray⟩ : ByteArray).extract l h = ⟨((s.drop l).take (h - l)).toArray⟩ := by
    apply ByteArray.ext
    rw [ByteArray.data_extract]
    simp
  rw [this]; rfl
/-- A part of a text, from a place to another one. -/
theorem a_sub {t : TypeId} {x lo hi : Operand} {kd ke : IntKind} {s : List UInt8} {l h : Nat} {ti : TI} (hx : ev σ x = some (.d (.v (str s)))) (hlo : ev σ lo = some (.d (.v (.int kd (l : Int))))) (hhi : ev σ hi = some (.d (.v (.int ke (h : Int)))))
    (ht : tget cx.T t = some ti) (hk : ti.kind = .str) (hd : Nat.blt d cx.n = true) (hlh : l ≤ h) (hh : h ≤ s.length) :
    OA cx σ ⟨some d, .slice t x (some lo) (some hi) none, ty, pos, af, gd⟩ ⟨rdOf x (.d (.v (str s))) ++ (rdOf lo (.d (.v (.int kd (l : Int)))) ++ rdOf hi (.d (.v (.int ke (h : Int))))), [(.s d, .av (.d (.v (str ((s.drop l).take (h - l))))))]⟩ := by
  refine ⟨ok_val rfl (lt_of_blt hd) fun σ1 a w g nx hs hr => ?_, (ev_out hx).2.append ((ev_out hlo).2.append (ev_out hhi).2)⟩
  have hv := rep_v (hs.ev (ev_out hx).1 hr.left).1
  have h1 := rep_v (hs.ev (ev_out hlo).1 hr.right.left).1
  have h2 := rep_v (hs.ev (ev_out hhi).1 hr.right.right).1
  have hu : cx.P.underlying t = some .string := by have := (cx.hT t ti ht).kind; rw [hk] at this; exact this.1
  refine ⟨_, w, ?_, Below.refl _ _, Rd.v _, trivial⟩
  have hsz : (⟨s.toArray⟩ : ByteArray).size = s.length := rfl
  have e1 : ¬ ((h : Int) < 0) := by omega
  have e2 : ¬ ((l : Int) < 0) := by omega
  rw [← extract_str]
  simp [execOp, hv, h1, h2, str, Instr.sliceAt, Instr.slice, run_underlying hu, Instr.sliceBounds, Instr.sliceBound, asIntOf, hsz, hlh, hh, e1, e2]
theorem a_subF {t : TypeId} {x lo : Operand} {kd : IntKind} {s : List UInt8} {l : Nat} {ti : TI} (hx : ev σ x = some (.d (.v (str s)))) (hlo : ev σ lo = some (.d (.v (.int kd (l : Int)))))
    (ht : tget cx.T t = some ti) (hk : ti.kind = .str) (hd : Nat.blt d cx.n = true) (hh : l ≤ s.length) :
    OA cx σ ⟨some d, .slice t x (some lo) none none, ty, pos, af, gd⟩ ⟨rdOf x (.d (.v (str s))) ++ rdOf lo (.d (.v (.int kd (l : Int)))), [(.s d, .av (.d (.v (str (s.drop l)))))]⟩ := by
  refine ⟨ok_val rfl (lt_of_blt hd) fun σ1 a w g nx hs hr => ?_, (ev_out hx).2.append (ev_out hlo).2⟩
  have hv := rep_v (hs.ev (ev_out hx).1 hr.left).1
  have h1 := rep_v (hs.ev (ev_out hlo).1 hr.right).1
  have hu : cx.P.underlying t = some .string := by have := (cx.hT t ti ht).kind; rw [hk] at this; exact this.1
  refine ⟨_, w, ?_, Below.refl _ _, Rd.v _, trivial⟩
  have hsz : (⟨s.toArray⟩ : ByteArray).size = s.length := rfl
  have e2 : ¬ ((l : Int) < 0) := by omega
  have he := extract_str s l s.length
  rw [List.take_of_length_le (by simp)] at he
  rw [← he]
  simp [execOp, hv, h1, str, Instr.sliceAt, Instr.slice, run_underlying hu, Instr.sliceBounds, Instr.sliceBound, asIntOf, hsz, hh, e2]

/-- No error, held against nil. -/
theorem a_noerr {t t' : TypeId} {x : Operand} {ms : Array (String × TypeId)} (hx : ev σ x = some (.d (.v .nilIface))) (ht : cx.P.underlying t = some (.interface ms)) (hd : Nat.blt d cx.n = true) :
    OA cx σ ⟨some d, .binOp .eql t x (.const .nilIface) t', ty, pos, af, gd⟩ ⟨rdOf x (.d (.v .nilIface)), [(.s d, .av (.d (.v (.bool true))))]⟩ := by
  refine ⟨ok_val rfl (lt_of_blt hd) fun σ1 a w g nx hs hr => ?_, (ev_out hx).2⟩
  have hv := rep_v (hs.ev (ev_out hx).1 hr).1
  refine ⟨.bool true, w, ?_, Below.refl _ _, Rd.v _, trivial⟩
  have h : ∀ d : Nat, (Op.equalIn (d + 1) t .nilIface .nilIface).run cx.P w = .ok true w := fun d => by
    simp [Op.equalIn, run_underlying ht]
  have hg : eqGuard .eql t x (.const .nilIface) .nilIface .nilIface = pure () := by cases x <;> rfl
  have hc : a.eval (.const .nilIface) = .nilIface := rfl
  simp [execOp, hv, hc, hg, binOp, Op.equal, Op.maxDepth, h 9999]

end Go.AX

/-! Tx -/
/-
  What the references' Parse computes of a text, on data.
-/
namespace Go.RF
open Go.AX

/-- A text parted at a text (not empty): what is behind the last one, so far, ahead of what is left. -/
def splitF (sep : Str) : Nat → Str → Str → List Str
  | 0, cur, r => [cur ++ r]
  | n + 1, cur, r =>
    if r.length < sep.length then [cur ++ r]
    else if r.take sep.length = sep then cur :: splitF sep n [] (r.drop sep.length)
    else match r with
      | [] => [cur]
      | c :: t => splitF sep n (cur ++ [c]) t
def split (s sep : Str) : List Str := splitF sep s.length [] s
def words : List Str := [[], [108, 111, 97, 100], [99, 111, 110, 115, 116], [97, 100, 100], [115, 117, 98], [109, 117, 108], [115, 116, 111, 114, 101], [100, 114, 111, 112], [115, 107, 105, 112], [102, 97, 105, 108]]
def kindGo (w : Str) : Nat → Int → List Str → Int
  | _, k, [] => k
  | n, k, x :: r => kindGo w (n + 1) (if 0 < n ∧ x = w then (n : Int) else k) r
def kindOf (w : Str) : Int := kindGo w 0 0 words
/-- A number, as it is written. -/
def numV (s : Str) : Option Int := match Lib.atoiAll s with
  | .ok v => if Lib.itoa v = s then some v else none
  | _ => none
def regV (s : Str) : Option Int := match s with
  | 114 :: r => numV r
  | _ => none
/-- The letters of a form, each with its word. -/
def fillI : Ins → Str → List Str → Option Ins
  | i, [], _ => some i
  | i, _ :: _, [] => some i
  | i, c :: f, w :: ws =>
    if c = 107 then fillI { i with key := w } f ws
    else if c = 110 then match numV w with
      | some n => fillI { i with n := n } f ws
      | none => none
    else match regV w with
      | some x => if c = 114 then fillI { i with a := x } f ws else fillI { i with b := x } f ws
      | none => none
def insP (l : List Str) : Option Ins := match l with
  | [] => none
  | w :: ws => if kindOf w = 0 then none else if ws.length = (form (kindOf w).toNat).length then fillI ⟨kindOf w, 0, 0, 0, []⟩ (form (kindOf w).toNat) ws else none
def insAll : List Str → Option (List Ins)
  | [] => some []
  | p :: r => match insP (split p [32]), insAll r with
    | some i, some l => some (i :: l)
    | _, _ => none
/-- A right deed's text, read. -/
def parseD (s : Str) : Option Deed :=
  if 400 < s.length then none else match split s [59, 32] with
    | p0 :: p1 :: ps => match split p0 [32], split p1 [32], insAll ps with
      | w0 :: rs, w1 :: ws, some code => if w0 = [114, 101, 97, 100, 115] ∧ w1 = [119, 114, 105, 116, 101, 115] ∧ wrongDeed ⟨rs, ws, code⟩ = 0 then some ⟨rs, ws, code⟩ else none
      | _, _, _ => none
    | _ => none

end Go.RF

/-! H1 -/
/-
  Contracts of the references' split, Words, Form.
-/
namespace Go.Proofs.YtembfadhnkabhaaGreatDoor
open Go.AX Go.RF

set_option maxRecDepth 100000
set_option maxHeartbeats 4000000

theorem splitF_len (sep : Str) : ∀ (n : Nat) (cur r : Str), (splitF sep n cur r).length ≤ n + 1
  | 0, cur, r => by simp [splitF]
  | n + 1, cur, r => by
    simp only [splitF]
    split
    · simp
    split
    · have := splitF_len sep n [] (r.drop sep.length); simp; omega
    cases r with
    | nil => simp
    | cons c t => have := splitF_len sep n (cur ++ [c]) t; simp; omega

theorem splitF_succ (sep : Str) (n : Nat) (cur r : Str) : splitF sep (n + 1) cur r = if r.length < sep.length then [cur ++ r]
    else if r.take sep.length = sep then cur :: splitF sep n [] (r.drop sep.length)
    else match r with
      | [] => [cur]
      | c :: t => splitF sep n (cur ++ [c]) t := by cases r <;> rfl

theorem ok_split (s sep : Str) (hs : s.length ≤ 1073741000) (hp : sep ≠ []) (hp2 : sep.length ≤ 1000) : FnOk Tryz.prog 79 [.d (dstr s), .d (dstr sep)] (.one (encStrs (split s sep))) := by
  refine fnOk_of tbl_ok mixed_ok Tryz.func79 rfl (by kernel_rfl) rfl rfl fun w0 own0 => ?_
  have hp0 : 0 < sep.length := List.length_pos_iff.2 hp
  repeat (first | ((with_reducible apply stop_at 3); exact rfl) | ((with_reducible apply s1); exact rfl) | (with_reducible first | apply CW.seq | apply CW.block | apply CW.region | apply CW.draw | apply CW.skip | apply CW.exit | apply CW.ret | apply q_then | apply q_then_exit | apply q_then_ret | apply q_block | apply q_block_ret | apply q_block_hit | apply q_ret | apply q_end | apply q_loop_exit | apply q_loop_ret | apply q_loopT_exit | apply q_loopT_ret | apply RW.nil) | ((with_reducible apply s3); exact rfl; exact by_k) | ((with_reducible apply s2); exact rfl; exact by_k) | ((with_reducible apply s4); exact rfl) | ((with_reducible apply s5); (first | exact by_oa); exact by_g) | ((with_reducible apply CW.cond_t); exact rfl; exact by_ks) | ((with_reducible apply CW.cond_f); exact rfl; exact by_ks) | ((with_reducible apply q_block_miss); exact rfl) | (refine And.intro (show chk [] [] _ _ = true by kernel_rfl) ?_))
  refine Stop.go (CW.stut (stut_promote (i := 5) 9 1) ⟨rfl, rfl, trivial⟩ ?_)
  repeat (first | ((with_reducible apply s1); exact rfl) | (with_reducible first | apply CW.seq | apply CW.block | apply CW.region | apply CW.draw | apply CW.skip | apply CW.exit | apply CW.ret | apply q_then | apply q_then_exit | apply q_then_ret | apply q_block | apply q_block_ret | apply q_block_hit | apply q_ret | apply q_end | apply q_loop_exit | apply q_loop_ret | apply q_loopT_exit | apply q_loopT_ret | apply RW.nil) | ((with_reducible apply s3); exact rfl; exact by_k) | ((with_reducible apply s2); exact rfl; exact by_k) | ((with_reducible apply s4); exact rfl) | ((with_reducible apply s5); (first | exact by_oa); exact by_g) | ((with_reducible apply CW.cond_t); exact rfl; exact by_ks) | ((with_reducible apply CW.cond_f); exact rfl; exact by_ks) | ((with_reducible apply q_block_miss); exact rfl) | (refine And.intro (show chk [] [] _ _ = true by kernel_rfl) ?_))
  refine CW.loopT (fun t : Nat × Nat × List Str => [sd 0 (dstr s), sd 1 (dstr sep), sd 4 (.v nilS), so 5 0 t.2.2.length, oa 0 9 1 (t.2.2.map encStr1), sd 6 (dint t.1), sd 7 (dint t.2.1), nxt 1])
    (fun t => t.1 ≤ t.2.1 ∧ t.2.1 ≤ s.length ∧ t.2.2.length ≤ t.2.1 ∧ ∃ n, s.length ≤ n + t.2.1 ∧ t.2.2 ++ splitF sep n ((s.drop t.1).take (t.2.1 - t.1)) (s.drop t.2.1) = split s sep) (fun t => s.length - t.2.1) (0, 0, []) ⟨by dsimp only; omega, by dsimp only; omega, by dsimp only; simp, s.length, by dsimp only; omega, rfl⟩ ?_ ?_
  ·
    exact by_less
  · rintro ⟨f, i, out⟩ ⟨hf, hi, ho, n, hn, hI⟩
    dsimp only at hf hi ho hn hI ⊢
    have hcr : (s.drop f).take (i - f) ++ s.drop i = s.drop f := by
      have := List.take_append_drop (i - f) (s.drop f)
      rw [List.drop_drop, show f + (i - f) = i by omega] at this
      exact this
    have hrl : (s.drop i).length = s.length - i := by simp
    by_cases h1 : i + sep.length ≤ s.length
    · obtain ⟨n, rfl⟩ : ∃ m, n = m + 1 := ⟨n - 1, by omega⟩
      rw [splitF_succ, if_neg (by omega)] at hI
      have hcut : ((s.drop i).take (i + sep.length - i)) = (s.drop i).take sep.length := by congr 1; omega
      by_cases h2 : (s.drop i).take sep.length = sep
      · rw [if_pos h2] at hI
        have h2' : (s.drop i).take (i + sep.length - i) = sep := hcut.trans h2
        repeat (first | ((with_reducible apply s5); ((with_reducible apply a_bs [[dstr ((s.drop f).take (i - f))]]); (iterate 9 exact rfl); (repeat (first | exact PartsE.nil | (apply PartsE.cons; exact rfl; exact rfl)))); exact by_g) | ((with_reducible apply s1); exact rfl) | (with_reducible first | apply CW.seq | apply CW.block | apply CW.region | apply CW.draw | apply CW.skip | apply CW.exit | apply CW.ret | apply q_then | apply q_then_exit | apply q_then_ret | apply q_block | apply q_block_ret | apply q_block_hit | apply q_ret | apply q_end | apply q_loop_exit | apply q_loop_ret | apply q_loopT_exit | apply q_loopT_ret | apply RW.nil) | ((with_reducible apply s3); exact rfl; exact by_k) | ((with_reducible apply s2); exact rfl; exact by_k) | ((with_reducible apply s4); exact rfl) | ((with_reducible apply s5); (first | ((with_reducible apply (a_sub (l := i) (h := i + sep.length))); (iterate 6 exact rfl); omega; omega) | ((with_reducible apply (a_sub (l := f) (h := i))); (iterate 6 exact rfl); omega; omega) | exact by_oa); exact by_g) | ((with_reducible apply CW.cond_t); exact rfl; exact by_ks) | ((with_reducible apply CW.cond_f); exact rfl; exact by_ks) | ((with_reducible apply q_block_miss); exact rfl) | (refine And.intro (show chk [] [] _ _ = true by kernel_rfl) ?_))
        refine q_loopT (i + sep.length, i + sep.length, out ++ [(s.drop f).take (i - f)]) ⟨by dsimp only; omega, by dsimp only; omega, by dsimp only; simp; omega, n, by dsimp only; omega, ?_⟩ (by dsimp only; omega) ?_
        · dsimp only
          rw [← hI, List.append_assoc, List.drop_drop, Nat.sub_self, List.take_zero]
          rfl
        exact by_less
      · rw [if_neg h2] at hI
        have h2' : ¬ (s.drop i).take (i + sep.length - i) = sep := fun h => h2 (hcut.symm.trans h)
        have hlt : i < s.length := by omega
        rw [List.drop_eq_getElem_cons hlt] at hI
        dsimp only at hI
        repeat (first | ((with_reducible apply s1); exact rfl) | (with_reducible first | apply CW.seq | apply CW.block | apply CW.region | apply CW.draw | apply CW.skip | apply CW.exit | apply CW.ret | apply q_then | apply q_then_exit | apply q_then_ret | apply q_block | apply q_block_ret | apply q_block_hit | apply q_ret | apply q_end | apply q_loop_exit | apply q_loop_ret | apply q_loopT_exit | apply q_loopT_ret | apply RW.nil) | ((with_reducible apply s3); exact rfl; exact by_k) | ((with_reducible apply s2); exact rfl; exact by_k) | ((with_reducible apply s4); exact rfl) | ((with_reducible apply s5); (first | ((with_reducible apply (a_sub (l := i) (h := i + sep.length))); (iterate 6 exact rfl); omega; omega) | exact by_oa); exact by_g) | ((with_reducible apply CW.cond_t); exact rfl; exact by_ks) | ((with_reducible apply CW.cond_f); exact rfl; exact by_ks) | ((with_reducible apply q_block_miss); exact rfl) | (refine And.intro (show chk [] [] _ _ = true by kernel_rfl) ?_))
        refine q_loopT (f, i + 1, out) ⟨by dsimp only; omega, by dsimp only; omega, by dsimp only; omega, n, by dsimp only; omega, ?_⟩ (by dsimp only; omega) ?_
        · dsimp only
          rw [← hI, show i + 1 - f = (i - f) + 1 by omega, List.take_add_one, List.getElem?_drop, show f + (i - f) = i by omega, List.getElem?_eq_getElem hlt]
          rfl
        exact by_less
    · have hfin : out ++ [s.drop f] = split s sep := by
        rw [← hI]
        cases n with
        | zero => rw [splitF, hcr]
        | succ n => rw [splitF_succ, if_pos (by omega), hcr]
      repeat (first | ((with_reducible apply s5); ((with_reducible apply a_bs [[dstr (s.drop f)]]); (iterate 9 exact rfl); (repeat (first | exact PartsE.nil | (apply PartsE.cons; exact rfl; exact rfl)))); exact by_g) | ((with_reducible apply s1); exact rfl) | (with_reducible first | apply CW.seq | apply CW.block | apply CW.region | apply CW.draw | apply CW.skip | apply CW.exit | apply CW.ret | apply q_then | apply q_then_exit | apply q_then_ret | apply q_block | apply q_block_ret | apply q_block_hit | apply q_ret | apply q_end | apply q_loop_exit | apply q_loop_ret | apply q_loopT_exit | apply q_loopT_ret | apply RW.nil) | ((with_reducible apply s3); exact rfl; exact by_k) | ((with_reducible apply s2); exact rfl; exact by_k) | ((with_reducible apply s4); exact rfl) | ((with_reducible apply s5); (first | ((with_reducible apply (a_subF (l := f))); (iterate 5 exact rfl); omega) | exact by_oa); exact by_g) | ((with_reducible apply CW.cond_t); exact rfl; exact by_ks) | ((with_reducible apply CW.cond_f); exact rfl; exact by_ks) | ((with_reducible apply q_block_miss); exact rfl) | (refine And.intro (show chk [] [] _ _ = true by kernel_rfl) ?_))
      rw [← hfin, show encStrs (out ++ [s.drop f]) = .sl 1 (out.map encStr1 ++ [[dstr (s.drop f)]]) by simp [encStrs, encStr1]]
      exact .one (.tmp rfl (.one (.own rfl (by simp) (.refl _))))

theorem ok_words : FnOk Tryz.prog 80 [] (.one (encStrs words)) := by
  refine fnOk_of tbl_ok mixed_ok Tryz.func80 rfl (by kernel_rfl) rfl rfl fun w0 own0 => ?_
  repeat (first | ((with_reducible apply s5); ((with_reducible apply a_bs (words.map encStr1)); (iterate 9 exact rfl); (repeat (first | exact PartsE.nil | (apply PartsE.cons; exact rfl; exact rfl)))); exact by_g) | ((with_reducible apply s1); exact rfl) | (with_reducible first | apply CW.seq | apply CW.block | apply CW.region | apply CW.draw | apply CW.skip | apply CW.exit | apply CW.ret | apply q_then | apply q_then_exit | apply q_then_ret | apply q_block | apply q_block_ret | apply q_block_hit | apply q_ret | apply q_end | apply q_loop_exit | apply q_loop_ret | apply q_loopT_exit | apply q_loopT_ret | apply RW.nil) | ((with_reducible apply s3); exact rfl; exact by_k) | ((with_reducible apply s2); exact rfl; exact by_k) | ((with_reducible apply s4); exact rfl) | ((with_reducible apply s5); (first | exact by_oa); exact by_g) | ((with_reducible apply CW.cond_t); exact rfl; exact by_ks) | ((with_reducible apply CW.cond_f); exact rfl; exact by_ks) | ((with_reducible apply q_block_miss); exact rfl) | (refine And.intro (show chk [] [] _ _ = true by kernel_rfl) ?_))
  exact .one (.tmp rfl (.one (.d (.refl _))))

end Go.Proofs.YtembfadhnkabhaaGreatDoor

/-! ShNum -/
/-
  The library's Atoi and Itoa of numbers, at this program's numbers of functions and types.
-/
namespace Go.Proofs
open Go.Shelf Go.RowKit
noncomputable def Tryz.laysC172_ren : Go.Shelf.Ren := ⟨fun | 129 => 103 | 171 => 105 | 172 => 104 | 205 => 140 | 243 => 117 | 244 => 115 | 245 => 116 | 246 => 133 | 247 => 128 | 279 => 129 | 280 => 130 | 281 => 131 | 282 => 132 | 283 => 141 | 284 => 142 | 285 => 143 | 286 => 144 | 287 => 138 | 316 => 139 | 317 => 150 | 318 => 151 | 319 => 152 | 320 => 153 | 321 => 148 | 322 => 149 | 337 => 158 | 338 => 159 | n => n, fun | 0 => 0 | 2 => 2 | 3 => 3 | 4 => 4 | 5 => 5 | 9 => 9 | 20 => 20 | 21 => 21 | 37 => 176 | 46 => 126 | 51 => 148 | 53 => 150 | 75 => 152 | 76 => 153 | 85 => 177 | 127 => 199 | 143 => 200 | 145 => 202 | 167 => 175 | 168 => 179 | 171 => 193 | 173 => 195 | 175 => 187 | 210 => 191 | 212 => 204 | 213 => 205 | 232 => 212 | 233 => 213 | 80 => 214 | n => n, fun | 15 => (Tryz.prog.globals.findIdx? (·.name == "strconv.ErrSyntax")).getD 0 | 16 => (Tryz.prog.globals.findIdx? (·.name == "strconv.ErrRange")).getD 0 | 17 => (Tryz.prog.globals.findIdx? (·.name == "internal/strconv.uint64pow10")).getD 0 | 18 => (Tryz.prog.globals.findIdx? (·.name == "math/bits.deBruijn32tab")).getD 0 | 19 => (Tryz.prog.globals.findIdx? (·.name == "math/bits.deBruijn64tab")).getD 0 | n => n⟩
theorem Tryz.laysC172 : Go.Proofs.LaysC.n172 Tryz.prog Tryz.laysC172_ren := {
  mixed := by kernel_rfl
  f129 := Tryz.func103.trans (congrArg some (by kernel_rfl))
  f171 := Tryz.func105.trans (congrArg some (by kernel_rfl))
  f172 := Tryz.func104.trans (congrArg some (by kernel_rfl))
  f205 := Tryz.func140.trans (congrArg some (by kernel_rfl))
  f243 := Tryz.func117.trans (congrArg some (by kernel_rfl))
  f244 := Tryz.func115.trans (congrArg some (by kernel_rfl))
  f245 := Tryz.func116.trans (congrArg some (by kernel_rfl))
  f246 := Tryz.func133.trans (congrArg some (by kernel_rfl))
  f247 := Tryz.func128.trans (congrArg some (by kernel_rfl))
  f279 := Tryz.func129.trans (congrArg some (by kernel_rfl))
  f280 := Tryz.func130.trans (congrArg some (by kernel_rfl))
  f281 := Tryz.func131.trans (congrArg some (by kernel_rfl))
  f282 := Tryz.func132.trans (congrArg some (by kernel_rfl))
  f283 := Tryz.func141.trans (congrArg some (by kernel_rfl))
  f284 := Tryz.func142.trans (congrArg some (by kernel_rfl))
  f285 := Tryz.func143.trans (congrArg some (by kernel_rfl))
  f286 := Tryz.func144.trans (congrArg some (by kernel_rfl))
  f287 := Tryz.func138.trans (congrArg some (by kernel_rfl))
  f316 := Tryz.func139.trans (congrArg some (by kernel_rfl))
  f317 := Tryz.func150.trans (congrArg some (by kernel_rfl))
  f318 := Tryz.func151.trans (congrArg some (by kernel_rfl))
  f319 := Tryz.func152.trans (congrArg some (by kernel_rfl))
  f320 := Tryz.func153.trans (congrArg some (by kernel_rfl))
  f321 := Tryz.func148.trans (congrArg some (by kernel_rfl))
  f322 := Tryz.func149.trans (congrArg some (by kernel_rfl))
  f337 := Tryz.func158.trans (congrArg some (by kernel_rfl))
  f338 := Tryz.func159.trans (congrArg some (by kernel_rfl))
  t0 := Tryz.underlying0
  a0 := Tryz.isAgg0
  z0 := Tryz.sizeOf0
  v0 := Tryz.zeroValue0
  t2 := Tryz.underlying2
  a2 := Tryz.isAgg2
  z2 := Tryz.sizeOf2
  v2 := Tryz.zeroValue2
  t3 := Tryz.underlying3
  a3 := Tryz.isAgg3
  z3 := Tryz.sizeOf3
  v3 := Tryz.zeroValue3
  t4 := Tryz.underlying4
  a4 := Tryz.isAgg4
  z4 := Tryz.sizeOf4
  v4 := Tryz.zeroValue4
  t5 := Tryz.underlying5
  a5 := Tryz.isAgg5
  z5 := Tryz.sizeOf5
  v5 := Tryz.zeroValue5
  t9 := Tryz.underlying9
  a9 := Tryz.isAgg9
  z9 := Tryz.sizeOf9
  v9 := Tryz.zeroValue9
  t20 := Tryz.underlying20
  a20 := Tryz.isAgg20
  z20 := Tryz.sizeOf20
  v20 := Tryz.zeroValue20
  t21 := Tryz.underlying21
  a21 := Tryz.isAgg21
  z21 := Tryz.sizeOf21
  v21 := Tryz.zeroValue21
  t37 := Tryz.underlying176
  a37 := Tryz.isAgg176
  z37 := Tryz.sizeOf176
  v37 := Tryz.zeroValue176
  t46 := Tryz.underlying126
  a46 := Tryz.isAgg126
  z46 := Tryz.sizeOf126
  v46 := Tryz.zeroValue126
  t51 := Tryz.underlying148
  a51 := Tryz.isAgg148
  z51 := Tryz.sizeOf148
  v51 := Tryz.zeroValue148
  t53 := Tryz.underlying150
  a53 := Tryz.isAgg150
  z53 := Tryz.sizeOf150
  v53 := Tryz.zeroValue150
  t75 := Tryz.underlying152
  a75 := Tryz.isAgg152
  z75 := Tryz.sizeOf152
  v75 := Tryz.zeroValue152
  t76 := Tryz.underlying153
  a76 := Tryz.isAgg153
  z76 := Tryz.sizeOf153
  v76 := Tryz.zeroValue153
  t85 := Tryz.underlying177
  a85 := Tryz.isAgg177
  z85 := Tryz.sizeOf177
  v85 := Tryz.zeroValue177
  t127 := Tryz.underlying199
  a127 := Tryz.isAgg199
  z127 := Tryz.sizeOf199
  v127 := Tryz.zeroValue199
  t143 := Tryz.underlying200
  a143 := Tryz.isAgg200
  z143 := Tryz.sizeOf200
  v143 := Tryz.zeroValue200
  t145 := Tryz.underlying202
  a145 := Tryz.isAgg202
  z145 := Tryz.sizeOf202
  v145 := Tryz.zeroValue202
  t167 := Tryz.underlying175
  a167 := Tryz.isAgg175
  z167 := Tryz.sizeOf175
  v167 := Tryz.zeroValue175
  t168 := Tryz.underlying179
  a168 := Tryz.isAgg179
  z168 := Tryz.sizeOf179
  v168 := Tryz.zeroValue179
  t171 := Tryz.underlying193
  a171 := Tryz.isAgg193
  z171 := Tryz.sizeOf193
  v171 := Tryz.zeroValue193
  t173 := Tryz.underlying195
  a173 := Tryz.isAgg195
  z173 := Tryz.sizeOf195
  v173 := Tryz.zeroValue195
  t175 := Tryz.underlying187
  a175 := Tryz.isAgg187
  z175 := Tryz.sizeOf187
  v175 := Tryz.zeroValue187
  t210 := Tryz.underlying191
  a210 := Tryz.isAgg191
  z210 := Tryz.sizeOf191
  v210 := Tryz.zeroValue191
  t212 := Tryz.underlying204
  a212 := Tryz.isAgg204
  z212 := Tryz.sizeOf204
  v212 := Tryz.zeroValue204
  t213 := Tryz.underlying205
  a213 := Tryz.isAgg205
  z213 := Tryz.sizeOf205
  t232 := Tryz.underlying212
  a232 := Tryz.isAgg212
  z232 := Tryz.sizeOf212
  v232 := Tryz.zeroValue212
  t233 := Tryz.underlying213
  a233 := Tryz.isAgg213
  z233 := Tryz.sizeOf213
  v233 := Tryz.zeroValue213
  g15 := by kernel_rfl
  g16 := by kernel_rfl
  g17 := by kernel_rfl
  g18 := by kernel_rfl
  g19 := by kernel_rfl
  t80 := Tryz.underlying214
  a80 := Tryz.isAgg214
  z80 := Tryz.sizeOf214
  v80 := Tryz.zeroValue214
  i0 := by kernel_rfl
  i2 := by kernel_rfl
  i3 := by kernel_rfl
  i4 := by kernel_rfl
  i5 := by kernel_rfl
  i9 := by kernel_rfl
  i20 := by kernel_rfl
  i21 := by kernel_rfl
  i37 := by kernel_rfl
  i46 := by kernel_rfl
  i51 := by kernel_rfl
  i53 := by kernel_rfl
  i75 := by kernel_rfl
  i76 := by kernel_rfl
  i80 := by kernel_rfl
  i85 := by kernel_rfl
  i127 := by kernel_rfl
  i143 := by kernel_rfl
  i145 := by kernel_rfl
  i167 := by kernel_rfl
  i168 := by kernel_rfl
  i171 := by kernel_rfl
  i173 := by kernel_rfl
  i175 := by kernel_rfl
  i210 := by kernel_rfl
  i212 := by kernel_rfl
  i232 := by kernel_rfl
  i233 := by kernel_rfl
  m15 := by kernel_rfl
  m16 := by kernel_rfl
  m17 := by kernel_rfl
  m18 := by kernel_rfl
  m19 := by kernel_rfl
  c0 := by kernel_rfl
  c2 := by kernel_rfl
  c3 := by kernel_rfl
  c4 := by kernel_rfl
  c5 := by kernel_rfl
  c9 := by kernel_rfl
  c20 := by kernel_rfl
  c21 := by kernel_rfl
  c37 := by kernel_rfl
  c46 := by kernel_rfl
  c51 := by kernel_rfl
  c53 := by kernel_rfl
  c75 := by kernel_rfl
  c76 := by kernel_rfl
  c80 := by kernel_rfl
  c85 := by kernel_rfl
  c127 := by kernel_rfl
  c143 := by kernel_rfl
  c145 := by kernel_rfl
  c167 := by kernel_rfl
  c168 := by kernel_rfl
  c171 := by kernel_rfl
  c173 := by kernel_rfl
  c175 := by kernel_rfl
  c210 := by kernel_rfl
  c212 := by kernel_rfl
  c213 := by kernel_rfl
  c232 := by kernel_rfl
  c233 := by kernel_rfl
  }
noncomputable def Tryz.lays171_ren : Go.Shelf.Ren := ⟨fun | 129 => 103 | 171 => 105 | 243 => 117 | 246 => 133 | 283 => 141 | 284 => 142 | 285 => 143 | 286 => 144 | 317 => 150 | 318 => 151 | 319 => 152 | 320 => 153 | 337 => 158 | 338 => 159 | n => n, fun | 0 => 0 | 2 => 2 | 3 => 3 | 4 => 4 | 5 => 5 | 9 => 9 | 20 => 20 | 37 => 176 | 46 => 126 | 51 => 148 | 53 => 150 | 171 => 193 | 173 => 195 | 212 => 204 | 213 => 205 | 232 => 212 | 233 => 213 | n => n, fun | 17 => (Tryz.prog.globals.findIdx? (·.name == "internal/strconv.uint64pow10")).getD 0 | 18 => (Tryz.prog.globals.findIdx? (·.name == "math/bits.deBruijn32tab")).getD 0 | 19 => (Tryz.prog.globals.findIdx? (·.name == "math/bits.deBruijn64tab")).getD 0 | n => n⟩
theorem Tryz.lays171 : Go.Proofs.Lays.n171 Tryz.prog Tryz.lays171_ren := {
  mixed := by kernel_rfl
  f129 := Tryz.func103.trans (congrArg some (by kernel_rfl))
  f171 := Tryz.func105.trans (congrArg some (by kernel_rfl))
  f243 := Tryz.func117.trans (congrArg some (by kernel_rfl))
  f246 := Tryz.func133.trans (congrArg some (by kernel_rfl))
  f283 := Tryz.func141.trans (congrArg some (by kernel_rfl))
  f284 := Tryz.func142.trans (congrArg some (by kernel_rfl))
  f285 := Tryz.func143.trans (congrArg some (by kernel_rfl))
  f286 := Tryz.func144.trans (congrArg some (by kernel_rfl))
  f317 := Tryz.func150.trans (congrArg some (by kernel_rfl))
  f318 := Tryz.func151.trans (congrArg some (by kernel_rfl))
  f319 := Tryz.func152.trans (congrArg some (by kernel_rfl))
  f320 := Tryz.func153.trans (congrArg some (by kernel_rfl))
  f337 := Tryz.func158.trans (congrArg some (by kernel_rfl))
  f338 := Tryz.func159.trans (congrArg some (by kernel_rfl))
  t0 := Tryz.underlying0
  a0 := Tryz.isAgg0
  z0 := Tryz.sizeOf0
  v0 := Tryz.zeroValue0
  t2 := Tryz.underlying2
  a2 := Tryz.isAgg2
  z2 := Tryz.sizeOf2
  v2 := Tryz.zeroValue2
  t3 := Tryz.underlying3
  a3 := Tryz.isAgg3
  z3 := Tryz.sizeOf3
  v3 := Tryz.zeroValue3
  t4 := Tryz.underlying4
  a4 := Tryz.isAgg4
  z4 := Tryz.sizeOf4
  v4 := Tryz.zeroValue4
  t5 := Tryz.underlying5
  a5 := Tryz.isAgg5
  z5 := Tryz.sizeOf5
  v5 := Tryz.zeroValue5
  t9 := Tryz.underlying9
  a9 := Tryz.isAgg9
  z9 := Tryz.sizeOf9
  v9 := Tryz.zeroValue9
  t20 := Tryz.underlying20
  a20 := Tryz.isAgg20
  z20 := Tryz.sizeOf20
  v20 := Tryz.zeroValue20
  t37 := Tryz.underlying176
  a37 := Tryz.isAgg176
  z37 := Tryz.sizeOf176
  v37 := Tryz.zeroValue176
  t46 := Tryz.underlying126
  a46 := Tryz.isAgg126
  z46 := Tryz.sizeOf126
  v46 := Tryz.zeroValue126
  t51 := Tryz.underlying148
  a51 := Tryz.isAgg148
  z51 := Tryz.sizeOf148
  v51 := Tryz.zeroValue148
  t53 := Tryz.underlying150
  a53 := Tryz.isAgg150
  z53 := Tryz.sizeOf150
  v53 := Tryz.zeroValue150
  t171 := Tryz.underlying193
  a171 := Tryz.isAgg193
  z171 := Tryz.sizeOf193
  v171 := Tryz.zeroValue193
  t173 := Tryz.underlying195
  a173 := Tryz.isAgg195
  z173 := Tryz.sizeOf195
  v173 := Tryz.zeroValue195
  t212 := Tryz.underlying204
  a212 := Tryz.isAgg204
  z212 := Tryz.sizeOf204
  v212 := Tryz.zeroValue204
  t213 := Tryz.underlying205
  a213 := Tryz.isAgg205
  z213 := Tryz.sizeOf205
  t232 := Tryz.underlying212
  a232 := Tryz.isAgg212
  z232 := Tryz.sizeOf212
  v232 := Tryz.zeroValue212
  t233 := Tryz.underlying213
  a233 := Tryz.isAgg213
  z233 := Tryz.sizeOf213
  v233 := Tryz.zeroValue213
  g17 := by kernel_rfl
  g18 := by kernel_rfl
  g19 := by kernel_rfl
  }
end Go.Proofs

/-! H2 -/
/-
  Contract of the references' num, at small numbers as they are written.
-/
namespace Go.Proofs.YtembfadhnkabhaaGreatDoor
open Go.AX Go.RF Go.RowKit

set_option maxRecDepth 100000
set_option maxHeartbeats 4000000

theorem numV_ok {s : Str} {v : Int} (h : numV s = some v) : Lib.atoiAll s = .ok v ∧ Lib.itoa v = s := by
  unfold numV at h
  split at h
  · next x hx =>
    split at h
    · next hy => cases h; exact ⟨hx, hy⟩
    · cases h
  · cases h
theorem ok_atoi (s : Str) (v : Int) (hs : s.length ≤ 1073741824) (h : Lib.atoiAll s = .ok v) : FnOk Tryz.prog 104 [.d (dstr s)] (.tup [dint v, .v .nilIface]) := by
  refine ⟨⟨_, Tryz.func104, by kernel_rfl, by kernel_rfl⟩, fun w own vs hown ha => ?_⟩
  match vs, ha with
  | [x], ⟨h1, _⟩ =>
    obtain rfl : x = str s := rd_v h1
    refine (Any.strconv_Atoi_ok Tryz.laysC172 ⟨s.toArray⟩ (by show s.toArray.size ≤ _; simp; omega) v (by simpa using h) w).mono fun e w' he => ?_
    obtain ⟨rfl, hw⟩ := he
    refine ⟨_, rfl, ?_, _, rfl, rfl, fun j c x hj hc => ?_⟩
    · rcases hw with rfl | ⟨t, rfl⟩
      · exact Below.refl _ _
      · exact Lib.bytesWorld_below _ _ _
    · match j, hj, hc with
      | 0, hj, hc => simp at hj hc; subst hj hc; exact Rd.v _
      | 1, hj, hc => simp at hj hc; subst hj hc; exact Rd.v _
      | j + 2, hj, hc => simp at hj
theorem ok_itoaS (i : Nat) (hi : i < 100) : FnOk Tryz.prog 105 [.d (dint i)] (.one (dstr (Lib.itoa i))) := by
  refine ⟨⟨_, Tryz.func105, by kernel_rfl, by kernel_rfl⟩, fun w own vs hown ha => ?_⟩
  match vs, ha with
  | [x], ⟨h1, _⟩ =>
    obtain rfl : x = i64 i := rd_v h1
    refine (Any.strconv_Itoa_small Tryz.lays171 i hi w).mono fun e w' he => ?_
    obtain ⟨rfl, rfl⟩ := he
    refine ⟨_, rfl, Below.refl _ _, ?_⟩
    have hx : Lib.itoa i = Lib.decDigits i := by rw [Lib.itoa, if_neg (by omega)]; rfl
    rw [hx]
    exact Rd.v _
theorem ok_numS (s : Str) (v : Int) (hs : s.length ≤ 1073741824) (h : numV s = some v) (h0 : 0 ≤ v) (h1 : v < 100) : FnOk Tryz.prog 82 [.d (dstr s)] (.tup [dint v, dbool true]) := by
  refine fnOk_of tbl_ok mixed_ok Tryz.func82 rfl (by kernel_rfl) rfl rfl fun w0 own0 => ?_
  obtain ⟨ha, hb⟩ := numV_ok h
  obtain ⟨i, rfl⟩ := Int.eq_ofNat_of_zero_le h0
  have c1 := ok_atoi s i hs ha
  have c2 := ok_itoaS i (by omega)
  rw [hb] at c2
  repeat (first | ((with_reducible apply s1); exact rfl) | (with_reducible first | apply CW.seq | apply CW.block | apply CW.region | apply CW.draw | apply CW.skip | apply CW.exit | apply CW.ret | apply q_then | apply q_then_exit | apply q_then_ret | apply q_block | apply q_block_ret | apply q_block_hit | apply q_ret | apply q_end | apply q_loop_exit | apply q_loop_ret | apply q_loopT_exit | apply q_loopT_ret | apply RW.nil) | ((with_reducible apply s3); exact rfl; exact by_k) | ((with_reducible apply s2); exact rfl; exact by_k) | ((with_reducible apply s4); exact rfl) | ((with_reducible apply s5); (first | (focus ((with_reducible apply a_call); exact c1; exact rfl; (repeat (first | exact SubsE.nil | (apply SubsE.cons; exact rfl; (first | exact .d (.refl _) | exact .d (.nil _) | exact .agg rfl (.refl _) | exact .pd | exact .ptr rfl); (first | exact trivial | exact ⟨rfl, trivial⟩)))); done)) | (focus ((with_reducible apply a_call); exact c2; exact rfl; (repeat (first | exact SubsE.nil | (apply SubsE.cons; exact rfl; (first | exact .d (.refl _) | exact .d (.nil _) | exact .agg rfl (.refl _) | exact .pd | exact .ptr rfl); (first | exact trivial | exact ⟨rfl, trivial⟩)))); done)) | ((with_reducible apply a_noerr); exact rfl; exact Tryz.underlying152; exact rfl) | exact by_oa); exact by_g) | ((with_reducible apply CW.cond_t); exact rfl; exact by_ks) | ((with_reducible apply CW.cond_f); exact rfl; exact by_ks) | ((with_reducible apply q_block_miss); exact rfl) | (refine And.intro (show chk [] [] _ _ = true by kernel_rfl) ?_))
  exact .two (.tmp rfl (.one (.d (.refl _)))) (.tmp rfl (.one (.d (dle_bool (by simp)))))

end Go.Proofs.YtembfadhnkabhaaGreatDoor

/-! H3 -/
/-
  Contract of the references' Parse, at the text of a right deed whose numbers are small.
-/
namespace Go.Proofs.YtembfadhnkabhaaGreatDoor
open Go.AX Go.RF Go.RowKit

set_option maxRecDepth 100000
set_option maxHeartbeats 16000000

theorem splitF_part (sep : Str) : ∀ (n : Nat) (cur r : Str), ∀ p ∈ splitF sep n cur r, p.length ≤ cur.length + r.length
  | 0, cur, r => by simp [splitF]
  | n + 1, cur, r => by
    rw [splitF_succ]
    split
    · simp
    split
    · intro p hp
      rcases List.mem_cons.1 hp with rfl | hp
      · omega
      · have := splitF_part sep n [] _ p hp
        rw [List.length_nil, List.length_drop] at this
        omega
    cases r with
    | nil => simp
    | cons c t =>
      intro p hp
      have := splitF_part sep n _ _ p hp
      simp at this ⊢
      omega
theorem split_part {s sep : Str} {p : Str} (h : p ∈ split s sep) : p.length ≤ s.length := by
  have := splitF_part sep _ _ _ p h
  simpa using this
theorem split_len (s sep : Str) : (split s sep).length ≤ s.length + 1 := splitF_len sep _ _ _

/-- A word's number, if it has one, is small. -/
def smallN (o : Option Int) : Bool := match o with
  | none => true
  | some v => decide (0 ≤ v ∧ v < 100)
def smallS (s : Str) : Bool := (split s [59, 32]).all fun p => (split p [32]).all fun w => smallN (numV w) && smallN (regV w)
theorem smallN_of {o : Option Int} {v : Int} (h : smallN o = true) (hv : o = some v) : 0 ≤ v ∧ v < 100 := by
  subst hv; simpa [smallN] using h

theorem insAll_cons {p : Str} {r : List Str} {l : List Ins} (h : insAll (p :: r) = some l) : ∃ i l', insP (split p [32]) = some i ∧ insAll r = some l' ∧ l = i :: l' := by
  simp only [insAll] at h
  split at h
  · next i l' h1 h2 => cases h; exact ⟨i, l', h1, h2, rfl⟩
  · cases h
theorem insP_some {l : List Str} {i : Ins} (h : insP l = some i) : ∃ w ws, l = w :: ws ∧ kindOf w ≠ 0 ∧ ws.length = (form (kindOf w).toNat).length ∧ fillI ⟨kindOf w, 0, 0, 0, []⟩ (form (kindOf w).toNat) ws = some i := by
  match l, h with
  | [], h => simp [insP] at h
  | w :: ws, h =>
    simp only [insP] at h
    split at h
    · cases h
    · next h1 =>
      split at h
      · next h2 => exact ⟨w, ws, rfl, h1, h2, h⟩
      · cases h
theorem fillI_cons {i i' : Ins} {c : UInt8} {f : Str} {w : Str} {ws : List Str} (h : fillI i (c :: f) (w :: ws) = some i') :
    (c.toNat = 107 ∧ fillI { i with key := w } f ws = some i') ∨ (c.toNat = 110 ∧ ∃ n, numV w = some n ∧ fillI { i with n := n } f ws = some i') ∨
    (c.toNat ≠ 107 ∧ c.toNat ≠ 110 ∧ ∃ r x, w = 114 :: r ∧ numV r = some x ∧ ((c.toNat = 114 ∧ fillI { i with a := x } f ws = some i') ∨ (c.toNat ≠ 114 ∧ fillI { i with b := x } f ws = some i'))) := by
  have hc : ∀ k : UInt8, c = k ↔ c.toNat = k.toNat := fun k => by rw [UInt8.toNat_inj]
  simp only [fillI] at h
  split at h
  · next h1 => exact .inl ⟨(hc _).1 h1, h⟩
  · next h1 =>
    have h1' : c.toNat ≠ 107 := fun e => h1 ((hc 107).2 e)
    split at h
    · next h2 =>
      split at h
      · next n hn => exact .inr (.inl ⟨(hc _).1 h2, n, hn, h⟩)
      · cases h
    · next h2 =>
      have h2' : c.toNat ≠ 110 := fun e => h2 ((hc 110).2 e)
      refine .inr (.inr ⟨h1', h2', ?_⟩)
      split at h
      · next x hx =>
        have : ∃ r, w = 114 :: r ∧ numV r = some x := by
          match w, hx with
          | [], hx => simp [regV] at hx
          | b :: r, hx =>
            by_cases hb : b = 114
            · subst hb; exact ⟨r, rfl, hx⟩
            · unfold regV at hx
              split at hx
              · next r' he => cases he; exact absurd rfl hb
              · cases hx
        obtain ⟨r, h3, h4⟩ := this
        refine ⟨r, x, h3, h4, ?_⟩
        split at h
        · next h5 => exact .inl ⟨(hc _).1 h5, h⟩
        · next h5 => exact .inr ⟨fun e => h5 ((hc 114).2 e), h⟩
      · cases h

/-- What parseD takes apart. -/
theorem parseD_some {s : Str} {d : Deed} (h : parseD s = some d) : s.length ≤ 400 ∧ ∃ p0 p1 ps, split s [59, 32] = p0 :: p1 :: ps ∧ split p0 [32] = [114, 101, 97, 100, 115] :: d.reads ∧ split p1 [32] = [119, 114, 105, 116, 101, 115] :: d.writes ∧ insAll ps = some d.code ∧ wrongDeed d = 0 := by
  unfold parseD at h
  split at h
  · cases h
  · next h0 =>
    refine ⟨by omega, ?_⟩
    split at h
    · next p0 p1 ps h1 =>
      split at h
      · next w0 rs w1 ws code h2 h3 h4 =>
        split at h
        · next h5 =>
          obtain ⟨rfl, rfl, h6⟩ := h5
          cases h
          exact ⟨p0, p1, ps, h1, h2, h3, h4, h6⟩
        · cases h
      · cases h
    · cases h

end Go.Proofs.YtembfadhnkabhaaGreatDoor

/-! H4 -/
/-
  Contract of the references' Parse, at the text of a right deed whose numbers are small.
-/
namespace Go.Proofs.YtembfadhnkabhaaGreatDoor
open Go.AX Go.RF Go.RowKit

set_option maxRecDepth 100000
set_option maxHeartbeats 16000000

theorem ok_parseS (s : Str) (d : Deed) (h : parseD s = some d) (hm : smallS s = true) : FnOk Tryz.prog 49 [.d (dstr s)] (.tup [.agg d.enc, dint 0]) := by
  refine fnOk_of tbl_ok mixed_ok Tryz.func49 rfl (by kernel_rfl) rfl rfl fun w0 own0 => ?_
  obtain ⟨hs, p0, p1, ps, e0, e1, e2, e3, e4⟩ := parseD_some h
  obtain ⟨rs, ws, cd⟩ := d
  dsimp only at e1 e2 e3
  have c1 := ok_split s [59, 32] (by omega) (by simp) (by simp)
  have hsl := split_len s [59, 32]
  have hsp : ∀ p ∈ split s [59, 32], p.length ≤ 400 := fun p hp => Nat.le_trans (split_part hp) hs
  have hsm : ∀ p ∈ split s [59, 32], ∀ w ∈ split p [32], smallN (numV w) = true ∧ smallN (regV w) = true := fun p hp w hw => by
    have := List.all_eq_true.1 (List.all_eq_true.1 hm p hp) w hw
    simpa using this
  generalize hl : split s [59, 32] = l at *
  have h2l : 2 ≤ l.length := by rw [e0]; simp
  repeat (first | ((with_reducible apply stop_at 8); exact rfl) | ((with_reducible apply s1); exact rfl) | (with_reducible first | apply CW.seq | apply CW.block | apply CW.region | apply CW.draw | apply CW.skip | apply CW.exit | apply CW.ret | apply q_then | apply q_then_exit | apply q_then_ret | apply q_block | apply q_block_ret | apply q_block_hit | apply q_ret | apply q_end | apply q_loop_exit | apply q_loop_ret | apply q_loopT_exit | apply q_loopT_ret | apply RW.nil) | ((with_reducible apply s3); exact rfl; exact by_k) | ((with_reducible apply s2); exact rfl; exact by_k) | ((with_reducible apply s4); exact rfl) | ((with_reducible apply s5); (first | (focus ((with_reducible apply a_call); exact c1; exact rfl; (repeat (first | exact SubsE.nil | (apply SubsE.cons; exact rfl; (first | exact .d (.refl _) | exact .d (.nil _) | exact .agg rfl (.refl _) | exact .pd | exact .ptr rfl); (first | exact trivial | exact ⟨rfl, trivial⟩)))); done)) | exact by_oa); exact by_g) | ((with_reducible apply CW.cond_t); exact rfl; exact by_ks) | ((with_reducible apply CW.cond_f); exact rfl; exact by_ks) | ((with_reducible apply q_block_miss); exact rfl) | (refine And.intro (show chk [] [] _ _ = true by kernel_rfl) ?_))
  refine Stop.go (CW.stut (stut_promote_cell (id := 1) (j := 2) 93 5 rfl) ⟨rfl, rfl, trivial⟩ ?_)
  repeat (first | ((with_reducible apply s1); exact rfl) | (with_reducible first | apply CW.seq | apply CW.block | apply CW.region | apply CW.draw | apply CW.skip | apply CW.exit | apply CW.ret | apply q_then | apply q_then_exit | apply q_then_ret | apply q_block | apply q_block_ret | apply q_block_hit | apply q_ret | apply q_end | apply q_loop_exit | apply q_loop_ret | apply q_loopT_exit | apply q_loopT_ret | apply RW.nil) | ((with_reducible apply s3); exact rfl; exact by_k) | ((with_reducible apply s2); exact rfl; exact by_k) | ((with_reducible apply s4); exact rfl) | ((with_reducible apply s5); (first | exact by_oa); exact by_g) | ((with_reducible apply CW.cond_t); exact rfl; exact by_ks) | ((with_reducible apply CW.cond_f); exact rfl; exact by_ks) | ((with_reducible apply q_block_miss); exact rfl) | (refine And.intro (show chk [] [] _ _ = true by kernel_rfl) ?_))
  refine CW.loopT (fun t : Nat × D × D × List Ins => [sp 2 0, ob 0 [.v nilS, .v nilS, .v nilS], sp 6 1, (.o 1, .ob (.box [.d t.2.1, .d t.2.2.1, .own 2 t.2.2.2.length])), oa 2 93 5 (t.2.2.2.map Ins.enc), sd 36 (encStrs l), sd 37 (dint l.length), sd 38 (dint t.1), nxt 3])
    (fun t => t.1 ≤ l.length ∧ (1 ≤ t.1 → t.2.1 = encStrs rs) ∧ (2 ≤ t.1 → t.2.2.1 = encStrs ws) ∧ t.2.2.2.length ≤ t.1 ∧ ∃ rest, insAll (l.drop (max t.1 2)) = some rest ∧ t.2.2.2 ++ rest = cd) (fun t => l.length - t.1) (0, .v nilS, .v nilS, [])
    ⟨by dsimp only; omega, fun h => by dsimp only at h; omega, fun h => by dsimp only at h; omega, by simp, cd, by rw [e0]; exact e3, rfl⟩ ?_ ?_
  ·
    exact by_less
  · rintro ⟨x, R, W, code⟩ ⟨hx, hR, hW, hc, rest, hr, hcd⟩
    dsimp only at hx hR hW hc hr hcd ⊢
    rcases drop_case hx with ⟨h1, h2⟩ | ⟨p, h1, h2, h3⟩
    · rw [show max x 2 = x by omega, h1] at hr
      cases hr
      rw [List.append_nil] at hcd
      obtain rfl := hR (by omega)
      obtain rfl := hW (by omega)
      subst hcd
      have hrs : ∀ k ∈ rs, k.length ≤ 400 := fun k hk => Nat.le_trans (split_part (s := p0) (sep := [32]) (by rw [e1]; exact List.mem_cons_of_mem _ hk)) (hsp p0 (by rw [e0]; simp))
      have hws : ∀ k ∈ ws, k.length ≤ 400 := fun k hk => Nat.le_trans (split_part (s := p1) (sep := [32]) (by rw [e2]; exact List.mem_cons_of_mem _ hk)) (hsp p1 (by rw [e0]; simp))
      have hrl : rs.length ≤ 400 := by have := split_len p0 [32]; rw [e1] at this; have := hsp p0 (by rw [e0]; simp); simp at *; omega
      have hwl : ws.length ≤ 400 := by have := split_len p1 [32]; rw [e2] at this; have := hsp p1 (by rw [e0]; simp); simp at *; omega
      have cw := ok_wrongDeed ⟨rs, ws, code⟩ (by dsimp only; omega) (by dsimp only; omega) (by dsimp only; omega) (fun k hk => by have := hrs k hk; omega) (fun k hk => by have := hws k hk; omega)
      rw [e4] at cw
      repeat (first | ((with_reducible apply stop_at 52); exact rfl) | ((with_reducible apply s1); exact rfl) | (with_reducible first | apply CW.seq | apply CW.block | apply CW.region | apply CW.draw | apply CW.skip | apply CW.exit | apply CW.ret | apply q_then | apply q_then_exit | apply q_then_ret | apply q_block | apply q_block_ret | apply q_block_hit | apply q_ret | apply q_end | apply q_loop_exit | apply q_loop_ret | apply q_loopT_exit | apply q_loopT_ret | apply RW.nil) | ((with_reducible apply s3); exact rfl; exact by_k) | ((with_reducible apply s2); exact rfl; exact by_k) | ((with_reducible apply s4); exact rfl) | ((with_reducible apply s5); (first | exact by_oa); exact by_g) | ((with_reducible apply CW.cond_t); exact rfl; exact by_ks) | ((with_reducible apply CW.cond_f); exact rfl; exact by_ks) | ((with_reducible apply q_block_miss); exact rfl) | (refine And.intro (show chk [] [] _ _ = true by kernel_rfl) ?_))
      refine Stop.go (CW.stut (stut_freeze_cell (id := 1) (j := 2) (i := 2) rfl (by simp)) ⟨rfl, rfl, trivial⟩ ?_)
      repeat (first | ((with_reducible apply s1); exact rfl) | (with_reducible first | apply CW.seq | apply CW.block | apply CW.region | apply CW.draw | apply CW.skip | apply CW.exit | apply CW.ret | apply q_then | apply q_then_exit | apply q_then_ret | apply q_block | apply q_block_ret | apply q_block_hit | apply q_ret | apply q_end | apply q_loop_exit | apply q_loop_ret | apply q_loopT_exit | apply q_loopT_ret | apply RW.nil) | ((with_reducible apply s3); exact rfl; exact by_k) | ((with_reducible apply s2); exact rfl; exact by_k) | ((with_reducible apply s4); exact rfl) | ((with_reducible apply s5); (first | (focus ((with_reducible apply a_call); exact cw; exact rfl; (repeat (first | exact SubsE.nil | (apply SubsE.cons; exact rfl; (first | exact .d (.refl _) | exact .d (.nil _) | exact .agg rfl (.refl _) | exact .pd | exact .ptr rfl); (first | exact trivial | exact ⟨rfl, trivial⟩)))); done)) | exact by_oa); exact by_g) | ((with_reducible apply CW.cond_t); exact rfl; exact by_ks) | ((with_reducible apply CW.cond_f); exact rfl; exact by_ks) | ((with_reducible apply q_block_miss); exact rfl) | (refine And.intro (show chk [] [] _ _ = true by kernel_rfl) ?_))
      exact .two (.cell rfl rfl rfl rfl (.aggd rfl (.refl _))) (.tmp rfl (.one (.d (.refl _))))
    · have hp : p ∈ l := List.mem_of_getElem? h2
      have hpl := hsp p hp
      have c2 := ok_split p [32] (by omega) (by simp) (by simp)
      by_cases hx0 : x = 0
      · subst hx0
        have h2' := h2
        rw [e0] at h2
        obtain rfl : p0 = p := by simpa using h2
        rw [e1] at c2
        have hrl : rs.length ≤ 400 := by have := split_len p0 [32]; rw [e1] at this; simp at *; omega
        have hw0 : (([114, 101, 97, 100, 115] : Str) :: rs)[0]? = some [114, 101, 97, 100, 115] := rfl
        have hn0 : ([[114, 101, 97, 100, 115], [119, 114, 105, 116, 101, 115]] : List Str)[0]? = some [114, 101, 97, 100, 115] := rfl
        repeat (first | ((with_reducible apply s5); ((with_reducible apply a_bs (([[114, 101, 97, 100, 115], [119, 114, 105, 116, 101, 115]] : List Str).map encStr1)); (iterate 9 exact rfl); (repeat (first | exact PartsE.nil | (apply PartsE.cons; exact rfl; exact rfl)))); exact by_g) | ((with_reducible apply s1); exact rfl) | (with_reducible first | apply CW.seq | apply CW.block | apply CW.region | apply CW.draw | apply CW.skip | apply CW.exit | apply CW.ret | apply q_then | apply q_then_exit | apply q_then_ret | apply q_block | apply q_block_ret | apply q_block_hit | apply q_ret | apply q_end | apply q_loop_exit | apply q_loop_ret | apply q_loopT_exit | apply q_loopT_ret | apply RW.nil) | ((with_reducible apply s3); exact rfl; exact by_k) | ((with_reducible apply s2); exact rfl; exact by_k) | ((with_reducible apply s4); exact rfl) | ((with_reducible apply s5); (first | (focus ((with_reducible apply a_call); exact c2; exact rfl; (repeat (first | exact SubsE.nil | (apply SubsE.cons; exact rfl; (first | exact .d (.refl _) | exact .d (.nil _) | exact .agg rfl (.refl _) | exact .pd | exact .ptr rfl); (first | exact trivial | exact ⟨rfl, trivial⟩)))); done)) | exact by_oa); exact by_g) | ((with_reducible apply CW.cond_t); exact rfl; exact by_ks) | ((with_reducible apply CW.cond_f); exact rfl; exact by_ks) | ((with_reducible apply q_block_miss); exact rfl) | (refine And.intro (show chk [] [] _ _ = true by kernel_rfl) ?_))
        refine q_loopT (1, encStrs rs, W, code) ⟨by dsimp only; omega, fun _ => rfl, fun h => by dsimp only at h; omega, by dsimp only; omega, rest, hr, hcd⟩ (by dsimp only; omega) ?_
        exact by_less
      by_cases hx1 : x = 1
      · subst hx1
        have h2' := h2
        rw [e0] at h2
        obtain rfl : p1 = p := by simpa using h2
        rw [e2] at c2
        have hwl : ws.length ≤ 400 := by have := split_len p1 [32]; rw [e2] at this; simp at *; omega
        have hw0 : (([119, 114, 105, 116, 101, 115] : Str) :: ws)[0]? = some [119, 114, 105, 116, 101, 115] := rfl
        have hn0 : ([[114, 101, 97, 100, 115], [119, 114, 105, 116, 101, 115]] : List Str)[1]? = some [119, 114, 105, 116, 101, 115] := rfl
        repeat (first | ((with_reducible apply s5); ((with_reducible apply a_bs (([[114, 101, 97, 100, 115], [119, 114, 105, 116, 101, 115]] : List Str).map encStr1)); (iterate 9 exact rfl); (repeat (first | exact PartsE.nil | (apply PartsE.cons; exact rfl; exact rfl)))); exact by_g) | ((with_reducible apply s1); exact rfl) | (with_reducible first | apply CW.seq | apply CW.block | apply CW.region | apply CW.draw | apply CW.skip | apply CW.exit | apply CW.ret | apply q_then | apply q_then_exit | apply q_then_ret | apply q_block | apply q_block_ret | apply q_block_hit | apply q_ret | apply q_end | apply q_loop_exit | apply q_loop_ret | apply q_loopT_exit | apply q_loopT_ret | apply RW.nil) | ((with_reducible apply s3); exact rfl; exact by_k) | ((with_reducible apply s2); exact rfl; exact by_k) | ((with_reducible apply s4); exact rfl) | ((with_reducible apply s5); (first | (focus ((with_reducible apply a_call); exact c2; exact rfl; (repeat (first | exact SubsE.nil | (apply SubsE.cons; exact rfl; (first | exact .d (.refl _) | exact .d (.nil _) | exact .agg rfl (.refl _) | exact .pd | exact .ptr rfl); (first | exact trivial | exact ⟨rfl, trivial⟩)))); done)) | exact by_oa); exact by_g) | ((with_reducible apply CW.cond_t); exact rfl; exact by_ks) | ((with_reducible apply CW.cond_f); exact rfl; exact by_ks) | ((with_reducible apply q_block_miss); exact rfl) | (refine And.intro (show chk [] [] _ _ = true by kernel_rfl) ?_))
        refine q_loopT (2, R, encStrs ws, code) ⟨by dsimp only; omega, fun _ => hR (by omega), fun _ => rfl, by dsimp only; omega, rest, hr, hcd⟩ (by dsimp only; omega) ?_
        exact by_less
      rw [show max x 2 = x by omega, h1] at hr
      obtain ⟨i1, rest', hi, hr', rfl⟩ := insAll_cons hr
      have hsw := hsm p hp
      generalize hwds : split p [32] = wds at *
      obtain ⟨w, wz, rfl, hk0, hlen, hfi⟩ := insP_some hi
      have hwl : wz.length ≤ 400 := by have := split_len p [32]; rw [hwds] at this; simp at *; omega
      have cw := ok_words
      have hw0 : (w :: wz)[0]? = some w := rfl
      repeat (first | ((with_reducible apply s1); exact rfl) | (with_reducible first | apply CW.seq | apply CW.block | apply CW.region | apply CW.draw | apply CW.skip | apply CW.exit | apply CW.ret | apply q_then | apply q_then_exit | apply q_then_ret | apply q_block | apply q_block_ret | apply q_block_hit | apply q_ret | apply q_end | apply q_loop_exit | apply q_loop_ret | apply q_loopT_exit | apply q_loopT_ret | apply RW.nil) | ((with_reducible apply s3); exact rfl; exact by_k) | ((with_reducible apply s2); exact rfl; exact by_k) | ((with_reducible apply s4); exact rfl) | ((with_reducible apply s5); (first | (focus ((with_reducible apply a_call); exact c2; exact rfl; (repeat (first | exact SubsE.nil | (apply SubsE.cons; exact rfl; (first | exact .d (.refl _) | exact .d (.nil _) | exact .agg rfl (.refl _) | exact .pd | exact .ptr rfl); (first | exact trivial | exact ⟨rfl, trivial⟩)))); done)) | (focus ((with_reducible apply a_call); exact cw; exact rfl; (repeat (first | exact SubsE.nil | (apply SubsE.cons; exact rfl; (first | exact .d (.refl _) | exact .d (.nil _) | exact .agg rfl (.refl _) | exact .pd | exact .ptr rfl); (first | exact trivial | exact ⟨rfl, trivial⟩)))); done)) | exact by_oa); exact by_g) | ((with_reducible apply CW.cond_t); exact rfl; exact by_ks) | ((with_reducible apply CW.cond_f); exact rfl; exact by_ks) | ((with_reducible apply q_block_miss); exact rfl) | (refine And.intro (show chk [] [] _ _ = true by kernel_rfl) ?_))
      refine CW.loopT (fun t : Nat × Int => [sp 2 0, ob 0 [.v nilS, .v nilS, .v nilS], sp 6 1, (.o 1, .ob (.box [.d R, .d W, .own 2 code.length])), oa 2 93 5 (code.map Ins.enc), sd 36 (encStrs l), sd 37 (dint l.length), sd 38 (dint x),
          sd 9 (encStrs (w :: wz)), sp 10 3, ob 3 [dint t.2, dint 0, dint 0, dint 0, dstr []], sd 68 (encStrs words), sd 69 (dint words.length), sd 70 (dint t.1), nxt 4])
        (fun t => t.1 ≤ words.length ∧ 0 ≤ t.2 ∧ t.2 < 10 ∧ kindGo w t.1 t.2 (words.drop t.1) = kindOf w) (fun t => words.length - t.1) (0, 0) ⟨by dsimp only; omega, by dsimp only; omega, by dsimp only; omega, rfl⟩ ?_ ?_
      ·
        exact by_less
      · rintro ⟨y, k⟩ ⟨hy, hk1, hk2, hK⟩
        dsimp only at hy hk1 hk2 hK ⊢
        have hwn : words.length = 10 := rfl
        rcases drop_case hy with ⟨g1, g2⟩ | ⟨u, g1, g2, g3⟩
        · rw [g1, kindGo] at hK
          subst hK
          obtain ⟨K, hKe⟩ := Int.eq_ofNat_of_zero_le hk1
          rw [hKe] at hlen hfi hk0 hk2 ⊢
          rw [Int.toNat_natCast] at hlen hfi
          have cf := ok_form K (by omega)
          have hfl := form_len K
          generalize form K = f at *
          repeat (first | ((with_reducible apply s1); exact rfl) | (with_reducible first | apply CW.seq | apply CW.block | apply CW.region | apply CW.draw | apply CW.skip | apply CW.exit | apply CW.ret | apply q_then | apply q_then_exit | apply q_then_ret | apply q_block | apply q_block_ret | apply q_block_hit | apply q_ret | apply q_end | apply q_loop_exit | apply q_loop_ret | apply q_loopT_exit | apply q_loopT_ret | apply RW.nil) | ((with_reducible apply s3); exact rfl; exact by_k) | ((with_reducible apply s2); exact rfl; exact by_k) | ((with_reducible apply s4); exact rfl) | ((with_reducible apply s5); (first | (focus ((with_reducible apply a_call); exact cf; exact rfl; (repeat (first | exact SubsE.nil | (apply SubsE.cons; exact rfl; (first | exact .d (.refl _) | exact .d (.nil _) | exact .agg rfl (.refl _) | exact .pd | exact .ptr rfl); (first | exact trivial | exact ⟨rfl, trivial⟩)))); done)) | exact by_oa); exact by_g) | ((with_reducible apply CW.cond_t); exact rfl; exact by_ks) | ((with_reducible apply CW.cond_f); exact rfl; exact by_ks) | ((with_reducible apply q_block_miss); exact rfl) | (refine And.intro (show chk [] [] _ _ = true by kernel_rfl) ?_))
          refine CW.loopT (fun t : Nat × Ins => [sp 2 0, ob 0 [.v nilS, .v nilS, .v nilS], sp 6 1, (.o 1, .ob (.box [.d R, .d W, .own 2 code.length])), oa 2 93 5 (code.map Ins.enc), sd 36 (encStrs l), sd 37 (dint l.length), sd 38 (dint x),
              sd 9 (encStrs (w :: wz)), sp 10 3, ob 3 t.2.enc, sd 13 (dstr f), sd 107 (dstr f), sd 108 (dint f.length), sd 109 (dint t.1), nxt 4])
            (fun t => t.1 ≤ f.length ∧ fillI t.2 (f.drop t.1) (wz.drop t.1) = some i1) (fun t => f.length - t.1) (0, ⟨K, 0, 0, 0, []⟩) ⟨by dsimp only; omega, hfi⟩ ?_ ?_
          ·
            exact by_less
          · rintro ⟨j, i⟩ ⟨hj, hI⟩
            dsimp only at hj hI ⊢
            rcases drop_case hj with ⟨b1, b2⟩ | ⟨c, b1, b2, b3⟩
            · rw [b1, fillI] at hI
              cases hI
              repeat (first | ((with_reducible apply s1); exact rfl) | (with_reducible first | apply CW.seq | apply CW.block | apply CW.region | apply CW.draw | apply CW.skip | apply CW.exit | apply CW.ret | apply q_then | apply q_then_exit | apply q_then_ret | apply q_block | apply q_block_ret | apply q_block_hit | apply q_ret | apply q_end | apply q_loop_exit | apply q_loop_ret | apply q_loopT_exit | apply q_loopT_ret | apply RW.nil) | ((with_reducible apply s3); exact rfl; exact by_k) | ((with_reducible apply s2); exact rfl; exact by_k) | ((with_reducible apply s4); exact rfl) | ((with_reducible apply s5); (first | exact by_oa); exact by_g) | ((with_reducible apply CW.cond_t); exact rfl; exact by_ks) | ((with_reducible apply CW.cond_f); exact rfl; exact by_ks) | ((with_reducible apply q_block_miss); exact rfl) | (refine And.intro (show chk [] [] _ _ = true by kernel_rfl) ?_))
              refine q_loopT (x + 1, R, W, code ++ [i1]) ⟨by dsimp only; omega, fun _ => hR (by omega), fun _ => hW (by omega), by dsimp only; simp; omega, rest', by dsimp only; rw [show max (x + 1) 2 = x + 1 by omega]; exact hr', by dsimp only; rw [← hcd]; simp⟩ (by dsimp only; omega) ?_
              exact by_less
            · have hwj : j < wz.length := by omega
              have hwa : (w :: wz)[j + 1]? = some wz[j] := by simp [List.getElem?_eq_getElem hwj]
              rw [b1, List.drop_eq_getElem_cons hwj] at hI
              have hsj := hsw wz[j] (List.mem_cons_of_mem _ (List.getElem_mem hwj))
              have hwjl : wz[j].length ≤ 400 := Nat.le_trans (split_part (s := p) (sep := [32]) (by rw [hwds]; exact List.mem_cons_of_mem _ (List.getElem_mem hwj))) hpl
              generalize wz[j] = u at hwa hI hsj hwjl
              rcases fillI_cons hI with ⟨q1, q2⟩ | ⟨q1, n, q2, q3⟩ | ⟨q1, q2, r, n, rfl, q3, q4⟩
              ·
                repeat (first | ((with_reducible apply s1); exact rfl) | (with_reducible first | apply CW.seq | apply CW.block | apply CW.region | apply CW.draw | apply CW.skip | apply CW.exit | apply CW.ret | apply q_then | apply q_then_exit | apply q_then_ret | apply q_block | apply q_block_ret | apply q_block_hit | apply q_ret | apply q_end | apply q_loop_exit | apply q_loop_ret | apply q_loopT_exit | apply q_loopT_ret | apply RW.nil) | ((with_reducible apply s3); exact rfl; exact by_k) | ((with_reducible apply s2); exact rfl; exact by_k) | ((with_reducible apply s4); exact rfl) | ((with_reducible apply s5); (first | exact by_oa); exact by_g) | ((with_reducible apply CW.cond_t); exact rfl; exact by_ks) | ((with_reducible apply CW.cond_f); exact rfl; exact by_ks) | ((with_reducible apply q_block_miss); exact rfl) | (refine And.intro (show chk [] [] _ _ = true by kernel_rfl) ?_))
                refine q_loopT (j + 1, { i with key := u }) ⟨by dsimp only; omega, q2⟩ (by dsimp only; omega) ?_
                exact by_less
              · have hn := smallN_of hsj.1 q2
                have cn := ok_numS u n (by omega) q2 hn.1 hn.2
                repeat (first | ((with_reducible apply s1); exact rfl) | (with_reducible first | apply CW.seq | apply CW.block | apply CW.region | apply CW.draw | apply CW.skip | apply CW.exit | apply CW.ret | apply q_then | apply q_then_exit | apply q_then_ret | apply q_block | apply q_block_ret | apply q_block_hit | apply q_ret | apply q_end | apply q_loop_exit | apply q_loop_ret | apply q_loopT_exit | apply q_loopT_ret | apply RW.nil) | ((with_reducible apply s3); exact rfl; exact by_k) | ((with_reducible apply s2); exact rfl; exact by_k) | ((with_reducible apply s4); exact rfl) | ((with_reducible apply s5); (first | (focus ((with_reducible apply a_call); exact cn; exact rfl; (repeat (first | exact SubsE.nil | (apply SubsE.cons; exact rfl; (first | exact .d (.refl _) | exact .d (.nil _) | exact .agg rfl (.refl _) | exact .pd | exact .ptr rfl); (first | exact trivial | exact ⟨rfl, trivial⟩)))); done)) | exact by_oa); exact by_g) | ((with_reducible apply CW.cond_t); exact rfl; exact by_ks) | ((with_reducible apply CW.cond_f); exact rfl; exact by_ks) | ((with_reducible apply q_block_miss); exact rfl) | (refine And.intro (show chk [] [] _ _ = true by kernel_rfl) ?_))
                refine q_loopT (j + 1, { i with n := n }) ⟨by dsimp only; omega, q3⟩ (by dsimp only; omega) ?_
                exact by_less
              · have hn := smallN_of hsj.2 (show regV (114 :: r) = some n from q3)
                have cn := ok_numS r n (by simp at hwjl; omega) q3 hn.1 hn.2
                have hu0 : (114 :: r : Str)[0]? = some 114 := rfl
                rcases q4 with ⟨q4, q5⟩ | ⟨q4, q5⟩
                ·
                  repeat (first | ((with_reducible apply s1); exact rfl) | (with_reducible first | apply CW.seq | apply CW.block | apply CW.region | apply CW.draw | apply CW.skip | apply CW.exit | apply CW.ret | apply q_then | apply q_then_exit | apply q_then_ret | apply q_block | apply q_block_ret | apply q_block_hit | apply q_ret | apply q_end | apply q_loop_exit | apply q_loop_ret | apply q_loopT_exit | apply q_loopT_ret | apply RW.nil) | ((with_reducible apply s3); exact rfl; exact by_k) | ((with_reducible apply s2); exact rfl; exact by_k) | ((with_reducible apply s4); exact rfl) | ((with_reducible apply s5); (first | (focus ((with_reducible apply a_call); exact cn; exact rfl; (repeat (first | exact SubsE.nil | (apply SubsE.cons; exact rfl; (first | exact .d (.refl _) | exact .d (.nil _) | exact .agg rfl (.refl _) | exact .pd | exact .ptr rfl); (first | exact trivial | exact ⟨rfl, trivial⟩)))); done)) | ((with_reducible apply (a_is (k := 0))); (iterate 5 exact rfl); exact rfl) | ((with_reducible apply (a_subF (l := 1))); (iterate 5 exact rfl); exact Nat.succ_le_succ (Nat.zero_le _)) | exact by_oa); exact by_g) | ((with_reducible apply CW.cond_t); exact rfl; exact by_ks) | ((with_reducible apply CW.cond_f); exact rfl; exact by_ks) | ((with_reducible apply q_block_miss); exact rfl) | (refine And.intro (show chk [] [] _ _ = true by kernel_rfl) ?_))
                  refine q_loopT (j + 1, { i with a := n }) ⟨by dsimp only; omega, q5⟩ (by dsimp only; omega) ?_
                  exact by_less
                ·
                  repeat (first | ((with_reducible apply s1); exact rfl) | (with_reducible first | apply CW.seq | apply CW.block | apply CW.region | apply CW.draw | apply CW.skip | apply CW.exit | apply CW.ret | apply q_then | apply q_then_exit | apply q_then_ret | apply q_block | apply q_block_ret | apply q_block_hit | apply q_ret | apply q_end | apply q_loop_exit | apply q_loop_ret | apply q_loopT_exit | apply q_loopT_ret | apply RW.nil) | ((with_reducible apply s3); exact rfl; exact by_k) | ((with_reducible apply s2); exact rfl; exact by_k) | ((with_reducible apply s4); exact rfl) | ((with_reducible apply s5); (first | (focus ((with_reducible apply a_call); exact cn; exact rfl; (repeat (first | exact SubsE.nil | (apply SubsE.cons; exact rfl; (first | exact .d (.refl _) | exact .d (.nil _) | exact .agg rfl (.refl _) | exact .pd | exact .ptr rfl); (first | exact trivial | exact ⟨rfl, trivial⟩)))); done)) | ((with_reducible apply (a_is (k := 0))); (iterate 5 exact rfl); exact rfl) | ((with_reducible apply (a_subF (l := 1))); (iterate 5 exact rfl); exact Nat.succ_le_succ (Nat.zero_le _)) | exact by_oa); exact by_g) | ((with_reducible apply CW.cond_t); exact rfl; exact by_ks) | ((with_reducible apply CW.cond_f); exact rfl; exact by_ks) | ((with_reducible apply q_block_miss); exact rfl) | (refine And.intro (show chk [] [] _ _ = true by kernel_rfl) ?_))
                  refine q_loopT (j + 1, { i with b := n }) ⟨by dsimp only; omega, q5⟩ (by dsimp only; omega) ?_
                  exact by_less
        · rw [g1, kindGo] at hK
          by_cases hy0 : 0 < y
          · by_cases hu : u = w
            · rw [if_pos ⟨hy0, hu⟩] at hK
              repeat (first | ((with_reducible apply s1); exact rfl) | (with_reducible first | apply CW.seq | apply CW.block | apply CW.region | apply CW.draw | apply CW.skip | apply CW.exit | apply CW.ret | apply q_then | apply q_then_exit | apply q_then_ret | apply q_block | apply q_block_ret | apply q_block_hit | apply q_ret | apply q_end | apply q_loop_exit | apply q_loop_ret | apply q_loopT_exit | apply q_loopT_ret | apply RW.nil) | ((with_reducible apply s3); exact rfl; exact by_k) | ((with_reducible apply s2); exact rfl; exact by_k) | ((with_reducible apply s4); exact rfl) | ((with_reducible apply s5); (first | exact by_oa); exact by_g) | ((with_reducible apply CW.cond_t); exact rfl; exact by_ks) | ((with_reducible apply CW.cond_f); exact rfl; exact by_ks) | ((with_reducible apply q_block_miss); exact rfl) | (refine And.intro (show chk [] [] _ _ = true by kernel_rfl) ?_))
              refine q_loopT (y + 1, (y : Int)) ⟨by dsimp only; omega, by dsimp only; omega, by dsimp only; omega, hK⟩ (by dsimp only; omega) ?_
              exact by_less
            · rw [if_neg (fun h => hu h.2)] at hK
              repeat (first | ((with_reducible apply s1); exact rfl) | (with_reducible first | apply CW.seq | apply CW.block | apply CW.region | apply CW.draw | apply CW.skip | apply CW.exit | apply CW.ret | apply q_then | apply q_then_exit | apply q_then_ret | apply q_block | apply q_block_ret | apply q_block_hit | apply q_ret | apply q_end | apply q_loop_exit | apply q_loop_ret | apply q_loopT_exit | apply q_loopT_ret | apply RW.nil) | ((with_reducible apply s3); exact rfl; exact by_k) | ((with_reducible apply s2); exact rfl; exact by_k) | ((with_reducible apply s4); exact rfl) | ((with_reducible apply s5); (first | exact by_oa); exact by_g) | ((with_reducible apply CW.cond_t); exact rfl; exact by_ks) | ((with_reducible apply CW.cond_f); exact rfl; exact by_ks) | ((with_reducible apply q_block_miss); exact rfl) | (refine And.intro (show chk [] [] _ _ = true by kernel_rfl) ?_))
              refine q_loopT (y + 1, k) ⟨by dsimp only; omega, by dsimp only; omega, by dsimp only; omega, hK⟩ (by dsimp only; omega) ?_
              exact by_less
          · rw [if_neg (fun h => hy0 h.1)] at hK
            repeat (first | ((with_reducible apply s1); exact rfl) | (with_reducible first | apply CW.seq | apply CW.block | apply CW.region | apply CW.draw | apply CW.skip | apply CW.exit | apply CW.ret | apply q_then | apply q_then_exit | apply q_then_ret | apply q_block | apply q_block_ret | apply q_block_hit | apply q_ret | apply q_end | apply q_loop_exit | apply q_loop_ret | apply q_loopT_exit | apply q_loopT_ret | apply RW.nil) | ((with_reducible apply s3); exact rfl; exact by_k) | ((with_reducible apply s2); exact rfl; exact by_k) | ((with_reducible apply s4); exact rfl) | ((with_reducible apply s5); (first | exact by_oa); exact by_g) | ((with_reducible apply CW.cond_t); exact rfl; exact by_ks) | ((with_reducible apply CW.cond_f); exact rfl; exact by_ks) | ((with_reducible apply q_block_miss); exact rfl) | (refine And.intro (show chk [] [] _ _ = true by kernel_rfl) ?_))
            refine q_loopT (y + 1, k) ⟨by dsimp only; omega, by dsimp only; omega, by dsimp only; omega, hK⟩ (by dsimp only; omega) ?_
            exact by_less

end Go.Proofs.YtembfadhnkabhaaGreatDoor

/-! H5 -/
/-
  Texts of deeds that laws ask first.
-/
namespace Go.Proofs.YtembfadhnkabhaaGreatDoor
open Go.AX Go.RF

/-- 'reads; writes a; const r0 4; store r0 a' -/
def tA : Str := [114, 101, 97, 100, 115, 59, 32, 119, 114, 105, 116, 101, 115, 32, 97, 59, 32, 99, 111, 110, 115, 116, 32, 114, 48, 32, 52, 59, 32, 115, 116, 111, 114, 101, 32, 114, 48, 32, 97]
def dA : Deed := ⟨[], [[97]], [⟨2, 0, 0, 4, []⟩, ⟨6, 0, 0, 0, [97]⟩]⟩
theorem pA : parseD tA = some dA := by decide +kernel
theorem sA : smallS tA = true := by decide +kernel
/-- 'reads a; writes; load r1 a' -/
def tB : Str := [114, 101, 97, 100, 115, 32, 97, 59, 32, 119, 114, 105, 116, 101, 115, 59, 32, 108, 111, 97, 100, 32, 114, 49, 32, 97]
def dB : Deed := ⟨[[97]], [], [⟨1, 1, 0, 0, [97]⟩]⟩
theorem pB : parseD tB = some dB := by decide +kernel
theorem sB : smallS tB = true := by decide +kernel
end Go.Proofs.YtembfadhnkabhaaGreatDoor

/-! AxPdA -/
/-
  Arrays in what stays, indexed.
-/
namespace Go.AX
open Go.RowKit

variable {cx : Cx} {g : Nat → Value} {σ σ' : St} {a : Act} {w w' : World} {nx : Nat}
variable {ty : TypeId} {pos : String} {af : Array Edge} {gd : Option (Nat × Bool)} {d : Nat}

theorem a_ibpd {t : TypeId} {x y : Operand} {n k : Nat} {cells : List D} {kd : IntKind} {i : Nat} {ti : TI} (hx : ev σ x = some (.pd cells)) (hy : ev σ y = some (.d (.v (.int kd (i : Int)))))
    (ht : tget cx.T t = some ti) (hk : arK ti = some (n, k)) (hd : Nat.blt d cx.n = true) (hi : i < n) :
    OA cx σ ⟨some d, .indexAddr t x y, ty, pos, af, gd⟩ ⟨rdOf x (.pd cells) ++ rdOf y (.d (.v (.int kd (i : Int)))), [(.s d, .av (.pd (cells.drop (i * k))))]⟩ := by
  refine ⟨ok_val rfl (lt_of_blt hd) fun σ a w g nx hs hr => ?_, (ev_out hx).2.append (ev_out hy).2⟩
  obtain ⟨ad, hv, h1, h2, hc⟩ := (hs.ev (ev_out hx).1 hr.left).1
  have hy' := rep_v (hs.ev (ev_out hy).1 hr.right).1
  obtain ⟨e, ie, hu, hie, hks⟩ := array_of (cx.hT t ti ht) hk
  refine ⟨.pointer (some (ad.add (i * k))), w, ?_, Below.refl _ _, ⟨_, rfl, by rw [add_block]; exact h1, by rw [add_block]; exact h2, hc.drop (i * k)⟩, trivial⟩
  have : (0 : Int) ≤ (i : Int) ∧ (i : Int) < (n : Int) := ⟨by omega, by omega⟩
  simp [execOp, hy', hv, Instr.indexAt, asIntOf, run_underlying hu, Instr.sureAddr, hi, sizeOf, typeInfo, hie, hks]

end Go.AX

/-! L12 -/
/-
  The laws RunSame and RunEach answer true of whatever data.
-/
namespace Go.Proofs.YtembfadhnkabhaaGreatDoor
open Go.AX Go.RF

set_option maxRecDepth 100000
set_option maxHeartbeats 8000000

theorem ok_read7 (s : Str) (d : Deed) (h : parseD s = some d) (hm : smallS s = true) : FnOk Tryz.prog 27 [.d (dstr s)] (.one (.agg d.enc)) := by
  refine fnOk_of tbl_ok mixed_ok Tryz.func27 rfl (by kernel_rfl) rfl rfl fun w0 own0 => ?_
  have c1 := ok_parseS s d h hm
  repeat (first | ((with_reducible apply s1); exact rfl) | (with_reducible first | apply CW.seq | apply CW.block | apply CW.region | apply CW.draw | apply CW.skip | apply CW.exit | apply CW.ret | apply q_then | apply q_then_exit | apply q_then_ret | apply q_block | apply q_block_ret | apply q_block_hit | apply q_ret | apply q_end | apply q_loop_exit | apply q_loop_ret | apply q_loopT_exit | apply q_loopT_ret | apply RW.nil) | ((with_reducible apply s3); exact rfl; exact by_k) | ((with_reducible apply s2); exact rfl; exact by_k) | ((with_reducible apply s4); exact rfl) | ((with_reducible apply s5); (first | (focus ((with_reducible apply a_call); exact c1; exact rfl; (repeat (first | exact SubsE.nil | (apply SubsE.cons; exact rfl; (first | exact .d (.refl _) | exact .d (.nil _) | exact .agg rfl (.refl _) | exact .pd | exact .ptr rfl); (first | exact trivial | exact ⟨rfl, trivial⟩)))); done)) | exact by_oa); exact by_g) | ((with_reducible apply CW.cond_t); exact rfl; exact by_ks) | ((with_reducible apply CW.cond_f); exact rfl; exact by_ks) | ((with_reducible apply q_block_miss); exact rfl) | (refine And.intro (show chk [] [] _ _ = true by kernel_rfl) ?_))
  exact .one (.cell rfl rfl rfl rfl (.aggd rfl (.refl _)))

def l7 : List Deed := [dA, dB]
theorem e7_add : (addE (newE []) l7).2 = 0 := by decide +kernel
theorem e7_ready : (ready (addE (newE []) l7).1).length = 1 := by decide +kernel
theorem e7_wait : (goE (addE (newE []) l7).1 1).2 = 10 := by decide +kernel
theorem e7_ok : (goE (addE (newE []) l7).1 0).2 = 0 := by decide +kernel
theorem x7_ready : (ready (goE (addE (newE []) l7).1 0).1).length = 1 := by decide +kernel
theorem y7_ready : (ready (allE (goE (addE (newE []) l7).1 0).1 [])).length = 0 := by decide +kernel
theorem y7_end : (allE (goE (addE (newE []) l7).1 0).1 []).ends[1]? = some ⟨false, 0, 4, 0, 0⟩ := by decide +kernel
theorem l7_sm : ∀ d ∈ l7, d.Sm := by
  intro d hd
  simp [l7] at hd
  rcases hd with rfl | rfl <;> constructor <;> simp [dA, dB]

theorem ok_alive7 : FnOk Tryz.prog 8 [] (.one (dbool true)) := by
  refine fnOk_of tbl_ok mixed_ok Tryz.func8 rfl (by kernel_rfl) rfl rfl fun w0 own0 => ?_
  have r1 := ok_read7 tA dA pA sA
  have r2 := ok_read7 tB dB pB sB
  have hok : rowsOk [] := by simp [rowsOk]
  have hE0 := newE_inv hok
  have hB := (newE_b (r := []) (by decide +kernel)).addE e7_add
  have hE := hE0.addE l7_sm e7_add
  have c1 := ok_new [] (by simp)
  have c2 := ok_addE (newE []) l7 _ hE0.z l7_sm (by simp [l7]) (by simp [l7])
  rw [e7_add] at c2
  have hN : ([] : List Pair).length + 1 + 5 * l7.length = 11 := rfl
  rw [hN] at hE
  have hz := hE.z.sm (by omega)
  have c3 := ok_pready (addE (newE []) l7).1 hz hE.z.s (fun d hd => (wrong_keys (hB.W.d d hd)).1) hB.S.k hB.W.nb
  have c4 := ok_pgoE (addE (newE []) l7).1 1 hz hB.S hB.W hE.c hE.z.n
  rw [e7_wait] at c4
  have c5 := ok_pgoE (addE (newE []) l7).1 0 hz hB.S hB.W hE.c hE.z.n
  rw [e7_ok] at c5
  have hB2 := hB.goE 0
  have hE2 := hE.goE 0
  have f1 := e7_ready
  have f2 := x7_ready
  have f3 := y7_ready
  have f4 := y7_end
  generalize (goE (addE (newE []) l7).1 1).1 = v at c4
  generalize (goE (addE (newE []) l7).1 0).1 = x at *
  generalize (addE (newE []) l7).1 = e at *
  generalize newE [] = e0 at *
  have hz2 := hE2.z.sm (by omega)
  have c6 := ok_pready x hz2 hE2.z.s (fun d hd => (wrong_keys (hB2.W.d d hd)).1) hB2.S.k hB2.W.nb
  have c7 := ok_runAll x [] _ hE2 (by omega) hB2.S hB2.W (by simp)
  have hB3 := (all_inv (p := []) rfl hB2).1
  have hE3 := hE2.allE (p := []) rfl
  generalize allE x [] = y at *
  have hz3 := hE3.z.sm (by omega)
  have c8 := ok_pready y hz3 hE3.z.s (fun d hd => (wrong_keys (hB3.W.d d hd)).1) hB3.S.k hB3.W.nb
  repeat (first | ((with_reducible apply s5); ((with_reducible apply a_bs ([dA, dB].map Deed.enc)); (iterate 9 exact rfl); (repeat (first | exact PartsE.nil | (apply PartsE.cons; exact rfl; exact rfl)))); exact by_g) | ((with_reducible apply s1); exact rfl) | (with_reducible first | apply CW.seq | apply CW.block | apply CW.region | apply CW.draw | apply CW.skip | apply CW.exit | apply CW.ret | apply q_then | apply q_then_exit | apply q_then_ret | apply q_block | apply q_block_ret | apply q_block_hit | apply q_ret | apply q_end | apply q_loop_exit | apply q_loop_ret | apply q_loopT_exit | apply q_loopT_ret | apply RW.nil) | ((with_reducible apply s3); exact rfl; exact by_k) | ((with_reducible apply s2); exact rfl; exact by_k) | ((with_reducible apply s4); exact rfl) | ((with_reducible apply s5); (first | (focus ((with_reducible apply a_call); exact r1; exact rfl; (repeat (first | exact SubsE.nil | (apply SubsE.cons; exact rfl; (first | exact .d (.refl _) | exact .d (.nil _) | exact .agg rfl (.refl _) | exact .pd | exact .ptr rfl); (first | exact trivial | exact ⟨rfl, trivial⟩)))); done)) | (focus ((with_reducible apply a_call); exact r2; exact rfl; (repeat (first | exact SubsE.nil | (apply SubsE.cons; exact rfl; (first | exact .d (.refl _) | exact .d (.nil _) | exact .agg rfl (.refl _) | exact .pd | exact .ptr rfl); (first | exact trivial | exact ⟨rfl, trivial⟩)))); done)) | (focus ((with_reducible apply a_call); exact c1; exact rfl; (repeat (first | exact SubsE.nil | (apply SubsE.cons; exact rfl; (first | exact .d (.refl _) | exact .d (.nil _) | exact .agg rfl (.refl _) | exact .pd | exact .ptr rfl); (first | exact trivial | exact ⟨rfl, trivial⟩)))); done)) | (focus ((with_reducible apply a_call); exact c2; exact rfl; (repeat (first | exact SubsE.nil | (apply SubsE.cons; exact rfl; (first | exact .d (.refl _) | exact .d (.nil _) | exact .agg rfl (.refl _) | exact .pd | exact .ptr rfl); (first | exact trivial | exact ⟨rfl, trivial⟩)))); done)) | (focus ((with_reducible apply a_call); exact c3; exact rfl; (repeat (first | exact SubsE.nil | (apply SubsE.cons; exact rfl; (first | exact .d (.refl _) | exact .d (.nil _) | exact .agg rfl (.refl _) | exact .pd | exact .ptr rfl); (first | exact trivial | exact ⟨rfl, trivial⟩)))); done)) | (focus ((with_reducible apply a_call); exact c4; exact rfl; (repeat (first | exact SubsE.nil | (apply SubsE.cons; exact rfl; (first | exact .d (.refl _) | exact .d (.nil _) | exact .agg rfl (.refl _) | exact .pd | exact .ptr rfl); (first | exact trivial | exact ⟨rfl, trivial⟩)))); done)) | (focus ((with_reducible apply a_call); exact c5; exact rfl; (repeat (first | exact SubsE.nil | (apply SubsE.cons; exact rfl; (first | exact .d (.refl _) | exact .d (.nil _) | exact .agg rfl (.refl _) | exact .pd | exact .ptr rfl); (first | exact trivial | exact ⟨rfl, trivial⟩)))); done)) | (focus ((with_reducible apply a_call); exact c6; exact rfl; (repeat (first | exact SubsE.nil | (apply SubsE.cons; exact rfl; (first | exact .d (.refl _) | exact .d (.nil _) | exact .agg rfl (.refl _) | exact .pd | exact .ptr rfl); (first | exact trivial | exact ⟨rfl, trivial⟩)))); done)) | (focus ((with_reducible apply a_call); exact c7; exact rfl; (repeat (first | exact SubsE.nil | (apply SubsE.cons; exact rfl; (first | exact .d (.refl _) | exact .d (.nil _) | exact .agg rfl (.refl _) | exact .pd | exact .ptr rfl); (first | exact trivial | exact ⟨rfl, trivial⟩)))); done)) | (focus ((with_reducible apply a_call); exact c8; exact rfl; (repeat (first | exact SubsE.nil | (apply SubsE.cons; exact rfl; (first | exact .d (.refl _) | exact .d (.nil _) | exact .agg rfl (.refl _) | exact .pd | exact .ptr rfl); (first | exact trivial | exact ⟨rfl, trivial⟩)))); done)) | ((with_reducible apply a_ia); (iterate 5 exact rfl); exact idx_map (k := 1) f4) | ((with_reducible apply (a_ibpd (i := 1))); (iterate 5 exact rfl); decide) | exact by_oa); exact by_g) | ((with_reducible apply CW.cond_t); exact rfl; exact by_ks) | ((with_reducible apply CW.cond_f); exact rfl; exact by_ks) | ((with_reducible apply q_block_miss); exact rfl) | (refine And.intro (show chk [] [] _ _ = true by kernel_rfl) ?_))
  exact .one (.tmp rfl (.one (.d (dle_bool (by simp [f1, f2, f3])))))

end Go.Proofs.YtembfadhnkabhaaGreatDoor

/-! P13 -/
/-
  Versions' deeds are no less than -1.
-/
namespace Go.Proofs.YtembfadhnkabhaaGreatDoor
open Go.AX Go.RF

def LInv (e : Engine) : Prop := ∀ c ∈ e.chains, ∀ v ∈ c.vs, -1 ≤ v.by_
theorem newE_l (r : List Pair) : LInv (newE r) := by
  intro c hc v hv
  obtain ⟨p, _, rfl⟩ := List.mem_map.1 hc
  simp [rowChain] at hv
  subst hv; simp
theorem LInv.add1 {e : Engine} (h : LInv e) (hs : SInv e) (hb : 0 ≤ e.base) (d : Deed) : LInv (RF.add1 e d) := by
  intro c hc v hv
  rcases addKeys_mem hs.k c hc v hv with ⟨c0, h0, h1, h2⟩ | ⟨rfl, h2⟩
  · exact h c0 h0 v h2
  · show -1 ≤ e.base + (e.deeds.length : Int)
    omega
theorem LInv.addAll : ∀ {l : List Deed} {e : Engine}, LInv e → SInv e → 0 ≤ e.base → (∀ d ∈ l, wrongDeed d = 0) → LInv (RF.addAll e l)
  | [], e, h, _, _, _ => h
  | d :: l, e, h, hs, hb, hl => by
    simp only [RF.addAll]
    exact LInv.addAll (h.add1 hs hb d) (hs.add1 (wrong_keys (hl d (List.mem_cons_self ..))).2) hb fun x hx => hl x (List.mem_cons_of_mem _ hx)
theorem LInv.addE {e : Engine} (h : LInv e) (hs : SInv e) (hb : 0 ≤ e.base) {l : List Deed} (hw : (RF.addE e l).2 = 0) : LInv (RF.addE e l).1 := by
  unfold RF.addE at hw ⊢
  by_cases h0 : wrongs l = 0
  · rw [if_pos h0]
    exact h.addAll hs hb fun d hd => wrongs_mem h0 d hd
  · rw [if_neg h0] at hw; exact absurd hw h0
theorem goSets_lo {r : List Pair} {b : Int} : ∀ {ks : List Str} {l : List Chain}, (∀ c ∈ l, ∀ v ∈ c.vs, -1 ≤ v.by_) → ∀ c ∈ goSets r b l ks, ∀ v ∈ c.vs, -1 ≤ v.by_
  | [], l, h => h
  | k :: ks, l, h => by
    simp only [goSets]
    refine goSets_lo fun c hc v hv => ?_
    obtain ⟨c1, h4, rfl⟩ := List.mem_map.1 hc
    obtain ⟨w, h5, rfl⟩ := List.mem_map.1 hv
    rw [setV_by]
    exact h c1 h4 w h5
theorem LInv.goE {e : Engine} (h : LInv e) (x : Int) : LInv (Proofs.YtembfadhnkabhaaGreatDoor.goE e x).1 := by
  unfold Proofs.YtembfadhnkabhaaGreatDoor.goE
  split
  · exact h
  unfold goAt
  split
  · split
    · exact h
    split
    · exact goSets_lo h
    · exact h
  · exact h
theorem LInv.clearE {e : Engine} (h : LInv e) : LInv (RF.clearE e) := by
  intro c hc v hv
  have hc' : c ∈ clear (e.base + markN e.state) e.chains := hc
  obtain ⟨c0, h2, rfl, _⟩ := clear_mem' hc'
  exact h c0 h2 v (clrV_sub hv)
theorem LInv.pickE {e : Engine} (h : LInv e) (n : Int) : LInv (Proofs.YtembfadhnkabhaaGreatDoor.pickE e n) := by
  unfold Proofs.YtembfadhnkabhaaGreatDoor.pickE
  split
  · exact h.clearE
  split
  · exact h
  split
  · exact h.goE _
  · exact h
theorem LInv.batchE {e : Engine} {r : List Pair} (h : LInv e) (hB : BInv e r) (b : List Deed) : LInv (Proofs.YtembfadhnkabhaaGreatDoor.batchE e b) := by
  unfold Proofs.YtembfadhnkabhaaGreatDoor.batchE
  split
  · next hw => exact h.addE hB.S hB.Q.b hw
  · exact h
theorem LInv.pickGo : ∀ {k : Nat} {e : Engine} {p : List Int}, LInv e → LInv (Proofs.YtembfadhnkabhaaGreatDoor.pickGo k e p).1
  | 0, e, p, h => h
  | k + 1, e, [], h => h
  | k + 1, e, n :: p, h => by
    simp only [Proofs.YtembfadhnkabhaaGreatDoor.pickGo]
    exact LInv.pickGo (h.pickE n)
theorem LInv.buildGo : ∀ {bs : List (List Deed)} {e : Engine} {p : List Int} {r : List Pair}, LInv e → BInv e r → LInv (Proofs.YtembfadhnkabhaaGreatDoor.buildGo e bs p)
  | [], e, p, r, h, _ => h
  | b :: bs, e, p, r, h, hB => by
    simp only [Proofs.YtembfadhnkabhaaGreatDoor.buildGo]
    obtain ⟨r', h'⟩ := (hB.batchE b).pickGo (k := 3) (p := p)
    exact LInv.buildGo (h.batchE hB b).pickGo h'
theorem build_l {r : List Pair} (h : wrongRows r = 0) (bs : List (List Deed)) (p : List Int) : LInv (buildE r bs p) := (newE_l r).buildGo (newE_b h)

end Go.Proofs.YtembfadhnkabhaaGreatDoor

/-! AxMapI -/
/-
  Maps of ours from numbers: made, written, read.
-/
namespace Go.AX
open Go.RowKit

variable {cx : Cx} {g : Nat → Value} {σ σ' : St} {a : Act} {w w' : World} {nx : Nat}
variable {ty : TypeId} {pos : String} {af : Array Edge} {gd : Option (Nat × Bool)} {d : Nat}

/-- A type of maps from numbers. -/
structure MapTyI (cx : Cx) (t te : TypeId) (zv : Value) : Prop where
  u : ∃ tk, cx.P.underlying t = some (.map tk te) ∧ cx.P.underlying tk = some (.int .i64)
  z : ∀ w, (zeroValue te).run cx.P w = .ok zv w
def mgetI (M : List (Int × Value)) (k : Int) : Option Value := match M with
  | [] => none
  | (s, v) :: r => if s = k then some v else mgetI r k
def msetI (M : List (Int × Value)) (k : Int) (v : Value) : List (Int × Value) := match M with
  | [] => [(k, v)]
  | (s, u) :: r => if s = k then (s, v) :: r else (s, u) :: msetI r k v
theorem mgetI_msetI (M : List (Int × Value)) (k k' : Int) (v : Value) : mgetI (msetI M k v) k' = if k = k' then some v else mgetI M k' := by
  induction M with
  | nil => simp [msetI, mgetI]
  | cons p M ih =>
    obtain ⟨s, u⟩ := p
    simp only [msetI]
    by_cases hs : s = k
    · rw [if_pos hs]
      simp only [mgetI]
      by_cases h : k = k'
      · rw [if_pos (by rw [hs]; exact h), if_pos h]
      · rw [if_neg (by rw [hs]; exact h), if_neg h, if_neg (by rw [hs]; exact h)]
    · rw [if_neg hs]
      simp only [mgetI, ih]
      by_cases h : s = k'
      · rw [if_pos h, if_neg (fun e => hs (by rw [h, e])), if_pos h]
      · rw [if_neg h, if_neg h]
/-- Where a key is found. -/
def mfindI (k : Int) : List (Int × Value) → Nat → Option (Nat × Value)
  | [], _ => none
  | (s, v) :: r, i => if s = k then some (i, v) else mfindI k r (i + 1)
theorem findNow_eqI (k : Int) : ∀ {es : List MapEntry} {M : List (Int × Value)} (i : Nat), es.map (fun e => (e.key, e.val)) = M.map (fun p => (Value.int .i64 p.1, p.2)) →
    Instr.findNow (.int .i64) (.int .i64 k) es i = some ((mfindI k M i).map fun p => (p.1, p.2))
  | [], [], i, _ => rfl
  | [], p :: M, i, h => by simp at h
  | e :: es, [], i, h => by simp at h
  | e :: es, (s, v) :: M, i, h => by
    simp only [List.map_cons, List.cons.injEq, Prod.mk.injEq] at h
    obtain ⟨⟨h1, h2⟩, h3⟩ := h
    obtain ⟨r, hr, hiff⟩ := MapKept.sameNow_of_keys (d := .int .i64) (a := .int .i64 k) (b := .int .i64 s) (by simp [MapKept.IsKey]) (by simp [MapKept.IsKey])
    rw [← h1] at hr
    have hs' : r = true ↔ s = k := by
      rw [hiff]
      simp only [Value.int.injEq, true_and]
      exact eq_comm
    simp only [Instr.findNow, hr, mfindI]
    by_cases hs : s = k
    · rw [if_pos hs]
      have hrt := hs'.2 hs
      subst hrt
      simp [h2]
    · rw [if_neg hs]
      have hrf : r = false := by
        cases r with
        | false => rfl
        | true => exact absurd (hs'.1 rfl) hs
      subst hrf
      exact findNow_eqI k (i + 1) h3
theorem mfindI_get (k : Int) : ∀ (M : List (Int × Value)) (i : Nat), (mfindI k M i).map (·.2) = mgetI M k
  | [], _ => rfl
  | (s, v) :: M, i => by
    simp only [mfindI, mgetI]
    split
    · rfl
    · exact mfindI_get k M (i + 1)
def mlookI (zv : Value) (M : List (Int × Value)) (k : Int) : Value := (mgetI M k).getD zv
theorem run_mlookI {t te : TypeId} {zv : Value} (h : MapTyI cx t te zv) {b : Nat} {es : Array MapEntry} {clock : Nat} {M : List (Int × Value)} (hb : w.heap[b]? = some (.map es clock)) (hm : MapIsI es M) (k : Int) :
    (Instr.lookup t (.map (some b)) (.int .i64 k) false).run cx.P w = .ok (mlookI zv M k) w := by
  obtain ⟨tk, h1, h2⟩ := h.u
  have hf := findNow_eqI k 0 hm
  have hg := mfindI_get k M 0
  have hck : (Instr.checkKey es.isEmpty 10000 tk (.int .i64 k)).run cx.P w = .ok () w := MapKept.run_checkKey h2 (by simp [MapKept.IsKey]) _ 9999
  have hz := h.z w
  cases hfd : mfindI k M 0 with
  | none =>
    rw [hfd] at hf hg
    simp only [Option.map_none] at hf hg
    simp [Instr.lookup, run_underlying h1, MapKept.run_getObj_map hb, hck, Instr.findKey, run_underlying h2, hf, hz, mlookI, ← hg, Result.andThen]
  | some p =>
    rw [hfd] at hf hg
    simp only [Option.map_some] at hf hg
    simp [Instr.lookup, run_underlying h1, MapKept.run_getObj_map hb, hck, Instr.findKey, run_underlying h2, hf, mlookI, ← hg, Result.andThen]
theorem mgetI_mem {M : List (Int × Value)} {k : Int} {us : Value} (h : mgetI M k = some us) : ∃ p ∈ M, p.2 = us := by
  induction M with
  | nil => cases h
  | cons q M ih =>
    obtain ⟨s, v⟩ := q
    simp only [mgetI] at h
    split at h
    · cases h; exact ⟨_, List.mem_cons_self .., rfl⟩
    · obtain ⟨p, h1, h2⟩ := ih h
      exact ⟨p, List.mem_cons_of_mem _ h1, h2⟩
theorem mlookI_flat {zv : Value} {M : List (Int × Value)} {k : Int} (hz : flat zv) (hM : ∀ p ∈ M, flat p.2) : flat (mlookI zv M k) := by
  unfold mlookI
  cases hg : mgetI M k with
  | none => exact hz
  | some us =>
    obtain ⟨p, h1, rfl⟩ := mgetI_mem hg
    exact hM p h1
/-- A map of ours, read. -/
theorem a_mlook1I {t te : TypeId} {zv : Value} {x y : Operand} {x0 : Value} {k : Int} {M : List (Int × Value)} (id : Nat) (h : MapTyI cx t te zv) (hz : flat zv) (hM : ∀ p ∈ M, flat p.2)
    (hx : ev σ x = some (.d (.v x0))) (hy : ev σ y = some (.d (.v (.int .i64 k)))) (ho : get σ (.o id) = .ob (.mi M x0)) (hd : Nat.blt d cx.n = true) :
    OA cx σ ⟨some d, .lookup t x y false, ty, pos, af, gd⟩ ⟨rdOf x (.d (.v x0)) ++ (rdOf y (.d (.v (.int .i64 k))) ++ [(.o id, .ob (.mi M x0))]), [(.s d, .av (.d (dv (mlookI zv M k))))]⟩ := by
  refine ⟨ok_val rfl (lt_of_blt hd) fun σ1 a w g nx hs hr => ?_, (ev_out hx).2.append ((ev_out hy).2.append ⟨ho, trivial⟩)⟩
  have hv := rep_v (hs.ev (ev_out hx).1 hr.left).1
  have hk := rep_v (hs.ev (ev_out hy).1 hr.right.left).1
  obtain ⟨_, ⟨hgx, b, es, clock, hx0, hge, hh, hmi⟩, _⟩ := hs.objs id _ hr.right.right.1
  refine ⟨_, w, ?_, Below.refl _ _, rd_dv (mlookI_flat hz hM), trivial⟩
  have := run_mlookI (w := w) h hh hmi k
  simp [execOp, hv, hk, hx0, this]

/-! ### Written -/
theorem mfindI_some {k : Int} {us v : Value} : ∀ {M : List (Int × Value)} {j i : Nat}, mfindI k M j = some (i, v) → ∃ n, i = j + n ∧ M[n]? = some (k, v) ∧ msetI M k us = M.set n (k, us)
  | [], j, i, h => by cases h
  | (s, u) :: M, j, i, h => by
    simp only [mfindI] at h
    by_cases hs : s = k
    · rw [if_pos hs] at h
      cases h
      exact ⟨0, rfl, by simp [hs], by simp [msetI, hs]⟩
    · rw [if_neg hs] at h
      obtain ⟨n, h1, h2, h3⟩ := mfindI_some (us := us) h
      exact ⟨n + 1, by omega, by simpa using h2, by simp [msetI, hs, h3]⟩
theorem mfindI_none {k : Int} {us : Value} : ∀ {M : List (Int × Value)} {j : Nat}, mfindI k M j = none → msetI M k us = M ++ [(k, us)]
  | [], j, _ => rfl
  | (s, u) :: M, j, h => by
    simp only [mfindI] at h
    by_cases hs : s = k
    · rw [if_pos hs] at h; cases h
    · rw [if_neg hs] at h
      simp [msetI, hs, mfindI_none h]
theorem run_msetI {t te : TypeId} {zv : Value} (h : MapTyI cx t te zv) {b : Nat} {es : Array MapEntry} {clock : Nat} {M : List (Int × Value)} (hb : w.heap[b]? = some (.map es clock)) (hm : MapIsI es M) (k : Int) (us : Value) :
    ∃ es' clock', (Instr.mapUpdate t (.map (some b)) (.int .i64 k) us).run cx.P w = .ok () { w with heap := w.heap.setIfInBounds b (.map es' clock') } ∧ MapIsI es' (msetI M k us) := by
  obtain ⟨tk, h1, h2⟩ := h.u
  have hf := findNow_eqI k 0 hm
  have hck : (Instr.checkKey false 10000 tk (.int .i64 k)).run cx.P w = .ok () w := MapKept.run_checkKey h2 (by simp [MapKept.IsKey]) _ 9999
  have hset : ∀ o, (setObj b o).run cx.P w = .ok () { w with heap := w.heap.setIfInBounds b o } := fun o => MapKept.run_setObj_map o hb
  cases hfd : mfindI k M 0 with
  | none =>
    rw [hfd] at hf
    simp only [Option.map_none] at hf
    refine ⟨es.push ⟨.int .i64 k, us, clock⟩, clock + 1, ?_, ?_⟩
    · simp [Instr.mapUpdate, run_underlying h1, MapKept.run_getObj_map hb, hck, Instr.findKey, run_underlying h2, hf, hset, Result.andThen]
    · rw [mfindI_none hfd]
      unfold MapIsI at hm ⊢
      simp [hm]
  | some p =>
    obtain ⟨i, v⟩ := p
    rw [hfd] at hf
    simp only [Option.map_some] at hf
    obtain ⟨n, hn, h3, h4⟩ := mfindI_some (us := us) hfd
    obtain rfl : i = n := by omega
    have hes : (es.toList.map fun e => (e.key, e.val))[i]? = some (Value.int .i64 k, v) := by
      unfold MapIsI at hm
      rw [hm, List.getElem?_map, h3]; rfl
    obtain ⟨e, he, hek⟩ : ∃ e, es[i]? = some e ∧ e.key = Value.int .i64 k := by
      rw [List.getElem?_map] at hes
      cases hx : es.toList[i]? with
      | none => rw [hx] at hes; cases hes
      | some e =>
        rw [hx] at hes
        simp at hes
        exact ⟨e, by simpa using hx, hes.1⟩
    refine ⟨es.modify i fun e => { e with key := .int .i64 k, val := us }, clock, ?_, ?_⟩
    · have hst : (Instr.keyThatStays (((es[i]?).map (·.key)).getD (.int .i64 k)) (.int .i64 k)).run cx.P w = .ok (.int .i64 k) w := by
        rw [he]
        simp only [Option.map_some, Option.getD_some, hek]
        exact MapKept.run_keyThatStays (d := .int .i64) (by simp [MapKept.IsKey])
      simp [Instr.mapUpdate, run_underlying h1, MapKept.run_getObj_map hb, hck, Instr.findKey, run_underlying h2, hf, hst, hset, Result.andThen]
    · rw [h4]
      unfold MapIsI at hm ⊢
      rw [List.map_set, ← hm]
      apply List.ext_getElem?
      intro j
      rw [List.getElem?_map, Array.getElem?_toList, Array.getElem?_modify]
      by_cases hj : i = j
      · subst hj
        have hlt := (Array.getElem?_eq_some_iff.1 he).1
        rw [if_pos rfl, List.getElem?_set_self (by simpa using hlt), he]
        rfl
      · rw [if_neg hj, List.getElem?_set_ne hj, List.getElem?_map, Array.getElem?_toList]
theorem a_msetI {t te : TypeId} {zv : Value} {x y z : Operand} {x0 : Value} {av : AV} {k : Int} {us : Value} {M : List (Int × Value)} (id : Nat) (h : MapTyI cx t te zv)
    (hx : ev σ x = some (.d (.v x0))) (hy : ev σ y = some (.d (.v (.int .i64 k)))) (hz : ev σ z = some av) (hu : ValV av us) (ho : get σ (.o id) = .ob (.mi M x0)) :
    OA cx σ ⟨none, .mapUpdate t x y z, ty, pos, af, gd⟩ ⟨rdOf x (.d (.v x0)) ++ (rdOf y (.d (.v (.int .i64 k))) ++ (rdOf z av ++ [(.o id, .ob (.mi M x0))])), [(.o id, .ob (.mi (msetI M k us) x0))]⟩ := by
  refine ⟨?_, (ev_out hx).2.append ((ev_out hy).2.append ((ev_out hz).2.append ⟨ho, trivial⟩))⟩
  rintro σ1 a w K Q ⟨g, nx, hs⟩ hr hK
  have hv := rep_v (hs.ev (ev_out hx).1 hr.left).1
  have hk := rep_v (hs.ev (ev_out hy).1 hr.right.left).1
  have hzv := rep_valv hu (hs.ev (ev_out hz).1 hr.right.right.left).1
  have ho1 : get σ1 (.o id) = .ob (.mi M x0) := hr.right.right.right.1
  obtain ⟨hid, ⟨hgx, b, es, clock, hx0, hge, hh, hmi⟩, _⟩ := hs.objs id _ ho1
  obtain ⟨es', clock', hrun, hmi'⟩ := run_msetI (w := w) h hh hmi k us
  have hblt : b < w.heap.size := by
    rcases Nat.lt_or_ge b w.heap.size with h | h
    · exact h
    · rw [Array.getElem?_eq_none h] at hh; cases hh
  have hgb : blk (g id) = some b := by rw [hgx, hx0]; rfl
  have hoth : ∀ c, c ≠ b → ({ w with heap := w.heap.setIfInBounds b (.map es' clock') } : World).heap[c]? = w.heap[c]? := fun c hc => by
    show (w.heap.setIfInBounds b _)[c]? = _
    rw [Array.getElem?_setIfInBounds, if_neg (fun e => hc e.symm)]
  have hst : ObjStep cx σ1 g nx nx w { w with heap := w.heap.setIfInBounds b (.map es' clock') } id (.mi (msetI M k us) x0) (g id) := by
    refine ⟨.inr ⟨rfl, _, ho1, trivial⟩, ⟨rfl, rfl, rfl, by simp, fun c hc => hoth c (by have := hs.below.size; omega)⟩, fun c hc hn => hoth c fun e => hn _ ho1 (by rw [hgb, e]), fun c hc => .inl ⟨_, ho1, hc⟩⟩
  have hG := SimG.obj hs hst (fun _ => ⟨by rw [upd_same]; exact hgx, b, es', clock', hx0, hge, by show (w.heap.setIfInBounds b _)[b]? = _; rw [Array.getElem?_setIfInBounds, if_pos rfl, if_pos hblt], hmi'⟩) trivial
  unfold Oper.wp
  have hex : (execOp a.eval ⟨none, .mapUpdate t x y z, ty, pos, af, gd⟩).run cx.P w = .ok .skip { w with heap := w.heap.setIfInBounds b (.map es' clock') } := by
    simp [execOp, hv, hk, hzv, hx0, hrun]
  rw [hex]
  refine hK _ _ (Sim.eqv ⟨_, _, hG⟩ fun q => ?_)
  cases q with
  | s i => rw [objSt_s]; exact (get_cons_ne (by simp)).symm
  | o i =>
    by_cases hi : i = id
    · subst hi; rw [get_cons_same]; exact get_cons_same.symm
    · rw [objSt_o hi]; exact (get_cons_ne (by simpa using fun e => hi e.symm)).symm
  | nx => rw [objSt_nx]; exact hs.hnx.symm.trans (get_cons_ne (by simp)).symm

/-- Made: whatever handle it has. -/
theorem fam_mkmapI {t : TypeId} {n0 : Nat} (hn : get σ .nx = .num n0) (hd : Nat.blt d cx.n = true) (a : Act) (w : World) (K : Act → World → Prop) (Q : Exit → Act → World → Prop) (hs : Sim cx σ a w)
    (hK : ∀ (x : Value) a' w', Sim cx ([(.s d, .av (.d (.v x))), (.o n0, .ob (.mi [] x)), (.nx, .num (n0 + 1))] ++ σ) a' w' → K a' w') :
    (⟨some d, .makeMap t none, ty, pos, af, gd⟩ : Oper).wp cx.P a w K Q := by
  obtain ⟨g, nx, hs⟩ := hs
  have hnx : nx = n0 := by
    have h2 := hs.hnx
    rw [hn] at h2
    simpa using h2.symm
  subst hnx
  have hex : (execOp a.eval ⟨some d, .makeMap t none, ty, pos, af, gd⟩).run cx.P w = .ok (.value (.map (some w.heap.size))) (w.alloc (.map #[] 0)) := by
    simp [execOp, Instr.makeMap, newObj]
    rfl
  have hb : Below w.heap.size w (w.alloc (.map #[] 0)) := (Below.refl _ _).alloc (Nat.le_refl _) _
  have hst : ObjStep cx σ g nx (nx + 1) w (w.alloc (.map #[] 0)) nx (.mi [] (.map (some w.heap.size))) (.map (some w.heap.size)) :=
    ⟨.inl ⟨rfl, rfl⟩, hb.mono hs.below.size, fun c hc _ => hb.block c hc, fun c hc => .inr (by cases hc; exact Nat.le_refl _)⟩
  have hG := SimG.obj hs hst (fun _ => ⟨upd_same _ _ _, w.heap.size, #[], 0, rfl, hs.below.size, heap_alloc_new w _, rfl⟩) trivial
  refine wp_val rfl hex (hK (.map (some w.heap.size)) _ _ ?_)
  refine Sim.eqv (Sim.put hG (lt_of_blt hd) (Below.refl _ _) (av := .d (.v (.map (some w.heap.size)))) (Rd.v _) trivial) fun q => ?_
  cases q with
  | s i =>
    by_cases hi : i = d
    · subst hi; rw [get_cons_same]; exact get_cons_same.symm
    · rw [get_cons_ne (by simpa using fun e => hi e.symm), objSt_s]
      exact ((get_cons_ne (by simpa using fun e => hi e.symm)).trans ((get_cons_ne (by simp)).trans (get_cons_ne (by simp)))).symm
  | o i =>
    rw [get_cons_ne (by simp)]
    by_cases hi : i = nx
    · subst hi; rw [get_cons_same]; exact ((get_cons_ne (by simp)).trans get_cons_same).symm
    · rw [objSt_o hi]
      exact ((get_cons_ne (by simp)).trans ((get_cons_ne (by simpa using fun e => hi e.symm)).trans (get_cons_ne (by simp)))).symm
  | nx =>
    rw [get_cons_ne (by simp), objSt_nx]
    exact ((get_cons_ne (by simp)).trans ((get_cons_ne (by simp)).trans get_cons_same)).symm
theorem mapI_known {id : Nat} {M : List (Int × Value)} {x : Value} (ho : get σ (.o id) = .ob (.mi M x)) (a : Act) (w : World) (hs : Sim cx σ a w) : ∃ b, x = .map (some b) := by
  obtain ⟨g, nx, hs⟩ := hs
  obtain ⟨_, ⟨_, b, _, _, h, _⟩, _⟩ := hs.objs id _ ho
  exact ⟨b, h⟩

end Go.AX

/-! L13 -/
/-
  The law RunMore answers true of whatever data.
-/
namespace Go.Proofs.YtembfadhnkabhaaGreatDoor
open Go.AX Go.RF

set_option maxRecDepth 100000
set_option maxHeartbeats 8000000

/-- Numbers, each told. -/
def numsM : List (Int × Value) → List Int → List (Int × Value)
  | M, [] => M
  | M, k :: r => numsM (msetI M k (.bool true)) r
theorem numsM_get {k : Int} : ∀ {l : List Int} {M : List (Int × Value)}, mgetI (numsM M l) k = if k ∈ l then some (.bool true) else mgetI M k
  | [], M => by simp [numsM]
  | x :: l, M => by
    simp only [numsM]
    rw [numsM_get, mgetI_msetI]
    by_cases hk : k ∈ l
    · rw [if_pos hk, if_pos (List.mem_cons_of_mem _ hk)]
    · rw [if_neg hk]
      by_cases hx : x = k
      · subst hx; rw [if_pos rfl, if_pos (List.mem_cons_self ..)]
      · rw [if_neg hx, if_neg (by simp [hk, Ne.symm hx])]
theorem msetI_flat {M : List (Int × Value)} {k : Int} (h : ∀ p ∈ M, flat p.2) : ∀ p ∈ msetI M k (.bool true), flat p.2 := by
  induction M with
  | nil => intro p hp; simp [msetI] at hp; subst hp; trivial
  | cons q M ih =>
    obtain ⟨s, v⟩ := q
    intro p hp
    simp only [msetI] at hp
    split at hp
    · rcases List.mem_cons.1 hp with rfl | hp
      · trivial
      · exact h p (List.mem_cons_of_mem _ hp)
    · rcases List.mem_cons.1 hp with rfl | hp
      · exact h _ (List.mem_cons_self ..)
      · exact ih (fun p hp => h p (List.mem_cons_of_mem _ hp)) p hp
theorem numsM_flat : ∀ {l : List Int} {M : List (Int × Value)}, (∀ p ∈ M, flat p.2) → ∀ p ∈ numsM M l, flat p.2
  | [], M, h => h
  | x :: l, M, h => by simp only [numsM]; exact numsM_flat (msetI_flat h)
theorem numsM_snoc : ∀ {l : List Int} {M : List (Int × Value)} {k : Int}, numsM M (l ++ [k]) = msetI (numsM M l) k (.bool true)
  | [], M, k => rfl
  | x :: l, M, k => by simp only [List.cons_append, numsM]; exact numsM_snoc
theorem numsM_take {l : List Int} {i : Nat} {k : Int} (h : l[i]? = some k) : msetI (numsM [] (l.take i)) k (.bool true) = numsM [] (l.take (i + 1)) := by
  rw [List.take_add_one, h]
  exact numsM_snoc.symm
theorem mapI7 {n : Nat} {w0 : World} {own0 : Nat → Prop} : MapTyI ⟨Tryz.prog, tbl, tbl_ok, mixed_ok, n, w0, own0⟩ 60 4 (.bool false) :=
  ⟨⟨3, Tryz.underlying60, Tryz.underlying3⟩, fun w => by exact Tryz.zeroValue4 w⟩

theorem ok_RunMore (r : List Pair) (bs : List (List Deed)) (p : List Int) (n : Int) (hrl : r.length ≤ 1048576) (hrk : ∀ q ∈ r, q.key.length ≤ 1073741824) (hb : ∀ b ∈ bs, b.length ≤ 1048576 ∧ ∀ d ∈ b, d.Sm) (hbl : bs.length ≤ 1048576) (hsum : sumLen bs ≤ 1048576) (hp : p.length ≤ 1048576) :
    FnOk Tryz.prog 5 [.d (encRows r), .d (encBatches bs), .d (encInts p), .d (dint n)] (.one (dbool true)) := by
  refine fnOk_of tbl_ok mixed_ok Tryz.func5 rfl (by kernel_rfl) rfl rfl fun w0 own0 => ?_
  have c0 := ok_alive7
  have c1 := ok_wrongRows r (by omega) hrk
  by_cases hw : wrongRows r = 0
  · obtain ⟨hsrt, _, hok⟩ := wrongRows_srt hw
    have c2 := ok_rBuild r bs p hok (by omega) (fun b h => ⟨by have := (hb b h).1; omega, (hb b h).2⟩) (by omega) (by omega) (by omega)
    have hE : EInv (buildE r bs p) (r.length + 1 + 5 * sumLen bs) := EInv.buildGo (p := p) (newE_inv hok) (fun b h => (hb b h).2)
    obtain ⟨r', hB⟩ := build_b hw bs p
    have hL := build_l hw bs p
    generalize buildE r bs p = e at c2 hE hB hL
    have hz := hE.z.sm (by omega)
    have hzs := hz.s
    have c3 := ok_pready e hz hE.z.s (fun d hd => (wrong_keys (hB.W.d d hd)).1) hB.S.k hB.W.nb
    have hrm : ∀ y, y ∈ ready e ↔ ∃ A : Nat, y = (A : Int) ∧ e.state[A]? = some 0 ∧ needsAt e A = [] := fun y => ready_mem
    have hrl2 : (ready e).length ≤ 134217728 := by
      have := readyGo_len (e := e) e.state 0
      unfold ready; omega
    by_cases hneg : n < 0
    · generalize ready e = L at *
      repeat (first | ((with_reducible apply s1); exact rfl) | (with_reducible first | apply CW.seq | apply CW.block | apply CW.region | apply CW.draw | apply CW.skip | apply CW.exit | apply CW.ret | apply q_then | apply q_then_exit | apply q_then_ret | apply q_block | apply q_block_ret | apply q_block_hit | apply q_ret | apply q_end | apply q_loop_exit | apply q_loop_ret | apply q_loopT_exit | apply q_loopT_ret | apply RW.nil) | ((with_reducible apply s3); exact rfl; exact by_k) | ((with_reducible apply s2); exact rfl; exact by_k) | ((with_reducible apply s4); exact rfl) | ((with_reducible apply s5); (first | (focus ((with_reducible apply a_call); exact c0; exact rfl; (repeat (first | exact SubsE.nil | (apply SubsE.cons; exact rfl; (first | exact .d (.refl _) | exact .d (.nil _) | exact .agg rfl (.refl _) | exact .pd | exact .ptr rfl); (first | exact trivial | exact ⟨rfl, trivial⟩)))); done)) | (focus ((with_reducible apply a_call); exact c1; exact rfl; (repeat (first | exact SubsE.nil | (apply SubsE.cons; exact rfl; (first | exact .d (.refl _) | exact .d (.nil _) | exact .agg rfl (.refl _) | exact .pd | exact .ptr rfl); (first | exact trivial | exact ⟨rfl, trivial⟩)))); done)) | (focus ((with_reducible apply a_call); exact c2; exact rfl; (repeat (first | exact SubsE.nil | (apply SubsE.cons; exact rfl; (first | exact .d (.refl _) | exact .d (.nil _) | exact .agg rfl (.refl _) | exact .pd | exact .ptr rfl); (first | exact trivial | exact ⟨rfl, trivial⟩)))); done)) | (focus ((with_reducible apply a_call); exact c3; exact rfl; (repeat (first | exact SubsE.nil | (apply SubsE.cons; exact rfl; (first | exact .d (.refl _) | exact .d (.nil _) | exact .agg rfl (.refl _) | exact .pd | exact .ptr rfl); (first | exact trivial | exact ⟨rfl, trivial⟩)))); done)) | exact by_oa); exact by_g) | ((with_reducible apply CW.cond_t); exact rfl; exact by_ks) | ((with_reducible apply CW.cond_f); exact rfl; exact by_ks) | ((with_reducible apply q_block_miss); exact rfl) | (refine And.intro (show chk [] [] _ _ = true by kernel_rfl) ?_))
      exact .one (.tmp rfl (.one (.d (.refl _))))
    obtain ⟨m, rfl⟩ := Int.eq_ofNat_of_zero_le (show 0 ≤ n by omega)
    by_cases hbig : (ready e).length ≤ m
    · generalize ready e = L at *
      repeat (first | ((with_reducible apply s1); exact rfl) | (with_reducible first | apply CW.seq | apply CW.block | apply CW.region | apply CW.draw | apply CW.skip | apply CW.exit | apply CW.ret | apply q_then | apply q_then_exit | apply q_then_ret | apply q_block | apply q_block_ret | apply q_block_hit | apply q_ret | apply q_end | apply q_loop_exit | apply q_loop_ret | apply q_loopT_exit | apply q_loopT_ret | apply RW.nil) | ((with_reducible apply s3); exact rfl; exact by_k) | ((with_reducible apply s2); exact rfl; exact by_k) | ((with_reducible apply s4); exact rfl) | ((with_reducible apply s5); (first | (focus ((with_reducible apply a_call); exact c0; exact rfl; (repeat (first | exact SubsE.nil | (apply SubsE.cons; exact rfl; (first | exact .d (.refl _) | exact .d (.nil _) | exact .agg rfl (.refl _) | exact .pd | exact .ptr rfl); (first | exact trivial | exact ⟨rfl, trivial⟩)))); done)) | (focus ((with_reducible apply a_call); exact c1; exact rfl; (repeat (first | exact SubsE.nil | (apply SubsE.cons; exact rfl; (first | exact .d (.refl _) | exact .d (.nil _) | exact .agg rfl (.refl _) | exact .pd | exact .ptr rfl); (first | exact trivial | exact ⟨rfl, trivial⟩)))); done)) | (focus ((with_reducible apply a_call); exact c2; exact rfl; (repeat (first | exact SubsE.nil | (apply SubsE.cons; exact rfl; (first | exact .d (.refl _) | exact .d (.nil _) | exact .agg rfl (.refl _) | exact .pd | exact .ptr rfl); (first | exact trivial | exact ⟨rfl, trivial⟩)))); done)) | (focus ((with_reducible apply a_call); exact c3; exact rfl; (repeat (first | exact SubsE.nil | (apply SubsE.cons; exact rfl; (first | exact .d (.refl _) | exact .d (.nil _) | exact .agg rfl (.refl _) | exact .pd | exact .ptr rfl); (first | exact trivial | exact ⟨rfl, trivial⟩)))); done)) | exact by_oa); exact by_g) | ((with_reducible apply CW.cond_t); exact rfl; exact by_ks) | ((with_reducible apply CW.cond_f); exact rfl; exact by_ks) | ((with_reducible apply q_block_miss); exact rfl) | (refine And.intro (show chk [] [] _ _ = true by kernel_rfl) ?_))
      exact .one (.tmp rfl (.one (.d (.refl _))))
    obtain ⟨y, hy⟩ : ∃ y, (ready e)[m]? = some y := ⟨_, List.getElem?_eq_getElem (show m < _ by omega)⟩
    obtain ⟨A, rfl, h0, hn⟩ := (hrm y).1 (List.mem_of_getElem? hy)
    obtain ⟨d, hd, hne, hgo⟩ := go_ready hE.z.s h0 hn
    have c4 := ok_pgoE e A hz hB.S hB.W hE.c hE.z.n
    have hE2 := hE.goE (A : Int)
    have hB2 := hB.goE (A : Int)
    rw [hgo] at c4 hE2 hB2
    dsimp only at c4 hE2 hB2
    obtain ⟨m1, m2, m3⟩ := run_more hB hd h0 hne
    have hz2 := hE2.z.sm (by omega)
    have hxd : (goNew e A d).deeds = e.deeds := rfl
    have hxs : (goNew e A d).state.length = e.state.length := by show (e.state.set A 1).length = _; rw [List.length_set]
    have c6 := ok_pready (goNew e A d) hz2 hE2.z.s (fun d hd => (wrong_keys (hB2.W.d d hd)).1) hB2.S.k hB2.W.nb
    have hen : e.ends.length = e.state.length := by rw [hE.z.n, hE.z.s]
    have hrl3 : (ready (goNew e A d)).length ≤ 134217728 := by
      have := readyGo_len (e := goNew e A d) (goNew e A d).state 0
      unfold ready; omega
    generalize goNew e A d = x at *
    have c5 := ok_sameDeeds x.deeds e.deeds (by have := hz2.d; omega) hz2.dd
    have hab : allB (fun a b : Deed => decide (a = b)) x.deeds e.deeds = true := by rw [hxd]; exact allB_refl (by simp) _
    rw [hab] at c5
    clear hab
    have hby : ∀ c ∈ e.chains, ∀ v ∈ c.vs, -1 ≤ v.by_ ∧ v.by_ ≤ 134217728 := fun c hc v hv => ⟨hL c hc v hv, by have := hB.S.b c hc v hv; have := hE.z.b; omega⟩
    have hbx : ∀ k b, FnOk Tryz.prog 22 [.d (encChains x.chains), .d (dstr k), .d (dint b)] (.one (.agg (before x.chains k b).enc)) := fun k b => ok_before x.chains k b (by have := hz2.c; omega) (fun c hc => by have := hz2.v c hc; omega)
    obtain ⟨X, hX⟩ : ∃ X, ready x = X := ⟨_, rfl⟩
    rw [hX] at c6 m3 hrl3
    generalize ready e = L at *
    repeat (first | ((with_reducible apply s1); exact rfl) | (with_reducible first | apply CW.seq | apply CW.block | apply CW.region | apply CW.draw | apply CW.skip | apply CW.exit | apply CW.ret | apply q_then | apply q_then_exit | apply q_then_ret | apply q_block | apply q_block_ret | apply q_block_hit | apply q_ret | apply q_end | apply q_loop_exit | apply q_loop_ret | apply q_loopT_exit | apply q_loopT_ret | apply RW.nil) | ((with_reducible apply s3); exact rfl; exact by_k) | ((with_reducible apply s2); exact rfl; exact by_k) | ((with_reducible apply s4); exact rfl) | ((with_reducible apply s5); (first | (focus ((with_reducible apply a_call); exact c0; exact rfl; (repeat (first | exact SubsE.nil | (apply SubsE.cons; exact rfl; (first | exact .d (.refl _) | exact .d (.nil _) | exact .agg rfl (.refl _) | exact .pd | exact .ptr rfl); (first | exact trivial | exact ⟨rfl, trivial⟩)))); done)) | (focus ((with_reducible apply a_call); exact c1; exact rfl; (repeat (first | exact SubsE.nil | (apply SubsE.cons; exact rfl; (first | exact .d (.refl _) | exact .d (.nil _) | exact .agg rfl (.refl _) | exact .pd | exact .ptr rfl); (first | exact trivial | exact ⟨rfl, trivial⟩)))); done)) | (focus ((with_reducible apply a_call); exact c2; exact rfl; (repeat (first | exact SubsE.nil | (apply SubsE.cons; exact rfl; (first | exact .d (.refl _) | exact .d (.nil _) | exact .agg rfl (.refl _) | exact .pd | exact .ptr rfl); (first | exact trivial | exact ⟨rfl, trivial⟩)))); done)) | (focus ((with_reducible apply a_call); exact c3; exact rfl; (repeat (first | exact SubsE.nil | (apply SubsE.cons; exact rfl; (first | exact .d (.refl _) | exact .d (.nil _) | exact .agg rfl (.refl _) | exact .pd | exact .ptr rfl); (first | exact trivial | exact ⟨rfl, trivial⟩)))); done)) | (focus ((with_reducible apply a_call); exact c4; exact rfl; (repeat (first | exact SubsE.nil | (apply SubsE.cons; exact rfl; (first | exact .d (.refl _) | exact .d (.nil _) | exact .agg rfl (.refl _) | exact .pd | exact .ptr rfl); (first | exact trivial | exact ⟨rfl, trivial⟩)))); done)) | (focus ((with_reducible apply a_call); exact c5; exact rfl; (repeat (first | exact SubsE.nil | (apply SubsE.cons; exact rfl; (first | exact .d (.refl _) | exact .d (.nil _) | exact .agg rfl (.refl _) | exact .pd | exact .ptr rfl); (first | exact trivial | exact ⟨rfl, trivial⟩)))); done)) | exact by_oa); exact by_g) | ((with_reducible apply CW.cond_t); exact rfl; exact by_ks) | ((with_reducible apply CW.cond_f); exact rfl; exact by_ks) | ((with_reducible apply q_block_miss); exact rfl) | (refine And.intro (show chk [] [] _ _ = true by kernel_rfl) ?_))
    refine CW.loopT (fun i : Nat => [sp 9 0, ob 0 e.enc, sp 11 1, ob 1 x.enc, sd 10 (encInts L), sd 3 (dint m), sd 72 (dint e.state.length), sd 73 (dint i), nxt 2])
      (fun i => i ≤ e.state.length) (fun i => e.state.length - i) 0 (by omega) ?_ ?_
    ·
      exact by_less
    · intro i hi
      rcases drop_case hi with ⟨h1, h2⟩ | ⟨s, h1, h2, h3⟩
      ·
        repeat (first | ((with_reducible apply s1); exact rfl) | (with_reducible first | apply CW.seq | apply CW.block | apply CW.region | apply CW.draw | apply CW.skip | apply CW.exit | apply CW.ret | apply q_then | apply q_then_exit | apply q_then_ret | apply q_block | apply q_block_ret | apply q_block_hit | apply q_ret | apply q_end | apply q_loop_exit | apply q_loop_ret | apply q_loopT_exit | apply q_loopT_ret | apply RW.nil) | ((with_reducible apply s3); exact rfl; exact by_k) | ((with_reducible apply s2); exact rfl; exact by_k) | ((with_reducible apply s4); exact rfl) | ((with_reducible apply s5); (first | exact by_oa); exact by_g) | ((with_reducible apply CW.cond_t); exact rfl; exact by_ks) | ((with_reducible apply CW.cond_f); exact rfl; exact by_ks) | ((with_reducible apply q_block_miss); exact rfl) | (refine And.intro (show chk [] [] _ _ = true by kernel_rfl) ?_))
        refine CW.loopT (fun j : Nat => [sp 9 0, ob 0 e.enc, sp 11 1, ob 1 x.enc, sd 10 (encInts L), sd 3 (dint m), sd 110 (encChains e.chains), sd 111 (dint e.chains.length), sd 112 (dint j), nxt 2])
          (fun j => j ≤ e.chains.length) (fun j => e.chains.length - j) 0 (by omega) ?_ ?_
        ·
          exact by_less
        · intro j hj
          have hcl := hz.c
          rcases drop_case hj with ⟨g1, g2⟩ | ⟨c, g1, g2, g3⟩
          · have hm := mapI7 (n := Tryz.f5.ntmps) (w0 := w0) (own0 := own0)
            repeat (first | ((with_reducible apply stop_at 28); exact rfl) | ((with_reducible apply s1); exact rfl) | (with_reducible first | apply CW.seq | apply CW.block | apply CW.region | apply CW.draw | apply CW.skip | apply CW.exit | apply CW.ret | apply q_then | apply q_then_exit | apply q_then_ret | apply q_block | apply q_block_ret | apply q_block_hit | apply q_ret | apply q_end | apply q_loop_exit | apply q_loop_ret | apply q_loopT_exit | apply q_loopT_ret | apply RW.nil) | ((with_reducible apply s3); exact rfl; exact by_k) | ((with_reducible apply s2); exact rfl; exact by_k) | ((with_reducible apply s4); exact rfl) | ((with_reducible apply s5); (first | exact by_oa); exact by_g) | ((with_reducible apply CW.cond_t); exact rfl; exact by_ks) | ((with_reducible apply CW.cond_f); exact rfl; exact by_ks) | ((with_reducible apply q_block_miss); exact rfl) | (refine And.intro (show chk [] [] _ _ = true by kernel_rfl) ?_))
            refine Stop.go (CW.seq (CW.regionS ?_))
            refine SW.fam rfl (fam_mkmapI rfl rfl) fun x1 => ?_
            refine SW.fact (p := ∃ b, x1 = .map (some b)) (mapI_known (id := 2) (M := []) rfl) ?_
            rintro ⟨b1, rfl⟩
            refine SW.rw ?_
            repeat (first | ((with_reducible apply s1); exact rfl) | (with_reducible first | apply CW.seq | apply CW.block | apply CW.region | apply CW.draw | apply CW.skip | apply CW.exit | apply CW.ret | apply q_then | apply q_then_exit | apply q_then_ret | apply q_block | apply q_block_ret | apply q_block_hit | apply q_ret | apply q_end | apply q_loop_exit | apply q_loop_ret | apply q_loopT_exit | apply q_loopT_ret | apply RW.nil) | ((with_reducible apply s3); exact rfl; exact by_k) | ((with_reducible apply s2); exact rfl; exact by_k) | ((with_reducible apply s4); exact rfl) | ((with_reducible apply s5); (first | (focus ((with_reducible apply a_call); exact c6; exact rfl; (repeat (first | exact SubsE.nil | (apply SubsE.cons; exact rfl; (first | exact .d (.refl _) | exact .d (.nil _) | exact .agg rfl (.refl _) | exact .pd | exact .ptr rfl); (first | exact trivial | exact ⟨rfl, trivial⟩)))); done)) | exact by_oa); exact by_g) | ((with_reducible apply CW.cond_t); exact rfl; exact by_ks) | ((with_reducible apply CW.cond_f); exact rfl; exact by_ks) | ((with_reducible apply q_block_miss); exact rfl) | (refine And.intro (show chk [] [] _ _ = true by kernel_rfl) ?_))
            refine CW.loopT (fun t : Nat => [sd 10 (encInts L), sd 3 (dint m), sd 18 (.v (.map (some b1))), (.o 2, .ob (.mi (numsM [] (X.take t)) (.map (some b1)))), sd 141 (encInts X), sd 142 (dint X.length), sd 143 (dint t), nxt 3])
              (fun t => t ≤ X.length) (fun t => X.length - t) 0 (by omega) ?_ ?_
            ·
              exact by_less
            · intro t ht
              rcases drop_case ht with ⟨f1, f2⟩ | ⟨z, f1, f2, f3⟩
              · rw [f2, List.take_length]
                have hMf : ∀ p ∈ numsM [] X, flat p.2 := numsM_flat (by simp)
                have hMg : ∀ k, mlookI (.bool false) (numsM [] X) k = .bool (decide (k ∈ X)) := fun k => by
                  unfold mlookI
                  rw [numsM_get]
                  by_cases hk : k ∈ X
                  · simp [hk]
                  · simp [hk, mgetI]
                generalize numsM [] X = M at hMf hMg ⊢
                repeat (first | ((with_reducible apply s1); exact rfl) | (with_reducible first | apply CW.seq | apply CW.block | apply CW.region | apply CW.draw | apply CW.skip | apply CW.exit | apply CW.ret | apply q_then | apply q_then_exit | apply q_then_ret | apply q_block | apply q_block_ret | apply q_block_hit | apply q_ret | apply q_end | apply q_loop_exit | apply q_loop_ret | apply q_loopT_exit | apply q_loopT_ret | apply RW.nil) | ((with_reducible apply s3); exact rfl; exact by_k) | ((with_reducible apply s2); exact rfl; exact by_k) | ((with_reducible apply s4); exact rfl) | ((with_reducible apply s5); (first | exact by_oa); exact by_g) | ((with_reducible apply CW.cond_t); exact rfl; exact by_ks) | ((with_reducible apply CW.cond_f); exact rfl; exact by_ks) | ((with_reducible apply q_block_miss); exact rfl) | (refine And.intro (show chk [] [] _ _ = true by kernel_rfl) ?_))
                refine CW.loopT (fun q : Nat => [sd 10 (encInts L), sd 3 (dint m), sd 18 (.v (.map (some b1))), (.o 2, .ob (.mi M (.map (some b1)))), sd 150 (encInts L), sd 151 (dint L.length), sd 152 (dint q), nxt 3])
                  (fun q => q ≤ L.length) (fun q => L.length - q) 0 (by omega) ?_ ?_
                ·
                  exact by_less
                · intro q hq
                  rcases drop_case hq with ⟨e1, e2⟩ | ⟨z, e1, e2, e3⟩
                  ·
                    repeat (first | ((with_reducible apply s1); exact rfl) | (with_reducible first | apply CW.seq | apply CW.block | apply CW.region | apply CW.draw | apply CW.skip | apply CW.exit | apply CW.ret | apply q_then | apply q_then_exit | apply q_then_ret | apply q_block | apply q_block_ret | apply q_block_hit | apply q_ret | apply q_end | apply q_loop_exit | apply q_loop_ret | apply q_loopT_exit | apply q_loopT_ret | apply RW.nil) | ((with_reducible apply s3); exact rfl; exact by_k) | ((with_reducible apply s2); exact rfl; exact by_k) | ((with_reducible apply s4); exact rfl) | ((with_reducible apply s5); (first | exact by_oa); exact by_g) | ((with_reducible apply CW.cond_t); exact rfl; exact by_ks) | ((with_reducible apply CW.cond_f); exact rfl; exact by_ks) | ((with_reducible apply q_block_miss); exact rfl) | (refine And.intro (show chk [] [] _ _ = true by kernel_rfl) ?_))
                    exact .one (.tmp rfl (.one (.d (.refl _))))
                  · have hzi := m3 z (List.mem_of_getElem? e2)
                    by_cases hzA : z = (A : Int)
                    · have hzn : z ∉ X := fun h => (hzi.1 h) hzA
                      rw [hzA] at hzn e2
                      have ha := fun {d : Nat} {ty : TypeId} {pos : String} {af : Array Edge} {gd : Option (Nat × Bool)} {σ : St} {x y : Operand} {x0 : Value} (hx) (hy) (ho) (hd) => a_mlook1I (σ := σ) (d := d) (ty := ty) (pos := pos) (af := af) (gd := gd) (x := x) (y := y) (x0 := x0) 2 hm trivial hMf (k := (A : Int)) hx hy ho hd
                      rw [hMg, decide_eq_false hzn] at ha
                      repeat (first | ((with_reducible apply s1); exact rfl) | (with_reducible first | apply CW.seq | apply CW.block | apply CW.region | apply CW.draw | apply CW.skip | apply CW.exit | apply CW.ret | apply q_then | apply q_then_exit | apply q_then_ret | apply q_block | apply q_block_ret | apply q_block_hit | apply q_ret | apply q_end | apply q_loop_exit | apply q_loop_ret | apply q_loopT_exit | apply q_loopT_ret | apply RW.nil) | ((with_reducible apply s3); exact rfl; exact by_k) | ((with_reducible apply s2); exact rfl; exact by_k) | ((with_reducible apply s4); exact rfl) | ((with_reducible apply s5); (first | ((with_reducible apply ha); (iterate 4 exact rfl)) | ((with_reducible apply a_bin); (iterate 2 exact rfl); (first | exact bin_bneq (by kernel_rfl) | exact bin_beql (by kernel_rfl)); exact rfl) | exact by_oa); exact by_g) | ((with_reducible apply CW.cond_t); exact rfl; exact by_ks) | ((with_reducible apply CW.cond_f); exact rfl; exact by_ks) | ((with_reducible apply q_block_miss); exact rfl) | (refine And.intro (show chk [] [] _ _ = true by kernel_rfl) ?_))
                      refine q_loopT (q + 1) (by omega) (by omega) ?_
                      exact by_less
                    · have hzn : z ∈ X := hzi.2 hzA
                      have ha := fun {d : Nat} {ty : TypeId} {pos : String} {af : Array Edge} {gd : Option (Nat × Bool)} {σ : St} {x y : Operand} {x0 : Value} (hx) (hy) (ho) (hd) => a_mlook1I (σ := σ) (d := d) (ty := ty) (pos := pos) (af := af) (gd := gd) (x := x) (y := y) (x0 := x0) 2 hm trivial hMf (k := z) hx hy ho hd
                      rw [hMg, decide_eq_true hzn] at ha
                      repeat (first | ((with_reducible apply s1); exact rfl) | (with_reducible first | apply CW.seq | apply CW.block | apply CW.region | apply CW.draw | apply CW.skip | apply CW.exit | apply CW.ret | apply q_then | apply q_then_exit | apply q_then_ret | apply q_block | apply q_block_ret | apply q_block_hit | apply q_ret | apply q_end | apply q_loop_exit | apply q_loop_ret | apply q_loopT_exit | apply q_loopT_ret | apply RW.nil) | ((with_reducible apply s3); exact rfl; exact by_k) | ((with_reducible apply s2); exact rfl; exact by_k) | ((with_reducible apply s4); exact rfl) | ((with_reducible apply s5); (first | ((with_reducible apply ha); (iterate 4 exact rfl)) | ((with_reducible apply a_bin); (iterate 2 exact rfl); (first | exact bin_bneq (by kernel_rfl) | exact bin_beql (by kernel_rfl)); exact rfl) | exact by_oa); exact by_g) | ((with_reducible apply CW.cond_t); exact rfl; exact by_ks) | ((with_reducible apply CW.cond_f); exact rfl; exact by_ks) | ((with_reducible apply q_block_miss); exact rfl) | (refine And.intro (show chk [] [] _ _ = true by kernel_rfl) ?_))
                      refine q_loopT (q + 1) (by omega) (by omega) ?_
                      exact by_less
              · have hms := numsM_take f2
                repeat (first | ((with_reducible apply s1); exact rfl) | (with_reducible first | apply CW.seq | apply CW.block | apply CW.region | apply CW.draw | apply CW.skip | apply CW.exit | apply CW.ret | apply q_then | apply q_then_exit | apply q_then_ret | apply q_block | apply q_block_ret | apply q_block_hit | apply q_ret | apply q_end | apply q_loop_exit | apply q_loop_ret | apply q_loopT_exit | apply q_loopT_ret | apply RW.nil) | ((with_reducible apply s3); exact rfl; exact by_k) | ((with_reducible apply s2); exact rfl; exact by_k) | ((with_reducible apply s4); exact rfl) | ((with_reducible apply s5); (first | ((with_reducible apply (a_msetI (us := .bool true) 2 hm)); (iterate 3 exact rfl); exact .v; exact rfl) | exact by_oa); exact by_g) | ((with_reducible apply CW.cond_t); exact rfl; exact by_ks) | ((with_reducible apply CW.cond_f); exact rfl; exact by_ks) | ((with_reducible apply q_block_miss); exact rfl) | (refine And.intro (show chk [] [] _ _ = true by kernel_rfl) ?_))
                rw [hms]
                refine q_loopT (t + 1) (by omega) (by omega) ?_
                exact by_less
          · have hcm := List.mem_of_getElem? g2
            have hcv := hz.v c hcm
            repeat (first | ((with_reducible apply s1); exact rfl) | (with_reducible first | apply CW.seq | apply CW.block | apply CW.region | apply CW.draw | apply CW.skip | apply CW.exit | apply CW.ret | apply q_then | apply q_then_exit | apply q_then_ret | apply q_block | apply q_block_ret | apply q_block_hit | apply q_ret | apply q_end | apply q_loop_exit | apply q_loop_ret | apply q_loopT_exit | apply q_loopT_ret | apply RW.nil) | ((with_reducible apply s3); exact rfl; exact by_k) | ((with_reducible apply s2); exact rfl; exact by_k) | ((with_reducible apply s4); exact rfl) | ((with_reducible apply s5); (first | exact by_oa); exact by_g) | ((with_reducible apply CW.cond_t); exact rfl; exact by_ks) | ((with_reducible apply CW.cond_f); exact rfl; exact by_ks) | ((with_reducible apply q_block_miss); exact rfl) | (refine And.intro (show chk [] [] _ _ = true by kernel_rfl) ?_))
            refine CW.loopT (fun k : Nat => [sp 9 0, ob 0 e.enc, sp 11 1, ob 1 x.enc, sd 10 (encInts L), sd 3 (dint m), sd 110 (encChains e.chains), sd 111 (dint e.chains.length), sd 112 (dint j), sp 15 2, ob 2 c.enc, sd 117 (encVs c.vs), sd 118 (dint c.vs.length), sd 119 (dint k), nxt 3])
              (fun k => k ≤ c.vs.length) (fun k => c.vs.length - k) 0 (by omega) ?_ ?_
            ·
              exact by_less
            · intro k hk
              rcases drop_case hk with ⟨f1, f2⟩ | ⟨v, f1, f2, f3⟩
              ·
                repeat (first | ((with_reducible apply s1); exact rfl) | (with_reducible first | apply CW.seq | apply CW.block | apply CW.region | apply CW.draw | apply CW.skip | apply CW.exit | apply CW.ret | apply q_then | apply q_then_exit | apply q_then_ret | apply q_block | apply q_block_ret | apply q_block_hit | apply q_ret | apply q_end | apply q_loop_exit | apply q_loop_ret | apply q_loopT_exit | apply q_loopT_ret | apply RW.nil) | ((with_reducible apply s3); exact rfl; exact by_k) | ((with_reducible apply s2); exact rfl; exact by_k) | ((with_reducible apply s4); exact rfl) | ((with_reducible apply s5); (first | exact by_oa); exact by_g) | ((with_reducible apply CW.cond_t); exact rfl; exact by_ks) | ((with_reducible apply CW.cond_f); exact rfl; exact by_ks) | ((with_reducible apply q_block_miss); exact rfl) | (refine And.intro (show chk [] [] _ _ = true by kernel_rfl) ?_))
                refine q_loopT (j + 1) (by omega) (by omega) ?_
                exact by_less
              · have hvm := List.mem_of_getElem? f2
                obtain ⟨v1, v2⟩ := hby c hcm v hvm
                have hmv := m2 c hcm v hvm
                obtain ⟨vb, vm, vh, vn⟩ := v
                dsimp only at v1 v2 hmv
                cases vm with
                | true =>
                  have cb := hbx c.key (vb + 1)
                  rw [hmv rfl] at cb
                  have hnv := neq_version ⟨vb, true, vh, vn⟩ ⟨vb, true, vh, vn⟩
                  rw [decide_eq_true rfl] at hnv
                  repeat (first | ((with_reducible apply s1); exact rfl) | (with_reducible first | apply CW.seq | apply CW.block | apply CW.region | apply CW.draw | apply CW.skip | apply CW.exit | apply CW.ret | apply q_then | apply q_then_exit | apply q_then_ret | apply q_block | apply q_block_ret | apply q_block_hit | apply q_ret | apply q_end | apply q_loop_exit | apply q_loop_ret | apply q_loopT_exit | apply q_loopT_ret | apply RW.nil) | ((with_reducible apply s3); exact rfl; exact by_k) | ((with_reducible apply s2); exact rfl; exact by_k) | ((with_reducible apply s4); exact rfl) | ((with_reducible apply s5); (first | (focus ((with_reducible apply a_call); exact cb; exact rfl; (repeat (first | exact SubsE.nil | (apply SubsE.cons; exact rfl; (first | exact .d (.refl _) | exact .d (.nil _) | exact .agg rfl (.refl _) | exact .pd | exact .ptr rfl); (first | exact trivial | exact ⟨rfl, trivial⟩)))); done)) | ((with_reducible apply a_agg2); exact hnv; (iterate 2 exact rfl); (first | exact .d rfl | exact .a rfl); (first | exact .d rfl | exact .a rfl); exact rfl) | exact by_oa); exact by_g) | ((with_reducible apply CW.cond_t); exact rfl; exact by_ks) | ((with_reducible apply CW.cond_f); exact rfl; exact by_ks) | ((with_reducible apply q_block_miss); exact rfl) | (refine And.intro (show chk [] [] _ _ = true by kernel_rfl) ?_))
                  refine q_loopT (k + 1) (by omega) (by omega) ?_
                  exact by_less
                | false =>
                  repeat (first | ((with_reducible apply s1); exact rfl) | (with_reducible first | apply CW.seq | apply CW.block | apply CW.region | apply CW.draw | apply CW.skip | apply CW.exit | apply CW.ret | apply q_then | apply q_then_exit | apply q_then_ret | apply q_block | apply q_block_ret | apply q_block_hit | apply q_ret | apply q_end | apply q_loop_exit | apply q_loop_ret | apply q_loopT_exit | apply q_loopT_ret | apply RW.nil) | ((with_reducible apply s3); exact rfl; exact by_k) | ((with_reducible apply s2); exact rfl; exact by_k) | ((with_reducible apply s4); exact rfl) | ((with_reducible apply s5); (first | exact by_oa); exact by_g) | ((with_reducible apply CW.cond_t); exact rfl; exact by_ks) | ((with_reducible apply CW.cond_f); exact rfl; exact by_ks) | ((with_reducible apply q_block_miss); exact rfl) | (refine And.intro (show chk [] [] _ _ = true by kernel_rfl) ?_))
                  refine q_loopT (k + 1) (by omega) (by omega) ?_
                  exact by_less
      · by_cases hiA : i = A
        · subst hiA
          repeat (first | ((with_reducible apply s1); exact rfl) | (with_reducible first | apply CW.seq | apply CW.block | apply CW.region | apply CW.draw | apply CW.skip | apply CW.exit | apply CW.ret | apply q_then | apply q_then_exit | apply q_then_ret | apply q_block | apply q_block_ret | apply q_block_hit | apply q_ret | apply q_end | apply q_loop_exit | apply q_loop_ret | apply q_loopT_exit | apply q_loopT_ret | apply RW.nil) | ((with_reducible apply s3); exact rfl; exact by_k) | ((with_reducible apply s2); exact rfl; exact by_k) | ((with_reducible apply s4); exact rfl) | ((with_reducible apply s5); (first | exact by_oa); exact by_g) | ((with_reducible apply CW.cond_t); exact rfl; exact by_ks) | ((with_reducible apply CW.cond_f); exact rfl; exact by_ks) | ((with_reducible apply q_block_miss); exact rfl) | (refine And.intro (show chk [] [] _ _ = true by kernel_rfl) ?_))
          refine q_loopT (i + 1) (by omega) (by omega) ?_
          exact by_less
        · obtain ⟨m4, m5⟩ := m1 i hiA
          rw [h2] at m4
          obtain ⟨q, hq⟩ : ∃ q, e.ends[i]? = some q := ⟨_, List.getElem?_eq_getElem (show i < _ by omega)⟩
          rw [hq] at m5
          have hnd := neq_done q q
          rw [decide_eq_true rfl] at hnd
          repeat (first | ((with_reducible apply s1); exact rfl) | (with_reducible first | apply CW.seq | apply CW.block | apply CW.region | apply CW.draw | apply CW.skip | apply CW.exit | apply CW.ret | apply q_then | apply q_then_exit | apply q_then_ret | apply q_block | apply q_block_ret | apply q_block_hit | apply q_ret | apply q_end | apply q_loop_exit | apply q_loop_ret | apply q_loopT_exit | apply q_loopT_ret | apply RW.nil) | ((with_reducible apply s3); exact rfl; exact by_k) | ((with_reducible apply s2); exact rfl; exact by_k) | ((with_reducible apply s4); exact rfl) | ((with_reducible apply s5); (first | ((with_reducible apply a_agg2); exact hnd; (iterate 2 exact rfl); (first | exact .d rfl | exact .a rfl); (first | exact .d rfl | exact .a rfl); exact rfl) | ((with_reducible apply a_agg); exact hnd; (iterate 5 exact rfl)) | exact by_oa); exact by_g) | ((with_reducible apply CW.cond_t); exact rfl; exact by_ks) | ((with_reducible apply CW.cond_f); exact rfl; exact by_ks) | ((with_reducible apply q_block_miss); exact rfl) | (refine And.intro (show chk [] [] _ _ = true by kernel_rfl) ?_))
          refine q_loopT (i + 1) (by omega) (by omega) ?_
          exact by_less
  ·
    repeat (first | ((with_reducible apply s1); exact rfl) | (with_reducible first | apply CW.seq | apply CW.block | apply CW.region | apply CW.draw | apply CW.skip | apply CW.exit | apply CW.ret | apply q_then | apply q_then_exit | apply q_then_ret | apply q_block | apply q_block_ret | apply q_block_hit | apply q_ret | apply q_end | apply q_loop_exit | apply q_loop_ret | apply q_loopT_exit | apply q_loopT_ret | apply RW.nil) | ((with_reducible apply s3); exact rfl; exact by_k) | ((with_reducible apply s2); exact rfl; exact by_k) | ((with_reducible apply s4); exact rfl) | ((with_reducible apply s5); (first | (focus ((with_reducible apply a_call); exact c0; exact rfl; (repeat (first | exact SubsE.nil | (apply SubsE.cons; exact rfl; (first | exact .d (.refl _) | exact .d (.nil _) | exact .agg rfl (.refl _) | exact .pd | exact .ptr rfl); (first | exact trivial | exact ⟨rfl, trivial⟩)))); done)) | (focus ((with_reducible apply a_call); exact c1; exact rfl; (repeat (first | exact SubsE.nil | (apply SubsE.cons; exact rfl; (first | exact .d (.refl _) | exact .d (.nil _) | exact .agg rfl (.refl _) | exact .pd | exact .ptr rfl); (first | exact trivial | exact ⟨rfl, trivial⟩)))); done)) | exact by_oa); exact by_g) | ((with_reducible apply CW.cond_t); exact rfl; exact by_ks) | ((with_reducible apply CW.cond_f); exact rfl; exact by_ks) | ((with_reducible apply q_block_miss); exact rfl) | (refine And.intro (show chk [] [] _ _ = true by kernel_rfl) ?_))
    exact .one (.tmp rfl (.one (.d (.refl _))))

end Go.Proofs.YtembfadhnkabhaaGreatDoor
