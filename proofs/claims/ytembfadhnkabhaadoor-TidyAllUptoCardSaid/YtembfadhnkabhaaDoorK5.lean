/-
  Part 5 of what the claim leans on: P11 P12 G24 AxStr Tx H1 ShNum H2 H3 H4 H5 G7 F4 L1 L11.
-/
import Derived.Test.YtembfadhnkabhaaDoorK4
import Derived.Lib.AtoiAll
import Derived.Lib.ItoaNum
import Derived.Shelf.Strconv.AtoiAll
import Derived.Shelf.Strconv.Itoa3
import Derived.Test.YtembfadhnkabhaaDoorProg

/-! P11 -/
/-
  Engines at work: all deeds are done at last, and it is as one by one.
-/
namespace Go.Proofs.YtembfadhnkabhaaDoor
open Go.AX Go.RF

/-! ### What holds of engines that are built -/
structure BInv (e : Engine) (r : List Pair) : Prop where
  S : SInv e
  W : WInv e
  Q : QInv e r
  n : e.ends.length = e.deeds.length
  t : ∀ s ∈ e.state, s = 0 ∨ s = 1
  u : ∀ (k : Str) (i : Nat) (d : Deed), e.deeds[i]? = some d → k ∈ d.writes → e.state[i]? = some 0 → (before e.chains k (e.base + (i + 1 : Nat))).made = false

theorem newE_b {r : List Pair} (h : wrongRows r = 0) : BInv (newE r) r :=
  ⟨newE_srt (wrongRows_srt h).1, newE_w r, newE_q (wrongRows_srt h).1, rfl, by simp [newE], fun k i d h => by simp [newE] at h⟩
theorem BInv.add1 {e : Engine} {r : List Pair} (h : BInv e r) {d : Deed} (hd : wrongDeed d = 0) : BInv (RF.add1 e d) r := by
  refine ⟨h.S.add1 (wrong_keys hd).2, h.W.add1 h.S hd, h.Q.add1 h.S h.W h.n hd, by simp [RF.add1, h.n], fun s hs => ?_, fun k i x hx hk h0 => ?_⟩
  · rcases List.mem_append.1 (show s ∈ e.state ++ [0] from hs) with hs | hs
    · exact h.t s hs
    · simp at hs; exact .inl hs
  · have hx' : (e.deeds ++ [d])[i]? = some x := hx
    show (before (addKeys (e.base + e.deeds.length) e.chains d.writes) k (e.base + (i + 1 : Nat))).made = false
    rcases Nat.lt_or_ge i e.deeds.length with hi | hi
    · rw [List.getElem?_append_left hi] at hx'
      have h0' : (e.state ++ [0])[i]? = some 0 := h0
      rw [List.getElem?_append_left (by rw [h.W.l]; exact hi)] at h0'
      rw [addKeys_le (by omega) h.S.k]
      exact h.u k i x hx' hk h0'
    · rw [List.getElem?_append_right hi] at hx'
      have hz : i - e.deeds.length = 0 := by
        have := (List.getElem?_eq_some_iff.1 hx').1
        simpa using this
      rw [hz] at hx'
      have hx2 : x = d := by simpa using hx'.symm
      subst hx2
      rw [addKeys_in (by omega) h.S.k (wrong_keys hd).2 hk]
      rfl
theorem BInv.addAll : ∀ {l : List Deed} {e : Engine} {r : List Pair}, BInv e r → (∀ d ∈ l, wrongDeed d = 0) → BInv (RF.addAll e l) r
  | [], e, r, h, _ => h
  | d :: l, e, r, h, hl => by
    simp only [RF.addAll]
    exact BInv.addAll (h.add1 (hl d (List.mem_cons_self ..))) fun x hx => hl x (List.mem_cons_of_mem _ hx)
theorem BInv.addE {e : Engine} {r : List Pair} (h : BInv e r) {l : List Deed} (hw : (RF.addE e l).2 = 0) : BInv (RF.addE e l).1 r := by
  unfold RF.addE at hw ⊢
  by_cases h0 : wrongs l = 0
  · rw [if_pos h0]
    exact h.addAll fun d hd => wrongs_mem h0 d hd
  · rw [if_neg h0] at hw; exact absurd hw h0
theorem BInv.goNew {e : Engine} {r : List Pair} (h : BInv e r) {A : Nat} {d : Deed} (hd : e.deeds[A]? = some d) (hne : needs e A d = []) : BInv (Proofs.YtembfadhnkabhaaDoor.goNew e A d) r := by
  have hb := h.Q.b
  refine ⟨h.S.goNew A d, h.W.goNew A d hd, h.Q.goNew h.W h.n hd hne, ?_, fun s hs => ?_, fun k i x hx hk h0 => ?_⟩
  · show (e.ends.set A _).length = e.deeds.length
    rw [List.length_set]; exact h.n
  · rcases List.mem_or_eq_of_mem_set (show s ∈ e.state.set A 1 from hs) with hs | hs
    · exact h.t s hs
    · exact .inr hs
  · have hx' : e.deeds[i]? = some x := hx
    have h0' : (e.state.set A 1)[i]? = some 0 := h0
    have hiA : i ≠ A := fun e1 => by
      subst e1
      rw [List.getElem?_set_self (by rw [h.W.l]; exact (List.getElem?_eq_some_iff.1 hd).1)] at h0'
      simp at h0'
    rw [List.getElem?_set_ne (fun e1 => hiA e1.symm)] at h0'
    have hp := (h.Q.p k i x hx' hk).1
    show (before (goSets (goDone e A d).1 (e.base + A) e.chains d.writes) k (e.base + (i + 1 : Nat))).made = false
    rw [before_goSets (by omega), if_neg (fun e1 => by have := e1.2; rw [hp] at this; omega)]
    exact h.u k i x hx' hk h0'
theorem BInv.goE {e : Engine} {r : List Pair} (h : BInv e r) (x : Int) : BInv (Proofs.YtembfadhnkabhaaDoor.goE e x).1 r := by
  unfold Proofs.YtembfadhnkabhaaDoor.goE
  split
  · exact h
  unfold goAt
  cases hA : e.deeds[x.toNat]? with
  | none => exact h
  | some d =>
    dsimp only
    split
    · exact h
    split
    · next hn => exact h.goNew hA hn
    · exact h
theorem BInv.clearE {e : Engine} {r : List Pair} (h : BInv e r) : BInv (RF.clearE e) (sq r e.deeds (markN e.state)) := by
  refine ⟨h.S.clearE, h.W.clearE, h.Q.clearE h.S h.W, ?_, fun s hs => h.t s (List.mem_of_mem_drop hs), fun k i x hx hk h0 => ?_⟩
  · show (e.ends.drop _).length = (e.deeds.drop _).length
    simp [h.n]
  · have hx' : e.deeds[markN e.state + i]? = some x := by
      have : (e.deeds.drop (markN e.state))[i]? = some x := hx
      rwa [List.getElem?_drop] at this
    have h0' : e.state[markN e.state + i]? = some 0 := by
      have : (e.state.drop (markN e.state))[i]? = some 0 := h0
      rwa [List.getElem?_drop] at this
    show (before (clear (e.base + markN e.state) e.chains) k (e.base + markN e.state + (i + 1 : Nat))).made = false
    have hp := (h.Q.p k _ x hx' hk).1
    have hu := h.u k _ x hx' hk h0'
    rw [before_clear h.S.k h.S.v (by omega)]
    rw [show e.base + (markN e.state : Int) + ((i + 1 : Nat) : Int) = e.base + ((markN e.state + i + 1 : Nat) : Int) by omega]
    rw [if_neg (by rw [hp]; omega)]
    exact hu
theorem BInv.pickE {e : Engine} {r : List Pair} (h : BInv e r) (n : Int) : ∃ r', BInv (Proofs.YtembfadhnkabhaaDoor.pickE e n) r' := by
  unfold Proofs.YtembfadhnkabhaaDoor.pickE
  split
  · exact ⟨_, h.clearE⟩
  split
  · exact ⟨r, h⟩
  split
  · exact ⟨r, h.goE _⟩
  · exact ⟨r, h⟩
theorem BInv.batchE {e : Engine} {r : List Pair} (h : BInv e r) (b : List Deed) : BInv (Proofs.YtembfadhnkabhaaDoor.batchE e b) r := by
  unfold Proofs.YtembfadhnkabhaaDoor.batchE
  split
  · next hw => exact h.addE hw
  · exact h
theorem BInv.pickGo : ∀ {k : Nat} {e : Engine} {p : List Int} {r : List Pair}, BInv e r → ∃ r', BInv (Proofs.YtembfadhnkabhaaDoor.pickGo k e p).1 r'
  | 0, e, p, r, h => ⟨r, h⟩
  | k + 1, e, [], r, h => ⟨r, h⟩
  | k + 1, e, n :: p, r, h => by
    simp only [Proofs.YtembfadhnkabhaaDoor.pickGo]
    obtain ⟨r', h'⟩ := h.pickE n
    exact BInv.pickGo h'
theorem BInv.buildGo : ∀ {bs : List (List Deed)} {e : Engine} {p : List Int} {r : List Pair}, BInv e r → ∃ r', BInv (Proofs.YtembfadhnkabhaaDoor.buildGo e bs p) r'
  | [], e, p, r, h => ⟨r, h⟩
  | b :: bs, e, p, r, h => by
    simp only [Proofs.YtembfadhnkabhaaDoor.buildGo]
    obtain ⟨r', h'⟩ := (h.batchE b).pickGo (k := 3) (p := p)
    exact BInv.buildGo h'
theorem build_b {r : List Pair} (h : wrongRows r = 0) (bs : List (List Deed)) (p : List Int) : ∃ r', BInv (buildE r bs p) r' := (newE_b h).buildGo

/-! ### Who is ready -/
theorem readyGo_mem {e : Engine} {x : Int} : ∀ {l : List Int} {i : Nat}, x ∈ readyGo e i l ↔ ∃ j : Nat, x = ((i + j : Nat) : Int) ∧ l[j]? = some 0 ∧ needsAt e (i + j) = []
  | [], i => by simp [readyGo]
  | s :: l, i => by
    have tl : x ∈ readyGo e (i + 1) l → ∃ j : Nat, x = ((i + j : Nat) : Int) ∧ (s :: l)[j]? = some 0 ∧ needsAt e (i + j) = [] := fun h => by
      obtain ⟨j, h1, h2, h3⟩ := readyGo_mem.1 h
      exact ⟨j + 1, by rw [h1]; omega, by rw [List.getElem?_cons_succ]; exact h2, by rw [show i + (j + 1) = i + 1 + j by omega]; exact h3⟩
    simp only [readyGo]
    constructor
    · intro h
      by_cases hc : s = 0 ∧ needsAt e i = []
      · rw [if_pos hc] at h
        rcases List.mem_cons.1 h with h | h
        · exact ⟨0, h, by rw [hc.1]; rfl, hc.2⟩
        · exact tl h
      · rw [if_neg hc] at h
        exact tl h
    · rintro ⟨j, h1, h2, h3⟩
      cases j with
      | zero =>
        have h4 : s = 0 := by simpa using h2
        rw [if_pos ⟨h4, h3⟩, h1]; exact List.mem_cons_self ..
      | succ j =>
        have : x ∈ readyGo e (i + 1) l := readyGo_mem.2 ⟨j, by rw [h1]; omega, by rw [List.getElem?_cons_succ] at h2; exact h2, by rw [show i + 1 + j = i + (j + 1) by omega]; exact h3⟩
        split
        · exact List.mem_cons_of_mem _ this
        · exact this
theorem ready_mem {e : Engine} {x : Int} : x ∈ ready e ↔ ∃ A : Nat, x = (A : Int) ∧ e.state[A]? = some 0 ∧ needsAt e A = [] := by
  unfold ready
  rw [readyGo_mem]
  simp only [Nat.zero_add]
theorem needs_nil {e : Engine} (hW : WInv e) {A : Nat} {d : Deed} : needs e A d = [] ↔ ∀ k ∈ keysD d, (before e.chains k (e.base + A)).made = true := by
  refine ⟨needs_made hW, fun h => ?_⟩
  cases hn : needs e A d with
  | nil => rfl
  | cons x l =>
    have hx : x ∈ needs e A d := by rw [hn]; exact List.mem_cons_self ..
    unfold needs at hx
    obtain ⟨k, _, _, h1⟩ := needsGo_mem.1 hx
    obtain ⟨s, h2, h3, _⟩ := anyHit_iff.1 h1
    rw [h s h2] at h3
    cases h3
theorem go_ready {e : Engine} (hl : e.state.length = e.deeds.length) {A : Nat} (h0 : e.state[A]? = some 0) (hn : needsAt e A = []) :
    ∃ d, e.deeds[A]? = some d ∧ needs e A d = [] ∧ goE e (A : Int) = (goNew e A d, 0) := by
  have hA := (List.getElem?_eq_some_iff.1 h0).1
  obtain ⟨d, hd⟩ : ∃ d, e.deeds[A]? = some d := ⟨e.deeds[A]'(by omega), List.getElem?_eq_getElem (by omega)⟩
  unfold needsAt at hn
  rw [hd] at hn
  refine ⟨d, hd, hn, ?_⟩
  unfold goE goAt
  rw [if_neg (by omega), Int.toNat_natCast, hd]
  dsimp only
  rw [h0, if_neg (by simp), if_pos hn]
theorem first_wait {l : List Int} {A : Nat} (h : l[A]? = some 0) : ∃ B : Nat, l[B]? = some 0 ∧ ∀ j : Nat, j < B → l[j]? ≠ some 0 := by
  induction A using Nat.strongRecOn with
  | ind A ih =>
    by_cases hj : ∃ j, j < A ∧ l[j]? = some 0
    · obtain ⟨j, h1, h2⟩ := hj
      exact ih j h1 h2
    · exact ⟨A, h, fun j hj1 hj2 => hj ⟨j, hj1, hj2⟩⟩
/-- One of those that wait needs nobody. -/
theorem free_one {e : Engine} (hW : WInv e) {A : Nat} (h : e.state[A]? = some 0) : ∃ B : Nat, e.state[B]? = some 0 ∧ needsAt e B = [] := by
  obtain ⟨B, h1, h2⟩ := first_wait h
  refine ⟨B, h1, ?_⟩
  unfold needsAt
  split
  · refine (needs_nil hW).2 fun k _ => ?_
    cases hm : (before e.chains k (e.base + B)).made with
    | true => rfl
    | false =>
      rcases before_mem e.chains k (e.base + B) with h3 | ⟨c, h3, h4, h5, h6⟩
      · rw [h3] at hm; cases hm
      · obtain ⟨j, x, h7, h8, _⟩ := hW.n c h3 _ h5 hm
        exact absurd h8 (h2 j (by omega))
  · rfl
theorem ready_nil {e : Engine} {r : List Pair} (h : BInv e r) (hr : ready e = []) : ∀ s ∈ e.state, s = 1 := fun s hs => by
  rcases h.t s hs with rfl | h1
  · obtain ⟨A, hA⟩ := List.mem_iff_getElem?.1 hs
    obtain ⟨B, h1, h2⟩ := free_one h.W hA
    have : ((B : Nat) : Int) ∈ ready e := ready_mem.2 ⟨B, rfl, h1, h2⟩
    rw [hr] at this
    simp at this
  · exact h1
/-! ### All of them -/
def waitN : List Int → Nat
  | [] => 0
  | s :: l => if s = 0 then waitN l + 1 else waitN l
theorem waitN_set : ∀ {l : List Int} {A : Nat}, l[A]? = some 0 → waitN (l.set A 1) + 1 = waitN l
  | [], A, h => by simp at h
  | s :: l, 0, h => by simp at h; subst h; simp [waitN]
  | s :: l, A + 1, h => by
    have := waitN_set (l := l) (A := A) (by rw [List.getElem?_cons_succ] at h; exact h)
    simp only [List.set_cons_succ, waitN]
    split <;> omega
def pickAt (p : Int) (n : Nat) : Nat := ((p.tmod n + n).tmod n).toNat
theorem pickAt_lt {n : Nat} (h : 0 < n) (p : Int) : pickAt p n < n := by
  have := Int.tmod_lt_of_pos (p.tmod n + n) (show (0 : Int) < n by omega)
  unfold pickAt
  omega
def pickI (l : List Int) : List Int → Nat
  | [] => 0
  | p :: _ => pickAt p l.length
theorem pickI_lt {l : List Int} (h : l ≠ []) (p : List Int) : pickI l p < l.length := by
  have := List.length_pos_iff.2 h
  cases p with
  | nil => exact this
  | cons p _ => exact pickAt_lt this p
def allGo : Nat → Engine → List Int → Engine
  | 0, e, _ => e
  | f + 1, e, p => match (ready e)[pickI (ready e) p]? with
    | some x => allGo f (goE e x).1 p.tail
    | none => e
def allE (e : Engine) (p : List Int) : Engine := allGo (waitN e.state) e p
theorem all_nil {e : Engine} {p : List Int} (h : ready e = []) : allE e p = e := by
  unfold allE
  cases waitN e.state with
  | zero => rfl
  | succ f => simp only [allGo]; rw [h]; rfl
theorem all_step {e : Engine} (hl : e.state.length = e.deeds.length) {p : List Int} {x : Int} (hx : (ready e)[pickI (ready e) p]? = some x) :
    ∃ (A : Nat) (d : Deed), x = (A : Int) ∧ e.deeds[A]? = some d ∧ e.state[A]? = some 0 ∧ needs e A d = [] ∧ goE e x = (goNew e A d, 0) ∧ waitN (goE e x).1.state + 1 = waitN e.state ∧ allE e p = allE (goE e x).1 p.tail := by
  obtain ⟨A, rfl, h1, h2⟩ := ready_mem.1 (List.mem_of_getElem? hx)
  obtain ⟨d, h3, h4, h5⟩ := go_ready hl h1 h2
  have hw : waitN (goE e (A : Int)).1.state + 1 = waitN e.state := by rw [h5]; exact waitN_set h1
  refine ⟨A, d, rfl, h3, h1, h4, h5, hw, ?_⟩
  unfold allE
  rw [← hw]
  simp only [allGo]
  rw [hx]
theorem goE_deeds (e : Engine) (x : Int) : (goE e x).1.deeds = e.deeds ∧ (goE e x).1.base = e.base := by
  unfold goE
  split
  · exact ⟨rfl, rfl⟩
  unfold goAt
  split
  · split
    · exact ⟨rfl, rfl⟩
    split <;> exact ⟨rfl, rfl⟩
  · exact ⟨rfl, rfl⟩
theorem all_inv {r : List Pair} : ∀ {f : Nat} {e : Engine} {p : List Int}, waitN e.state = f → BInv e r → BInv (allE e p) r ∧ (allE e p).deeds = e.deeds ∧ (allE e p).base = e.base ∧ ∀ s ∈ (allE e p).state, s = 1
  | f, e, p, hf, h => by
    by_cases hr : ready e = []
    · rw [all_nil hr]
      exact ⟨h, rfl, rfl, ready_nil h hr⟩
    · have hp := pickI_lt hr p
      have hx : (ready e)[pickI (ready e) p]? = some ((ready e)[pickI (ready e) p]'hp) := List.getElem?_eq_getElem hp
      obtain ⟨A, d, h1, h2, h3, h4, h5, h6, h7⟩ := all_step h.W.l hx
      rw [h7]
      cases f with
      | zero => omega
      | succ f =>
        have ih := all_inv (f := f) (e := (goE e ((ready e)[pickI (ready e) p]'hp)).1) (p := p.tail) (by omega) (h.goE _)
        rw [(goE_deeds _ _).1, (goE_deeds _ _).2] at ih
        exact ih

/-! ### What keys have -/
def seenP (cs : List Chain) (b : Int) (c : Chain) : Option Pair := if (before cs c.key b).has = true then some ⟨c.key, (before cs c.key b).n⟩ else none
theorem rowsAtGo_made {cs : List Chain} {b : Int} : ∀ {l : List Chain} {out : List Pair}, (∀ c ∈ l, (before cs c.key b).made = true) → rowsAtGo cs b out l = (out ++ l.filterMap (seenP cs b), true)
  | [], out, _ => by simp [rowsAtGo]
  | c :: l, out, h => by
    have h1 := h c (List.mem_cons_self ..)
    have h2 : ∀ c ∈ l, (before cs c.key b).made = true := fun x hx => h x (List.mem_cons_of_mem _ hx)
    simp only [rowsAtGo]
    rw [if_neg (by rw [h1]; simp)]
    by_cases hh : (before cs c.key b).has = true
    · rw [if_pos hh, rowsAtGo_made h2, List.filterMap_cons_some (show seenP cs b c = some _ from if_pos hh)]
      simp
    · rw [if_neg hh, rowsAtGo_made h2, List.filterMap_cons_none (show seenP cs b c = none from if_neg hh)]
theorem rowsAt_made {cs : List Chain} {b : Int} (hs : Srt Chain.key cs) (hb : ∀ k, (before cs k b).has = false → (before cs k b).n = 0) (h : ∀ k, (before cs k b).made = true) :
    (rowsAt cs b).2 = true ∧ Srt Pair.key (rowsAt cs b).1 ∧ ∀ k, RF.get (rowsAt cs b).1 k = ((before cs k b).n, (before cs k b).has) := by
  have he : rowsAt cs b = (cs.filterMap (seenP cs b), true) := rowsAtGo_made fun c _ => h c.key
  have hsr : Srt Pair.key (cs.filterMap (seenP cs b)) := by
    refine List.pairwise_filterMap.2 (List.Pairwise.imp (fun {x y} hxy p hp q hq => ?_) hs)
    unfold seenP at hp hq
    split at hp
    · split at hq
      · cases hp; cases hq; exact hxy
      · cases hq
    · cases hp
  rw [he]
  refine ⟨rfl, hsr, fun k => ?_⟩
  show RF.get (cs.filterMap (seenP cs b)) k = _
  cases hh : (before cs k b).has with
  | true =>
    rcases before_mem cs k b with h1 | ⟨c, h1, rfl, _, _⟩
    · rw [h1] at hh; cases hh
    · have hm : (⟨c.key, (before cs c.key b).n⟩ : Pair) ∈ cs.filterMap (seenP cs b) := List.mem_filterMap.2 ⟨c, h1, if_pos hh⟩
      exact get_of_mem hsr hm
  | false =>
    rw [hb k hh]
    refine get_absent fun p hp e => ?_
    obtain ⟨c, h1, h2⟩ := List.mem_filterMap.1 hp
    unfold seenP at h2
    split at h2
    · next hc =>
      cases h2
      have e' : c.key = k := e
      rw [e', hh] at hc
      cases hc
    · cases h2
theorem done_made {e : Engine} (hW : WInv e) (h : ∀ s ∈ e.state, s = 1) (k : Str) (b : Int) : (before e.chains k b).made = true := by
  cases hm : (before e.chains k b).made with
  | true => rfl
  | false =>
    rcases before_mem e.chains k b with h1 | ⟨c, h1, _, h3, _⟩
    · rw [h1] at hm; cases hm
    · obtain ⟨j, x, _, h5, _⟩ := hW.n c h1 _ h3 hm
      have := h 0 (List.mem_of_getElem? h5)
      omega
theorem BInv.rows {e : Engine} {r : List Pair} (h : BInv e r) {i : Nat} (hi : i ≤ e.deeds.length) (hm : ∀ k, (before e.chains k (e.base + i)).made = true) : rowsAt e.chains (e.base + i) = (sq r e.deeds i, true) := by
  obtain ⟨h1, h2, h3⟩ := rowsAt_made h.S.k (fun k => h.W.bh k _) hm
  exact Prod.ext (get_ext h2 (sq_srt h.Q.s h.W.d i) fun k => by rw [h3, h.Q.m k i hi (hm k)]) h1

/-! ### How deeds ended -/
theorem allD_ends : ∀ {l : List Deed} {r : List Pair} {i : Nat} {d : Deed}, l[i]? = some d → (allD r l).2[i]? = some (doD (sq r l i) d).2
  | [], r, i, d, h => by simp at h
  | x :: l, r, 0, d, h => by simp at h; subst h; rfl
  | x :: l, r, i + 1, d, h => by
    rw [List.getElem?_cons_succ] at h
    have := allD_ends (r := (doD r x).1) h
    simp only [allD]
    rw [List.getElem?_cons_succ, this]
    rfl
theorem allD_len : ∀ {l : List Deed} {r : List Pair}, (allD r l).2.length = l.length
  | [], r => rfl
  | x :: l, r => by simp only [allD, List.length_cons]; rw [allD_len]
theorem BInv.ends {e : Engine} {r : List Pair} (h : BInv e r) (h1 : ∀ s ∈ e.state, s = 1) : e.ends = (allD r e.deeds).2 := by
  refine List.ext_getElem? fun i => ?_
  rcases Nat.lt_or_ge i e.deeds.length with hi | hi
  · have hd : e.deeds[i]? = some e.deeds[i] := List.getElem?_eq_getElem hi
    have hs : i < e.state.length := by rw [h.W.l]; exact hi
    have hs1 : e.state[i]? = some 1 := by
      rw [List.getElem?_eq_getElem hs, h1 _ (List.getElem_mem hs)]
    rw [h.Q.w i _ hd hs1, allD_ends hd]
  · rw [List.getElem?_eq_none (by rw [h.n]; exact hi), List.getElem?_eq_none (by rw [allD_len]; exact hi)]

end Go.Proofs.YtembfadhnkabhaaDoor

/-! P12 -/
/-
  The laws of chapters 6, 7 and 8 that say more, in plain words.
-/
namespace Go.Proofs.YtembfadhnkabhaaDoor
open Go.AX Go.RF

/-! ### Whichever goes first -/
/-! ### Who is done stays done -/
theorem bvs_self {v : Version} : ∀ {l : List Version} {out : Version}, VSrt l → v ∈ l → bvs true (v.by_ + 1) out l = v
  | [], out, _, h => by simp at h
  | w :: l, out, hs, h => by
    obtain ⟨h1, h2⟩ := VSrt.cons.1 hs
    simp only [bvs]
    rcases List.mem_cons.1 h with rfl | h
    · rw [if_pos (by simp; omega), bvs_ge fun x hx => by have := h1 x hx; omega]
    · exact bvs_self h2 h
theorem before_self {l : List Chain} (hs : Srt Chain.key l) (hv : ∀ c ∈ l, VSrt c.vs) {c : Chain} (hc : c ∈ l) {v : Version} (h : v ∈ c.vs) : before l c.key (v.by_ + 1) = v := by
  obtain ⟨m, hm⟩ := List.mem_iff_getElem?.1 hc
  rw [before_yes hs hm rfl]
  exact bvs_self (hv c hc) h
/-! ### Who comes later changes nothing ahead -/
/-! ### What is forgotten -/
theorem markN_all : ∀ {l : List Int}, (∀ s ∈ l, s = 1) → markN l = l.length
  | [], _ => rfl
  | x :: l, h => by
    simp only [markN, List.length_cons]
    rw [if_pos (h x (List.mem_cons_self ..)), markN_all fun y hy => h y (List.mem_cons_of_mem _ hy)]
theorem seen_done {e : Engine} {r : List Pair} (h : BInv e r) (h1 : ∀ s ∈ e.state, s = 1) : seenE e e.deeds.length = (sq r e.deeds e.deeds.length, 0) := by
  have := h.rows (Nat.le_refl _) fun k => done_made h.W h1 k _
  unfold seenE
  rw [if_neg (by omega), this, if_pos rfl]
/-! ### What is done leaves one each -/
theorem clrV_done {b : Int} : ∀ {l : List Version}, (∀ v ∈ l, v.by_ < b ∧ v.made = true) → clrV b l = [] ∨ ∃ v, clrV b l = [v] ∧ v.has = true ∧ v.by_ < b
  | [], _ => .inl rfl
  | [v], h => by
    obtain ⟨h1, h2⟩ := h v (List.mem_cons_self ..)
    cases hh : v.has with
    | true =>
      refine .inr ⟨v, ?_, hh, h1⟩
      simp [clrV, old, later, hh]
    | false =>
      left
      simp [clrV, old, later, hh, h1, h2]
  | v :: w :: l, h => by
    obtain ⟨h1, h2⟩ := h v (List.mem_cons_self ..)
    have h3 := (h w (List.mem_cons_of_mem _ (List.mem_cons_self ..))).1
    have ho : old b (w :: l) v = true := by simp [old, later, h1, h3]
    have he : clrV b (v :: w :: l) = clrV b (w :: l) := by rw [clrV, if_pos ho]
    rw [he]
    exact clrV_done fun x hx => h x (List.mem_cons_of_mem _ hx)
theorem filterMap_all {α β : Type} {f : α → Option β} : ∀ {l : List α}, (∀ c ∈ l, ∃ p, f c = some p) → (l.filterMap f).length = l.length
  | [], _ => rfl
  | c :: l, h => by
    obtain ⟨p, hp⟩ := h c (List.mem_cons_self ..)
    rw [List.filterMap_cons_some hp, List.length_cons, List.length_cons, filterMap_all fun x hx => h x (List.mem_cons_of_mem _ hx)]
theorem size_ones : ∀ {l : List Chain} {n : Int}, (∀ c ∈ l, c.vs.length = 1) → sizeGo n l = n + l.length
  | [], n, _ => by simp [sizeGo]
  | c :: l, n, h => by
    simp only [sizeGo]
    rw [size_ones fun x hx => h x (List.mem_cons_of_mem _ hx), h c (List.mem_cons_self ..), List.length_cons]
    omega
theorem tidy_all {e : Engine} {r : List Pair} (h : BInv e r) (h1 : ∀ s ∈ e.state, s = 1) :
    ∃ u, seenE (clearE e) 0 = (u, 0) ∧ seenE e e.deeds.length = (u, 0) ∧ (clearE e).deeds = [] ∧ (clearE e).chains.length = u.length ∧ sizeGo 0 (clearE e).chains = u.length := by
  have hm : markN e.state = e.deeds.length := by rw [markN_all h1, h.W.l]
  have hx := h.clearE
  have hxd : (clearE e).deeds = [] := by
    show e.deeds.drop (markN e.state) = []
    rw [hm, List.drop_length]
  have hxs : ∀ s ∈ (clearE e).state, s = 1 := fun s hs => h1 s (List.mem_of_mem_drop hs)
  have hse := seen_done hx hxs
  rw [hxd, hm] at hse
  have hsq : sq (sq r e.deeds e.deeds.length) [] ([] : List Deed).length = sq r e.deeds e.deeds.length := rfl
  rw [hsq] at hse
  have hmade : ∀ c ∈ e.chains, ∀ v ∈ c.vs, v.by_ < e.base + e.deeds.length ∧ v.made = true := fun c hc v hv => by
    refine ⟨h.S.b c hc v hv, ?_⟩
    have := done_made h.W h1 c.key (v.by_ + 1)
    rwa [before_self h.S.k h.S.v hc hv] at this
  have hone : ∀ c ∈ (clearE e).chains, ∃ v, c.vs = [v] ∧ v.has = true ∧ v.by_ < e.base + e.deeds.length := fun c hc => by
    have hc' : c ∈ clear (e.base + markN e.state) e.chains := hc
    obtain ⟨c0, h2, rfl, h3⟩ := clear_mem' hc'
    rw [hm] at h3 ⊢
    rcases clrV_done (hmade c0 h2) with h4 | ⟨v, h4, h5, h6⟩
    · exact absurd h4 h3
    · exact ⟨v, h4, h5, h6⟩
  have hrows := hx.rows (i := 0) (by omega) fun k => done_made hx.W hxs k _
  have he : rowsAt (clearE e).chains ((clearE e).base + (0 : Nat)) = _ := rowsAtGo_made (b := (clearE e).base + (0 : Nat)) (out := []) fun c _ => done_made hx.W hxs c.key _
  rw [hrows, hxd, hm] at he
  have hul : (sq r e.deeds e.deeds.length).length = (clearE e).chains.length := by
    have h7 := congrArg (fun t => t.1.length) he
    dsimp only at h7
    rw [List.nil_append, filterMap_all] at h7
    · exact h7
    · intro c hc
      obtain ⟨v, h8, h9, h10⟩ := hone c hc
      obtain ⟨m, hmm⟩ := List.mem_iff_getElem?.1 hc
      have hbv : before (clearE e).chains c.key ((clearE e).base + (0 : Nat)) = v := by
        rw [before_yes hx.S.k hmm rfl, h8]
        have : v.by_ < (clearE e).base + (0 : Nat) := by
          show v.by_ < e.base + (markN e.state : Int) + (0 : Nat)
          rw [hm]; omega
        simp only [bvs]
        rw [if_pos (by simp only [Bool.true_and, decide_eq_true_eq]; exact this)]
      unfold seenP
      rw [hbv, if_pos h9]
      exact ⟨_, rfl⟩
  refine ⟨_, hse, seen_done h h1, hxd, hul.symm, ?_⟩
  rw [size_ones (fun c hc => by obtain ⟨v, h8, _⟩ := hone c hc; rw [h8]; rfl), hul]
  omega

end Go.Proofs.YtembfadhnkabhaaDoor

/-! G24 -/
/-
  Contract of the references' Finish: all deeds are done, the first one that is ready first.
-/
namespace Go.Proofs.YtembfadhnkabhaaDoor
open Go.AX Go.RF

set_option maxRecDepth 100000
set_option maxHeartbeats 8000000

theorem EInv.allE {N : Nat} : ∀ {f : Nat} {e : Engine} {p : List Int}, waitN e.state = f → EInv e N → EInv (allE e p) N
  | f, e, p, hf, h => by
    by_cases hr : ready e = []
    · rw [all_nil hr]
      exact h
    · have hp := pickI_lt hr p
      have hx : (ready e)[pickI (ready e) p]? = some ((ready e)[pickI (ready e) p]'hp) := List.getElem?_eq_getElem hp
      obtain ⟨A, d, h1, h2, h3, h4, h5, h6, h7⟩ := all_step h.z.s hx
      rw [h7]
      cases f with
      | zero => omega
      | succ f => exact EInv.allE (f := f) (p := p.tail) (by omega) (h.goE _)
theorem ok_finish (e : Engine) (N : Nat) (hE : EInv e N) (hN : N ≤ 100000000) : FnOk Tryd.prog 12 [.d (.agg e.enc)] (.one (.agg (allE e []).enc)) := by
  refine fnOk_of tbl_ok mixed_ok Tryd.func12 rfl (by kernel_rfl) rfl rfl fun w0 own0 => ?_
  repeat (first | ((with_reducible apply s1); exact rfl) | (with_reducible first | apply CW.seq | apply CW.block | apply CW.region | apply CW.draw | apply CW.skip | apply CW.exit | apply CW.ret | apply q_then | apply q_then_exit | apply q_then_ret | apply q_block | apply q_block_ret | apply q_block_hit | apply q_ret | apply q_end | apply q_loop_exit | apply q_loop_ret | apply q_loopT_exit | apply q_loopT_ret | apply RW.nil) | ((with_reducible apply s3); exact rfl; exact by_k) | ((with_reducible apply s2); exact rfl; exact by_k) | ((with_reducible apply s4); exact rfl) | ((with_reducible apply s5); (first | exact by_oa); exact by_g) | ((with_reducible apply CW.cond_t); exact rfl; exact by_ks) | ((with_reducible apply CW.cond_f); exact rfl; exact by_ks) | ((with_reducible apply q_block_miss); exact rfl) | (refine And.intro (show chk [] [] _ _ = true by kernel_rfl) ?_))
  refine CW.loopT (fun t : Engine => [sp 1 0, ob 0 t.enc, sp 2 1, ob 1 noE.enc0, nxt 2])
    (fun t => EInv t N ∧ allE t [] = allE e []) (fun t => waitN t.state) e ⟨hE, rfl⟩ ?_ ?_
  ·
    exact by_less
  · rintro t ⟨hT, hI⟩
    have hsm := hT.z.sm (by omega)
    have cr := ok_ready t hsm hT.z.s
    cases hr : ready t with
    | nil =>
      rw [all_nil hr] at hI
      rw [hr] at cr
      repeat (first | ((with_reducible apply s1); exact rfl) | (with_reducible first | apply CW.seq | apply CW.block | apply CW.region | apply CW.draw | apply CW.skip | apply CW.exit | apply CW.ret | apply q_then | apply q_then_exit | apply q_then_ret | apply q_block | apply q_block_ret | apply q_block_hit | apply q_ret | apply q_end | apply q_loop_exit | apply q_loop_ret | apply q_loopT_exit | apply q_loopT_ret | apply RW.nil) | ((with_reducible apply s3); exact rfl; exact by_k) | ((with_reducible apply s2); exact rfl; exact by_k) | ((with_reducible apply s4); exact rfl) | ((with_reducible apply s5); (first | (focus ((with_reducible apply a_call); exact cr; exact rfl; (repeat (first | exact SubsE.nil | (apply SubsE.cons; exact rfl; (first | exact .d (.refl _) | exact .d (.nil _) | exact .agg rfl (.refl _) | exact .pd | exact .ptr rfl); (first | exact trivial | exact ⟨rfl, trivial⟩)))); done)) | exact by_oa); exact by_g) | ((with_reducible apply CW.cond_t); exact rfl; exact by_ks) | ((with_reducible apply CW.cond_f); exact rfl; exact by_ks) | ((with_reducible apply q_block_miss); exact rfl) | (refine And.intro (show chk [] [] _ _ = true by kernel_rfl) ?_))
      exact .one (.cell rfl rfl rfl rfl (.aggd (ds := t.enc) rfl (dle_eq (by rw [hI]))))
    | cons x l =>
      have hx : (ready t)[pickI (ready t) []]? = some x := by rw [hr]; rfl
      obtain ⟨A, d, h1, h2, h3, h4, h5, h6, h7⟩ := all_step hT.z.s hx
      rw [h7] at hI
      have hrl : (x :: l).length ≤ 100000000 := by
        have := readyGo_len (e := t) t.state 0
        have h5 := hT.z.d
        have h6 := hT.z.s
        rw [← hr]
        unfold ready; omega
      rw [hr] at cr
      have h0 : (x :: l)[0]? = some x := rfl
      have hl0 : ¬ (x :: l).length = 0 := by simp
      have cg := ok_go t x N hT.z (by omega) hT.o hT.c
      repeat (first | ((with_reducible apply s1); exact rfl) | (with_reducible first | apply CW.seq | apply CW.block | apply CW.region | apply CW.draw | apply CW.skip | apply CW.exit | apply CW.ret | apply q_then | apply q_then_exit | apply q_then_ret | apply q_block | apply q_block_ret | apply q_block_hit | apply q_ret | apply q_end | apply q_loop_exit | apply q_loop_ret | apply q_loopT_exit | apply q_loopT_ret | apply RW.nil) | ((with_reducible apply s3); exact rfl; exact by_k) | ((with_reducible apply s2); exact rfl; exact by_k) | ((with_reducible apply s4); exact rfl) | ((with_reducible apply s5); (first | (focus ((with_reducible apply a_call); exact cr; exact rfl; (repeat (first | exact SubsE.nil | (apply SubsE.cons; exact rfl; (first | exact .d (.refl _) | exact .d (.nil _) | exact .agg rfl (.refl _) | exact .pd | exact .ptr rfl); (first | exact trivial | exact ⟨rfl, trivial⟩)))); done)) | (focus ((with_reducible apply a_call); exact cg; exact rfl; (repeat (first | exact SubsE.nil | (apply SubsE.cons; exact rfl; (first | exact .d (.refl _) | exact .d (.nil _) | exact .agg rfl (.refl _) | exact .pd | exact .ptr rfl); (first | exact trivial | exact ⟨rfl, trivial⟩)))); done)) | ((with_reducible apply a_ia); (iterate 5 exact rfl); exact idx_map (k := 0) h0) | exact by_oa); exact by_g) | ((with_reducible apply CW.cond_t); exact rfl; exact by_ks) | ((with_reducible apply CW.cond_f); exact rfl; exact by_ks) | ((with_reducible apply q_block_miss); exact rfl) | (refine And.intro (show chk [] [] _ _ = true by kernel_rfl) ?_))
      refine q_loopT (goE t x).1 ⟨hT.goE x, hI⟩ (by omega) ?_
      exact by_less

end Go.Proofs.YtembfadhnkabhaaDoor

/-! AxStr -/
/-
  Parts of texts; errors against nil.
-/
namespace Go.AX
open Go.RowKit Go.RF

variable {cx : Cx} {g : Nat → Value} {σ : St} {a : Act} {w w' : World} {nx : Nat}
variable {ty : TypeId} {pos : String} {af : Array Edge} {gd : Option (Nat × Bool)} {d : Nat}

theorem extract_str (s : List UInt8) (l h : Nat) : Value.string ((⟨s.toArray⟩ : ByteArray).extract l h) = str ((s.drop l).take (h - l)) := by
  have : (⟨s.toArray⟩ : ByteArray).extract l h = ⟨((s.drop l).take (h - l)).toArray⟩ := by
    apply ByteArray.ext
    rw [ByteArray.data_extract]
    simp
  rw [this]; rfl
/-- A part of a text, from a place to another one. -/
theorem a_sub {t : TypeId} {x lo hi : Operand} {kd ke : IntKind} {s : List UInt8} {l h : Nat} {ti : TI} (hx : ev σ x = some (.d (.v (str s)))) (hlo : ev σ lo = some (.d (.v (.int kd (l : Int))))) (hhi : ev σ hi = some (.d (.v (.int ke (h : Int)))))
    (ht : tget cx.T t = some ti) (hk : ti.kind = .str) (hd : Nat.blt d cx.n = true) (hlh : l ≤ h) (hh : h ≤ s.length) :
    OA cx σ ⟨some d, .slice t x (some lo) (some hi) none, ty, pos, af, gd⟩ ⟨rdOf x (.d (.v (str s))) ++ (rdOf lo (.d (.v (.int kd (l : Int)))) ++ rdOf hi (.d (.v (.int ke (h : Int))))), [(.s d, .av (.d (.v (str ((s.drop l).take (h - l))))))]⟩ := by
  refine ⟨ok_val rfl (lt_of_blt hd) fun σ1 a w g nx hs hr => ?_, (ev_out hx).2.append ((ev_out hlo).2.append (ev_out hhi).2)⟩
  have hv := rep_v (hs.ev (ev_out hx).1 hr.left).1
  have h1 := rep_v (hs.ev (ev_out hlo).1 hr.right.left).1
  have h2 := rep_v (hs.ev (ev_out hhi).1 hr.right.right).1
  have hu : cx.P.underlying t = some .string := by have := (cx.hT t ti ht).kind; rw [hk] at this; exact this.1
  refine ⟨_, w, ?_, Below.refl _ _, Rd.v _, trivial⟩
  have hsz : (⟨s.toArray⟩ : ByteArray).size = s.length := rfl
  have e1 : ¬ ((h : Int) < 0) := by omega
  have e2 : ¬ ((l : Int) < 0) := by omega
  rw [← extract_str]
  simp [execOp, hv, h1, h2, str, Instr.sliceAt, Instr.slice, run_underlying hu, Instr.sliceBounds, Instr.sliceBound, asIntOf, hsz, hlh, hh, e1, e2]
theorem a_subF {t : TypeId} {x lo : Operand} {kd : IntKind} {s : List UInt8} {l : Nat} {ti : TI} (hx : ev σ x = some (.d (.v (str s)))) (hlo : ev σ lo = some (.d (.v (.int kd (l : Int)))))
    (ht : tget cx.T t = some ti) (hk : ti.kind = .str) (hd : Nat.blt d cx.n = true) (hh : l ≤ s.length) :
    OA cx σ ⟨some d, .slice t x (some lo) none none, ty, pos, af, gd⟩ ⟨rdOf x (.d (.v (str s))) ++ rdOf lo (.d (.v (.int kd (l : Int)))), [(.s d, .av (.d (.v (str (s.drop l)))))]⟩ := by
  refine ⟨ok_val rfl (lt_of_blt hd) fun σ1 a w g nx hs hr => ?_, (ev_out hx).2.append (ev_out hlo).2⟩
  have hv := rep_v (hs.ev (ev_out hx).1 hr.left).1
  have h1 := rep_v (hs.ev (ev_out hlo).1 hr.right).1
  have hu : cx.P.underlying t = some .string := by have := (cx.hT t ti ht).kind; rw [hk] at this; exact this.1
  refine ⟨_, w, ?_, Below.refl _ _, Rd.v _, trivial⟩
  have hsz : (⟨s.toArray⟩ : ByteArray).size = s.length := rfl
  have e2 : ¬ ((l : Int) < 0) := by omega
  have he := extract_str s l s.length
  rw [List.take_of_length_le (by simp)] at he
  rw [← he]
  simp [execOp, hv, h1, str, Instr.sliceAt, Instr.slice, run_underlying hu, Instr.sliceBounds, Instr.sliceBound, asIntOf, hsz, hh, e2]

/-- No error, held against nil. -/
theorem a_noerr {t t' : TypeId} {x : Operand} {ms : Array (String × TypeId)} (hx : ev σ x = some (.d (.v .nilIface))) (ht : cx.P.underlying t = some (.interface ms)) (hd : Nat.blt d cx.n = true) :
    OA cx σ ⟨some d, .binOp .eql t x (.const .nilIface) t', ty, pos, af, gd⟩ ⟨rdOf x (.d (.v .nilIface)), [(.s d, .av (.d (.v (.bool true))))]⟩ := by
  refine ⟨ok_val rfl (lt_of_blt hd) fun σ1 a w g nx hs hr => ?_, (ev_out hx).2⟩
  have hv := rep_v (hs.ev (ev_out hx).1 hr).1
  refine ⟨.bool true, w, ?_, Below.refl _ _, Rd.v _, trivial⟩
  have h : ∀ d : Nat, (Op.equalIn (d + 1) t .nilIface .nilIface).run cx.P w = .ok true w := fun d => by
    simp [Op.equalIn, run_underlying ht]
  have hg : eqGuard .eql t x (.const .nilIface) .nilIface .nilIface = pure () := by cases x <;> rfl
  have hc : a.eval (.const .nilIface) = .nilIface := rfl
  simp [execOp, hv, hc, hg, binOp, Op.equal, Op.maxDepth, h 9999]

end Go.AX

/-! Tx -/
/-
  What the references' Parse computes of a text, on data.
-/
namespace Go.RF
open Go.AX

/-- A text parted at a text (not empty): what is behind the last one, so far, ahead of what is left. -/
def splitF (sep : Str) : Nat → Str → Str → List Str
  | 0, cur, r => [cur ++ r]
  | n + 1, cur, r =>
    if r.length < sep.length then [cur ++ r]
    else if r.take sep.length = sep then cur :: splitF sep n [] (r.drop sep.length)
    else match r with
      | [] => [cur]
      | c :: t => splitF sep n (cur ++ [c]) t
def split (s sep : Str) : List Str := splitF sep s.length [] s
def words : List Str := [[], [108, 111, 97, 100], [99, 111, 110, 115, 116], [97, 100, 100], [115, 117, 98], [109, 117, 108], [115, 116, 111, 114, 101], [100, 114, 111, 112], [115, 107, 105, 112], [102, 97, 105, 108]]
def kindGo (w : Str) : Nat → Int → List Str → Int
  | _, k, [] => k
  | n, k, x :: r => kindGo w (n + 1) (if 0 < n ∧ x = w then (n : Int) else k) r
def kindOf (w : Str) : Int := kindGo w 0 0 words
/-- A number, as it is written. -/
def numV (s : Str) : Option Int := match Lib.atoiAll s with
  | .ok v => if Lib.itoa v = s then some v else none
  | _ => none
def regV (s : Str) : Option Int := match s with
  | 114 :: r => numV r
  | _ => none
/-- The letters of a form, each with its word. -/
def fillI : Ins → Str → List Str → Option Ins
  | i, [], _ => some i
  | i, _ :: _, [] => some i
  | i, c :: f, w :: ws =>
    if c = 107 then fillI { i with key := w } f ws
    else if c = 110 then match numV w with
      | some n => fillI { i with n := n } f ws
      | none => none
    else match regV w with
      | some x => if c = 114 then fillI { i with a := x } f ws else fillI { i with b := x } f ws
      | none => none
def insP (l : List Str) : Option Ins := match l with
  | [] => none
  | w :: ws => if kindOf w = 0 then none else if ws.length = (form (kindOf w).toNat).length then fillI ⟨kindOf w, 0, 0, 0, []⟩ (form (kindOf w).toNat) ws else none
def insAll : List Str → Option (List Ins)
  | [] => some []
  | p :: r => match insP (split p [32]), insAll r with
    | some i, some l => some (i :: l)
    | _, _ => none
/-- A right deed's text, read. -/
def parseD (s : Str) : Option Deed :=
  if 400 < s.length then none else match split s [59, 32] with
    | p0 :: p1 :: ps => match split p0 [32], split p1 [32], insAll ps with
      | w0 :: rs, w1 :: ws, some code => if w0 = [114, 101, 97, 100, 115] ∧ w1 = [119, 114, 105, 116, 101, 115] ∧ wrongDeed ⟨rs, ws, code⟩ = 0 then some ⟨rs, ws, code⟩ else none
      | _, _, _ => none
    | _ => none

end Go.RF

/-! H1 -/
/-
  Contracts of the references' split, Words, Form.
-/
namespace Go.Proofs.YtembfadhnkabhaaDoor
open Go.AX Go.RF

set_option maxRecDepth 100000
set_option maxHeartbeats 4000000

theorem splitF_len (sep : Str) : ∀ (n : Nat) (cur r : Str), (splitF sep n cur r).length ≤ n + 1
  | 0, cur, r => by simp [splitF]
  | n + 1, cur, r => by
    simp only [splitF]
    split
    · simp
    split
    · have := splitF_len sep n [] (r.drop sep.length); simp; omega
    cases r with
    | nil => simp
    | cons c t => have := splitF_len sep n (cur ++ [c]) t; simp; omega

theorem splitF_succ (sep : Str) (n : Nat) (cur r : Str) : splitF sep (n + 1) cur r = if r.length < sep.length then [cur ++ r]
    else if r.take sep.length = sep then cur :: splitF sep n [] (r.drop sep.length)
    else match r with
      | [] => [cur]
      | c :: t => splitF sep n (cur ++ [c]) t := by cases r <;> rfl

theorem ok_split (s sep : Str) (hs : s.length ≤ 1073741000) (hp : sep ≠ []) (hp2 : sep.length ≤ 1000) : FnOk Tryd.prog 47 [.d (dstr s), .d (dstr sep)] (.one (encStrs (split s sep))) := by
  refine fnOk_of tbl_ok mixed_ok Tryd.func47 rfl (by kernel_rfl) rfl rfl fun w0 own0 => ?_
  have hp0 : 0 < sep.length := List.length_pos_iff.2 hp
  repeat (first | ((with_reducible apply stop_at 3); exact rfl) | ((with_reducible apply s1); exact rfl) | (with_reducible first | apply CW.seq | apply CW.block | apply CW.region | apply CW.draw | apply CW.skip | apply CW.exit | apply CW.ret | apply q_then | apply q_then_exit | apply q_then_ret | apply q_block | apply q_block_ret | apply q_block_hit | apply q_ret | apply q_end | apply q_loop_exit | apply q_loop_ret | apply q_loopT_exit | apply q_loopT_ret | apply RW.nil) | ((with_reducible apply s3); exact rfl; exact by_k) | ((with_reducible apply s2); exact rfl; exact by_k) | ((with_reducible apply s4); exact rfl) | ((with_reducible apply s5); (first | exact by_oa); exact by_g) | ((with_reducible apply CW.cond_t); exact rfl; exact by_ks) | ((with_reducible apply CW.cond_f); exact rfl; exact by_ks) | ((with_reducible apply q_block_miss); exact rfl) | (refine And.intro (show chk [] [] _ _ = true by kernel_rfl) ?_))
  refine Stop.go (CW.stut (stut_promote (i := 5) 9 1) ⟨rfl, rfl, trivial⟩ ?_)
  repeat (first | ((with_reducible apply s1); exact rfl) | (with_reducible first | apply CW.seq | apply CW.block | apply CW.region | apply CW.draw | apply CW.skip | apply CW.exit | apply CW.ret | apply q_then | apply q_then_exit | apply q_then_ret | apply q_block | apply q_block_ret | apply q_block_hit | apply q_ret | apply q_end | apply q_loop_exit | apply q_loop_ret | apply q_loopT_exit | apply q_loopT_ret | apply RW.nil) | ((with_reducible apply s3); exact rfl; exact by_k) | ((with_reducible apply s2); exact rfl; exact by_k) | ((with_reducible apply s4); exact rfl) | ((with_reducible apply s5); (first | exact by_oa); exact by_g) | ((with_reducible apply CW.cond_t); exact rfl; exact by_ks) | ((with_reducible apply CW.cond_f); exact rfl; exact by_ks) | ((with_reducible apply q_block_miss); exact rfl) | (refine And.intro (show chk [] [] _ _ = true by kernel_rfl) ?_))
  refine CW.loopT (fun t : Nat × Nat × List Str => [sd 0 (dstr s), sd 1 (dstr sep), sd 4 (.v nilS), so 5 0 t.2.2.length, oa 0 9 1 (t.2.2.map encStr1), sd 6 (dint t.1), sd 7 (dint t.2.1), nxt 1])
    (fun t => t.1 ≤ t.2.1 ∧ t.2.1 ≤ s.length ∧ t.2.2.length ≤ t.2.1 ∧ ∃ n, s.length ≤ n + t.2.1 ∧ t.2.2 ++ splitF sep n ((s.drop t.1).take (t.2.1 - t.1)) (s.drop t.2.1) = split s sep) (fun t => s.length - t.2.1) (0, 0, []) ⟨by dsimp only; omega, by dsimp only; omega, by dsimp only; simp, s.length, by dsimp only; omega, rfl⟩ ?_ ?_
  ·
    exact by_less
  · rintro ⟨f, i, out⟩ ⟨hf, hi, ho, n, hn, hI⟩
    dsimp only at hf hi ho hn hI ⊢
    have hcr : (s.drop f).take (i - f) ++ s.drop i = s.drop f := by
      have := List.take_append_drop (i - f) (s.drop f)
      rw [List.drop_drop, show f + (i - f) = i by omega] at this
      exact this
    have hrl : (s.drop i).length = s.length - i := by simp
    by_cases h1 : i + sep.length ≤ s.length
    · obtain ⟨n, rfl⟩ : ∃ m, n = m + 1 := ⟨n - 1, by omega⟩
      rw [splitF_succ, if_neg (by omega)] at hI
      have hcut : ((s.drop i).take (i + sep.length - i)) = (s.drop i).take sep.length := by congr 1; omega
      by_cases h2 : (s.drop i).take sep.length = sep
      · rw [if_pos h2] at hI
        have h2' : (s.drop i).take (i + sep.length - i) = sep := hcut.trans h2
        repeat (first | ((with_reducible apply s5); ((with_reducible apply a_bs [[dstr ((s.drop f).take (i - f))]]); (iterate 9 exact rfl); (repeat (first | exact PartsE.nil | (apply PartsE.cons; exact rfl; exact rfl)))); exact by_g) | ((with_reducible apply s1); exact rfl) | (with_reducible first | apply CW.seq | apply CW.block | apply CW.region | apply CW.draw | apply CW.skip | apply CW.exit | apply CW.ret | apply q_then | apply q_then_exit | apply q_then_ret | apply q_block | apply q_block_ret | apply q_block_hit | apply q_ret | apply q_end | apply q_loop_exit | apply q_loop_ret | apply q_loopT_exit | apply q_loopT_ret | apply RW.nil) | ((with_reducible apply s3); exact rfl; exact by_k) | ((with_reducible apply s2); exact rfl; exact by_k) | ((with_reducible apply s4); exact rfl) | ((with_reducible apply s5); (first | ((with_reducible apply (a_sub (l := i) (h := i + sep.length))); (iterate 6 exact rfl); omega; omega) | ((with_reducible apply (a_sub (l := f) (h := i))); (iterate 6 exact rfl); omega; omega) | exact by_oa); exact by_g) | ((with_reducible apply CW.cond_t); exact rfl; exact by_ks) | ((with_reducible apply CW.cond_f); exact rfl; exact by_ks) | ((with_reducible apply q_block_miss); exact rfl) | (refine And.intro (show chk [] [] _ _ = true by kernel_rfl) ?_))
        refine q_loopT (i + sep.length, i + sep.length, out ++ [(s.drop f).take (i - f)]) ⟨by dsimp only; omega, by dsimp only; omega, by dsimp only; simp; omega, n, by dsimp only; omega, ?_⟩ (by dsimp only; omega) ?_
        · dsimp only
          rw [← hI, List.append_assoc, List.drop_drop, Nat.sub_self, List.take_zero]
          rfl
        exact by_less
      · rw [if_neg h2] at hI
        have h2' : ¬ (s.drop i).take (i + sep.length - i) = sep := fun h => h2 (hcut.symm.trans h)
        have hlt : i < s.length := by omega
        rw [List.drop_eq_getElem_cons hlt] at hI
        dsimp only at hI
        repeat (first | ((with_reducible apply s1); exact rfl) | (with_reducible first | apply CW.seq | apply CW.block | apply CW.region | apply CW.draw | apply CW.skip | apply CW.exit | apply CW.ret | apply q_then | apply q_then_exit | apply q_then_ret | apply q_block | apply q_block_ret | apply q_block_hit | apply q_ret | apply q_end | apply q_loop_exit | apply q_loop_ret | apply q_loopT_exit | apply q_loopT_ret | apply RW.nil) | ((with_reducible apply s3); exact rfl; exact by_k) | ((with_reducible apply s2); exact rfl; exact by_k) | ((with_reducible apply s4); exact rfl) | ((with_reducible apply s5); (first | ((with_reducible apply (a_sub (l := i) (h := i + sep.length))); (iterate 6 exact rfl); omega; omega) | exact by_oa); exact by_g) | ((with_reducible apply CW.cond_t); exact rfl; exact by_ks) | ((with_reducible apply CW.cond_f); exact rfl; exact by_ks) | ((with_reducible apply q_block_miss); exact rfl) | (refine And.intro (show chk [] [] _ _ = true by kernel_rfl) ?_))
        refine q_loopT (f, i + 1, out) ⟨by dsimp only; omega, by dsimp only; omega, by dsimp only; omega, n, by dsimp only; omega, ?_⟩ (by dsimp only; omega) ?_
        · dsimp only
          rw [← hI, show i + 1 - f = (i - f) + 1 by omega, List.take_add_one, List.getElem?_drop, show f + (i - f) = i by omega, List.getElem?_eq_getElem hlt]
          rfl
        exact by_less
    · have hfin : out ++ [s.drop f] = split s sep := by
        rw [← hI]
        cases n with
        | zero => rw [splitF, hcr]
        | succ n => rw [splitF_succ, if_pos (by omega), hcr]
      repeat (first | ((with_reducible apply s5); ((with_reducible apply a_bs [[dstr (s.drop f)]]); (iterate 9 exact rfl); (repeat (first | exact PartsE.nil | (apply PartsE.cons; exact rfl; exact rfl)))); exact by_g) | ((with_reducible apply s1); exact rfl) | (with_reducible first | apply CW.seq | apply CW.block | apply CW.region | apply CW.draw | apply CW.skip | apply CW.exit | apply CW.ret | apply q_then | apply q_then_exit | apply q_then_ret | apply q_block | apply q_block_ret | apply q_block_hit | apply q_ret | apply q_end | apply q_loop_exit | apply q_loop_ret | apply q_loopT_exit | apply q_loopT_ret | apply RW.nil) | ((with_reducible apply s3); exact rfl; exact by_k) | ((with_reducible apply s2); exact rfl; exact by_k) | ((with_reducible apply s4); exact rfl) | ((with_reducible apply s5); (first | ((with_reducible apply (a_subF (l := f))); (iterate 5 exact rfl); omega) | exact by_oa); exact by_g) | ((with_reducible apply CW.cond_t); exact rfl; exact by_ks) | ((with_reducible apply CW.cond_f); exact rfl; exact by_ks) | ((with_reducible apply q_block_miss); exact rfl) | (refine And.intro (show chk [] [] _ _ = true by kernel_rfl) ?_))
      rw [← hfin, show encStrs (out ++ [s.drop f]) = .sl 1 (out.map encStr1 ++ [[dstr (s.drop f)]]) by simp [encStrs, encStr1]]
      exact .one (.tmp rfl (.one (.own rfl (by simp) (.refl _))))

theorem ok_words : FnOk Tryd.prog 48 [] (.one (encStrs words)) := by
  refine fnOk_of tbl_ok mixed_ok Tryd.func48 rfl (by kernel_rfl) rfl rfl fun w0 own0 => ?_
  repeat (first | ((with_reducible apply s5); ((with_reducible apply a_bs (words.map encStr1)); (iterate 9 exact rfl); (repeat (first | exact PartsE.nil | (apply PartsE.cons; exact rfl; exact rfl)))); exact by_g) | ((with_reducible apply s1); exact rfl) | (with_reducible first | apply CW.seq | apply CW.block | apply CW.region | apply CW.draw | apply CW.skip | apply CW.exit | apply CW.ret | apply q_then | apply q_then_exit | apply q_then_ret | apply q_block | apply q_block_ret | apply q_block_hit | apply q_ret | apply q_end | apply q_loop_exit | apply q_loop_ret | apply q_loopT_exit | apply q_loopT_ret | apply RW.nil) | ((with_reducible apply s3); exact rfl; exact by_k) | ((with_reducible apply s2); exact rfl; exact by_k) | ((with_reducible apply s4); exact rfl) | ((with_reducible apply s5); (first | exact by_oa); exact by_g) | ((with_reducible apply CW.cond_t); exact rfl; exact by_ks) | ((with_reducible apply CW.cond_f); exact rfl; exact by_ks) | ((with_reducible apply q_block_miss); exact rfl) | (refine And.intro (show chk [] [] _ _ = true by kernel_rfl) ?_))
  exact .one (.tmp rfl (.one (.d (.refl _))))

end Go.Proofs.YtembfadhnkabhaaDoor

/-! ShNum -/
/-
  The library's Atoi and Itoa of numbers, at this program's numbers of functions and types.
-/
namespace Go.Proofs
open Go.Shelf Go.RowKit
noncomputable def Tryd.laysC172_ren : Go.Shelf.Ren := ⟨fun | 129 => 84 | 171 => 58 | 172 => 57 | 205 => 76 | 243 => 65 | 244 => 63 | 245 => 64 | 246 => 72 | 247 => 67 | 279 => 68 | 280 => 69 | 281 => 70 | 282 => 71 | 283 => 77 | 284 => 78 | 285 => 79 | 286 => 80 | 287 => 74 | 316 => 75 | 317 => 83 | 318 => 85 | 319 => 86 | 320 => 87 | 321 => 81 | 322 => 82 | 337 => 88 | 338 => 89 | n => n, fun | 0 => 0 | 2 => 2 | 3 => 3 | 4 => 4 | 5 => 5 | 9 => 9 | 20 => 20 | 21 => 21 | 37 => 112 | 46 => 110 | 51 => 138 | 53 => 119 | 75 => 102 | 76 => 103 | 85 => 113 | 127 => 132 | 143 => 133 | 145 => 135 | 167 => 111 | 168 => 115 | 171 => 126 | 173 => 129 | 175 => 120 | 210 => 124 | 212 => 137 | 213 => 139 | 232 => 143 | 233 => 144 | 80 => 145 | n => n, fun | 15 => (Tryd.prog.globals.findIdx? (·.name == "strconv.ErrSyntax")).getD 0 | 16 => (Tryd.prog.globals.findIdx? (·.name == "strconv.ErrRange")).getD 0 | 17 => (Tryd.prog.globals.findIdx? (·.name == "internal/strconv.uint64pow10")).getD 0 | 18 => (Tryd.prog.globals.findIdx? (·.name == "math/bits.deBruijn32tab")).getD 0 | 19 => (Tryd.prog.globals.findIdx? (·.name == "math/bits.deBruijn64tab")).getD 0 | n => n⟩
theorem Tryd.laysC172 : Go.Proofs.LaysC.n172 Tryd.prog Tryd.laysC172_ren := {
  mixed := by kernel_rfl
  f129 := Tryd.func84.trans (congrArg some (by kernel_rfl))
  f171 := Tryd.func58.trans (congrArg some (by kernel_rfl))
  f172 := Tryd.func57.trans (congrArg some (by kernel_rfl))
  f205 := Tryd.func76.trans (congrArg some (by kernel_rfl))
  f243 := Tryd.func65.trans (congrArg some (by kernel_rfl))
  f244 := Tryd.func63.trans (congrArg some (by kernel_rfl))
  f245 := Tryd.func64.trans (congrArg some (by kernel_rfl))
  f246 := Tryd.func72.trans (congrArg some (by kernel_rfl))
  f247 := Tryd.func67.trans (congrArg some (by kernel_rfl))
  f279 := Tryd.func68.trans (congrArg some (by kernel_rfl))
  f280 := Tryd.func69.trans (congrArg some (by kernel_rfl))
  f281 := Tryd.func70.trans (congrArg some (by kernel_rfl))
  f282 := Tryd.func71.trans (congrArg some (by kernel_rfl))
  f283 := Tryd.func77.trans (congrArg some (by kernel_rfl))
  f284 := Tryd.func78.trans (congrArg some (by kernel_rfl))
  f285 := Tryd.func79.trans (congrArg some (by kernel_rfl))
  f286 := Tryd.func80.trans (congrArg some (by kernel_rfl))
  f287 := Tryd.func74.trans (congrArg some (by kernel_rfl))
  f316 := Tryd.func75.trans (congrArg some (by kernel_rfl))
  f317 := Tryd.func83.trans (congrArg some (by kernel_rfl))
  f318 := Tryd.func85.trans (congrArg some (by kernel_rfl))
  f319 := Tryd.func86.trans (congrArg some (by kernel_rfl))
  f320 := Tryd.func87.trans (congrArg some (by kernel_rfl))
  f321 := Tryd.func81.trans (congrArg some (by kernel_rfl))
  f322 := Tryd.func82.trans (congrArg some (by kernel_rfl))
  f337 := Tryd.func88.trans (congrArg some (by kernel_rfl))
  f338 := Tryd.func89.trans (congrArg some (by kernel_rfl))
  t0 := Tryd.underlying0
  a0 := Tryd.isAgg0
  z0 := Tryd.sizeOf0
  v0 := Tryd.zeroValue0
  t2 := Tryd.underlying2
  a2 := Tryd.isAgg2
  z2 := Tryd.sizeOf2
  v2 := Tryd.zeroValue2
  t3 := Tryd.underlying3
  a3 := Tryd.isAgg3
  z3 := Tryd.sizeOf3
  v3 := Tryd.zeroValue3
  t4 := Tryd.underlying4
  a4 := Tryd.isAgg4
  z4 := Tryd.sizeOf4
  v4 := Tryd.zeroValue4
  t5 := Tryd.underlying5
  a5 := Tryd.isAgg5
  z5 := Tryd.sizeOf5
  v5 := Tryd.zeroValue5
  t9 := Tryd.underlying9
  a9 := Tryd.isAgg9
  z9 := Tryd.sizeOf9
  v9 := Tryd.zeroValue9
  t20 := Tryd.underlying20
  a20 := Tryd.isAgg20
  z20 := Tryd.sizeOf20
  v20 := Tryd.zeroValue20
  t21 := Tryd.underlying21
  a21 := Tryd.isAgg21
  z21 := Tryd.sizeOf21
  v21 := Tryd.zeroValue21
  t37 := Tryd.underlying112
  a37 := Tryd.isAgg112
  z37 := Tryd.sizeOf112
  v37 := Tryd.zeroValue112
  t46 := Tryd.underlying110
  a46 := Tryd.isAgg110
  z46 := Tryd.sizeOf110
  v46 := Tryd.zeroValue110
  t51 := Tryd.underlying138
  a51 := Tryd.isAgg138
  z51 := Tryd.sizeOf138
  v51 := Tryd.zeroValue138
  t53 := Tryd.underlying119
  a53 := Tryd.isAgg119
  z53 := Tryd.sizeOf119
  v53 := Tryd.zeroValue119
  t75 := Tryd.underlying102
  a75 := Tryd.isAgg102
  z75 := Tryd.sizeOf102
  v75 := Tryd.zeroValue102
  t76 := Tryd.underlying103
  a76 := Tryd.isAgg103
  z76 := Tryd.sizeOf103
  v76 := Tryd.zeroValue103
  t85 := Tryd.underlying113
  a85 := Tryd.isAgg113
  z85 := Tryd.sizeOf113
  v85 := Tryd.zeroValue113
  t127 := Tryd.underlying132
  a127 := Tryd.isAgg132
  z127 := Tryd.sizeOf132
  v127 := Tryd.zeroValue132
  t143 := Tryd.underlying133
  a143 := Tryd.isAgg133
  z143 := Tryd.sizeOf133
  v143 := Tryd.zeroValue133
  t145 := Tryd.underlying135
  a145 := Tryd.isAgg135
  z145 := Tryd.sizeOf135
  v145 := Tryd.zeroValue135
  t167 := Tryd.underlying111
  a167 := Tryd.isAgg111
  z167 := Tryd.sizeOf111
  v167 := Tryd.zeroValue111
  t168 := Tryd.underlying115
  a168 := Tryd.isAgg115
  z168 := Tryd.sizeOf115
  v168 := Tryd.zeroValue115
  t171 := Tryd.underlying126
  a171 := Tryd.isAgg126
  z171 := Tryd.sizeOf126
  v171 := Tryd.zeroValue126
  t173 := Tryd.underlying129
  a173 := Tryd.isAgg129
  z173 := Tryd.sizeOf129
  v173 := Tryd.zeroValue129
  t175 := Tryd.underlying120
  a175 := Tryd.isAgg120
  z175 := Tryd.sizeOf120
  v175 := Tryd.zeroValue120
  t210 := Tryd.underlying124
  a210 := Tryd.isAgg124
  z210 := Tryd.sizeOf124
  v210 := Tryd.zeroValue124
  t212 := Tryd.underlying137
  a212 := Tryd.isAgg137
  z212 := Tryd.sizeOf137
  v212 := Tryd.zeroValue137
  t213 := Tryd.underlying139
  a213 := Tryd.isAgg139
  z213 := Tryd.sizeOf139
  t232 := Tryd.underlying143
  a232 := Tryd.isAgg143
  z232 := Tryd.sizeOf143
  v232 := Tryd.zeroValue143
  t233 := Tryd.underlying144
  a233 := Tryd.isAgg144
  z233 := Tryd.sizeOf144
  v233 := Tryd.zeroValue144
  g15 := by kernel_rfl
  g16 := by kernel_rfl
  g17 := by kernel_rfl
  g18 := by kernel_rfl
  g19 := by kernel_rfl
  t80 := Tryd.underlying145
  a80 := Tryd.isAgg145
  z80 := Tryd.sizeOf145
  v80 := Tryd.zeroValue145
  i0 := by kernel_rfl
  i2 := by kernel_rfl
  i3 := by kernel_rfl
  i4 := by kernel_rfl
  i5 := by kernel_rfl
  i9 := by kernel_rfl
  i20 := by kernel_rfl
  i21 := by kernel_rfl
  i37 := by kernel_rfl
  i46 := by kernel_rfl
  i51 := by kernel_rfl
  i53 := by kernel_rfl
  i75 := by kernel_rfl
  i76 := by kernel_rfl
  i80 := by kernel_rfl
  i85 := by kernel_rfl
  i127 := by kernel_rfl
  i143 := by kernel_rfl
  i145 := by kernel_rfl
  i167 := by kernel_rfl
  i168 := by kernel_rfl
  i171 := by kernel_rfl
  i173 := by kernel_rfl
  i175 := by kernel_rfl
  i210 := by kernel_rfl
  i212 := by kernel_rfl
  i232 := by kernel_rfl
  i233 := by kernel_rfl
  m15 := by kernel_rfl
  m16 := by kernel_rfl
  m17 := by kernel_rfl
  m18 := by kernel_rfl
  m19 := by kernel_rfl
  c0 := by kernel_rfl
  c2 := by kernel_rfl
  c3 := by kernel_rfl
  c4 := by kernel_rfl
  c5 := by kernel_rfl
  c9 := by kernel_rfl
  c20 := by kernel_rfl
  c21 := by kernel_rfl
  c37 := by kernel_rfl
  c46 := by kernel_rfl
  c51 := by kernel_rfl
  c53 := by kernel_rfl
  c75 := by kernel_rfl
  c76 := by kernel_rfl
  c80 := by kernel_rfl
  c85 := by kernel_rfl
  c127 := by kernel_rfl
  c143 := by kernel_rfl
  c145 := by kernel_rfl
  c167 := by kernel_rfl
  c168 := by kernel_rfl
  c171 := by kernel_rfl
  c173 := by kernel_rfl
  c175 := by kernel_rfl
  c210 := by kernel_rfl
  c212 := by kernel_rfl
  c213 := by kernel_rfl
  c232 := by kernel_rfl
  c233 := by kernel_rfl
  }
noncomputable def Tryd.lays171_ren : Go.Shelf.Ren := ⟨fun | 129 => 84 | 171 => 58 | 243 => 65 | 246 => 72 | 283 => 77 | 284 => 78 | 285 => 79 | 286 => 80 | 317 => 83 | 318 => 85 | 319 => 86 | 320 => 87 | 337 => 88 | 338 => 89 | n => n, fun | 0 => 0 | 2 => 2 | 3 => 3 | 4 => 4 | 5 => 5 | 9 => 9 | 20 => 20 | 37 => 112 | 46 => 110 | 51 => 138 | 53 => 119 | 171 => 126 | 173 => 129 | 212 => 137 | 213 => 139 | 232 => 143 | 233 => 144 | n => n, fun | 17 => (Tryd.prog.globals.findIdx? (·.name == "internal/strconv.uint64pow10")).getD 0 | 18 => (Tryd.prog.globals.findIdx? (·.name == "math/bits.deBruijn32tab")).getD 0 | 19 => (Tryd.prog.globals.findIdx? (·.name == "math/bits.deBruijn64tab")).getD 0 | n => n⟩
theorem Tryd.lays171 : Go.Proofs.Lays.n171 Tryd.prog Tryd.lays171_ren := {
  mixed := by kernel_rfl
  f129 := Tryd.func84.trans (congrArg some (by kernel_rfl))
  f171 := Tryd.func58.trans (congrArg some (by kernel_rfl))
  f243 := Tryd.func65.trans (congrArg some (by kernel_rfl))
  f246 := Tryd.func72.trans (congrArg some (by kernel_rfl))
  f283 := Tryd.func77.trans (congrArg some (by kernel_rfl))
  f284 := Tryd.func78.trans (congrArg some (by kernel_rfl))
  f285 := Tryd.func79.trans (congrArg some (by kernel_rfl))
  f286 := Tryd.func80.trans (congrArg some (by kernel_rfl))
  f317 := Tryd.func83.trans (congrArg some (by kernel_rfl))
  f318 := Tryd.func85.trans (congrArg some (by kernel_rfl))
  f319 := Tryd.func86.trans (congrArg some (by kernel_rfl))
  f320 := Tryd.func87.trans (congrArg some (by kernel_rfl))
  f337 := Tryd.func88.trans (congrArg some (by kernel_rfl))
  f338 := Tryd.func89.trans (congrArg some (by kernel_rfl))
  t0 := Tryd.underlying0
  a0 := Tryd.isAgg0
  z0 := Tryd.sizeOf0
  v0 := Tryd.zeroValue0
  t2 := Tryd.underlying2
  a2 := Tryd.isAgg2
  z2 := Tryd.sizeOf2
  v2 := Tryd.zeroValue2
  t3 := Tryd.underlying3
  a3 := Tryd.isAgg3
  z3 := Tryd.sizeOf3
  v3 := Tryd.zeroValue3
  t4 := Tryd.underlying4
  a4 := Tryd.isAgg4
  z4 := Tryd.sizeOf4
  v4 := Tryd.zeroValue4
  t5 := Tryd.underlying5
  a5 := Tryd.isAgg5
  z5 := Tryd.sizeOf5
  v5 := Tryd.zeroValue5
  t9 := Tryd.underlying9
  a9 := Tryd.isAgg9
  z9 := Tryd.sizeOf9
  v9 := Tryd.zeroValue9
  t20 := Tryd.underlying20
  a20 := Tryd.isAgg20
  z20 := Tryd.sizeOf20
  v20 := Tryd.zeroValue20
  t37 := Tryd.underlying112
  a37 := Tryd.isAgg112
  z37 := Tryd.sizeOf112
  v37 := Tryd.zeroValue112
  t46 := Tryd.underlying110
  a46 := Tryd.isAgg110
  z46 := Tryd.sizeOf110
  v46 := Tryd.zeroValue110
  t51 := Tryd.underlying138
  a51 := Tryd.isAgg138
  z51 := Tryd.sizeOf138
  v51 := Tryd.zeroValue138
  t53 := Tryd.underlying119
  a53 := Tryd.isAgg119
  z53 := Tryd.sizeOf119
  v53 := Tryd.zeroValue119
  t171 := Tryd.underlying126
  a171 := Tryd.isAgg126
  z171 := Tryd.sizeOf126
  v171 := Tryd.zeroValue126
  t173 := Tryd.underlying129
  a173 := Tryd.isAgg129
  z173 := Tryd.sizeOf129
  v173 := Tryd.zeroValue129
  t212 := Tryd.underlying137
  a212 := Tryd.isAgg137
  z212 := Tryd.sizeOf137
  v212 := Tryd.zeroValue137
  t213 := Tryd.underlying139
  a213 := Tryd.isAgg139
  z213 := Tryd.sizeOf139
  t232 := Tryd.underlying143
  a232 := Tryd.isAgg143
  z232 := Tryd.sizeOf143
  v232 := Tryd.zeroValue143
  t233 := Tryd.underlying144
  a233 := Tryd.isAgg144
  z233 := Tryd.sizeOf144
  v233 := Tryd.zeroValue144
  g17 := by kernel_rfl
  g18 := by kernel_rfl
  g19 := by kernel_rfl
  }
end Go.Proofs

/-! H2 -/
/-
  Contract of the references' num, at small numbers as they are written.
-/
namespace Go.Proofs.YtembfadhnkabhaaDoor
open Go.AX Go.RF Go.RowKit

set_option maxRecDepth 100000
set_option maxHeartbeats 4000000

theorem numV_ok {s : Str} {v : Int} (h : numV s = some v) : Lib.atoiAll s = .ok v ∧ Lib.itoa v = s := by
  unfold numV at h
  split at h
  · next x hx =>
    split at h
    · next hy => cases h; exact ⟨hx, hy⟩
    · cases h
  · cases h
theorem ok_atoi (s : Str) (v : Int) (hs : s.length ≤ 1073741824) (h : Lib.atoiAll s = .ok v) : FnOk Tryd.prog 57 [.d (dstr s)] (.tup [dint v, .v .nilIface]) := by
  refine ⟨⟨_, Tryd.func57, by kernel_rfl, by kernel_rfl⟩, fun w own vs hown ha => ?_⟩
  match vs, ha with
  | [x], ⟨h1, _⟩ =>
    obtain rfl : x = str s := rd_v h1
    refine (Any.strconv_Atoi_ok Tryd.laysC172 ⟨s.toArray⟩ (by show s.toArray.size ≤ _; simp; omega) v (by simpa using h) w).mono fun e w' he => ?_
    obtain ⟨rfl, hw⟩ := he
    refine ⟨_, rfl, ?_, _, rfl, rfl, fun j c x hj hc => ?_⟩
    · rcases hw with rfl | ⟨t, rfl⟩
      · exact Below.refl _ _
      · exact Lib.bytesWorld_below _ _ _
    · match j, hj, hc with
      | 0, hj, hc => simp at hj hc; subst hj hc; exact Rd.v _
      | 1, hj, hc => simp at hj hc; subst hj hc; exact Rd.v _
      | j + 2, hj, hc => simp at hj
theorem ok_itoaS (i : Nat) (hi : i < 100) : FnOk Tryd.prog 58 [.d (dint i)] (.one (dstr (Lib.itoa i))) := by
  refine ⟨⟨_, Tryd.func58, by kernel_rfl, by kernel_rfl⟩, fun w own vs hown ha => ?_⟩
  match vs, ha with
  | [x], ⟨h1, _⟩ =>
    obtain rfl : x = i64 i := rd_v h1
    refine (Any.strconv_Itoa_small Tryd.lays171 i hi w).mono fun e w' he => ?_
    obtain ⟨rfl, rfl⟩ := he
    refine ⟨_, rfl, Below.refl _ _, ?_⟩
    have hx : Lib.itoa i = Lib.decDigits i := by rw [Lib.itoa, if_neg (by omega)]; rfl
    rw [hx]
    exact Rd.v _
theorem ok_numS (s : Str) (v : Int) (hs : s.length ≤ 1073741824) (h : numV s = some v) (h0 : 0 ≤ v) (h1 : v < 100) : FnOk Tryd.prog 50 [.d (dstr s)] (.tup [dint v, dbool true]) := by
  refine fnOk_of tbl_ok mixed_ok Tryd.func50 rfl (by kernel_rfl) rfl rfl fun w0 own0 => ?_
  obtain ⟨ha, hb⟩ := numV_ok h
  obtain ⟨i, rfl⟩ := Int.eq_ofNat_of_zero_le h0
  have c1 := ok_atoi s i hs ha
  have c2 := ok_itoaS i (by omega)
  rw [hb] at c2
  repeat (first | ((with_reducible apply s1); exact rfl) | (with_reducible first | apply CW.seq | apply CW.block | apply CW.region | apply CW.draw | apply CW.skip | apply CW.exit | apply CW.ret | apply q_then | apply q_then_exit | apply q_then_ret | apply q_block | apply q_block_ret | apply q_block_hit | apply q_ret | apply q_end | apply q_loop_exit | apply q_loop_ret | apply q_loopT_exit | apply q_loopT_ret | apply RW.nil) | ((with_reducible apply s3); exact rfl; exact by_k) | ((with_reducible apply s2); exact rfl; exact by_k) | ((with_reducible apply s4); exact rfl) | ((with_reducible apply s5); (first | (focus ((with_reducible apply a_call); exact c1; exact rfl; (repeat (first | exact SubsE.nil | (apply SubsE.cons; exact rfl; (first | exact .d (.refl _) | exact .d (.nil _) | exact .agg rfl (.refl _) | exact .pd | exact .ptr rfl); (first | exact trivial | exact ⟨rfl, trivial⟩)))); done)) | (focus ((with_reducible apply a_call); exact c2; exact rfl; (repeat (first | exact SubsE.nil | (apply SubsE.cons; exact rfl; (first | exact .d (.refl _) | exact .d (.nil _) | exact .agg rfl (.refl _) | exact .pd | exact .ptr rfl); (first | exact trivial | exact ⟨rfl, trivial⟩)))); done)) | ((with_reducible apply a_noerr); exact rfl; exact Tryd.underlying102; exact rfl) | exact by_oa); exact by_g) | ((with_reducible apply CW.cond_t); exact rfl; exact by_ks) | ((with_reducible apply CW.cond_f); exact rfl; exact by_ks) | ((with_reducible apply q_block_miss); exact rfl) | (refine And.intro (show chk [] [] _ _ = true by kernel_rfl) ?_))
  exact .two (.tmp rfl (.one (.d (.refl _)))) (.tmp rfl (.one (.d (dle_bool (by simp)))))

end Go.Proofs.YtembfadhnkabhaaDoor

/-! H3 -/
/-
  Contract of the references' Parse, at the text of a right deed whose numbers are small.
-/
namespace Go.Proofs.YtembfadhnkabhaaDoor
open Go.AX Go.RF Go.RowKit

set_option maxRecDepth 100000
set_option maxHeartbeats 16000000

theorem splitF_part (sep : Str) : ∀ (n : Nat) (cur r : Str), ∀ p ∈ splitF sep n cur r, p.length ≤ cur.length + r.length
  | 0, cur, r => by simp [splitF]
  | n + 1, cur, r => by
    rw [splitF_succ]
    split
    · simp
    split
    · intro p hp
      rcases List.mem_cons.1 hp with rfl | hp
      · omega
      · have := splitF_part sep n [] _ p hp
        rw [List.length_nil, List.length_drop] at this
        omega
    cases r with
    | nil => simp
    | cons c t =>
      intro p hp
      have := splitF_part sep n _ _ p hp
      simp at this ⊢
      omega
theorem split_part {s sep : Str} {p : Str} (h : p ∈ split s sep) : p.length ≤ s.length := by
  have := splitF_part sep _ _ _ p h
  simpa using this
theorem split_len (s sep : Str) : (split s sep).length ≤ s.length + 1 := splitF_len sep _ _ _

/-- A word's number, if it has one, is small. -/
def smallN (o : Option Int) : Bool := match o with
  | none => true
  | some v => decide (0 ≤ v ∧ v < 100)
def smallS (s : Str) : Bool := (split s [59, 32]).all fun p => (split p [32]).all fun w => smallN (numV w) && smallN (regV w)
theorem smallN_of {o : Option Int} {v : Int} (h : smallN o = true) (hv : o = some v) : 0 ≤ v ∧ v < 100 := by
  subst hv; simpa [smallN] using h

theorem insAll_cons {p : Str} {r : List Str} {l : List Ins} (h : insAll (p :: r) = some l) : ∃ i l', insP (split p [32]) = some i ∧ insAll r = some l' ∧ l = i :: l' := by
  simp only [insAll] at h
  split at h
  · next i l' h1 h2 => cases h; exact ⟨i, l', h1, h2, rfl⟩
  · cases h
theorem insP_some {l : List Str} {i : Ins} (h : insP l = some i) : ∃ w ws, l = w :: ws ∧ kindOf w ≠ 0 ∧ ws.length = (form (kindOf w).toNat).length ∧ fillI ⟨kindOf w, 0, 0, 0, []⟩ (form (kindOf w).toNat) ws = some i := by
  match l, h with
  | [], h => simp [insP] at h
  | w :: ws, h =>
    simp only [insP] at h
    split at h
    · cases h
    · next h1 =>
      split at h
      · next h2 => exact ⟨w, ws, rfl, h1, h2, h⟩
      · cases h
theorem fillI_cons {i i' : Ins} {c : UInt8} {f : Str} {w : Str} {ws : List Str} (h : fillI i (c :: f) (w :: ws) = some i') :
    (c.toNat = 107 ∧ fillI { i with key := w } f ws = some i') ∨ (c.toNat = 110 ∧ ∃ n, numV w = some n ∧ fillI { i with n := n } f ws = some i') ∨
    (c.toNat ≠ 107 ∧ c.toNat ≠ 110 ∧ ∃ r x, w = 114 :: r ∧ numV r = some x ∧ ((c.toNat = 114 ∧ fillI { i with a := x } f ws = some i') ∨ (c.toNat ≠ 114 ∧ fillI { i with b := x } f ws = some i'))) := by
  have hc : ∀ k : UInt8, c = k ↔ c.toNat = k.toNat := fun k => by rw [UInt8.toNat_inj]
  simp only [fillI] at h
  split at h
  · next h1 => exact .inl ⟨(hc _).1 h1, h⟩
  · next h1 =>
    have h1' : c.toNat ≠ 107 := fun e => h1 ((hc 107).2 e)
    split at h
    · next h2 =>
      split at h
      · next n hn => exact .inr (.inl ⟨(hc _).1 h2, n, hn, h⟩)
      · cases h
    · next h2 =>
      have h2' : c.toNat ≠ 110 := fun e => h2 ((hc 110).2 e)
      refine .inr (.inr ⟨h1', h2', ?_⟩)
      split at h
      · next x hx =>
        have : ∃ r, w = 114 :: r ∧ numV r = some x := by
          match w, hx with
          | [], hx => simp [regV] at hx
          | b :: r, hx =>
            by_cases hb : b = 114
            · subst hb; exact ⟨r, rfl, hx⟩
            · unfold regV at hx
              split at hx
              · next r' he => cases he; exact absurd rfl hb
              · cases hx
        obtain ⟨r, h3, h4⟩ := this
        refine ⟨r, x, h3, h4, ?_⟩
        split at h
        · next h5 => exact .inl ⟨(hc _).1 h5, h⟩
        · next h5 => exact .inr ⟨fun e => h5 ((hc 114).2 e), h⟩
      · cases h

/-- What parseD takes apart. -/
theorem parseD_some {s : Str} {d : Deed} (h : parseD s = some d) : s.length ≤ 400 ∧ ∃ p0 p1 ps, split s [59, 32] = p0 :: p1 :: ps ∧ split p0 [32] = [114, 101, 97, 100, 115] :: d.reads ∧ split p1 [32] = [119, 114, 105, 116, 101, 115] :: d.writes ∧ insAll ps = some d.code ∧ wrongDeed d = 0 := by
  unfold parseD at h
  split at h
  · cases h
  · next h0 =>
    refine ⟨by omega, ?_⟩
    split at h
    · next p0 p1 ps h1 =>
      split at h
      · next w0 rs w1 ws code h2 h3 h4 =>
        split at h
        · next h5 =>
          obtain ⟨rfl, rfl, h6⟩ := h5
          cases h
          exact ⟨p0, p1, ps, h1, h2, h3, h4, h6⟩
        · cases h
      · cases h
    · cases h

end Go.Proofs.YtembfadhnkabhaaDoor

/-! H4 -/
/-
  Contract of the references' Parse, at the text of a right deed whose numbers are small.
-/
namespace Go.Proofs.YtembfadhnkabhaaDoor
open Go.AX Go.RF Go.RowKit

set_option maxRecDepth 100000
set_option maxHeartbeats 16000000

theorem ok_parseS (s : Str) (d : Deed) (h : parseD s = some d) (hm : smallS s = true) : FnOk Tryd.prog 30 [.d (dstr s)] (.tup [.agg d.enc, dint 0]) := by
  refine fnOk_of tbl_ok mixed_ok Tryd.func30 rfl (by kernel_rfl) rfl rfl fun w0 own0 => ?_
  obtain ⟨hs, p0, p1, ps, e0, e1, e2, e3, e4⟩ := parseD_some h
  obtain ⟨rs, ws, cd⟩ := d
  dsimp only at e1 e2 e3
  have c1 := ok_split s [59, 32] (by omega) (by simp) (by simp)
  have hsl := split_len s [59, 32]
  have hsp : ∀ p ∈ split s [59, 32], p.length ≤ 400 := fun p hp => Nat.le_trans (split_part hp) hs
  have hsm : ∀ p ∈ split s [59, 32], ∀ w ∈ split p [32], smallN (numV w) = true ∧ smallN (regV w) = true := fun p hp w hw => by
    have := List.all_eq_true.1 (List.all_eq_true.1 hm p hp) w hw
    simpa using this
  generalize hl : split s [59, 32] = l at *
  have h2l : 2 ≤ l.length := by rw [e0]; simp
  repeat (first | ((with_reducible apply stop_at 8); exact rfl) | ((with_reducible apply s1); exact rfl) | (with_reducible first | apply CW.seq | apply CW.block | apply CW.region | apply CW.draw | apply CW.skip | apply CW.exit | apply CW.ret | apply q_then | apply q_then_exit | apply q_then_ret | apply q_block | apply q_block_ret | apply q_block_hit | apply q_ret | apply q_end | apply q_loop_exit | apply q_loop_ret | apply q_loopT_exit | apply q_loopT_ret | apply RW.nil) | ((with_reducible apply s3); exact rfl; exact by_k) | ((with_reducible apply s2); exact rfl; exact by_k) | ((with_reducible apply s4); exact rfl) | ((with_reducible apply s5); (first | (focus ((with_reducible apply a_call); exact c1; exact rfl; (repeat (first | exact SubsE.nil | (apply SubsE.cons; exact rfl; (first | exact .d (.refl _) | exact .d (.nil _) | exact .agg rfl (.refl _) | exact .pd | exact .ptr rfl); (first | exact trivial | exact ⟨rfl, trivial⟩)))); done)) | exact by_oa); exact by_g) | ((with_reducible apply CW.cond_t); exact rfl; exact by_ks) | ((with_reducible apply CW.cond_f); exact rfl; exact by_ks) | ((with_reducible apply q_block_miss); exact rfl) | (refine And.intro (show chk [] [] _ _ = true by kernel_rfl) ?_))
  refine Stop.go (CW.stut (stut_promote_cell (id := 1) (j := 2) 86 5 rfl) ⟨rfl, rfl, trivial⟩ ?_)
  repeat (first | ((with_reducible apply s1); exact rfl) | (with_reducible first | apply CW.seq | apply CW.block | apply CW.region | apply CW.draw | apply CW.skip | apply CW.exit | apply CW.ret | apply q_then | apply q_then_exit | apply q_then_ret | apply q_block | apply q_block_ret | apply q_block_hit | apply q_ret | apply q_end | apply q_loop_exit | apply q_loop_ret | apply q_loopT_exit | apply q_loopT_ret | apply RW.nil) | ((with_reducible apply s3); exact rfl; exact by_k) | ((with_reducible apply s2); exact rfl; exact by_k) | ((with_reducible apply s4); exact rfl) | ((with_reducible apply s5); (first | exact by_oa); exact by_g) | ((with_reducible apply CW.cond_t); exact rfl; exact by_ks) | ((with_reducible apply CW.cond_f); exact rfl; exact by_ks) | ((with_reducible apply q_block_miss); exact rfl) | (refine And.intro (show chk [] [] _ _ = true by kernel_rfl) ?_))
  refine CW.loopT (fun t : Nat × D × D × List Ins => [sp 2 0, ob 0 [.v nilS, .v nilS, .v nilS], sp 6 1, (.o 1, .ob (.box [.d t.2.1, .d t.2.2.1, .own 2 t.2.2.2.length])), oa 2 86 5 (t.2.2.2.map Ins.enc), sd 36 (encStrs l), sd 37 (dint l.length), sd 38 (dint t.1), nxt 3])
    (fun t => t.1 ≤ l.length ∧ (1 ≤ t.1 → t.2.1 = encStrs rs) ∧ (2 ≤ t.1 → t.2.2.1 = encStrs ws) ∧ t.2.2.2.length ≤ t.1 ∧ ∃ rest, insAll (l.drop (max t.1 2)) = some rest ∧ t.2.2.2 ++ rest = cd) (fun t => l.length - t.1) (0, .v nilS, .v nilS, [])
    ⟨by dsimp only; omega, fun h => by dsimp only at h; omega, fun h => by dsimp only at h; omega, by simp, cd, by rw [e0]; exact e3, rfl⟩ ?_ ?_
  ·
    exact by_less
  · rintro ⟨x, R, W, code⟩ ⟨hx, hR, hW, hc, rest, hr, hcd⟩
    dsimp only at hx hR hW hc hr hcd ⊢
    rcases drop_case hx with ⟨h1, h2⟩ | ⟨p, h1, h2, h3⟩
    · rw [show max x 2 = x by omega, h1] at hr
      cases hr
      rw [List.append_nil] at hcd
      obtain rfl := hR (by omega)
      obtain rfl := hW (by omega)
      subst hcd
      have hrs : ∀ k ∈ rs, k.length ≤ 400 := fun k hk => Nat.le_trans (split_part (s := p0) (sep := [32]) (by rw [e1]; exact List.mem_cons_of_mem _ hk)) (hsp p0 (by rw [e0]; simp))
      have hws : ∀ k ∈ ws, k.length ≤ 400 := fun k hk => Nat.le_trans (split_part (s := p1) (sep := [32]) (by rw [e2]; exact List.mem_cons_of_mem _ hk)) (hsp p1 (by rw [e0]; simp))
      have hrl : rs.length ≤ 400 := by have := split_len p0 [32]; rw [e1] at this; have := hsp p0 (by rw [e0]; simp); simp at *; omega
      have hwl : ws.length ≤ 400 := by have := split_len p1 [32]; rw [e2] at this; have := hsp p1 (by rw [e0]; simp); simp at *; omega
      have cw := ok_wrongDeed ⟨rs, ws, code⟩ (by dsimp only; omega) (by dsimp only; omega) (by dsimp only; omega) (fun k hk => by have := hrs k hk; omega) (fun k hk => by have := hws k hk; omega)
      rw [e4] at cw
      repeat (first | ((with_reducible apply stop_at 52); exact rfl) | ((with_reducible apply s1); exact rfl) | (with_reducible first | apply CW.seq | apply CW.block | apply CW.region | apply CW.draw | apply CW.skip | apply CW.exit | apply CW.ret | apply q_then | apply q_then_exit | apply q_then_ret | apply q_block | apply q_block_ret | apply q_block_hit | apply q_ret | apply q_end | apply q_loop_exit | apply q_loop_ret | apply q_loopT_exit | apply q_loopT_ret | apply RW.nil) | ((with_reducible apply s3); exact rfl; exact by_k) | ((with_reducible apply s2); exact rfl; exact by_k) | ((with_reducible apply s4); exact rfl) | ((with_reducible apply s5); (first | exact by_oa); exact by_g) | ((with_reducible apply CW.cond_t); exact rfl; exact by_ks) | ((with_reducible apply CW.cond_f); exact rfl; exact by_ks) | ((with_reducible apply q_block_miss); exact rfl) | (refine And.intro (show chk [] [] _ _ = true by kernel_rfl) ?_))
      refine Stop.go (CW.stut (stut_freeze_cell (id := 1) (j := 2) (i := 2) rfl (by simp)) ⟨rfl, rfl, trivial⟩ ?_)
      repeat (first | ((with_reducible apply s1); exact rfl) | (with_reducible first | apply CW.seq | apply CW.block | apply CW.region | apply CW.draw | apply CW.skip | apply CW.exit | apply CW.ret | apply q_then | apply q_then_exit | apply q_then_ret | apply q_block | apply q_block_ret | apply q_block_hit | apply q_ret | apply q_end | apply q_loop_exit | apply q_loop_ret | apply q_loopT_exit | apply q_loopT_ret | apply RW.nil) | ((with_reducible apply s3); exact rfl; exact by_k) | ((with_reducible apply s2); exact rfl; exact by_k) | ((with_reducible apply s4); exact rfl) | ((with_reducible apply s5); (first | (focus ((with_reducible apply a_call); exact cw; exact rfl; (repeat (first | exact SubsE.nil | (apply SubsE.cons; exact rfl; (first | exact .d (.refl _) | exact .d (.nil _) | exact .agg rfl (.refl _) | exact .pd | exact .ptr rfl); (first | exact trivial | exact ⟨rfl, trivial⟩)))); done)) | exact by_oa); exact by_g) | ((with_reducible apply CW.cond_t); exact rfl; exact by_ks) | ((with_reducible apply CW.cond_f); exact rfl; exact by_ks) | ((with_reducible apply q_block_miss); exact rfl) | (refine And.intro (show chk [] [] _ _ = true by kernel_rfl) ?_))
      exact .two (.cell rfl rfl rfl rfl (.aggd rfl (.refl _))) (.tmp rfl (.one (.d (.refl _))))
    · have hp : p ∈ l := List.mem_of_getElem? h2
      have hpl := hsp p hp
      have c2 := ok_split p [32] (by omega) (by simp) (by simp)
      by_cases hx0 : x = 0
      · subst hx0
        have h2' := h2
        rw [e0] at h2
        obtain rfl : p0 = p := by simpa using h2
        rw [e1] at c2
        have hrl : rs.length ≤ 400 := by have := split_len p0 [32]; rw [e1] at this; simp at *; omega
        have hw0 : (([114, 101, 97, 100, 115] : Str) :: rs)[0]? = some [114, 101, 97, 100, 115] := rfl
        have hn0 : ([[114, 101, 97, 100, 115], [119, 114, 105, 116, 101, 115]] : List Str)[0]? = some [114, 101, 97, 100, 115] := rfl
        repeat (first | ((with_reducible apply s5); ((with_reducible apply a_bs (([[114, 101, 97, 100, 115], [119, 114, 105, 116, 101, 115]] : List Str).map encStr1)); (iterate 9 exact rfl); (repeat (first | exact PartsE.nil | (apply PartsE.cons; exact rfl; exact rfl)))); exact by_g) | ((with_reducible apply s1); exact rfl) | (with_reducible first | apply CW.seq | apply CW.block | apply CW.region | apply CW.draw | apply CW.skip | apply CW.exit | apply CW.ret | apply q_then | apply q_then_exit | apply q_then_ret | apply q_block | apply q_block_ret | apply q_block_hit | apply q_ret | apply q_end | apply q_loop_exit | apply q_loop_ret | apply q_loopT_exit | apply q_loopT_ret | apply RW.nil) | ((with_reducible apply s3); exact rfl; exact by_k) | ((with_reducible apply s2); exact rfl; exact by_k) | ((with_reducible apply s4); exact rfl) | ((with_reducible apply s5); (first | (focus ((with_reducible apply a_call); exact c2; exact rfl; (repeat (first | exact SubsE.nil | (apply SubsE.cons; exact rfl; (first | exact .d (.refl _) | exact .d (.nil _) | exact .agg rfl (.refl _) | exact .pd | exact .ptr rfl); (first | exact trivial | exact ⟨rfl, trivial⟩)))); done)) | exact by_oa); exact by_g) | ((with_reducible apply CW.cond_t); exact rfl; exact by_ks) | ((with_reducible apply CW.cond_f); exact rfl; exact by_ks) | ((with_reducible apply q_block_miss); exact rfl) | (refine And.intro (show chk [] [] _ _ = true by kernel_rfl) ?_))
        refine q_loopT (1, encStrs rs, W, code) ⟨by dsimp only; omega, fun _ => rfl, fun h => by dsimp only at h; omega, by dsimp only; omega, rest, hr, hcd⟩ (by dsimp only; omega) ?_
        exact by_less
      by_cases hx1 : x = 1
      · subst hx1
        have h2' := h2
        rw [e0] at h2
        obtain rfl : p1 = p := by simpa using h2
        rw [e2] at c2
        have hwl : ws.length ≤ 400 := by have := split_len p1 [32]; rw [e2] at this; simp at *; omega
        have hw0 : (([119, 114, 105, 116, 101, 115] : Str) :: ws)[0]? = some [119, 114, 105, 116, 101, 115] := rfl
        have hn0 : ([[114, 101, 97, 100, 115], [119, 114, 105, 116, 101, 115]] : List Str)[1]? = some [119, 114, 105, 116, 101, 115] := rfl
        repeat (first | ((with_reducible apply s5); ((with_reducible apply a_bs (([[114, 101, 97, 100, 115], [119, 114, 105, 116, 101, 115]] : List Str).map encStr1)); (iterate 9 exact rfl); (repeat (first | exact PartsE.nil | (apply PartsE.cons; exact rfl; exact rfl)))); exact by_g) | ((with_reducible apply s1); exact rfl) | (with_reducible first | apply CW.seq | apply CW.block | apply CW.region | apply CW.draw | apply CW.skip | apply CW.exit | apply CW.ret | apply q_then | apply q_then_exit | apply q_then_ret | apply q_block | apply q_block_ret | apply q_block_hit | apply q_ret | apply q_end | apply q_loop_exit | apply q_loop_ret | apply q_loopT_exit | apply q_loopT_ret | apply RW.nil) | ((with_reducible apply s3); exact rfl; exact by_k) | ((with_reducible apply s2); exact rfl; exact by_k) | ((with_reducible apply s4); exact rfl) | ((with_reducible apply s5); (first | (focus ((with_reducible apply a_call); exact c2; exact rfl; (repeat (first | exact SubsE.nil | (apply SubsE.cons; exact rfl; (first | exact .d (.refl _) | exact .d (.nil _) | exact .agg rfl (.refl _) | exact .pd | exact .ptr rfl); (first | exact trivial | exact ⟨rfl, trivial⟩)))); done)) | exact by_oa); exact by_g) | ((with_reducible apply CW.cond_t); exact rfl; exact by_ks) | ((with_reducible apply CW.cond_f); exact rfl; exact by_ks) | ((with_reducible apply q_block_miss); exact rfl) | (refine And.intro (show chk [] [] _ _ = true by kernel_rfl) ?_))
        refine q_loopT (2, R, encStrs ws, code) ⟨by dsimp only; omega, fun _ => hR (by omega), fun _ => rfl, by dsimp only; omega, rest, hr, hcd⟩ (by dsimp only; omega) ?_
        exact by_less
      rw [show max x 2 = x by omega, h1] at hr
      obtain ⟨i1, rest', hi, hr', rfl⟩ := insAll_cons hr
      have hsw := hsm p hp
      generalize hwds : split p [32] = wds at *
      obtain ⟨w, wz, rfl, hk0, hlen, hfi⟩ := insP_some hi
      have hwl : wz.length ≤ 400 := by have := split_len p [32]; rw [hwds] at this; simp at *; omega
      have cw := ok_words
      have hw0 : (w :: wz)[0]? = some w := rfl
      repeat (first | ((with_reducible apply s1); exact rfl) | (with_reducible first | apply CW.seq | apply CW.block | apply CW.region | apply CW.draw | apply CW.skip | apply CW.exit | apply CW.ret | apply q_then | apply q_then_exit | apply q_then_ret | apply q_block | apply q_block_ret | apply q_block_hit | apply q_ret | apply q_end | apply q_loop_exit | apply q_loop_ret | apply q_loopT_exit | apply q_loopT_ret | apply RW.nil) | ((with_reducible apply s3); exact rfl; exact by_k) | ((with_reducible apply s2); exact rfl; exact by_k) | ((with_reducible apply s4); exact rfl) | ((with_reducible apply s5); (first | (focus ((with_reducible apply a_call); exact c2; exact rfl; (repeat (first | exact SubsE.nil | (apply SubsE.cons; exact rfl; (first | exact .d (.refl _) | exact .d (.nil _) | exact .agg rfl (.refl _) | exact .pd | exact .ptr rfl); (first | exact trivial | exact ⟨rfl, trivial⟩)))); done)) | (focus ((with_reducible apply a_call); exact cw; exact rfl; (repeat (first | exact SubsE.nil | (apply SubsE.cons; exact rfl; (first | exact .d (.refl _) | exact .d (.nil _) | exact .agg rfl (.refl _) | exact .pd | exact .ptr rfl); (first | exact trivial | exact ⟨rfl, trivial⟩)))); done)) | exact by_oa); exact by_g) | ((with_reducible apply CW.cond_t); exact rfl; exact by_ks) | ((with_reducible apply CW.cond_f); exact rfl; exact by_ks) | ((with_reducible apply q_block_miss); exact rfl) | (refine And.intro (show chk [] [] _ _ = true by kernel_rfl) ?_))
      refine CW.loopT (fun t : Nat × Int => [sp 2 0, ob 0 [.v nilS, .v nilS, .v nilS], sp 6 1, (.o 1, .ob (.box [.d R, .d W, .own 2 code.length])), oa 2 86 5 (code.map Ins.enc), sd 36 (encStrs l), sd 37 (dint l.length), sd 38 (dint x),
          sd 9 (encStrs (w :: wz)), sp 10 3, ob 3 [dint t.2, dint 0, dint 0, dint 0, dstr []], sd 68 (encStrs words), sd 69 (dint words.length), sd 70 (dint t.1), nxt 4])
        (fun t => t.1 ≤ words.length ∧ 0 ≤ t.2 ∧ t.2 < 10 ∧ kindGo w t.1 t.2 (words.drop t.1) = kindOf w) (fun t => words.length - t.1) (0, 0) ⟨by dsimp only; omega, by dsimp only; omega, by dsimp only; omega, rfl⟩ ?_ ?_
      ·
        exact by_less
      · rintro ⟨y, k⟩ ⟨hy, hk1, hk2, hK⟩
        dsimp only at hy hk1 hk2 hK ⊢
        have hwn : words.length = 10 := rfl
        rcases drop_case hy with ⟨g1, g2⟩ | ⟨u, g1, g2, g3⟩
        · rw [g1, kindGo] at hK
          subst hK
          obtain ⟨K, hKe⟩ := Int.eq_ofNat_of_zero_le hk1
          rw [hKe] at hlen hfi hk0 hk2 ⊢
          rw [Int.toNat_natCast] at hlen hfi
          have cf := ok_form K (by omega)
          have hfl := form_len K
          generalize form K = f at *
          repeat (first | ((with_reducible apply s1); exact rfl) | (with_reducible first | apply CW.seq | apply CW.block | apply CW.region | apply CW.draw | apply CW.skip | apply CW.exit | apply CW.ret | apply q_then | apply q_then_exit | apply q_then_ret | apply q_block | apply q_block_ret | apply q_block_hit | apply q_ret | apply q_end | apply q_loop_exit | apply q_loop_ret | apply q_loopT_exit | apply q_loopT_ret | apply RW.nil) | ((with_reducible apply s3); exact rfl; exact by_k) | ((with_reducible apply s2); exact rfl; exact by_k) | ((with_reducible apply s4); exact rfl) | ((with_reducible apply s5); (first | (focus ((with_reducible apply a_call); exact cf; exact rfl; (repeat (first | exact SubsE.nil | (apply SubsE.cons; exact rfl; (first | exact .d (.refl _) | exact .d (.nil _) | exact .agg rfl (.refl _) | exact .pd | exact .ptr rfl); (first | exact trivial | exact ⟨rfl, trivial⟩)))); done)) | exact by_oa); exact by_g) | ((with_reducible apply CW.cond_t); exact rfl; exact by_ks) | ((with_reducible apply CW.cond_f); exact rfl; exact by_ks) | ((with_reducible apply q_block_miss); exact rfl) | (refine And.intro (show chk [] [] _ _ = true by kernel_rfl) ?_))
          refine CW.loopT (fun t : Nat × Ins => [sp 2 0, ob 0 [.v nilS, .v nilS, .v nilS], sp 6 1, (.o 1, .ob (.box [.d R, .d W, .own 2 code.length])), oa 2 86 5 (code.map Ins.enc), sd 36 (encStrs l), sd 37 (dint l.length), sd 38 (dint x),
              sd 9 (encStrs (w :: wz)), sp 10 3, ob 3 t.2.enc, sd 13 (dstr f), sd 107 (dstr f), sd 108 (dint f.length), sd 109 (dint t.1), nxt 4])
            (fun t => t.1 ≤ f.length ∧ fillI t.2 (f.drop t.1) (wz.drop t.1) = some i1) (fun t => f.length - t.1) (0, ⟨K, 0, 0, 0, []⟩) ⟨by dsimp only; omega, hfi⟩ ?_ ?_
          ·
            exact by_less
          · rintro ⟨j, i⟩ ⟨hj, hI⟩
            dsimp only at hj hI ⊢
            rcases drop_case hj with ⟨b1, b2⟩ | ⟨c, b1, b2, b3⟩
            · rw [b1, fillI] at hI
              cases hI
              repeat (first | ((with_reducible apply s1); exact rfl) | (with_reducible first | apply CW.seq | apply CW.block | apply CW.region | apply CW.draw | apply CW.skip | apply CW.exit | apply CW.ret | apply q_then | apply q_then_exit | apply q_then_ret | apply q_block | apply q_block_ret | apply q_block_hit | apply q_ret | apply q_end | apply q_loop_exit | apply q_loop_ret | apply q_loopT_exit | apply q_loopT_ret | apply RW.nil) | ((with_reducible apply s3); exact rfl; exact by_k) | ((with_reducible apply s2); exact rfl; exact by_k) | ((with_reducible apply s4); exact rfl) | ((with_reducible apply s5); (first | exact by_oa); exact by_g) | ((with_reducible apply CW.cond_t); exact rfl; exact by_ks) | ((with_reducible apply CW.cond_f); exact rfl; exact by_ks) | ((with_reducible apply q_block_miss); exact rfl) | (refine And.intro (show chk [] [] _ _ = true by kernel_rfl) ?_))
              refine q_loopT (x + 1, R, W, code ++ [i1]) ⟨by dsimp only; omega, fun _ => hR (by omega), fun _ => hW (by omega), by dsimp only; simp; omega, rest', by dsimp only; rw [show max (x + 1) 2 = x + 1 by omega]; exact hr', by dsimp only; rw [← hcd]; simp⟩ (by dsimp only; omega) ?_
              exact by_less
            · have hwj : j < wz.length := by omega
              have hwa : (w :: wz)[j + 1]? = some wz[j] := by simp [List.getElem?_eq_getElem hwj]
              rw [b1, List.drop_eq_getElem_cons hwj] at hI
              have hsj := hsw wz[j] (List.mem_cons_of_mem _ (List.getElem_mem hwj))
              have hwjl : wz[j].length ≤ 400 := Nat.le_trans (split_part (s := p) (sep := [32]) (by rw [hwds]; exact List.mem_cons_of_mem _ (List.getElem_mem hwj))) hpl
              generalize wz[j] = u at hwa hI hsj hwjl
              rcases fillI_cons hI with ⟨q1, q2⟩ | ⟨q1, n, q2, q3⟩ | ⟨q1, q2, r, n, rfl, q3, q4⟩
              ·
                repeat (first | ((with_reducible apply s1); exact rfl) | (with_reducible first | apply CW.seq | apply CW.block | apply CW.region | apply CW.draw | apply CW.skip | apply CW.exit | apply CW.ret | apply q_then | apply q_then_exit | apply q_then_ret | apply q_block | apply q_block_ret | apply q_block_hit | apply q_ret | apply q_end | apply q_loop_exit | apply q_loop_ret | apply q_loopT_exit | apply q_loopT_ret | apply RW.nil) | ((with_reducible apply s3); exact rfl; exact by_k) | ((with_reducible apply s2); exact rfl; exact by_k) | ((with_reducible apply s4); exact rfl) | ((with_reducible apply s5); (first | exact by_oa); exact by_g) | ((with_reducible apply CW.cond_t); exact rfl; exact by_ks) | ((with_reducible apply CW.cond_f); exact rfl; exact by_ks) | ((with_reducible apply q_block_miss); exact rfl) | (refine And.intro (show chk [] [] _ _ = true by kernel_rfl) ?_))
                refine q_loopT (j + 1, { i with key := u }) ⟨by dsimp only; omega, q2⟩ (by dsimp only; omega) ?_
                exact by_less
              · have hn := smallN_of hsj.1 q2
                have cn := ok_numS u n (by omega) q2 hn.1 hn.2
                repeat (first | ((with_reducible apply s1); exact rfl) | (with_reducible first | apply CW.seq | apply CW.block | apply CW.region | apply CW.draw | apply CW.skip | apply CW.exit | apply CW.ret | apply q_then | apply q_then_exit | apply q_then_ret | apply q_block | apply q_block_ret | apply q_block_hit | apply q_ret | apply q_end | apply q_loop_exit | apply q_loop_ret | apply q_loopT_exit | apply q_loopT_ret | apply RW.nil) | ((with_reducible apply s3); exact rfl; exact by_k) | ((with_reducible apply s2); exact rfl; exact by_k) | ((with_reducible apply s4); exact rfl) | ((with_reducible apply s5); (first | (focus ((with_reducible apply a_call); exact cn; exact rfl; (repeat (first | exact SubsE.nil | (apply SubsE.cons; exact rfl; (first | exact .d (.refl _) | exact .d (.nil _) | exact .agg rfl (.refl _) | exact .pd | exact .ptr rfl); (first | exact trivial | exact ⟨rfl, trivial⟩)))); done)) | exact by_oa); exact by_g) | ((with_reducible apply CW.cond_t); exact rfl; exact by_ks) | ((with_reducible apply CW.cond_f); exact rfl; exact by_ks) | ((with_reducible apply q_block_miss); exact rfl) | (refine And.intro (show chk [] [] _ _ = true by kernel_rfl) ?_))
                refine q_loopT (j + 1, { i with n := n }) ⟨by dsimp only; omega, q3⟩ (by dsimp only; omega) ?_
                exact by_less
              · have hn := smallN_of hsj.2 (show regV (114 :: r) = some n from q3)
                have cn := ok_numS r n (by simp at hwjl; omega) q3 hn.1 hn.2
                have hu0 : (114 :: r : Str)[0]? = some 114 := rfl
                rcases q4 with ⟨q4, q5⟩ | ⟨q4, q5⟩
                ·
                  repeat (first | ((with_reducible apply s1); exact rfl) | (with_reducible first | apply CW.seq | apply CW.block | apply CW.region | apply CW.draw | apply CW.skip | apply CW.exit | apply CW.ret | apply q_then | apply q_then_exit | apply q_then_ret | apply q_block | apply q_block_ret | apply q_block_hit | apply q_ret | apply q_end | apply q_loop_exit | apply q_loop_ret | apply q_loopT_exit | apply q_loopT_ret | apply RW.nil) | ((with_reducible apply s3); exact rfl; exact by_k) | ((with_reducible apply s2); exact rfl; exact by_k) | ((with_reducible apply s4); exact rfl) | ((with_reducible apply s5); (first | (focus ((with_reducible apply a_call); exact cn; exact rfl; (repeat (first | exact SubsE.nil | (apply SubsE.cons; exact rfl; (first | exact .d (.refl _) | exact .d (.nil _) | exact .agg rfl (.refl _) | exact .pd | exact .ptr rfl); (first | exact trivial | exact ⟨rfl, trivial⟩)))); done)) | ((with_reducible apply (a_is (k := 0))); (iterate 5 exact rfl); exact rfl) | ((with_reducible apply (a_subF (l := 1))); (iterate 5 exact rfl); exact Nat.succ_le_succ (Nat.zero_le _)) | exact by_oa); exact by_g) | ((with_reducible apply CW.cond_t); exact rfl; exact by_ks) | ((with_reducible apply CW.cond_f); exact rfl; exact by_ks) | ((with_reducible apply q_block_miss); exact rfl) | (refine And.intro (show chk [] [] _ _ = true by kernel_rfl) ?_))
                  refine q_loopT (j + 1, { i with a := n }) ⟨by dsimp only; omega, q5⟩ (by dsimp only; omega) ?_
                  exact by_less
                ·
                  repeat (first | ((with_reducible apply s1); exact rfl) | (with_reducible first | apply CW.seq | apply CW.block | apply CW.region | apply CW.draw | apply CW.skip | apply CW.exit | apply CW.ret | apply q_then | apply q_then_exit | apply q_then_ret | apply q_block | apply q_block_ret | apply q_block_hit | apply q_ret | apply q_end | apply q_loop_exit | apply q_loop_ret | apply q_loopT_exit | apply q_loopT_ret | apply RW.nil) | ((with_reducible apply s3); exact rfl; exact by_k) | ((with_reducible apply s2); exact rfl; exact by_k) | ((with_reducible apply s4); exact rfl) | ((with_reducible apply s5); (first | (focus ((with_reducible apply a_call); exact cn; exact rfl; (repeat (first | exact SubsE.nil | (apply SubsE.cons; exact rfl; (first | exact .d (.refl _) | exact .d (.nil _) | exact .agg rfl (.refl _) | exact .pd | exact .ptr rfl); (first | exact trivial | exact ⟨rfl, trivial⟩)))); done)) | ((with_reducible apply (a_is (k := 0))); (iterate 5 exact rfl); exact rfl) | ((with_reducible apply (a_subF (l := 1))); (iterate 5 exact rfl); exact Nat.succ_le_succ (Nat.zero_le _)) | exact by_oa); exact by_g) | ((with_reducible apply CW.cond_t); exact rfl; exact by_ks) | ((with_reducible apply CW.cond_f); exact rfl; exact by_ks) | ((with_reducible apply q_block_miss); exact rfl) | (refine And.intro (show chk [] [] _ _ = true by kernel_rfl) ?_))
                  refine q_loopT (j + 1, { i with b := n }) ⟨by dsimp only; omega, q5⟩ (by dsimp only; omega) ?_
                  exact by_less
        · rw [g1, kindGo] at hK
          by_cases hy0 : 0 < y
          · by_cases hu : u = w
            · rw [if_pos ⟨hy0, hu⟩] at hK
              repeat (first | ((with_reducible apply s1); exact rfl) | (with_reducible first | apply CW.seq | apply CW.block | apply CW.region | apply CW.draw | apply CW.skip | apply CW.exit | apply CW.ret | apply q_then | apply q_then_exit | apply q_then_ret | apply q_block | apply q_block_ret | apply q_block_hit | apply q_ret | apply q_end | apply q_loop_exit | apply q_loop_ret | apply q_loopT_exit | apply q_loopT_ret | apply RW.nil) | ((with_reducible apply s3); exact rfl; exact by_k) | ((with_reducible apply s2); exact rfl; exact by_k) | ((with_reducible apply s4); exact rfl) | ((with_reducible apply s5); (first | exact by_oa); exact by_g) | ((with_reducible apply CW.cond_t); exact rfl; exact by_ks) | ((with_reducible apply CW.cond_f); exact rfl; exact by_ks) | ((with_reducible apply q_block_miss); exact rfl) | (refine And.intro (show chk [] [] _ _ = true by kernel_rfl) ?_))
              refine q_loopT (y + 1, (y : Int)) ⟨by dsimp only; omega, by dsimp only; omega, by dsimp only; omega, hK⟩ (by dsimp only; omega) ?_
              exact by_less
            · rw [if_neg (fun h => hu h.2)] at hK
              repeat (first | ((with_reducible apply s1); exact rfl) | (with_reducible first | apply CW.seq | apply CW.block | apply CW.region | apply CW.draw | apply CW.skip | apply CW.exit | apply CW.ret | apply q_then | apply q_then_exit | apply q_then_ret | apply q_block | apply q_block_ret | apply q_block_hit | apply q_ret | apply q_end | apply q_loop_exit | apply q_loop_ret | apply q_loopT_exit | apply q_loopT_ret | apply RW.nil) | ((with_reducible apply s3); exact rfl; exact by_k) | ((with_reducible apply s2); exact rfl; exact by_k) | ((with_reducible apply s4); exact rfl) | ((with_reducible apply s5); (first | exact by_oa); exact by_g) | ((with_reducible apply CW.cond_t); exact rfl; exact by_ks) | ((with_reducible apply CW.cond_f); exact rfl; exact by_ks) | ((with_reducible apply q_block_miss); exact rfl) | (refine And.intro (show chk [] [] _ _ = true by kernel_rfl) ?_))
              refine q_loopT (y + 1, k) ⟨by dsimp only; omega, by dsimp only; omega, by dsimp only; omega, hK⟩ (by dsimp only; omega) ?_
              exact by_less
          · rw [if_neg (fun h => hy0 h.1)] at hK
            repeat (first | ((with_reducible apply s1); exact rfl) | (with_reducible first | apply CW.seq | apply CW.block | apply CW.region | apply CW.draw | apply CW.skip | apply CW.exit | apply CW.ret | apply q_then | apply q_then_exit | apply q_then_ret | apply q_block | apply q_block_ret | apply q_block_hit | apply q_ret | apply q_end | apply q_loop_exit | apply q_loop_ret | apply q_loopT_exit | apply q_loopT_ret | apply RW.nil) | ((with_reducible apply s3); exact rfl; exact by_k) | ((with_reducible apply s2); exact rfl; exact by_k) | ((with_reducible apply s4); exact rfl) | ((with_reducible apply s5); (first | exact by_oa); exact by_g) | ((with_reducible apply CW.cond_t); exact rfl; exact by_ks) | ((with_reducible apply CW.cond_f); exact rfl; exact by_ks) | ((with_reducible apply q_block_miss); exact rfl) | (refine And.intro (show chk [] [] _ _ = true by kernel_rfl) ?_))
            refine q_loopT (y + 1, k) ⟨by dsimp only; omega, by dsimp only; omega, by dsimp only; omega, hK⟩ (by dsimp only; omega) ?_
            exact by_less

end Go.Proofs.YtembfadhnkabhaaDoor

/-! H5 -/
/-
  Texts of deeds that laws ask first.
-/
namespace Go.Proofs.YtembfadhnkabhaaDoor
open Go.AX Go.RF

/-- 'reads; writes a; const r0 4; store r0 a' -/
def tA : Str := [114, 101, 97, 100, 115, 59, 32, 119, 114, 105, 116, 101, 115, 32, 97, 59, 32, 99, 111, 110, 115, 116, 32, 114, 48, 32, 52, 59, 32, 115, 116, 111, 114, 101, 32, 114, 48, 32, 97]
def dA : Deed := ⟨[], [[97]], [⟨2, 0, 0, 4, []⟩, ⟨6, 0, 0, 0, [97]⟩]⟩
theorem pA : parseD tA = some dA := by decide +kernel
theorem sA : smallS tA = true := by decide +kernel
/-- 'reads; writes a; drop a' -/
def tC : Str := [114, 101, 97, 100, 115, 59, 32, 119, 114, 105, 116, 101, 115, 32, 97, 59, 32, 100, 114, 111, 112, 32, 97]
def dC : Deed := ⟨[], [[97]], [⟨7, 0, 0, 0, [97]⟩]⟩
theorem pC : parseD tC = some dC := by decide +kernel
theorem sC : smallS tC = true := by decide +kernel
/-- 'reads; writes b' -/
def tD : Str := [114, 101, 97, 100, 115, 59, 32, 119, 114, 105, 116, 101, 115, 32, 98]
def dD : Deed := ⟨[], [[98]], []⟩
theorem pD : parseD tD = some dD := by decide +kernel
theorem sD : smallS tD = true := by decide +kernel
end Go.Proofs.YtembfadhnkabhaaDoor

/-! G7 -/
/-
  Contracts of the program's Rows of chains, Seen, Clear of engines.
-/
namespace Go.Proofs.YtembfadhnkabhaaDoor
open Go.AX Go.RF

set_option maxRecDepth 100000
set_option maxHeartbeats 4000000

theorem ok_prows (l : List Chain) (b : Int) (hl : l.length ≤ 268435456) (hv : ∀ c ∈ l, c.vs.length ≤ 268435456) (hs : Srt Chain.key l) : FnOk Tryd.prog 26 [.d (encChains l), .d (dint b)] (.tup [encRows (rowsAt l b).1, dbool (rowsAt l b).2]) := by
  refine fnOk_of tbl_ok mixed_ok Tryd.func26 rfl (by kernel_rfl) rfl rfl fun w0 own0 => ?_
  repeat (first | ((with_reducible apply s1); exact rfl) | (with_reducible first | apply CW.seq | apply CW.block | apply CW.region | apply CW.draw | apply CW.skip | apply CW.exit | apply CW.ret | apply q_then | apply q_then_exit | apply q_then_ret | apply q_block | apply q_block_ret | apply q_block_hit | apply q_ret | apply q_end | apply q_loop_exit | apply q_loop_ret | apply q_loopT_exit | apply q_loopT_ret | apply RW.nil) | ((with_reducible apply s3); exact rfl; exact by_k) | ((with_reducible apply s2); exact rfl; exact by_k) | ((with_reducible apply s4); exact rfl) | ((with_reducible apply s5); (first | exact by_oa); exact by_g) | ((with_reducible apply CW.cond_t); exact rfl; exact by_ks) | ((with_reducible apply CW.cond_f); exact rfl; exact by_ks) | ((with_reducible apply q_block_miss); exact rfl) | (refine And.intro (show chk [] [] _ _ = true by kernel_rfl) ?_))
  refine CW.stut (stut_promote (i := 6) 47 2) ⟨rfl, rfl, trivial⟩ ?_
  refine CW.loopT (fun t : Nat × List Pair => [(.s 0, .av (.d (encChains l))), (.s 1, .av (.d (dint b))), (.s 6, .av (.own 0 t.2.length)), (.o 0, .ob (.arr 47 2 (t.2.map Pair.enc))), (.s 10, .av (.d (encChains l))), (.s 11, .av (.d (dint l.length))), (.s 12, .av (.d (dint t.1))), (.nx, .num 1)])
    (fun t => t.1 ≤ l.length ∧ t.2.length ≤ t.1 ∧ rowsAtGo l b t.2 (l.drop t.1) = rowsAt l b) (fun t => l.length - t.1) (0, []) ⟨by omega, by simp, rfl⟩ ?_ ?_
  ·
    exact by_less
  · rintro ⟨i, out⟩ ⟨hi, ho, hI⟩
    dsimp only at hi ho hI ⊢
    rcases drop_case hi with ⟨h1, h2⟩ | ⟨c, h1, h2, h3⟩
    · rw [h1] at hI
      simp only [rowsAtGo] at hI
      repeat (first | ((with_reducible apply s1); exact rfl) | (with_reducible first | apply CW.seq | apply CW.block | apply CW.region | apply CW.draw | apply CW.skip | apply CW.exit | apply CW.ret | apply q_then | apply q_then_exit | apply q_then_ret | apply q_block | apply q_block_ret | apply q_block_hit | apply q_ret | apply q_end | apply q_loop_exit | apply q_loop_ret | apply q_loopT_exit | apply q_loopT_ret | apply RW.nil) | ((with_reducible apply s3); exact rfl; exact by_k) | ((with_reducible apply s2); exact rfl; exact by_k) | ((with_reducible apply s4); exact rfl) | ((with_reducible apply s5); (first | exact by_oa); exact by_g) | ((with_reducible apply CW.cond_t); exact rfl; exact by_ks) | ((with_reducible apply CW.cond_f); exact rfl; exact by_ks) | ((with_reducible apply q_block_miss); exact rfl) | (refine And.intro (show chk [] [] _ _ = true by kernel_rfl) ?_))
      rw [← hI]
      exact .two (.tmp rfl (.one (.own rfl (by simp) (.refl _)))) (.tmp rfl (.one (.d (.refl _))))
    · rw [h1] at hI
      simp only [rowsAtGo] at hI
      have hc := ok_pbefore l c.key b hl hv hs
      generalize before l c.key b = v at hc hI
      obtain ⟨vb, vm, vh, vn⟩ := v
      dsimp only at hI
      cases vm
      · rw [if_pos rfl] at hI
        repeat (first | ((with_reducible apply s1); exact rfl) | (with_reducible first | apply CW.seq | apply CW.block | apply CW.region | apply CW.draw | apply CW.skip | apply CW.exit | apply CW.ret | apply q_then | apply q_then_exit | apply q_then_ret | apply q_block | apply q_block_ret | apply q_block_hit | apply q_ret | apply q_end | apply q_loop_exit | apply q_loop_ret | apply q_loopT_exit | apply q_loopT_ret | apply RW.nil) | ((with_reducible apply s3); exact rfl; exact by_k) | ((with_reducible apply s2); exact rfl; exact by_k) | ((with_reducible apply s4); exact rfl) | ((with_reducible apply s5); (first | (focus ((with_reducible apply a_call); exact hc; exact rfl; (repeat (first | exact SubsE.nil | (apply SubsE.cons; exact rfl; (first | exact .d (.refl _) | exact .d (.nil _) | exact .agg rfl (.refl _) | exact .pd | exact .ptr rfl); (first | exact trivial | exact ⟨rfl, trivial⟩)))); done)) | exact by_oa); exact by_g) | ((with_reducible apply CW.cond_t); exact rfl; exact by_ks) | ((with_reducible apply CW.cond_f); exact rfl; exact by_ks) | ((with_reducible apply q_block_miss); exact rfl) | (refine And.intro (show chk [] [] _ _ = true by kernel_rfl) ?_))
        rw [← hI]
        exact .two (.tmp rfl (.one (.d (.nil 2)))) (.tmp rfl (.one (.d (.refl _))))
      · rw [if_neg (by simp)] at hI
        cases vh
        · rw [if_neg (by simp)] at hI
          repeat (first | ((with_reducible apply s1); exact rfl) | (with_reducible first | apply CW.seq | apply CW.block | apply CW.region | apply CW.draw | apply CW.skip | apply CW.exit | apply CW.ret | apply q_then | apply q_then_exit | apply q_then_ret | apply q_block | apply q_block_ret | apply q_block_hit | apply q_ret | apply q_end | apply q_loop_exit | apply q_loop_ret | apply q_loopT_exit | apply q_loopT_ret | apply RW.nil) | ((with_reducible apply s3); exact rfl; exact by_k) | ((with_reducible apply s2); exact rfl; exact by_k) | ((with_reducible apply s4); exact rfl) | ((with_reducible apply s5); (first | (focus ((with_reducible apply a_call); exact hc; exact rfl; (repeat (first | exact SubsE.nil | (apply SubsE.cons; exact rfl; (first | exact .d (.refl _) | exact .d (.nil _) | exact .agg rfl (.refl _) | exact .pd | exact .ptr rfl); (first | exact trivial | exact ⟨rfl, trivial⟩)))); done)) | exact by_oa); exact by_g) | ((with_reducible apply CW.cond_t); exact rfl; exact by_ks) | ((with_reducible apply CW.cond_f); exact rfl; exact by_ks) | ((with_reducible apply q_block_miss); exact rfl) | (refine And.intro (show chk [] [] _ _ = true by kernel_rfl) ?_))
          refine q_loopT (i + 1, out) ⟨by dsimp only; omega, by dsimp only; omega, hI⟩ (by dsimp only; omega) ?_
          exact by_less
        · rw [if_pos rfl] at hI
          repeat (first | ((with_reducible apply s1); exact rfl) | (with_reducible first | apply CW.seq | apply CW.block | apply CW.region | apply CW.draw | apply CW.skip | apply CW.exit | apply CW.ret | apply q_then | apply q_then_exit | apply q_then_ret | apply q_block | apply q_block_ret | apply q_block_hit | apply q_ret | apply q_end | apply q_loop_exit | apply q_loop_ret | apply q_loopT_exit | apply q_loopT_ret | apply RW.nil) | ((with_reducible apply s3); exact rfl; exact by_k) | ((with_reducible apply s2); exact rfl; exact by_k) | ((with_reducible apply s4); exact rfl) | ((with_reducible apply s5); (first | (focus ((with_reducible apply a_call); exact hc; exact rfl; (repeat (first | exact SubsE.nil | (apply SubsE.cons; exact rfl; (first | exact .d (.refl _) | exact .d (.nil _) | exact .agg rfl (.refl _) | exact .pd | exact .ptr rfl); (first | exact trivial | exact ⟨rfl, trivial⟩)))); done)) | exact by_oa); exact by_g) | ((with_reducible apply CW.cond_t); exact rfl; exact by_ks) | ((with_reducible apply CW.cond_f); exact rfl; exact by_ks) | ((with_reducible apply q_block_miss); exact rfl) | (refine And.intro (show chk [] [] _ _ = true by kernel_rfl) ?_))
          refine q_loopT (i + 1, _) ⟨by dsimp only; omega, by dsimp only; simp; omega, hI⟩ (by dsimp only; omega) ?_
          exact by_less

theorem ok_pseen (e : Engine) (at_ : Int) (hs : e.Sm) (hk : Srt Chain.key e.chains) : FnOk Tryd.prog 13 [.d (.agg e.enc), .d (dint at_)] (.tup [encRows (seenE e at_).1, dint (seenE e at_).2]) := by
  refine fnOk_of tbl_ok mixed_ok Tryd.func13 rfl (by kernel_rfl) rfl rfl fun w0 own0 => ?_
  have hd := hs.d
  have hb := hs.b
  have hc := ok_prows e.chains (e.base + at_) (by have := hs.c; omega) (fun c h => by have := hs.v c h; omega) hk
  unfold seenE
  by_cases h1 : at_ < 0
  · rw [if_pos (.inl h1)]
    repeat (first | ((with_reducible apply s1); exact rfl) | (with_reducible first | apply CW.seq | apply CW.block | apply CW.region | apply CW.draw | apply CW.skip | apply CW.exit | apply CW.ret | apply q_then | apply q_then_exit | apply q_then_ret | apply q_block | apply q_block_ret | apply q_block_hit | apply q_ret | apply q_end | apply q_loop_exit | apply q_loop_ret | apply q_loopT_exit | apply q_loopT_ret | apply RW.nil) | ((with_reducible apply s3); exact rfl; exact by_k) | ((with_reducible apply s2); exact rfl; exact by_k) | ((with_reducible apply s4); exact rfl) | ((with_reducible apply s5); (first | exact by_oa); exact by_g) | ((with_reducible apply CW.cond_t); exact rfl; exact by_ks) | ((with_reducible apply CW.cond_f); exact rfl; exact by_ks) | ((with_reducible apply q_block_miss); exact rfl) | (refine And.intro (show chk [] [] _ _ = true by kernel_rfl) ?_))
    exact .two (.tmp rfl (.one (.d (.nil 2)))) (.tmp rfl (.one (.d (.refl _))))
  · by_cases h2 : (e.deeds.length : Int) < at_
    · rw [if_pos (.inr h2)]
      repeat (first | ((with_reducible apply s1); exact rfl) | (with_reducible first | apply CW.seq | apply CW.block | apply CW.region | apply CW.draw | apply CW.skip | apply CW.exit | apply CW.ret | apply q_then | apply q_then_exit | apply q_then_ret | apply q_block | apply q_block_ret | apply q_block_hit | apply q_ret | apply q_end | apply q_loop_exit | apply q_loop_ret | apply q_loopT_exit | apply q_loopT_ret | apply RW.nil) | ((with_reducible apply s3); exact rfl; exact by_k) | ((with_reducible apply s2); exact rfl; exact by_k) | ((with_reducible apply s4); exact rfl) | ((with_reducible apply s5); (first | exact by_oa); exact by_g) | ((with_reducible apply CW.cond_t); exact rfl; exact by_ks) | ((with_reducible apply CW.cond_f); exact rfl; exact by_ks) | ((with_reducible apply q_block_miss); exact rfl) | (refine And.intro (show chk [] [] _ _ = true by kernel_rfl) ?_))
      exact .two (.tmp rfl (.one (.d (.nil 2)))) (.tmp rfl (.one (.d (.refl _))))
    · rw [if_neg (by omega)]
      cases h3 : (rowsAt e.chains (e.base + at_)).2
      · rw [if_neg (by simp)]
        rw [h3] at hc
        repeat (first | ((with_reducible apply s1); exact rfl) | (with_reducible first | apply CW.seq | apply CW.block | apply CW.region | apply CW.draw | apply CW.skip | apply CW.exit | apply CW.ret | apply q_then | apply q_then_exit | apply q_then_ret | apply q_block | apply q_block_ret | apply q_block_hit | apply q_ret | apply q_end | apply q_loop_exit | apply q_loop_ret | apply q_loopT_exit | apply q_loopT_ret | apply RW.nil) | ((with_reducible apply s3); exact rfl; exact by_k) | ((with_reducible apply s2); exact rfl; exact by_k) | ((with_reducible apply s4); exact rfl) | ((with_reducible apply s5); (first | (focus ((with_reducible apply a_call); exact hc; exact rfl; (repeat (first | exact SubsE.nil | (apply SubsE.cons; exact rfl; (first | exact .d (.refl _) | exact .d (.nil _) | exact .agg rfl (.refl _) | exact .pd | exact .ptr rfl); (first | exact trivial | exact ⟨rfl, trivial⟩)))); done)) | exact by_oa); exact by_g) | ((with_reducible apply CW.cond_t); exact rfl; exact by_ks) | ((with_reducible apply CW.cond_f); exact rfl; exact by_ks) | ((with_reducible apply q_block_miss); exact rfl) | (refine And.intro (show chk [] [] _ _ = true by kernel_rfl) ?_))
        exact .two (.tmp rfl (.one (.d (.nil 2)))) (.tmp rfl (.one (.d (.refl _))))
      · rw [if_pos rfl]
        rw [h3] at hc
        repeat (first | ((with_reducible apply s1); exact rfl) | (with_reducible first | apply CW.seq | apply CW.block | apply CW.region | apply CW.draw | apply CW.skip | apply CW.exit | apply CW.ret | apply q_then | apply q_then_exit | apply q_then_ret | apply q_block | apply q_block_ret | apply q_block_hit | apply q_ret | apply q_end | apply q_loop_exit | apply q_loop_ret | apply q_loopT_exit | apply q_loopT_ret | apply RW.nil) | ((with_reducible apply s3); exact rfl; exact by_k) | ((with_reducible apply s2); exact rfl; exact by_k) | ((with_reducible apply s4); exact rfl) | ((with_reducible apply s5); (first | (focus ((with_reducible apply a_call); exact hc; exact rfl; (repeat (first | exact SubsE.nil | (apply SubsE.cons; exact rfl; (first | exact .d (.refl _) | exact .d (.nil _) | exact .agg rfl (.refl _) | exact .pd | exact .ptr rfl); (first | exact trivial | exact ⟨rfl, trivial⟩)))); done)) | exact by_oa); exact by_g) | ((with_reducible apply CW.cond_t); exact rfl; exact by_ks) | ((with_reducible apply CW.cond_f); exact rfl; exact by_ks) | ((with_reducible apply q_block_miss); exact rfl) | (refine And.intro (show chk [] [] _ _ = true by kernel_rfl) ?_))
        exact .two (.tmp rfl (.one (.d (.refl _)))) (.tmp rfl (.one (.d (.refl _))))

def pclearE (e : Engine) : Engine := ⟨pclear (e.base + markN e.state) e.chains, e.deeds.drop (markN e.state), e.state.drop (markN e.state), e.ends.drop (markN e.state), e.base + markN e.state⟩

theorem ok_pclearE (e : Engine) (hs : e.Sm) (h1 : e.state.length = e.deeds.length) (h2 : e.ends.length = e.deeds.length) : FnOk Tryd.prog 8 [.d (.agg e.enc)] (.one (.agg (pclearE e).enc)) := by
  refine fnOk_of tbl_ok mixed_ok Tryd.func8 rfl (by kernel_rfl) rfl rfl fun w0 own0 => ?_
  have ho := ok_planOwn e hs
  have hm := ok_tmark e hs.s
  have hml := markN_le e.state
  have hd := hs.d
  have hb := hs.b
  have hc := ok_pclear e.chains (e.base + markN e.state) (by have := hs.c; omega) (fun c h => by have := hs.v c h; omega)
  repeat (first | ((with_reducible apply s1); exact rfl) | (with_reducible first | apply CW.seq | apply CW.block | apply CW.region | apply CW.draw | apply CW.skip | apply CW.exit | apply CW.ret | apply q_then | apply q_then_exit | apply q_then_ret | apply q_block | apply q_block_ret | apply q_block_hit | apply q_ret | apply q_end | apply q_loop_exit | apply q_loop_ret | apply q_loopT_exit | apply q_loopT_ret | apply RW.nil) | ((with_reducible apply s3); exact rfl; exact by_k) | ((with_reducible apply s2); exact rfl; exact by_k) | ((with_reducible apply s4); exact rfl) | ((with_reducible apply s5); (first | (focus ((with_reducible apply a_call); exact ho; exact rfl; (repeat (first | exact SubsE.nil | (apply SubsE.cons; exact rfl; (first | exact .d (.refl _) | exact .d (.nil _) | exact .agg rfl (.refl _) | exact .pd | exact .ptr rfl); (first | exact trivial | exact ⟨rfl, trivial⟩)))); done)) | (focus ((with_reducible apply a_call); exact hm; exact rfl; (repeat (first | exact SubsE.nil | (apply SubsE.cons; exact rfl; (first | exact .d (.refl _) | exact .d (.nil _) | exact .agg rfl (.refl _) | exact .pd | exact .ptr rfl); (first | exact trivial | exact ⟨rfl, trivial⟩)))); done)) | (focus ((with_reducible apply a_call); exact hc; exact rfl; (repeat (first | exact SubsE.nil | (apply SubsE.cons; exact rfl; (first | exact .d (.refl _) | exact .d (.nil _) | exact .agg rfl (.refl _) | exact .pd | exact .ptr rfl); (first | exact trivial | exact ⟨rfl, trivial⟩)))); done)) | exact by_oa); exact by_g) | ((with_reducible apply CW.cond_t); exact rfl; exact by_ks) | ((with_reducible apply CW.cond_f); exact rfl; exact by_ks) | ((with_reducible apply q_block_miss); exact rfl) | (refine And.intro (show chk [] [] _ _ = true by kernel_rfl) ?_))
  exact .one (.cell rfl rfl rfl rfl (.aggd (ds := [encChains (pclear (e.base + markN e.state) e.chains), .sl 3 ((e.deeds.map Deed.enc).drop (markN e.state)), .sl 1 ((e.state.map encInt1).drop (markN e.state)), .sl 5 ((e.ends.map Done.enc).drop (markN e.state)), dint (e.base + markN e.state)]) rfl
    (dle_eq (by simp [pclearE, Engine.enc, encDeeds, encInts, encEnds]))))

end Go.Proofs.YtembfadhnkabhaaDoor

/-! F4 -/
/-
  Contract of the references' WrongRows.
-/
namespace Go.Proofs.YtembfadhnkabhaaDoor
open Go.AX Go.RF

set_option maxRecDepth 100000
set_option maxHeartbeats 4000000

theorem ok_wrongRows (l : List Pair) (hl : l.length ≤ 268435456) (hk : ∀ p ∈ l, p.key.length ≤ 1073741824) : FnOk Tryd.prog 6 [.d (encRows l)] (.one (dint (wrongRows l))) := by
  refine fnOk_of tbl_ok mixed_ok Tryd.func6 rfl (by kernel_rfl) rfl rfl fun w0 own0 => ?_
  repeat (first | ((with_reducible apply s1); exact rfl) | (with_reducible first | apply CW.seq | apply CW.block | apply CW.region | apply CW.draw | apply CW.skip | apply CW.exit | apply CW.ret | apply q_then | apply q_then_exit | apply q_then_ret | apply q_block | apply q_block_ret | apply q_block_hit | apply q_ret | apply q_end | apply q_loop_exit | apply q_loop_ret | apply q_loopT_exit | apply q_loopT_ret | apply RW.nil) | ((with_reducible apply s3); exact rfl; exact by_k) | ((with_reducible apply s2); exact rfl; exact by_k) | ((with_reducible apply s4); exact rfl) | ((with_reducible apply s5); (first | exact by_oa); exact by_g) | ((with_reducible apply CW.cond_t); exact rfl; exact by_ks) | ((with_reducible apply CW.cond_f); exact rfl; exact by_ks) | ((with_reducible apply q_block_miss); exact rfl) | (refine And.intro (show chk [] [] _ _ = true by kernel_rfl) ?_))
  refine CW.loopT (fun t : Nat × Str => [(.s 3, .av (.d (dstr t.2))), (.s 6, .av (.d (encRows l))), (.s 7, .av (.d (dint l.length))), (.s 8, .av (.d (dint t.1))), (.nx, .num 0)])
    (fun t => t.1 ≤ l.length ∧ wrongRowsGo t.1 t.2 (l.drop t.1) = wrongRows l) (fun t => l.length - t.1) (0, []) ⟨by omega, rfl⟩ ?_ ?_
  ·
    exact by_less
  · rintro ⟨i, last⟩ ⟨hi, hI⟩
    dsimp only at hi hI ⊢
    rcases drop_case hi with ⟨h1, h2⟩ | ⟨p, h1, h2, h3⟩
    · rw [h1] at hI
      simp only [wrongRowsGo] at hI
      repeat (first | ((with_reducible apply s1); exact rfl) | (with_reducible first | apply CW.seq | apply CW.block | apply CW.region | apply CW.draw | apply CW.skip | apply CW.exit | apply CW.ret | apply q_then | apply q_then_exit | apply q_then_ret | apply q_block | apply q_block_ret | apply q_block_hit | apply q_ret | apply q_end | apply q_loop_exit | apply q_loop_ret | apply q_loopT_exit | apply q_loopT_ret | apply RW.nil) | ((with_reducible apply s3); exact rfl; exact by_k) | ((with_reducible apply s2); exact rfl; exact by_k) | ((with_reducible apply s4); exact rfl) | ((with_reducible apply s5); (first | exact by_oa); exact by_g) | ((with_reducible apply CW.cond_t); exact rfl; exact by_ks) | ((with_reducible apply CW.cond_f); exact rfl; exact by_ks) | ((with_reducible apply q_block_miss); exact rfl) | (refine And.intro (show chk [] [] _ _ = true by kernel_rfl) ?_))
      exact .one (.tmp rfl (.one (.d (dle_int hI))))
    · rw [h1] at hI
      simp only [wrongRowsGo] at hI
      have hc := ok_key p.key (hk p (List.mem_of_getElem? h2))
      cases h4 : key p.key
      · rw [if_pos h4] at hI
        repeat (first | ((with_reducible apply s1); exact rfl) | (with_reducible first | apply CW.seq | apply CW.block | apply CW.region | apply CW.draw | apply CW.skip | apply CW.exit | apply CW.ret | apply q_then | apply q_then_exit | apply q_then_ret | apply q_block | apply q_block_ret | apply q_block_hit | apply q_ret | apply q_end | apply q_loop_exit | apply q_loop_ret | apply q_loopT_exit | apply q_loopT_ret | apply RW.nil) | ((with_reducible apply s3); exact rfl; exact by_k) | ((with_reducible apply s2); exact rfl; exact by_k) | ((with_reducible apply s4); exact rfl) | ((with_reducible apply s5); (first | (focus ((with_reducible apply a_call); exact hc; exact rfl; (repeat (first | exact SubsE.nil | (apply SubsE.cons; exact rfl; (first | exact .d (.refl _) | exact .d (.nil _) | exact .agg rfl (.refl _) | exact .pd | exact .ptr rfl); (first | exact trivial | exact ⟨rfl, trivial⟩)))); done)) | exact by_oa); exact by_g) | ((with_reducible apply CW.cond_t); exact rfl; exact by_ks) | ((with_reducible apply CW.cond_f); exact rfl; exact by_ks) | ((with_reducible apply q_block_miss); exact rfl) | (refine And.intro (show chk [] [] _ _ = true by kernel_rfl) ?_))
        exact .one (.tmp rfl (.one (.d (dle_int hI))))
      · rw [if_neg (by simp [h4])] at hI
        by_cases h5 : 0 < i
        · cases h6 : sle p.key last
          · rw [if_neg (by simp [h6])] at hI
            have h6' : (Go.Op.bytesLess p.key last || decide (p.key = last)) = false := h6
            by_cases h7 : 1073741824 < p.n
            · rw [if_pos (.inl h7)] at hI
              repeat (first | ((with_reducible apply s1); exact rfl) | (with_reducible first | apply CW.seq | apply CW.block | apply CW.region | apply CW.draw | apply CW.skip | apply CW.exit | apply CW.ret | apply q_then | apply q_then_exit | apply q_then_ret | apply q_block | apply q_block_ret | apply q_block_hit | apply q_ret | apply q_end | apply q_loop_exit | apply q_loop_ret | apply q_loopT_exit | apply q_loopT_ret | apply RW.nil) | ((with_reducible apply s3); exact rfl; exact by_k) | ((with_reducible apply s2); exact rfl; exact by_k) | ((with_reducible apply s4); exact rfl) | ((with_reducible apply s5); (first | (focus ((with_reducible apply a_call); exact hc; exact rfl; (repeat (first | exact SubsE.nil | (apply SubsE.cons; exact rfl; (first | exact .d (.refl _) | exact .d (.nil _) | exact .agg rfl (.refl _) | exact .pd | exact .ptr rfl); (first | exact trivial | exact ⟨rfl, trivial⟩)))); done)) | exact by_oa); exact by_g) | ((with_reducible apply CW.cond_t); exact rfl; exact by_ks) | ((with_reducible apply CW.cond_f); exact rfl; exact by_ks) | ((with_reducible apply q_block_miss); exact rfl) | (refine And.intro (show chk [] [] _ _ = true by kernel_rfl) ?_))
              exact .one (.tmp rfl (.one (.d (dle_int hI))))
            · by_cases h8 : p.n < -1073741824
              · rw [if_pos (.inr h8)] at hI
                repeat (first | ((with_reducible apply s1); exact rfl) | (with_reducible first | apply CW.seq | apply CW.block | apply CW.region | apply CW.draw | apply CW.skip | apply CW.exit | apply CW.ret | apply q_then | apply q_then_exit | apply q_then_ret | apply q_block | apply q_block_ret | apply q_block_hit | apply q_ret | apply q_end | apply q_loop_exit | apply q_loop_ret | apply q_loopT_exit | apply q_loopT_ret | apply RW.nil) | ((with_reducible apply s3); exact rfl; exact by_k) | ((with_reducible apply s2); exact rfl; exact by_k) | ((with_reducible apply s4); exact rfl) | ((with_reducible apply s5); (first | (focus ((with_reducible apply a_call); exact hc; exact rfl; (repeat (first | exact SubsE.nil | (apply SubsE.cons; exact rfl; (first | exact .d (.refl _) | exact .d (.nil _) | exact .agg rfl (.refl _) | exact .pd | exact .ptr rfl); (first | exact trivial | exact ⟨rfl, trivial⟩)))); done)) | exact by_oa); exact by_g) | ((with_reducible apply CW.cond_t); exact rfl; exact by_ks) | ((with_reducible apply CW.cond_f); exact rfl; exact by_ks) | ((with_reducible apply q_block_miss); exact rfl) | (refine And.intro (show chk [] [] _ _ = true by kernel_rfl) ?_))
                exact .one (.tmp rfl (.one (.d (dle_int hI))))
              · rw [if_neg (by omega)] at hI
                repeat (first | ((with_reducible apply s1); exact rfl) | (with_reducible first | apply CW.seq | apply CW.block | apply CW.region | apply CW.draw | apply CW.skip | apply CW.exit | apply CW.ret | apply q_then | apply q_then_exit | apply q_then_ret | apply q_block | apply q_block_ret | apply q_block_hit | apply q_ret | apply q_end | apply q_loop_exit | apply q_loop_ret | apply q_loopT_exit | apply q_loopT_ret | apply RW.nil) | ((with_reducible apply s3); exact rfl; exact by_k) | ((with_reducible apply s2); exact rfl; exact by_k) | ((with_reducible apply s4); exact rfl) | ((with_reducible apply s5); (first | (focus ((with_reducible apply a_call); exact hc; exact rfl; (repeat (first | exact SubsE.nil | (apply SubsE.cons; exact rfl; (first | exact .d (.refl _) | exact .d (.nil _) | exact .agg rfl (.refl _) | exact .pd | exact .ptr rfl); (first | exact trivial | exact ⟨rfl, trivial⟩)))); done)) | exact by_oa); exact by_g) | ((with_reducible apply CW.cond_t); exact rfl; exact by_ks) | ((with_reducible apply CW.cond_f); exact rfl; exact by_ks) | ((with_reducible apply q_block_miss); exact rfl) | (refine And.intro (show chk [] [] _ _ = true by kernel_rfl) ?_))
                refine q_loopT (i + 1, _) ⟨by omega, hI⟩ (by dsimp only; omega) ?_
                exact by_less
          · rw [if_pos ⟨h5, h6⟩] at hI
            have h6' : (Go.Op.bytesLess p.key last || decide (p.key = last)) = true := h6
            repeat (first | ((with_reducible apply s1); exact rfl) | (with_reducible first | apply CW.seq | apply CW.block | apply CW.region | apply CW.draw | apply CW.skip | apply CW.exit | apply CW.ret | apply q_then | apply q_then_exit | apply q_then_ret | apply q_block | apply q_block_ret | apply q_block_hit | apply q_ret | apply q_end | apply q_loop_exit | apply q_loop_ret | apply q_loopT_exit | apply q_loopT_ret | apply RW.nil) | ((with_reducible apply s3); exact rfl; exact by_k) | ((with_reducible apply s2); exact rfl; exact by_k) | ((with_reducible apply s4); exact rfl) | ((with_reducible apply s5); (first | (focus ((with_reducible apply a_call); exact hc; exact rfl; (repeat (first | exact SubsE.nil | (apply SubsE.cons; exact rfl; (first | exact .d (.refl _) | exact .d (.nil _) | exact .agg rfl (.refl _) | exact .pd | exact .ptr rfl); (first | exact trivial | exact ⟨rfl, trivial⟩)))); done)) | exact by_oa); exact by_g) | ((with_reducible apply CW.cond_t); exact rfl; exact by_ks) | ((with_reducible apply CW.cond_f); exact rfl; exact by_ks) | ((with_reducible apply q_block_miss); exact rfl) | (refine And.intro (show chk [] [] _ _ = true by kernel_rfl) ?_))
            exact .one (.tmp rfl (.one (.d (dle_int hI))))
        · rw [if_neg (by simp; omega)] at hI
          by_cases h7 : 1073741824 < p.n
          · rw [if_pos (.inl h7)] at hI
            repeat (first | ((with_reducible apply s1); exact rfl) | (with_reducible first | apply CW.seq | apply CW.block | apply CW.region | apply CW.draw | apply CW.skip | apply CW.exit | apply CW.ret | apply q_then | apply q_then_exit | apply q_then_ret | apply q_block | apply q_block_ret | apply q_block_hit | apply q_ret | apply q_end | apply q_loop_exit | apply q_loop_ret | apply q_loopT_exit | apply q_loopT_ret | apply RW.nil) | ((with_reducible apply s3); exact rfl; exact by_k) | ((with_reducible apply s2); exact rfl; exact by_k) | ((with_reducible apply s4); exact rfl) | ((with_reducible apply s5); (first | (focus ((with_reducible apply a_call); exact hc; exact rfl; (repeat (first | exact SubsE.nil | (apply SubsE.cons; exact rfl; (first | exact .d (.refl _) | exact .d (.nil _) | exact .agg rfl (.refl _) | exact .pd | exact .ptr rfl); (first | exact trivial | exact ⟨rfl, trivial⟩)))); done)) | exact by_oa); exact by_g) | ((with_reducible apply CW.cond_t); exact rfl; exact by_ks) | ((with_reducible apply CW.cond_f); exact rfl; exact by_ks) | ((with_reducible apply q_block_miss); exact rfl) | (refine And.intro (show chk [] [] _ _ = true by kernel_rfl) ?_))
            exact .one (.tmp rfl (.one (.d (dle_int hI))))
          · by_cases h8 : p.n < -1073741824
            · rw [if_pos (.inr h8)] at hI
              repeat (first | ((with_reducible apply s1); exact rfl) | (with_reducible first | apply CW.seq | apply CW.block | apply CW.region | apply CW.draw | apply CW.skip | apply CW.exit | apply CW.ret | apply q_then | apply q_then_exit | apply q_then_ret | apply q_block | apply q_block_ret | apply q_block_hit | apply q_ret | apply q_end | apply q_loop_exit | apply q_loop_ret | apply q_loopT_exit | apply q_loopT_ret | apply RW.nil) | ((with_reducible apply s3); exact rfl; exact by_k) | ((with_reducible apply s2); exact rfl; exact by_k) | ((with_reducible apply s4); exact rfl) | ((with_reducible apply s5); (first | (focus ((with_reducible apply a_call); exact hc; exact rfl; (repeat (first | exact SubsE.nil | (apply SubsE.cons; exact rfl; (first | exact .d (.refl _) | exact .d (.nil _) | exact .agg rfl (.refl _) | exact .pd | exact .ptr rfl); (first | exact trivial | exact ⟨rfl, trivial⟩)))); done)) | exact by_oa); exact by_g) | ((with_reducible apply CW.cond_t); exact rfl; exact by_ks) | ((with_reducible apply CW.cond_f); exact rfl; exact by_ks) | ((with_reducible apply q_block_miss); exact rfl) | (refine And.intro (show chk [] [] _ _ = true by kernel_rfl) ?_))
              exact .one (.tmp rfl (.one (.d (dle_int hI))))
            · rw [if_neg (by omega)] at hI
              repeat (first | ((with_reducible apply s1); exact rfl) | (with_reducible first | apply CW.seq | apply CW.block | apply CW.region | apply CW.draw | apply CW.skip | apply CW.exit | apply CW.ret | apply q_then | apply q_then_exit | apply q_then_ret | apply q_block | apply q_block_ret | apply q_block_hit | apply q_ret | apply q_end | apply q_loop_exit | apply q_loop_ret | apply q_loopT_exit | apply q_loopT_ret | apply RW.nil) | ((with_reducible apply s3); exact rfl; exact by_k) | ((with_reducible apply s2); exact rfl; exact by_k) | ((with_reducible apply s4); exact rfl) | ((with_reducible apply s5); (first | (focus ((with_reducible apply a_call); exact hc; exact rfl; (repeat (first | exact SubsE.nil | (apply SubsE.cons; exact rfl; (first | exact .d (.refl _) | exact .d (.nil _) | exact .agg rfl (.refl _) | exact .pd | exact .ptr rfl); (first | exact trivial | exact ⟨rfl, trivial⟩)))); done)) | exact by_oa); exact by_g) | ((with_reducible apply CW.cond_t); exact rfl; exact by_ks) | ((with_reducible apply CW.cond_f); exact rfl; exact by_ks) | ((with_reducible apply q_block_miss); exact rfl) | (refine And.intro (show chk [] [] _ _ = true by kernel_rfl) ?_))
              refine q_loopT (i + 1, _) ⟨by omega, hI⟩ (by dsimp only; omega) ?_
              exact by_less

end Go.Proofs.YtembfadhnkabhaaDoor

/-! L1 -/
/-
  The law TidyTells answers true of whatever data.
-/
namespace Go.Proofs.YtembfadhnkabhaaDoor
open Go.AX Go.RF

set_option maxRecDepth 100000
set_option maxHeartbeats 8000000

theorem pclearE_eq {e : Engine} (h : SInv e) : pclearE e = clearE e := by
  unfold pclearE clearE
  rw [pclear_eq h.v]

theorem sumLen_eq (bs : List (List Deed)) : sumLen bs = (bs.map List.length).sum := by
  induction bs with
  | nil => rfl
  | cons b bs ih => simp [sumLen, ih]
end Go.Proofs.YtembfadhnkabhaaDoor

/-! L11 -/
/-
  The laws TidySame and TidyAll answer true of whatever data.
-/
namespace Go.Proofs.YtembfadhnkabhaaDoor
open Go.AX Go.RF

set_option maxRecDepth 100000
set_option maxHeartbeats 8000000

theorem ok_read8 (s : Str) (d : Deed) (h : parseD s = some d) (hm : smallS s = true) : FnOk Tryd.prog 19 [.d (dstr s)] (.one (.agg d.enc)) := by
  refine fnOk_of tbl_ok mixed_ok Tryd.func19 rfl (by kernel_rfl) rfl rfl fun w0 own0 => ?_
  have c1 := ok_parseS s d h hm
  repeat (first | ((with_reducible apply s1); exact rfl) | (with_reducible first | apply CW.seq | apply CW.block | apply CW.region | apply CW.draw | apply CW.skip | apply CW.exit | apply CW.ret | apply q_then | apply q_then_exit | apply q_then_ret | apply q_block | apply q_block_ret | apply q_block_hit | apply q_ret | apply q_end | apply q_loop_exit | apply q_loop_ret | apply q_loopT_exit | apply q_loopT_ret | apply RW.nil) | ((with_reducible apply s3); exact rfl; exact by_k) | ((with_reducible apply s2); exact rfl; exact by_k) | ((with_reducible apply s4); exact rfl) | ((with_reducible apply s5); (first | (focus ((with_reducible apply a_call); exact c1; exact rfl; (repeat (first | exact SubsE.nil | (apply SubsE.cons; exact rfl; (first | exact .d (.refl _) | exact .d (.nil _) | exact .agg rfl (.refl _) | exact .pd | exact .ptr rfl); (first | exact trivial | exact ⟨rfl, trivial⟩)))); done)) | exact by_oa); exact by_g) | ((with_reducible apply CW.cond_t); exact rfl; exact by_ks) | ((with_reducible apply CW.cond_f); exact rfl; exact by_ks) | ((with_reducible apply q_block_miss); exact rfl) | (refine And.intro (show chk [] [] _ _ = true by kernel_rfl) ?_))
  exact .one (.cell rfl rfl rfl rfl (.aggd rfl (.refl _)))

def r8 : List Pair := [⟨[98], 1⟩]
def l8 : List Deed := [dA, dC, dD]
theorem e8_add : (addE (newE r8) l8).2 = 0 := by decide +kernel
theorem x8_mark : markN (goE (addE (newE r8) l8).1 0).1.state = 1 := by decide +kernel
theorem x8_seen : (seenE (goE (addE (newE r8) l8).1 0).1 1).1.length = 2 ∧ (seenE (goE (addE (newE r8) l8).1 0).1 1).2 = 0 := by decide +kernel
theorem x8_wait : (seenE (goE (addE (newE r8) l8).1 0).1 3).2 = 10 := by decide +kernel
theorem x8_size : sizeGo 0 (goE (addE (newE r8) l8).1 0).1.chains = 4 := by decide +kernel
theorem y8_base : (clearE (goE (addE (newE r8) l8).1 0).1).base = 1 ∧ (clearE (goE (addE (newE r8) l8).1 0).1).deeds.length = 2 := by decide +kernel
theorem y8_size : sizeGo 0 (clearE (goE (addE (newE r8) l8).1 0).1).chains = 4 := by decide +kernel
theorem l8_sm : ∀ d ∈ l8, d.Sm := by
  intro d hd
  simp [l8] at hd
  rcases hd with rfl | rfl | rfl <;> constructor <;> simp [dA, dC, dD]

theorem ok_alive8 : FnOk Tryd.prog 5 [] (.one (dbool true)) := by
  refine fnOk_of tbl_ok mixed_ok Tryd.func5 rfl (by kernel_rfl) rfl rfl fun w0 own0 => ?_
  have r1 := ok_read8 tA dA pA sA
  have r2 := ok_read8 tC dC pC sC
  have r3 := ok_read8 tD dD pD sD
  have hok : rowsOk r8 := by simp [rowsOk, r8, nOk]
  have hE0 := newE_inv hok
  have hB := (newE_b (r := r8) (by decide +kernel)).addE e8_add
  have hE := hE0.addE l8_sm e8_add
  have c1 := ok_new r8 (by simp [r8])
  have c2 := ok_addE (newE r8) l8 _ hE0.z l8_sm (by simp [l8]) (by simp [l8, r8])
  rw [e8_add] at c2
  have hN : r8.length + 1 + 5 * l8.length = 17 := rfl
  rw [hN] at hE
  have c3 := ok_go (addE (newE r8) l8).1 0 _ hE.z (by omega) hE.o hE.c
  have hB2 := hB.goE 0
  have hE2 := hE.goE 0
  have f1 := x8_mark
  obtain ⟨f2, f3⟩ := x8_seen
  have f4 := x8_wait
  have f5 := x8_size
  obtain ⟨f6, f7⟩ := y8_base
  have f8 := y8_size
  generalize (goE (addE (newE r8) l8).1 0).2 = v at c3
  generalize (goE (addE (newE r8) l8).1 0).1 = x at *
  generalize (addE (newE r8) l8).1 = e at *
  generalize newE r8 = e0 at *
  have hz := hE2.z.sm (by omega)
  have hz2 := hE2.clearE.z.sm (by omega)
  have c4 := ok_pclearE x hz hE2.z.s hE2.z.n
  rw [pclearE_eq hB2.S] at c4
  have c5 := ok_pseen x 1 hz hB2.S.k
  rw [f3] at c5
  have c6 := ok_pseen x 3 hz hB2.S.k
  rw [f4] at c6
  have c7 := ok_tmark x hz.s
  rw [f1] at c7
  have c8 := ok_size x hz
  rw [f5] at c8
  have c9 := ok_size (clearE x) hz2
  rw [f8] at c9
  repeat (first | ((with_reducible apply s5); ((with_reducible apply a_bs ([⟨[98], 1⟩].map Pair.enc)); (iterate 9 exact rfl); (repeat (first | exact PartsE.nil | (apply PartsE.cons; exact rfl; exact rfl)))); exact by_g) | ((with_reducible apply s5); ((with_reducible apply a_bs ([dA, dC, dD].map Deed.enc)); (iterate 9 exact rfl); (repeat (first | exact PartsE.nil | (apply PartsE.cons; exact rfl; exact rfl)))); exact by_g) | ((with_reducible apply s1); exact rfl) | (with_reducible first | apply CW.seq | apply CW.block | apply CW.region | apply CW.draw | apply CW.skip | apply CW.exit | apply CW.ret | apply q_then | apply q_then_exit | apply q_then_ret | apply q_block | apply q_block_ret | apply q_block_hit | apply q_ret | apply q_end | apply q_loop_exit | apply q_loop_ret | apply q_loopT_exit | apply q_loopT_ret | apply RW.nil) | ((with_reducible apply s3); exact rfl; exact by_k) | ((with_reducible apply s2); exact rfl; exact by_k) | ((with_reducible apply s4); exact rfl) | ((with_reducible apply s5); (first | (focus ((with_reducible apply a_call); exact r1; exact rfl; (repeat (first | exact SubsE.nil | (apply SubsE.cons; exact rfl; (first | exact .d (.refl _) | exact .d (.nil _) | exact .agg rfl (.refl _) | exact .pd | exact .ptr rfl); (first | exact trivial | exact ⟨rfl, trivial⟩)))); done)) | (focus ((with_reducible apply a_call); exact r2; exact rfl; (repeat (first | exact SubsE.nil | (apply SubsE.cons; exact rfl; (first | exact .d (.refl _) | exact .d (.nil _) | exact .agg rfl (.refl _) | exact .pd | exact .ptr rfl); (first | exact trivial | exact ⟨rfl, trivial⟩)))); done)) | (focus ((with_reducible apply a_call); exact r3; exact rfl; (repeat (first | exact SubsE.nil | (apply SubsE.cons; exact rfl; (first | exact .d (.refl _) | exact .d (.nil _) | exact .agg rfl (.refl _) | exact .pd | exact .ptr rfl); (first | exact trivial | exact ⟨rfl, trivial⟩)))); done)) | (focus ((with_reducible apply a_call); exact c1; exact rfl; (repeat (first | exact SubsE.nil | (apply SubsE.cons; exact rfl; (first | exact .d (.refl _) | exact .d (.nil _) | exact .agg rfl (.refl _) | exact .pd | exact .ptr rfl); (first | exact trivial | exact ⟨rfl, trivial⟩)))); done)) | (focus ((with_reducible apply a_call); exact c2; exact rfl; (repeat (first | exact SubsE.nil | (apply SubsE.cons; exact rfl; (first | exact .d (.refl _) | exact .d (.nil _) | exact .agg rfl (.refl _) | exact .pd | exact .ptr rfl); (first | exact trivial | exact ⟨rfl, trivial⟩)))); done)) | (focus ((with_reducible apply a_call); exact c3; exact rfl; (repeat (first | exact SubsE.nil | (apply SubsE.cons; exact rfl; (first | exact .d (.refl _) | exact .d (.nil _) | exact .agg rfl (.refl _) | exact .pd | exact .ptr rfl); (first | exact trivial | exact ⟨rfl, trivial⟩)))); done)) | (focus ((with_reducible apply a_call); exact c4; exact rfl; (repeat (first | exact SubsE.nil | (apply SubsE.cons; exact rfl; (first | exact .d (.refl _) | exact .d (.nil _) | exact .agg rfl (.refl _) | exact .pd | exact .ptr rfl); (first | exact trivial | exact ⟨rfl, trivial⟩)))); done)) | (focus ((with_reducible apply a_call); exact c5; exact rfl; (repeat (first | exact SubsE.nil | (apply SubsE.cons; exact rfl; (first | exact .d (.refl _) | exact .d (.nil _) | exact .agg rfl (.refl _) | exact .pd | exact .ptr rfl); (first | exact trivial | exact ⟨rfl, trivial⟩)))); done)) | (focus ((with_reducible apply a_call); exact c6; exact rfl; (repeat (first | exact SubsE.nil | (apply SubsE.cons; exact rfl; (first | exact .d (.refl _) | exact .d (.nil _) | exact .agg rfl (.refl _) | exact .pd | exact .ptr rfl); (first | exact trivial | exact ⟨rfl, trivial⟩)))); done)) | (focus ((with_reducible apply a_call); exact c7; exact rfl; (repeat (first | exact SubsE.nil | (apply SubsE.cons; exact rfl; (first | exact .d (.refl _) | exact .d (.nil _) | exact .agg rfl (.refl _) | exact .pd | exact .ptr rfl); (first | exact trivial | exact ⟨rfl, trivial⟩)))); done)) | (focus ((with_reducible apply a_call); exact c8; exact rfl; (repeat (first | exact SubsE.nil | (apply SubsE.cons; exact rfl; (first | exact .d (.refl _) | exact .d (.nil _) | exact .agg rfl (.refl _) | exact .pd | exact .ptr rfl); (first | exact trivial | exact ⟨rfl, trivial⟩)))); done)) | (focus ((with_reducible apply a_call); exact c9; exact rfl; (repeat (first | exact SubsE.nil | (apply SubsE.cons; exact rfl; (first | exact .d (.refl _) | exact .d (.nil _) | exact .agg rfl (.refl _) | exact .pd | exact .ptr rfl); (first | exact trivial | exact ⟨rfl, trivial⟩)))); done)) | exact by_oa); exact by_g) | ((with_reducible apply CW.cond_t); exact rfl; exact by_ks) | ((with_reducible apply CW.cond_f); exact rfl; exact by_ks) | ((with_reducible apply q_block_miss); exact rfl) | (refine And.intro (show chk [] [] _ _ = true by kernel_rfl) ?_))
  exact .one (.tmp rfl (.one (.d (dle_bool (by simp [f2, f6, f7])))))

theorem deeds_len (l : List Deed) : l.length = (l.map Deed.enc).length := by simp

theorem ok_TidyAll (r : List Pair) (bs : List (List Deed)) (p : List Int) (hrl : r.length ≤ 1048576) (hrk : ∀ q ∈ r, q.key.length ≤ 1073741824) (hb : ∀ b ∈ bs, b.length ≤ 1048576 ∧ ∀ d ∈ b, d.Sm) (hbl : bs.length ≤ 1048576) (hsum : sumLen bs ≤ 1048576) (hp : p.length ≤ 1048576) :
    FnOk Tryd.prog 4 [.d (encRows r), .d (encBatches bs), .d (encInts p)] (.one (dbool true)) := by
  refine fnOk_of tbl_ok mixed_ok Tryd.func4 rfl (by kernel_rfl) rfl rfl fun w0 own0 => ?_
  have c0 := ok_alive8
  have c1 := ok_wrongRows r (by omega) hrk
  by_cases hw : wrongRows r = 0
  · obtain ⟨hsrt, _, hok⟩ := wrongRows_srt hw
    have c2 := ok_rBuild r bs p hok (by omega) (fun b h => ⟨by have := (hb b h).1; omega, (hb b h).2⟩) (by omega) (by omega) (by omega)
    have hE : EInv (buildE r bs p) (r.length + 1 + 5 * sumLen bs) := EInv.buildGo (p := p) (newE_inv hok) (fun b h => (hb b h).2)
    obtain ⟨r', hB⟩ := build_b hw bs p
    generalize buildE r bs p = e0 at c2 hE hB
    have c3 := ok_finish e0 _ hE (by omega)
    obtain ⟨hB3, _, _, h1⟩ := all_inv (p := []) rfl hB
    have hE3 := hE.allE (p := []) rfl
    generalize allE e0 [] = e at *
    obtain ⟨u, t1, t2, t3, t4, t5⟩ := tidy_all hB3 h1
    have hE4 := hE3.clearE
    have hz := hE3.z.sm (by omega)
    have hz2 := hE4.z.sm (by omega)
    have hcl := hz2.c
    have c4 := ok_pclearE e hz hE3.z.s hE3.z.n
    rw [pclearE_eq hB3.S] at c4
    have c5 := ok_pseen (clearE e) 0 hz2 hB3.clearE.S.k
    rw [t1] at c5
    have c6 := ok_seen e e.deeds.length hz
    rw [t2] at c6
    have c7 := ok_SameRows u u (by omega)
    rw [allB_refl (by simp)] at c7
    have c8 := ok_size (clearE e) hz2
    rw [t5] at c8
    generalize clearE e = x at *
    rw [deeds_len e.deeds] at c6
    repeat (first | ((with_reducible apply s1); exact rfl) | (with_reducible first | apply CW.seq | apply CW.block | apply CW.region | apply CW.draw | apply CW.skip | apply CW.exit | apply CW.ret | apply q_then | apply q_then_exit | apply q_then_ret | apply q_block | apply q_block_ret | apply q_block_hit | apply q_ret | apply q_end | apply q_loop_exit | apply q_loop_ret | apply q_loopT_exit | apply q_loopT_ret | apply RW.nil) | ((with_reducible apply s3); exact rfl; exact by_k) | ((with_reducible apply s2); exact rfl; exact by_k) | ((with_reducible apply s4); exact rfl) | ((with_reducible apply s5); (first | (focus ((with_reducible apply a_call); exact c0; exact rfl; (repeat (first | exact SubsE.nil | (apply SubsE.cons; exact rfl; (first | exact .d (.refl _) | exact .d (.nil _) | exact .agg rfl (.refl _) | exact .pd | exact .ptr rfl); (first | exact trivial | exact ⟨rfl, trivial⟩)))); done)) | (focus ((with_reducible apply a_call); exact c1; exact rfl; (repeat (first | exact SubsE.nil | (apply SubsE.cons; exact rfl; (first | exact .d (.refl _) | exact .d (.nil _) | exact .agg rfl (.refl _) | exact .pd | exact .ptr rfl); (first | exact trivial | exact ⟨rfl, trivial⟩)))); done)) | (focus ((with_reducible apply a_call); exact c2; exact rfl; (repeat (first | exact SubsE.nil | (apply SubsE.cons; exact rfl; (first | exact .d (.refl _) | exact .d (.nil _) | exact .agg rfl (.refl _) | exact .pd | exact .ptr rfl); (first | exact trivial | exact ⟨rfl, trivial⟩)))); done)) | (focus ((with_reducible apply a_call); exact c3; exact rfl; (repeat (first | exact SubsE.nil | (apply SubsE.cons; exact rfl; (first | exact .d (.refl _) | exact .d (.nil _) | exact .agg rfl (.refl _) | exact .pd | exact .ptr rfl); (first | exact trivial | exact ⟨rfl, trivial⟩)))); done)) | (focus ((with_reducible apply a_call); exact c4; exact rfl; (repeat (first | exact SubsE.nil | (apply SubsE.cons; exact rfl; (first | exact .d (.refl _) | exact .d (.nil _) | exact .agg rfl (.refl _) | exact .pd | exact .ptr rfl); (first | exact trivial | exact ⟨rfl, trivial⟩)))); done)) | (focus ((with_reducible apply a_call); exact c5; exact rfl; (repeat (first | exact SubsE.nil | (apply SubsE.cons; exact rfl; (first | exact .d (.refl _) | exact .d (.nil _) | exact .agg rfl (.refl _) | exact .pd | exact .ptr rfl); (first | exact trivial | exact ⟨rfl, trivial⟩)))); done)) | (focus ((with_reducible apply a_call); exact c6; exact rfl; (repeat (first | exact SubsE.nil | (apply SubsE.cons; exact rfl; (first | exact .d (.refl _) | exact .d (.nil _) | exact .agg rfl (.refl _) | exact .pd | exact .ptr rfl); (first | exact trivial | exact ⟨rfl, trivial⟩)))); done)) | (focus ((with_reducible apply a_call); exact c7; exact rfl; (repeat (first | exact SubsE.nil | (apply SubsE.cons; exact rfl; (first | exact .d (.refl _) | exact .d (.nil _) | exact .agg rfl (.refl _) | exact .pd | exact .ptr rfl); (first | exact trivial | exact ⟨rfl, trivial⟩)))); done)) | (focus ((with_reducible apply a_call); exact c8; exact rfl; (repeat (first | exact SubsE.nil | (apply SubsE.cons; exact rfl; (first | exact .d (.refl _) | exact .d (.nil _) | exact .agg rfl (.refl _) | exact .pd | exact .ptr rfl); (first | exact trivial | exact ⟨rfl, trivial⟩)))); done)) | exact by_oa); exact by_g) | ((with_reducible apply CW.cond_t); exact rfl; exact by_ks) | ((with_reducible apply CW.cond_f); exact rfl; exact by_ks) | ((with_reducible apply q_block_miss); exact rfl) | (refine And.intro (show chk [] [] _ _ = true by kernel_rfl) ?_))
    exact .one (.tmp rfl (.one (.d (dle_bool (by simp [t3, t4])))))
  ·
    repeat (first | ((with_reducible apply s1); exact rfl) | (with_reducible first | apply CW.seq | apply CW.block | apply CW.region | apply CW.draw | apply CW.skip | apply CW.exit | apply CW.ret | apply q_then | apply q_then_exit | apply q_then_ret | apply q_block | apply q_block_ret | apply q_block_hit | apply q_ret | apply q_end | apply q_loop_exit | apply q_loop_ret | apply q_loopT_exit | apply q_loopT_ret | apply RW.nil) | ((with_reducible apply s3); exact rfl; exact by_k) | ((with_reducible apply s2); exact rfl; exact by_k) | ((with_reducible apply s4); exact rfl) | ((with_reducible apply s5); (first | (focus ((with_reducible apply a_call); exact c0; exact rfl; (repeat (first | exact SubsE.nil | (apply SubsE.cons; exact rfl; (first | exact .d (.refl _) | exact .d (.nil _) | exact .agg rfl (.refl _) | exact .pd | exact .ptr rfl); (first | exact trivial | exact ⟨rfl, trivial⟩)))); done)) | (focus ((with_reducible apply a_call); exact c1; exact rfl; (repeat (first | exact SubsE.nil | (apply SubsE.cons; exact rfl; (first | exact .d (.refl _) | exact .d (.nil _) | exact .agg rfl (.refl _) | exact .pd | exact .ptr rfl); (first | exact trivial | exact ⟨rfl, trivial⟩)))); done)) | exact by_oa); exact by_g) | ((with_reducible apply CW.cond_t); exact rfl; exact by_ks) | ((with_reducible apply CW.cond_f); exact rfl; exact by_ks) | ((with_reducible apply q_block_miss); exact rfl) | (refine And.intro (show chk [] [] _ _ = true by kernel_rfl) ?_))
    exact .one (.tmp rfl (.one (.d (.refl _))))

end Go.Proofs.YtembfadhnkabhaaDoor
