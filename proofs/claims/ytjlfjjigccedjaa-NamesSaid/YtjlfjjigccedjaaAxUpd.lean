/-
  How the simulation is carried over one step: a slot is written; a box is made, or written; a slice of ours grows.
-/
import Derived.Test.YtjlfjjigccedjaaAxSim
namespace Go.AX
open Go.RowKit

variable {cx : Cx} {g g' : Nat → Value} {σ σ' : St} {a a' : Act} {w w' : World} {nx nx' : Nat}

theorem blk_own {base : Nat} {e k : Nat} {v : Value} {n : Nat} {xs : List Value} (h : w.ownsRow base e k v n xs) : blk v = v.ownBlock := by
  rcases h.2 with ⟨rfl, _⟩ | ⟨_, _, _, rfl, _⟩ <;> rfl

theorem put_ne {a : Act} {d i : Nat} {v : Value} (h : i ≠ d) : (a.put (some d) v).tmps.getD i undef = a.tmps.getD i undef := by
  have h' : ¬ d = i := fun e => h e.symm
  simp only [Act.put, Array.getD_eq_getD_getElem?, Array.getElem?_setIfInBounds, if_neg h']
theorem put_eq {a : Act} {d : Nat} {v : Value} (h : d < a.tmps.size) : (a.put (some d) v).tmps.getD d undef = v := by
  simp [Act.put, Array.getD_eq_getD_getElem?, h]

theorem ownsRow_same {base : Nat} {e k : Nat} {v : Value} {n : Nat} {xs : List Value} (h : w.ownsRow base e k v n xs)
    (hb : ∀ b, blk v = some b → w'.heap[b]? = w.heap[b]?) : w'.ownsRow base e k v n xs := by
  refine ⟨h.1, ?_⟩
  rcases h.2 with h | ⟨gg, cap, cur, hv, h1, h2, h3⟩
  · exact .inl h
  · exact .inr ⟨gg, cap, cur, hv, h1, by rw [hb gg (by rw [hv]; rfl)]; exact h2, h3⟩

theorem ObOk.step (hl : Later cx g g' σ σ' w w' nx) {id : Nat} {o : Ob} (hg : g' id = g id) (hb : ∀ b, blk (g id) = some b → w'.heap[b]? = w.heap[b]?)
    (hbd : o.bd nx) (h : ObOk cx g σ w id o) : ObOk cx g' σ' w' id o := by
  cases o with
  | box cells =>
    obtain ⟨b, cs, t, h0, h1, h2, h3, h4, h5⟩ := h
    exact ⟨b, cs, t, by rw [hg]; exact h0, h1, by rw [hb b (by rw [h0]; rfl)]; exact h2, h3, h4,
      fun j c av hj hc => (h5 j c av hj hc).step hl (hbd av (List.mem_of_getElem? hj))⟩
  | arr e k rows =>
    obtain ⟨xs, h1, h2, h3, h4⟩ := h
    exact ⟨xs, by rw [hg]; exact ownsRow_same h1 hb, h2, h3, fun i j r d x hi hj hx => (h4 i j r d x hi hj hx).step hl.ext hl.own⟩

theorem Ob.bd_mono {n m : Nat} (h : n ≤ m) {o : Ob} (hb : o.bd n) : o.bd m := by
  cases o with
  | box cells => exact fun av ha => AV.bd1_mono h (hb av ha)
  | arr e k rows => trivial

theorem SimG.next (h : SimG cx σ a w g nx) (hl : Later cx g g' σ σ' w w' nx) (hnx : get σ' .nx = .num nx') (hle : nx ≤ nx')
    (hsz : a'.tmps.size = cx.n) (hd : a'.defers = []) (hbel : Below cx.w0.heap.size w w')
    (hs : ∀ i av, get σ' (.s i) = .av av → (get σ (.s i) = .av av ∧ a'.tmps.getD i undef = a.tmps.getD i undef) ∨
      (Rep cx g' σ' w' (a'.tmps.getD i undef) av ∧ av.bd nx'))
    (ho : ∀ id o, get σ' (.o id) = .ob o → (get σ (.o id) = .ob o ∧ g' id = g id ∧ (∀ b, blk (g id) = some b → w'.heap[b]? = w.heap[b]?)) ∨
      (id < nx' ∧ ObOk cx g' σ' w' id o ∧ o.bd nx'))
    (hsep : ∀ id id' o o' b, get σ' (.o id) = .ob o → get σ' (.o id') = .ob o' → blk (g' id) = some b → blk (g' id') = some b → id = id') :
    SimG cx σ' a' w' g' nx' := by
  refine ⟨hnx, hsz, hd, h.below.trans hbel, h.own0, fun i av hi => ?_, fun id o hi => ?_, hsep⟩
  · rcases hs i av hi with ⟨h1, h2⟩ | h1
    · obtain ⟨h3, h4⟩ := h.slots i av h1
      exact ⟨by rw [h2]; exact h3.step hl h4, AV.bd_mono hle h4⟩
    · exact h1
  · rcases ho id o hi with ⟨h1, h2, h3⟩ | h1
    · obtain ⟨h4, h5, h6⟩ := h.objs id o h1
      exact ⟨by omega, h5.step hl h2 h3 h6, Ob.bd_mono hle h6⟩
    · exact h1

theorem own_lt (h : SimG cx σ a w g nx) {b : Nat} (hb : cx.own g σ b) : b < w.heap.size := by
  rcases hb with hb | ⟨id, o, ho, hb⟩
  · exact Nat.lt_of_lt_of_le (h.own0 b hb) h.below.size
  · obtain ⟨_, hok, _⟩ := h.objs id o ho
    cases o with
    | box cells =>
      obtain ⟨b', cs, t, h0, h1, h2, _⟩ := hok
      rw [h0] at hb
      obtain rfl : b' = b := by simpa [blk] using hb
      rcases Nat.lt_or_ge b' w.heap.size with hlt | hge
      · exact hlt
      · rw [Array.getElem?_eq_none hge] at h2; cases h2
    | arr e k rows =>
      obtain ⟨xs, h1, _⟩ := hok
      exact (h1.lt b (by rw [← blk_own h1]; exact hb)).2

theorem obj_ge (h : SimG cx σ a w g nx) {id : Nat} {o : Ob} (ho : get σ (.o id) = .ob o) {b : Nat} (hb : blk (g id) = some b) : cx.w0.heap.size ≤ b := by
  obtain ⟨_, hok, _⟩ := h.objs id o ho
  cases o with
  | box cells =>
    obtain ⟨b', cs, t, h0, h1, h2, _⟩ := hok
    rw [h0] at hb
    obtain rfl : b' = b := by simpa [blk] using hb
    exact h1
  | arr e k rows =>
    obtain ⟨xs, h1, _⟩ := hok
    exact (h1.lt b (by rw [← blk_own h1]; exact hb)).1

/-- Objects as they were: what holds under one state holds under the other. -/
theorem Later.same (ho : ∀ id, get σ' (.o id) = get σ (.o id)) (hext : Ext (cx.own g σ) w w') (hbel : Below cx.w0.heap.size w w') : Later cx g g σ σ' w w' nx := by
  refine ⟨hext, hbel, fun b hb => ?_, fun id o' _ h => ⟨o', by rw [← ho]; exact h, ?_⟩⟩
  · rcases hb with hb | ⟨id, o, h1, h2⟩
    · exact .inl (.inl hb)
    · exact .inl (.inr ⟨id, o, by rw [← ho]; exact h1, h2⟩)
  · cases o' <;> simp [ObLe]

/-- The step of an operation that yields a value and lays blocks at most. -/
theorem Sim.put (h : SimG cx σ a w g nx) {d : Nat} (hd : d < cx.n) (hb : Below w.heap.size w w') {v : Value} {av : AV}
    (hr : Rep cx g σ w' v av) (hbd : av.bd nx) : Sim cx ((.s d, .av av) :: σ) (a.put (some d) v) w' := by
  have hos : ∀ id, get ((.s d, .av av) :: σ) (.o id) = get σ (.o id) := fun id => get_cons_ne (by simp)
  have hbel : Below cx.w0.heap.size w w' := hb.mono h.below.size
  have hl : Later cx g g σ ((.s d, .av av) :: σ) w w' nx := Later.same hos (Ext.of_below hb) hbel
  refine ⟨g, nx, h.next hl (by rw [get_cons_ne (by simp)]; exact h.hnx) (Nat.le_refl _) (by simp [Act.put, h.size]) (by simpa [Act.put] using h.defers) hbel (fun i av' hi => ?_) (fun id o hi => ?_) (fun id id' o o' b h1 h2 => ?_)⟩
  · by_cases hid : i = d
    · subst hid
      rw [get_cons_same] at hi
      obtain rfl : av = av' := by simpa using hi
      refine .inr ⟨?_, hbd⟩
      have he : (a.put (some i) v).tmps.getD i undef = v := put_eq (by rw [h.size]; exact hd)
      rw [he]
      exact hr.step (Later.same (cx := cx) (g := g) (σ := σ) (nx := nx) hos (Ext.refl _ _) (Below.refl _ _)) hbd
    · rw [get_cons_ne (by simpa using fun e => hid e.symm)] at hi
      exact .inl ⟨hi, put_ne hid⟩
  · rw [hos] at hi
    exact .inl ⟨hi, rfl, fun b hbk => hb.block b (own_lt h (.inr ⟨id, o, hi, hbk⟩))⟩
  · rw [hos] at h1 h2
    exact h.sep id id' o o' b h1 h2

end Go.AX
