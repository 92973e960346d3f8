/-
  How the simulation is carried where an object of ours is made or changed; what is forgotten.
-/
import Derived.Test.YtjlfjjigccedjaaAxUpd
namespace Go.AX
open Go.RowKit

variable {cx : Cx} {g : Nat → Value} {σ σ' : St} {a : Act} {w w' : World} {nx nx' : Nat}

def upd (g : Nat → Value) (id : Nat) (v : Value) : Nat → Value := fun i => if i = id then v else g i
theorem upd_same (g : Nat → Value) (id : Nat) (v : Value) : upd g id v id = v := by simp [upd]
theorem upd_ne {g : Nat → Value} {id i : Nat} {v : Value} (h : i ≠ id) : upd g id v i = g i := by simp [upd, h]

/-- What is asked of a step that makes or changes the object id0. -/
structure ObjStep (cx : Cx) (σ : St) (g : Nat → Value) (nx nx' : Nat) (w w' : World) (id0 : Nat) (o' : Ob) (hv : Value) : Prop where
  kind : (id0 = nx ∧ nx' = nx + 1) ∨ (nx' = nx ∧ ∃ o, get σ (.o id0) = .ob o ∧ ObLe g (upd g id0 hv) id0 o o')
  below : Below cx.w0.heap.size w w'
  rest : ∀ b, b < w.heap.size → (∀ o, get σ (.o id0) = .ob o → blk (g id0) ≠ some b) → w'.heap[b]? = w.heap[b]?
  place : ∀ b, blk hv = some b → (∃ o, get σ (.o id0) = .ob o ∧ blk (g id0) = some b) ∨ w.heap.size ≤ b

abbrev objSt (σ : St) (nx' id0 : Nat) (o' : Ob) : St := (.o id0, .ob o') :: (.nx, .num nx') :: σ

theorem objSt_s {id0 : Nat} {o' : Ob} (i : Nat) : get (objSt σ nx' id0 o') (.s i) = get σ (.s i) := by
  rw [get_cons_ne (by simp), get_cons_ne (by simp)]
theorem objSt_o {id0 : Nat} {o' : Ob} {i : Nat} (h : i ≠ id0) : get (objSt σ nx' id0 o') (.o i) = get σ (.o i) := by
  rw [get_cons_ne (by simpa using fun e => h e.symm), get_cons_ne (by simp)]
theorem objSt_nx {id0 : Nat} {o' : Ob} : get (objSt σ nx' id0 o') .nx = .num nx' := by
  rw [get_cons_ne (by simp), get_cons_same]

theorem Later.obj (_h : SimG cx σ a w g nx) {id0 : Nat} {o' : Ob} {hv : Value} (hs : ObjStep cx σ g nx nx' w w' id0 o' hv) :
    Later cx g (upd g id0 hv) σ (objSt σ nx' id0 o') w w' nx := by
  refine ⟨⟨hs.below.size, fun b hb hn => hs.rest b hb fun o ho hbk => hn (.inr ⟨id0, o, ho, hbk⟩)⟩, hs.below, fun b hb => ?_, fun id o1 hid ho1 => ?_⟩
  · rcases hb with hb | ⟨id, o, h1, h2⟩
    · exact .inl (.inl hb)
    · by_cases hid : id = id0
      · subst hid
        rw [upd_same] at h2
        rcases hs.place b h2 with ⟨o, h3, h4⟩ | h3
        · exact .inl (.inr ⟨id, o, h3, h4⟩)
        · exact .inr h3
      · rw [objSt_o hid] at h1
        rw [upd_ne hid] at h2
        exact .inl (.inr ⟨id, o, h1, h2⟩)
  · by_cases he : id = id0
    · subst he
      rw [get_cons_same] at ho1
      obtain rfl : o' = o1 := by simpa using ho1
      rcases hs.kind with ⟨h1, _⟩ | ⟨_, o, h1, h2⟩
      · omega
      · exact ⟨o, h1, h2⟩
    · rw [objSt_o he] at ho1
      refine ⟨o1, ho1, ?_⟩
      cases o1 <;> simp [ObLe, upd_ne he]

theorem SimG.obj (h : SimG cx σ a w g nx) {id0 : Nat} {o' : Ob} {hv : Value} (hs : ObjStep cx σ g nx nx' w w' id0 o' hv)
    (hok : Later cx g (upd g id0 hv) σ (objSt σ nx' id0 o') w w' nx → ObOk cx (upd g id0 hv) (objSt σ nx' id0 o') w' id0 o') (hbd : o'.bd nx') :
    SimG cx (objSt σ nx' id0 o') a w' (upd g id0 hv) nx' := by
  have hl := Later.obj h hs
  have hle : nx ≤ nx' := by rcases hs.kind with ⟨_, h1⟩ | ⟨h1, _⟩ <;> omega
  have hlt : id0 < nx' := by
    rcases hs.kind with ⟨h1, h2⟩ | ⟨h1, o, h2, _⟩
    · omega
    · have := (h.objs id0 o h2).1; omega
  refine h.next hl objSt_nx hle h.size h.defers hs.below (fun i av hi => ?_) (fun id o ho => ?_) (fun id id' o o1 b h1 h2 h3 h4 => ?_)
  · rw [objSt_s] at hi
    exact .inl ⟨hi, rfl⟩
  · by_cases he : id = id0
    · subst he
      rw [get_cons_same] at ho
      obtain rfl : o' = o := by simpa using ho
      exact .inr ⟨hlt, hok hl, hbd⟩
    · rw [objSt_o he] at ho
      refine .inl ⟨ho, upd_ne he, fun b hb => hs.rest b (own_lt h (.inr ⟨id, o, ho, hb⟩)) fun o1 ho1 hb1 => he (h.sep id id0 o o1 b ho ho1 hb hb1)⟩
  · have hone : ∀ (id : Nat) (o : Ob) (b : Nat), id ≠ id0 → get (objSt σ nx' id0 o') (.o id) = .ob o → blk (upd g id0 hv id) = some b → blk hv = some b → False := by
      intro id o b he ho hb hvb
      rw [objSt_o he] at ho
      rw [upd_ne he] at hb
      rcases hs.place b hvb with ⟨o1, h5, h6⟩ | h5
      · exact he (h.sep id id0 o o1 b ho h5 hb h6)
      · have := own_lt h (.inr ⟨id, o, ho, hb⟩); omega
    by_cases he : id = id0
    · by_cases he' : id' = id0
      · rw [he, he']
      · subst he
        rw [upd_same] at h3
        exact (hone id' o1 b he' h2 h4 h3).elim
    · by_cases he' : id' = id0
      · subst he'
        rw [upd_same] at h4
        exact (hone id o b he h1 h3 h4).elim
      · rw [objSt_o he] at h1
        rw [objSt_o he'] at h2
        rw [upd_ne he] at h3
        rw [upd_ne he'] at h4
        exact h.sep id id' o o1 b h1 h2 h3 h4

theorem get_nx_obj (h : SimG cx σ a w g nx) : get σ (.o nx) = get σ (.o nx) ∧ ∀ o, get σ (.o nx) ≠ .ob o :=
  ⟨rfl, fun o ho => by have := (h.objs nx o ho).1; omega⟩

/-- A state that says less, of what the other says. -/
structure Less (σ σ' : St) : Prop where
  s : ∀ i av, get σ' (.s i) = .av av → get σ (.s i) = .av av
  o : ∀ id o, get σ' (.o id) = .ob o → get σ (.o id) = .ob o
  nx : ∃ n n', get σ .nx = .num n ∧ get σ' .nx = .num n' ∧ n' ≤ n ∧ (∀ i av, get σ' (.s i) = .av av → av.bd n') ∧ (∀ id o, get σ' (.o id) = .ob o → id < n' ∧ o.bd n')

theorem Sim.less (hs : Sim cx σ a w) (hl : Less σ σ') : Sim cx σ' a w := by
  obtain ⟨g, nx, h⟩ := hs
  obtain ⟨n, n', h1, h2, hle, h3, h4⟩ := hl.nx
  have hn : n = nx := by
    have := h.hnx
    rw [h1] at this
    simpa using this
  subst hn
  have hlat : Later cx g g σ σ' w w n := by
    refine ⟨Ext.refl _ _, Below.refl _ _, fun b hb => ?_, fun id o' _ ho => ⟨o', hl.o _ _ ho, ?_⟩⟩
    · rcases hb with hb | ⟨id, o, h5, h6⟩
      · exact .inl (.inl hb)
      · exact .inl (.inr ⟨id, o, hl.o _ _ h5, h6⟩)
    · cases o' <;> simp [ObLe]
  refine ⟨g, n', ?_⟩
  refine ⟨h2, h.size, h.defers, h.below, h.own0, fun i av hi => ?_, fun id o ho => ?_, fun id id' o o' b h5 h6 => h.sep id id' o o' b (hl.o _ _ h5) (hl.o _ _ h6)⟩
  · obtain ⟨h5, h6⟩ := h.slots i av (hl.s i av hi)
    exact ⟨h5.step hlat h6, h3 i av hi⟩
  · obtain ⟨h5, h6, h7⟩ := h.objs id o (hl.o _ _ ho)
    exact ⟨(h4 id o ho).1, h6.step hlat rfl (fun _ _ => rfl) h7, (h4 id o ho).2⟩

end Go.AX
