/-
  Operations as transitions of the abstract state; a region walked in the order of its text serves every order that its edges allow, where unordered operations share nothing.
-/
import Derived.Test.YtjlfjjigccedjaaAxObj
namespace Go.AX
open Go.RowKit

structure Tr where
  rd : List (Key × Val)
  wr : List (Key × Val)

def App (σ : St) : List (Key × Val) → Prop
  | [] => True
  | (k, v) :: r => get σ k = v ∧ App σ r

theorem App.mem {σ : St} : ∀ {l : List (Key × Val)}, App σ l → ∀ p ∈ l, get σ p.1 = p.2
  | (_, _) :: _, h, p, hp => by
    cases hp with
    | head => exact h.1
    | tail _ hp => exact App.mem h.2 p hp
theorem App.of {σ : St} : ∀ {l : List (Key × Val)}, (∀ p ∈ l, get σ p.1 = p.2) → App σ l
  | [], _ => trivial
  | _ :: _, h => ⟨h _ (List.mem_cons_self ..), App.of fun p hp => h p (List.mem_cons_of_mem _ hp)⟩
theorem App.append {σ : St} {l r : List (Key × Val)} (h : App σ l) (h' : App σ r) : App σ (l ++ r) :=
  App.of fun p hp => (List.mem_append.1 hp).elim (h.mem p) (h'.mem p)
theorem App.left {σ : St} {l r : List (Key × Val)} (h : App σ (l ++ r)) : App σ l := App.of fun p hp => h.mem p (List.mem_append_left _ hp)
theorem App.right {σ : St} {l r : List (Key × Val)} (h : App σ (l ++ r)) : App σ r := App.of fun p hp => h.mem p (List.mem_append_right _ hp)

instance : DecidableEq Key := fun _ _ => decidable_of_iff _ Key.beq_iff

theorem get_append {l : List (Key × Val)} {σ : St} {k : Key} : get (l ++ σ) k = if k ∈ l.map (·.1) then get l k else get σ k := by
  induction l with
  | nil => simp
  | cons p l ih =>
    obtain ⟨q, v⟩ := p
    by_cases h : q = k
    · subst h; simp [get_cons_same]
    · have h' : ¬ k = q := fun e => h e.symm
      simp only [List.cons_append, get_cons_ne h, ih, List.map_cons, List.mem_cons, h', false_or]

theorem App.drop {l : List (Key × Val)} {σ : St} {rd : List (Key × Val)} (h : ∀ k, k ∈ l.map (·.1) → k ∈ rd.map (·.1) → False) : App (l ++ σ) rd ↔ App σ rd := by
  constructor
  · refine fun ha => App.of fun p hp => ?_
    have := ha.mem p hp
    rwa [get_append, if_neg (fun hk => h p.1 hk (List.mem_map_of_mem hp))] at this
  · refine fun ha => App.of fun p hp => ?_
    rw [get_append, if_neg (fun hk => h p.1 hk (List.mem_map_of_mem hp))]
    exact ha.mem p hp

/-- A step of the state's own: nothing is done. -/
def Stut (cx : Cx) (t : Tr) : Prop := ∀ (σ : St) (a : Act) (w : World), Sim cx σ a w → App σ t.rd → Sim cx (t.wr ++ σ) a w

/-- A step of the state's own, and the transition behind it, as one. -/
def mrg (t t1 : Tr) : Tr := ⟨t.rd ++ t1.rd.filter (fun p => !((t.wr.map (·.1)).any fun k => k.beq p.1)), t1.wr ++ t.wr⟩

/-- The operation does what the transition says, from whatever state that holds what it reads. -/
def OpOk (cx : Cx) (o : Oper) (t : Tr) : Prop :=
  ∀ (σ : St) (a : Act) (w : World) (K : Act → World → Prop) (Q : Exit → Act → World → Prop), Sim cx σ a w → App σ t.rd →
    (∀ a' w', Sim cx (t.wr ++ σ) a' w' → K a' w') → o.wp cx.P a w K Q

def skipWr (o : Oper) : List (Key × Val) := match o.dst with
  | some x => [(.s x, .av .any)]
  | none => []
abbrev bv (b : Bool) : Val := .av (.d (.v (.bool b)))

/-- Operations behind one another, as transitions: one that is guarded and not wanted forgets its slot. -/
inductive Steps' (cx : Cx) (ops : Array Oper) : List Oper → St → List Tr → St → Prop
  | nil (σ : St) : Steps' cx ops [] σ [] σ
  | op {o : Oper} {rest : List Oper} {σ σ' : St} {t : Tr} {ts : List Tr} (hg : o.guard = none) (ho : OpOk cx o t) (ha : App σ t.rd)
      (h : Steps' cx ops rest (t.wr ++ σ) ts σ') : Steps' cx ops (o :: rest) σ (t :: ts) σ'
  | yes {o : Oper} {rest : List Oper} {σ σ' : St} {t : Tr} {ts : List Tr} {j d : Nat} {want : Bool} (hg : o.guard = some (j, want)) (hj : (ops[j]?).bind (·.dst) = some d)
      (hb : get σ (.s d) = bv want) (ho : OpOk cx o t) (ha : App σ t.rd) (h : Steps' cx ops rest (t.wr ++ σ) ts σ') :
      Steps' cx ops (o :: rest) σ ({ rd := (.s d, bv want) :: t.rd, wr := t.wr } :: ts) σ'
  | no {o : Oper} {rest : List Oper} {σ σ' : St} {ts : List Tr} {j d : Nat} {want : Bool} (hg : o.guard = some (j, want)) (hj : (ops[j]?).bind (·.dst) = some d)
      (hb : get σ (.s d) = bv (!want)) (hx : ∀ x, o.dst = some x → x < cx.n) (h : Steps' cx ops rest (skipWr o ++ σ) ts σ') :
      Steps' cx ops (o :: rest) σ ({ rd := [(.s d, bv (!want))], wr := skipWr o } :: ts) σ'
  | pre {o : Oper} {rest : List Oper} {σ σ' : St} {t t1 : Tr} {ts : List Tr} (hs : Stut cx t) (ha : App σ t.rd) (h : Steps' cx ops (o :: rest) (t.wr ++ σ) (t1 :: ts) σ') :
      Steps' cx ops (o :: rest) σ (mrg t t1 :: ts) σ'

variable {cx : Cx} {σ σ' : St} {a a' : Act} {w w' : World} {ops : Array Oper}

theorem Sim.any (h : Sim cx σ a w) {d : Nat} (hd : d < cx.n) (v : Value) : Sim cx ((.s d, .av .any) :: σ) (a.put (some d) v) w := by
  obtain ⟨g, nx, h⟩ := h
  exact Sim.put h hd (Below.refl _ _) (av := .any) trivial trivial

theorem Sim.skip (h : Sim cx σ a w) {o : Oper} (hx : ∀ x, o.dst = some x → x < cx.n) : Sim cx (skipWr o ++ σ) (a.put o.dst undef) w := by
  unfold skipWr
  cases hd : o.dst with
  | none => simpa [Act.put] using h
  | some x => exact h.any (hx x hd) undef

theorem Sim.yielded (h : Sim cx σ a w) {j d : Nat} {b : Bool} (hj : (ops[j]?).bind (·.dst) = some d) (hb : get σ (.s d) = bv b) : yielded ops a.tmps j = some b := by
  obtain ⟨g, nx, h⟩ := h
  obtain ⟨hr, _⟩ := h.slots d _ hb
  have hr' : Rd w (cx.own g σ) (a.tmps.getD d undef) (.v (.bool b)) := hr
  have hv : a.tmps.getD d undef = .bool b := by
    generalize a.tmps.getD d undef = x at hr'
    cases hr'; rfl
  unfold Go.yielded
  rw [hj]
  rw [Array.getD_eq_getD_getElem?] at hv
  cases hg : a.tmps[d]? with
  | none => rw [hg] at hv; cases hv
  | some x =>
    rw [hg] at hv
    have hv' : x = .bool b := hv
    simp [hg, hv']

/-- One transition at its operation, whatever its guard. -/
def TrOk (cx : Cx) (ops : Array Oper) (o : Oper) (t : Tr) : Prop :=
  ∀ (σ : St) (a : Act) (w : World) (K : Act → World → Prop) (Q : Exit → Act → World → Prop), Sim cx σ a w → App σ t.rd →
    (∀ a' w', Sim cx (t.wr ++ σ) a' w' → K a' w') → if Region.wanted o (yielded ops a.tmps) then o.wp cx.P a w K Q else K (a.put o.dst undef) w

def All2 (cx : Cx) (ops : Array Oper) : List Oper → List Tr → Prop
  | [], [] => True
  | o :: l, t :: ts => TrOk cx ops o t ∧ All2 cx ops l ts
  | _, _ => False

theorem All2.at {cx : Cx} {ops : Array Oper} : ∀ {l : List Oper} {ts : List Tr}, All2 cx ops l ts → ∀ {i : Nat} {o : Oper}, l[i]? = some o → ∃ t, ts[i]? = some t ∧ TrOk cx ops o t
  | [], [], _, i, o, h => by simp at h
  | _ :: l, t :: ts, h, i, o, hi => by
    cases i with
    | zero => exact ⟨t, rfl, by simp at hi; subst hi; exact h.1⟩
    | succ i => simpa using All2.at h.2 (by simpa using hi)

theorem not_any {l : List (Key × Val)} {k : Key} : (!((l.map (·.1)).any fun q => q.beq k)) = true ↔ k ∉ l.map (·.1) := by
  rw [Bool.not_eq_true', ← Bool.not_eq_true, List.any_eq_true]
  constructor
  · intro h hk
    exact h ⟨k, hk, Key.beq_iff.2 rfl⟩
  · rintro h ⟨q, hq, hb⟩
    exact h (Key.beq_iff.1 hb ▸ hq)

theorem App.of_mrg {t t1 : Tr} {σ0 : St} (h0 : App (t.wr ++ σ0) t1.rd) (h : App σ (mrg t t1).rd) : App σ t.rd ∧ App (t.wr ++ σ) t1.rd := by
  refine ⟨h.left, App.of fun p hp => ?_⟩
  by_cases hk : p.1 ∈ t.wr.map (·.1)
  · have := h0.mem p hp
    rw [get_append, if_pos hk] at this
    rw [get_append, if_pos hk]
    exact this
  · rw [get_append, if_neg hk]
    exact h.right.mem p (List.mem_filter.2 ⟨hp, not_any.2 hk⟩)
theorem App.to_mrg {t t1 : Tr} (h : App σ t.rd) (h1 : App (t.wr ++ σ) t1.rd) : App σ (mrg t t1).rd := by
  refine h.append (App.of fun p hp => ?_)
  obtain ⟨hp1, hp2⟩ := List.mem_filter.1 hp
  have := h1.mem p hp1
  rwa [get_append, if_neg (not_any.1 hp2)] at this

theorem Steps'.app {o : Oper} {l : List Oper} {t : Tr} {ts : List Tr} (h : Steps' cx ops (o :: l) σ (t :: ts) σ') : App σ t.rd := by
  generalize hl : o :: l = l0 at h
  generalize ht : t :: ts = t0 at h
  induction h generalizing o l t ts with
  | nil => cases hl
  | op hg ho ha h => cases ht; exact ha
  | yes hg hj hb ho ha h => cases ht; exact ⟨hb, ha⟩
  | no hg hj hb hx h => cases ht; exact ⟨hb, trivial⟩
  | pre hs ha h ih => cases ht; exact App.to_mrg ha (ih rfl rfl)

theorem Steps'.trs {l : List Oper} {ts : List Tr} (h : Steps' cx ops l σ ts σ') : All2 cx ops l ts := by
  induction h with
  | nil => trivial
  | op hg ho ha h ih =>
    refine And.intro (fun σ a w K Q hs hr hK => ?_) ih
    rw [if_pos (by simp [Region.wanted, hg])]
    exact ho σ a w K Q hs hr hK
  | yes hg hj hb ho ha h ih =>
    refine And.intro (fun σ a w K Q hs hr hK => ?_) ih
    rw [if_pos (by simp only [Region.wanted, hg, hs.yielded hj hr.1, beq_self_eq_true])]
    exact ho σ a w K Q hs hr.2 hK
  | no hg hj hb hx h ih =>
    refine And.intro (fun σ a w K Q hs hr hK => ?_) ih
    rw [if_neg (by simp only [Region.wanted, hg, hs.yielded hj hr.1]; simp)]
    exact hK _ _ (hs.skip hx)
  | @pre o rest σ0 σ' t t1 ts hst ha h ih =>
    refine And.intro (fun σ a w K Q hs hr hK => ?_) ih.2
    obtain ⟨h1, h2⟩ := App.of_mrg h.app hr
    refine ih.1 (t.wr ++ σ) a w K Q (hst σ a w hs h1) h2 fun a' w' hs' => hK a' w' ?_
    simpa only [mrg, List.append_assoc] using hs'

/-- All transitions, one behind the other: what each reads is there. -/
def Run : List Tr → St → Prop
  | [], _ => True
  | t :: ts, σ => App σ t.rd ∧ Run ts (t.wr ++ σ)
def fin : List Tr → St → St
  | [], σ => σ
  | t :: ts, σ => fin ts (t.wr ++ σ)

theorem Steps'.run {l : List Oper} {ts : List Tr} (h : Steps' cx ops l σ ts σ') : Run ts σ ∧ fin ts σ = σ' := by
  induction h with
  | nil => exact ⟨trivial, rfl⟩
  | op hg ho ha h ih => exact ⟨⟨ha, ih.1⟩, ih.2⟩
  | yes hg hj hb ho ha h ih => exact ⟨⟨⟨hb, ha⟩, ih.1⟩, ih.2⟩
  | no hg hj hb hx h ih => exact ⟨⟨⟨hb, trivial⟩, ih.1⟩, ih.2⟩
  | @pre o rest σ0 σ' t t1 ts hst ha h ih =>
    obtain ⟨h1, h2⟩ := ih
    refine ⟨⟨App.to_mrg ha h.app, ?_⟩, ?_⟩
    · have := h1.2; simpa only [mrg, List.append_assoc] using this
    · rw [← h2]; simp only [fin, mrg, List.append_assoc]

theorem wpList_of_steps {Q : Exit → Act → World → Prop} {l : List Oper} {ts : List Tr} (h : Steps' cx ops l σ ts σ') :
    Sim cx σ a w → (∀ a' w', Sim cx σ' a' w' → Q .normal a' w') → wpList cx.P ops Q l a w := by
  have h1 := h.trs
  obtain ⟨h2, h3⟩ := h.run
  subst h3
  clear h
  induction l generalizing σ a w ts with
  | nil =>
    cases ts with
    | nil => exact fun hs hq => hq a w hs
    | cons t ts => exact h1.elim
  | cons o l ih =>
    cases ts with
    | nil => exact h1.elim
    | cons t ts =>
      intro hs hq
      refine wpList_step fun K hK => ?_
      exact h1.1 σ a w K Q hs h2.1 fun a' w' hs' => hK a' w' (ih h1.2 h2.2 hs' hq)

end Go.AX
