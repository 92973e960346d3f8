/-
  The abstract state of a function's run, and when a frame and a world are as it says; how that is carried from step to step.
-/
import Derived.Test.YtjlfjjigccedjaaAxData
import Derived.LoopN
namespace Go.AX
open Go.RowKit

/-- What a slot, or a cell of a box, holds: data; a pointer to cells that stay; a pointer into a box of ours; a slice of ours (so long); a pointer to a cell of an element of it; a struct of such; several results; whatever. -/
inductive AV where
  | d (x : D)
  | pd (cells : List D)
  | ptr (id off : Nat)
  | own (id n : Nat)
  | pe (id n i f : Nat)
  | agg (cells : List AV)
  | tup (vs : List AV)
  | any

/-- An object of ours: a box of cells; a slice that grows. -/
inductive Ob where
  | box (cells : List AV)
  | arr (e k : Nat) (rows : List (List D))

inductive Key where
  | s (n : Nat)
  | o (n : Nat)
  | nx

def Key.beq : Key → Key → Bool
  | .s a, .s b => Nat.beq a b
  | .o a, .o b => Nat.beq a b
  | .nx, .nx => true
  | _, _ => false

theorem Key.beq_iff {a b : Key} : a.beq b = true ↔ a = b := by
  cases a <;> cases b <;> simp [Key.beq, Nat.beq_eq]

inductive Val where
  | av (x : AV)
  | ob (x : Ob)
  | num (n : Nat)
  | none

abbrev St := List (Key × Val)

def get : St → Key → Val
  | [], _ => .none
  | (k, v) :: r, q => match k.beq q with
    | true => v
    | false => get r q

theorem get_cons_same {k : Key} {v : Val} {σ : St} : get ((k, v) :: σ) k = v := by
  simp [get, Key.beq_iff.2 rfl]
theorem get_cons_ne {k q : Key} {v : Val} {σ : St} (h : k ≠ q) : get ((k, v) :: σ) q = get σ q := by
  have : k.beq q = false := by
    cases hb : k.beq q
    · rfl
    · exact absurd (Key.beq_iff.1 hb) h
  simp [get, this]

/-- The block that a handle leads to. -/
def blk : Value → Option Nat
  | .pointer (some a) => some a.block
  | .slice (some a) _ _ => some a.block
  | _ => none

def ownOf (g : Nat → Value) (σ : St) (b : Nat) : Prop := ∃ id o, get σ (.o id) = .ob o ∧ blk (g id) = some b

/-- What is known of a type: how many cells and bytes, its zero value's cells, and what it is made of. -/
inductive TK where
  | one
  | int (k : IntKind)
  | bool
  | str
  | sl (e k : Nat)
  | st (fs : List (Nat × Nat))
  | arr (len e k : Nat)
structure TI where
  n : Nat
  bytes : Nat
  zero : List Value
  kind : TK
abbrev Tbl := List (Nat × TI)
def tget : Tbl → Nat → Option TI
  | [], _ => none
  | (t, i) :: r, q => match Nat.beq t q with
    | true => some i
    | false => tget r q

structure TF (P : Program) (t : Nat) (ti : TI) : Prop where
  info : ∃ i, P.info? t = some i ∧ i.size = ti.n ∧ i.bytes = ti.bytes ∧ ∃ z, i.zero = some z ∧ z.cells.toList = ti.zero
  len : ti.zero.length = ti.n
  kind : match ti.kind with
    | .one => ∃ d, P.underlying t = some d ∧ (∀ fs, d ≠ .struct fs) ∧ (∀ n e, d ≠ .array n e) ∧ ti.n = 1
    | .int k => P.underlying t = some (.int k) ∧ ti.n = 1
    | .bool => P.underlying t = some .bool ∧ ti.n = 1
    | .str => P.underlying t = some .string ∧ ti.n = 1
    | .sl e k => P.underlying t = some (.slice e) ∧ (∃ i, P.info? e = some i ∧ i.size = k) ∧ 0 < k ∧ ti.n = 1
    | .st fs => ∃ a, P.underlying t = some (.struct a) ∧ a.size = fs.length ∧ ∀ (j : Nat) (p : Nat × Nat), fs[j]? = some p → ∃ (f : Field) (i : TypeInfo), a[j]? = some f ∧ f.offset = p.1 ∧ P.info? f.type = some i ∧ i.size = p.2 ∧ 0 < p.2 ∧
        (p.2 = 1 → ∃ dd, P.underlying f.type = some dd ∧ (∀ fs, dd ≠ .struct fs) ∧ ∀ n e, dd ≠ .array n e)
    | .arr n e k => P.underlying t = some (.array n e) ∧ (∃ i, P.info? e = some i ∧ i.size = k)

def TOk (P : Program) (T : Tbl) : Prop := ∀ t ti, tget T t = some ti → TF P t ti

/-- What is fixed while a function runs: the program, its types, how many slots, the world in which it began, which blocks its caller keeps for itself. -/
structure Cx where
  P : Program
  T : Tbl
  hT : TOk P T
  mixed : P.follows .mixedOrders = true
  n : Nat
  w0 : World
  own0 : Nat → Prop

def Cx.own (cx : Cx) (g : Nat → Value) (σ : St) (b : Nat) : Prop := cx.own0 b ∨ ownOf g σ b

/-- Cells from an address on that stay as they are while the function runs. -/
def RdCells (w : World) (own : Nat → Prop) (ad : Addr) (ds : List D) : Prop :=
  ∀ j d, ds[j]? = some d → ∃ u : Value, w.cell? (ad.add j) = some u ∧ u.oneCell' = true ∧ Rd w own u d

def Rep1 (cx : Cx) (g : Nat → Value) (σ : St) (w : World) (x : Value) : AV → Prop
  | .d y => Rd w (cx.own g σ) x y
  | .pd ds => ∃ ad : Addr, x = .pointer (some ad) ∧ (ad.block < cx.w0.heap.size ∨ ¬ cx.own g σ ad.block) ∧ ad.block < w.heap.size ∧ RdCells w (cx.own g σ) ad ds
  | .ptr id off => ∀ cells, get σ (.o id) = .ob (.box cells) → ∃ b, g id = .pointer (some ⟨b, 0, none⟩) ∧ x = .pointer (some ⟨b, off, none⟩)
  | .own id n => ∀ e k rows, get σ (.o id) = .ob (.arr e k rows) → n ≤ rows.length ∧ (n = rows.length → x = g id)
  | .pe id n i f => ∀ e k rows, get σ (.o id) = .ob (.arr e k rows) → n ≤ rows.length ∧ (n = rows.length → ∃ b, blk (g id) = some b ∧ x = .pointer (some ⟨b, i * k + f, none⟩))
  | .any => True
  | .agg _ => False
  | .tup _ => False

def Rep2 (cx : Cx) (g : Nat → Value) (σ : St) (w : World) (x : Value) : AV → Prop
  | .agg cells => ∃ cs : Array Value, x = .agg cs ∧ cs.size = cells.length ∧ (∀ (j : Nat) (c : Value), cs[j]? = some c → c.oneCell' = true) ∧
      ∀ (j : Nat) (c : Value) (av : AV), cells[j]? = some av → cs[j]? = some c → Rep1 cx g σ w c av
  | av => Rep1 cx g σ w x av

def Rep (cx : Cx) (g : Nat → Value) (σ : St) (w : World) (x : Value) : AV → Prop
  | .tup avs => ∃ vs : Array Value, x = .tuple vs ∧ vs.size = avs.length ∧ ∀ (j : Nat) (c : Value) (av : AV), avs[j]? = some av → vs[j]? = some c → Rep2 cx g σ w c av
  | av => Rep2 cx g σ w x av

/-- All ids that it names are below nx. -/
def AV.bd1 (nx : Nat) : AV → Prop
  | .ptr id _ => id < nx
  | .own id _ => id < nx
  | .pe id _ _ _ => id < nx
  | _ => True
def AV.bd (nx : Nat) : AV → Prop
  | .agg cells => ∀ av ∈ cells, av.bd1 nx
  | .tup avs => ∀ av ∈ avs, match av with
    | .agg cells => ∀ a ∈ cells, a.bd1 nx
    | a => a.bd1 nx
  | av => av.bd1 nx
def Ob.bd (nx : Nat) : Ob → Prop
  | .box cells => ∀ av ∈ cells, av.bd1 nx
  | .arr _ _ _ => True

def ObOk (cx : Cx) (g : Nat → Value) (σ : St) (w : World) (id : Nat) : Ob → Prop
  | .box cells => ∃ b cs t, g id = .pointer (some ⟨b, 0, none⟩) ∧ cx.w0.heap.size ≤ b ∧ w.heap[b]? = some (.cells cs t (0, 0)) ∧ cs.size = cells.length ∧
      (∀ (j : Nat) (c : Value), cs[j]? = some c → c.oneCell' = true) ∧ ∀ (j : Nat) (c : Value) (av : AV), cells[j]? = some av → cs[j]? = some c → Rep1 cx g σ w c av
  | .arr e k rows => ∃ xs : List Value, w.ownsRow cx.w0.heap.size e k (g id) rows.length xs ∧ (∀ x ∈ xs, Value.oneCell' x = true) ∧ (∀ r ∈ rows, r.length = k) ∧
      ∀ (i j : Nat) (r : List D) (d : D) (x : Value), rows[i]? = some r → r[j]? = some d → xs[i * k + j]? = some x → Rd w (cx.own g σ) x d

/-- The frame and the world are as the state says, under the handles g. -/
structure SimG (cx : Cx) (σ : St) (a : Act) (w : World) (g : Nat → Value) (nx : Nat) : Prop where
  hnx : get σ .nx = .num nx
  size : a.tmps.size = cx.n
  defers : a.defers = []
  below : Below cx.w0.heap.size cx.w0 w
  own0 : ∀ b, cx.own0 b → b < cx.w0.heap.size
  slots : ∀ i av, get σ (.s i) = .av av → Rep cx g σ w (a.tmps.getD i undef) av ∧ av.bd nx
  objs : ∀ id o, get σ (.o id) = .ob o → id < nx ∧ ObOk cx g σ w id o ∧ o.bd nx
  sep : ∀ id id' o o' b, get σ (.o id) = .ob o → get σ (.o id') = .ob o' → blk (g id) = some b → blk (g id') = some b → id = id'

def Sim (cx : Cx) (σ : St) (a : Act) (w : World) : Prop := ∃ g nx, SimG cx σ a w g nx

/-- An object's handle stays fit for what is derived of it. -/
def ObLe (g g' : Nat → Value) (id : Nat) : Ob → Ob → Prop
  | .box _, .box _ => g' id = g id
  | .arr e k rows, .arr e' k' rows' => e' = e ∧ k' = k ∧ rows.length ≤ rows'.length ∧ (rows'.length = rows.length → g' id = g id)
  | _, _ => False

/-- From one state to a later one, for what was there (ids below nx). -/
structure Later (cx : Cx) (g g' : Nat → Value) (σ σ' : St) (w w' : World) (nx : Nat) : Prop where
  ext : Ext (cx.own g σ) w w'
  below : Below cx.w0.heap.size w w'
  own : ∀ b, cx.own g' σ' b → cx.own g σ b ∨ w.heap.size ≤ b
  obs : ∀ id o', id < nx → get σ' (.o id) = .ob o' → ∃ o, get σ (.o id) = .ob o ∧ ObLe g g' id o o'

variable {cx : Cx} {g g' : Nat → Value} {σ σ' : St} {w w' : World} {nx : Nat}

theorem RdCells.step {own own' : Nat → Prop} {ad : Addr} {ds : List D} (h : Ext own w w') (ho : ∀ b, own' b → own b ∨ w.heap.size ≤ b)
    (hc : ∀ j, w'.cell? (ad.add j) = w.cell? (ad.add j)) (hr : RdCells w own ad ds) : RdCells w' own' ad ds := by
  intro j d hj
  obtain ⟨u, hu, h1, hr⟩ := hr j d hj
  exact ⟨u, by rw [hc]; exact hu, h1, hr.step h ho⟩

theorem Rep1.step (hl : Later cx g g' σ σ' w w' nx) {x : Value} {av : AV} (hb : av.bd1 nx) (h : Rep1 cx g σ w x av) : Rep1 cx g' σ' w' x av := by
  cases av with
  | d y => exact Rd.step hl.ext hl.own h
  | pd ds =>
    obtain ⟨ad, hx, hw, hs, hc⟩ := h
    refine ⟨ad, hx, ?_, Nat.lt_of_lt_of_le hs hl.ext.size, hc.step hl.ext hl.own fun j => ?_⟩
    · rcases hw with hw | hw
      · exact .inl hw
      · refine .inr fun hx => ?_
        rcases hl.own _ hx with h' | h'
        · exact hw h'
        · omega
    · rcases hw with hw | hw
      · exact World.cell?_of_block (w := w) (hl.below.block _ (by rw [add_block]; exact hw))
      · exact hl.ext.cell (by rw [add_block]; exact hs) (by rw [add_block]; exact hw)
  | ptr id off =>
    intro cells hg
    obtain ⟨o, ho, hle⟩ := hl.obs id _ hb hg
    cases o with
    | box c0 =>
      obtain ⟨b, h1, h2⟩ := h c0 ho
      exact ⟨b, by rw [show g' id = g id from hle]; exact h1, h2⟩
    | arr e k rows => exact hle.elim
  | own id n =>
    intro e k rows hg
    obtain ⟨o, ho, hle⟩ := hl.obs id _ hb hg
    cases o with
    | box c0 => exact hle.elim
    | arr e0 k0 rows0 =>
      obtain ⟨h1, h2⟩ := h _ _ _ ho
      obtain ⟨_, _, h3, h4⟩ := hle
      exact ⟨by omega, fun hn => by rw [h4 (by omega)]; exact h2 (by omega)⟩
  | pe id n i f =>
    intro e k rows hg
    obtain ⟨o, ho, hle⟩ := hl.obs id _ hb hg
    cases o with
    | box c0 => exact hle.elim
    | arr e0 k0 rows0 =>
      obtain ⟨h1, h2⟩ := h _ _ _ ho
      obtain ⟨_, rfl, h3, h4⟩ := hle
      exact ⟨by omega, fun hn => by rw [h4 (by omega)]; exact h2 (by omega)⟩
  | any => trivial
  | agg c => exact h
  | tup c => exact h

theorem Rep2.step (hl : Later cx g g' σ σ' w w' nx) {x : Value} {av : AV} (hb : match av with
    | .agg cells => ∀ a ∈ cells, AV.bd1 nx a
    | a => a.bd1 nx) (h : Rep2 cx g σ w x av) : Rep2 cx g' σ' w' x av := by
  cases av with
  | agg cells =>
    obtain ⟨cs, hx, hs, h1, hr⟩ := h
    exact ⟨cs, hx, hs, h1, fun j c av hj hc => (hr j c av hj hc).step hl (hb av (List.mem_of_getElem? hj))⟩
  | d y => exact Rep1.step hl hb h
  | pd y => exact Rep1.step hl hb h
  | ptr i o => exact Rep1.step hl hb h
  | own i n => exact Rep1.step hl hb h
  | pe i n a b => exact Rep1.step hl hb h
  | any => exact Rep1.step (x := x) (av := .any) hl hb trivial
  | tup c => exact Rep1.step (x := x) (av := .tup c) hl hb h

theorem Rep.step (hl : Later cx g g' σ σ' w w' nx) {x : Value} {av : AV} (hb : av.bd nx) (h : Rep cx g σ w x av) : Rep cx g' σ' w' x av := by
  cases av with
  | tup avs =>
    obtain ⟨vs, hx, hs, hr⟩ := h
    refine ⟨vs, hx, hs, fun j c av hj hc => (hr j c av hj hc).step hl ?_⟩
    have := hb av (List.mem_of_getElem? hj)
    cases av <;> exact this
  | agg cells => exact Rep2.step (av := .agg cells) hl hb h
  | d y => exact Rep2.step (av := .d y) hl hb h
  | pd y => exact Rep2.step (av := .pd y) hl hb h
  | ptr i o => exact Rep2.step (av := .ptr i o) hl hb h
  | own i n => exact Rep2.step (av := .own i n) hl hb h
  | pe i n a b => exact Rep2.step (av := .pe i n a b) hl hb h
  | any => exact Rep2.step (x := x) (av := .any) hl hb h

theorem AV.bd1_mono {n m : Nat} (h : n ≤ m) {av : AV} (hb : av.bd1 n) : av.bd1 m := by
  cases av <;> simp only [AV.bd1] at hb ⊢ <;> omega
theorem AV.bd_mono {n m : Nat} (h : n ≤ m) {av : AV} (hb : av.bd n) : av.bd m := by
  cases av with
  | agg cells => exact fun a ha => AV.bd1_mono h (hb a ha)
  | tup avs =>
    intro a ha
    have := hb a ha
    cases a with
    | agg cells => exact fun a ha => AV.bd1_mono h (this a ha)
    | d y => exact AV.bd1_mono (av := .d y) h this
    | pd y => exact AV.bd1_mono (av := .pd y) h this
    | ptr i o => exact AV.bd1_mono (av := .ptr i o) h this
    | own i n => exact AV.bd1_mono (av := .own i n) h this
    | pe i n a b => exact AV.bd1_mono (av := .pe i n a b) h this
    | any => exact AV.bd1_mono (av := .any) h this
    | tup c => exact AV.bd1_mono (av := .tup c) h this
  | d y => exact AV.bd1_mono (av := .d y) h hb
  | pd y => exact AV.bd1_mono (av := .pd y) h hb
  | ptr i o => exact AV.bd1_mono (av := .ptr i o) h hb
  | own i n => exact AV.bd1_mono (av := .own i n) h hb
  | pe i n a b => exact AV.bd1_mono (av := .pe i n a b) h hb
  | any => exact AV.bd1_mono (av := .any) h hb

end Go.AX
