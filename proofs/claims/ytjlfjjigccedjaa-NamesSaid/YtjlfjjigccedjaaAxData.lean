/-
  Abstract data, and when a value reads as it in a world: what a world that only adds leaves as it was.
-/
import Derived.WalkKit
import Derived.Orders
import Derived.Below
import Derived.Laws.AppendOwn
import Derived.Laws.Sem
import Derived.Laws.Cells
namespace Go.AX
open Go.RowKit

/-- Data as a tree: a value without memory of ours, a slice (each element so many cells), a struct's cells. -/
inductive D where
  | v (x : Value)
  | sl (k : Nat) (rows : List (List D))
  | agg (cells : List D)

/-- In the world w the value reads as the tree; no block of 'own' is met. -/
inductive Rd (w : World) (own : Nat → Prop) : Value → D → Prop
  | v (x : Value) : Rd w own x (.v x)
  | nil (a : Option Addr) (cap k : Nat) : Rd w own (.slice a 0 cap) (.sl k [])
  | sl (ad : Addr) (cap k : Nat) (rows : List (List D)) (f : Nat → Nat → Value)
      (hb : ¬ own ad.block) (hs : ad.block < w.heap.size) (hcap : rows.length ≤ cap)
      (hk : ∀ r ∈ rows, r.length = k)
      (hc : ∀ i j r d, rows[i]? = some r → r[j]? = some d → w.cell? (ad.add (i * k + j)) = some (f i j))
      (h1 : ∀ i j r d, rows[i]? = some r → r[j]? = some d → (f i j).oneCell' = true)
      (hr : ∀ i j r d, rows[i]? = some r → r[j]? = some d → Rd w own (f i j) d) :
      Rd w own (.slice (some ad) rows.length cap) (.sl k rows)
  | agg (cs : Array Value) (ds : List D) (hl : cs.size = ds.length)
      (h1 : ∀ (j : Nat) (c : Value), cs[j]? = some c → c.oneCell' = true)
      (h : ∀ (j : Nat) (d : D) (c : Value), ds[j]? = some d → cs[j]? = some c → Rd w own c d) : Rd w own (.agg cs) (.agg ds)

theorem add_block (a : Addr) (n : Nat) : (a.add n).block = a.block := by
  unfold Addr.add; split <;> rfl
theorem add_add (a : Addr) (i j : Nat) : (a.add i).add j = a.add (i + j) := by
  unfold Addr.add
  by_cases hi : i = 0 <;> by_cases hj : j = 0 <;> simp [hi, hj, Nat.add_assoc]
theorem add_zero (a : Addr) : a.add 0 = a := rfl
theorem add_lit (b i j : Nat) : (⟨b, i, none⟩ : Addr).add j = ⟨b, i + j, none⟩ := by
  unfold Addr.add
  split
  · next h => subst h; rfl
  · rfl

/-- From w to w': what is not own, and was there, is as it was; nothing is gone. -/
structure Ext (own : Nat → Prop) (w w' : World) : Prop where
  size : w.heap.size ≤ w'.heap.size
  block : ∀ b, b < w.heap.size → ¬ own b → w'.heap[b]? = w.heap[b]?

theorem Ext.refl (own : Nat → Prop) (w : World) : Ext own w w := ⟨Nat.le_refl _, fun _ _ _ => rfl⟩
theorem Ext.cell {own : Nat → Prop} {w w' : World} (h : Ext own w w') {a : Addr} (hb : a.block < w.heap.size) (ho : ¬ own a.block) :
    w'.cell? a = w.cell? a := World.cell?_of_block (w := w) (h.block _ hb ho)
theorem Ext.of_below {own : Nat → Prop} {w w' : World} (h : Below w.heap.size w w') : Ext own w w' := ⟨h.size, fun b hb _ => h.block b hb⟩

theorem Rd.step {own own' : Nat → Prop} {w w' : World} (h : Ext own w w') (ho : ∀ b, own' b → own b ∨ w.heap.size ≤ b)
    {x : Value} {d : D} (hr : Rd w own x d) : Rd w' own' x d := by
  induction hr with
  | v x => exact .v x
  | nil a cap k => exact .nil a cap k
  | sl ad cap k rows f hb hs hcap hk hc h1 hr ih =>
    refine .sl ad cap k rows f (fun hx => ?_) (Nat.lt_of_lt_of_le hs h.size) hcap hk (fun i j r d hi hj => ?_) h1 ih
    · rcases ho _ hx with h' | h'
      · exact hb h'
      · omega
    · rw [h.cell (by rw [add_block]; exact hs) (by rw [add_block]; exact hb)]
      exact hc i j r d hi hj
  | agg cs ds hl h1 h' ih => exact .agg cs ds hl h1 ih

theorem Rd.less {own own' : Nat → Prop} {w : World} (ho : ∀ b, own' b → own b) {x : Value} {d : D} (hr : Rd w own x d) : Rd w own' x d :=
  hr.step (Ext.refl own w) fun b hb => .inl (ho b hb)

/-- The nil slice. -/
abbrev nilS : Value := .slice none 0 0

theorem Rd.nilS_sl {own : Nat → Prop} {w : World} {x : Value} (k : Nat) (h : Rd w own x (.v nilS)) : Rd w own x (.sl k []) := by
  cases h with
  | v => exact .nil none 0 k

end Go.AX
