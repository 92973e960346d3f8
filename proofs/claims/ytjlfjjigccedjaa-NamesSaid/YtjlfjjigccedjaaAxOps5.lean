/-
  Slices that are built, cut, and grow.
-/
import Derived.Test.YtjlfjjigccedjaaAxOps4
import Derived.Maps.AppendAt
namespace Go.AX
open Go.RowKit

variable {cx : Cx} {g : Nat → Value} {σ : St} {a : Act} {w : World} {nx : Nat}
variable {ty : TypeId} {pos : String} {af : Array Edge} {gd : Option (Nat × Bool)} {d : Nat}

theorem flat_get {α : Type} {k : Nat} : ∀ {rs : List (List α)} {i j : Nat} {r : List α} {x : α}, (∀ r ∈ rs, r.length = k) → rs[i]? = some r → r[j]? = some x → rs.flatten[i * k + j]? = some x
  | [], i, j, r, x, _, h, _ => by simp at h
  | q :: rs, i, j, r, x, hk, hi, hj => by
    have hq : q.length = k := hk q (List.mem_cons_self ..)
    cases i with
    | zero =>
      simp at hi
      subst hi
      have hjl := (List.getElem?_eq_some_iff.1 hj).1
      rw [Nat.zero_mul, Nat.zero_add, List.flatten_cons, List.getElem?_append_left hjl]
      exact hj
    | succ i =>
      have := flat_get (rs := rs) (fun r hr => hk r (List.mem_cons_of_mem _ hr)) (by simpa using hi) hj
      rw [List.flatten_cons, List.getElem?_append_right (by rw [hq, Nat.add_mul]; omega), hq, show (i + 1) * k + j - k = i * k + j by rw [Nat.add_mul]; omega]
      exact this

theorem flat_len {α : Type} {k : Nat} : ∀ {rs : List (List α)}, (∀ r ∈ rs, r.length = k) → rs.flatten.length = rs.length * k
  | [], _ => by simp
  | q :: rs, h => by
    rw [List.flatten_cons, List.length_append, flat_len (fun r hr => h r (List.mem_cons_of_mem _ hr)), h q (List.mem_cons_self ..), List.length_cons, Nat.add_mul]
    omega

def numb : Nat → List (List D) → List (Nat × List D)
  | _, [] => []
  | i, r :: rs => (i, r) :: numb (i + 1) rs

theorem fill_rows {k n : Nat} : ∀ {rs : List (List D)} {i : Nat} {ds : List D}, (∀ r ∈ rs, r.length = k) → ds.length = n * k → i + rs.length ≤ n →
    fillD (fun i => some (i * k, k)) ds (numb i rs) = some (ds.take (i * k) ++ rs.flatten ++ ds.drop ((i + rs.length) * k))
  | [], i, ds, _, _, _ => by simp [fillD, numb]
  | r :: rs, i, ds, hk, hl, hn => by
    have hr := hk r (List.mem_cons_self ..)
    simp only [List.length_cons] at hn
    have hle : (i + 1) * k ≤ n * k := Nat.mul_le_mul_right _ (by omega)
    rw [Nat.add_mul, Nat.one_mul] at hle
    have e1 : Nat.beq r.length k = true := by simpa using hr
    have e2 : Nat.ble (i * k + r.length) ds.length = true := by simp [hr, hl]; omega
    have hsl : (splice ds (i * k) r).length = n * k := by simp [splice, hr]; omega
    have ih := fill_rows (rs := rs) (i := i + 1) (ds := splice ds (i * k) r) (fun r hr => hk r (List.mem_cons_of_mem _ hr)) hsl (by omega)
    have t1 : (ds.take (i * k)).length = i * k := by simp; omega
    simp only [numb, fillD, e1, e2]
    rw [ih]
    congr 1
    have h3 : (splice ds (i * k) r).take ((i + 1) * k) = ds.take (i * k) ++ r := by
      unfold splice
      rw [List.take_append_of_le_length (by simp [hr, Nat.add_mul]; omega), List.take_of_length_le (by simp [hr, Nat.add_mul]; omega)]
    have h4 : (splice ds (i * k) r).drop ((i + 1 + rs.length) * k) = ds.drop ((i + (rs.length + 1)) * k) := by
      unfold splice
      have hge : (ds.take (i * k) ++ r).length ≤ (i + 1 + rs.length) * k := by
        rw [List.length_append, t1, hr]
        have : (i + 1) * k ≤ (i + 1 + rs.length) * k := Nat.mul_le_mul_right _ (by omega)
        rw [Nat.add_mul, Nat.one_mul] at this
        exact this
      rw [List.drop_append, List.drop_eq_nil_of_le hge, List.nil_append, List.drop_drop, List.length_append, t1, hr]
      congr 1
      have : (i + (rs.length + 1)) = i + 1 + rs.length := by omega
      rw [this]
      have h5 : i * k + k ≤ (i + 1 + rs.length) * k := by rw [List.length_append, t1, hr] at hge; exact hge
      omega
    rw [h3, h4]
    simp [List.append_assoc]

/-- A new row that reads as the rows. -/
theorem rd_new {own : Nat → Prop} {k : Nat} {e : TypeId} {cs : Array Value} {rs : List (List D)} (hown : ∀ b, own b → b < w.heap.size) (h : RdL w own cs.toList rs.flatten) (hk : ∀ r ∈ rs, r.length = k) (n : Nat) (hn : n = rs.length) :
    Rd (w.alloc (.cells cs e)) own (.slice (some ⟨w.heap.size, 0, none⟩) n n) (.sl k rs) := by
  subst hn
  have hcell : ∀ j, (w.alloc (.cells cs e)).cell? ((⟨w.heap.size, 0, none⟩ : Addr).add j) = cs[j]? := fun j => by
    rw [add_lit, Nat.zero_add]; exact World.cell?_alloc_new ..
  obtain ⟨h1, h2, h3⟩ := h
  have hget : ∀ i j r x, rs[i]? = some r → r[j]? = some x → ∃ c, cs[i * k + j]? = some c ∧ rs.flatten[i * k + j]? = some x := fun i j r x hi hj => by
    have hf := flat_get hk hi hj
    have := (List.getElem?_eq_some_iff.1 hf).1
    have hl : i * k + j < cs.size := by
      have : cs.toList.length = rs.flatten.length := h1
      simp only [Array.length_toList] at this
      omega
    exact ⟨cs[i * k + j], Array.getElem?_eq_getElem hl, hf⟩
  refine .sl _ _ k rs (fun i j => cs.getD (i * k + j) undef) (fun hb => ?_) (by simp) (Nat.le_refl _) hk (fun i j r x hi hj => ?_) (fun i j r x hi hj => ?_) fun i j r x hi hj => ?_
  · have := hown _ hb
    exact absurd this (Nat.lt_irrefl _)
  · obtain ⟨c, hc, _⟩ := hget i j r x hi hj
    rw [hcell, hc]; simp [Array.getD_eq_getD_getElem?, hc]
  · obtain ⟨c, hc, _⟩ := hget i j r x hi hj
    simp only [Array.getD_eq_getD_getElem?, hc, Option.getD_some]
    exact h2 c (List.mem_of_getElem? (by simpa using hc))
  · obtain ⟨c, hc, hf⟩ := hget i j r x hi hj
    simp only [Array.getD_eq_getD_getElem?, hc, Option.getD_some]
    have hrd := h3 _ c x hf (by simpa using hc)
    exact hrd.step ⟨by simp, fun b hb _ => Below.heap_alloc _ _ _ hb⟩ fun b hb => .inl hb

theorem ok_buildSlice {t e : TypeId} {n k : Nat} {ps : List (Nat × Operand)} {rs : List (List D)} {l : List (Key × Val)} {ti te : TI} (hn : d < cx.n) (ht : tget cx.T t = some ti) (hk : ti.kind = .sl e k)
    (hte : tget cx.T e = some te) (h1 : ∀ c ∈ te.zero, Value.oneCell' c = true) (hp : Parts ps (numb 0 rs) l) (hrs : ∀ r ∈ rs, r.length = k) (hnl : n = rs.length) (hsm : n * k ≤ 65536) (hpos : n * k ≠ 0) :
    OpOk cx ⟨some d, .buildSlice t n ⟨ps⟩, ty, pos, af, gd⟩ ⟨l, [(.s d, .av (.d (.sl k rs)))]⟩ := by
  refine ok_val rfl hn fun σ a w g nx hs hr => ?_
  have hF := (cx.hT t ti ht).kind
  rw [hk] at hF
  obtain ⟨hu, ⟨ie, hie, hks⟩, _⟩ := hF
  obtain ⟨ie', hie', hes, _, z, hz, hzc⟩ := (cx.hT e te hte).info
  rw [hie] at hie'
  cases hie'
  obtain ⟨h2, h3⟩ := hp.ok hs hr
  have hzl : z.cells.size = k := by
    have := (cx.hT e te hte).len
    rw [← hzc] at this
    simp at this
    omega
  have hinit : RdL w (cx.own g σ) ((Array.range (n * ie.size)).map (z.cells[· % z.cells.size]!)).toList (((Array.range (n * ie.size)).map (z.cells[· % z.cells.size]!)).toList.map D.v) := by
    refine zero_rd fun c hc => ?_
    simp only [Array.toList_map, List.mem_map] at hc
    obtain ⟨q, _, rfl⟩ := hc
    refine h1 _ ?_
    rw [← hzc]
    have hlt : q % z.cells.size < z.cells.size := Nat.mod_lt _ (by rw [hzl]; exact Nat.pos_of_ne_zero fun e => hpos (by rw [e, Nat.mul_zero]))
    rw [getElem!_pos z.cells _ hlt]
    simp
  have hfr := fill_rows (k := k) (n := n) (rs := rs) (i := 0) (ds := ((Array.range (n * ie.size)).map (z.cells[· % z.cells.size]!)).toList.map D.v) hrs (by simp [hks]) (by omega)
  rw [Nat.zero_mul, List.take_zero, List.nil_append, List.drop_eq_nil_of_le (by simp [hks, hnl]), List.append_nil] at hfr
  obtain ⟨cs', h4, h5⟩ := fill_ok (cs := (Array.range (n * ie.size)).map (z.cells[· % z.cells.size]!)) h2 h3 hinit hfr
  have hrun := run_buildSlice (P := cx.P) w t e n (ps.map fun p => (p.1, a.eval p.2)).toArray cs' ie z hu hie hz (by rw [hks]; omega) (by rw [hks]; exact hpos) (by rw [← h4, hks])
  refine ⟨.slice (some ⟨w.heap.size, 0, none⟩) n n, w.alloc (.cells cs' e), ?_, (Below.refl _ _).alloc (Nat.le_refl _) _, rd_new (fun b hb => own_lt hs hb) h5 hrs n hnl, trivial⟩
  simp only [execOp, List.map_toArray, Sem.run_bind, hrun, Result.andThen_ok, Sem.run_pure]

end Go.AX
