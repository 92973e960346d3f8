/-
  The order of a region: whichever its edges allow.
-/
import Derived.Test.YtjlfjjigccedjaaAxRegion
namespace Go.AX
open Go.RowKit

variable {cx : Cx} {σ σ' : St} {a a' : Act} {w w' : World} {ops : Array Oper}

def Eqv (σ σ' : St) : Prop := ∀ k, get σ k = get σ' k
theorem Eqv.refl (σ : St) : Eqv σ σ := fun _ => rfl
theorem Eqv.trans {a b c : St} (h : Eqv a b) (h' : Eqv b c) : Eqv a c := fun k => (h k).trans (h' k)
theorem Eqv.symm {a b : St} (h : Eqv a b) : Eqv b a := fun k => (h k).symm

theorem Eqv.put (h : Eqv σ σ') (l : List (Key × Val)) : Eqv (l ++ σ) (l ++ σ') := fun k => by
  rw [get_append, get_append, h k]

theorem App.eqv (h : Eqv σ σ') {l : List (Key × Val)} (ha : App σ l) : App σ' l := App.of fun p hp => (h p.1).symm.trans (ha.mem p hp)

theorem Run.eqv : ∀ {ts : List Tr} {σ σ' : St}, Eqv σ σ' → Run ts σ → Run ts σ' ∧ Eqv (fin ts σ) (fin ts σ')
  | [], _, _, h, _ => ⟨trivial, h⟩
  | t :: _, _, _, h, hr => by
    obtain ⟨h1, h2⟩ := Run.eqv (h.put t.wr) hr.2
    exact ⟨⟨hr.1.eqv h, h1⟩, h2⟩

theorem Sim.eqv (hs : Sim cx σ a w) (h : Eqv σ σ') : Sim cx σ' a w := by
  have hs' := hs
  obtain ⟨g, nx, hg⟩ := hs'
  refine hs.less ⟨fun i av hi => (h _).trans hi, fun id o ho => (h _).trans ho, nx, nx, hg.hnx, (h _).symm.trans hg.hnx, Nat.le_refl _, fun i av hi => ?_, fun id o ho => ?_⟩
  · exact (hg.slots i av ((h _).trans hi)).2
  · have := hg.objs id o ((h _).trans ho)
    exact ⟨this.1, this.2.2⟩

/-- Neither writes what the other one reads or writes. -/
structure Apart (s t : Tr) : Prop where
  ww : ∀ k, k ∈ s.wr.map (·.1) → k ∈ t.wr.map (·.1) → False
  wr : ∀ k, k ∈ s.wr.map (·.1) → k ∈ t.rd.map (·.1) → False
  rw : ∀ k, k ∈ s.rd.map (·.1) → k ∈ t.wr.map (·.1) → False

theorem Run.swap {s t : Tr} {rest : List Tr} {σ : St} (hi : Apart s t) (h : Run (s :: t :: rest) σ) :
    Run (t :: s :: rest) σ ∧ Eqv (fin (s :: t :: rest) σ) (fin (t :: s :: rest) σ) := by
  obtain ⟨h1, h2, h3⟩ := h
  have he : Eqv (t.wr ++ (s.wr ++ σ)) (s.wr ++ (t.wr ++ σ)) := fun k => by
    rw [get_append, get_append, get_append, get_append]
    by_cases hs : k ∈ s.wr.map (·.1)
    · have ht : ¬ k ∈ t.wr.map (·.1) := fun ht => hi.ww k hs ht
      simp [hs, ht]
    · simp [hs]
  obtain ⟨h4, h5⟩ := Run.eqv he h3
  exact ⟨⟨(App.drop hi.wr).1 h2, (App.drop fun k hk hk' => hi.rw k hk' hk).2 h1, h4⟩, h5⟩

theorem Run.front {t : Tr} {rest : List Tr} : ∀ {ts : List Tr} {σ : St}, (∀ s ∈ ts, Apart s t) → Run (ts ++ t :: rest) σ →
    Run (t :: (ts ++ rest)) σ ∧ Eqv (fin (ts ++ t :: rest) σ) (fin (t :: (ts ++ rest)) σ)
  | [], _, _, h => ⟨h, Eqv.refl _⟩
  | s :: ts, σ, hi, h => by
    obtain ⟨h1, h2⟩ := Run.front (rest := rest) (fun x hx => hi x (List.mem_cons_of_mem _ hx)) h.2
    have h3 : Run (s :: t :: (ts ++ rest)) σ := ⟨h.1, h1⟩
    obtain ⟨h4, h5⟩ := Run.swap (hi s (List.mem_cons_self ..)) h3
    exact ⟨h4, Eqv.trans h2 h5⟩

/-- The places that an operation must wait for. -/
def edges (o : Oper) : List Nat := (o.after.toList.filter fun e => Region.binds .any e).map (·.on)

inductive Anc (l : List Oper) : Nat → Nat → Prop
  | one {i j : Nat} {o : Oper} (ho : l[i]? = some o) (h : j ∈ edges o) : Anc l j i
  | step {i j m : Nat} {o : Oper} (ho : l[i]? = some o) (h : m ∈ edges o) (hm : Anc l j m) : Anc l j i

/-- What the check gives. -/
structure Fit (l : List Oper) (ts : List Tr) : Prop where
  down : ∀ i o, l[i]? = some o → ∀ j ∈ edges o, j < i
  apart : ∀ i j s t, j < i → ts[j]? = some s → ts[i]? = some t → Anc l j i ∨ Apart s t

theorem edges_all {o : Oper} {listed : Array Bool} : (o.after.all fun e => !Region.binds .any e || listed.getD e.on false) = true ↔ ∀ j ∈ edges o, listed.getD j false = true := by
  rw [Array.all_eq_true_iff_forall_mem]
  simp only [edges, List.mem_map, List.mem_filter, Bool.or_eq_true, Bool.not_eq_true']
  constructor
  · rintro h j ⟨e, ⟨he, hb⟩, rfl⟩
    rcases h e (Array.mem_toList_iff.1 he) with h | h
    · rw [hb] at h; cases h
    · exact h
  · intro h e he
    cases hb : Region.binds .any e
    · exact .inl rfl
    · exact .inr (h e.on ⟨e, ⟨Array.mem_toList_iff.2 he, hb⟩, rfl⟩)

theorem mem_ready {listed : Array Bool} {i : Nat} : i ∈ Region.ready .any ops listed ↔ listed.getD i true = false ∧ ∃ o, ops[i]? = some o ∧ ∀ j ∈ edges o, listed.getD j false = true := by
  simp only [Region.ready, List.mem_filter, List.mem_range, Bool.and_eq_true, Bool.not_eq_true']
  constructor
  · rintro ⟨hi, h1, h2⟩
    have ho : ops[i]? = some ops[i] := Array.getElem?_eq_getElem hi
    rw [ho] at h2
    exact ⟨h1, _, ho, edges_all.1 (by simpa using h2)⟩
  · rintro ⟨h1, o, ho, h2⟩
    refine ⟨(Array.getElem?_eq_some_iff.1 ho).1, h1, ?_⟩
    rw [ho]
    simpa using edges_all.2 h2

/-- The transitions that are still to come, in the order of the text. -/
def left (ts : List Tr) (listed : Array Bool) (k : Nat) : List Tr := match ts with
  | [] => []
  | t :: ts => if listed.getD k true = true then left ts listed (k + 1) else t :: left ts listed (k + 1)

theorem left_split {ts : List Tr} {listed : Array Bool} : ∀ {k i : Nat} {t : Tr}, ts[i]? = some t → listed.getD (k + i) true = false → k + i < listed.size →
    ∃ pre post, left ts listed k = pre ++ t :: post ∧ left ts (listed.setIfInBounds (k + i) true) k = pre ++ post ∧
      ∀ s ∈ pre, ∃ j, j < i ∧ ts[j]? = some s ∧ listed.getD (k + j) true = false := by
  induction ts with
  | nil => intro k i t h; simp at h
  | cons x ts ih =>
    intro k i t ht hl hsz
    cases i with
    | zero =>
      obtain rfl : x = t := by simpa using ht
      have h0 : listed.getD k true = false := hl
      have htail : ∀ m, k < m → left ts (listed.setIfInBounds k true) m = left ts listed m := by
        clear ih ht
        induction ts with
        | nil => intro m _; rfl
        | cons y ts ih2 =>
          intro m hm
          have hne : (listed.setIfInBounds k true).getD m true = listed.getD m true := by
            simp only [Array.getD_eq_getD_getElem?, Array.getElem?_setIfInBounds, if_neg (show ¬ k = m by omega)]
          simp only [left, hne, ih2 (m + 1) (by omega)]
      refine ⟨[], left ts listed (k + 1), by simp [left, h0], ?_, by simp⟩
      have h1 : (listed.setIfInBounds k true).getD k true = true := by
        have : k < listed.size := hsz
        simp [Array.getD_eq_getD_getElem?, this]
      simp only [Nat.add_zero, left, h1, if_true, List.nil_append]
      exact htail (k + 1) (by omega)
    | succ i =>
      obtain ⟨pre, post, h1, h2, h3⟩ := ih (k := k + 1) (i := i) (t := t) (by simpa using ht) (by rw [show k + 1 + i = k + (i + 1) by omega]; exact hl) (by omega)
      have hne : (listed.setIfInBounds (k + (i + 1)) true).getD k true = listed.getD k true := by
        simp only [Array.getD_eq_getD_getElem?, Array.getElem?_setIfInBounds, if_neg (show ¬ k + (i + 1) = k by omega)]
      rw [show k + 1 + i = k + (i + 1) by omega] at h2
      by_cases hx : listed.getD k true = true
      · refine ⟨pre, post, by simp [left, hx, h1], by simp only [left, hne, hx, if_true]; exact h2, fun s hs => ?_⟩
        obtain ⟨j, h4, h5, h6⟩ := h3 s hs
        exact ⟨j + 1, by omega, by simpa using h5, by rw [show k + (j + 1) = k + 1 + j by omega]; exact h6⟩
      · refine ⟨x :: pre, post, by simp [left, hx, h1], by simp only [left, hne, hx]; rw [if_neg (by simp), h2]; rfl, fun s hs => ?_⟩
        cases hs with
        | head => exact ⟨0, by omega, rfl, by simpa using hx⟩
        | tail _ hs =>
          obtain ⟨j, h4, h5, h6⟩ := h3 s hs
          exact ⟨j + 1, by omega, by simpa using h5, by rw [show k + (j + 1) = k + 1 + j by omega]; exact h6⟩

theorem left_nil {ts : List Tr} {listed : Array Bool} : ∀ {k : Nat}, left ts listed k = [] → ∀ i, i < ts.length → listed.getD (k + i) true = true := by
  induction ts with
  | nil => intro k _ i hi; simp at hi
  | cons t ts ih =>
    intro k h i hi
    by_cases hx : listed.getD k true = true
    · simp only [left, hx, if_true] at h
      cases i with
      | zero => exact hx
      | succ i => rw [show k + (i + 1) = k + 1 + i by omega]; exact ih h i (by simpa using hi)
    · simp [left, hx] at h

theorem left_ne {ts : List Tr} {listed : Array Bool} : ∀ {k : Nat}, left ts listed k ≠ [] → ∃ i, i < ts.length ∧ listed.getD (k + i) true = false ∧ ∀ j, j < i → listed.getD (k + j) true = true := by
  induction ts with
  | nil => intro k h; exact (h rfl).elim
  | cons t ts ih =>
    intro k h
    by_cases hx : listed.getD k true = true
    · simp only [left, hx, if_true] at h
      obtain ⟨i, h1, h2, h3⟩ := ih h
      refine ⟨i + 1, by simpa using h1, by rw [show k + (i + 1) = k + 1 + i by omega]; exact h2, fun j hj => ?_⟩
      cases j with
      | zero => exact hx
      | succ j => rw [show k + (j + 1) = k + 1 + j by omega]; exact h3 j (by omega)
    · exact ⟨0, by simp, by simpa using hx, by simp⟩

theorem getD_tf {listed : Array Bool} {j : Nat} (hj : j < listed.size) : listed.getD j true = listed.getD j false := by
  simp [Array.getD, hj]

def Closed (ops : Array Oper) (listed : Array Bool) : Prop := ∀ i o, ops[i]? = some o → i < listed.size → listed.getD i true = true → ∀ j ∈ edges o, listed.getD j false = true

theorem Closed.anc {listed : Array Bool} (hc : Closed ops listed) (hs : listed.size = ops.size) {i j : Nat} (h : Anc ops.toList j i) (hi : listed.getD i true = true) (hl : i < ops.size) :
    listed.getD j false = true := by
  induction h with
  | one ho h => exact hc _ _ (by simpa using ho) (by omega) hi _ h
  | step ho h hm ih =>
    rename_i i' j' m o
    have h1 := hc _ _ (by simpa using ho) (by omega) hi _ h
    have hm' : m < ops.size := by
      rcases Nat.lt_or_ge m ops.size with h2 | h2
      · exact h2
      · rw [← hs] at h2
        rw [Array.getD_eq_getD_getElem?, Array.getElem?_eq_none h2] at h1
        cases h1
    exact ih (by rw [getD_tf (by omega)]; exact h1) hm'

theorem wpAny_of {ts : List Tr} {Q : Exit → Act → World → Prop} (hA : All2 cx ops ops.toList ts) (hlen : ts.length = ops.size) (hfit : Fit ops.toList ts) :
    ∀ (fuel : Nat) (listed : Array Bool) (σ : St) (a : Act) (w : World), listed.size = ops.size → Closed ops listed → Run (left ts listed 0) σ → (left ts listed 0).length = fuel → Sim cx σ a w →
      (∀ a' w', Sim cx (fin (left ts listed 0) σ) a' w' → Q .normal a' w') → wpAny cx.P .any ops Q fuel listed a w := by
  intro fuel
  induction fuel with
  | zero =>
    intro listed σ a w hsz hcl hrun hl hs hq
    have hnil : left ts listed 0 = [] := List.eq_nil_of_length_eq_zero hl
    refine ⟨?_, hq a w (by rw [hnil]; exact hs)⟩
    refine List.eq_nil_iff_forall_not_mem.2 fun i hi => ?_
    obtain ⟨h1, o, ho, _⟩ := mem_ready.1 hi
    have := left_nil hnil i (by rw [hlen]; exact (Array.getElem?_eq_some_iff.1 ho).1)
    rw [Nat.zero_add, h1] at this
    cases this
  | succ fuel ih =>
    intro listed σ a w hsz hcl hrun hl hs hq
    refine ⟨fun hr => ?_, fun i hi => ?_⟩
    · have hne : left ts listed 0 ≠ [] := by intro e; rw [e] at hl; simp at hl
      obtain ⟨i, h1, h2, h3⟩ := left_ne hne
      rw [Nat.zero_add] at h2
      have hi : i < ops.size := by omega
      have hm : i ∈ Region.ready .any ops listed := mem_ready.2 ⟨h2, ops[i], Array.getElem?_eq_getElem hi, fun j hj => by
        have hj' := hfit.down i ops[i] (by simp [hi]) j hj
        have := h3 j hj'
        rw [Nat.zero_add] at this
        rw [← getD_tf (by omega)]; exact this⟩
      rw [hr] at hm
      cases hm
    · obtain ⟨h1, o, ho, h2⟩ := mem_ready.1 hi
      have hi' : i < ops.size := (Array.getElem?_eq_some_iff.1 ho).1
      obtain ⟨t, ht, htr⟩ := hA.at (i := i) (o := o) (by simpa using ho)
      obtain ⟨pre, post, h3, h4, h5⟩ := left_split (k := 0) ht (by rw [Nat.zero_add]; exact h1) (by omega)
      rw [Nat.zero_add] at h4
      rw [h3] at hrun hq hl
      have hap : ∀ s ∈ pre, Apart s t := by
        intro s hsm
        obtain ⟨j, h6, h7, h8⟩ := h5 s hsm
        rw [Nat.zero_add] at h8
        rcases hfit.apart i j s t h6 h7 ht with h9 | h9
        · exfalso
          have hanc : ∀ m, m ∈ edges o → Anc ops.toList j m → False := fun m hm hma => by
            have hml : listed.getD m false = true := h2 m hm
            have hms := hfit.down i o (by simpa using ho) m hm
            have := hcl.anc hsz hma (by rw [getD_tf (by omega)]; exact hml) (by omega)
            rw [← getD_tf (by omega)] at this
            rw [h8] at this; cases this
          cases h9 with
          | one ho' h =>
            rw [show ops.toList[i]? = some o by simpa using ho] at ho'
            cases ho'
            have := h2 j h
            rw [← getD_tf (by omega)] at this
            rw [h8] at this; cases this
          | step ho' h hm =>
            rw [show ops.toList[i]? = some o by simpa using ho] at ho'
            cases ho'
            exact hanc _ h hm
        · exact h9
      obtain ⟨h6, h7⟩ := Run.front hap hrun
      unfold wpOp
      rw [ho]
      have hstep := htr σ a w (wpAny cx.P .any ops Q fuel (listed.setIfInBounds i true)) Q hs h6.1 fun a' w' hs' => by
        refine ih _ _ a' w' (by simp [hsz]) (fun i' o' ho' hi2 hli j hj => ?_) (by rw [h4]; exact h6.2) (by rw [h4]; simp at hl ⊢; omega) hs' (fun a2 w2 hs2 => hq a2 w2 ?_)
        · by_cases he : i' = i
          · subst he
            rw [ho] at ho'
            cases ho'
            have hne : j ≠ i' := fun e => by have := hfit.down i' o (by simpa using ho) j hj; omega
            simp only [Array.getD_eq_getD_getElem?, Array.getElem?_setIfInBounds, if_neg (show ¬ i' = j from fun e => hne e.symm)]
            simpa only [Array.getD_eq_getD_getElem?] using h2 j hj
          · have hli' : listed.getD i' true = true := by
              simpa only [Array.getD_eq_getD_getElem?, Array.getElem?_setIfInBounds, if_neg (show ¬ i = i' from fun e => he e.symm)] using hli
            have hjl := hcl i' o' ho' (by simpa using hi2) hli' j hj
            by_cases hji : i = j
            · subst hji
              simp [Array.getD_eq_getD_getElem?, hsz, hi']
            · simpa only [Array.getD_eq_getD_getElem?, Array.getElem?_setIfInBounds, if_neg hji] using hjl
        · rw [h4] at hs2
          exact hs2.eqv h7.symm
      dsimp only
      split
      · rename_i hw; rw [if_pos hw] at hstep; exact .inl hstep
      · rename_i hw; rw [if_neg hw] at hstep; exact hstep

theorem Sim.drawn (hs : Sim cx σ a w) : Sim cx σ a { w with drawn := w.drawn + 1 } := by
  obtain ⟨g, nx, h⟩ := hs
  have hb : Below w.heap.size w { w with drawn := w.drawn + 1 } := ⟨rfl, rfl, rfl, Nat.le_refl _, fun _ _ => rfl⟩
  have hl : Later cx g g σ σ w { w with drawn := w.drawn + 1 } nx := Later.same (fun _ => rfl) (Ext.of_below hb) (hb.mono h.below.size)
  exact ⟨g, nx, h.next hl h.hnx (Nat.le_refl _) h.size h.defers (hb.mono h.below.size) (fun i av hi => .inl ⟨hi, rfl⟩) (fun id o ho => .inl ⟨ho, rfl, fun _ _ => rfl⟩) h.sep⟩

theorem wp_draw {ts : List Tr} {id : Nat} {Q : Exit → Act → World → Prop} (hm : cx.P.follows .mixedOrders = true) (h : Steps' cx ops ops.toList σ ts σ') (hfit : Fit ops.toList ts)
    (hs : Sim cx σ a w) (hq : ∀ a' w', Sim cx σ' a' w' → Q .normal a' w') : (Code.region id ops true).wp cx.P Q a w := by
  have hlen : ∀ {l : List Oper} {ts : List Tr}, All2 cx ops l ts → ts.length = l.length := by
    intro l
    induction l with
    | nil => intro ts h; cases ts with
      | nil => rfl
      | cons t ts => exact h.elim
    | cons o l ih => intro ts h; cases ts with
      | nil => exact h.elim
      | cons t ts => simp [ih h.2]
  have hl : ts.length = ops.size := by simpa using hlen h.trs
  have hleft : ∀ (ts : List Tr) (n k : Nat), k + ts.length ≤ n → left ts (Array.replicate n false) k = ts := by
    intro ts
    induction ts with
    | nil => intro n k _; rfl
    | cons t ts ih =>
      intro n k hk
      simp at hk
      have h0 : (Array.replicate n false).getD k true = false := by simp [Array.getD, show k < n by omega]
      simp only [left, h0]
      rw [if_neg (by simp), ih n (k + 1) (by omega)]
  have hl0 : left ts (Array.replicate ops.size false) 0 = ts := hleft ts _ _ (by omega)
  obtain ⟨h1, h2⟩ := h.run
  refine wp_region_any hm (wpAny_of h.trs hl hfit ops.size _ σ a _ (by simp) (fun i o _ hi hli => ?_) (by rw [hl0]; exact h1) (by rw [hl0]; exact hl) hs.drawn (by rw [hl0, h2]; exact hq))
  have : i < ops.size := by simpa using hi
  simp [Array.getD, this] at hli

end Go.AX
