/-
  What a slot holds, told otherwise; pieces of slices; a struct's field.
-/
import Derived.Test.YtjlfjjigccedjaaAxOps6
namespace Go.AX
open Go.RowKit

variable {cx : Cx} {g : Nat → Value} {σ σ' : St} {a : Act} {w : World} {nx : Nat}
variable {ty : TypeId} {pos : String} {af : Array Edge} {gd : Option (Nat × Bool)} {d : Nat}

/-- One slot told otherwise, the world as it is. -/
theorem Sim.retell (hs : SimG cx σ a w g nx) {i : Nat} {av : AV} (hr : Rep cx g σ w (a.tmps.getD i undef) av) (hb : av.bd nx) : Sim cx ((.s i, .av av) :: σ) a w := by
  have hos : ∀ id, get ((.s i, .av av) :: σ) (.o id) = get σ (.o id) := fun id => get_cons_ne (by simp)
  have hl : Later cx g g σ ((.s i, .av av) :: σ) w w nx := Later.same hos (Ext.refl _ _) (Below.refl _ _)
  refine ⟨g, nx, hs.next hl ((get_cons_ne (by simp)).trans hs.hnx) (Nat.le_refl _) hs.size hs.defers (Below.refl _ _) (fun j av' hj => ?_) (fun id o ho => .inl ⟨by rw [← hos]; exact ho, rfl, fun _ _ => rfl⟩) (fun id id' o o' b h1 h2 => ?_)⟩
  · by_cases hij : i = j
    · subst hij
      rw [get_cons_same] at hj
      cases hj
      exact .inr ⟨hr.step hl hb, hb⟩
    · rw [get_cons_ne (by simpa using hij)] at hj
      exact .inl ⟨hj, rfl⟩
  · rw [hos] at h1 h2
    exact hs.sep id id' o o' b h1 h2

theorem stut_le {i : Nat} {x y : D} (h : DLe x y) : Stut cx ⟨[(.s i, .av (.d x))], [(.s i, .av (.d y))]⟩ := by
  rintro σ a w ⟨g, nx, hs⟩ hr
  exact Sim.retell hs (av := .d y) (Rd.le h (hs.slots i _ hr.1).1) trivial

theorem Less.drop (hs : Sim cx σ a w) (id : Nat) : Less σ ((.o id, .none) :: σ) := by
  obtain ⟨g, nx, hs⟩ := hs
  refine ⟨fun i av hi => (get_cons_ne (by simp)).symm.trans hi, fun j o ho => ?_, nx, nx, hs.hnx, (get_cons_ne (by simp)).trans hs.hnx, Nat.le_refl _, fun i av hi => ?_, fun j o ho => ?_⟩
  · by_cases hj : id = j
    · subst hj; rw [get_cons_same] at ho; cases ho
    · exact (get_cons_ne (by simpa using hj)).symm.trans ho
  · exact (hs.slots i av ((get_cons_ne (by simp)).symm.trans hi)).2
  · by_cases hj : id = j
    · subst hj; rw [get_cons_same] at ho; cases ho
    · have := hs.objs j o ((get_cons_ne (by simpa using hj)).symm.trans ho)
      exact ⟨this.1, this.2.2⟩

/-- What our slice reads as, where it is ours no more. -/
theorem rd_freed (hs : SimG cx σ a w g nx) {id e k : Nat} {rows : List (List D)} (ho : get σ (.o id) = .ob (.arr e k rows)) : Rd w (cx.own g ((.o id, .none) :: σ)) (g id) (.sl k rows) := by
  have hown : ∀ b, cx.own g ((.o id, .none) :: σ) b → cx.own g σ b ∧ blk (g id) ≠ some b := by
    rintro b (h | ⟨j, o, h1, h2⟩)
    · refine ⟨.inl h, fun hb => ?_⟩
      have h3 := obj_ge hs ho hb
      have h4 := hs.own0 b h
      omega
    · by_cases hj : id = j
      · subst hj; rw [get_cons_same] at h1; cases h1
      · rw [get_cons_ne (by simpa using hj)] at h1
        exact ⟨.inr ⟨j, o, h1, h2⟩, fun hb => hj (hs.sep id j _ o b ho h1 hb h2)⟩
  obtain ⟨_, ⟨xs, h1, h2, h3, h4⟩, _⟩ := hs.objs id _ ho
  rcases h1.2 with ⟨hv, hn⟩ | ⟨b, cap, cur, hv, hb, hh, hle, hcm, hsz, htk⟩
  · obtain rfl : rows = [] := List.eq_nil_of_length_eq_zero hn
    rw [hv]; exact .nil none 0 k
  · have hlt : b < w.heap.size := by
      rcases Nat.lt_or_ge b w.heap.size with h | h
      · exact h
      · rw [Array.getElem?_eq_none h] at hh; cases hh
    have hx : ∀ i j r d, rows[i]? = some r → r[j]? = some d → ∃ x, xs[i * k + j]? = some x ∧ w.cell? ((⟨b, 0, none⟩ : Addr).add (i * k + j)) = some x := by
      intro i j r d hi hj
      have hil := (List.getElem?_eq_some_iff.1 hi).1
      have hjl : j < k := by rw [← h3 r (List.mem_of_getElem? hi)]; exact (List.getElem?_eq_some_iff.1 hj).1
      have hlen : i * k + j < xs.length := by
        rw [h1.1]
        have h5 : (i + 1) * k ≤ rows.length * k := Nat.mul_le_mul_right _ hil
        rw [Nat.add_mul, Nat.one_mul] at h5
        omega
      exact ⟨xs[i * k + j], List.getElem?_eq_getElem hlen, h1.cells (g := b) (by rw [hv]; rfl) _ _ (List.getElem?_eq_getElem hlen)⟩
    have hblk : blk (g id) = some b := by rw [hv]; rfl
    rw [hv]
    refine .sl ⟨b, 0, none⟩ cap k rows (fun i j => xs.getD (i * k + j) undef) (fun h0 => (hown b h0).2 hblk) hlt hle h3 (fun i j r d hi hj => ?_) (fun i j r d hi hj => ?_) fun i j r d hi hj => ?_
    · obtain ⟨x, h5, h6⟩ := hx i j r d hi hj
      rw [h6]; simp [h5]
    · obtain ⟨x, h5, h6⟩ := hx i j r d hi hj
      simp only [List.getD_eq_getElem?_getD, h5, Option.getD_some]
      exact h2 x (List.mem_of_getElem? h5)
    · obtain ⟨x, h5, h6⟩ := hx i j r d hi hj
      simp only [List.getD_eq_getElem?_getD, h5, Option.getD_some]
      exact (h4 i j r d x hi hj h5).less fun b hb => (hown b hb).1

/-- Our slice, handed on: it is ours no more. -/
theorem stut_freeze {i id n e k : Nat} {rows : List (List D)} (hn : n = rows.length) : Stut cx ⟨[(.s i, .av (.own id n)), (.o id, .ob (.arr e k rows))], [(.s i, .av (.d (.sl k rows))), (.o id, .none)]⟩ := by
  rintro σ a w hs hr
  have hs0 := hs
  obtain ⟨g, nx, hG⟩ := hs0
  have ho : get σ (.o id) = .ob (.arr e k rows) := hr.2.1
  have hv := ((hG.slots i _ hr.1).1 e k rows ho).2 hn
  have hrd := rd_freed hG ho
  have hl := Less.drop hs id
  have hlat : Later cx g g σ ((.o id, .none) :: σ) w w nx := by
    refine ⟨Ext.refl _ _, Below.refl _ _, fun b hb => ?_, fun j o' _ h => ⟨o', hl.o _ _ h, ?_⟩⟩
    · rcases hb with hb | ⟨j, o, h5, h6⟩
      · exact .inl (.inl hb)
      · exact .inl (.inr ⟨j, o, hl.o _ _ h5, h6⟩)
    · cases o' <;> simp [ObLe]
  have hG2 : SimG cx ((.o id, .none) :: σ) a w g nx :=
    hG.next hlat ((get_cons_ne (by simp)).trans hG.hnx) (Nat.le_refl _) hG.size hG.defers (Below.refl _ _) (fun j av hj => .inl ⟨hl.s _ _ hj, rfl⟩) (fun j o hj => .inl ⟨hl.o _ _ hj, rfl, fun _ _ => rfl⟩)
      (fun j j' o o' b h1 h2 => hG.sep j j' o o' b (hl.o _ _ h1) (hl.o _ _ h2))
  exact Sim.retell hG2 (av := .d (.sl k rows)) (by rw [hv]; exact hrd) trivial

/-- A piece of a slice. -/
def cutI (rows : List (List D)) (lo hi : Option Int) : Option (List (List D)) :=
  let l := lo.getD 0
  let h := hi.getD rows.length
  if 0 ≤ l ∧ l ≤ h ∧ h ≤ rows.length then some ((rows.take h.toNat).drop l.toNat) else none

theorem sl_form {own : Nat → Prop} {v : Value} {k : Nat} {rows : List (List D)} (h : Rd w own v (.sl k rows)) : ∃ p c, v = .slice p rows.length c := by
  generalize hD : D.sl k rows = D0 at h
  cases h with
  | v => cases hD
  | agg => cases hD
  | nil p c => cases hD; exact ⟨p, c, rfl⟩
  | sl ad cap => cases hD; exact ⟨_, cap, rfl⟩

theorem cut_rd {own : Nat → Prop} {p : Option Addr} {c n k l h : Nat} {rows : List (List D)} (hr : Rd w own (.slice p n c) (.sl k rows)) (hlh : l ≤ h) (hh : h ≤ rows.length) (m : Nat) (hm : h ≤ m) :
    Rd w own (.slice (if m = l then p else p.map (·.add (l * k))) (h - l) (m - l)) (.sl k ((rows.take h).drop l)) := by
  have hlen : ((rows.take h).drop l).length = h - l := by simp; omega
  by_cases hz : h = l
  · subst hz
    have : (rows.take h).drop h = [] := List.drop_eq_nil_of_le (by simp; omega)
    rw [this, Nat.sub_self]
    exact .nil _ _ k
  · rw [if_neg (by omega)]
    generalize hV : Value.slice p n c = V at hr
    generalize hD : D.sl k rows = D0 at hr
    cases hr with
    | v => cases hD
    | agg => cases hD
    | nil => cases hD; simp at hh; omega
    | sl ad cap k' rows' f hb hs hcap hk hc h1 hrr =>
      cases hD
      cases hV
      have hgo : ∀ (i j : Nat) (r : List D) (x : D), ((rows.take h).drop l)[i]? = some r → r[j]? = some x → rows[l + i]? = some r := by
        intro i j r x hi _
        rw [List.getElem?_drop, List.getElem?_take] at hi
        split at hi
        · exact hi
        · cases hi
      rw [← hlen]
      refine .sl (ad.add (l * k)) (m - l) k _ (fun i j => f (l + i) j) (by rw [add_block]; exact hb) (by rw [add_block]; exact hs) (by rw [hlen]; omega) (fun r hr => hk r (List.mem_of_mem_take (List.mem_of_mem_drop hr)))
        (fun i j r x hi hj => ?_) (fun i j r x hi hj => ?_) fun i j r x hi hj => ?_
      · rw [add_add, show l * k + (i * k + j) = (l + i) * k + j by rw [Nat.add_mul]; omega]
        exact hc _ _ _ _ (hgo i j r x hi hj) hj
      · exact h1 _ _ _ _ (hgo i j r x hi hj) hj
      · exact hrr _ _ _ _ (hgo i j r x hi hj) hj

/-- A bound of a piece. -/
inductive Bd : Option Operand → Option Int → List (Key × Val) → Prop
  | no : Bd none none []
  | at_ {x : Operand} {kd : IntKind} {n : Int} (hx : EvS x (.d (.v (.int kd n)))) : Bd (some x) (some n) (rdOf x (.d (.v (.int kd n))))

theorem Bd.ok (hs : SimG cx σ a w g nx) {x : Option Operand} {n : Option Int} {l : List (Key × Val)} (h : Bd x n l) (ha : App σ l) : (x.map a.eval = none ∧ n = none) ∨ ∃ kd m, x.map a.eval = some (.int kd m) ∧ n = some m := by
  cases h with
  | no => exact .inl ⟨rfl, rfl⟩
  | @at_ x kd n hx => exact .inr ⟨kd, n, by simp [rep_v (hs.ev hx ha).1], rfl⟩

theorem ok_slice {t : TypeId} {x : Operand} {lo hi : Option Operand} {nl nh : Option Int} {k : Nat} {rows out : List (List D)} {ti : TI} {l1 l2 : List (Key × Val)} (hn : d < cx.n) (hx : EvS x (.d (.sl k rows)))
    (hlo : Bd lo nl l1) (hhi : Bd hi nh l2) (ht : tget cx.T t = some ti) (hk : slK ti = some k) (hc : cutI rows nl nh = some out) :
    OpOk cx ⟨some d, .slice t x lo hi none, ty, pos, af, gd⟩ ⟨rdOf x (.d (.sl k rows)) ++ (l1 ++ l2), [(.s d, .av (.d (.sl k out)))]⟩ := by
  refine ok_val rfl hn fun σ a w g nx hs hr => ?_
  obtain ⟨e, ie, hu, hie, hks, _⟩ := slice_of (cx.hT t ti ht) hk
  have h1 : Rd w (cx.own g σ) (a.eval x) (.sl k rows) := (hs.ev hx hr.left).1
  obtain ⟨p, c, hv⟩ := sl_form h1
  have hcap : rows.length ≤ c := by
    rw [hv] at h1
    generalize hV : Value.slice p rows.length c = V at h1
    generalize hD : D.sl k rows = D0 at h1
    cases h1 with
    | v => cases hD
    | agg => cases hD
    | nil => cases hD; simp
    | sl ad cap k' rows' f hb hs hcap => cases hD; cases hV; exact hcap
  rw [hv] at h1
  unfold cutI at hc
  dsimp only at hc
  split at hc
  · next hcond =>
    cases hc
    have hrun : (Instr.sliceAt t (a.eval x) (lo.map a.eval) (hi.map a.eval) none).run cx.P w =
        .ok (.slice (if c = (nl.getD 0).toNat then p else p.map (·.add ((nl.getD 0).toNat * k))) ((nh.getD rows.length).toNat - (nl.getD 0).toNat) (c - (nl.getD 0).toNat)) w := by
      have hS : (sizeOf e).run cx.P w = .ok k w := by simp [sizeOf, typeInfo, hie, hks]
      rcases hlo.ok hs hr.right.left with ⟨e1, rfl⟩ | ⟨kd1, m1, e1, rfl⟩ <;> rcases hhi.ok hs hr.right.right with ⟨e2, rfl⟩ | ⟨kd2, m2, e2, rfl⟩ <;>
        simp only [Option.getD_none, Option.getD_some] at hcond
      · simp [Instr.sliceAt, Instr.slice, run_underlying hu, hv, e1, e2, Instr.sliceBounds, hS]
      · have h5 : 0 ≤ m2 ∧ m2 ≤ (c : Int) := by omega
        simp [Instr.sliceAt, Instr.slice, run_underlying hu, hv, e1, e2, Instr.sliceBounds, Instr.sliceBound, asIntOf, h5, hS]
      · have h5 : 0 ≤ m1 ∧ m1 ≤ (rows.length : Int) := by omega
        simp [Instr.sliceAt, Instr.slice, run_underlying hu, hv, e1, e2, Instr.sliceBounds, Instr.sliceBound, asIntOf, h5, hS]
      · have h5 : 0 ≤ m2 ∧ m2 ≤ (c : Int) := by omega
        have h6 : 0 ≤ m1 ∧ m1 ≤ ((m2.toNat : Nat) : Int) := by omega
        have h7 : m1 ≤ max m2 0 := by omega
        simp [Instr.sliceAt, Instr.slice, run_underlying hu, hv, e1, e2, Instr.sliceBounds, Instr.sliceBound, asIntOf, h5, h6.1, h7, hS]
    refine ⟨_, w, ?_, Below.refl _ _, cut_rd h1 (l := (nl.getD 0).toNat) (h := (nh.getD rows.length).toNat) (by omega) (by omega) c (by omega), trivial⟩
    simp only [execOp, Option.map_none, Sem.run_bind, hrun, Result.andThen_ok, Sem.run_pure]
  · cases hc

/-- A struct's field of one cell, of a struct that is no variable. -/
theorem ok_field {t : TypeId} {x : Operand} {f : Nat} {cells : List D} {ti : TI} {fs : List (Nat × Nat)} {off : Nat} {y : D} (hn : d < cx.n) (hx : EvS x (.d (.agg cells))) (ht : tget cx.T t = some ti)
    (hk : ti.kind = .st fs) (hf : fs[f]? = some (off, 1)) (hy : cells[off]? = some y) :
    OpOk cx ⟨some d, .field t x f, ty, pos, af, gd⟩ ⟨rdOf x (.d (.agg cells)), [(.s d, .av (.d y))]⟩ := by
  refine ok_val rfl hn fun σ a w g nx hs hr => ?_
  have h1 : Rd w (cx.own g σ) (a.eval x) (.agg cells) := (hs.ev hx hr).1
  have hkk := (cx.hT t ti ht).kind
  rw [hk] at hkk
  obtain ⟨b, hu, _, hg⟩ := hkk
  obtain ⟨fl, i, e1, e2, _, _, _, e3⟩ := hg f _ hf
  obtain ⟨dd, hd, hd1, hd2⟩ := e3 rfl
  generalize hv : a.eval x = v at h1
  generalize hD : D.agg cells = D0 at h1
  cases h1 with
  | v => cases hD
  | sl => cases hD
  | nil => cases hD
  | agg cs ds hl hone hrd =>
    cases hD
    have hlt : off < cs.size := by have := (List.getElem?_eq_some_iff.1 hy).1; omega
    have hc : cs[off]? = some cs[off] := Array.getElem?_eq_getElem hlt
    refine ⟨cs[off], w, ?_, Below.refl _ _, hrd off y _ hy hc, trivial⟩
    have hA : (isAgg fl.type).run cx.P w = .ok false w := by
      simp only [isAgg, Sem.run_bind, run_underlying hd, Result.andThen_ok]
      cases dd <;> first | rfl | (exact absurd rfl (hd1 _)) | (exact absurd rfl (hd2 _ _))
    have hp : (part fl.type cs off).run cx.P w = .ok cs[off] w := by simp [part, hA, hc]
    simp [execOp, hv, Instr.field, run_underlying hu, e1, asAgg, e2, hp]

end Go.AX
