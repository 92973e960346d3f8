/-
  Slices of ours: begun, grown, handed on.
-/
import Derived.Test.YtjlfjjigccedjaaAxOps5
namespace Go.AX
open Go.RowKit

variable {cx : Cx} {g : Nat → Value} {σ : St} {a : Act} {w : World} {nx : Nat}
variable {ty : TypeId} {pos : String} {af : Array Edge} {gd : Option (Nat × Bool)} {d : Nat}

theorem newArr {w' : World} {hv : Value} {e k : Nat} (hs : SimG cx σ a w g nx) (hb : Below w.heap.size w w')
    (hp : ∀ b, blk hv = some b → w.heap.size ≤ b) (ho : w'.ownsRow cx.w0.heap.size e k hv 0 []) :
    SimG cx (objSt σ (nx + 1) nx (.arr e k [])) a w' (upd g nx hv) (nx + 1) :=
  SimG.obj hs ⟨.inl ⟨rfl, rfl⟩, hb.mono hs.below.size, fun b hb' _ => hb.block b hb', fun b hb' => .inr (hp b hb')⟩
    (fun _ => ⟨[], by rw [upd_same]; exact ho, by simp, by simp, fun i j r x v hi => by simp at hi⟩) trivial

/-- A literal without elements: a slice of ours, to be grown. -/
theorem ok_buildSlice0 {t e k : Nat} {ti : TI} (hn : d < cx.n) (ht : tget cx.T t = some ti) (hk : ti.kind = .sl e k) :
    OpOk cx ⟨some d, .buildSlice t 0 #[], ty, pos, af, gd⟩ ⟨[(.nx, .num nx)], [(.s d, .av (.own nx 0)), (.o nx, .ob (.arr e k [])), (.nx, .num (nx + 1))]⟩ := by
  rintro σ a w K Q ⟨g, n', hs⟩ hr hK
  have hnx : n' = nx := by
    have h2 := hr.1
    rw [hs.hnx] at h2
    simpa using h2
  subst hnx
  have hF := (cx.hT t ti ht).kind
  rw [hk] at hF
  obtain ⟨hu, ⟨ie, hie, hks⟩, _⟩ := hF
  have hrun : (execOp a.eval ⟨some d, .buildSlice t 0 #[], ty, pos, af, gd⟩).run cx.P w = .ok (.value (.slice (some ⟨w.heap.size, 0, none⟩) 0 0)) (w.alloc (.cells #[] e)) := by
    have h0 : Array.range 0 = #[] := Array.eq_empty_of_size_eq_zero (by simp)
    simp [execOp, Instr.buildSlice, run_underlying hu, sizeOf, typeInfo, hie, Instr.fill, newRow, h0]
  have hG := newArr (w' := w.alloc (.cells #[] e)) (hv := .slice (some ⟨w.heap.size, 0, none⟩) 0 0) (e := e) (k := k) hs ((Below.refl _ _).alloc (Nat.le_refl _) _)
    (fun b hb => by obtain rfl : w.heap.size = b := by simpa [blk] using hb
                    exact Nat.le_refl _)
    ⟨by simp, .inr ⟨w.heap.size, 0, #[], rfl, hs.below.size, heap_alloc_new w _, Nat.le_refl _, Nat.zero_le _, by simp, by simp⟩⟩
  refine wp_val rfl hrun (hK _ _ (Sim.put hG hn (Below.refl _ _) (fun e' k' rows hg => ?_) (Nat.lt_succ_self _)))
  rw [get_cons_same] at hg
  cases hg
  exact ⟨Nat.le_refl _, fun _ => (upd_same _ _ _).symm⟩

/-- A nil slice in a slot becomes one of ours. -/
theorem stut_promote {i : Nat} (e k : Nat) : Stut cx ⟨[(.s i, .av (.d (.v nilS))), (.nx, .num nx)], [(.s i, .av (.own nx 0)), (.o nx, .ob (.arr e k [])), (.nx, .num (nx + 1))]⟩ := by
  rintro σ a w ⟨g, n', hs⟩ hr
  have hnx : n' = nx := by
    have h2 := hr.2.1
    rw [hs.hnx] at h2
    simpa using h2
  subst hnx
  obtain ⟨h1, h2⟩ := hs.slots i _ hr.1
  have hv := rep_v h1
  have hG := newArr (w' := w) (hv := nilS) (e := e) (k := k) hs (Below.refl _ _) (fun b hb => by simp [blk] at hb) (World.ownsRow_nil w _ e k)
  refine ⟨_, _, hG.next (Later.same (fun id => get_cons_ne (by simp)) (Ext.refl _ _) (Below.refl _ _)) ?_ (Nat.le_refl _) hG.size hG.defers (Below.refl _ _) (fun j av hj => ?_) (fun id o ho => ?_) (fun id id' o o' b h5 h6 => ?_)⟩
  · exact (get_cons_ne (by simp)).trans hG.hnx
  · by_cases hij : i = j
    · subst hij
      have h3 : get ([(.s i, .av (.own n' 0)), (.o n', .ob (.arr e k [])), (.nx, .num (n' + 1))] ++ σ) (.s i) = .av (.own n' 0) := get_cons_same
      rw [h3] at hj
      cases hj
      refine .inr ⟨fun e' k' rows hg => ?_, Nat.lt_succ_self _⟩
      have h4 : get ([(.s i, .av (.own n' 0)), (.o n', .ob (.arr e k [])), (.nx, .num (n' + 1))] ++ σ) (.o n') = .ob (.arr e k []) := (get_cons_ne (by simp)).trans get_cons_same
      rw [h4] at hg
      cases hg
      exact ⟨Nat.le_refl _, fun _ => by rw [upd_same]; exact hv⟩
    · exact .inl ⟨(get_cons_ne (by simpa using hij)).symm.trans hj, rfl⟩
  · exact .inl ⟨(get_cons_ne (by simp)).symm.trans ho, rfl, fun _ _ => rfl⟩
  · exact hG.sep id id' o o' b ((get_cons_ne (by simp)).symm.trans h5) ((get_cons_ne (by simp)).symm.trans h6)

/-- The cells that a slice's elements lie in, one behind the other. -/
theorem sl_cells {own : Nat → Prop} {v : Value} {k : Nat} {rows : List (List D)} (h : Rd w own v (.sl k rows)) (hne : rows ≠ []) :
    ∃ (ad : Addr) (c : Nat) (news : List Value), v = .slice (some ad) rows.length c ∧ news.length = rows.length * k ∧ (∀ j u, news[j]? = some u → w.cell? (ad.add j) = some u) ∧
      (∀ u ∈ news, Value.oneCell' u = true) ∧ ∀ (i j : Nat) (r : List D) (x : D) (u : Value), rows[i]? = some r → r[j]? = some x → news[i * k + j]? = some u → Rd w own u x := by
  generalize hD : D.sl k rows = D0 at h
  cases h with
  | v => cases hD
  | agg => cases hD
  | nil => cases hD; exact absurd rfl hne
  | sl ad cap k' rows' f hb hs hcap hk hc h1 hr =>
    cases hD
    rcases Nat.eq_zero_or_pos k with h0 | h0
    · subst h0
      exact ⟨ad, cap, [], rfl, by simp, fun j u h => by simp at h, fun u h => by simp at h, fun i j r x u _ _ h => by simp at h⟩
    · have hdm : ∀ q, q < rows.length * k → ∃ r x, rows[q / k]? = some r ∧ r[q % k]? = some x := by
        intro q hq
        have h2 : q / k < rows.length := by rw [Nat.div_lt_iff_lt_mul h0]; exact hq
        have h3 : q % k < k := Nat.mod_lt _ h0
        have h4 := hk rows[q / k] (List.getElem_mem h2)
        exact ⟨rows[q / k], rows[q / k][q % k]'(by omega), List.getElem?_eq_getElem h2, List.getElem?_eq_getElem (by omega)⟩
      have hget : ∀ (j : Nat) (u : Value), ((List.range (rows.length * k)).map fun q => f (q / k) (q % k))[j]? = some u → j < rows.length * k ∧ u = f (j / k) (j % k) := by
        intro j u hj
        have hl : j < rows.length * k := by have := (List.getElem?_eq_some_iff.1 hj).1; simpa using this
        simp [hl] at hj
        exact ⟨hl, hj.symm⟩
      refine ⟨ad, cap, (List.range (rows.length * k)).map fun q => f (q / k) (q % k), rfl, by simp, fun j u hj => ?_, fun u hu => ?_, fun i j r x u hi hj hu => ?_⟩
      · obtain ⟨hl, rfl⟩ := hget j u hj
        obtain ⟨r, x, h2, h3⟩ := hdm j hl
        have := hc _ _ _ _ h2 h3
        rwa [Nat.div_add_mod' j k] at this
      · obtain ⟨j, hj⟩ := List.getElem?_of_mem hu
        obtain ⟨hl, rfl⟩ := hget j u hj
        obtain ⟨r, x, h2, h3⟩ := hdm j hl
        exact h1 _ _ _ _ h2 h3
      · obtain ⟨hl, rfl⟩ := hget _ u hu
        have hjk : j < k := by
          have := (List.getElem?_eq_some_iff.1 hj).1
          rw [hk r (List.mem_of_getElem? hi)] at this
          exact this
        have e1 : (i * k + j) / k = i := by
          rw [Nat.add_comm, Nat.add_mul_div_right _ _ h0, Nat.div_eq_of_lt hjk, Nat.zero_add]
        have e2 : (i * k + j) % k = j := by rw [Nat.add_comm, Nat.add_mul_mod_self_right, Nat.mod_eq_of_lt hjk]
        rw [e1, e2]
        exact hr i j r x hi hj

theorem sl_k {own : Nat → Prop} {v : Value} {k : Nat} {rows : List (List D)} (h : Rd w own v (.sl k rows)) : ∀ r ∈ rows, r.length = k := by
  generalize hD : D.sl k rows = D0 at h
  cases h with
  | v => cases hD
  | agg => cases hD
  | nil => cases hD; intro r hr; simp at hr
  | sl ad cap k' rows' f hb hs' hcap hkk => cases hD; exact hkk

theorem append_nothing {P : Program} {base e k : Nat} {t ty : TypeId} {i : TypeInfo} {v : Value} {n : Nat} {xs : List Value} {p : Option Addr} {c : Nat} (hu : P.underlying t = some (.slice e)) (hi : P.info? e = some i)
    (ho : w.ownsRow base e k v n xs) : (Builtin.append_ #[t, t] ty #[v, .slice p 0 c]).run P w = .ok v w := by
  rcases ho.2 with ⟨rfl, rfl⟩ | ⟨b, cap, cur, rfl, _, _, hnc, _⟩
  · cases p <;> simp [Builtin.append_, run_underlying hu, sizeOf, typeInfo, hi, Builtin.lenOf, Builtin.firstCells, loadCells, loadCellsFrom]
  · cases p <;> simp [Builtin.append_, run_underlying hu, sizeOf, typeInfo, hi, Builtin.lenOf, Builtin.firstCells, hnc, storeCells, loadCells, loadCellsFrom]

/-- append onto a slice of ours. -/
theorem ok_append {t e k id n : Nat} {x y : Operand} {rows rows2 : List (List D)} {ti te : TI} (hn : d < cx.n) (hx : EvS x (.own id n)) (hy : EvS y (.d (.sl k rows2))) (ht : tget cx.T t = some ti) (hk : ti.kind = .sl e k)
    (hte : tget cx.T e = some te) (hby : te.bytes ≤ 65536) (hnn : n = rows.length) (hlen : rows.length + rows2.length ≤ 1073741824) :
    OpOk cx ⟨some d, .call { callee := .builtin .append, args := #[x, y], argTypes := #[t, t] }, ty, pos, af, gd⟩ ⟨rdOf x (.own id n) ++ (rdOf y (.d (.sl k rows2)) ++ [(.o id, .ob (.arr e k rows))]),
      [(.s d, .av (.own id (n + rows2.length))), (.o id, .ob (.arr e k (rows ++ rows2)))]⟩ := by
  rintro σ a w K Q ⟨g, nx, hs⟩ hr hK
  subst hnn
  have ho : get σ (.o id) = .ob (.arr e k rows) := hr.right.right.1
  have hv : a.eval x = g id := ((hs.ev hx hr.left).1 e k rows ho).2 rfl
  have hy' : Rd w (cx.own g σ) (a.eval y) (.sl k rows2) := (hs.ev hy hr.right.left).1
  obtain ⟨hid, ⟨xs, h1, h2, h3, h4⟩, _⟩ := hs.objs id _ ho
  have hF := (cx.hT t ti ht).kind
  rw [hk] at hF
  obtain ⟨hu, ⟨ie, hie, hks⟩, hk0, _⟩ := hF
  obtain ⟨ie', hie', hes, heb, z, hz, hzc⟩ := (cx.hT e te hte).info
  rw [hie] at hie'
  cases hie'
  have hzl : z.cells.size = k := by
    have := (cx.hT e te hte).len
    rw [← hzc] at this
    simp at this
    omega
  have hrunS : ∀ (v' : Value) (w' : World), (Builtin.append_ #[t, t] ty #[g id, a.eval y]).run cx.P w = .ok v' w' →
      (execOp a.eval ⟨some d, .call { callee := .builtin .append, args := #[x, y], argTypes := #[t, t] }, ty, pos, af, gd⟩).run cx.P w = .ok (.value v') w' := by
    intro v' w' h
    simp [execOp, resolve, invoke, builtin, hv, h]
  by_cases hne : rows2 = []
  · subst hne
    have hyv : ∃ p c, a.eval y = .slice p 0 c := by
      generalize a.eval y = v at hy'
      generalize hD : D.sl k [] = D0 at hy'
      cases hy' with
      | v => cases hD
      | agg => cases hD
      | nil p c => exact ⟨p, c, rfl⟩
      | sl ad cap => cases hD; exact ⟨_, cap, rfl⟩
    obtain ⟨p, c, hyv⟩ := hyv
    have hrun := hrunS (g id) w (by rw [hyv]; exact append_nothing hu hie h1)
    refine wp_val rfl hrun (hK _ _ (Sim.eqv (Sim.put hs hn (Below.refl _ _) (av := .own id (rows.length + 0)) (fun e' k' rows' hg => ?_) hid) fun q => ?_))
    · rw [ho] at hg
      cases hg
      exact ⟨Nat.le_refl _, fun _ => rfl⟩
    · cases q with
      | s i =>
        by_cases hi : i = d
        · subst hi; rw [get_cons_same]; exact get_cons_same.symm
        · rw [get_cons_ne (by simpa using fun e => hi e.symm)]
          exact ((get_cons_ne (by simpa using fun e => hi e.symm)).trans (get_cons_ne (by simp))).symm
      | o i =>
        rw [get_cons_ne (by simp)]
        by_cases hi : i = id
        · subst hi
          rw [ho]
          exact ((get_cons_ne (by simp)).trans (get_cons_same.trans (by rw [List.append_nil]))).symm
        · exact ((get_cons_ne (by simp)).trans (get_cons_ne (by simpa using fun e => hi e.symm))).symm
      | nx => rw [get_cons_ne (by simp)]; exact ((get_cons_ne (by simp)).trans (get_cons_ne (by simp))).symm
  · obtain ⟨ad, c, news, hyv, hnl, hnc, hn1, hnr⟩ := sl_cells hy' hne
    have hbytes : (rows.length + rows2.length) * te.bytes ≤ 140737488355328 := Nat.le_trans (Nat.mul_le_mul hlen hby) (by decide)
    obtain ⟨v', w', hrun0, hown, hgr, _, hat⟩ := run_append_own_at (P := cx.P) w cx.w0.heap.size t ty e ie z k te.bytes hu hie hz hks heb hzl hk0 (g id) rows.length xs h1 ad rows2.length c news hnl hnc hn1 (by simp only [maxLen]; omega) hbytes hs.below.size
    have hrun := hrunS v' w' (by rw [hyv]; exact hrun0)
    have hlen2 : 0 < rows2.length := List.length_pos_iff.2 hne
    have hgb : ∀ b, blk (g id) = some b ↔ (g id).ownBlock = some b := fun b => by rw [blk_own h1]
    have hst : ObjStep cx σ g nx nx w w' id (.arr e k (rows ++ rows2)) v' := by
      refine ⟨.inr ⟨rfl, _, ho, rfl, rfl, by simp, fun h => ?_⟩, ?_, fun b hb hno => ?_, fun b hb => ?_⟩
      · rw [List.length_append] at h; omega
      · exact (Below.refl _ _).grown hgr hs.below.size fun q hq => obj_ge hs ho (by rw [hgb]; exact hq)
      · exact hgr.block b hb fun e => hno _ ho (by rw [hgb]; exact e.symm)
      · have hb' : v'.ownBlock = some b := by rw [← blk_own hown]; exact hb
        rcases hat with h | h
        · exact .inl ⟨_, ho, by rw [hgb, ← h]; exact hb'⟩
        · rw [h] at hb'
          right
          simp at hb'
          omega
    have hG := SimG.obj hs hst (fun hl => ⟨xs ++ news, by rw [upd_same, List.length_append]; exact hown, fun u hu => ?_, fun r hr' => ?_, fun i j r q u hi hj hu => ?_⟩) trivial
    · refine wp_val rfl hrun (hK _ _ (Sim.eqv (Sim.put hG hn (Below.refl _ _) (av := .own id (rows.length + rows2.length)) (fun e' k' rows' hg => ?_) hid) fun q => ?_))
      · rw [get_cons_same] at hg
        cases hg
        exact ⟨by simp, fun _ => (upd_same _ _ _).symm⟩
      · cases q with
        | s i =>
          by_cases hi : i = d
          · subst hi; rw [get_cons_same]; exact get_cons_same.symm
          · rw [get_cons_ne (by simpa using fun e => hi e.symm), objSt_s]
            exact ((get_cons_ne (by simpa using fun e => hi e.symm)).trans (get_cons_ne (by simp))).symm
        | o i =>
          rw [get_cons_ne (by simp)]
          by_cases hi : i = id
          · subst hi
            rw [get_cons_same]
            exact ((get_cons_ne (by simp)).trans get_cons_same).symm
          · rw [objSt_o hi]
            exact ((get_cons_ne (by simp)).trans (get_cons_ne (by simpa using fun e => hi e.symm))).symm
        | nx =>
          rw [get_cons_ne (by simp), objSt_nx]
          exact (((get_cons_ne (by simp)).trans (get_cons_ne (by simp))).trans hs.hnx).symm
    · rcases List.mem_append.1 hu with hu | hu
      · exact h2 u hu
      · exact hn1 u hu
    · rcases List.mem_append.1 hr' with hr' | hr'
      · exact h3 r hr'
      · exact sl_k hy' r hr'
    · rcases Nat.lt_or_ge i rows.length with hil | hil
      · rw [List.getElem?_append_left hil] at hi
        have hjk : j < k := by
          have := (List.getElem?_eq_some_iff.1 hj).1
          rw [h3 r (List.mem_of_getElem? hi)] at this
          exact this
        have hlt : i * k + j < xs.length := by
          rw [h1.1]
          have h5 : (i + 1) * k ≤ rows.length * k := Nat.mul_le_mul_right _ hil
          rw [Nat.add_mul, Nat.one_mul] at h5
          omega
        rw [List.getElem?_append_left hlt] at hu
        exact (h4 i j r q u hi hj hu).step hl.ext hl.own
      · rw [List.getElem?_append_right hil] at hi
        have he : i * k + j = xs.length + ((i - rows.length) * k + j) := by
          rw [h1.1, Nat.sub_mul]
          have : rows.length * k ≤ i * k := Nat.mul_le_mul_right _ hil
          omega
        rw [he, List.getElem?_append_right (by omega), Nat.add_sub_cancel_left] at hu
        exact (hnr _ j r q u hi hj hu).step hl.ext hl.own

end Go.AX
