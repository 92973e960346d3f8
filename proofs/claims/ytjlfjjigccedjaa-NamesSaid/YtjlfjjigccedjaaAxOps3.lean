/-
  Operations that make or write a box.
-/
import Derived.Test.YtjlfjjigccedjaaAxOps2
namespace Go.AX
open Go.RowKit

variable {cx : Cx} {g : Nat → Value} {σ : St} {a : Act} {w : World} {nx : Nat}
variable {ty : TypeId} {pos : String} {af : Array Edge} {gd : Option (Nat × Bool)} {d : Nat}

theorem zero_of {P : Program} {t : Nat} {ti : TI} (h : TF P t ti) (w : World) : ∃ z, (zeroValue t).run P w = .ok z w ∧ z.cells.toList = ti.zero := by
  obtain ⟨i, hi, _, _, z, hz, hc⟩ := h.info
  exact ⟨z, by simp [zeroValue, typeInfo, hi, hz], hc⟩

theorem newBox {cs : Array Value} {cells : List AV} {t : TypeId} (hs : SimG cx σ a w g nx) (hn : d < cx.n) (hsz : cs.size = cells.length)
    (h1 : ∀ (j : Nat) (c : Value), cs[j]? = some c → c.oneCell' = true) (hr : ∀ (j : Nat) (c : Value) (av : AV), cells[j]? = some av → cs[j]? = some c → Rep1 cx g σ w c av)
    (hbd : ∀ av ∈ cells, av.bd1 nx) :
    Sim cx ([(.s d, .av (.ptr nx 0)), (.o nx, .ob (.box cells)), (.nx, .num (nx + 1))] ++ σ) (a.put (some d) (.pointer (some ⟨w.heap.size, 0, none⟩))) (w.alloc (.cells cs t)) := by
  have hno := (get_nx_obj hs).2
  have hst : ObjStep cx σ g nx (nx + 1) w (w.alloc (.cells cs t)) nx (.box cells) (.pointer (some ⟨w.heap.size, 0, none⟩)) := by
    refine ⟨.inl ⟨rfl, rfl⟩, (Below.refl _ _).alloc hs.below.size _, fun b hb _ => Below.heap_alloc _ _ _ hb, fun b hb => .inr ?_⟩
    obtain rfl : w.heap.size = b := by simpa [blk] using hb
    exact Nat.le_refl _
  have hG := SimG.obj hs hst (fun hl => ?_) (fun av hav => AV.bd1_mono (Nat.le_succ _) (hbd av hav))
  · refine Sim.put hG hn (Below.refl _ _) (fun cells' hc => ?_) (Nat.lt_succ_self _)
    exact ⟨w.heap.size, upd_same _ _ _, rfl⟩
  · refine ⟨w.heap.size, cs, t, upd_same _ _ _, hs.below.size, ?_, hsz, h1, fun j c av hj hc => (hr j c av hj hc).step hl (hbd av (List.mem_of_getElem? hj))⟩
    exact heap_alloc_new w _

/-- alloc: a box of zero cells. -/
theorem ok_alloc {t : TypeId} {ti : TI} (hn : d < cx.n) (ht : tget cx.T t = some ti) (h1 : ∀ c ∈ ti.zero, Value.oneCell' c = true) :
    OpOk cx ⟨some d, .alloc t, ty, pos, af, gd⟩ ⟨[(.nx, .num nx)], [(.s d, .av (.ptr nx 0)), (.o nx, .ob (.box (ti.zero.map fun c => .d (.v c)))), (.nx, .num (nx + 1))]⟩ := by
  rintro σ a w K Q ⟨g, n', hs⟩ hr hK
  have hnx : n' = nx := by
    have h2 := hr.1
    rw [hs.hnx] at h2
    simpa using h2
  subst hnx
  obtain ⟨z, hz, hc⟩ := zero_of (cx.hT t ti ht) w
  refine wp_val rfl (v := .pointer (some ⟨w.heap.size, 0, none⟩)) (w' := w.alloc (.cells z.cells t)) ?_ (hK _ _ (newBox hs hn ?_ (fun j c hj => ?_) (fun j c av hj hcj => ?_) fun av hav => ?_))
  · simp [execOp, Instr.alloc, hz, newVar, newRow]
  · rw [List.length_map, ← hc, Array.length_toList]
  · exact h1 c (by rw [← hc]; exact List.mem_of_getElem? (by simpa using hj))
  · rw [List.getElem?_map, ← hc] at hj
    have : z.cells.toList[j]? = some c := by simpa using hcj
    rw [this] at hj
    obtain rfl : AV.d (.v c) = av := by simpa using hj
    exact Rd.v c
  · obtain ⟨c, _, rfl⟩ := List.mem_map.1 hav
    trivial

/-- What a value gives as cells of a box. -/
def cellsOf : AV → Option (List AV)
  | .d (.agg ds) => some (ds.map AV.d)
  | .d (.v (.agg _)) => none
  | .d (.v (.tuple _)) => none
  | .agg cells => some cells
  | .tup _ => none
  | .any => none
  | x => some [x]

/-- Handles are one cell: asked for where it cannot be told of the value. -/
def One (x : Value) : AV → Prop
  | .ptr _ _ => x.oneCell' = true
  | .own _ _ => x.oneCell' = true
  | .pe _ _ _ _ => x.oneCell' = true
  | _ => True

theorem cells_one {x : Value} (h : x.oneCell' = true) : x.cells = #[x] := by
  cases x <;> first | rfl | cases h

theorem cells_of {x : Value} {av : AV} {cells : List AV} (h : Rep cx g σ w x av) (hb : av.bd nx) (hc : cellsOf av = some cells) (ho : One x av) :
    x.cells.size = cells.length ∧ (∀ (j : Nat) (c : Value), x.cells[j]? = some c → c.oneCell' = true) ∧
      (∀ (j : Nat) (c : Value) (av : AV), cells[j]? = some av → x.cells[j]? = some c → Rep1 cx g σ w c av) ∧ ∀ av ∈ cells, av.bd1 nx := by
  have single : ∀ {av : AV}, Rep1 cx g σ w x av → av.bd1 nx → x.oneCell' = true → x.cells = #[x] → cells = [av] → _ := fun {av} hr hb h1 hx hce =>
    show x.cells.size = cells.length ∧ (∀ (j : Nat) (c : Value), x.cells[j]? = some c → c.oneCell' = true) ∧
      (∀ (j : Nat) (c : Value) (av : AV), cells[j]? = some av → x.cells[j]? = some c → Rep1 cx g σ w c av) ∧ ∀ av ∈ cells, av.bd1 nx by
    subst hce
    rw [hx]
    refine ⟨rfl, fun j c hj => ?_, fun j c av hj hc => ?_, fun av hav => ?_⟩
    · cases j with
      | zero => obtain rfl : x = c := by simpa using hj
                exact h1
      | succ j => simp at hj
    · cases j with
      | zero =>
        obtain rfl : x = c := by simpa using hc
        simp at hj; subst hj; exact hr
      | succ j => simp at hj
    · simp at hav; subst hav; exact hb
  cases av with
  | d y =>
    cases y with
    | v y =>
      have := rep_v h
      subst this
      cases x <;> simp only [cellsOf, Option.some.injEq, reduceCtorEq] at hc <;> exact single (av := .d (.v _)) h hb rfl rfl hc.symm
    | sl k rows =>
      simp only [cellsOf, Option.some.injEq] at hc
      have hs : ∃ p n c, x = .slice p n c := by
        have h' : Rd w (cx.own g σ) x (.sl k rows) := h
        generalize hD : D.sl k rows = D0 at h'
        cases h' with
        | v => cases hD
        | agg => cases hD
        | nil p c => exact ⟨p, 0, c, rfl⟩
        | sl ad c => exact ⟨_, _, c, rfl⟩
      obtain ⟨p, n, c, rfl⟩ := hs
      exact single (av := .d (.sl k rows)) h hb rfl rfl hc.symm
    | agg ds =>
      simp only [cellsOf, Option.some.injEq] at hc
      subst hc
      have h' : Rd w (cx.own g σ) x (.agg ds) := h
      generalize hD : D.agg ds = D0 at h'
      cases h' with
      | v => cases hD
      | sl => cases hD
      | nil => cases hD
      | agg cs ds' hl h1 hr =>
        cases hD
        refine ⟨by simpa [Value.cells] using hl, h1, fun j c av hj hc => ?_, fun av hav => ?_⟩
        · rw [List.getElem?_map] at hj
          cases hd : ds[j]? with
          | none => rw [hd] at hj; cases hj
          | some z =>
            rw [hd] at hj
            obtain rfl : AV.d z = av := by simpa using hj
            exact hr j z c hd hc
        · obtain ⟨z, _, rfl⟩ := List.mem_map.1 hav
          trivial
  | agg cs =>
    simp only [cellsOf, Option.some.injEq] at hc
    subst hc
    obtain ⟨vs, rfl, h1, h2, h3⟩ := h
    exact ⟨h1, h2, h3, hb⟩
  | tup c => cases hc
  | any => cases hc
  | pd ds =>
    simp only [cellsOf, Option.some.injEq] at hc
    have h' := h
    obtain ⟨ad, rfl, _⟩ := h'
    exact single (av := .pd ds) h hb rfl rfl hc.symm
  | ptr i o => simp only [cellsOf, Option.some.injEq] at hc; exact single (av := .ptr i o) h hb ho (cells_one ho) hc.symm
  | own i n => simp only [cellsOf, Option.some.injEq] at hc; exact single (av := .own i n) h hb ho (cells_one ho) hc.symm
  | pe i n p q => simp only [cellsOf, Option.some.injEq] at hc; exact single (av := .pe i n p q) h hb ho (cells_one ho) hc.symm

/-- The handle is the object's newest. -/
def Newest (σ : St) : AV → Prop
  | .own id n => ∃ e k rows, get σ (.o id) = .ob (.arr e k rows) ∧ n = rows.length
  | .ptr id _ => ∃ cells, get σ (.o id) = .ob (.box cells)
  | .pe _ _ _ _ => False
  | _ => True

theorem one_of (hs : SimG cx σ a w g nx) {x : Value} {av : AV} (h : Rep cx g σ w x av) (hn : Newest σ av) : One x av := by
  cases av with
  | own id n =>
    obtain ⟨e, k, rows, ho, rfl⟩ := hn
    have hx := (h e k rows ho).2 rfl
    obtain ⟨_, ⟨xs, h1, _⟩, _⟩ := hs.objs id _ ho
    show x.oneCell' = true
    rw [hx]
    rcases h1.2 with ⟨he, _⟩ | ⟨_, _, _, he, _⟩ <;> rw [he] <;> rfl
  | ptr id off =>
    obtain ⟨cells, ho⟩ := hn
    obtain ⟨b, _, hx⟩ := h cells ho
    show x.oneCell' = true
    rw [hx]; rfl
  | pe i n p q => exact hn.elim
  | d y => trivial
  | pd y => trivial
  | agg y => trivial
  | tup y => trivial
  | any => trivial

/-- The frozen head of Newest for a record: which keys it leans on. -/
def nwRd : AV → List (Key × Val) → Prop
  | .own id n, l => ∃ e k rows, l = [(.o id, .ob (.arr e k rows))] ∧ n = rows.length
  | .ptr id _, l => ∃ cells, l = [(.o id, .ob (.box cells))]
  | .pe _ _ _ _, _ => False
  | _, l => l = []
theorem newest_of {av : AV} {l : List (Key × Val)} (h : nwRd av l) (ha : App σ l) : Newest σ av := by
  cases av with
  | own id n => obtain ⟨e, k, rows, rfl, hn⟩ := h; exact ⟨e, k, rows, ha.1, hn⟩
  | ptr id off => obtain ⟨cells, rfl⟩ := h; exact ⟨cells, ha.1⟩
  | pe i n p q => exact h.elim
  | d y => trivial
  | pd y => trivial
  | agg y => trivial
  | tup y => trivial
  | any => trivial

def putCells (cells : List AV) (off : Nat) (new : List AV) : List AV := cells.take off ++ new ++ cells.drop (off + new.length)

theorem ok_store_ptr {t : TypeId} {x y : Operand} {id off : Nat} {cells new : List AV} {av : AV} {ti : TI} {l : List (Key × Val)} (hx : EvS x (.ptr id off)) (hy : EvS y av) (ht : tget cx.T t = some ti)
    (hc : cellsOf av = some new) (hl : nwRd av l) (hnn : Nat.beq new.length ti.n = true) (hle : Nat.ble (off + new.length) cells.length = true) :
    OpOk cx ⟨none, .store t x y, ty, pos, af, gd⟩ ⟨rdOf x (.ptr id off) ++ (rdOf y av ++ (l ++ [(.o id, .ob (.box cells))])), [(.o id, .ob (.box (putCells cells off new)))]⟩ := by
  rintro σ a w K Q ⟨g, nx, hs⟩ hr hK
  have ho : get σ (.o id) = .ob (.box cells) := hr.right.right.right.1
  obtain ⟨b0, hg0, hv⟩ := (hs.ev hx hr.left).1 cells ho
  obtain ⟨hav, hbd⟩ := hs.ev hy hr.right.left
  obtain ⟨hidn, ⟨b, cs, et, hg, hge, hh, hsz, h1, hrep⟩, hcb⟩ := hs.objs id _ ho
  have hbb : b0 = b := by rw [hg0] at hg; simpa using hg
  subst hbb
  obtain ⟨c1, c2, c3, c4⟩ := cells_of hav hbd hc (one_of hs hav (newest_of hl hr.right.right.left))
  have hF := cx.hT t ti ht
  have hnn' : new.length = ti.n := by simpa using hnn
  have hle' : off + new.length ≤ cells.length := by simpa using hle
  generalize hX : a.eval y = X at hav c1 c2 c3
  have hlen : X.cells.toList.length = new.length := by simpa using c1
  have hst := run_storeCells_at (P := cx.P) b0 off et X.cells.toList 0 cs w hh (by rw [hlen]; omega) (fun v hv => by
    obtain ⟨j, hj⟩ := List.getElem?_of_mem hv
    exact c2 j v (by simpa using hj))
  simp only [Nat.add_zero] at hst
  have hrun : (Instr.storeAt t (.pointer (some ⟨b0, off, none⟩)) X).run cx.P w = .ok () (w.setRow b0 (cs.toList.take off ++ X.cells.toList ++ cs.toList.drop (off + X.cells.toList.length)).toArray) := by
    simp [Instr.storeAt, Instr.sureAddr, storeVar, sizeOf_of hF w, c1, hnn', hst]
  generalize hcs' : (cs.toList.take off ++ X.cells.toList ++ cs.toList.drop (off + X.cells.toList.length)).toArray = cs' at hrun
  have hheap : (w.setRow b0 cs').heap[b0]? = some (.cells cs' et (0, 0)) := setRow_heap w b0 cs cs' et (0, 0) hh
  have hOS : ObjStep cx σ g nx nx w (w.setRow b0 cs') id (.box (putCells cells off new)) (.pointer (some ⟨b0, 0, none⟩)) := by
    refine ⟨.inr ⟨rfl, .box cells, ho, by simp [ObLe, upd_same, hg0]⟩, ⟨rfl, rfl, rfl, by simp, fun k hk => setRow_other w b0 k cs' (by omega)⟩, fun b hb hne => setRow_other w b0 b cs' (fun e => hne _ ho (by rw [hg0, e]; rfl)), fun b hb => .inl ⟨_, ho, by rw [hg0]; exact hb⟩⟩
  have hsz' : cs'.size = (putCells cells off new).length := by
    subst hcs'
    simp [putCells, c1]
    omega
  have hat : ∀ (j : Nat) (c : Value) (av : AV), (putCells cells off new)[j]? = some av → cs'[j]? = some c →
      (cells[j]? = some av ∧ cs[j]? = some c) ∨ ∃ i : Nat, new[i]? = some av ∧ X.cells[i]? = some c := by
    intro j c av hj hcj
    have hcj' : (cs.toList.take off ++ X.cells.toList ++ cs.toList.drop (off + X.cells.toList.length))[j]? = some c := by
      subst hcs'; simpa using hcj
    unfold putCells at hj
    rw [List.append_assoc] at hj hcj'
    have ht1 : (cells.take off).length = off := by simp; omega
    have ht2 : (cs.toList.take off).length = off := by simp; omega
    rcases Nat.lt_or_ge j off with hjo | hjo
    · rw [List.getElem?_append_left (by omega), List.getElem?_take, if_pos hjo] at hj
      rw [List.getElem?_append_left (by omega), List.getElem?_take, if_pos hjo] at hcj'
      exact .inl ⟨hj, by simpa using hcj'⟩
    · rw [List.getElem?_append_right (by omega), ht1] at hj
      rw [List.getElem?_append_right (by omega), ht2] at hcj'
      rcases Nat.lt_or_ge (j - off) new.length with hjn | hjn
      · rw [List.getElem?_append_left hjn] at hj
        rw [List.getElem?_append_left (by omega)] at hcj'
        exact .inr ⟨j - off, hj, by simpa using hcj'⟩
      · rw [List.getElem?_append_right hjn, List.getElem?_drop] at hj
        rw [List.getElem?_append_right (by omega), List.getElem?_drop, hlen] at hcj'
        rw [show off + new.length + (j - off - new.length) = j by omega] at hj hcj'
        exact .inl ⟨hj, by simpa using hcj'⟩
  have hone : ∀ (j : Nat) (c : Value), cs'[j]? = some c → c.oneCell' = true := by
    intro j c hj
    have hjl : j < (putCells cells off new).length := by rw [← hsz']; exact (Array.getElem?_eq_some_iff.1 hj).1
    rcases hat j c _ (List.getElem?_eq_getElem hjl) hj with ⟨_, h⟩ | ⟨i, _, h⟩
    · exact h1 j c h
    · exact c2 i c h
  have hG := SimG.obj hs hOS (fun hlat => ⟨b0, cs', et, upd_same _ _ _, hge, hheap, hsz', hone, fun j c av hj hcj => ?_⟩) (fun av hm => ?_)
  · unfold Oper.wp
    simp only [execOp, hv, hX, Sem.run_bind, hrun, Result.andThen_ok, Sem.run_pure, Oper.upon, Act.put]
    refine hK _ _ (Sim.eqv ⟨_, _, hG⟩ fun k => ?_)
    cases k with
    | s i => rw [objSt_s]; exact (get_cons_ne (by simp)).symm
    | o i =>
      by_cases hi : i = id
      · subst hi; rw [get_cons_same]; exact get_cons_same.symm
      · rw [objSt_o hi]; exact (get_cons_ne (by simpa using fun e => hi e.symm)).symm
    | nx => rw [objSt_nx]; exact hs.hnx.symm.trans (get_cons_ne (by simp)).symm
  · rcases hat j c av hj hcj with ⟨h5, h6⟩ | ⟨i, h5, h6⟩
    · exact (hrep j c av h5 h6).step hlat (hcb av (List.mem_of_getElem? h5))
    · exact (c3 i c av h5 h6).step hlat (c4 av (List.mem_of_getElem? h5))
  · unfold putCells at hm
    rcases List.mem_append.1 hm with hm | hm
    · rcases List.mem_append.1 hm with hm | hm
      · exact hcb av (List.mem_of_mem_take hm)
      · exact c4 av hm
    · exact hcb av (List.mem_of_mem_drop hm)

/-- box: a box that holds a value. -/
theorem ok_box {t : TypeId} {x : Operand} {av : AV} {cells : List AV} {l : List (Key × Val)} (hn : d < cx.n) (hx : EvS x av) (hc : cellsOf av = some cells) (hl : nwRd av l) :
    OpOk cx ⟨some d, .box t x, ty, pos, af, gd⟩ ⟨(.nx, .num nx) :: (rdOf x av ++ l), [(.s d, .av (.ptr nx 0)), (.o nx, .ob (.box cells)), (.nx, .num (nx + 1))]⟩ := by
  rintro σ a w K Q ⟨g, n', hs⟩ hr hK
  have hnx : n' = nx := by
    have h2 := hr.1
    rw [hs.hnx] at h2
    simpa using h2
  subst hnx
  obtain ⟨hav, hbd⟩ := hs.ev hx (App.left (r := l) hr.2)
  obtain ⟨c1, c2, c3, c4⟩ := cells_of hav hbd hc (one_of hs hav (newest_of hl (App.right (l := rdOf x av) hr.2)))
  exact wp_val rfl (v := .pointer (some ⟨w.heap.size, 0, none⟩)) (w' := w.alloc (.cells (a.eval x).cells t)) (by simp [execOp, Instr.box, newVar, newRow]) (hK _ _ (newBox hs hn c1 c2 c3 c4))

end Go.AX
