/-
  Operations that yield a value: what each comes to in the abstract state.
-/
import Derived.Test.YtjlfjjigccedjaaAxFit
import Derived.Laws.CopyRow
namespace Go.AX
open Go.RowKit

variable {cx : Cx} {g : Nat → Value} {σ : St} {a : Act} {w : World} {nx : Nat}

def ev (σ : St) : Operand → Option AV
  | .tmp t => match get σ (.s t) with
    | .av x => some x
    | _ => none
  | .const v => some (.d (.v v))
  | .func f => some (.d (.v (.func (.func f) #[] #[])))
  | .global _ => none
def rdOf : Operand → AV → List (Key × Val)
  | .tmp t, av => [(.s t, .av av)]
  | _, _ => []
def EvS : Operand → AV → Prop
  | .tmp _, _ => True
  | .const v, av => av = .d (.v v)
  | .func f, av => av = .d (.v (.func (.func f) #[] #[]))
  | .global _, _ => False

theorem ev_out {x : Operand} {av : AV} (h : ev σ x = some av) : EvS x av ∧ App σ (rdOf x av) := by
  cases x with
  | tmp t =>
    simp only [ev] at h
    split at h
    · next y hy =>
      cases h
      exact ⟨trivial, hy, trivial⟩
    · cases h
  | const v => simp only [ev, Option.some.injEq] at h; exact ⟨h.symm, trivial⟩
  | func f => simp only [ev, Option.some.injEq] at h; exact ⟨h.symm, trivial⟩
  | global g => simp [ev] at h

theorem SimG.ev (h : SimG cx σ a w g nx) {x : Operand} {av : AV} (hs : EvS x av) (ha : App σ (rdOf x av)) : Rep cx g σ w (a.eval x) av ∧ av.bd nx := by
  cases x with
  | tmp t => exact h.slots t av ha.1
  | const v => obtain rfl : av = _ := hs; exact ⟨Rd.v _, trivial⟩
  | func f => obtain rfl : av = _ := hs; exact ⟨Rd.v _, trivial⟩
  | global g => exact hs.elim

theorem wp_val {P : Program} {o : Oper} {d : Nat} {v : Value} {w' : World} {K : Act → World → Prop} {Q : Exit → Act → World → Prop} (hd : o.dst = some d)
    (hrun : (execOp a.eval o).run P w = .ok (.value v) w') (h : K (a.put (some d) v) w') : o.wp P a w K Q := by
  unfold Oper.wp
  rw [hrun]
  simp only [Oper.upon, hd]
  exact h

/-- An operation that yields a value, and lays blocks at most. -/
theorem ok_val {o : Oper} {d : Nat} {rd : List (Key × Val)} {av : AV} (hd : o.dst = some d) (hn : d < cx.n)
    (hrun : ∀ (σ : St) (a : Act) (w : World) (g : Nat → Value) (nx : Nat), SimG cx σ a w g nx → App σ rd →
      ∃ v w', (execOp a.eval o).run cx.P w = .ok (.value v) w' ∧ Below w.heap.size w w' ∧ Rep cx g σ w' v av ∧ av.bd nx) :
    OpOk cx o ⟨rd, [(.s d, .av av)]⟩ := by
  rintro σ a w K Q ⟨g, nx, hs⟩ hr hK
  obtain ⟨v, w', h1, h2, h3, h4⟩ := hrun σ a w g nx hs hr
  exact wp_val hd h1 (hK _ _ (Sim.put hs hn h2 h3 h4))

theorem rep_v {x y : Value} (h : Rep cx g σ w x (.d (.v y))) : x = y := by
  have h' : Rd w (cx.own g σ) x (.v y) := h
  generalize hd : D.v y = d at h'
  cases h' <;> cases hd
  rfl
theorem rd_v {own : Nat → Prop} {x y : Value} (h : Rd w own x (.v y)) : x = y := by
  generalize hd : D.v y = d at h
  cases h <;> cases hd
  rfl

variable {ty : TypeId} {pos : String} {af : Array Edge} {gd : Option (Nat × Bool)} {d : Nat}

theorem ok_move {x : Operand} {av : AV} (hn : d < cx.n) (hx : EvS x av) : OpOk cx ⟨some d, .move x, ty, pos, af, gd⟩ ⟨rdOf x av, [(.s d, .av av)]⟩ :=
  ok_val rfl hn fun _ a w _ _ hs hr => ⟨a.eval x, w, by simp [execOp], Below.refl _ _, hs.ev hx hr⟩
theorem ok_assign {x : Operand} {av : AV} (hn : d < cx.n) (hx : EvS x av) : OpOk cx ⟨some d, .assign x, ty, pos, af, gd⟩ ⟨rdOf x av, [(.s d, .av av)]⟩ :=
  ok_val rfl hn fun _ a w _ _ hs hr => ⟨a.eval x, w, by simp [execOp], Below.refl _ _, hs.ev hx hr⟩

theorem ok_pick {c x y : Operand} {b : Bool} {av aw : AV} (hn : d < cx.n) (hc : EvS c (.d (.v (.bool b)))) (hx : EvS (if b then x else y) av) :
    OpOk cx ⟨some d, .pick c x y, ty, pos, af, gd⟩ ⟨rdOf c (.d (.v (.bool b))) ++ rdOf (if b then x else y) av, [(.s d, .av av)]⟩ := by
  have _ := aw
  refine ok_val rfl hn fun _ a w _ _ hs hr => ⟨a.eval (if b then x else y), w, ?_, Below.refl _ _, hs.ev hx hr.right⟩
  have := rep_v (hs.ev hc hr.left).1
  cases b <;> simp [execOp, this, asBool]

/-- What a binary operation over two plain values comes to. -/
def BinR (P : Program) (op : BinOp) (t : TypeId) (u v r : Value) : Prop :=
  ∀ (w : World) (x y : Operand), (do eqGuard op t x y u v; binOp op t u v : Sem Value).run P w = .ok r w

theorem ok_bin {op : BinOp} {t t' : TypeId} {x y : Operand} {u v r : Value} (hn : d < cx.n) (hx : EvS x (.d (.v u))) (hy : EvS y (.d (.v v))) (hb : BinR cx.P op t u v r) :
    OpOk cx ⟨some d, .binOp op t x y t', ty, pos, af, gd⟩ ⟨rdOf x (.d (.v u)) ++ rdOf y (.d (.v v)), [(.s d, .av (.d (.v r)))]⟩ := by
  refine ok_val rfl hn fun _ a w _ _ hs hr => ⟨r, w, ?_, Below.refl _ _, Rd.v _, trivial⟩
  have h1 := rep_v (hs.ev hx hr.left).1
  have h2 := rep_v (hs.ev hy hr.right).1
  have := hb w x y
  simp only [execOp, h1, h2, Sem.run_bind, Sem.run_pure] at this ⊢
  rw [this]
  rfl

theorem ok_not {t : TypeId} {x : Operand} {b : Bool} (hn : d < cx.n) (hx : EvS x (.d (.v (.bool b)))) :
    OpOk cx ⟨some d, .unOp .not t x, ty, pos, af, gd⟩ ⟨rdOf x (.d (.v (.bool b))), [(.s d, .av (.d (.v (.bool !b))))]⟩ := by
  refine ok_val rfl hn fun _ a w _ _ hs hr => ⟨.bool !b, w, ?_, Below.refl _ _, Rd.v _, trivial⟩
  simp [execOp, rep_v (hs.ev hx hr).1, Op.unary]

/-- What is loaded of cells from a place on. -/
def ldD (ti : TI) (cells : List D) : Option D := match ti.kind with
  | .st _ | .arr _ _ _ => match Nat.beq cells.length ti.n with
    | true => some (.agg cells)
    | false => match Nat.blt cells.length ti.n with
      | true => none
      | false => some (.agg (cells.take ti.n))
  | _ => cells.head?

theorem isAgg_of {P : Program} {t : Nat} {ti : TI} (h : TF P t ti) (w : World) :
    (isAgg t).run P w = .ok (match ti.kind with | .st _ => true | .arr _ _ _ => true | _ => false) w := by
  have hk := h.kind
  unfold isAgg
  cases hkd : ti.kind <;> simp only [hkd] at hk
  · obtain ⟨d, hd, h1, h2, _⟩ := hk
    simp only [Sem.run_bind, run_underlying hd, Result.andThen_ok]
    cases d <;> first | rfl | (exact absurd rfl (h1 _)) | (exact absurd rfl (h2 _ _))
  · simp [run_underlying hk.1]
  · simp [run_underlying hk.1]
  · simp [run_underlying hk.1]
  · simp [run_underlying hk.1]
  · obtain ⟨fs, hd, _⟩ := hk
    simp [run_underlying hd]
  · simp [run_underlying hk.1]

theorem sizeOf_of {P : Program} {t : Nat} {ti : TI} (h : TF P t ti) (w : World) : (sizeOf t).run P w = .ok ti.n w := by
  obtain ⟨i, hi, hs, _⟩ := h.info
  simp [sizeOf, typeInfo, hi, hs]

theorem one_n {P : Program} {t : Nat} {ti : TI} (h : TF P t ti) (hk : match ti.kind with | .st _ => false | .arr _ _ _ => false | _ => true) : ti.n = 1 := by
  have := h.kind
  cases hkd : ti.kind <;> simp only [hkd] at this hk
  · exact this.choose_spec.2.2.2
  · exact this.2
  · exact this.2
  · exact this.2
  · exact this.2.2.2
  · cases hk
  · cases hk

theorem run_load_cells {P : Program} {w : World} {own : Nat → Prop} {t : Nat} {ti : TI} (h : TF P t ti) {ad : Addr} {cells : List D} (hc : RdCells w own ad cells) {x : D} (hl : ldD ti cells = some x) :
    ∃ v, (Instr.loadAt t (.pointer (some ad))).run P w = .ok v w ∧ Rd w own v x := by
  have hagg : ∀ n, n ≤ cells.length → ∃ v, (loadCells ad n).run P w = .ok v w ∧ v.size = n ∧ ∀ (j : Nat) (c : Value), v[j]? = some c → ∃ d, cells[j]? = some d ∧ c.oneCell' = true ∧ Rd w own c d := by
    intro n hn
    have hf : ∀ j, j < n → w.cell? (ad.add j) = some ((w.cell? (ad.add j)).getD undef) := fun j hj => by
      obtain ⟨u, hu, _⟩ := hc j cells[j] (List.getElem?_eq_getElem (by omega))
      rw [hu]; rfl
    refine ⟨_, run_loadCells w ad n (fun j => (w.cell? (ad.add j)).getD undef) hf, by simp, fun j c hj => ?_⟩
    have hjn : j < n := by
      have := (Array.getElem?_eq_some_iff.1 hj).1
      simpa using this
    obtain ⟨u, hu, h1, h2⟩ := hc j cells[j] (List.getElem?_eq_getElem (by omega))
    have hcu : c = u := by
      simp [hjn, hu] at hj
      exact hj.symm
    exact ⟨cells[j], List.getElem?_eq_getElem (by omega), by rw [hcu]; exact h1, by rw [hcu]; exact h2⟩
  have hA := isAgg_of h w
  have hS := sizeOf_of h w
  have agg : ti.n ≤ cells.length → (isAgg t).run P w = .ok true w → ∃ v, (Instr.loadAt t (.pointer (some ad))).run P w = .ok v w ∧ Rd w own v (.agg (cells.take ti.n)) := by
    intro hn hA
    obtain ⟨v, h1, h2, h3⟩ := hagg ti.n hn
    refine ⟨.agg v, by simp [Instr.loadAt, Instr.sureAddr, loadVar, hA, hS, h1], .agg v _ (by simp [h2, hn]) (fun j c hj => ?_) fun j d c hd hj => ?_⟩
    · obtain ⟨_, _, h4, _⟩ := h3 j c hj; exact h4
    · obtain ⟨d', h4, _, h5⟩ := h3 j c hj
      rw [List.getElem?_take] at hd
      split at hd
      · rw [h4] at hd; cases hd; exact h5
      · cases hd
  have one : cells.head? = some x → (isAgg t).run P w = .ok false w → ∃ v, (Instr.loadAt t (.pointer (some ad))).run P w = .ok v w ∧ Rd w own v x := by
    intro hx hA
    have h0 : cells[0]? = some x := by rw [← List.head?_eq_getElem?]; exact hx
    obtain ⟨u, hu, _, h2⟩ := hc 0 x h0
    rw [add_zero] at hu
    exact ⟨u, by simp [Instr.loadAt, Instr.sureAddr, loadVar, hA, hu], h2⟩
  have aggs : (isAgg t).run P w = .ok true w → (match Nat.beq cells.length ti.n with
    | true => some (D.agg cells)
    | false => match Nat.blt cells.length ti.n with
      | true => none
      | false => some (.agg (cells.take ti.n))) = some x → ∃ v, (Instr.loadAt t (.pointer (some ad))).run P w = .ok v w ∧ Rd w own v x := by
    intro hA hl
    split at hl
    · next hb =>
      cases hl
      have he : cells.length = ti.n := by simpa using hb
      have := agg (by omega) hA
      rwa [List.take_of_length_le (by omega)] at this
    · split at hl
      · cases hl
      · next hb =>
        cases hl
        have hle : ¬ cells.length < ti.n := by
          intro hlt
          have : Nat.blt cells.length ti.n = true := by simpa using hlt
          rw [hb] at this; cases this
        exact agg (by omega) hA
  unfold ldD at hl
  cases hkd : ti.kind <;> simp only [hkd] at hl hA
  · exact one hl hA
  · exact one hl hA
  · exact one hl hA
  · exact one hl hA
  · exact one hl hA
  · exact aggs hA hl
  · exact aggs hA hl

theorem ok_load_pd {t : TypeId} {x : Operand} {cells : List D} {ti : TI} {y : D} (hn : d < cx.n) (hx : EvS x (.pd cells)) (ht : tget cx.T t = some ti) (hl : ldD ti cells = some y) :
    OpOk cx ⟨some d, .load t x, ty, pos, af, gd⟩ ⟨rdOf x (.pd cells), [(.s d, .av (.d y))]⟩ := by
  refine ok_val rfl hn fun _ a w _ _ hs hr => ?_
  obtain ⟨ad, hv, _, _, hc⟩ := (hs.ev hx hr).1
  obtain ⟨v, h1, h2⟩ := run_load_cells (cx.hT t ti ht) hc hl
  exact ⟨v, w, by simp [execOp, hv, h1], Below.refl _ _, h2, trivial⟩

theorem fieldPlace_of {P : Program} {t : Nat} {ti : TI} {fs : List (Nat × Nat)} (h : TF P t ti) (hk : ti.kind = .st fs) {f : Nat} {p : Nat × Nat} (hf : fs[f]? = some p) (ad : Addr) (w : World) :
    (Instr.fieldAt t (.pointer (some ad)) f).run P w = .ok (.pointer (some (ad.add p.1))) w := by
  have hkd := h.kind
  rw [hk] at hkd
  obtain ⟨b, hu, _, hg⟩ := hkd
  obtain ⟨fl, i, h1, h2, h3, h4, h5, _⟩ := hg f p hf
  have : ¬ i.size = 0 := by omega
  simp [Instr.fieldAt, run_underlying hu, h1, Instr.sureAddr, fieldPlace, sizeOf, typeInfo, h3, this, h2]

def fldOff (ti : TI) (f : Nat) : Option Nat := match ti.kind with
  | .st fs => (fs[f]?).map (·.1)
  | _ => none

theorem fieldAt_of {P : Program} {t : Nat} {ti : TI} (h : TF P t ti) {f off : Nat} (hf : fldOff ti f = some off) (ad : Addr) (w : World) :
    (Instr.fieldAt t (.pointer (some ad)) f).run P w = .ok (.pointer (some (ad.add off))) w := by
  unfold fldOff at hf
  split at hf
  · next fs hk =>
    cases hp : fs[f]? with
    | none => rw [hp] at hf; cases hf
    | some p =>
      rw [hp] at hf
      obtain rfl : p.1 = off := by simpa using hf
      exact fieldPlace_of h hk hp ad w
  · cases hf

theorem RdCells.drop {w : World} {own : Nat → Prop} {ad : Addr} {ds : List D} (h : RdCells w own ad ds) (n : Nat) : RdCells w own (ad.add n) (ds.drop n) := by
  intro j d hj
  rw [List.getElem?_drop] at hj
  obtain ⟨u, h1, h2, h3⟩ := h _ _ hj
  exact ⟨u, by rw [add_add]; exact h1, h2, h3⟩

theorem ok_fa_pd {t : TypeId} {x : Operand} {cells : List D} {ti : TI} {f off : Nat} (hn : d < cx.n) (hx : EvS x (.pd cells)) (ht : tget cx.T t = some ti) (hf : fldOff ti f = some off) :
    OpOk cx ⟨some d, .fieldAddr t x f, ty, pos, af, gd⟩ ⟨rdOf x (.pd cells), [(.s d, .av (.pd (cells.drop off)))]⟩ := by
  refine ok_val rfl hn fun _ a w _ _ hs hr => ?_
  obtain ⟨ad, hv, h1, h2, hc⟩ := (hs.ev hx hr).1
  exact ⟨.pointer (some (ad.add off)), w, by simp [execOp, hv, fieldAt_of (cx.hT t ti ht) hf], Below.refl _ _,
    ⟨_, rfl, by rw [add_block]; exact h1, by rw [add_block]; exact h2, hc.drop off⟩, trivial⟩

theorem ok_fa_ptr {t : TypeId} {x : Operand} {id o0 : Nat} {cells : List AV} {ti : TI} {f off : Nat} (hn : d < cx.n) (hx : EvS x (.ptr id o0)) (ht : tget cx.T t = some ti) (hf : fldOff ti f = some off) :
    OpOk cx ⟨some d, .fieldAddr t x f, ty, pos, af, gd⟩ ⟨rdOf x (.ptr id o0) ++ [(.o id, .ob (.box cells))], [(.s d, .av (.ptr id (o0 + off)))]⟩ := by
  refine ok_val rfl hn fun σ a w g nx hs hr => ?_
  obtain ⟨h1, h2⟩ := hs.ev hx hr.left
  have ho : get σ (.o id) = .ob (.box cells) := hr.right.1
  obtain ⟨b, hg, hv⟩ := h1 cells ho
  refine ⟨.pointer (some ⟨b, o0 + off, none⟩), w, by simp [execOp, hv, fieldAt_of (cx.hT t ti ht) hf, add_lit], Below.refl _ _, ?_, h2⟩
  intro c0 hc0
  exact ⟨b, hg, rfl⟩

end Go.AX
