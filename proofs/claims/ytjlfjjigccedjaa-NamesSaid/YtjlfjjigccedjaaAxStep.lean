/-
  Steps of a walk, each with what a look at the state decides.
-/
import Derived.Test.YtjlfjjigccedjaaAxFn
import Derived.Sort.Walk0
import Derived.Laws.Strings
namespace Go.AX
open Go.RowKit

/-- A text's value. -/
def str (l : List UInt8) : Value := .string ⟨l.toArray⟩

section bin
variable {P : Program} {t : TypeId}

theorem wrap_in {n : Int} (h : -9223372036854775808 ≤ n ∧ n ≤ 9223372036854775807) : IntKind.i64.wrap n = n := by
  rw [IntKind.wrap_i64]; omega

theorem bin_add {a b : Int} (h : -9223372036854775808 ≤ a + b ∧ a + b ≤ 9223372036854775807) : BinR P .add t (.int .i64 a) (.int .i64 b) (.int .i64 (a + b)) := by
  intro w x y
  have := wrap_in h
  simp [eqGuard, binOp, Op.intArith, this]
theorem bin_sub {a b : Int} (h : -9223372036854775808 ≤ a - b ∧ a - b ≤ 9223372036854775807) : BinR P .sub t (.int .i64 a) (.int .i64 b) (.int .i64 (a - b)) := by
  intro w x y
  have := wrap_in h
  simp [eqGuard, binOp, Op.intArith, this]
theorem bin_mul {a b : Int} (h : -9223372036854775808 ≤ a * b ∧ a * b ≤ 9223372036854775807) : BinR P .mul t (.int .i64 a) (.int .i64 b) (.int .i64 (a * b)) := by
  intro w x y
  have := wrap_in h
  simp [eqGuard, binOp, Op.intArith, this]
theorem bin_lss {k : IntKind} {a b : Int} : BinR P .lss t (.int k a) (.int k b) (.bool (decide (a < b))) := by
  intro w x y; simp [eqGuard, binOp, Op.intCmp]
theorem bin_leq {k : IntKind} {a b : Int} : BinR P .leq t (.int k a) (.int k b) (.bool (decide (a ≤ b))) := by
  intro w x y; simp [eqGuard, binOp, Op.intCmp]
theorem bin_gtr {k : IntKind} {a b : Int} : BinR P .gtr t (.int k a) (.int k b) (.bool (decide (b < a))) := by
  intro w x y; simp [eqGuard, binOp, Op.intCmp]
theorem bin_geq {k : IntKind} {a b : Int} : BinR P .geq t (.int k a) (.int k b) (.bool (decide (b ≤ a))) := by
  intro w x y; simp [eqGuard, binOp, Op.intCmp]
theorem bin_eql {k : IntKind} {a b : Int} : BinR P .eql t (.int k a) (.int k b) (.bool (decide (a = b))) := by
  intro w x y; simp [eqGuard_at_int, binOp, Op.intCmp]; rw [Bool.eq_iff_iff]; simp
theorem bin_neq {k : IntKind} {a b : Int} : BinR P .neq t (.int k a) (.int k b) (.bool (!decide (a = b))) := by
  intro w x y; simp [eqGuard_at_int, binOp, Op.intCmp]; rw [Bool.eq_iff_iff]; simp
theorem bin_seql {a b : List UInt8} : BinR P .eql t (str a) (str b) (.bool (decide (a = b))) := by
  intro w x y; simp [str, eqGuard_at_string, binOp, Op.stringOp]; rw [Bool.eq_iff_iff]; simp
theorem bin_sneq {a b : List UInt8} : BinR P .neq t (str a) (str b) (.bool (!decide (a = b))) := by
  intro w x y; simp [str, eqGuard_at_string, binOp, Op.stringOp]; rw [Bool.eq_iff_iff]; simp
theorem bin_slss {a b : List UInt8} : BinR P .lss t (str a) (str b) (.bool (Op.bytesLess a b)) := by
  intro w x y; simp [str, eqGuard_at_string, binOp, Op.stringOp]
theorem bin_sgtr {a b : List UInt8} : BinR P .gtr t (str a) (str b) (.bool (!(Op.bytesLess a b || decide (a = b)))) := by
  intro w x y; simp [str, eqGuard_at_string, binOp, Op.stringOp]; rw [Bool.eq_iff_iff]; simp
theorem bin_sleq {a b : List UInt8} : BinR P .leq t (str a) (str b) (.bool (Op.bytesLess a b || decide (a = b))) := by
  intro w x y; simp [str, eqGuard_at_string, binOp, Op.stringOp]; rw [Bool.eq_iff_iff]; simp
theorem bin_sgeq {a b : List UInt8} : BinR P .geq t (str a) (str b) (.bool (!Op.bytesLess a b)) := by
  intro w x y; simp [str, eqGuard_at_string, binOp, Op.stringOp]
end bin

variable {cx : Cx} {σ : St} {ops : Array Oper} {K : List Tr → St → Prop} {acc : List Tr} {rest : List Oper} {pre : List (Key × Val)}
variable {ty : TypeId} {pos : String} {af : Array Edge} {gd : Option (Nat × Bool)} {d : Nat}

theorem lt_of_blt {a b : Nat} (h : Nat.blt a b = true) : a < b := by simpa using h

theorem st_move {x : Operand} {av : AV} (hx : ev σ x = some av) (hg : GOk ops σ ⟨some d, .move x, ty, pos, af, gd⟩ pre) (hd : Nat.blt d cx.n = true)
    (h : RW cx ops K (acc ++ [⟨pre ++ rdOf x av, [(.s d, .av av)]⟩]) rest ((.s d, .av av) :: σ)) : RW cx ops K acc (⟨some d, .move x, ty, pos, af, gd⟩ :: rest) σ :=
  RW.step hg (ok_move (lt_of_blt hd) (ev_out hx).1) (ev_out hx).2 h
theorem st_assign {x : Operand} {av : AV} (hx : ev σ x = some av) (hg : GOk ops σ ⟨some d, .assign x, ty, pos, af, gd⟩ pre) (hd : Nat.blt d cx.n = true)
    (h : RW cx ops K (acc ++ [⟨pre ++ rdOf x av, [(.s d, .av av)]⟩]) rest ((.s d, .av av) :: σ)) : RW cx ops K acc (⟨some d, .assign x, ty, pos, af, gd⟩ :: rest) σ :=
  RW.step hg (ok_assign (lt_of_blt hd) (ev_out hx).1) (ev_out hx).2 h
theorem st_bin {op : BinOp} {t t' : TypeId} {x y : Operand} {u v r : Value} (hx : ev σ x = some (.d (.v u))) (hy : ev σ y = some (.d (.v v))) (hb : BinR cx.P op t u v r)
    (hg : GOk ops σ ⟨some d, .binOp op t x y t', ty, pos, af, gd⟩ pre) (hd : Nat.blt d cx.n = true)
    (h : RW cx ops K (acc ++ [⟨pre ++ (rdOf x (.d (.v u)) ++ rdOf y (.d (.v v))), [(.s d, .av (.d (.v r)))]⟩]) rest ((.s d, .av (.d (.v r))) :: σ)) :
    RW cx ops K acc (⟨some d, .binOp op t x y t', ty, pos, af, gd⟩ :: rest) σ :=
  RW.step hg (ok_bin (lt_of_blt hd) (ev_out hx).1 (ev_out hy).1 hb) ((ev_out hx).2.append (ev_out hy).2) h
theorem st_not {t : TypeId} {x : Operand} {b : Bool} (hx : ev σ x = some (.d (.v (.bool b)))) (hg : GOk ops σ ⟨some d, .unOp .not t x, ty, pos, af, gd⟩ pre) (hd : Nat.blt d cx.n = true)
    (h : RW cx ops K (acc ++ [⟨pre ++ rdOf x (.d (.v (.bool b))), [(.s d, .av (.d (.v (.bool !b))))]⟩]) rest ((.s d, .av (.d (.v (.bool !b)))) :: σ)) :
    RW cx ops K acc (⟨some d, .unOp .not t x, ty, pos, af, gd⟩ :: rest) σ :=
  RW.step hg (ok_not (lt_of_blt hd) (ev_out hx).1) (ev_out hx).2 h
def sel (b : Bool) (x y : Operand) : Operand := match b with
  | true => x
  | false => y
theorem st_pick {c x y : Operand} {b : Bool} {av : AV} (hc : ev σ c = some (.d (.v (.bool b)))) (hx : ev σ (sel b x y) = some av)
    (hg : GOk ops σ ⟨some d, .pick c x y, ty, pos, af, gd⟩ pre) (hd : Nat.blt d cx.n = true)
    (h : RW cx ops K (acc ++ [⟨pre ++ (rdOf c (.d (.v (.bool b))) ++ rdOf (sel b x y) av), [(.s d, .av av)]⟩]) rest ((.s d, .av av) :: σ)) :
    RW cx ops K acc (⟨some d, .pick c x y, ty, pos, af, gd⟩ :: rest) σ := by
  have he : sel b x y = if b then x else y := by cases b <;> rfl
  rw [he] at hx h
  exact RW.step hg (ok_pick (aw := av) (lt_of_blt hd) (ev_out hc).1 (ev_out hx).1) ((ev_out hc).2.append (ev_out hx).2) h
theorem st_load_pd {t : TypeId} {x : Operand} {cells : List D} {ti : TI} {y : D} (hx : ev σ x = some (.pd cells)) (ht : tget cx.T t = some ti) (hl : ldD ti cells = some y)
    (hg : GOk ops σ ⟨some d, .load t x, ty, pos, af, gd⟩ pre) (hd : Nat.blt d cx.n = true)
    (h : RW cx ops K (acc ++ [⟨pre ++ rdOf x (.pd cells), [(.s d, .av (.d y))]⟩]) rest ((.s d, .av (.d y)) :: σ)) : RW cx ops K acc (⟨some d, .load t x, ty, pos, af, gd⟩ :: rest) σ :=
  RW.step hg (ok_load_pd (lt_of_blt hd) (ev_out hx).1 ht hl) (ev_out hx).2 h
theorem st_load_ptr {t : TypeId} {x : Operand} {id off : Nat} {cells : List AV} {ti : TI} {y : AV} (hx : ev σ x = some (.ptr id off)) (ho : get σ (.o id) = .ob (.box cells)) (ht : tget cx.T t = some ti)
    (hl : ldA ti (cells.drop off) = some y) (hg : GOk ops σ ⟨some d, .load t x, ty, pos, af, gd⟩ pre) (hd : Nat.blt d cx.n = true)
    (h : RW cx ops K (acc ++ [⟨pre ++ (rdOf x (.ptr id off) ++ [(.o id, .ob (.box cells))]), [(.s d, .av y)]⟩]) rest ((.s d, .av y) :: σ)) : RW cx ops K acc (⟨some d, .load t x, ty, pos, af, gd⟩ :: rest) σ :=
  RW.step hg (ok_load_ptr (lt_of_blt hd) (ev_out hx).1 ht hl) ((ev_out hx).2.append ⟨ho, trivial⟩) h
theorem st_fa_pd {t : TypeId} {x : Operand} {cells : List D} {ti : TI} {f off : Nat} (hx : ev σ x = some (.pd cells)) (ht : tget cx.T t = some ti) (hf : fldOff ti f = some off)
    (hg : GOk ops σ ⟨some d, .fieldAddr t x f, ty, pos, af, gd⟩ pre) (hd : Nat.blt d cx.n = true)
    (h : RW cx ops K (acc ++ [⟨pre ++ rdOf x (.pd cells), [(.s d, .av (.pd (cells.drop off)))]⟩]) rest ((.s d, .av (.pd (cells.drop off))) :: σ)) :
    RW cx ops K acc (⟨some d, .fieldAddr t x f, ty, pos, af, gd⟩ :: rest) σ :=
  RW.step hg (ok_fa_pd (lt_of_blt hd) (ev_out hx).1 ht hf) (ev_out hx).2 h
theorem st_fa_ptr {t : TypeId} {x : Operand} {id o0 : Nat} {cells : List AV} {ti : TI} {f off : Nat} (hx : ev σ x = some (.ptr id o0)) (ho : get σ (.o id) = .ob (.box cells)) (ht : tget cx.T t = some ti)
    (hf : fldOff ti f = some off) (hg : GOk ops σ ⟨some d, .fieldAddr t x f, ty, pos, af, gd⟩ pre) (hd : Nat.blt d cx.n = true)
    (h : RW cx ops K (acc ++ [⟨pre ++ (rdOf x (.ptr id o0) ++ [(.o id, .ob (.box cells))]), [(.s d, .av (.ptr id (o0 + off)))]⟩]) rest ((.s d, .av (.ptr id (o0 + off))) :: σ)) :
    RW cx ops K acc (⟨some d, .fieldAddr t x f, ty, pos, af, gd⟩ :: rest) σ :=
  RW.step hg (ok_fa_ptr (lt_of_blt hd) (ev_out hx).1 ht hf) ((ev_out hx).2.append ⟨ho, trivial⟩) h
theorem st_ia_sl {t : TypeId} {x y : Operand} {k : Nat} {rows : List (List D)} {kd : IntKind} {i : Int} {ti : TI} {r : List D} (hx : ev σ x = some (.d (.sl k rows)))
    (hy : ev σ y = some (.d (.v (.int kd i)))) (ht : tget cx.T t = some ti) (hk : slK ti = some k) (hi : idx rows i = some r)
    (hg : GOk ops σ ⟨some d, .indexAddr t x y, ty, pos, af, gd⟩ pre) (hd : Nat.blt d cx.n = true)
    (h : RW cx ops K (acc ++ [⟨pre ++ (rdOf x (.d (.sl k rows)) ++ rdOf y (.d (.v (.int kd i)))), [(.s d, .av (.pd r))]⟩]) rest ((.s d, .av (.pd r)) :: σ)) :
    RW cx ops K acc (⟨some d, .indexAddr t x y, ty, pos, af, gd⟩ :: rest) σ :=
  RW.step hg (ok_ia_sl (lt_of_blt hd) (ev_out hx).1 (ev_out hy).1 ht hk hi) ((ev_out hx).2.append (ev_out hy).2) h
theorem st_len_sl {t : TypeId} {x : Operand} {k k' : Nat} {rows : List (List D)} {ti : TI} (hx : ev σ x = some (.d (.sl k rows))) (ht : tget cx.T t = some ti) (hk : slK ti = some k')
    (hg : GOk ops σ ⟨some d, .call { callee := .builtin .len, args := #[x], argTypes := #[t] }, ty, pos, af, gd⟩ pre) (hd : Nat.blt d cx.n = true)
    (h : RW cx ops K (acc ++ [⟨pre ++ rdOf x (.d (.sl k rows)), [(.s d, .av (.d (.v (.int .i64 rows.length))))]⟩]) rest ((.s d, .av (.d (.v (.int .i64 rows.length)))) :: σ)) :
    RW cx ops K acc (⟨some d, .call { callee := .builtin .len, args := #[x], argTypes := #[t] }, ty, pos, af, gd⟩ :: rest) σ :=
  RW.step hg (ok_len_sl (lt_of_blt hd) (ev_out hx).1 ht hk) (ev_out hx).2 h
theorem st_extract {x : Operand} {avs : List AV} {i : Nat} {av : AV} (hx : ev σ x = some (.tup avs)) (hi : avs[i]? = some av) (hav : match av with | .tup _ => False | _ => True)
    (hg : GOk ops σ ⟨some d, .extract x i, ty, pos, af, gd⟩ pre) (hd : Nat.blt d cx.n = true)
    (h : RW cx ops K (acc ++ [⟨pre ++ rdOf x (.tup avs), [(.s d, .av av)]⟩]) rest ((.s d, .av av) :: σ)) : RW cx ops K acc (⟨some d, .extract x i, ty, pos, af, gd⟩ :: rest) σ :=
  RW.step hg (ok_extract (lt_of_blt hd) (ev_out hx).1 hi hav) (ev_out hx).2 h
theorem st_alloc {t : TypeId} {ti : TI} {nx : Nat} (hnx : get σ .nx = .num nx) (ht : tget cx.T t = some ti) (h1 : (ti.zero.all Value.oneCell') = true)
    (hg : GOk ops σ ⟨some d, .alloc t, ty, pos, af, gd⟩ pre) (hd : Nat.blt d cx.n = true)
    (h : RW cx ops K (acc ++ [⟨pre ++ [(.nx, .num nx)], [(.s d, .av (.ptr nx 0)), (.o nx, .ob (.box (ti.zero.map fun c => .d (.v c)))), (.nx, .num (nx + 1))]⟩]) rest
      ((.s d, .av (.ptr nx 0)) :: (.o nx, .ob (.box (ti.zero.map fun c => .d (.v c)))) :: (.nx, .num (nx + 1)) :: σ)) :
    RW cx ops K acc (⟨some d, .alloc t, ty, pos, af, gd⟩ :: rest) σ :=
  RW.step hg (ok_alloc (lt_of_blt hd) ht fun c hc => List.all_eq_true.1 h1 c hc) ⟨hnx, trivial⟩ h
theorem st_store {t : TypeId} {x y : Operand} {id off : Nat} {cells new : List AV} {av : AV} {ti : TI} {l : List (Key × Val)} (hx : ev σ x = some (.ptr id off)) (ho : get σ (.o id) = .ob (.box cells))
    (hy : ev σ y = some av) (ht : tget cx.T t = some ti) (hc : cellsOf av = some new) (hl : nwRd av l ∧ App σ l) (hnn : Nat.beq new.length ti.n = true) (hle : Nat.ble (off + new.length) cells.length = true)
    (hg : GOk ops σ ⟨none, .store t x y, ty, pos, af, gd⟩ pre)
    (h : RW cx ops K (acc ++ [⟨pre ++ (rdOf x (.ptr id off) ++ (rdOf y av ++ (l ++ [(.o id, .ob (.box cells))]))), [(.o id, .ob (.box (putCells cells off new)))]⟩]) rest
      ((.o id, .ob (.box (putCells cells off new))) :: σ)) : RW cx ops K acc (⟨none, .store t x y, ty, pos, af, gd⟩ :: rest) σ :=
  RW.step hg (ok_store_ptr (ev_out hx).1 (ev_out hy).1 ht hc hl.1 hnn hle) ((ev_out hx).2.append ((ev_out hy).2.append (hl.2.append ⟨ho, trivial⟩))) h
theorem st_box {t : TypeId} {x : Operand} {av : AV} {cells : List AV} {l : List (Key × Val)} {nx : Nat} (hx : ev σ x = some av) (hnx : get σ .nx = .num nx) (hc : cellsOf av = some cells) (hl : nwRd av l ∧ App σ l)
    (hg : GOk ops σ ⟨some d, .box t x, ty, pos, af, gd⟩ pre) (hd : Nat.blt d cx.n = true)
    (h : RW cx ops K (acc ++ [⟨pre ++ ((.nx, .num nx) :: (rdOf x av ++ l)), [(.s d, .av (.ptr nx 0)), (.o nx, .ob (.box cells)), (.nx, .num (nx + 1))]⟩]) rest
      ((.s d, .av (.ptr nx 0)) :: (.o nx, .ob (.box cells)) :: (.nx, .num (nx + 1)) :: σ)) : RW cx ops K acc (⟨some d, .box t x, ty, pos, af, gd⟩ :: rest) σ :=
  RW.step hg (ok_box (lt_of_blt hd) (ev_out hx).1 hc hl.1) ⟨hnx, (ev_out hx).2.append hl.2⟩ h
theorem st_call {f : FuncId} {xs : List Operand} {avs : List AV} {ys : List Arg} {l : List (Key × Val)} {r : Res} {ats : Array TypeId} (hc : FnOk cx.P f ys r) (hsub : Subs xs avs ys l) (ha : App σ l)
    (hg : GOk ops σ ⟨some d, .call { callee := .value (.func f), args := ⟨xs⟩, argTypes := ats }, ty, pos, af, gd⟩ pre) (hd : Nat.blt d cx.n = true)
    (h : RW cx ops K (acc ++ [⟨pre ++ l, [(.s d, .av r.av)]⟩]) rest ((.s d, .av r.av) :: σ)) :
    RW cx ops K acc (⟨some d, .call { callee := .value (.func f), args := ⟨xs⟩, argTypes := ats }, ty, pos, af, gd⟩ :: rest) σ :=
  RW.step hg (ok_call (lt_of_blt hd) hc hsub) ha h

section q
variable {Q : Exit → St → Prop} {y : Code} {id j k m : Nat} {S : Nat → St}
theorem q_then (h : CW cx y Q σ) : thenQ cx y Q .normal σ := h
theorem q_then_exit (h : Q (.exit j) σ) : thenQ cx y Q (.exit j) σ := h
theorem q_then_ret (h : Q .ret σ) : thenQ cx y Q .ret σ := h
theorem q_block (h : Q .normal σ) : blockQ id Q .normal σ := h
theorem q_block_ret (h : Q .ret σ) : blockQ id Q .ret σ := h
theorem q_block_hit (h : Q .normal σ) : blockQ id Q (.exit id) σ := by simp only [blockQ, Nat.beq_refl]; exact h
theorem q_block_miss (hj : Nat.beq j id = false) (h : Q (.exit j) σ) : blockQ id Q (.exit j) σ := by simp only [blockQ, hj]; exact h
theorem q_loop (hk : k < m) (h : Less σ (S (k + 1))) : loopQ S m k Q .normal σ := ⟨hk, h⟩
theorem q_loop_exit (h : Q (.exit j) σ) : loopQ S m k Q (.exit j) σ := h
theorem q_loop_ret (h : Q .ret σ) : loopQ S m k Q .ret σ := h
end q

theorem CW.cond_t {c : Operand} {x y : Code} {b : Bool} {Q : Exit → St → Prop} (hc : Go.AX.ev σ c = some (.d (.v (.bool b)))) (hb : b = true) (h : CW cx x Q σ) : CW cx (.cond c x y) Q σ :=
  CW.cond hc (fun _ => h) (fun hf => absurd (hb.symm.trans hf) (by simp))
theorem CW.cond_f {c : Operand} {x y : Code} {b : Bool} {Q : Exit → St → Prop} (hc : Go.AX.ev σ c = some (.d (.v (.bool b)))) (hb : b = false) (h : CW cx y Q σ) : CW cx (.cond c x y) Q σ :=
  CW.cond hc (fun hf => absurd (hb.symm.trans hf) (by simp)) (fun _ => h)

def AV.bd1B (nx : Nat) : AV → Bool
  | .ptr id _ => Nat.blt id nx
  | .own id _ => Nat.blt id nx
  | .pe id _ _ _ => Nat.blt id nx
  | _ => true
def AV.bdB (nx : Nat) : AV → Bool
  | .agg cells => cells.all (AV.bd1B nx)
  | .tup avs => avs.all fun av => match av with
    | .agg cells => cells.all (AV.bd1B nx)
    | a => a.bd1B nx
  | av => av.bd1B nx
def Ob.bdB (nx : Nat) : Ob → Bool
  | .box cells => cells.all (AV.bd1B nx)
  | .arr _ _ _ => true

theorem bd1_out {nx : Nat} {av : AV} (h : av.bd1B nx = true) : av.bd1 nx := by
  cases av <;> simp [AV.bd1B, AV.bd1] at h ⊢ <;> exact h
theorem bd_out {nx : Nat} {av : AV} (h : av.bdB nx = true) : av.bd nx := by
  cases av with
  | agg cells => exact fun a ha => bd1_out (List.all_eq_true.1 h a ha)
  | tup avs =>
    intro a ha
    have := List.all_eq_true.1 h a ha
    cases a <;> first | exact fun a ha => bd1_out (List.all_eq_true.1 this a ha) | exact bd1_out this
  | d y => trivial
  | pd y => trivial
  | any => trivial
  | ptr i o => exact bd1_out (av := .ptr i o) h
  | own i o => exact bd1_out (av := .own i o) h
  | pe i o p q => exact bd1_out (av := .pe i o p q) h
theorem obd_out {nx : Nat} {o : Ob} (h : o.bdB nx = true) : o.bd nx := by
  cases o with
  | box cells => exact fun a ha => bd1_out (List.all_eq_true.1 h a ha)
  | arr e k r => trivial

def valB (nx : Nat) : Key → Val → Bool
  | .o i, .ob o => Nat.blt i nx && o.bdB nx
  | _, .av av => av.bdB nx
  | .o i, _ => Nat.blt i nx
  | _, _ => true

/-- That a state says less than another, entry by entry. -/
def LessL (σ : St) (nx : Nat) : List (Key × Val) → Prop
  | [] => True
  | (k, v) :: r => match k with
    | .nx => LessL σ nx r
    | k => (get σ k = v ∧ valB nx k v = true) ∧ LessL σ nx r

theorem LessL.mem {nx : Nat} : ∀ {l : List (Key × Val)}, LessL σ nx l → ∀ k v, k ≠ .nx → get l k = v → v ≠ .none → get σ k = v ∧ valB nx k v = true
  | [], _, k, v, _, h, hn => absurd h.symm hn
  | (q, x) :: r, h, k, v, hk, hv, hn => by
    by_cases hq : q = k
    · subst hq
      rw [get_cons_same] at hv
      subst hv
      cases q with
      | nx => exact absurd rfl hk
      | s i => exact h.1
      | o i => exact h.1
    · have hr : LessL σ nx r := by
        cases q with
        | nx => exact h
        | s i => exact h.2
        | o i => exact h.2
      exact LessL.mem hr k v hk (by rw [← hv, get_cons_ne hq]) hn

/-- The check that one state says less than another. -/
theorem less_of {σ' : St} {n n' : Nat} (h1 : get σ .nx = .num n) (h2 : get σ' .nx = .num n') (hle : Nat.ble n' n = true) (h : LessL σ n' σ') : Less σ σ' := by
  refine ⟨fun i av hi => (h.mem _ _ (by simp) hi (by simp)).1, fun id o ho => (h.mem _ _ (by simp) ho (by simp)).1, n, n', h1, h2, by simpa using hle, fun i av hi => ?_, fun id o ho => ?_⟩
  · exact bd_out (h.mem _ _ (by simp) hi (by simp)).2
  · have := (h.mem _ _ (by simp) ho (by simp)).2
    simp only [valB, Bool.and_eq_true] at this
    exact ⟨by simpa using this.1, obd_out this.2⟩

theorem lessL_cons {nx : Nat} {k : Key} {v : Val} {r : List (Key × Val)} (h : get σ k = v) (hb : valB nx k v = true) (hr : LessL σ nx r) : LessL σ nx ((k, v) :: r) := by
  cases k with
  | nx => exact hr
  | s i => exact ⟨⟨h, hb⟩, hr⟩
  | o i => exact ⟨⟨h, hb⟩, hr⟩
theorem lessL_nx {nx : Nat} {v : Val} {r : List (Key × Val)} (hr : LessL σ nx r) : LessL σ nx ((.nx, v) :: r) := hr
theorem lessL_nil {nx : Nat} : LessL σ nx [] := trivial
theorem get_int {k : Key} {kd : IntKind} {n n' : Int} (h : get σ k = .av (.d (.v (.int kd n)))) (hn : n = n') : get σ k = .av (.d (.v (.int kd n'))) := by rw [← hn]; exact h
theorem get_sl {k : Key} {m : Nat} {r r' : List (List D)} (h : get σ k = .av (.d (.sl m r))) (hn : r = r') : get σ k = .av (.d (.sl m r')) := by rw [← hn]; exact h
theorem get_bool {k : Key} {b b' : Bool} (h : get σ k = .av (.d (.v (.bool b)))) (hn : b = b') : get σ k = .av (.d (.v (.bool b'))) := by rw [← hn]; exact h
theorem get_arr {k : Key} {e m : Nat} {r r' : List (List D)} (h : get σ k = .ob (.arr e m r)) (hn : r = r') : get σ k = .ob (.arr e m r') := by rw [← hn]; exact h
theorem get_own {k : Key} {i n n' : Nat} (h : get σ k = .av (.own i n)) (hn : n = n') : get σ k = .av (.own i n') := by rw [← hn]; exact h
theorem get_box {k : Key} {r r' : List AV} (h : get σ k = .ob (.box r)) (hn : r = r') : get σ k = .ob (.box r') := by rw [← hn]; exact h

theorem q_ret {rvs : List ResultVar} {res : Res} (h : RetOk cx.T σ rvs res) : retQ cx rvs res .ret σ := h
theorem q_end {rvs : List ResultVar} {res : Res} (h : RetOk cx.T σ rvs res) : retQ cx rvs res .normal σ := h

end Go.AX
