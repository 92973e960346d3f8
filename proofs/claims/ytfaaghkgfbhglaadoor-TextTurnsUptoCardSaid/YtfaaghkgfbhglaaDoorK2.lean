/-
  Part 2 of what the claim leans on: AxA AxOwn AxMore AxBy Md Sh0 AxOpen AxLaw Pl Rf Rf2 Srt AxDec AxPin AxNews AxApp AxBld AxStr Tx Tb F2 H1 ShNum ShNum2 AxPin2 AxFam2 AxPin4 AxPin5 AxFnD AxErr H6 Tx2 Eq2 F1 F6.
-/
import Derived.Test.YtfaaghkgfbhglaaDoorK1
import Derived.Lib.SliceRun
import Derived.ProofKit
import Derived.Test.YtfaaghkgfbhglaaDoorRows
import Derived.Deep.Slices
import Derived.Carry
import Derived.JoinedCond
import Derived.OpenShut
import Derived.Lib.AtoiAll
import Derived.Lib.ItoaNum
import Derived.Test.YtfaaghkgfbhglaaDoorProg
import Derived.KernelRfl
import Derived.Shelf.Strconv.AtoiAll
import Derived.Shelf.Strconv.Itoa3
import Derived.MapKept
import Derived.Shelf.Strconv.ErrVarAll

/-! AxA -/
/-
  What an operation does to the state, where a look decides it: computed.
-/
namespace Go.AX
open Go.RowKit

def cmpI : BinOp → Int → Int → Option Bool
  | .lss, a, b => some (decide (a < b))
  | .leq, a, b => some (decide (a ≤ b))
  | .gtr, a, b => some (decide (b < a))
  | .geq, a, b => some (decide (b ≤ a))
  | .eql, a, b => some (decide (a = b))
  | .neq, a, b => some (!decide (a = b))
  | _, _, _ => none
def cmpS : BinOp → List UInt8 → List UInt8 → Option Bool
  | .lss, a, b => some (Op.bytesLess a b)
  | .leq, a, b => some (Op.bytesLess a b || decide (a = b))
  | .gtr, a, b => some (!(Op.bytesLess a b || decide (a = b)))
  | .geq, a, b => some (!Op.bytesLess a b)
  | .eql, a, b => some (decide (a = b))
  | .neq, a, b => some (!decide (a = b))
  | _, _, _ => none
def cmpA (op : BinOp) (u v : Value) : Option Bool := match u with
  | .int .i64 a => match v with
    | .int .i64 b => cmpI op a b
    | _ => none
  | .int .u8 a => match v with
    | .int .u8 b => cmpI op a b
    | _ => none
  | .int .i32 a => match v with
    | .int .i32 b => cmpI op a b
    | _ => none
  | .string ⟨⟨a⟩⟩ => match v with
    | .string ⟨⟨b⟩⟩ => cmpS op a b
    | _ => none
  | _ => none
def gbox (σ : St) (id : Nat) : Option (List AV) := match get σ (.o id) with
  | .ob (.box c) => some c
  | _ => none
def plainA : AV → Bool
  | .tup _ => false
  | _ => true

def valA (T : Tbl) (σ : St) : Op → Option (List (Key × Val) × AV)
  | .move x => (ev σ x).bind fun av => some (rdOf x av, av)
  | .assign x => (ev σ x).bind fun av => some (rdOf x av, av)
  | .unOp .not _ x => (ev σ x).bind fun av => match av with
    | .d (.v (.bool b)) => some (rdOf x (.d (.v (.bool b))), .d (.v (.bool !b)))
    | _ => none
  | .binOp op _ x y _ => (ev σ x).bind fun av => match av with
    | .d (.v u) => (ev σ y).bind fun aw => match aw with
      | .d (.v v) => (cmpA op u v).bind fun r => some (rdOf x (.d (.v u)) ++ rdOf y (.d (.v v)), .d (.v (.bool r)))
      | _ => none
    | _ => none
  | .load t x => (ev σ x).bind fun av => (tget T t).bind fun ti => match av with
    | .pd cells => (ldD ti cells).bind fun y => some (rdOf x (.pd cells), .d y)
    | .ptr id off => (gbox σ id).bind fun cells => (ldA ti (cells.drop off)).bind fun y => some (rdOf x (.ptr id off) ++ [(.o id, .ob (.box cells))], y)
    | _ => none
  | .fieldAddr t x f => (ev σ x).bind fun av => (tget T t).bind fun ti => (fldOff ti f).bind fun off => match av with
    | .pd cells => some (rdOf x (.pd cells), .pd (cells.drop off))
    | .ptr id o0 => (gbox σ id).bind fun cells => some (rdOf x (.ptr id o0) ++ [(.o id, .ob (.box cells))], .ptr id (o0 + off))
    | _ => none
  | .extract x i => (ev σ x).bind fun av => match av with
    | .tup avs => (avs[i]?).bind fun v => match plainA v with
      | true => some (rdOf x (.tup avs), v)
      | false => none
    | _ => none
  | .field t x f => (ev σ x).bind fun av => match av with
    | .d (.agg cells) => (tget T t).bind fun ti => match ti.kind with
      | .st fs => (fs[f]?).bind fun p => match Nat.beq p.2 1 with
        | true => (cells[p.1]?).bind fun y => some (rdOf x (.d (.agg cells)), .d y)
        | false => none
      | _ => none
    | _ => none
  | .call ⟨.builtin .len, ⟨[x]⟩, ⟨[t]⟩⟩ => (ev σ x).bind fun av => (tget T t).bind fun ti => match av with
    | .d (.sl k rows) => (slK ti).bind fun _ => some (rdOf x (.d (.sl k rows)), .d (.v (.int .i64 rows.length)))
    | .d (.v (.string ⟨⟨l⟩⟩)) => match ti.kind with
      | .str => some (rdOf x (.d (.v (.string ⟨⟨l⟩⟩))), .d (.v (.int .i64 l.length)))
      | _ => none
    | _ => none
  | _ => none

/-- Cells that may be laid, with nothing asked of slices of ours. -/
def freeA : AV → Bool
  | .own _ _ => false
  | .ptr _ _ => false
  | .pe _ _ _ _ => false
  | .h _ => false
  | _ => true
def partsA (σ : St) : List (Nat × Operand) → Option (List (Nat × List D) × List (Key × Val))
  | [] => some ([], [])
  | (i, x) :: r => (ev σ x).bind fun av => (dcells av).bind fun ds => (partsA σ r).bind fun q => some ((i, ds) :: q.1, rdOf x av ++ q.2)
def gnum (σ : St) : Option Nat := match get σ .nx with
  | .num n => some n
  | _ => none
/-- The rows of a literal slice: its parts are the places 0, 1, .. in turn. -/
def rowsA (k : Nat) : Nat → List (Nat × List D) → Option (List (List D))
  | _, [] => some []
  | i, (j, r) :: q => match Nat.beq i j && Nat.beq r.length k with
    | true => (rowsA k (i + 1) q).bind fun rs => some (r :: rs)
    | false => none

def trA (T : Tbl) (σ : St) (dst : Option Nat) (op : Op) : Option Tr := match dst with
  | some d => match valA T σ op with
    | some (rd, av) => some ⟨rd, [(.s d, .av av)]⟩
    | none => match op with
      | .alloc t => (gnum σ).bind fun nx => (tget T t).bind fun ti => match ti.zero.all Value.oneCell' with
        | true => some ⟨[(.nx, .num nx)], [(.s d, .av (.ptr nx 0)), (.o nx, .ob (.box (ti.zero.map fun c => .d (.v c)))), (.nx, .num (nx + 1))]⟩
        | false => none
      | .box _ x => (gnum σ).bind fun nx => (ev σ x).bind fun av => match freeA av with
        | true => (cellsOf av).bind fun cells => some ⟨(.nx, .num nx) :: (rdOf x av ++ []), [(.s d, .av (.ptr nx 0)), (.o nx, .ob (.box cells)), (.nx, .num (nx + 1))]⟩
        | false => none
      | .build t ⟨ps⟩ => (tget T t).bind fun ti => match ti.zero.all Value.oneCell' with
        | true => (stPlace ti).bind fun place => (partsA σ ps).bind fun q => (fillD place (ti.zero.map D.v) q.1).bind fun out => some ⟨q.2, [(.s d, .av (.d (.agg out)))]⟩
        | false => none
      | .buildSlice t n ⟨ps⟩ => (tget T t).bind fun ti => match ti.kind with
        | .sl e k => match n with
          | 0 => match ps with
            | [] => (gnum σ).bind fun nx => some ⟨[(.nx, .num nx)], [(.s d, .av (.own nx 0)), (.o nx, .ob (.arr e k [])), (.nx, .num (nx + 1))]⟩
            | _ => none
          | n + 1 => (tget T e).bind fun te => match te.zero.all Value.oneCell' && (Nat.ble ((n + 1) * k) 65536 && Nat.blt 0 ((n + 1) * k)) with
            | true => (partsA σ ps).bind fun q => (rowsA k 0 q.1).bind fun rs => match Nat.beq (n + 1) rs.length with
              | true => some ⟨q.2, [(.s d, .av (.d (.sl k rs)))]⟩
              | false => none
            | false => none
        | _ => none
      | _ => none
  | none => match op with
    | .store t x y => (ev σ x).bind fun ax => match ax with
      | .ptr id off => (gbox σ id).bind fun cells => (ev σ y).bind fun av => (tget T t).bind fun ti => match freeA av with
        | true => (cellsOf av).bind fun new => match Nat.beq new.length ti.n && Nat.ble (off + new.length) cells.length with
          | true => some ⟨rdOf x (.ptr id off) ++ (rdOf y av ++ ([] ++ [(.o id, .ob (.box cells))])), [(.o id, .ob (.box (putCells cells off new)))]⟩
          | false => none
        | false => none
      | _ => none
    | _ => none

variable {cx : Cx} {σ : St} {ty : TypeId} {pos : String} {af : Array Edge} {gd : Option (Nat × Bool)} {d : Nat}

theorem cmpI_ok {P : Program} {t : TypeId} {op : BinOp} {k : IntKind} {a b : Int} {r : Bool} (h : cmpI op a b = some r) : BinR P op t (.int k a) (.int k b) (.bool r) := by
  cases op <;> simp only [cmpI, Option.some.injEq, reduceCtorEq] at h <;> subst h <;> first | exact bin_lss | exact bin_leq | exact bin_gtr | exact bin_geq | exact bin_eql | exact bin_neq
theorem cmpS_ok {P : Program} {t : TypeId} {op : BinOp} {a b : List UInt8} {r : Bool} (h : cmpS op a b = some r) : BinR P op t (str a) (str b) (.bool r) := by
  cases op <;> simp only [cmpS, Option.some.injEq, reduceCtorEq] at h <;> subst h <;> first | exact bin_slss | exact bin_sleq | exact bin_sgtr | exact bin_sgeq | exact bin_seql | exact bin_sneq
theorem cmpA_ok {P : Program} {t : TypeId} {op : BinOp} {u v : Value} {r : Bool} (h : cmpA op u v = some r) : BinR P op t u v (.bool r) := by
  unfold cmpA at h
  split at h
  · split at h
    · exact cmpI_ok h
    · cases h
  · split at h
    · exact cmpI_ok h
    · cases h
  · split at h
    · exact cmpI_ok h
    · cases h
  · split at h
    · exact cmpS_ok h
    · cases h
  · cases h
theorem gbox_out {id : Nat} {c : List AV} (h : gbox σ id = some c) : get σ (.o id) = .ob (.box c) := by
  unfold gbox at h
  split at h
  · next x hx => cases h; exact hx
  · cases h
theorem gnum_out {n : Nat} (h : gnum σ = some n) : get σ .nx = .num n := by
  unfold gnum at h
  split at h
  · next x hx => cases h; exact hx
  · cases h

theorem valA_ok {op : Op} {rd : List (Key × Val)} {av : AV} (hn : d < cx.n) (h : valA cx.T σ op = some (rd, av)) : OpOk cx ⟨some d, op, ty, pos, af, gd⟩ ⟨rd, [(.s d, .av av)]⟩ ∧ App σ rd := by
  unfold valA at h
  split at h
  · simp only [Option.bind_eq_some_iff, Option.some.injEq, Prod.mk.injEq] at h
    obtain ⟨x, hx, rfl, rfl⟩ := h
    exact ⟨ok_move hn (ev_out hx).1, (ev_out hx).2⟩
  · simp only [Option.bind_eq_some_iff, Option.some.injEq, Prod.mk.injEq] at h
    obtain ⟨x, hx, rfl, rfl⟩ := h
    exact ⟨ok_assign hn (ev_out hx).1, (ev_out hx).2⟩
  · simp only [Option.bind_eq_some_iff] at h
    obtain ⟨x, hx, h⟩ := h
    split at h
    · cases h
      exact ⟨ok_not hn (ev_out hx).1, (ev_out hx).2⟩
    · cases h
  · simp only [Option.bind_eq_some_iff] at h
    obtain ⟨x, hx, h⟩ := h
    split at h
    · simp only [Option.bind_eq_some_iff] at h
      obtain ⟨y, hy, h⟩ := h
      split at h
      · simp only [Option.bind_eq_some_iff] at h
        obtain ⟨r, hr, h⟩ := h
        cases h
        exact ⟨ok_bin hn (ev_out hx).1 (ev_out hy).1 (cmpA_ok hr), (ev_out hx).2.append (ev_out hy).2⟩
      · cases h
    · cases h
  · simp only [Option.bind_eq_some_iff] at h
    obtain ⟨x, hx, ti, ht, h⟩ := h
    split at h
    · simp only [Option.bind_eq_some_iff] at h
      obtain ⟨y, hy, h⟩ := h
      cases h
      exact ⟨ok_load_pd hn (ev_out hx).1 ht hy, (ev_out hx).2⟩
    · simp only [Option.bind_eq_some_iff] at h
      obtain ⟨c, hc, y, hy, h⟩ := h
      cases h
      exact ⟨ok_load_ptr hn (ev_out hx).1 ht hy, (ev_out hx).2.append ⟨gbox_out hc, trivial⟩⟩
    · cases h
  · simp only [Option.bind_eq_some_iff] at h
    obtain ⟨x, hx, ti, ht, off, hf, h⟩ := h
    split at h
    · cases h
      exact ⟨ok_fa_pd hn (ev_out hx).1 ht hf, (ev_out hx).2⟩
    · simp only [Option.bind_eq_some_iff] at h
      obtain ⟨c, hc, h⟩ := h
      cases h
      exact ⟨ok_fa_ptr hn (ev_out hx).1 ht hf, (ev_out hx).2.append ⟨gbox_out hc, trivial⟩⟩
    · cases h
  · simp only [Option.bind_eq_some_iff] at h
    obtain ⟨x, hx, h⟩ := h
    split at h
    · simp only [Option.bind_eq_some_iff] at h
      obtain ⟨v, hv, h⟩ := h
      split at h
      · next hp =>
        cases h
        refine ⟨ok_extract hn (ev_out hx).1 hv ?_, (ev_out hx).2⟩
        cases av <;> first | trivial | exact absurd hp (by simp [plainA])
      · cases h
    · cases h
  · simp only [Option.bind_eq_some_iff] at h
    obtain ⟨x, hx, h⟩ := h
    split at h
    · simp only [Option.bind_eq_some_iff] at h
      obtain ⟨ti, ht, h⟩ := h
      split at h
      · next fs hk =>
        simp only [Option.bind_eq_some_iff] at h
        obtain ⟨p, hp, h⟩ := h
        split at h
        · next h1 =>
          simp only [Option.bind_eq_some_iff] at h
          obtain ⟨y, hy, h⟩ := h
          cases h
          obtain ⟨p1, p2⟩ := p
          obtain rfl : p2 = 1 := by simpa using h1
          exact ⟨ok_field hn (ev_out hx).1 ht hk hp hy, (ev_out hx).2⟩
        · cases h
      · cases h
    · cases h
  · simp only [Option.bind_eq_some_iff] at h
    obtain ⟨x, hx, ti, ht, h⟩ := h
    split at h
    · simp only [Option.bind_eq_some_iff] at h
      obtain ⟨k, hk, h⟩ := h
      cases h
      exact ⟨ok_len_sl hn (ev_out hx).1 ht hk, (ev_out hx).2⟩
    · split at h
      · next hk =>
        cases h
        exact ⟨ok_len_str hn (ev_out hx).1 ht hk, (ev_out hx).2⟩
      · cases h
    · cases h
  · cases h

theorem partsA_ok : ∀ {ps : List (Nat × Operand)} {q : List (Nat × List D) × List (Key × Val)}, partsA σ ps = some q → PartsE σ ps q.1 q.2
  | [], q, h => by cases h; exact .nil
  | (i, x) :: r, q, h => by
    simp only [partsA, Option.bind_eq_some_iff] at h
    obtain ⟨av, hx, ds, hd, q', hq, h⟩ := h
    cases h
    exact .cons hx hd (partsA_ok hq)
theorem rowsA_ok {k : Nat} : ∀ {q : List (Nat × List D)} {i : Nat} {rs : List (List D)}, rowsA k i q = some rs → q = numb i rs ∧ ∀ r ∈ rs, r.length = k
  | [], i, rs, h => by cases h; exact ⟨rfl, by simp⟩
  | (j, r) :: q, i, rs, h => by
    simp only [rowsA] at h
    split at h
    · next hb =>
      simp only [Option.bind_eq_some_iff] at h
      obtain ⟨rs', hr, h⟩ := h
      cases h
      obtain ⟨h1, h2⟩ := rowsA_ok hr
      simp only [Bool.and_eq_true, Nat.beq_eq] at hb
      obtain ⟨rfl, hk⟩ := hb
      refine ⟨by rw [h1]; rfl, fun x hx => ?_⟩
      rcases List.mem_cons.1 hx with rfl | hx
      · exact hk
      · exact h2 x hx
    · cases h
theorem freeA_ok {av : AV} (h : freeA av = true) : nwRd av [] := by
  cases av <;> first | rfl | cases h

theorem trA_ok {op : Op} {dst : Option Nat} {t : Tr} (hn : (match dst with | some d => Nat.blt d cx.n | none => true) = true) (h : trA cx.T σ dst op = some t) :
    OpOk cx ⟨dst, op, ty, pos, af, gd⟩ t ∧ App σ t.rd := by
  unfold trA at h
  split at h
  · next d =>
    have hd : d < cx.n := lt_of_blt hn
    split at h
    · next rd av hv =>
      cases h
      exact valA_ok hd hv
    · clear hn
      split at h
      · simp only [Option.bind_eq_some_iff] at h
        obtain ⟨nx, hnx, ti, ht, h⟩ := h
        split at h
        · next h1 =>
          cases h
          exact ⟨ok_alloc hd ht fun c hc => List.all_eq_true.1 h1 c hc, gnum_out hnx, trivial⟩
        · cases h
      · simp only [Option.bind_eq_some_iff] at h
        obtain ⟨nx, hnx, av, hx, h⟩ := h
        split at h
        · next h1 =>
          simp only [Option.bind_eq_some_iff] at h
          obtain ⟨cells, hc, h⟩ := h
          cases h
          exact ⟨ok_box hd (ev_out hx).1 hc (freeA_ok h1), gnum_out hnx, (ev_out hx).2.append trivial⟩
        · cases h
      · simp only [Option.bind_eq_some_iff] at h
        obtain ⟨ti, ht, h⟩ := h
        split at h
        · next h1 =>
          simp only [Option.bind_eq_some_iff] at h
          obtain ⟨place, hk, q, hq, out, hf, h⟩ := h
          cases h
          exact ⟨ok_build hd ht hk (fun c hc => List.all_eq_true.1 h1 c hc) (partsA_ok hq).out.1 hf, (partsA_ok hq).out.2⟩
        · cases h
      · simp only [Option.bind_eq_some_iff] at h
        obtain ⟨ti, ht, h⟩ := h
        split at h
        · next e k hk =>
          split at h
          · split at h
            · simp only [Option.bind_eq_some_iff] at h
              obtain ⟨nx, hnx, h⟩ := h
              cases h
              exact ⟨ok_buildSlice0 hd ht hk, gnum_out hnx, trivial⟩
            · cases h
          · simp only [Option.bind_eq_some_iff] at h
            obtain ⟨te, hte, h⟩ := h
            split at h
            · next h1 =>
              simp only [Option.bind_eq_some_iff] at h
              obtain ⟨q, hq, rs, hr, h⟩ := h
              split at h
              · next h2 =>
                cases h
                simp only [Bool.and_eq_true] at h1
                obtain ⟨h1, h3, h4⟩ := h1
                obtain ⟨h5, h6⟩ := rowsA_ok hr
                have h7 := (partsA_ok hq).out
                rw [h5] at h7
                refine ⟨ok_buildSlice hd ht hk hte (fun c hc => List.all_eq_true.1 h1 c hc) h7.1 h6 (by simpa using h2) (by simpa using h3) (Nat.ne_of_gt (lt_of_blt h4)), h7.2⟩
              · cases h
            · cases h
        · cases h
      · cases h
  · split at h
    · simp only [Option.bind_eq_some_iff] at h
      obtain ⟨ax, hx, h⟩ := h
      split at h
      · simp only [Option.bind_eq_some_iff] at h
        obtain ⟨cells, hc, av, hy, ti, ht, h⟩ := h
        split at h
        · next h1 =>
          simp only [Option.bind_eq_some_iff] at h
          obtain ⟨new, hnew, h⟩ := h
          split at h
          · next h2 =>
            cases h
            simp only [Bool.and_eq_true] at h2
            exact ⟨ok_store_ptr (ev_out hx).1 (ev_out hy).1 ht hnew (freeA_ok h1) h2.1 h2.2, (ev_out hx).2.append ((ev_out hy).2.append (App.append (l := []) trivial ⟨gbox_out hc, trivial⟩))⟩
          · cases h
        · cases h
      · cases h
    · cases h

variable {ops : Array Oper} {K : List Tr → St → Prop} {acc : List Tr} {rest : List Oper} {o : Oper}

/-- An operation that is not guarded, of which a look tells all. -/
def autA (cx : Cx) (σ : St) (o : Oper) : Option Tr := match o.guard with
  | some _ => none
  | none => match (match o.dst with | some d => Nat.blt d cx.n | none => true) with
    | true => trA cx.T σ o.dst o.op
    | false => none
theorem s1 {rd wr : List (Key × Val)} (ha : autA cx σ o = some ⟨rd, wr⟩) (h : RW cx ops K (acc ++ [⟨rd, wr⟩]) rest (wr ++ σ)) : RW cx ops K acc (o :: rest) σ := by
  obtain ⟨dst, op, ty, pos, af, gd⟩ := o
  cases gd with
  | some p => cases ha
  | none =>
    simp only [autA] at ha
    split at ha
    · next hd =>
      obtain ⟨h1, h2⟩ := trA_ok (cx := cx) (ty := ty) (pos := pos) (af := af) (gd := none) hd ha
      exact RW.step (.none rfl) h1 h2 h
    · cases ha
/-- A guarded one: its guard's slot, what it holds, what is asked of it, what is done. -/
def guaA (cx : Cx) (ops : Array Oper) (σ : St) (o : Oper) : Option (Nat × Bool × Bool × Tr) := match o.guard with
  | none => none
  | some (j, want) => match (ops[j]?).bind (·.dst) with
    | none => none
    | some q => match get σ (.s q) with
      | .av (.d (.v (.bool b))) => match (match o.dst with | some d => Nat.blt d cx.n | none => true) with
        | true => (trA cx.T σ o.dst o.op).bind fun t => some (q, b, want, t)
        | false => none
      | _ => none
theorem s2 {q : Nat} {b want : Bool} {rd wr : List (Key × Val)} (ha : guaA cx ops σ o = some (q, b, want, ⟨rd, wr⟩)) (hb : b = want) (h : RW cx ops K (acc ++ [⟨(.s q, bv want) :: rd, wr⟩]) rest (wr ++ σ)) : RW cx ops K acc (o :: rest) σ := by
  obtain ⟨dst, op, ty, pos, af, gd⟩ := o
  cases gd with
  | none => cases ha
  | some p =>
    obtain ⟨j, w⟩ := p
    simp only [guaA] at ha
    split at ha
    · cases ha
    · next q' hq =>
      split at ha
      · next b' hv =>
        split at ha
        · next hd =>
          simp only [Option.bind_eq_some_iff] at ha
          obtain ⟨t, ht, ha⟩ := ha
          cases ha
          subst hb
          obtain ⟨h1, h2⟩ := trA_ok (cx := cx) (ty := ty) (pos := pos) (af := af) (gd := some (j, b)) hd ht
          exact RW.step (.yes rfl hq hv) h1 h2 h
        · cases ha
      · cases ha
/-- One passed over. -/
def skiA (cx : Cx) (ops : Array Oper) (σ : St) (o : Oper) : Option (Nat × Bool × Bool) := match o.guard with
  | none => none
  | some (j, want) => match (ops[j]?).bind (·.dst) with
    | none => none
    | some q => match get σ (.s q) with
      | .av (.d (.v (.bool b))) => match (match o.dst with | some d => Nat.blt d cx.n | none => true) with
        | true => some (q, b, !want)
        | false => none
      | _ => none
theorem s3 {q : Nat} {b nw : Bool} (ha : skiA cx ops σ o = some (q, b, nw)) (hb : b = nw) (h : RW cx ops K (acc ++ [⟨[(.s q, bv nw)], skipWr o⟩]) rest (skipWr o ++ σ)) : RW cx ops K acc (o :: rest) σ := by
  unfold skiA at ha
  split at ha
  · cases ha
  · next j w hg =>
    split at ha
    · cases ha
    · next q' hq =>
      split at ha
      · next b' hv =>
        split at ha
        · next hd =>
          cases ha
          exact st_skip (b := b) hg hq hv hb hd h
        · cases ha
      · cases ha
def skuA (cx : Cx) (ops : Array Oper) (σ : St) (o : Oper) : Option Nat := match o.guard with
  | none => none
  | some (j, _) => match (ops[j]?).bind (·.dst) with
    | none => none
    | some q => match get σ (.s q) with
      | .av (.d (.v (.tuple ⟨[]⟩))) => match (match o.dst with | some d => Nat.blt d cx.n | none => true) with
        | true => some q
        | false => none
      | _ => none
theorem s4 {q : Nat} (ha : skuA cx ops σ o = some q) (h : RW cx ops K (acc ++ [⟨[(.s q, .av (.d (.v undef)))], skipWr o⟩]) rest (skipWr o ++ σ)) : RW cx ops K acc (o :: rest) σ := by
  unfold skuA at ha
  split at ha
  · cases ha
  · next j w hg =>
    split at ha
    · cases ha
    · next q' hq =>
      split at ha
      · next hv =>
        split at ha
        · next hd =>
          cases ha
          exact st_skip_u hg hq hv hd h
        · cases ha
      · cases ha

/-- An operation's transition, and that what it reads is there. -/
structure OA (cx : Cx) (σ : St) (o : Oper) (t : Tr) : Prop where
  ok : OpOk cx o t
  app : App σ t.rd
theorem s5 {pre rd wr : List (Key × Val)} (ho : OA cx σ o ⟨rd, wr⟩) (hg : GOk ops σ o pre) (h : RW cx ops K (acc ++ [⟨pre ++ rd, wr⟩]) rest (wr ++ σ)) : RW cx ops K acc (o :: rest) σ :=
  RW.step hg ho.ok ho.app h
theorem a_pick_t {c x y : Operand} {b : Bool} {av : AV} (hc : ev σ c = some (.d (.v (.bool b)))) (hb : b = true) (hx : ev σ x = some av) (hd : Nat.blt d cx.n = true) :
    OA cx σ ⟨some d, .pick c x y, ty, pos, af, gd⟩ ⟨rdOf c (.d (.v (.bool b))) ++ rdOf x av, [(.s d, .av av)]⟩ := by
  subst hb
  exact ⟨ok_pick (b := true) (aw := av) (lt_of_blt hd) (ev_out hc).1 (ev_out hx).1, (ev_out hc).2.append (ev_out hx).2⟩
theorem a_pick_f {c x y : Operand} {b : Bool} {av : AV} (hc : ev σ c = some (.d (.v (.bool b)))) (hb : b = false) (hy : ev σ y = some av) (hd : Nat.blt d cx.n = true) :
    OA cx σ ⟨some d, .pick c x y, ty, pos, af, gd⟩ ⟨rdOf c (.d (.v (.bool b))) ++ rdOf y av, [(.s d, .av av)]⟩ := by
  subst hb
  exact ⟨ok_pick (b := false) (aw := av) (lt_of_blt hd) (ev_out hc).1 (ev_out hy).1, (ev_out hc).2.append (ev_out hy).2⟩
theorem a_bin {op : BinOp} {t t' : TypeId} {x y : Operand} {u v r : Value} (hx : ev σ x = some (.d (.v u))) (hy : ev σ y = some (.d (.v v))) (hb : BinR cx.P op t u v r) (hd : Nat.blt d cx.n = true) :
    OA cx σ ⟨some d, .binOp op t x y t', ty, pos, af, gd⟩ ⟨rdOf x (.d (.v u)) ++ rdOf y (.d (.v v)), [(.s d, .av (.d (.v r)))]⟩ :=
  ⟨ok_bin (lt_of_blt hd) (ev_out hx).1 (ev_out hy).1 hb, (ev_out hx).2.append (ev_out hy).2⟩
theorem a_agg {op : BinOp} {t t' : TypeId} {x y : Operand} {cs es : List D} {us vs : List Value} {r : Value} (hb : BinR cx.P op t (.agg us.toArray) (.agg vs.toArray) r) (hx : ev σ x = some (.d (.agg cs))) (hy : ev σ y = some (.d (.agg es)))
    (hu : cs = us.map D.v) (hv : es = vs.map D.v) (hd : Nat.blt d cx.n = true) : OA cx σ ⟨some d, .binOp op t x y t', ty, pos, af, gd⟩ ⟨rdOf x (.d (.agg cs)) ++ rdOf y (.d (.agg es)), [(.s d, .av (.d (.v r)))]⟩ := by
  subst hu hv
  exact ⟨ok_binagg (lt_of_blt hd) (ev_out hx).1 (ev_out hy).1 hb, (ev_out hx).2.append (ev_out hy).2⟩
theorem a_ia {t : TypeId} {x y : Operand} {k : Nat} {rows : List (List D)} {kd : IntKind} {i : Int} {ti : TI} {r : List D} (hx : ev σ x = some (.d (.sl k rows))) (hy : ev σ y = some (.d (.v (.int kd i)))) (ht : tget cx.T t = some ti)
    (hk : slK ti = some k) (hd : Nat.blt d cx.n = true) (hi : idx rows i = some r) : OA cx σ ⟨some d, .indexAddr t x y, ty, pos, af, gd⟩ ⟨rdOf x (.d (.sl k rows)) ++ rdOf y (.d (.v (.int kd i))), [(.s d, .av (.pd r))]⟩ :=
  ⟨ok_ia_sl (lt_of_blt hd) (ev_out hx).1 (ev_out hy).1 ht hk hi, (ev_out hx).2.append (ev_out hy).2⟩
theorem a_ib {t : TypeId} {x y : Operand} {id o0 n k : Nat} {cells : List AV} {kd : IntKind} {i : Nat} {ti : TI} (hx : ev σ x = some (.ptr id o0)) (ho : get σ (.o id) = .ob (.box cells)) (hy : ev σ y = some (.d (.v (.int kd (i : Int)))))
    (ht : tget cx.T t = some ti) (hk : arK ti = some (n, k)) (hd : Nat.blt d cx.n = true) (hi : i < n) :
    OA cx σ ⟨some d, .indexAddr t x y, ty, pos, af, gd⟩ ⟨(rdOf x (.ptr id o0) ++ rdOf y (.d (.v (.int kd (i : Int))))) ++ [(.o id, .ob (.box cells))], [(.s d, .av (.ptr id (o0 + i * k)))]⟩ :=
  ⟨ok_ia_ptr (lt_of_blt hd) (ev_out hx).1 (ev_out hy).1 ht hk hi, ((ev_out hx).2.append (ev_out hy).2).append ⟨ho, trivial⟩⟩
theorem a_is {t : TypeId} {x y : Operand} {l : List UInt8} {kd : IntKind} {k : Nat} {c : UInt8} {ti : TI} (hx : ev σ x = some (.d (.v (str l)))) (hy : ev σ y = some (.d (.v (.int kd (k : Int))))) (ht : tget cx.T t = some ti) (hk : ti.kind = .str)
    (hd : Nat.blt d cx.n = true) (hc : l[k]? = some c) : OA cx σ ⟨some d, .index t x y, ty, pos, af, gd⟩ ⟨rdOf x (.d (.v (str l))) ++ rdOf y (.d (.v (.int kd (k : Int)))), [(.s d, .av (.d (.v (.int .u8 c.toNat))))]⟩ :=
  ⟨ok_index_str (lt_of_blt hd) (ev_out hx).1 (ev_out hy).1 ht hk (by omega) (by simpa using hc), (ev_out hx).2.append (ev_out hy).2⟩
theorem a_store {t : TypeId} {x y : Operand} {id off : Nat} {cells new : List AV} {av : AV} {ti : TI} {l : List (Key × Val)} (hx : ev σ x = some (.ptr id off)) (ho : get σ (.o id) = .ob (.box cells)) (hy : ev σ y = some av) (ht : tget cx.T t = some ti)
    (hc : cellsOf av = some new) (hnn : Nat.beq new.length ti.n = true) (hle : Nat.ble (off + new.length) cells.length = true) (hl : nwRd av l ∧ App σ l) :
    OA cx σ ⟨none, .store t x y, ty, pos, af, gd⟩ ⟨rdOf x (.ptr id off) ++ (rdOf y av ++ (l ++ [(.o id, .ob (.box cells))])), [(.o id, .ob (.box (putCells cells off new)))]⟩ :=
  ⟨ok_store_ptr (ev_out hx).1 (ev_out hy).1 ht hc hl.1 hnn hle, (ev_out hx).2.append ((ev_out hy).2.append (hl.2.append ⟨ho, trivial⟩))⟩
theorem a_box {t : TypeId} {x : Operand} {av : AV} {cells : List AV} {l : List (Key × Val)} {nx : Nat} (hx : ev σ x = some av) (hnx : get σ .nx = .num nx) (hc : cellsOf av = some cells) (hd : Nat.blt d cx.n = true) (hl : nwRd av l ∧ App σ l) :
    OA cx σ ⟨some d, .box t x, ty, pos, af, gd⟩ ⟨(.nx, .num nx) :: (rdOf x av ++ l), [(.s d, .av (.ptr nx 0)), (.o nx, .ob (.box cells)), (.nx, .num (nx + 1))]⟩ :=
  ⟨ok_box (lt_of_blt hd) (ev_out hx).1 hc hl.1, hnx, (ev_out hx).2.append hl.2⟩
theorem a_bs {t e n k : Nat} {ps : List (Nat × Operand)} (rs : List (List D)) {l : List (Key × Val)} {ti te : TI} (ht : tget cx.T t = some ti) (hk : ti.kind = .sl e k)
    (hte : tget cx.T e = some te) (h1 : (te.zero.all Value.oneCell') = true) (hrs : (rs.all fun r => Nat.beq r.length k) = true) (hnl : n = rs.length) (hsm : Nat.ble (n * k) 65536 = true) (hpos : Nat.blt 0 (n * k) = true)
    (hd : Nat.blt d cx.n = true) (hp : PartsE σ ps (numb 0 rs) l) : OA cx σ ⟨some d, .buildSlice t n ⟨ps⟩, ty, pos, af, gd⟩ ⟨l, [(.s d, .av (.d (.sl k rs)))]⟩ :=
  ⟨ok_buildSlice (lt_of_blt hd) ht hk hte (fun c hc => List.all_eq_true.1 h1 c hc) hp.out.1 (fun r hr => by simpa using List.all_eq_true.1 hrs r hr) hnl (by simpa using hsm) (Nat.ne_of_gt (lt_of_blt hpos)), hp.out.2⟩
theorem a_app {t e k id n : Nat} {x y : Operand} {rows rows2 : List (List D)} {ti te : TI} (hx : ev σ x = some (.own id n)) (ho : get σ (.o id) = .ob (.arr e k rows)) (hy : ev σ y = some (.d (.sl k rows2))) (ht : tget cx.T t = some ti) (hk : ti.kind = .sl e k)
    (hte : tget cx.T e = some te) (hby : Nat.ble te.bytes 65536 = true) (hd : Nat.blt d cx.n = true) (hnn : n = rows.length) (hlen : rows.length + rows2.length ≤ 1073741824) :
    OA cx σ ⟨some d, .call { callee := .builtin .append, args := #[x, y], argTypes := #[t, t] }, ty, pos, af, gd⟩
      ⟨rdOf x (.own id n) ++ (rdOf y (.d (.sl k rows2)) ++ [(.o id, .ob (.arr e k rows))]), [(.s d, .av (.own id (n + rows2.length))), (.o id, .ob (.arr e k (rows ++ rows2)))]⟩ :=
  ⟨ok_append (lt_of_blt hd) (ev_out hx).1 (ev_out hy).1 ht hk hte (by simpa using hby) hnn hlen, (ev_out hx).2.append ((ev_out hy).2.append ⟨ho, trivial⟩)⟩
theorem a_from {t : TypeId} {x lo : Operand} {kd : IntKind} {m : Int} {k : Nat} {rows out : List (List D)} {ti : TI} (hx : ev σ x = some (.d (.sl k rows))) (hlo : ev σ lo = some (.d (.v (.int kd m)))) (ht : tget cx.T t = some ti) (hk : slK ti = some k)
    (hd : Nat.blt d cx.n = true) (hc : cutI rows (some m) none = some out) : OA cx σ ⟨some d, .slice t x (some lo) none none, ty, pos, af, gd⟩ ⟨rdOf x (.d (.sl k rows)) ++ (rdOf lo (.d (.v (.int kd m))) ++ []), [(.s d, .av (.d (.sl k out)))]⟩ :=
  ⟨ok_slice (lt_of_blt hd) (ev_out hx).1 (.at_ (ev_out hlo).1) .no ht hk hc, (ev_out hx).2.append ((ev_out hlo).2.append trivial)⟩
theorem a_to {t : TypeId} {x hi : Operand} {kd : IntKind} {m : Int} {k : Nat} {rows out : List (List D)} {ti : TI} (hx : ev σ x = some (.d (.sl k rows))) (hhi : ev σ hi = some (.d (.v (.int kd m)))) (ht : tget cx.T t = some ti) (hk : slK ti = some k)
    (hd : Nat.blt d cx.n = true) (hc : cutI rows none (some m) = some out) : OA cx σ ⟨some d, .slice t x none (some hi) none, ty, pos, af, gd⟩ ⟨rdOf x (.d (.sl k rows)) ++ ([] ++ rdOf hi (.d (.v (.int kd m)))), [(.s d, .av (.d (.sl k out)))]⟩ :=
  ⟨ok_slice (lt_of_blt hd) (ev_out hx).1 .no (.at_ (ev_out hhi).1) ht hk hc, (ev_out hx).2.append (App.append (l := []) trivial (ev_out hhi).2)⟩
theorem a_call {f : FuncId} {xs : List Operand} {avs : List AV} {ys : List Arg} {l : List (Key × Val)} {r : Res} {ats : Array TypeId} (hc : FnOk cx.P f ys r) (hd : Nat.blt d cx.n = true) (hsub : SubsE σ xs avs ys l) :
    OA cx σ ⟨some d, .call { callee := .value (.func f), args := ⟨xs⟩, argTypes := ats }, ty, pos, af, gd⟩ ⟨l, [(.s d, .av r.av)]⟩ :=
  ⟨ok_call (lt_of_blt hd) hc hsub.out.1, hsub.out.2⟩

/-- Short words for a state's entries. -/
abbrev sd (i : Nat) (x : D) : Key × Val := (.s i, .av (.d x))
abbrev sp (i id : Nat) : Key × Val := (.s i, .av (.ptr id 0))
abbrev so (i id n : Nat) : Key × Val := (.s i, .av (.own id n))
abbrev ob (id : Nat) (cells : List D) : Key × Val := (.o id, .ob (.box (cells.map AV.d)))
abbrev oa (id e k : Nat) (rows : List (List D)) : Key × Val := (.o id, .ob (.arr e k rows))
abbrev nxt (n : Nat) : Key × Val := (.nx, .num n)

end Go.AX

/-! AxOwn -/
/-
  A slice of ours: its length; an element's cell; what is read and written there.
-/
namespace Go.AX
open Go.RowKit

variable {cx : Cx} {g : Nat → Value} {σ : St} {a : Act} {w : World} {nx : Nat}
variable {ty : TypeId} {pos : String} {af : Array Edge} {gd : Option (Nat × Bool)} {d : Nat}

theorem splice_get {α : Type} {l new : List α} {off j : Nat} (h : off + new.length ≤ l.length) :
    (splice l off new)[j]? = if off ≤ j ∧ j < off + new.length then new[j - off]? else l[j]? := by
  unfold splice
  have ht : (l.take off).length = off := by simp; omega
  rw [List.append_assoc]
  rcases Nat.lt_or_ge j off with h1 | h1
  · rw [List.getElem?_append_left (by omega), List.getElem?_take, if_pos h1, if_neg (by omega)]
  · rw [List.getElem?_append_right (by omega), ht]
    rcases Nat.lt_or_ge (j - off) new.length with h2 | h2
    · rw [List.getElem?_append_left h2, if_pos (by omega)]
    · rw [List.getElem?_append_right h2, List.getElem?_drop, if_neg (by omega), show off + new.length + (j - off - new.length) = j by omega]
theorem splice_len {α : Type} {l new : List α} {off : Nat} (h : off + new.length ≤ l.length) : (splice l off new).length = l.length := by
  simp [splice]; omega

theorem ok_len_own {t tt : TypeId} {x : Operand} {id n e k k' : Nat} {rows : List (List D)} {ti : TI} (hd : d < cx.n) (hx : EvS x (.own id n)) (ht : tget cx.T t = some ti) (hk : slK ti = some k') (hn : n = rows.length) :
    OpOk cx ⟨some d, .call { callee := .builtin .len, args := #[x], argTypes := #[t] }, tt, pos, af, gd⟩ ⟨rdOf x (.own id n) ++ [(.o id, .ob (.arr e k rows))], [(.s d, .av (.d (.v (.int .i64 n))))]⟩ := by
  refine ok_val rfl hd fun σ a w g nx hs hr => ?_
  obtain ⟨_, ie, hu, _⟩ := slice_of (cx.hT t ti ht) hk
  have ho : get σ (.o id) = .ob (.arr e k rows) := hr.right.1
  have hv : a.eval x = g id := ((hs.ev hx hr.left).1.2 e k rows ho).2 hn
  obtain ⟨_, ⟨xs, h1, _⟩, _⟩ := hs.objs id _ ho
  refine ⟨.int .i64 n, w, ?_, Below.refl _ _, Rd.v _, trivial⟩
  rcases h1.2 with ⟨h2, h3⟩ | ⟨b, cap, cur, h2, _⟩
  · simp [execOp, resolve, invoke, builtin, hv, h2, Builtin.len_, run_underlying hu, goInt, hn, h3]
  · simp [execOp, resolve, invoke, builtin, hv, h2, Builtin.len_, run_underlying hu, goInt, hn]

theorem ok_ia_own {t : TypeId} {x y : Operand} {id n e k i : Nat} {rows : List (List D)} {kd : IntKind} {ti : TI} (hd : d < cx.n) (hx : EvS x (.own id n)) (hy : EvS y (.d (.v (.int kd (i : Int))))) (ht : tget cx.T t = some ti) (hk : slK ti = some k)
    (hn : n = rows.length) (hi : i < n) :
    OpOk cx ⟨some d, .indexAddr t x y, ty, pos, af, gd⟩ ⟨(rdOf x (.own id n) ++ rdOf y (.d (.v (.int kd (i : Int))))) ++ [(.o id, .ob (.arr e k rows))], [(.s d, .av (.pe id n i 0))]⟩ := by
  refine ok_val rfl hd fun σ a w g nx hs hr => ?_
  obtain ⟨_, ie, hu, hie, hks, _⟩ := slice_of (cx.hT t ti ht) hk
  have ho : get σ (.o id) = .ob (.arr e k rows) := hr.right.1
  obtain ⟨h0, hbd⟩ := hs.ev hx hr.left.left
  have hv : a.eval x = g id := (h0.2 e k rows ho).2 hn
  have hy' := rep_v (hs.ev hy hr.left.right).1
  obtain ⟨_, ⟨xs, h1, _⟩, _⟩ := hs.objs id _ ho
  rcases h1.2 with ⟨h2, h3⟩ | ⟨b, cap, cur, h2, h3, h4, h5, _⟩
  · omega
  · refine ⟨.pointer (some ⟨b, i * k, none⟩), w, ?_, Below.refl _ _, ?_, hbd⟩
    · have : (⟨b, 0, none⟩ : Addr).add (i * k) = ⟨b, i * k, none⟩ := by rw [add_lit, Nat.zero_add]
      simp [execOp, hy', hv, h2, Instr.indexAt, asIntOf, run_underlying hu, sizeOf, typeInfo, hie, hks, this]
      omega
    · refine ⟨.of ho, fun e' k' rows' ho' => ?_⟩
      rw [ho] at ho'
      cases ho'
      exact ⟨by omega, fun _ => ⟨b, by rw [h2]; rfl, by rw [Nat.add_zero]⟩⟩

theorem ok_fa_pe {t : TypeId} {x : Operand} {id n i f : Nat} {ti : TI} {fl off : Nat} (hd : d < cx.n) (hx : EvS x (.pe id n i f)) (ht : tget cx.T t = some ti) (hf : fldOff ti fl = some off) {e k : Nat} {rows : List (List D)} (hn : n = rows.length) :
    OpOk cx ⟨some d, .fieldAddr t x fl, ty, pos, af, gd⟩ ⟨rdOf x (.pe id n i f) ++ [(.o id, .ob (.arr e k rows))], [(.s d, .av (.pe id n i (f + off)))]⟩ := by
  refine ok_val rfl hd fun σ a w g nx hs hr => ?_
  have ho : get σ (.o id) = .ob (.arr e k rows) := hr.right.1
  obtain ⟨h0, hbd⟩ := hs.ev hx hr.left
  obtain ⟨b, hb, hv⟩ := (h0.2 e k rows ho).2 hn
  refine ⟨.pointer (some ⟨b, i * k + (f + off), none⟩), w, ?_, Below.refl _ _, ?_, hbd⟩
  · have h2 := fieldAt_of (cx.hT t ti ht) hf ⟨b, i * k + f, none⟩ w
    rw [add_lit, Nat.add_assoc] at h2
    simp [execOp, hv, h2]
  · refine ⟨.of ho, fun e' k' rows' ho' => ?_⟩
    rw [ho] at ho'
    cases ho'
    exact ⟨by omega, fun _ => ⟨b, hb, rfl⟩⟩

/-- An element's cells are read. -/
theorem ok_load_pe {t : TypeId} {x : Operand} {id n i f e k : Nat} {rows : List (List D)} {r : List D} {ti : TI} {y : D} (hd : d < cx.n) (hx : EvS x (.pe id n i f)) (ht : tget cx.T t = some ti) (hn : n = rows.length) (hr : rows[i]? = some r)
    (hl : ldD ti (r.drop f) = some y) :
    OpOk cx ⟨some d, .load t x, ty, pos, af, gd⟩ ⟨rdOf x (.pe id n i f) ++ [(.o id, .ob (.arr e k rows))], [(.s d, .av (.d y))]⟩ := by
  refine ok_val rfl hd fun σ a w g nx hs hrd => ?_
  have ho : get σ (.o id) = .ob (.arr e k rows) := hrd.right.1
  obtain ⟨b, hb, hv⟩ := ((hs.ev hx hrd.left).1.2 e k rows ho).2 hn
  obtain ⟨_, ⟨xs, h1, h2, h3, h4⟩, _⟩ := hs.objs id _ ho
  have hil := (List.getElem?_eq_some_iff.1 hr).1
  have hrk := h3 r (List.mem_of_getElem? hr)
  have hc : RdCells w (cx.own g σ) ⟨b, i * k + f, none⟩ (r.drop f) := by
    intro j z hz
    rw [List.getElem?_drop] at hz
    have hj : f + j < k := by rw [← hrk]; exact (List.getElem?_eq_some_iff.1 hz).1
    have hlen : i * k + (f + j) < xs.length := by
      rw [h1.1]
      have h5 : (i + 1) * k ≤ rows.length * k := Nat.mul_le_mul_right _ hil
      rw [Nat.add_mul, Nat.one_mul] at h5
      omega
    refine ⟨xs[i * k + (f + j)], ?_, h2 _ (List.getElem_mem _), h4 i (f + j) r z _ hr hz (List.getElem?_eq_getElem hlen)⟩
    rw [add_lit, show i * k + f + j = i * k + (f + j) by omega]
    have := h1.cells (g := b) (by rw [← blk_own h1]; exact hb) (i * k + (f + j)) _ (List.getElem?_eq_getElem hlen)
    rw [add_lit, Nat.zero_add] at this
    exact this
  obtain ⟨v, h5, h6⟩ := run_load_cells (cx.hT t ti ht) hc hl
  have h5' : (loadVar t ⟨b, i * k + f, none⟩).run cx.P w = .ok v w := by simpa [Instr.loadAt, Instr.sureAddr] using h5
  exact ⟨v, w, by simp [execOp, hv, Instr.loadAt, Instr.sureAddr, h5'], Below.refl _ _, h6, trivial⟩

/-- An element's cells are written. -/
theorem ok_store_pe {t : TypeId} {x y : Operand} {id n i f e k : Nat} {rows : List (List D)} {r new : List D} {av : AV} {ti : TI} (hx : EvS x (.pe id n i f)) (hy : EvS y av) (ht : tget cx.T t = some ti) (hc : dcells av = some new)
    (hn : n = rows.length) (hr : rows[i]? = some r) (hnn : Nat.beq new.length ti.n = true) (hle : f + new.length ≤ r.length) :
    OpOk cx ⟨none, .store t x y, ty, pos, af, gd⟩ ⟨rdOf x (.pe id n i f) ++ (rdOf y av ++ [(.o id, .ob (.arr e k rows))]), [(.o id, .ob (.arr e k (rows.set i (splice r f new))))]⟩ := by
  rintro σ a w K Q ⟨g, nx, hs⟩ hrd hK
  have ho : get σ (.o id) = .ob (.arr e k rows) := hrd.right.right.1
  obtain ⟨b, hb, hv⟩ := ((hs.ev hx hrd.left).1.2 e k rows ho).2 hn
  obtain ⟨hav, hbd⟩ := hs.ev hy hrd.right.left
  obtain ⟨hidn, ⟨xs, h1, h2, h3, h4⟩, _⟩ := hs.objs id _ ho
  obtain ⟨c1, c2, c3⟩ := dcells_ok hs hav hc
  have hF := cx.hT t ti ht
  have hnn' : new.length = ti.n := by simpa using hnn
  have hil := (List.getElem?_eq_some_iff.1 hr).1
  have hrk := h3 r (List.mem_of_getElem? hr)
  have h5 : (i + 1) * k ≤ rows.length * k := Nat.mul_le_mul_right _ hil
  rw [Nat.add_mul, Nat.one_mul] at h5
  rcases h1.2 with ⟨_, h6⟩ | ⟨b', cap, cur, hv', hge, hh, hle', hcm, hsz, htk⟩
  · omega
  have hbb : b' = b := by rw [hv'] at hb; simpa [blk] using hb
  subst hbb
  generalize hX : a.eval y = X at hav c1 c2 c3
  have hlen : X.cells.toList.length = new.length := c1
  have hcap : rows.length * k ≤ cap * k := Nat.mul_le_mul_right _ hle'
  have hst := run_storeCells_at (P := cx.P) b' (i * k + f) e X.cells.toList 0 cur w hh (by rw [hlen]; omega) c2
  simp only [Nat.add_zero] at hst
  have hX' : X.cells.size = ti.n := by rw [← hnn', ← hlen]; simp
  have hrun : (Instr.storeAt t (.pointer (some ⟨b', i * k + f, none⟩)) X).run cx.P w = .ok () (w.setRow b' (splice cur.toList (i * k + f) X.cells.toList).toArray) := by
    simp [Instr.storeAt, Instr.sureAddr, storeVar, sizeOf_of hF w, hX', hst, splice]
  generalize hcs' : (splice cur.toList (i * k + f) X.cells.toList).toArray = cs' at hrun
  have hheap : (w.setRow b' cs').heap[b']? = some (.cells cs' e (0, 0)) := setRow_heap w b' cur cs' e (0, 0) hh
  have hle2 : i * k + f + X.cells.toList.length ≤ cur.toList.length := by rw [hlen]; simp; omega
  have hrows : (rows.set i (splice r f new)).length = rows.length := by simp
  have hOS : ObjStep cx σ g nx nx w (w.setRow b' cs') id (.arr e k (rows.set i (splice r f new))) (g id) := by
    refine ⟨.inr ⟨rfl, .arr e k rows, ho, by simp [ObLe, upd_same]⟩, ⟨rfl, rfl, rfl, by simp, fun k hk => setRow_other w b' k cs' (by omega)⟩, fun b hb hne => setRow_other w b' b cs' (fun e => hne _ ho (by rw [hv', e]; rfl)), fun b hb => .inl ⟨_, ho, hb⟩⟩
  have hxs' : cs'.toList.take (rows.length * k) = splice xs (i * k + f) X.cells.toList := by
    subst hcs'
    apply List.ext_getElem?
    intro j
    have hxl : xs.length = rows.length * k := h1.1
    rw [List.getElem?_take]
    show (if j < rows.length * k then (splice cur.toList (i * k + f) X.cells.toList)[j]? else none) = _
    rw [splice_get hle2, splice_get (l := xs) (by rw [hxl, hlen]; omega)]
    by_cases hj : j < rows.length * k
    · rw [if_pos hj]
      split
      · rfl
      · rw [← htk, List.getElem?_take, if_pos hj]
    · rw [if_neg hj, if_neg (by rw [hlen]; omega), List.getElem?_eq_none (by omega)]
  have hG := SimG.obj hs hOS (fun hlat => ?_) trivial
  · unfold Oper.wp
    simp only [execOp, hv, hX, Sem.run_bind, hrun, Result.andThen_ok, Sem.run_pure, Oper.upon, Act.put]
    refine hK _ _ (Sim.eqv ⟨_, _, hG⟩ fun k => ?_)
    cases k with
    | s i => rw [objSt_s]; exact (get_cons_ne (by simp)).symm
    | o i =>
      by_cases hi : i = id
      · subst hi; rw [get_cons_same]; exact get_cons_same.symm
      · rw [objSt_o hi]; exact (get_cons_ne (by simpa using fun e => hi e.symm)).symm
    | nx => rw [objSt_nx]; exact hs.hnx.symm.trans (get_cons_ne (by simp)).symm
  · have hsl : (splice xs (i * k + f) X.cells.toList).length = xs.length := splice_len (by rw [h1.1, hlen]; omega)
    refine ⟨splice xs (i * k + f) X.cells.toList, ⟨by rw [hsl, h1.1, hrows], .inr ⟨b', cap, cs', ?_, hge, hheap, by rw [hrows]; exact hle', hcm, ?_, by rw [hrows]; exact hxs'⟩⟩, fun x hx => ?_, fun r' hr' => ?_, fun i' j r' z x hi' hj hx => ?_⟩
    · rw [upd_same, hv', hrows]
    · subst hcs'; rw [← hsz]; simpa using splice_len hle2
    · obtain ⟨j, hj⟩ := List.getElem?_of_mem hx
      rw [splice_get (by rw [h1.1, hlen]; omega)] at hj
      split at hj
      · exact c2 x (List.mem_of_getElem? hj)
      · exact h2 x (List.mem_of_getElem? hj)
    · rcases List.mem_or_eq_of_mem_set hr' with h | h
      · exact h3 r' h
      · subst h; rw [splice_len hle, hrk]
    · have hjk : j < k := by
        have hm : r' ∈ rows.set i (splice r f new) := List.mem_of_getElem? hi'
        have : r'.length = k := by
          rcases List.mem_or_eq_of_mem_set hm with h | h
          · exact h3 r' h
          · subst h; rw [splice_len hle, hrk]
        rw [← this]; exact (List.getElem?_eq_some_iff.1 hj).1
      rw [splice_get (by rw [h1.1, hlen]; omega)] at hx
      by_cases hii : i = i'
      · subst hii
        rw [List.getElem?_set_self hil] at hi'
        cases hi'
        rw [splice_get hle] at hj
        by_cases hin : f ≤ j ∧ j < f + new.length
        · rw [if_pos hin] at hj
          rw [if_pos (by rw [hlen]; omega), show i * k + j - (i * k + f) = j - f by omega] at hx
          exact (c3 (j - f) x z hj hx).step hlat.ext hlat.own
        · rw [if_neg hin] at hj
          rw [if_neg (by rw [hlen]; omega)] at hx
          exact (h4 i j r z x hr hj hx).step hlat.ext hlat.own
      · rw [List.getElem?_set_ne hii] at hi'
        have hout : ¬ (i * k + f ≤ i' * k + j ∧ i' * k + j < i * k + f + X.cells.toList.length) := by
          rw [hlen]
          rcases Nat.lt_or_ge i' i with hlt | hge
          · have := Nat.mul_le_mul_right k hlt
            rw [Nat.succ_mul] at this
            omega
          · have := Nat.mul_le_mul_right k (show i + 1 ≤ i' by omega)
            rw [Nat.add_mul, Nat.one_mul] at this
            omega
        rw [if_neg hout] at hx
        exact (h4 i' j r' z x hi' hj hx).step hlat.ext hlat.own

variable {ops : Array Oper} {K : List Tr → St → Prop} {acc : List Tr} {rest : List Oper}
theorem a_leno {t tt : TypeId} {x : Operand} {id n e k k' : Nat} {rows : List (List D)} {ti : TI} (hx : ev σ x = some (.own id n)) (ho : get σ (.o id) = .ob (.arr e k rows)) (ht : tget cx.T t = some ti) (hk : slK ti = some k') (hd : Nat.blt d cx.n = true) (hn : n = rows.length) :
    OA cx σ ⟨some d, .call { callee := .builtin .len, args := #[x], argTypes := #[t] }, tt, pos, af, gd⟩ ⟨rdOf x (.own id n) ++ [(.o id, .ob (.arr e k rows))], [(.s d, .av (.d (.v (.int .i64 n))))]⟩ :=
  ⟨ok_len_own (lt_of_blt hd) (ev_out hx).1 ht hk hn, (ev_out hx).2.append ⟨ho, trivial⟩⟩
theorem a_io {t : TypeId} {x y : Operand} {id n e k i : Nat} {rows : List (List D)} {kd : IntKind} {ti : TI} (hx : ev σ x = some (.own id n)) (ho : get σ (.o id) = .ob (.arr e k rows)) (hy : ev σ y = some (.d (.v (.int kd (i : Int))))) (ht : tget cx.T t = some ti)
    (hk : slK ti = some k) (hd : Nat.blt d cx.n = true) (hn : n = rows.length) (hi : i < n) :
    OA cx σ ⟨some d, .indexAddr t x y, ty, pos, af, gd⟩ ⟨(rdOf x (.own id n) ++ rdOf y (.d (.v (.int kd (i : Int))))) ++ [(.o id, .ob (.arr e k rows))], [(.s d, .av (.pe id n i 0))]⟩ :=
  ⟨ok_ia_own (lt_of_blt hd) (ev_out hx).1 (ev_out hy).1 ht hk hn hi, ((ev_out hx).2.append (ev_out hy).2).append ⟨ho, trivial⟩⟩
theorem a_fpe {t : TypeId} {x : Operand} {id n i f : Nat} {ti : TI} {fl off e k : Nat} {rows : List (List D)} (hx : ev σ x = some (.pe id n i f)) (ho : get σ (.o id) = .ob (.arr e k rows)) (ht : tget cx.T t = some ti) (hf : fldOff ti fl = some off) (hd : Nat.blt d cx.n = true) (hn : n = rows.length) :
    OA cx σ ⟨some d, .fieldAddr t x fl, ty, pos, af, gd⟩ ⟨rdOf x (.pe id n i f) ++ [(.o id, .ob (.arr e k rows))], [(.s d, .av (.pe id n i (f + off)))]⟩ :=
  ⟨ok_fa_pe (lt_of_blt hd) (ev_out hx).1 ht hf hn, (ev_out hx).2.append ⟨ho, trivial⟩⟩
theorem a_lpe {t : TypeId} {x : Operand} {id n i f e k : Nat} {rows : List (List D)} {r : List D} {ti : TI} {y : D} (hx : ev σ x = some (.pe id n i f)) (ho : get σ (.o id) = .ob (.arr e k rows)) (ht : tget cx.T t = some ti)
    (hd : Nat.blt d cx.n = true) (hr : rows[i]? = some r) (hl : ldD ti (r.drop f) = some y) (hn : n = rows.length) :
    OA cx σ ⟨some d, .load t x, ty, pos, af, gd⟩ ⟨rdOf x (.pe id n i f) ++ [(.o id, .ob (.arr e k rows))], [(.s d, .av (.d y))]⟩ :=
  ⟨ok_load_pe (lt_of_blt hd) (ev_out hx).1 ht hn hr hl, (ev_out hx).2.append ⟨ho, trivial⟩⟩
theorem a_spe {t : TypeId} {x y : Operand} {id n i f e k : Nat} {rows : List (List D)} {r new : List D} {av : AV} {ti : TI} (hx : ev σ x = some (.pe id n i f)) (ho : get σ (.o id) = .ob (.arr e k rows)) (hy : ev σ y = some av) (ht : tget cx.T t = some ti)
    (hc : dcells av = some new) (hnn : Nat.beq new.length ti.n = true) (hr : rows[i]? = some r) (hle : Nat.ble (f + new.length) r.length = true) (hn : n = rows.length) :
    OA cx σ ⟨none, .store t x y, ty, pos, af, gd⟩ ⟨rdOf x (.pe id n i f) ++ (rdOf y av ++ [(.o id, .ob (.arr e k rows))]), [(.o id, .ob (.arr e k (rows.set i (splice r f new))))]⟩ :=
  ⟨ok_store_pe (ev_out hx).1 (ev_out hy).1 ht hc hn hr hnn (by simpa using hle), (ev_out hx).2.append ((ev_out hy).2.append ⟨ho, trivial⟩)⟩
theorem map_at {α : Type} {l : List α} {f : α → List D} {k : Nat} {x : α} (h : l[k]? = some x) : (l.map f)[k]? = some (f x) := by simp [h]

end Go.AX

/-! AxMore -/
/-
  Slices held against nil; functions as values that are called; whole numbers turned to others; halves.
-/
namespace Go.AX
open Go.RowKit

variable {cx : Cx} {g : Nat → Value} {σ : St} {a : Act} {w : World} {nx : Nat} {c : Code} {Q : Exit → St → Prop}
variable {ty : TypeId} {pos : String} {af : Array Edge} {gd : Option (Nat × Bool)} {d : Nat}

/-- A slice of no element, looked at: some handle, none of its cells. -/
theorem CW.empty {k : Nat} (i : Nat) (hi : get σ (.s i) = .av (.d (.sl k []))) (h : ∀ (p : Option Addr) (cp : Nat), CW cx c Q ((.s i, .av (.d (.v (.slice p 0 cp)))) :: σ)) : CW cx c Q σ := by
  intro a w hs
  have hs0 := hs
  obtain ⟨g, nx, hG⟩ := hs0
  have hr : Rd w (cx.own g σ) (a.tmps.getD i undef) (.sl k []) := (hG.slots i _ hi).1
  have key : ∃ p cp, a.tmps.getD i undef = .slice p 0 cp := by
    generalize a.tmps.getD i undef = x at hr
    generalize hD : D.sl k [] = D0 at hr
    cases hr with
    | v => cases hD
    | x => cases hD
    | agg => cases hD
    | nil p cp => exact ⟨p, cp, rfl⟩
    | sl ad cp k' rows f hb hsz hcap hk hc h1 hr => cases hD; exact ⟨_, _, rfl⟩
  obtain ⟨p, cp, hv⟩ := key
  exact h p cp a w (Sim.retell hG (by rw [hv]; exact Rd.v _) trivial)
theorem stut_nilv {i k cp : Nat} {p : Option Addr} : Stut cx ⟨[(.s i, .av (.d (.v (.slice p 0 cp))))], [(.s i, .av (.d (.sl k [])))]⟩ := by
  rintro σ a w ⟨g, nx, hs⟩ hr
  exact Sim.retell hs (av := .d (.sl k [])) (DLe_nilv p cp k (hs.slots i _ hr.1).1) trivial

theorem bin_isnil {P : Program} {t e : TypeId} {p : Option Addr} {n cp : Nat} (h : P.underlying t = some (.slice e)) : BinR P .eql t (.slice p n cp) (.slice none 0 0) (.bool p.isNone) := by
  intro w x y
  rw [eqGuard_at_slice]
  simp only [Sem.run_bind, Sem.run_pure, Result.andThen_ok]
  exact Go.Lib.run_eql_slice_nil w t e p n cp 0 0 h
theorem tbl_slice {t : TypeId} {ti : TI} {k : Nat} (ht : tget cx.T t = some ti) (hk : slK ti = some k) : ∃ e, cx.P.underlying t = some (.slice e) := by
  obtain ⟨e, ie, hu, _⟩ := slice_of (cx.hT t ti ht) hk
  exact ⟨e, hu⟩
theorem a_nilv {t t' : TypeId} {x y : Operand} {p : Option Addr} {n cp k : Nat} {ti : TI} (hx : ev σ x = some (.d (.v (.slice p n cp)))) (hy : ev σ y = some (.d (.v (.slice none 0 0)))) (ht : tget cx.T t = some ti) (hk : slK ti = some k) (hd : Nat.blt d cx.n = true) :
    OA cx σ ⟨some d, .binOp .eql t x y t', ty, pos, af, gd⟩ ⟨rdOf x (.d (.v (.slice p n cp))) ++ rdOf y (.d (.v (.slice none 0 0))), [(.s d, .av (.d (.v (.bool p.isNone))))]⟩ := by
  obtain ⟨e, hu⟩ := tbl_slice (cx := cx) ht hk
  exact a_bin hx hy (bin_isnil hu) hd
theorem ok_nilsl {t t' : TypeId} {x y : Operand} {k k' : Nat} {r : List D} {rows : List (List D)} {ti : TI} (hn : d < cx.n) (hx : EvS x (.d (.sl k (r :: rows)))) (hy : EvS y (.d (.v (.slice none 0 0)))) (ht : tget cx.T t = some ti) (hk : slK ti = some k') :
    OpOk cx ⟨some d, .binOp .eql t x y t', ty, pos, af, gd⟩ ⟨rdOf x (.d (.sl k (r :: rows))) ++ rdOf y (.d (.v (.slice none 0 0))), [(.s d, .av (.d (.v (.bool false))))]⟩ := by
  refine ok_val rfl hn fun σ a w g nx hs hr => ⟨.bool false, w, ?_, Below.refl _ _, Rd.v _, trivial⟩
  obtain ⟨e, hu⟩ := tbl_slice (cx := cx) ht hk
  have h1 : Rd w (cx.own g σ) (a.eval x) (.sl k (r :: rows)) := (hs.ev hx hr.left).1
  have h2 := rep_v (hs.ev hy hr.right).1
  have key : ∃ ad n cp, a.eval x = .slice (some ad) n cp := by
    generalize a.eval x = v at h1
    generalize hD : D.sl k (r :: rows) = D0 at h1
    cases h1 with
    | v => cases hD
    | x => cases hD
    | agg => cases hD
    | nil p cp => cases hD
    | sl ad cp k' rows f hb hsz hcap hk hc h1 hr => exact ⟨_, _, _, rfl⟩
  obtain ⟨ad, n, cp, hv⟩ := key
  have := bin_isnil (P := cx.P) (p := some ad) (n := n) (cp := cp) hu w x y
  simp only [execOp, hv, h2, Sem.run_bind] at this ⊢
  rw [this]
  rfl
theorem a_nilsl {t t' : TypeId} {x y : Operand} {k k' : Nat} {r : List D} {rows : List (List D)} {ti : TI} (hx : ev σ x = some (.d (.sl k (r :: rows)))) (hy : ev σ y = some (.d (.v (.slice none 0 0)))) (ht : tget cx.T t = some ti) (hk : slK ti = some k') (hd : Nat.blt d cx.n = true) :
    OA cx σ ⟨some d, .binOp .eql t x y t', ty, pos, af, gd⟩ ⟨rdOf x (.d (.sl k (r :: rows))) ++ rdOf y (.d (.v (.slice none 0 0))), [(.s d, .av (.d (.v (.bool false))))]⟩ :=
  ⟨ok_nilsl (lt_of_blt hd) (ev_out hx).1 (ev_out hy).1 ht hk, (ev_out hx).2.append (ev_out hy).2⟩

/-- What kind of whole number a type is. -/
def inK (ti : TI) : Option IntKind := match ti.kind with
  | .int k => some k
  | _ => none
theorem int_of {t : TypeId} {ti : TI} {k : IntKind} (ht : tget cx.T t = some ti) (hk : inK ti = some k) : cx.P.underlying t = some (.int k) := by
  have h := (cx.hT t ti ht).kind
  unfold inK at hk
  split at hk
  · next k' hkk => cases hk; rw [hkk] at h; exact h.1
  · cases hk
theorem ok_conv {s t : TypeId} {x : Operand} {ks kt : IntKind} {n : Int} {si ti : TI} (hn : d < cx.n) (hx : EvS x (.d (.v (.int ks n)))) (hs' : tget cx.T s = some si) (hks : inK si = some ks) (ht : tget cx.T t = some ti) (hkt : inK ti = some kt) (hw : kt.wrap n = n) :
    OpOk cx ⟨some d, .convert s t x, ty, pos, af, gd⟩ ⟨rdOf x (.d (.v (.int ks n))), [(.s d, .av (.d (.v (.int kt n))))]⟩ := by
  refine ok_val rfl hn fun σ a w g nx hs hr => ⟨.int kt n, w, ?_, Below.refl _ _, Rd.v _, trivial⟩
  have hv := rep_v (hs.ev hx hr).1
  have h1 := int_of (cx := cx) hs' hks
  have h2 := int_of (cx := cx) ht hkt
  have h3 : cx.P.intKind t = kt := by simp [Program.intKind, h2]
  have := run_convert_int (P := cx.P) w s t ks n (by simp [h1]) (by rw [h3]; exact h2)
  rw [h3, hw] at this
  simp [execOp, hv, this]
theorem a_conv {s t : TypeId} {x : Operand} {ks kt : IntKind} {n : Int} {si ti : TI} (hx : ev σ x = some (.d (.v (.int ks n)))) (hs' : tget cx.T s = some si) (hks : inK si = some ks) (ht : tget cx.T t = some ti) (hkt : inK ti = some kt) (hd : Nat.blt d cx.n = true) (hw : kt.wrap n = n) :
    OA cx σ ⟨some d, .convert s t x, ty, pos, af, gd⟩ ⟨rdOf x (.d (.v (.int ks n))), [(.s d, .av (.d (.v (.int kt n))))]⟩ :=
  ⟨ok_conv (lt_of_blt hd) (ev_out hx).1 hs' hks ht hkt hw, (ev_out hx).2⟩
theorem wrap_u64_in {n : Int} (h : 0 ≤ n ∧ n ≤ 9223372036854775807) : IntKind.u64.wrap n = n := by
  rw [IntKind.wrap_u64]; omega
end Go.AX

/-! AxBy -/
/-
  Steps' side conditions, each by its own short proof search (as default arguments): so that a walk's text stays short.
-/
namespace Go.AX

theorem by_k {p : Prop} (h : p := by ((focus first | exact rfl | assumption | ((first | apply decide_eq_true | apply decide_eq_false); omega) | (simp; done) | (simp; omega) | (simp; assumption)))) : p := h
theorem by_ks {p : Prop} (h : p := by ((focus first | assumption | ((first | apply decide_eq_true | apply decide_eq_false); omega) | (simp; done) | (simp; omega) | (simp; assumption) | exact rfl))) : p := h
theorem by_g {p : Prop} (h : p := by ((first | exact .none rfl | (refine .yes rfl rfl (gt rfl ?_); (focus first | exact rfl | assumption | ((first | apply decide_eq_true | apply decide_eq_false); omega) | (simp; done) | (simp; omega) | (simp; assumption)))))) : p := h
theorem by_less {p : Prop} (h : p := by ((refine less_of rfl rfl rfl ?_); (repeat (first | exact lessL_nil | refine lessL_nx ?_ | refine lessL_cons (by first | exact rfl | exact get_int rfl (by (focus first | omega | (simp; done) | (simp; omega))) | exact get_own rfl (by first | rfl | (simp; done) | (simp; omega)) | exact get_bool rfl (by (focus first | exact rfl | assumption | ((first | apply decide_eq_true | apply decide_eq_false); omega) | (simp; done) | (simp; omega) | (simp; assumption))) | exact get_sl rfl (by first | rfl | assumption | (simp; done) | (simp only [List.map_append]; rfl) | (simp only [List.map_append, List.append_assoc]; rfl) | (simp; rfl)) | exact get_arr rfl (by first | rfl | assumption | (simp; done) | (simp only [List.map_append]; rfl) | (simp only [List.map_append, List.append_assoc]; rfl) | (simp; rfl)) | exact get_box rfl (by first | rfl | assumption | (simp; done) | (simp; rfl))) rfl ?_)))) : p := h
theorem by_oa {p : Prop} (h : p := by
    first
    | ((with_reducible apply a_ia); (iterate 5 exact rfl); apply idx_map; assumption)
    | ((with_reducible apply a_bin); (iterate 2 exact rfl); (first | with_reducible apply bin_add | with_reducible apply bin_sub | apply bin_add | apply bin_sub); (focus first | omega | (simp; done) | (simp; omega)); exact rfl)
    | ((with_reducible apply a_pick_t); exact rfl; (focus first | exact rfl | assumption | ((first | apply decide_eq_true | apply decide_eq_false); omega) | (simp; done) | (simp; omega) | (simp; assumption)); (iterate 2 exact rfl))
    | ((with_reducible apply a_pick_f); exact rfl; (focus first | exact rfl | assumption | ((first | apply decide_eq_true | apply decide_eq_false); omega) | (simp; done) | (simp; omega) | (simp; assumption)); (iterate 2 exact rfl))
    | ((with_reducible apply a_app); (iterate 8 exact rfl); (focus first | exact rfl | (simp; done) | (simp; omega)); (focus first | omega | (simp; done) | (simp; omega)))
    | ((with_reducible apply a_store); (iterate 7 exact rfl); (first | exact ⟨rfl, trivial⟩ | (apply nw_own; exact rfl; (focus first | exact rfl | (simp; done) | (simp; omega)))))
    | ((with_reducible apply a_ib); (iterate 6 exact rfl); (first | omega | decide))
    | ((with_reducible apply a_is); (iterate 5 exact rfl); assumption)
    | ((with_reducible apply a_from); (iterate 5 exact rfl); apply cut_from; (focus first | omega | (simp; omega) | (simp; done)))
    | ((with_reducible apply a_to); (iterate 5 exact rfl); apply cut_to; (focus first | omega | (simp; omega) | (simp; done)))
    | ((with_reducible apply a_leno); (iterate 5 exact rfl); (focus first | exact rfl | (simp; done) | (simp; omega)))
    | ((with_reducible apply a_io); (iterate 6 exact rfl); (focus first | exact rfl | (simp; done) | (simp; omega)); (focus first | omega | (simp; done) | (simp; omega)))
    | ((with_reducible apply a_fpe); (iterate 5 exact rfl); (focus first | exact rfl | (simp; done) | (simp; omega)))
    | ((with_reducible apply a_lpe); (iterate 4 exact rfl); (focus first | assumption | (apply map_at; assumption)); exact rfl; (focus first | exact rfl | (simp; done) | (simp; omega)))
    | ((with_reducible apply a_spe); (iterate 6 exact rfl); (focus first | assumption | (apply map_at; assumption)); exact rfl; (focus first | exact rfl | (simp; done) | (simp; omega)))
    | ((with_reducible apply a_nilv); (iterate 5 exact rfl))
    | ((with_reducible apply a_nilsl); (iterate 5 exact rfl))
    | ((with_reducible apply a_conv); (iterate 6 exact rfl); (apply wrap_u64_in; (focus first | omega | (simp; done) | (simp; omega))))
    | ((with_reducible apply a_conv); (iterate 6 exact rfl); (apply wrap_in; (focus first | omega | (simp; done) | (simp; omega))))
    | ((with_reducible apply a_box); (iterate 4 exact rfl); (first | exact ⟨rfl, trivial⟩ | (apply nw_own; exact rfl; (focus first | exact rfl | (simp; done) | (simp; omega)))))
    ) : p := h

/-- What a call is handed over. -/
theorem by_sub {p : Prop} (h : p := by (repeat (first | exact SubsE.nil | (apply SubsE.cons; exact rfl; (first | exact .d (.refl _) | exact .d (.nil _) | exact .agg rfl (.refl _) | exact .pd | exact .ptr rfl); (first | exact trivial | exact ⟨rfl, trivial⟩))))) : p := h
end Go.AX

/-! Md -/
/-
  The data of the program, as Lean types, and as abstract data.
-/
namespace Go.RF
open Go.AX

abbrev Str := List UInt8
abbrev i64 (n : Int) : Value := .int .i64 n
abbrev dint (n : Int) : D := .v (.int .i64 n)
abbrev dbool (b : Bool) : D := .v (.bool b)
abbrev dstr (s : Str) : D := .v (str s)

structure Pair where
  key : Str
  n : Int
  deriving DecidableEq
structure Version where
  by_ : Int
  made : Bool
  has : Bool
  n : Int
  deriving DecidableEq
structure Chain where
  key : Str
  vs : List Version
  deriving DecidableEq
structure Ins where
  kind : Int
  a : Int
  b : Int
  n : Int
  key : Str
  deriving DecidableEq
structure Deed where
  reads : List Str
  writes : List Str
  code : List Ins
  deriving DecidableEq
structure Done where
  failed : Bool
  r0 : Int
  r1 : Int
  r2 : Int
  r3 : Int
  deriving DecidableEq
structure Engine where
  chains : List Chain
  deeds : List Deed
  state : List Int
  ends : List Done
  base : Int
  deriving DecidableEq

def Pair.enc (p : Pair) : List D := [dstr p.key, dint p.n]
def Version.enc (v : Version) : List D := [dint v.by_, dbool v.made, dbool v.has, dint v.n]
def encVs (l : List Version) : D := .sl 4 (l.map Version.enc)
def Chain.enc (c : Chain) : List D := [dstr c.key, encVs c.vs]
def Ins.enc (i : Ins) : List D := [dint i.kind, dint i.a, dint i.b, dint i.n, dstr i.key]
def encStr1 (s : Str) : List D := [dstr s]
def encInt1 (n : Int) : List D := [dint n]
def encStrs (l : List Str) : D := .sl 1 (l.map encStr1)
def encInts (l : List Int) : D := .sl 1 (l.map encInt1)
def encCode (l : List Ins) : D := .sl 5 (l.map Ins.enc)
def Deed.enc (d : Deed) : List D := [encStrs d.reads, encStrs d.writes, encCode d.code]
def Done.enc (d : Done) : List D := [dbool d.failed, dint d.r0, dint d.r1, dint d.r2, dint d.r3]
def encChains (l : List Chain) : D := .sl 2 (l.map Chain.enc)
def encDeeds (l : List Deed) : D := .sl 3 (l.map Deed.enc)
def encEnds (l : List Done) : D := .sl 5 (l.map Done.enc)
def Engine.enc (e : Engine) : List D := [encChains e.chains, encDeeds e.deeds, encInts e.state, encEnds e.ends, dint e.base]

theorem dle_int {n m : Int} (h : n = m) : DLe (dint n) (dint m) := by rw [h]; exact .refl _
theorem dle_bool {n m : Bool} (h : n = m) : DLe (dbool n) (dbool m) := by rw [h]; exact .refl _
inductive DLes : List D → List D → Prop
  | nil : DLes [] []
  | cons {x y : D} {xs ys : List D} (h : DLe x y) (hr : DLes xs ys) : DLes (x :: xs) (y :: ys)
theorem DLes.at {a b : List D} (h : DLes a b) : a.length = b.length ∧ ∀ (j : Nat) (x y : D), a[j]? = some x → b[j]? = some y → DLe x y := by
  induction h with
  | nil => exact ⟨rfl, fun j x y h => by simp at h⟩
  | cons h hr ih =>
    refine ⟨by simp [ih.1], fun j x y hx hy => ?_⟩
    cases j with
    | zero => simp at hx hy; subst hx hy; exact h
    | succ j => exact ih.2 j x y (by simpa using hx) (by simpa using hy)
theorem DLes.agg {a b : List D} (h : DLes a b) : DLe (.agg a) (.agg b) := .agg a b h.at.1 h.at.2
theorem dle_nil (k : Nat) : DLe (.v nilS) (.sl k []) := .nil k

theorem idx_map {α : Type} {l : List α} {f : α → List D} {k : Nat} {x : α} (h : l[k]? = some x) : idx (l.map f) (k : Int) = some (f x) := by
  simp [idx, List.getElem?_map, h]

end Go.RF

/-! Sh0 -/
/-
  From a function's contract to a row's step: what was there has not turned.
-/
namespace Go.AX
open Go.RowKit Go.WideShapes Go.ChangeShapes

section
variable {H : Type} {enc : TypeId × Value → H} {P : Program}
theorem post_of_below {f : Func} {s : ChangeSpec} {apart fresh handsOn again : Bool} {W W' : World} {args : Array Value} {v : Value} {ds gs : List (DataW H)} {before pa pv : List MemPlace}
    (hW : DataW.Whole enc P f.params.toList s.vars apart W args.toList ds gs before)
    (hres : ∀ (b : Nat) (sp : Nat → Bool) (hd : Bool), DataW.TrodAll enc P W' b sp hd f.resultTypes.toList (v.resultList f.resultTypes.size) (s.fn H (ds ++ gs)).results [])
    (hargs : ∀ sp : Nat → Bool, (∀ p ∈ before, sp p.block = true) → DataW.TrodAll enc P W' 0 sp true f.params.toList args.toList (s.fn H (ds ++ gs)).args pa)
    (hvars : ∀ sp : Nat → Bool, (∀ p ∈ before, sp p.block = true) → DataW.TrodVars enc P W' sp s.vars (s.fn H (ds ++ gs)).vars pv)
    (hps : before = pa ++ pv) (hb : Below W.heap.size W W')
    (hok : ∀ (j : Nat) (t : TypeId) (r : Value), f.resultTypes[j]? = some t → (v.resultList f.resultTypes.size)[j]? = some r → Value.okWide P W' .any 0 t r) :
    s.post enc P f apart fresh handsOn again W args v W' := by
  have hlt : ∀ p ∈ before, p.block < W.heap.size := fun p hp => hW.lt p hp
  have hold : ∀ p ∈ before, (fun b => decide (b < W.heap.size)) p.block = true := fun p hp => by simpa using hlt p hp
  refine ⟨ds, gs, before, [], pa, pv, hW, hres _ _ _, hargs _ hold, hvars _ hold, World.keptBut_mono (fun p hp => ⟨hp, ?_⟩) (hb.frame (· ∈ before)), fun _ => ?_⟩
  · rw [hps, List.mem_append] at hp
    exact Or.inr hp
  · obtain ⟨_, _, _, _, _, hz, hn⟩ := hW
    refine ⟨hok, _, _, ([] ++ pa) ++ pv, ⟨[] ++ pa, pv, trodAll_append (hargs _ (fun _ _ => rfl)) (hres _ _ _), hvars _ (fun _ _ => rfl), rfl, ?_, ?_⟩, ?_⟩
    · intro b off hp
      have hin : MemPlace.cell b off ∈ before := by rw [hps]; simpa using hp
      rw [hb.frozen (hlt _ hin)]
      exact hz b off hin
    · intro ha
      have := hn ha
      rw [hps] at this
      simpa using this
    · intro p hp _
      rw [hps]
      simpa using hp
end

/-- The contract of a function that answers one truth value, in the kit's words. -/
theorem FnOk.bool {P : Program} {f : FuncId} {args : List Arg} {b : Bool} (h : FnOk P f args (.one (.v (.bool b)))) {w : World} {vs : List Value} (hgl : Gl P w) (ha : ArgsOk w (fun _ => False) vs args) :
    Calls P f vs.toArray w fun e w' => e = .returned (.bool b) ∧ Below w.heap.size w w' :=
  (h.calls w (fun _ => False) vs ⟨fun _ h => h.elim, hgl⟩ ha).mono fun _ _ ⟨v, h1, h2, h3⟩ => ⟨by rw [h1, rd_v h3], h2⟩

end Go.AX

/-! AxOpen -/
/-
  A law's arguments opened: what reads as data (the statement's reading) reads as a tree of ours, fits its type, and is no larger than its bulk; and behind the call it reads as before.
-/
namespace Go.Proofs.YtfaaghkgfbhglaaDoor
open Go.AX Go.RF Go.RowKit Go.ChangeShapes Go.WideShapes Go.Deep

/-- What a cell is: a number, a text, a truth value, a slice (of elements of such cells). -/
inductive Sh where
  | num (k : IntKind)
  | str
  | bool
  | sl (fs : List Sh)

mutual
/-- A tree fits a cell's shape, and is of bulk so much at most. -/
inductive Fits : Sh → Nat → D → Prop
  | num (k : IntKind) (n : Int) (m : Nat) (h : (Lit.int k n).wf = true) : Fits (.num k) m (.v (.int k n))
  | str (s : Str) (m : Nat) (h : s.length ≤ m) : Fits .str m (dstr s)
  | bool (b : Bool) (m : Nat) : Fits .bool m (dbool b)
  | sl (fs : List Sh) (m : Nat) (rows : List (List D)) (h : FitsR fs m rows) : Fits (.sl fs) m (.sl fs.length rows)
inductive FitsL : List Sh → Nat → List D → Prop
  | nil (m : Nat) : FitsL [] m []
  | cons {s : Sh} {a b m : Nat} {d : D} {ss : List Sh} {ds : List D} (h : Fits s a d) (hr : FitsL ss b ds) (hm : a + b ≤ m) : FitsL (s :: ss) m (d :: ds)
inductive FitsR : List Sh → Nat → List (List D) → Prop
  | nil (fs : List Sh) (m : Nat) : FitsR fs m []
  | cons {fs : List Sh} {a b m : Nat} {r : List D} {rows : List (List D)} (h : FitsL fs a r) (hr : FitsR fs b rows) (hm : a + b + 1 ≤ m) : FitsR fs m (r :: rows)
end

mutual
/-- The cells of a type. -/
inductive TySh (P : Program) : TypeId → List Sh → Prop
  | num {t : TypeId} {k : IntKind} (h : P.underlying t = some (.int k)) : TySh P t [.num k]
  | str {t : TypeId} (h : P.underlying t = some .string) : TySh P t [.str]
  | bool {t : TypeId} (h : P.underlying t = some .bool) : TySh P t [.bool]
  | sl {t e : TypeId} {fs : List Sh} (h : P.underlying t = some (.slice e)) (hk : P.cellsOf e = fs.length) (h0 : 0 < fs.length) (he : TySh P e fs) : TySh P t [.sl fs]
  | st {t : TypeId} {fs : Array Field} {ss : List Sh} (h : P.underlying t = some (.struct fs)) (hC : P.cellsOf t = ss.length) (hf : TyFs P fs.toList 0 ss) : TySh P t ss
inductive TyFs (P : Program) : List Field → Nat → List Sh → Prop
  | nil (o : Nat) : TyFs P [] o []
  | cons {f : Field} {r : List Field} {o n : Nat} {s ss : List Sh} (ho : f.offset = o) (hc : P.cellsOf f.type = s.length) (hn : n = o + s.length) (ht : TySh P f.type s) (hr : TyFs P r n ss) : TyFs P (f :: r) o (s ++ ss)
end

theorem FitsL.mono {ss : List Sh} {m n : Nat} {ds : List D} (h : FitsL ss m ds) (hm : m ≤ n) : FitsL ss n ds := by
  cases h with
  | nil => exact .nil _
  | cons h1 h2 h3 => exact .cons h1 h2 (by omega)
theorem FitsL.append : ∀ {ss ts : List Sh} {a b m : Nat} {ds es : List D}, FitsL ss a ds → FitsL ts b es → a + b ≤ m → FitsL (ss ++ ts) m (ds ++ es)
  | [], ts, a, b, m, ds, es, h, h', hm => by cases h; exact h'.mono (by omega)
  | s :: ss, ts, a, b, m, ds, es, h, h', hm => by
    cases h with
    | cons h1 h2 h3 => exact .cons h1 (h2.append (m := _) h' (Nat.le_refl _)) (by omega)
theorem FitsL.len : ∀ {ss : List Sh} {m : Nat} {ds : List D}, FitsL ss m ds → ds.length = ss.length
  | [], m, ds, h => by cases h; rfl
  | s :: ss, m, ds, h => by
    cases h with
    | cons h1 h2 h3 => simp [h2.len]
theorem FitsR.mono {fs : List Sh} {m n : Nat} {rows : List (List D)} (h : FitsR fs m rows) (hm : m ≤ n) : FitsR fs n rows := by
  cases h with
  | nil => exact .nil _ _
  | cons h1 h2 h3 => exact .cons h1 h2 (by omega)

section
variable {H : Type} {enc : TypeId × Value → H} {P : Program} {w : World}

theorem fitsR_of {fs : List Sh} {ι : Type} {D0 : ι → DataW H} {f : ι → List D} : ∀ {l : List ι}, (∀ i ∈ l, FitsL fs (Rows.uptoBulk (D0 i) - 1) (f i) ∧ 1 ≤ Rows.uptoBulk (D0 i)) → FitsR fs (Rows.uptoBulkAll (l.map D0)) (l.map f)
  | [], _ => .nil _ _
  | i :: l, h => by
    have h1 := h i (List.mem_cons_self ..)
    refine .cons h1.1 (fitsR_of fun j hj => h j (List.mem_cons_of_mem _ hj)) ?_
    simp only [List.map_cons, Rows.uptoBulkAll]
    omega

theorem one_le (d : DataW H) : 1 ≤ Rows.uptoBulk d := by
  cases d with
  | lit l => cases l <;> simp [Rows.uptoBulk]
  | nil => simp [Rows.uptoBulk]
  | ptr d => simp [Rows.uptoBulk]
  | slice elems spare => simp [Rows.uptoBulk]
  | agg parts => simp [Rows.uptoBulk]
  | iface t d => simp [Rows.uptoBulk]
  | map entries => simp [Rows.uptoBulk]
  | held h => simp [Rows.uptoBulk]

/-- Cells that read as trees. -/
def RdL (w : World) (own : Nat → Prop) (cs : List Value) (ds : List D) : Prop :=
  cs.length = ds.length ∧ ∀ (j : Nat) (c : Value) (d : D), cs[j]? = some c → ds[j]? = some d → c.oneCell' = true ∧ Rd w own c d
theorem RdL.one {own : Nat → Prop} {c : Value} {d : D} (h1 : c.oneCell' = true) (h : Rd w own c d) : RdL w own [c] [d] := by
  refine ⟨rfl, fun j c' d' hc hd => ?_⟩
  cases j with
  | zero => simp at hc hd; subst hc hd; exact ⟨h1, h⟩
  | succ j => simp at hc
theorem RdL.append {own : Nat → Prop} {a b : List Value} {x y : List D} (h : RdL w own a x) (h' : RdL w own b y) : RdL w own (a ++ b) (x ++ y) := by
  refine ⟨by simp [h.1, h'.1], fun j c d hc hd => ?_⟩
  rcases Nat.lt_or_ge j a.length with hj | hj
  · rw [List.getElem?_append_left hj] at hc
    rw [List.getElem?_append_left (by rw [← h.1]; exact hj)] at hd
    exact h.2 j c d hc hd
  · rw [List.getElem?_append_right hj] at hc
    rw [List.getElem?_append_right (by rw [← h.1]; exact hj), ← h.1] at hd
    exact h'.2 _ c d hc hd

abbrev noOwn : Nat → Prop := fun _ => False

theorem block_lt {a : Addr} {c : Value} (h : w.cell? (a.add 0) = some c) : a.block < w.heap.size := by
  rcases Nat.lt_or_ge a.block w.heap.size with hlt | hge
  · exact hlt
  · exfalso
    have : w.heap[a.block]? = none := Array.getElem?_eq_none hge
    simp [World.cell?, add_zero, this] at h
theorem open_fields {n : Nat} (ih : ∀ {t : TypeId} {ss : List Sh} {cs : List Value} {x : DataW H × List MemPlace}, TySh P t ss → DataW.trod enc P w 0 (fun _ => true) true n t cs = some x →
      ∃ ds : List D, RdL w noOwn cs ds ∧ FitsL ss (Rows.uptoBulk x.1 - 1) ds) : ∀ {fs : List Field} {o : Nat} {ss : List Sh} {cs : List Value} {xs : List (DataW H × List MemPlace)}, TyFs P fs o ss → xs.length = fs.length →
    (∀ (i : Nat) (f : Field), fs[i]? = some f → DataW.trod enc P w 0 (fun _ => true) true n f.type ((cs.drop f.offset).take (P.cellsOf f.type)) = xs[i]?) → cs.length = o + ss.length →
    ∃ ds : List D, RdL w noOwn (cs.drop o) ds ∧ FitsL ss (Rows.uptoBulkAll (xs.map (·.1))) ds
  | [], o, ss, cs, xs, hT, hl, hat, hc => by
    cases hT
    refine ⟨[], ⟨by simp; simp at hc; omega, fun j c d _ hd => by simp at hd⟩, .nil _⟩
  | f :: r, o, ss, cs, xs, hT, hl, hat, hc => by
    cases hT with
    | @cons _ _ _ n' s ss' ho hcc hn ht hr =>
      cases xs with
      | nil => simp at hl
      | cons x xs =>
        have h0 := hat 0 f rfl
        rw [List.getElem?_cons_zero, ho, hcc] at h0
        obtain ⟨ds, h1, h2⟩ := ih ht h0
        rw [List.length_append] at hc
        obtain ⟨es, h3, h4⟩ := open_fields ih (cs := cs) hr (by simpa using hl) (fun i g hg => by simpa using hat (i + 1) g hg) (by omega)
        refine ⟨ds ++ es, ?_, h2.append h4 ?_⟩
        · have := h1.append h3
          rw [hn, ← List.drop_drop, List.take_append_drop] at this
          exact this
        · simp only [List.map_cons, Rows.uptoBulkAll]; omega

theorem open_cells : ∀ (n : Nat) {t : TypeId} {ss : List Sh} {cs : List Value} {x : DataW H × List MemPlace}, TySh P t ss → DataW.trod enc P w 0 (fun _ => true) true n t cs = some x →
    ∃ ds : List D, RdL w noOwn cs ds ∧ FitsL ss (Rows.uptoBulk x.1 - 1) ds
  | 0, t, ss, cs, x, _, h => by simp [DataW.trod] at h
  | n + 1, t, ss, cs, x, hT, h => by
    cases hT with
    | num ht =>
      obtain ⟨v, rfl, rfl, hw⟩ := DataW.trod_int ht h
      exact ⟨[.v (.int _ v)], .one (by simp [Value.oneCell']) (.v _), .cons (a := 0) (b := 0) (.num _ v _ hw) (.nil _) (by omega)⟩
    | str ht =>
      obtain ⟨s, rfl, rfl, hm⟩ := DataW.trod_string ht h
      refine ⟨[dstr s.data.toList], .one (by simp [Value.oneCell']) (.v _), .cons (a := s.data.toList.length) (b := 0) (.str _ _ (Nat.le_refl _)) (.nil _) ?_⟩
      simp [Rows.uptoBulk]
    | bool ht =>
      obtain ⟨v, rfl, rfl⟩ := DataW.trod_bool ht h
      exact ⟨[dbool v], .one (by simp [Value.oneCell']) (.v _), .cons (a := 0) (b := 0) (.bool v _) (.nil _) (by omega)⟩
    | @sl _ e fs ht hk h0 he =>
      rcases DataW.trod_slice ht h with ⟨rfl, rfl⟩ | ⟨a, len, cap, elems, rest, n', hn, rfl, rfl, hb, hl, hm, hlen, hel, _, _⟩
      · exact ⟨[.sl fs.length []], .one (by simp [Value.oneCell']) (.nil none 0 _), .cons (a := 0) (b := 0) (.sl fs 0 [] (.nil _ _)) (.nil _) (by omega)⟩
      · obtain rfl : n = n' := by omega
        obtain ⟨D0, hD0⟩ : ∃ D0 : Nat → DataW H, D0 = fun i => (elems.getD i (.nil, [])).1 := ⟨_, rfl⟩
        have hmap : elems.map (·.1) = (List.range len).map D0 := by rw [hD0, ← hlen]; exact map_by_index elems (.nil, []) (·.1)
        rw [hmap]
        obtain ⟨F, hF⟩ := choose_lt (α := List Value × List D) (n := len) (p := fun i y => w.cells? 0 (a.add (i * P.cellsOf e)) (P.cellsOf e) = some y.1 ∧ RdL w noOwn y.1 y.2 ∧ FitsL fs (Rows.uptoBulk (D0 i) - 1) y.2) fun i hil => by
          have hei : elems[i]? = some (elems[i]'(by omega)) := List.getElem?_eq_getElem (by omega)
          have h0 := hel i hil
          rw [hei] at h0
          obtain ⟨cs', h1, h2⟩ := Option.bind_eq_some_iff.1 h0
          obtain ⟨ds, h3, h4⟩ := open_cells n he h2
          have hDi : D0 i = (elems[i]'(by omega)).1 := by rw [hD0]; simp [List.getD, hei]
          rw [← hDi] at h4
          exact ⟨(cs', ds), h1, h3, h4⟩
        have hx : ∀ i, i < len → (F i).1.length = fs.length ∧ (F i).2.length = fs.length ∧ ∀ j c, (F i).1[j]? = some c → w.cell? (a.add (i * fs.length + j)) = some c := fun i hil => by
          obtain ⟨h1, h2, h3⟩ := hF i hil
          obtain ⟨_, hlen, hat⟩ := World.cells?_some h1
          rw [hk] at hlen hat
          refine ⟨hlen, by rw [← h2.1, hlen], fun j c hj => ?_⟩
          rw [← AX.add_add, hat j (by rw [← hlen]; exact (List.getElem?_eq_some_iff.1 hj).1)]
          exact hj
        have hrow : ∀ i r, ((List.range len).map fun i => (F i).2)[i]? = some r → i < len ∧ r = (F i).2 := fun i r hir => by
          obtain ⟨hi1, hi2⟩ := List.getElem?_eq_some_iff.1 hir
          simp at hi1 hi2
          exact ⟨hi1, hi2.symm⟩
        refine ⟨[.sl fs.length ((List.range len).map fun i => (F i).2)], .one (by simp [Value.oneCell']) ?_, .cons (a := Rows.uptoBulkAll ((List.range len).map D0)) (b := 0) (.sl fs _ _ (fitsR_of fun i hir => ⟨(hF i (by simpa using hir)).2.2, one_le _⟩)) (.nil _) ?_⟩
        · rcases Nat.eq_zero_or_pos len with rfl | hlen
          · exact .nil _ _ _
          · have hpos := (hx 0 hlen)
            have hcell : ∃ c, w.cell? (a.add 0) = some c := by
              have h1 : 0 < (F 0).1.length := by rw [hpos.1]; exact h0
              exact ⟨_, by simpa using hpos.2.2 0 _ (List.getElem?_eq_getElem h1)⟩
            have hsz : a.block < w.heap.size := by
              obtain ⟨c, hc⟩ := hcell
              exact block_lt hc
            have key := Rd.sl (w := w) (own := noOwn) a cap fs.length ((List.range len).map fun i => (F i).2) (fun i j => ((F i).1[j]?).getD undef) (fun h => h) hsz (by simpa using hl)
              (fun r hr => by
                obtain ⟨i, hi2, rfl⟩ := List.mem_map.1 hr
                exact (hx i (by simpa using hi2)).2.1)
              (fun i j r d hr hd => by
                obtain ⟨hil, rfl⟩ := hrow i r hr
                obtain ⟨h1, h2, h3⟩ := hx i hil
                have hj : j < (F i).1.length := by rw [h1, ← h2]; exact (List.getElem?_eq_some_iff.1 hd).1
                rw [List.getElem?_eq_getElem hj]
                exact h3 j _ (List.getElem?_eq_getElem hj))
              (fun i j r d hr hd => by
                obtain ⟨hil, rfl⟩ := hrow i r hr
                obtain ⟨h1, h2, h3⟩ := hx i hil
                have hj : j < (F i).1.length := by rw [h1, ← h2]; exact (List.getElem?_eq_some_iff.1 hd).1
                rw [List.getElem?_eq_getElem hj]
                exact ((hF i hil).2.1.2 j _ d (List.getElem?_eq_getElem hj) hd).1)
              (fun i j r d hr hd => by
                obtain ⟨hil, rfl⟩ := hrow i r hr
                obtain ⟨h1, h2, h3⟩ := hx i hil
                have hj : j < (F i).1.length := by rw [h1, ← h2]; exact (List.getElem?_eq_some_iff.1 hd).1
                rw [List.getElem?_eq_getElem hj]
                exact ((hF i hil).2.1.2 j _ d (List.getElem?_eq_getElem hj) hd).2)
            simpa using key
        · simp only [Rows.uptoBulk]; omega
    | @st _ fs _ ht hC hf =>
      obtain ⟨xs, n', hn, rfl, hcl, hxl, hat⟩ := DataW.trod_struct ht h
      obtain rfl : n = n' := by omega
      obtain ⟨ds, h1, h2⟩ := open_fields (fun {t ss cs x} hT h => open_cells n hT h) hf (by simpa using hxl) (fun i f hi => hat i f (by simpa using hi)) (by omega)
      exact ⟨ds, by simpa using h1, h2.mono (by simp only [Rows.uptoBulk]; omega)⟩
end
end Go.Proofs.YtfaaghkgfbhglaaDoor

/-! AxLaw -/
/-
  From a law's contract on data to its row's step: the arguments opened, and read again behind the call.
-/
namespace Go.Proofs.YtfaaghkgfbhglaaDoor
open Go.AX Go.RF Go.RowKit Go.ChangeShapes Go.WideShapes Go.Deep

/-- A parameter: one cell, or a struct's cells. -/
inductive PS where
  | one (s : Sh)
  | st (ss : List Sh)
def isSt (P : Program) (t : TypeId) : Bool := match P.underlying t with
  | some (.struct _) => true
  | _ => false
inductive TyPs (P : Program) : List TypeId → List PS → Prop
  | nil : TyPs P [] []
  | one {t : TypeId} {s : Sh} {ts : List TypeId} {ps : List PS} (h : TySh P t [s]) (hn : isSt P t = false) (hr : TyPs P ts ps) : TyPs P (t :: ts) (.one s :: ps)
  | st {t : TypeId} {ss : List Sh} {ts : List TypeId} {ps : List PS} (h : TySh P t ss) (hn : isSt P t = true) (hr : TyPs P ts ps) : TyPs P (t :: ts) (.st ss :: ps)
inductive FitsPs : List PS → Nat → List D → Prop
  | nil (m : Nat) : FitsPs [] m []
  | one {s : Sh} {a b m : Nat} {d : D} {ps : List PS} {ds : List D} (h : Fits s a d) (hr : FitsPs ps b ds) (hm : a + b ≤ m) : FitsPs (.one s :: ps) m (d :: ds)
  | st {ss : List Sh} {a b m : Nat} {es : List D} {ps : List PS} {ds : List D} (h : FitsL ss a es) (hr : FitsPs ps b ds) (hm : a + b ≤ m) : FitsPs (.st ss :: ps) m (.agg es :: ds)

/-! ### A type's cells, reckoned -/
def fldsB (P : Program) (ty : TypeId → Option (List Sh)) : List Field → Nat → Option (List Sh)
  | [], _ => some []
  | f :: r, o => match ty f.type with
    | some s => match Nat.beq f.offset o && Nat.beq (P.cellsOf f.type) s.length with
      | true => match fldsB P ty r (o + s.length) with
        | some ss => some (s ++ ss)
        | none => none
      | false => none
    | none => none
def tyB (P : Program) : Nat → TypeId → Option (List Sh)
  | 0, _ => none
  | n + 1, t => match P.underlying t with
    | some (.int k) => some [.num k]
    | some .string => some [.str]
    | some .bool => some [.bool]
    | some (.slice e) => match tyB P n e with
      | some fs => match Nat.beq (P.cellsOf e) fs.length && Nat.blt 0 fs.length with
        | true => some [.sl fs]
        | false => none
      | none => none
    | some (.struct fs) => match fldsB P (tyB P n) fs.toList 0 with
      | some ss => match Nat.beq (P.cellsOf t) ss.length with
        | true => some ss
        | false => none
      | none => none
    | _ => none
def parB (P : Program) : List TypeId → Option (List PS)
  | [] => some []
  | t :: ts => match tyB P 9 t with
    | some ss => match parB P ts with
      | some ps => match isSt P t with
        | true => some (.st ss :: ps)
        | false => match ss with
          | [s] => some (.one s :: ps)
          | _ => none
      | none => none
    | none => none
theorem fldsB_ok {P : Program} {ty : TypeId → Option (List Sh)} (hty : ∀ t ss, ty t = some ss → TySh P t ss) : ∀ {fs : List Field} {o : Nat} {ss : List Sh}, fldsB P ty fs o = some ss → TyFs P fs o ss
  | [], o, ss, h => by cases h; exact .nil _
  | f :: r, o, ss, h => by
    simp only [fldsB] at h
    split at h
    · next s hs =>
      split at h
      · next hb =>
        split at h
        · next ss' hr =>
          cases h
          simp only [Bool.and_eq_true, Nat.beq_eq] at hb
          exact .cons hb.1 hb.2 rfl (hty _ _ hs) (fldsB_ok hty hr)
        · cases h
      · cases h
    · cases h
theorem tyB_ok {P : Program} : ∀ {n : Nat} {t : TypeId} {ss : List Sh}, tyB P n t = some ss → TySh P t ss
  | 0, t, ss, h => by cases h
  | n + 1, t, ss, h => by
    simp only [tyB] at h
    split at h
    · next k hu => cases h; exact .num hu
    · next hu => cases h; exact .str hu
    · next hu => cases h; exact .bool hu
    · next e hu =>
      split at h
      · next fs hf =>
        split at h
        · next hb =>
          cases h
          simp only [Bool.and_eq_true, Nat.beq_eq] at hb
          exact .sl hu hb.1 (by simpa [Nat.blt_eq] using hb.2) (tyB_ok hf)
        · cases h
      · cases h
    · next fs hu =>
      split at h
      · next ss' hf =>
        split at h
        · next hb => cases h; exact .st hu (by simpa using hb) (fldsB_ok (fun t ss h => tyB_ok h) hf)
        · cases h
      · cases h
    · cases h
theorem parB_ok {P : Program} : ∀ {ts : List TypeId} {ps : List PS}, parB P ts = some ps → TyPs P ts ps
  | [], ps, h => by cases h; exact .nil
  | t :: ts, ps, h => by
    simp only [parB] at h
    split at h
    · next ss hs =>
      split at h
      · next ps' hp =>
        split at h
        · next hi => cases h; exact .st (tyB_ok hs) hi (parB_ok hp)
        · next hi =>
          split at h
          · next s => cases h; exact .one (tyB_ok hs) hi (parB_ok hp)
          · cases h
      · cases h
    · cases h
theorem FitsPs.mono {ps : List PS} {m n : Nat} {xs : List D} (h : FitsPs ps m xs) (hm : m ≤ n) : FitsPs ps n xs := by
  cases h with
  | nil => exact .nil _
  | one h1 h2 h3 => exact .one h1 h2 (by omega)
  | st h1 h2 h3 => exact .st h1 h2 (by omega)
theorem Fits.mono' {s : Sh} {m n : Nat} {d : D} (h : Fits s m d) (hm : m ≤ n) : Fits s n d := by
  cases h with
  | num k v m h => exact .num k v n h
  | str s m h => exact .str s n (by omega)
  | bool b m => exact .bool b n
  | sl fs m rows h => exact .sl fs n rows (h.mono hm)
theorem fits_one {s : Sh} {ps : List PS} {m : Nat} {xs : List D} (h : FitsPs (.one s :: ps) m xs) : ∃ d r, xs = d :: r ∧ Fits s m d ∧ FitsPs ps m r := by
  cases h with
  | one h1 h2 h3 => exact ⟨_, _, rfl, h1.mono' (by omega), h2.mono (by omega)⟩
theorem fits_st {ss : List Sh} {ps : List PS} {m : Nat} {xs : List D} (h : FitsPs (.st ss :: ps) m xs) : ∃ es r, xs = .agg es :: r ∧ FitsL ss m es ∧ FitsPs ps m r := by
  cases h with
  | st h1 h2 h3 => exact ⟨_, _, rfl, h1.mono (by omega), h2.mono (by omega)⟩
theorem fits_nil {m : Nat} {xs : List D} (h : FitsPs [] m xs) : xs = [] := by
  cases h; rfl

section
variable {H : Type} {enc : TypeId × Value → H} {P : Program} {w : World}

theorem one_cell {t : TypeId} {s : Sh} {r : Reach} {b : Nat} {v : Value} (hT : TySh P t [s]) (hn : isSt P t = false) (hv : Value.okWide P w r b t v) : v.cells.toList = [v] := by
  generalize hs : [s] = ss at hT
  cases hT with
  | num h => obtain ⟨n, rfl⟩ := okWide_int h hv; rfl
  | str h => obtain ⟨n, rfl⟩ := okWide_string h hv; rfl
  | bool h => obtain ⟨n, rfl⟩ := okWide_bool h hv; rfl
  | sl h => obtain ⟨a, l, c, rfl⟩ := okWide_slice h hv; rfl
  | st h => simp [isSt, h] at hn

theorem open_args {r : Reach} {b : Nat} : ∀ {ts : List TypeId} {ps : List PS} {vs : List Value} {ds : List (DataW H)} {p : List MemPlace}, TyPs P ts ps →
    (∀ (j : Nat) (t : TypeId) (v : Value), ts[j]? = some t → vs[j]? = some v → Value.okWide P w r b t v) → DataW.TrodAll enc P w 0 (fun _ => true) true ts vs ds p →
    ∃ xs : List D, ArgsOk w noOwn vs (xs.map Arg.d) ∧ FitsPs ps (Rows.uptoBulkAll ds) xs ∧ ds.length = ts.length
  | [], ps, vs, ds, p, hT, hv, h => by
    cases hT
    obtain ⟨rfl, rfl, rfl⟩ := trodAll_nil h
    exact ⟨[], trivial, .nil _, rfl⟩
  | t :: ts, ps, vs, ds, p, hT, hv, h => by
    obtain ⟨v, vs, d, ds, p, q, rfl, rfl, rfl, ⟨n, h0⟩, hr⟩ := trodAll_cons h
    have hv0 := hv 0 t v rfl rfl
    have hvr : ∀ (j : Nat) (t : TypeId) (v : Value), ts[j]? = some t → vs[j]? = some v → Value.okWide P w r b t v := fun j t' v' h1 h2 => hv (j + 1) t' v' (by simpa using h1) (by simpa using h2)
    have hb := one_le d
    cases hT with
    | one hT hn hTr =>
      obtain ⟨xs, h1, h2, h3⟩ := open_args hTr hvr hr
      rw [one_cell hT hn hv0] at h0
      obtain ⟨es, ⟨h4, h5⟩, h6⟩ := open_cells n hT h0
      cases h6 with
      | @cons _ a b _ e _ es h7 h8 h9 =>
        cases h8
        have h9' : a + b ≤ Rows.uptoBulk d - 1 := h9
        exact ⟨e :: xs, ⟨(h5 0 v e rfl rfl).2, h1⟩, .one h7 h2 (by simp only [Rows.uptoBulkAll]; omega), by simp [h3]⟩
    | st hT hn hTr =>
      obtain ⟨xs, h1, h2, h3⟩ := open_args hTr hvr hr
      obtain ⟨es, h5, h6⟩ := open_cells n hT h0
      have h6' : FitsL _ (Rows.uptoBulk d - 1) es := h6
      have hs : ∃ fs, P.underlying t = some (.struct fs) := by
        unfold isSt at hn
        split at hn
        · exact ⟨_, by assumption⟩
        · cases hn
      obtain ⟨fs, hs⟩ := hs
      obtain ⟨cs, rfl, hsz⟩ := okWide_struct hs hv0
      refine ⟨.agg es :: xs, ⟨.agg cs es ?_ (fun j c hj => ?_) fun j d c hd hc => ?_, h1⟩, .st h6' h2 (by simp only [Rows.uptoBulkAll]; omega), by simp [h3]⟩
      · simpa [Value.cells] using h5.1
      · have hj' : j < es.length := by rw [← h5.1]; simpa [Value.cells] using (Array.getElem?_eq_some_iff.1 hj).1
        exact (h5.2 j c _ (by simpa [Value.cells] using hj) (List.getElem?_eq_getElem hj')).1
      · exact (h5.2 j c d (by simpa [Value.cells] using hc) hd).2

theorem again_args {W W' : World} {sp : Nat → Bool} (hl : laidOutB P = true) (hb : Below W.heap.size W W') : ∀ {ts : List TypeId} {vs : List Value} {ds : List (DataW H)} {p : List MemPlace},
    (∀ t ∈ ts, P.readableRec t = true ∧ t < P.types.size) → DataW.TrodAll enc P W 0 (fun _ => true) true ts vs ds p → (∀ x ∈ p, x.block < W.heap.size) → (∀ x ∈ p, sp x.block = true) →
    DataW.TrodAll enc P W' 0 sp true ts vs ds p
  | [], vs, ds, p, _, h, _, _ => by
    obtain ⟨rfl, rfl, rfl⟩ := trodAll_nil h
    exact trodAll_mk0
  | t :: ts, vs, ds, p, hr, h, hlt, hsp => by
    obtain ⟨v, vs, d, ds, p, q, rfl, rfl, rfl, h0, hq⟩ := trodAll_cons h
    have ht := hr t (List.mem_cons_self ..)
    exact trodAll_cons_mk (WideElems.Trod_stays hl ht.1 ht.2 h0 (fun x hx => hb.same (hlt x (List.mem_append_left _ hx))) fun x hx => hsp x (List.mem_append_left _ hx))
      (again_args hl hb (fun t h => hr t (List.mem_cons_of_mem _ h)) hq (fun x hx => hlt x (List.mem_append_right _ hx)) fun x hx => hsp x (List.mem_append_right _ hx))
end

/-- A law: what it answers of data that fit, within the bound; so its row's step. -/
theorem law_contract {H : Type} {enc : TypeId × Value → H} {P : Program} {f : FuncId} {fn : Func} {s : ChangeSpec} {tb : TypeId} {ps : List PS}
    (hT : TyPs P fn.params.toList ps) (hl : laidOutB P = true) (hread : fn.params.toList.all (fun t => P.readableRec t && decide (t < P.types.size)) = true) (hvars : s.vars = [])
    (hres : fn.resultTypes = #[tb]) (htb : P.underlying tb = some .bool)
    (hfn : ∀ ds : List (DataW H), ds.length = fn.params.toList.length → s.fn H ds = { results := [.lit (.bool true)], args := ds })
    (hlaw : ∀ (xs : List D) (m : Nat), m ≤ 1048576 → FitsPs ps m xs → FnOk P f (xs.map Arg.d) (.one (dbool true)))
    (W : World) (base : Nat) (args : Array Value) (ds gs : List (DataW H)) (before : List MemPlace)
    (hval : ∀ (j : Nat) t v, fn.params[j]? = some t → args[j]? = some v → Value.okWide P W .any base t v)
    (hW : DataW.Whole enc P fn.params.toList s.vars false W args.toList ds gs before) (hk : Rows.uptoSmall H (ds ++ gs) = true) (hgl : Gl P W) :
    Calls P f args W fun e W' => ∃ v, e = .returned v ∧ s.post enc P fn false true false false W args v W' := by
  have hW' := hW
  obtain ⟨p, q, hA, hV, rfl, hfz, hnd⟩ := hW
  rw [hvars] at hV
  obtain ⟨rfl, rfl⟩ := trodVars_none hV
  obtain ⟨xs, h1, h2, h3⟩ := open_args hT (fun j t v ht hv => hval j t v (by simpa using ht) (by simpa using hv)) hA
  rw [List.append_nil] at hk
  have hk' : Rows.uptoBulkAll ds ≤ 1048576 := of_decide_eq_true hk
  have hc := hlaw xs _ hk' h2
  have key := FnOk.bool hc (w := W) (vs := args.toList) hgl h1
  rw [Array.toArray_toList] at key
  refine key.mono fun e W' ⟨he, hg⟩ => ?_
  subst he
  have hf := hfn ds h3
  have hlt : ∀ x ∈ p, x.block < W.heap.size := fun x hx => hW'.lt x (by simpa using hx)
  refine ⟨_, rfl, Go.AX.post_of_below (pa := p) (pv := []) hW' (fun _ _ _ => ?_) (fun sp hsp => ?_) (fun _ _ => ?_) rfl hg (ok_one hres rfl (okWide_bool_mk htb _))⟩
  · rw [List.append_nil, hf, hres]
    exact trodAll_cons_mk (shut_bool htb _) trodAll_mk0
  · rw [List.append_nil, hf]
    refine again_args hl hg (fun t ht => ?_) hA hlt fun x hx => hsp x (by simpa using hx)
    have := List.all_eq_true.1 hread t ht
    simpa using this
  · rw [List.append_nil, hf, hvars]
    rfl

end Go.Proofs.YtfaaghkgfbhglaaDoor

/-! Pl -/
/-
  Plain facts on lists.
-/
namespace Go.RF

/-- How many pairs, from the first one on, are alike. -/
def agree {α β : Type} (f : α → β → Bool) : List α → List β → Nat
  | a :: l, b :: r => match f a b with
    | true => agree f l r + 1
    | false => 0
  | _, _ => 0

theorem agree_le {α β : Type} {f : α → β → Bool} : ∀ {l : List α} {r : List β}, agree f l r ≤ l.length
  | [], _ => by simp [agree]
  | a :: l, [] => by simp [agree]
  | a :: l, b :: r => by
    have := agree_le (f := f) (l := l) (r := r)
    simp only [agree]
    split <;> simp <;> omega
theorem agree_lt {α β : Type} {f : α → β → Bool} : ∀ {l : List α} {r : List β} {k : Nat}, k < agree f l r → ∃ a b, l[k]? = some a ∧ r[k]? = some b ∧ f a b = true
  | [], _, k, h => by simp [agree] at h
  | a :: l, [], k, h => by simp [agree] at h
  | a :: l, b :: r, k, h => by
    simp only [agree] at h
    split at h
    · next hf =>
      cases k with
      | zero => exact ⟨a, b, rfl, rfl, hf⟩
      | succ k => simpa using agree_lt (l := l) (r := r) (k := k) (by omega)
    · omega
theorem agree_at {α β : Type} {f : α → β → Bool} : ∀ {l : List α} {r : List β} {a : α} {b : β}, l[agree f l r]? = some a → r[agree f l r]? = some b → f a b = false
  | [], _, a, b, h, _ => by simp at h
  | a :: l, [], x, y, _, h => by simp at h
  | a :: l, b :: r, x, y, h, h' => by
    simp only [agree] at h h'
    split at h
    · next hf =>
      simp only [hf] at h'
      exact agree_at (l := l) (r := r) (by simpa using h) (by simpa using h')
    · next hf => simp only [hf] at h'; simp at h h'; subst h h'; exact hf

/-- Alike all along. -/
def allB {α β : Type} (f : α → β → Bool) : List α → List β → Bool
  | [], [] => true
  | a :: l, b :: r => f a b && allB f l r
  | _, _ => false
theorem allB_agree {α β : Type} {f : α → β → Bool} : ∀ {l : List α} {r : List β}, l.length = r.length → (allB f l r = true ↔ agree f l r = l.length)
  | [], [], _ => by simp [allB, agree]
  | [], b :: r, h => by simp at h
  | a :: l, [], h => by simp at h
  | a :: l, b :: r, h => by
    have ih := allB_agree (f := f) (l := l) (r := r) (by simpa using h)
    simp only [allB, agree, Bool.and_eq_true]
    split
    · next hf => simp [hf, ih]
    · next hf => simp [hf]
theorem allB_len {α β : Type} {f : α → β → Bool} : ∀ {l : List α} {r : List β}, allB f l r = true → l.length = r.length
  | [], [], _ => rfl
  | [], b :: r, h => by simp [allB] at h
  | a :: l, [], h => by simp [allB] at h
  | a :: l, b :: r, h => by simp only [allB, Bool.and_eq_true] at h; simp [allB_len h.2]
theorem allB_eq {α : Type} [DecidableEq α] {f : α → α → Bool} (hf : ∀ a b, f a b = decide (a = b)) : ∀ {l r : List α}, allB f l r = decide (l = r)
  | [], [] => by simp [allB]
  | [], b :: r => by simp [allB]
  | a :: l, [] => by simp [allB]
  | a :: l, b :: r => by
    simp only [allB, hf, allB_eq hf (l := l) (r := r)]
    by_cases h1 : a = b <;> by_cases h2 : l = r <;> simp [h1, h2]

/-- At the head of the k-th round, no more than the pairs that agree: which of three. -/
theorem agree_case {α β : Type} {f : α → β → Bool} {l : List α} {r : List β} (hl : l.length = r.length) {k : Nat} (hk : k ≤ agree f l r) :
    (k < agree f l r ∧ k < l.length ∧ ∃ a b, l[k]? = some a ∧ r[k]? = some b ∧ f a b = true) ∨ (k = l.length ∧ allB f l r = true) ∨
      (k < l.length ∧ allB f l r = false ∧ ∃ a b, l[k]? = some a ∧ r[k]? = some b ∧ f a b = false) := by
  rcases Nat.lt_or_ge k (agree f l r) with h | h
  · exact .inl ⟨h, by have := agree_le (f := f) (l := l) (r := r); omega, agree_lt h⟩
  · have he : k = agree f l r := by omega
    have hle := agree_le (f := f) (l := l) (r := r)
    rcases Nat.lt_or_ge k l.length with h2 | h2
    · refine .inr (.inr ⟨h2, ?_, l[k], r[k]'(by omega), List.getElem?_eq_getElem h2, List.getElem?_eq_getElem (by omega), ?_⟩)
      · cases hb : allB f l r
        · rfl
        · have := (allB_agree hl).1 hb; omega
      · exact agree_at (f := f) (l := l) (r := r) (by rw [← he]; exact List.getElem?_eq_getElem h2) (by rw [← he]; exact List.getElem?_eq_getElem (by omega))
    · exact .inr (.inl ⟨by omega, (allB_agree hl).2 (by omega)⟩)

end Go.RF

/-! Rf -/
/-
  What the references compute, on data.
-/
namespace Go.RF
open Go.AX

/-- a < b, byte by byte. -/
abbrev slt (a b : Str) : Bool := Go.Op.bytesLess a b
def bad (c : UInt8) : Bool := decide ((c.toNat : Int) < 97) || decide ((122 : Int) < (c.toNat : Int))
def keyGo (s : Str) : Str → Bool
  | [] => decide (0 < s.length) && decide (s.length < 7)
  | c :: r => if bad c then false else keyGo s r
def key (s : Str) : Bool := keyGo s s

def get (r : List Pair) (k : Str) : Int × Bool := match r with
  | [] => (0, false)
  | p :: r => if p.key = k then (p.n, true) else get r k

def isIn (l : List Str) (s : Str) : Bool := match l with
  | [] => false
  | x :: l => if x = s then true else isIn l s

def putGo (k : Str) (n : Int) (h : Bool) : Bool → List Pair → List Pair → List Pair
  | done, out, [] => if !done && h then out ++ [⟨k, n⟩] else out
  | done, out, p :: r =>
    let done' := done || !slt p.key k
    let out' := if !done && !slt p.key k && h then out ++ [⟨k, n⟩] else out
    putGo k n h done' (if p.key = k then out' else out' ++ [p]) r
def put (r : List Pair) (k : Str) (n : Int) (h : Bool) : List Pair := putGo k n h false [] r

def forms : List Str := [[], [114, 107], [114, 110], [114, 115], [114, 115], [114, 115], [114, 107], [107], [114, 110], [114]]
def form (k : Nat) : Str := forms.getD k []
def hasGo (c : UInt8) : Str → Bool
  | [] => false
  | x :: r => if x = c then true else hasGo c r
def has (k : Nat) (c : UInt8) : Bool := hasGo c (form k)

def keysGo (l : List Str) : Nat → List Str → Int
  | _, [] => 0
  | i, k :: r => if key k = false then 7 else if isIn (l.take i) k = true then 7 else keysGo l (i + 1) r
def keysWrong (l : List Str) : Int := if 5 < l.length then 5 else keysGo l 0 l
def lsGo : List (List Str) → Int
  | [] => 0
  | l :: r => if keysWrong l = 0 then lsGo r else keysWrong l

def insA (k : Nat) : Int := if has k 114 = true then 3 else 0
def insB (k : Nat) : Int := if has k 115 = true then 3 else 0
def insLow (k : Nat) : Int := if k = 2 then -1073741824 else if k = 8 then 1 else 0
def insHigh (k : Nat) (m : Int) : Int := if k = 2 then 1073741824 else if k = 8 then m else 0
def insOut (k : Nat) (a b n m : Int) : Bool := decide (a < 0) || (decide (insA k < a) || (decide (b < 0) || (decide (insB k < b) || (decide (n < insLow k) || decide (insHigh k m < n)))))
def wrongIns (d : Deed) (m : Int) (i : Ins) : Int :=
  if i.kind < 1 ∨ 9 < i.kind then 1
  else if insOut i.kind.toNat i.a i.b i.n m = true then 3
  else if has i.kind.toNat 107 = false then (if i.key = [] then 0 else 2)
  else if isIn (if i.kind = 1 then d.reads else d.writes) i.key = true then 0 else 9
def codeGo (d : Deed) : Nat → List Ins → Int
  | _, [] => 0
  | k, i :: r => if wrongIns d ((d.code.length : Int) - 1 - k) i = 0 then codeGo d (k + 1) r else wrongIns d ((d.code.length : Int) - 1 - k) i
def wrongDeed (d : Deed) : Int :=
  if lsGo [d.reads, d.writes] = 0 then (if 12 < d.code.length then 5 else codeGo d 0 d.code) else lsGo [d.reads, d.writes]

/-- No larger than a walk bears. -/
structure Deed.Sm (d : Deed) : Prop where
  r : d.reads.length ≤ 268435456
  w : d.writes.length ≤ 268435456
  c : d.code.length ≤ 268435456
  rk : ∀ s ∈ d.reads, s.length ≤ 1073741824
  wk : ∀ s ∈ d.writes, s.length ≤ 1073741824

def right : List Deed → Bool
  | [] => true
  | d :: r => if wrongDeed d = 0 then right r else false

def bvs (hit : Bool) (b : Int) : Version → List Version → Version
  | out, [] => out
  | out, v :: r => bvs hit b (if hit && decide (v.by_ < b) then v else out) r
def beforeGo (k : Str) (b : Int) : Version → List Chain → Version
  | out, [] => out
  | out, c :: r => beforeGo k b (bvs (decide (c.key = k)) b out c.vs) r
def before (l : List Chain) (k : Str) (b : Int) : Version := beforeGo k b ⟨-1, true, false, 0⟩ l

def later (b : Int) : List Version → Bool
  | [] => false
  | w :: _ => decide (w.by_ < b)
def old (b : Int) (r : List Version) (v : Version) : Bool := (later b r && decide (v.by_ < b)) || (decide (v.by_ < b) && (v.made && !v.has))
def clrV (b : Int) : List Version → List Version
  | [] => []
  | v :: r => if old b r v = true then clrV b r else v :: clrV b r
def clear (b : Int) : List Chain → List Chain
  | [] => []
  | c :: r => if clrV b c.vs = [] then clear b r else ⟨c.key, clrV b c.vs⟩ :: clear b r

structure Chain.Sm (c : Chain) : Prop where
  k : c.key.length ≤ 1073741824
  v : c.vs.length ≤ 268435456

end Go.RF

/-! Rf2 -/
/-
  What the references compute on engines, on data.
-/
namespace Go.RF
open Go.AX

def nOk (n : Int) : Prop := -1073741824 ≤ n ∧ n ≤ 1073741824
structure Ins.Ok (i : Ins) : Prop where
  k : 1 ≤ i.kind ∧ i.kind ≤ 9
  a : 0 ≤ i.a ∧ i.a ≤ 3
  b : 0 ≤ i.b ∧ i.b ≤ 3
  c : i.kind = 2 → nOk i.n
  s : i.kind = 8 → 0 ≤ i.n ∧ i.n ≤ 1073741824
structure Done.Ok (e : Done) : Prop where
  a : nOk e.r0
  b : nOk e.r1
  c : nOk e.r2
  d : nOk e.r3
/-- No larger than a walk bears. -/
structure Engine.Sm (e : Engine) : Prop where
  c : e.chains.length ≤ 134217728
  v : ∀ c ∈ e.chains, c.vs.length ≤ 134217728
  d : e.deeds.length ≤ 134217728
  s : e.state.length ≤ 134217728
  n : e.ends.length ≤ 134217728
  b : 0 ≤ e.base ∧ e.base ≤ 134217728
  dd : ∀ d ∈ e.deeds, d.Sm

end Go.RF

/-! Srt -/
/-
  Chains in order: where a key is; what it has ahead of a deed. Plain facts.
-/
namespace Go.RF
open Go.AX

/-- A whole number of the machine. -/
def inI (n : Int) : Prop := -9223372036854775808 ≤ n ∧ n ≤ 9223372036854775807

theorem bl_nil_cons (b : UInt8) (r : Str) : slt [] (b :: r) = true := by simp [slt, Op.bytesLess]
theorem bl_nil (a : Str) : slt a [] = false := by cases a <;> simp [slt, Op.bytesLess]
theorem bl_cons (a b : UInt8) (l r : Str) : slt (a :: l) (b :: r) = if a < b then true else if b < a then false else slt l r := by
  simp only [slt, Op.bytesLess]
  by_cases h1 : a < b
  · simp [h1]
  · by_cases h2 : b < a
    · have h3 : ¬ a = b := fun h => by subst h; exact h1 h2
      simp [h1, h2, h3]
    · have h3 : a = b := UInt8.le_antisymm (UInt8.not_lt.1 h2) (UInt8.not_lt.1 h1)
      subst h3
      simp [h1]
theorem slt_trans : ∀ {a b c : Str}, slt a b = true → slt b c = true → slt a c = true
  | [], [], c, h, _ => by simp [bl_nil] at h
  | a :: l, [], c, h, _ => by simp [bl_nil] at h
  | a, b :: r, [], _, h => by simp [bl_nil] at h
  | [], b :: r, c :: s, _, _ => bl_nil_cons _ _
  | a :: l, b :: r, c :: s, h, h' => by
    rw [bl_cons] at h h' ⊢
    by_cases h1 : a < b
    · by_cases h2 : b < c
      · simp [UInt8.lt_trans h1 h2]
      · by_cases h3 : c < b
        · simp [h2, h3] at h'
        · have h4 : b = c := UInt8.le_antisymm (UInt8.not_lt.1 h3) (UInt8.not_lt.1 h2)
          subst h4; simp [h1]
    · by_cases h2 : b < a
      · simp [h1, h2] at h
      · have h4 : a = b := UInt8.le_antisymm (UInt8.not_lt.1 h2) (UInt8.not_lt.1 h1)
        subst h4
        simp only [UInt8.lt_irrefl, if_false] at h
        by_cases h2 : a < c
        · simp [h2]
        · by_cases h3 : c < a
          · simp [h2, h3] at h'
          · simp only [h2, h3, if_false] at h' ⊢
            exact slt_trans h h'
/-- Where a key is, or would be: ahead of it all are less. -/
structure AtK {α : Type} (f : α → Str) (l : List α) (k : Str) (m : Nat) : Prop where
  le : m ≤ l.length
  lt : ∀ x c, l[x]? = some c → x < m → slt (f c) k = true
  ge : ∀ x c, l[x]? = some c → m ≤ x → slt (f c) k = false
def Srt {α : Type} (f : α → Str) (l : List α) : Prop := l.Pairwise fun a b => slt (f a) (f b) = true
theorem Srt.at {α : Type} {f : α → Str} (k : Str) : ∀ {l : List α}, Srt f l → ∃ m, AtK f l k m
  | [], _ => ⟨0, ⟨by simp, by simp, by simp⟩⟩
  | c :: l, h => by
    have h' : (∀ a ∈ l, slt (f c) (f a) = true) ∧ Srt f l := List.pairwise_cons.1 h
    cases hc : slt (f c) k with
    | true =>
      obtain ⟨m, hm⟩ := Srt.at k h'.2
      refine ⟨m + 1, ⟨by have := hm.le; simpa using this, fun x d hx hlt => ?_, fun x d hx hge => ?_⟩⟩
      · cases x with
        | zero => simp at hx; subst hx; exact hc
        | succ x => exact hm.lt x d (by simpa using hx) (by omega)
      · cases x with
        | zero => omega
        | succ x => exact hm.ge x d (by simpa using hx) (by omega)
    | false =>
      refine ⟨0, ⟨by simp, fun x d _ hlt => by omega, fun x d hx _ => ?_⟩⟩
      cases x with
      | zero => simp at hx; subst hx; exact hc
      | succ x =>
        have h1 := h'.1 d (List.mem_of_getElem? (by simpa using hx))
        cases hd : slt (f d) k with
        | false => rfl
        | true => rw [slt_trans h1 hd] at hc; cases hc
theorem Srt.lt {α : Type} {f : α → Str} {l : List α} (h : Srt f l) {i j : Nat} {a b : α} (hi : l[i]? = some a) (hj : l[j]? = some b) (hlt : i < j) : slt (f a) (f b) = true := by
  obtain ⟨h1, rfl⟩ := List.getElem?_eq_some_iff.1 hi
  obtain ⟨h2, rfl⟩ := List.getElem?_eq_some_iff.1 hj
  exact List.pairwise_iff_getElem.1 h i j h1 h2 hlt
end Go.RF

/-! AxDec -/
/-
  Data that fit the program's types, as values of ours.
-/
namespace Go.Proofs.YtfaaghkgfbhglaaDoor
open Go.AX Go.RF

abbrev i64s : Sh := .num .i64
abbrev shIns : List Sh := [i64s, i64s, i64s, i64s, .str]
abbrev shDeed : List Sh := [.sl [.str], .sl [.str], .sl shIns]

theorem inI_of {n : Int} (h : (Lit.int .i64 n).wf = true) : inI n := by
  simpa [Lit.wf, IntKind.min, IntKind.max, IntKind.signed, IntKind.bits, inI] using h

theorem fitsR_map {α : Type} {enc : α → List D} {Q : α → Nat → Prop} {fs : List Sh} (h : ∀ r m, FitsL fs m r → ∃ x, r = enc x ∧ Q x m) : ∀ {rows : List (List D)} {m : Nat}, FitsR fs m rows →
    ∃ l : List (α × Nat), rows = (l.map (·.1)).map enc ∧ (∀ y ∈ l, Q y.1 y.2) ∧ (l.map (·.2)).sum + l.length ≤ m
  | [], m, _ => ⟨[], rfl, by simp, by simp⟩
  | r :: rows, m, hR => by
    cases hR with
    | @cons _ a b _ _ _ h1 h2 h3 =>
      obtain ⟨x, rfl, hx⟩ := h r a h1
      obtain ⟨l, rfl, hl, hs⟩ := fitsR_map h h2
      refine ⟨(x, a) :: l, rfl, fun y hy => ?_, by simp; omega⟩
      rcases List.mem_cons.1 hy with rfl | hy
      · exact hx
      · exact hl y hy
theorem sum_mem {l : List Nat} {n : Nat} (h : n ∈ l) : n ≤ l.sum := by
  induction l with
  | nil => simp at h
  | cons x l ih =>
    rcases List.mem_cons.1 h with rfl | h
    · simp
    · have := ih h; simp; omega
theorem fitsR_all {α : Type} {enc : α → List D} {Q : α → Nat → Prop} {fs : List Sh} (h : ∀ r m, FitsL fs m r → ∃ x, r = enc x ∧ Q x m) {rows : List (List D)} {m : Nat} (hR : FitsR fs m rows) :
    ∃ l : List α, rows = l.map enc ∧ (∀ x ∈ l, ∃ k, k ≤ m ∧ Q x k) ∧ l.length ≤ m := by
  obtain ⟨l, h1, h2, h3⟩ := fitsR_map h hR
  refine ⟨l.map (·.1), h1, fun x hx => ?_, by simp; omega⟩
  obtain ⟨y, hy, rfl⟩ := List.mem_map.1 hx
  have := sum_mem (List.mem_map.2 ⟨y, hy, rfl⟩ : y.2 ∈ l.map (·.2))
  exact ⟨y.2, by omega, h2 y hy⟩

theorem dec_int {m : Nat} {d : D} (h : Fits i64s m d) : ∃ n, d = dint n ∧ inI n := by
  cases h with
  | num k n m h => exact ⟨n, rfl, inI_of h⟩
theorem dec_str {m : Nat} {d : D} (h : Fits .str m d) : ∃ s, d = dstr s ∧ s.length ≤ m := by
  cases h with
  | str s m h => exact ⟨s, rfl, h⟩
theorem dec_one {s : Sh} {m : Nat} {r : List D} (h : FitsL [s] m r) : ∃ d, r = [d] ∧ Fits s m d := by
  cases h with
  | @cons _ a b _ d _ ds h1 h2 h3 =>
    cases h2
    exact ⟨d, rfl, h1.mono' (by omega)⟩
theorem dec_two {s t : Sh} {m : Nat} {r : List D} (h : FitsL [s, t] m r) : ∃ d e, r = [d, e] ∧ Fits s m d ∧ Fits t m e := by
  cases h with
  | @cons _ a b _ d _ ds h1 h2 h3 =>
    obtain ⟨e, rfl, h4⟩ := dec_one h2
    exact ⟨d, e, rfl, h1.mono' (by omega), h4.mono' (by omega)⟩
theorem dec_three {s t u : Sh} {m : Nat} {r : List D} (h : FitsL [s, t, u] m r) : ∃ d e f, r = [d, e, f] ∧ Fits s m d ∧ Fits t m e ∧ Fits u m f := by
  cases h with
  | @cons _ a b _ d _ ds h1 h2 h3 =>
    obtain ⟨e, f, rfl, h4, h5⟩ := dec_two h2
    exact ⟨d, e, f, rfl, h1.mono' (by omega), h4.mono' (by omega), h5.mono' (by omega)⟩
theorem dec_four {s t u v : Sh} {m : Nat} {r : List D} (h : FitsL [s, t, u, v] m r) : ∃ d e f g, r = [d, e, f, g] ∧ Fits s m d ∧ Fits t m e ∧ Fits u m f ∧ Fits v m g := by
  cases h with
  | @cons _ a b _ d _ ds h1 h2 h3 =>
    obtain ⟨e, f, g, rfl, h4, h5, h6⟩ := dec_three h2
    exact ⟨d, e, f, g, rfl, h1.mono' (by omega), h4.mono' (by omega), h5.mono' (by omega), h6.mono' (by omega)⟩
theorem dec_five {s t u v x : Sh} {m : Nat} {r : List D} (h : FitsL [s, t, u, v, x] m r) : ∃ d e f g k, r = [d, e, f, g, k] ∧ Fits s m d ∧ Fits t m e ∧ Fits u m f ∧ Fits v m g ∧ Fits x m k := by
  cases h with
  | @cons _ a b _ d _ ds h1 h2 h3 =>
    obtain ⟨e, f, g, k, rfl, h4, h5, h6, h7⟩ := dec_four h2
    exact ⟨d, e, f, g, k, rfl, h1.mono' (by omega), h4.mono' (by omega), h5.mono' (by omega), h6.mono' (by omega), h7.mono' (by omega)⟩
theorem dec_sl {fs : List Sh} {m : Nat} {d : D} (h : Fits (.sl fs) m d) : ∃ rows, d = .sl fs.length rows ∧ FitsR fs m rows := by
  cases h with
  | sl fs m rows h => exact ⟨rows, rfl, h⟩

theorem dec_text (r : List D) (m : Nat) (h : FitsL [.str] m r) : ∃ s : Str, r = encStr1 s ∧ s.length ≤ m := by
  obtain ⟨d, rfl, h1⟩ := dec_one h
  obtain ⟨s, rfl, hs⟩ := dec_str h1
  exact ⟨s, rfl, hs⟩
theorem dec_ins (r : List D) (m : Nat) (h : FitsL shIns m r) : ∃ i : Ins, r = i.enc ∧ (i.key.length ≤ m ∧ inI i.kind ∧ inI i.a ∧ inI i.b ∧ inI i.n) := by
  obtain ⟨d, e, f, g, k, rfl, h1, h2, h3, h4, h5⟩ := dec_five h
  obtain ⟨a, rfl, ha⟩ := dec_int h1
  obtain ⟨b, rfl, hb⟩ := dec_int h2
  obtain ⟨c, rfl, hc⟩ := dec_int h3
  obtain ⟨n, rfl, hn⟩ := dec_int h4
  obtain ⟨s, rfl, hs⟩ := dec_str h5
  exact ⟨⟨a, b, c, n, s⟩, rfl, hs, ha, hb, hc, hn⟩

/-- A deed no larger than what came in. -/
structure Deed.In (d : Deed) (m : Nat) : Prop where
  r : d.reads.length ≤ m
  w : d.writes.length ≤ m
  c : d.code.length ≤ m
  rk : ∀ s ∈ d.reads, s.length ≤ m
  wk : ∀ s ∈ d.writes, s.length ≤ m
  ck : ∀ i ∈ d.code, i.key.length ≤ m
theorem Deed.In.sm {d : Deed} {m : Nat} (h : Deed.In d m) (hm : m ≤ 1048576) : d.Sm :=
  ⟨by have := h.r; omega, by have := h.w; omega, by have := h.c; omega, fun s hs => by have := h.rk s hs; omega, fun s hs => by have := h.wk s hs; omega⟩
theorem Deed.In.mono {d : Deed} {m n : Nat} (h : Deed.In d m) (hm : m ≤ n) : Deed.In d n :=
  ⟨by have := h.r; omega, by have := h.w; omega, by have := h.c; omega, fun s hs => by have := h.rk s hs; omega, fun s hs => by have := h.wk s hs; omega, fun s hs => by have := h.ck s hs; omega⟩
theorem dec_deed (r : List D) (m : Nat) (h : FitsL shDeed m r) : ∃ d : Deed, r = d.enc ∧ Deed.In d m := by
  obtain ⟨x, y, z, rfl, h1, h2, h3⟩ := dec_three h
  obtain ⟨r1, rfl, hr1⟩ := dec_sl h1
  obtain ⟨r2, rfl, hr2⟩ := dec_sl h2
  obtain ⟨r3, rfl, hr3⟩ := dec_sl h3
  obtain ⟨a, rfl, ha, hal⟩ := fitsR_all dec_text hr1
  obtain ⟨b, rfl, hb, hbl⟩ := fitsR_all dec_text hr2
  obtain ⟨c, rfl, hc, hcl⟩ := fitsR_all dec_ins hr3
  exact ⟨⟨a, b, c⟩, rfl, hal, hbl, hcl, fun s hs => let ⟨_, h1, h2⟩ := ha s hs; Nat.le_trans h2 h1, fun s hs => let ⟨_, h1, h2⟩ := hb s hs; Nat.le_trans h2 h1, fun s hs => let ⟨_, h1, h2⟩ := hc s hs; Nat.le_trans h2.1 h1⟩

end Go.Proofs.YtfaaghkgfbhglaaDoor

/-! AxPin -/
/-
  Functions whose result is a slice of the caller's own; slices of ours lent as data; a slice of ours within another's element (its handle known, and staying).
-/
namespace Go.AX
open Go.RowKit

variable {cx : Cx} {g : Nat → Value} {σ σ' : St} {a : Act} {w w' : World} {nx : Nat} {c : Code} {Q : Exit → St → Prop}
variable {ty : TypeId} {pos : String} {af : Array Edge} {gd : Option (Nat × Bool)} {d : Nat}

/-- The handle v leads to rows, of elements of k cells, in a block from base on. -/
def RowsAt (w : World) (base : Nat) (own : Nat → Prop) (e k : Nat) (v : Value) (rows : List (List D)) : Prop :=
  ∃ xs : List Value, w.ownsRow base e k v rows.length xs ∧ (∀ x ∈ xs, Value.oneCell' x = true) ∧ (∀ r ∈ rows, r.length = k) ∧
    ∀ (i j : Nat) (r : List D) (d : D) (x : Value), rows[i]? = some r → r[j]? = some d → xs[i * k + j]? = some x → Rd w own x d
def with1 (own : Nat → Prop) (v : Value) : Nat → Prop := fun b => own b ∨ blk v = some b

theorem ownsRow_base {base base' : Nat} {e k : Nat} {v : Value} {n : Nat} {xs : List Value} (h : w.ownsRow base e k v n xs) (hb : ∀ b, blk v = some b → base' ≤ b) : w.ownsRow base' e k v n xs := by
  refine ⟨h.1, ?_⟩
  rcases h.2 with h1 | ⟨g, cap, cur, hv, h1, h2⟩
  · exact .inl h1
  · exact .inr ⟨g, cap, cur, hv, hb g (by rw [hv]; rfl), h2⟩
theorem RowsAt.lt {base e k : Nat} {own : Nat → Prop} {v : Value} {rows : List (List D)} (h : RowsAt w base own e k v rows) {b : Nat} (hb : blk v = some b) : base ≤ b ∧ b < w.heap.size := by
  obtain ⟨xs, h1, _⟩ := h
  exact h1.lt b (by rw [← blk_own h1]; exact hb)
theorem RowsAt.re {base base' e k : Nat} {own own' : Nat → Prop} {v : Value} {rows : List (List D)} (h : RowsAt w base own e k v rows) (hb : ∀ b, blk v = some b → base' ≤ b) (ho : ∀ b, own' b → own b) : RowsAt w base' own' e k v rows := by
  obtain ⟨xs, h1, h2, h3, h4⟩ := h
  exact ⟨xs, ownsRow_base h1 hb, h2, h3, fun i j r d x hi hj hx => (h4 i j r d x hi hj hx).less ho⟩

/-- Read as data, by whoever does not keep its block. -/
theorem RowsAt.rd {base e k : Nat} {own own' : Nat → Prop} {v : Value} {rows : List (List D)} (h : RowsAt w base own e k v rows) (ho : ∀ b, own' b → own b ∧ blk v ≠ some b) : Rd w own' v (.sl k rows) := by
  obtain ⟨xs, h1, h2, h3, h4⟩ := h
  rcases h1.2 with ⟨hv, hn⟩ | ⟨b, cap, cur, hv, hb, hh, hle, hcm, hsz, htk⟩
  · obtain rfl : rows = [] := List.eq_nil_of_length_eq_zero hn
    rw [hv]; exact .nil none 0 k
  · have hlt : b < w.heap.size := by
      rcases Nat.lt_or_ge b w.heap.size with h | h
      · exact h
      · rw [Array.getElem?_eq_none h] at hh; cases hh
    have hx : ∀ i j r d, rows[i]? = some r → r[j]? = some d → ∃ x, xs[i * k + j]? = some x ∧ w.cell? ((⟨b, 0, none⟩ : Addr).add (i * k + j)) = some x := by
      intro i j r d hi hj
      have hil := (List.getElem?_eq_some_iff.1 hi).1
      have hjl : j < k := by rw [← h3 r (List.mem_of_getElem? hi)]; exact (List.getElem?_eq_some_iff.1 hj).1
      have hlen : i * k + j < xs.length := by
        rw [h1.1]
        have h5 : (i + 1) * k ≤ rows.length * k := Nat.mul_le_mul_right _ hil
        rw [Nat.add_mul, Nat.one_mul] at h5
        omega
      exact ⟨xs[i * k + j], List.getElem?_eq_getElem hlen, h1.cells (g := b) (by rw [hv]; rfl) _ _ (List.getElem?_eq_getElem hlen)⟩
    have hblk : blk v = some b := by rw [hv]; rfl
    rw [hv]
    refine .sl ⟨b, 0, none⟩ cap k rows (fun i j => xs.getD (i * k + j) undef) (fun h0 => (ho b h0).2 hblk) hlt hle h3 (fun i j r d hi hj => ?_) (fun i j r d hi hj => ?_) fun i j r d hi hj => ?_
    · obtain ⟨x, h5, h6⟩ := hx i j r d hi hj
      rw [h6]; simp [List.getD, h5]
    · obtain ⟨x, h5, h6⟩ := hx i j r d hi hj
      simp only [List.getD, h5, Option.getD_some]
      exact h2 x (List.mem_of_getElem? h5)
    · obtain ⟨x, h5, h6⟩ := hx i j r d hi hj
      simp only [List.getD, h5, Option.getD_some]
      exact (h4 i j r d x hi hj h5).less fun b hb => (ho b hb).1
/-- One cell of it told as something else. -/
theorem RowsAt.at {base e k : Nat} {own : Nat → Prop} {v : Value} {rows : List (List D)} (h : RowsAt w base own e k v rows) {i j : Nat} {r : List D} {x0 : Value} {d' : D} (hi : rows[i]? = some r) (hj : r[j]? = some (.v x0)) (hd : Rd w own x0 d') :
    RowsAt w base own e k v (rows.set i (r.set j d')) := by
  obtain ⟨xs, h1, h2, h3, h4⟩ := h
  have hil := (List.getElem?_eq_some_iff.1 hi).1
  have hjl := (List.getElem?_eq_some_iff.1 hj).1
  refine ⟨xs, by simpa using h1, h2, fun r' hr' => ?_, fun i' j' r' z x hi' hj' hx => ?_⟩
  · rcases List.mem_or_eq_of_mem_set hr' with h | h
    · exact h3 r' h
    · subst h; simp; exact h3 r (List.mem_of_getElem? hi)
  · by_cases he : i = i'
    · subst he
      rw [List.getElem?_set_self hil] at hi'
      cases hi'
      by_cases hf : j = j'
      · subst hf
        rw [List.getElem?_set_self hjl] at hj'
        cases hj'
        have := h4 i j r (.v x0) x hi hj hx
        rw [rd_v this]; exact hd
      · rw [List.getElem?_set_ne hf] at hj'
        exact h4 i j' r z x hi hj' hx
    · rw [List.getElem?_set_ne he] at hi'
      exact h4 i' j' r' z x hi' hj' hx

/-! ### A function whose result is new -/
structure FnNew (P : Program) (f : FuncId) (args : List Arg) (e k : Nat) (rows : List (List D)) : Prop where
  run : ∃ fn, P.funcs[f]? = some fn ∧ (fn.name == "runtime.NumGoroutine") = false ∧ fn.body.isNone = false
  calls : ∀ (w : World) (own : Nat → Prop) (vs : List Value), ((∀ b, own b → b < w.heap.size) ∧ Gl P w) → ArgsOk w own vs args →
    Calls P f vs.toArray w fun r w' => ∃ v, r = .returned v ∧ Below w.heap.size w w' ∧ RowsAt w' w.heap.size (with1 own v) e k v rows

inductive RetNew (σ : St) (t e k : Nat) (rows : List (List D)) : Prop
  | own {id n : Nat} (h : get σ (.s t) = .av (.own id n)) (ho : get σ (.o id) = .ob (.arr e k rows)) (hn : n = rows.length)
  | nil (h : get σ (.s t) = .av (.d (.v nilS))) (hr : rows = [])
def newQ (t e k : Nat) (rows : List (List D)) : Exit → St → Prop
  | .normal, σ => RetNew σ t e k rows
  | .ret, σ => RetNew σ t e k rows
  | _, _ => False

theorem objRows (hs : SimG cx σ a w g nx) {id e k : Nat} {rows : List (List D)} (ho : get σ (.o id) = .ob (.arr e k rows)) : RowsAt w cx.w0.heap.size (cx.own g σ) e k (g id) rows := (hs.objs id _ ho).2.1
theorem RetNew.ok (hs : SimG cx σ a w g nx) {t e k : Nat} {rows : List (List D)} (h : RetNew σ t e k rows) : RowsAt w cx.w0.heap.size (with1 cx.own0 (a.tmps.getD t undef)) e k (a.tmps.getD t undef) rows := by
  cases h with
  | @own id n h ho hn =>
    have hv : a.tmps.getD t undef = g id := ((hs.slots t _ h).1.2 e k rows ho).2 hn
    rw [hv]
    refine (objRows hs ho).re (fun b hb => obj_ge hs ho hb) fun b hb => ?_
    rcases hb with hb | hb
    · exact .inl hb
    · exact .inr ⟨id, _, ho, hb⟩
  | nil h hr =>
    subst hr
    rw [rd_v (hs.slots t _ h).1]
    exact ⟨[], World.ownsRow_nil _ _ _ _, by simp, by simp, by simp⟩

theorem fnNew_of {P : Program} {T : Tbl} (hT : TOk P T) (hm : P.follows .mixedOrders = true) {f : FuncId} {fn : Func} {c : Code} {t e k : Nat} {args : List Arg} {rows : List (List D)}
    (hf : P.funcs[f]? = some fn) (hb : fn.body = some c) (hname : (fn.name == "runtime.NumGoroutine") = false) (hr : fn.results = #[.tmp t]) (hn : Nat.ble args.length fn.ntmps = true)
    (h : ∀ w0 own0, CW ⟨P, T, hT, hm, fn.ntmps, w0, own0⟩ c (newQ t e k rows) (argSt 0 args)) : FnNew P f args e k rows := by
  refine ⟨⟨fn, hf, hname, by rw [hb]; rfl⟩, fun w own vs hown ha => ?_⟩
  have hsim := entry_sim (P := P) (T := T) (hT := hT) (hm := hm) (n := fn.ntmps) hown ha (by simpa using hn)
  refine calls_of_wp hf hb (wp_mono (h w own _ _ hsim) fun x a' w' he => ?_)
  obtain ⟨σ', ⟨g, nx, hg⟩, hq⟩ := he
  have fin : ∀ hq : RetNew σ' t e k rows, a'.defers = [] ∧ ∃ v, (results fn a'.tmps).run P w' = .ok v w' ∧ ∃ v', Ending.returned v = .returned v' ∧ Below w.heap.size w w' ∧ RowsAt w' w.heap.size (with1 own v') e k v' rows := by
    intro hq
    exact ⟨hg.defers, _, by rw [results_one hr]; simp [rvRun], _, rfl, hg.below, hq.ok hg⟩
  cases x with
  | normal => exact fin hq
  | ret => exact fin hq
  | exit j => exact hq.elim
  | goto j => exact hq.elim
  | panic c => exact hq.elim
  | outgrown => exact hq.elim

/-- As data, too. -/
theorem FnNew.ok {P : Program} {f : FuncId} {args : List Arg} {e k : Nat} {rows : List (List D)} (h : FnNew P f args e k rows) : FnOk P f args (.one (.sl k rows)) := by
  refine ⟨h.run, fun w own vs hown ha => (h.calls w own vs hown ha).mono fun r w' hr => ?_⟩
  obtain ⟨v, rfl, h1, h2⟩ := hr
  exact ⟨v, rfl, h1, h2.rd fun b hb => ⟨.inl hb, fun he => by have := (h2.lt he).1; have := hown.1 b hb; omega⟩⟩

/-- A new object joins the state. -/
theorem SimG.join (hs : SimG cx σ a w g nx) (hb : Below w.heap.size w w') {v : Value} {o : Ob} {e k : Nat} {rows : List (List D)} (hr : RowsAt w' w.heap.size (with1 (cx.own g σ) v) e k v rows)
    (ho : o = .arr e k rows ∨ o = .pin e k rows v) : SimG cx (objSt σ (nx + 1) nx o) a w' (upd g nx v) (nx + 1) := by
  have hge := hs.below.size
  refine SimG.obj hs ⟨.inl ⟨rfl, rfl⟩, hb.mono hge, fun b hb' _ => hb.block b hb', fun b hb' => .inr (hr.lt hb').1⟩ (fun hl => ?_) (by rcases ho with rfl | rfl <;> trivial)
  have hre : RowsAt w' cx.w0.heap.size (cx.own (upd g nx v) (objSt σ (nx + 1) nx o)) e k (upd g nx v nx) rows := by
    rw [upd_same]
    refine hr.re (fun b hb' => by have := (hr.lt hb').1; omega) fun b hb' => ?_
    rcases hb' with h | ⟨id, o', h1, h2⟩
    · exact .inl (.inl h)
    · by_cases hid : id = nx
      · subst hid; rw [upd_same] at h2; exact .inr h2
      · rw [objSt_o hid] at h1
        rw [upd_ne hid] at h2
        exact .inl (.inr ⟨id, o', h1, h2⟩)
  rcases ho with rfl | rfl
  · exact hre
  · exact ⟨upd_same _ _ _, hre⟩

theorem call_run {P : Program} {f : FuncId} {xs : List Operand} {ats : Array TypeId} (hr : ∃ fn, P.funcs[f]? = some fn ∧ (fn.name == "runtime.NumGoroutine") = false ∧ fn.body.isNone = false) :
    (execOp a.eval ⟨some d, .call { callee := .value (.func f), args := ⟨xs⟩, argTypes := ats }, ty, pos, af, gd⟩).run P w = .ok (.enter f (xs.map a.eval).toArray) w := by
  obtain ⟨fn, h1, h2, h3⟩ := hr
  simp only [execOp, resolve, Deferred.ofValue, Act.eval, invoke, callFunc, Sem.run_bind, Sem.run_pure, Result.andThen_ok, run_program, h1, h2, h3, Bool.false_eq_true, if_false]
  simp

end Go.AX

/-! AxNews -/
/-
  Functions whose result is a struct of slices of the caller's own, and of data.
-/
namespace Go.AX
open Go.RowKit

variable {cx : Cx} {g : Nat → Value} {σ σ' : St} {a : Act} {w w' : World} {nx : Nat} {c : Code} {Q : Exit → St → Prop}
variable {ty : TypeId} {pos : String} {af : Array Edge} {gd : Option (Nat × Bool)} {d : Nat}

/-- What a cell of the result is: data, or a slice that is the caller's own. -/
inductive Part where
  | d (x : D)
  | own (e k : Nat) (rows : List (List D))
def withL (own : Nat → Prop) (ps : List Part) (cs : Array Value) : Nat → Prop := fun b => own b ∨ ∃ j e k rows, ps[j]? = some (.own e k rows) ∧ blk (cs.getD j undef) = some b

structure PartsAt (w : World) (base : Nat) (own : Nat → Prop) (ps : List Part) (cs : Array Value) : Prop where
  size : cs.size = ps.length
  one : ∀ (j : Nat) (c : Value), cs[j]? = some c → c.oneCell' = true
  data : ∀ j x, ps[j]? = some (.d x) → Rd w (withL own ps cs) (cs.getD j undef) x
  rows : ∀ j e k rows, ps[j]? = some (.own e k rows) → RowsAt w base (withL own ps cs) e k (cs.getD j undef) rows
  sep : ∀ j j' e k rows e' k' rows' b, ps[j]? = some (.own e k rows) → ps[j']? = some (.own e' k' rows') → blk (cs.getD j undef) = some b → blk (cs.getD j' undef) = some b → j = j'

structure FnNews (P : Program) (f : FuncId) (args : List Arg) (ps : List Part) : Prop where
  run : ∃ fn, P.funcs[f]? = some fn ∧ (fn.name == "runtime.NumGoroutine") = false ∧ fn.body.isNone = false
  calls : ∀ (w : World) (own : Nat → Prop) (vs : List Value), ((∀ b, own b → b < w.heap.size) ∧ Gl P w) → ArgsOk w own vs args →
    Calls P f vs.toArray w fun r w' => ∃ cs, r = .returned (.agg cs) ∧ Below w.heap.size w w' ∧ PartsAt w' w.heap.size own ps cs

/-- As the state has it, told as a part. -/
inductive PartE (σ : St) : AV → Part → Prop
  | d {x : D} : PartE σ (.d x) (.d x)
  | own {id n e k : Nat} {rows : List (List D)} (ho : get σ (.o id) = .ob (.arr e k rows)) (hn : n = rows.length) : PartE σ (.own id n) (.own e k rows)
def ids : List AV → List Nat
  | [] => []
  | .own id _ :: r => id :: ids r
  | _ :: r => ids r
inductive PartsL (σ : St) : List AV → List Part → Prop
  | nil : PartsL σ [] []
  | cons {av : AV} {p : Part} {avs : List AV} {ps : List Part} (h : PartE σ av p) (t : PartsL σ avs ps) : PartsL σ (av :: avs) (p :: ps)
theorem PartsL.at {avs : List AV} {ps : List Part} (h : PartsL σ avs ps) : avs.length = ps.length ∧ ∀ (j : Nat) (p : Part), ps[j]? = some p → ∃ av : AV, avs[j]? = some av ∧ PartE σ av p := by
  induction h with
  | nil => exact ⟨rfl, fun j p h => by simp at h⟩
  | cons h t ih =>
    refine ⟨by simp [ih.1], fun j p hj => ?_⟩
    cases j with
    | zero => simp at hj; subst hj; exact ⟨_, rfl, h⟩
    | succ j => simpa using ih.2 j p (by simpa using hj)
theorem ids_mem {id n : Nat} : ∀ {avs : List AV} {j : Nat}, avs[j]? = some (.own id n) → id ∈ ids avs
  | x :: avs, 0, h => by
    obtain rfl : x = .own id n := by simpa using h
    exact List.mem_cons_self ..
  | x :: avs, j + 1, h => by
    have := ids_mem (avs := avs) (j := j) (by simpa using h)
    cases x <;> simp [ids, this]
theorem ids_inj {id n m : Nat} : ∀ {avs : List AV} {i j : Nat}, (ids avs).Nodup → avs[i]? = some (.own id n) → avs[j]? = some (.own id m) → i = j
  | x :: avs, 0, 0, _, _, _ => rfl
  | x :: avs, 0, j + 1, h, hi, hj => by
    obtain rfl : x = .own id n := by simpa using hi
    simp only [ids, List.nodup_cons] at h
    exact absurd (ids_mem (by simpa using hj)) h.1
  | x :: avs, i + 1, 0, h, hi, hj => by
    obtain rfl : x = .own id m := by simpa using hj
    simp only [ids, List.nodup_cons] at h
    exact absurd (ids_mem (by simpa using hi)) h.1
  | x :: avs, i + 1, j + 1, h, hi, hj => by
    have h' : (ids avs).Nodup := by
      cases x <;> simp only [ids, List.nodup_cons] at h <;> first | exact h.2 | exact h
    exact congrArg (· + 1) (ids_inj (n := n) (m := m) h' (by simpa using hi) (by simpa using hj))
theorem parts_at (hs : SimG cx σ a w g nx) {avs : List AV} {ps : List Part} {v : Value} (hr : Rep cx g σ w v (.agg avs)) (hp : PartsL σ avs ps) (hn : (ids avs).Nodup) : ∃ cs, v = .agg cs ∧ PartsAt w cx.w0.heap.size cx.own0 ps cs := by
  obtain ⟨cs, h1, h2, h3, h4⟩ := hr
  obtain ⟨hl, hat⟩ := hp.at
  refine ⟨cs, h1, ?_⟩
  have hc : ∀ j p, ps[j]? = some p → ∃ av, avs[j]? = some av ∧ PartE σ av p ∧ Rep1 cx g σ w (cs.getD j undef) av := fun j p hj => by
    obtain ⟨av, h5, h6⟩ := hat j p hj
    have hlt : j < cs.size := by rw [h2]; exact (List.getElem?_eq_some_iff.1 h5).1
    have h7 : cs[j]? = some cs[j] := Array.getElem?_eq_getElem hlt
    refine ⟨av, h5, h6, ?_⟩
    rw [Array.getD_eq_getD_getElem?, h7]
    exact h4 j _ av h5 h7
  have hown : ∀ j e k rows, ps[j]? = some (.own e k rows) → ∃ id n, avs[j]? = some (.own id n) ∧ cs.getD j undef = g id ∧ get σ (.o id) = .ob (.arr e k rows) := fun j e k rows hj => by
    obtain ⟨av, h5, h6, h7⟩ := hc j _ hj
    cases h6 with
    | @own id n _ _ _ ho hn => exact ⟨id, n, h5, (h7.2 e k rows ho).2 hn, ho⟩
  have hle : ∀ b, withL cx.own0 ps cs b → cx.own g σ b := fun b hb => by
    rcases hb with hb | ⟨j, e, k, rows, hj, hb⟩
    · exact .inl hb
    · obtain ⟨id, n, _, h6, h7⟩ := hown j e k rows hj
      exact .inr ⟨id, _, h7, by rw [← h6]; exact hb⟩
  refine ⟨by rw [h2, hl], h3, fun j x hj => ?_, fun j e k rows hj => ?_, fun j j' e k rows e' k' rows' b hj hj' hb hb' => ?_⟩
  · obtain ⟨av, h5, h6, h7⟩ := hc j _ hj
    cases h6 with
    | d => exact Rd.less hle h7
  · obtain ⟨id, n, _, h6, h7⟩ := hown j e k rows hj
    rw [h6]
    exact (objRows hs h7).re (fun b hb => obj_ge hs h7 hb) hle
  · obtain ⟨id, n, h5, h6, h7⟩ := hown j e k rows hj
    obtain ⟨id', n', h5', h6', h7'⟩ := hown j' e' k' rows' hj'
    obtain rfl := hs.sep id id' _ _ b h7 h7' (by rw [← h6]; exact hb) (by rw [← h6']; exact hb')
    exact ids_inj hn h5 h5'
inductive RetNews (T : Tbl) (σ : St) (ps : List Part) : ResultVar → Prop
  | tmp {t : Nat} {avs : List AV} (h : get σ (.s t) = .av (.agg avs)) (hp : PartsL σ avs ps) (hn : (ids avs).Nodup) : RetNews T σ ps (.tmp t)
  | cell {s t id : Nat} {cells avs : List AV} {ti : TI} (h : get σ (.s s) = .av (.ptr id 0)) (ho : get σ (.o id) = .ob (.box cells)) (ht : tget T t = some ti)
      (hl : ldA ti cells = some (.agg avs)) (hp : PartsL σ avs ps) (hn : (ids avs).Nodup) : RetNews T σ ps (.cell s t)
theorem RetNews.ok (hs : SimG cx σ a w g nx) {rv : ResultVar} {ps : List Part} (h : RetNews cx.T σ ps rv) : ∃ cs, (rvRun a.tmps rv).run cx.P w = .ok (.agg cs) w ∧ PartsAt w cx.w0.heap.size cx.own0 ps cs := by
  cases h with
  | @tmp t avs h hp hn =>
    obtain ⟨cs, h1, h2⟩ := parts_at hs (hs.slots t _ h).1 hp hn
    exact ⟨cs, by rw [← h1]; rfl, h2⟩
  | @cell s t id cells avs ti h ho ht hl hp hn =>
    obtain ⟨v, h1, h2, _⟩ := load_ptr hs (x := a.tmps.getD s undef) (off := 0) (hs.slots s _ h).1 ho ht (by simpa using hl)
    obtain ⟨b, hg, hv⟩ := (hs.slots s _ h).1.2 cells ho
    obtain ⟨cs, rfl, h3⟩ := parts_at hs h2 hp hn
    refine ⟨cs, ?_, h3⟩
    rw [hv] at h1
    simp only [rvRun, hv, asAddr, Sem.run_bind, Sem.run_pure, Result.andThen_ok]
    simpa [Instr.loadAt, Instr.sureAddr] using h1
/-- As data, too. -/
def Part.dt : Part → D
  | .d x => x
  | .own _ k rows => .sl k rows
theorem FnNews.ok {P : Program} {f : FuncId} {args : List Arg} {ps : List Part} (h : FnNews P f args ps) : FnOk P f args (.one (.agg (ps.map Part.dt))) := by
  refine ⟨h.run, fun w own vs hown ha => (h.calls w own vs hown ha).mono fun r w' hr => ?_⟩
  obtain ⟨cs, rfl, h1, h2⟩ := hr
  refine ⟨.agg cs, rfl, h1, ?_⟩
  refine .agg cs _ (by rw [h2.size, List.length_map]) h2.one fun j x c hj hc => ?_
  rw [List.getElem?_map] at hj
  cases hp : ps[j]? with
  | none => rw [hp] at hj; cases hj
  | some p =>
    rw [hp] at hj
    simp at hj; subst hj
    have hcd : cs.getD j undef = c := by rw [Array.getD_eq_getD_getElem?, hc]; rfl
    cases p with
    | d x =>
      have := h2.data j x hp
      rw [hcd] at this
      exact this.less fun b hb => .inl hb
    | own e k rows =>
      have := h2.rows j e k rows hp
      rw [hcd] at this
      refine this.rd fun b hb => ⟨.inl hb, fun he => ?_⟩
      have := (this.lt he).1
      have := hown.1 b hb
      omega

/-! ### Called -/
end Go.AX

/-! AxApp -/
/-
  append onto nil.
-/
namespace Go.AX
open Go.RowKit

variable {cx : Cx} {g : Nat → Value} {σ : St} {a : Act} {w : World} {nx : Nat}
variable {ty : TypeId} {pos : String} {af : Array Edge} {gd : Option (Nat × Bool)} {d : Nat}

/-- A pointer to cells that stay is not nil. -/
theorem a_nilpd {x : Operand} {cells : List D} (hx : ev σ x = some (.pd cells)) (hd : Nat.blt d cx.n = true) :
    OA cx σ ⟨some d, .nilCheck x, ty, pos, af, gd⟩ ⟨rdOf x (.pd cells), [(.s d, .av (.pd cells))]⟩ :=
  ⟨ok_nilCheck_pd (lt_of_blt hd) (ev_out hx).1, (ev_out hx).2⟩

end Go.AX

/-! AxBld -/
/-
  Structs that are built of slices of ours, and of data.
-/
namespace Go.AX
open Go.RowKit

variable {cx : Cx} {g : Nat → Value} {σ : St} {a : Act} {w : World} {nx : Nat}
variable {ty : TypeId} {pos : String} {af : Array Edge} {gd : Option (Nat × Bool)} {d : Nat}

/-- A list of cells, and what is known of each. -/
def RdG (R : Value → AV → Prop) (cs : List Value) (ds : List AV) : Prop :=
  cs.length = ds.length ∧ (∀ c ∈ cs, Value.oneCell' c = true) ∧ ∀ (j : Nat) (c : Value) (x : AV), ds[j]? = some x → cs[j]? = some c → R c x

/-- The operands of a literal's parts. -/
inductive PartsV (σ : St) : List (Nat × Operand) → List (Nat × List AV) → List (Key × Val) → Prop
  | nil : PartsV σ [] [] []
  | cons {i : Nat} {x : Operand} {r : List (Nat × Operand)} {av : AV} {ds : List AV} {q : List (Nat × List AV)} {l lo : List (Key × Val)} (hx : ev σ x = some av) (hc : cellsOf av = some ds) (hl : nwRd av lo ∧ App σ lo) (hr : PartsV σ r q l) :
      PartsV σ ((i, x) :: r) ((i, ds) :: q) (rdOf x av ++ (lo ++ l))
/-- The same, of whatever state has what is read. -/
inductive PartsW : List (Nat × Operand) → List (Nat × List AV) → List (Key × Val) → Prop
  | nil : PartsW [] [] []
  | cons {i : Nat} {x : Operand} {r : List (Nat × Operand)} {av : AV} {ds : List AV} {q : List (Nat × List AV)} {l lo : List (Key × Val)} (hx : EvS x av) (hc : cellsOf av = some ds) (hl : nwRd av lo) (hr : PartsW r q l) :
      PartsW ((i, x) :: r) ((i, ds) :: q) (rdOf x av ++ (lo ++ l))
theorem PartsV.out {ps : List (Nat × Operand)} {qs : List (Nat × List AV)} {l : List (Key × Val)} (h : PartsV σ ps qs l) : PartsW ps qs l ∧ App σ l := by
  induction h with
  | nil => exact ⟨.nil, trivial⟩
  | cons hx hc hl hr ih => exact ⟨.cons (ev_out hx).1 hc hl.1 ih.1, (ev_out hx).2.append (hl.2.append ih.2)⟩
theorem PartsW.ok (hs : SimG cx σ a w g nx) {ps : List (Nat × Operand)} {qs : List (Nat × List AV)} {l : List (Key × Val)} (h : PartsW ps qs l) (ha : App σ l) :
    (ps.map fun p => (p.1, a.eval p.2)).length = qs.length ∧
    (∀ (j : Nat) (p : Nat × Value) (q : Nat × List AV), (ps.map fun p => (p.1, a.eval p.2))[j]? = some p → qs[j]? = some q → p.1 = q.1 ∧ RdG (Rep1 cx g σ w) p.2.cells.toList q.2) ∧
    ∀ q ∈ qs, ∀ av ∈ q.2, av.bd1 nx := by
  induction h with
  | nil => exact ⟨rfl, fun j p q h => by simp at h, by simp⟩
  | cons hx hc hl hr ih =>
    obtain ⟨h1, h2, h3⟩ := ih ha.right.right
    obtain ⟨hrep, hbd⟩ := hs.ev hx ha.left
    obtain ⟨c1, c2, c3, c4⟩ := cells_of hrep hbd hc (one_of hs hrep (newest_of hl ha.right.left))
    refine ⟨by simpa using h1, fun j p q hj hq => ?_, fun q hq => ?_⟩
    · cases j with
      | zero =>
        simp at hj hq
        subst hj hq
        refine ⟨rfl, by simpa using c1, fun c hc => ?_, fun j c x hx hc => c3 j c x hx (by simpa using hc)⟩
        obtain ⟨j, hj⟩ := List.getElem?_of_mem hc
        exact c2 j c (by simpa using hj)
      | succ j => exact h2 j p q (by simpa using hj) (by simpa using hq)
    · rcases List.mem_cons.1 hq with rfl | hq
      · exact c4
      · exact h3 q hq
end Go.AX

/-! AxStr -/
/-
  Parts of texts; errors against nil.
-/
namespace Go.AX
open Go.RowKit Go.RF

variable {cx : Cx} {g : Nat → Value} {σ : St} {a : Act} {w w' : World} {nx : Nat}
variable {ty : TypeId} {pos : String} {af : Array Edge} {gd : Option (Nat × Bool)} {d : Nat}

/-- No error, held against nil. -/
theorem a_noerr {t t' : TypeId} {x : Operand} {ms : Array (String × TypeId)} (hx : ev σ x = some (.d (.v .nilIface))) (ht : cx.P.underlying t = some (.interface ms)) (hd : Nat.blt d cx.n = true) :
    OA cx σ ⟨some d, .binOp .eql t x (.const .nilIface) t', ty, pos, af, gd⟩ ⟨rdOf x (.d (.v .nilIface)), [(.s d, .av (.d (.v (.bool true))))]⟩ := by
  refine ⟨ok_val rfl (lt_of_blt hd) fun σ1 a w g nx hs hr => ?_, (ev_out hx).2⟩
  have hv := rep_v (hs.ev (ev_out hx).1 hr).1
  refine ⟨.bool true, w, ?_, Below.refl _ _, Rd.v _, trivial⟩
  have h : ∀ d : Nat, (Op.equalIn (d + 1) t .nilIface .nilIface).run cx.P w = .ok true w := fun d => by
    simp [Op.equalIn, run_underlying ht]
  have hg : eqGuard .eql t x (.const .nilIface) .nilIface .nilIface = pure () := by cases x <;> rfl
  have hc : a.eval (.const .nilIface) = .nilIface := rfl
  simp [execOp, hv, hc, hg, binOp, Op.equal, Op.maxDepth, h 9999]

end Go.AX

/-! Tx -/
/-
  What the references' Parse computes of a text, on data.
-/
namespace Go.RF
open Go.AX

/-- A text parted at a text (not empty): what is behind the last one, so far, ahead of what is left. -/
def splitF (sep : Str) : Nat → Str → Str → List Str
  | 0, cur, r => [cur ++ r]
  | n + 1, cur, r =>
    if r.length < sep.length then [cur ++ r]
    else if r.take sep.length = sep then cur :: splitF sep n [] (r.drop sep.length)
    else match r with
      | [] => [cur]
      | c :: t => splitF sep n (cur ++ [c]) t
def split (s sep : Str) : List Str := splitF sep s.length [] s
theorem splitF_ne (sep : Str) : ∀ (n : Nat) (cur r : Str), splitF sep n cur r ≠ []
  | 0, cur, r => by simp [splitF]
  | n + 1, cur, r => by
    simp only [splitF]
    split
    · simp
    split
    · simp
    cases r with
    | nil => simp
    | cons c t => exact splitF_ne sep n _ _
def words : List Str := [[], [108, 111, 97, 100], [99, 111, 110, 115, 116], [97, 100, 100], [115, 117, 98], [109, 117, 108], [115, 116, 111, 114, 101], [100, 114, 111, 112], [115, 107, 105, 112], [102, 97, 105, 108]]
def kindGo (w : Str) : Nat → Int → List Str → Int
  | _, k, [] => k
  | n, k, x :: r => kindGo w (n + 1) (if 0 < n ∧ x = w then (n : Int) else k) r
def kindOf (w : Str) : Int := kindGo w 0 0 words
/-- A number, as it is written. -/
def numV (s : Str) : Option Int := match Lib.atoiAll s with
  | .ok v => if Lib.itoa v = s then some v else none
  | _ => none
def regV (s : Str) : Option Int := match s with
  | 114 :: r => numV r
  | _ => none
/-- The letters of a form, each with its word. -/
def fillI : Ins → Str → List Str → Option Ins
  | i, [], _ => some i
  | i, _ :: _, [] => some i
  | i, c :: f, w :: ws =>
    if c = 107 then fillI { i with key := w } f ws
    else if c = 110 then match numV w with
      | some n => fillI { i with n := n } f ws
      | none => none
    else match regV w with
      | some x => if c = 114 then fillI { i with a := x } f ws else fillI { i with b := x } f ws
      | none => none
end Go.RF

/-! Tb -/
/-
  The table of the program's types, as the program has them.
-/
namespace Go.Proofs.YtfaaghkgfbhglaaDoor
open Go.AX

def tbl : Tbl := [
  (1, ⟨1, 8, [.nilFunc], .one⟩),
  (2, ⟨1, 8, [.int .i64 0], .int .i64⟩),
  (3, ⟨1, 8, [.int .i64 0], .int .i64⟩),
  (4, ⟨1, 1, [.bool false], .bool⟩),
  (5, ⟨1, 1, [.int .u8 0], .int .u8⟩),
  (9, ⟨1, 16, [.string ⟨#[]⟩], .str⟩),
  (12, ⟨1, 8, [.int .u64 0], .int .u64⟩),
  (13, ⟨2, 24, [.string ⟨#[]⟩, .int .u64 0], .st [(0, 1), (1, 1)]⟩),
  (21, ⟨1, 4, [.int .i32 0], .int .i32⟩),
  (22, ⟨1, 24, [.slice none 0 0], .sl 9 1⟩),
  (23, ⟨1, 24, [.slice none 0 0], .sl 35 5⟩),
  (24, ⟨3, 72, [.slice none 0 0, .slice none 0 0, .slice none 0 0], .st [(0, 1), (1, 1), (2, 1)]⟩),
  (25, ⟨3, 72, [.slice none 0 0, .slice none 0 0, .slice none 0 0], .st [(0, 1), (1, 1), (2, 1)]⟩),
  (26, ⟨1, 8, [.nilFunc], .one⟩),
  (27, ⟨1, 8, [.int .i64 0], .int .i64⟩),
  (28, ⟨1, 8, [.nilFunc], .one⟩),
  (29, ⟨1, 8, [.nilFunc], .one⟩),
  (31, ⟨1, 8, [.nilFunc], .one⟩),
  (32, ⟨1, 8, [.nilFunc], .one⟩),
  (33, ⟨1, 8, [.nilFunc], .one⟩),
  (34, ⟨5, 48, [.int .i64 0, .int .i64 0, .int .i64 0, .int .i64 0, .string ⟨#[]⟩], .st [(0, 1), (1, 1), (2, 1), (3, 1), (4, 1)]⟩),
  (35, ⟨5, 48, [.int .i64 0, .int .i64 0, .int .i64 0, .int .i64 0, .string ⟨#[]⟩], .st [(0, 1), (1, 1), (2, 1), (3, 1), (4, 1)]⟩),
  (36, ⟨1, 24, [.slice none 0 0], .sl 22 1⟩),
  (37, ⟨1, 8, [.nilFunc], .one⟩),
  (38, ⟨1, 8, [.nilFunc], .one⟩),
  (39, ⟨1, 8, [.nilFunc], .one⟩),
  (40, ⟨1, 8, [.nilFunc], .one⟩),
  (41, ⟨1, 8, [.nilFunc], .one⟩),
  (42, ⟨1, 8, [.nilFunc], .one⟩),
  (43, ⟨1, 8, [.nilFunc], .one⟩),
  (45, ⟨1, 8, [.nilFunc], .one⟩),
  (46, ⟨1, 8, [.nilFunc], .one⟩),
  (47, ⟨1, 8, [.nilFunc], .one⟩),
  (48, ⟨1, 8, [.pointer none], .one⟩),
  (49, ⟨1, 24, [.slice none 0 0], .sl 5 1⟩),
  (50, ⟨2, 32, [.pointer none, .slice none 0 0], .st [(0, 1), (1, 1)]⟩),
  (51, ⟨2, 32, [.pointer none, .slice none 0 0], .st [(0, 1), (1, 1)]⟩),
  (52, ⟨1, 8, [.nilFunc], .one⟩),
  (56, ⟨1, 8, [.nilFunc], .one⟩),
  (57, ⟨1, 8, [.nilFunc], .one⟩),
  (58, ⟨1, 8, [.nilFunc], .one⟩),
  (59, ⟨1, 8, [.nilFunc], .one⟩),
  (61, ⟨1, 8, [.nilFunc], .one⟩),
  (63, ⟨1, 8, [.nilFunc], .one⟩),
  (64, ⟨1, 8, [.nilFunc], .one⟩),
  (65, ⟨1, 8, [.nilFunc], .one⟩),
  (66, ⟨1, 8, [.pointer none], .one⟩),
  (67, ⟨1, 8, [.nilFunc], .one⟩),
  (68, ⟨1, 8, [.nilFunc], .one⟩),
  (69, ⟨1, 8, [.pointer none], .one⟩),
  (70, ⟨1, 8, [.nilFunc], .one⟩),
  (71, ⟨1, 8, [.nilFunc], .one⟩),
  (72, ⟨1, 8, [.nilFunc], .one⟩),
  (73, ⟨1, 8, [.nilFunc], .one⟩),
  (75, ⟨1, 8, [.nilFunc], .one⟩),
  (76, ⟨1, 8, [.nilFunc], .one⟩),
  (77, ⟨24, 24, [.int .u8 0, .int .u8 0, .int .u8 0, .int .u8 0, .int .u8 0, .int .u8 0, .int .u8 0, .int .u8 0, .int .u8 0, .int .u8 0, .int .u8 0, .int .u8 0, .int .u8 0, .int .u8 0, .int .u8 0, .int .u8 0, .int .u8 0, .int .u8 0, .int .u8 0, .int .u8 0, .int .u8 0, .int .u8 0, .int .u8 0, .int .u8 0], .arr 24 5 1⟩),
  (78, ⟨1, 8, [.int .u64 0], .int .u64⟩),
  (79, ⟨1, 8, [.nilFunc], .one⟩),
  (80, ⟨1, 8, [.nilFunc], .one⟩),
  (82, ⟨1, 8, [.nilFunc], .one⟩),
  (83, ⟨1, 8, [.nilFunc], .one⟩),
  (85, ⟨1, 8, [.nilFunc], .one⟩),
  (86, ⟨1, 8, [.nilFunc], .one⟩),
  (87, ⟨1, 8, [.nilFunc], .one⟩),
  (88, ⟨1, 8, [.nilFunc], .one⟩),
  (89, ⟨1, 8, [.nilFunc], .one⟩),
  (90, ⟨1, 8, [.nilFunc], .one⟩),
  (91, ⟨20, 160, [.int .u64 0, .int .u64 0, .int .u64 0, .int .u64 0, .int .u64 0, .int .u64 0, .int .u64 0, .int .u64 0, .int .u64 0, .int .u64 0, .int .u64 0, .int .u64 0, .int .u64 0, .int .u64 0, .int .u64 0, .int .u64 0, .int .u64 0, .int .u64 0, .int .u64 0, .int .u64 0], .arr 20 78 1⟩),
  (92, ⟨1, 4, [.int .u32 0], .int .u32⟩),
  (93, ⟨65, 65, [.int .u8 0, .int .u8 0, .int .u8 0, .int .u8 0, .int .u8 0, .int .u8 0, .int .u8 0, .int .u8 0, .int .u8 0, .int .u8 0, .int .u8 0, .int .u8 0, .int .u8 0, .int .u8 0, .int .u8 0, .int .u8 0, .int .u8 0, .int .u8 0, .int .u8 0, .int .u8 0, .int .u8 0, .int .u8 0, .int .u8 0, .int .u8 0, .int .u8 0, .int .u8 0, .int .u8 0, .int .u8 0, .int .u8 0, .int .u8 0, .int .u8 0, .int .u8 0, .int .u8 0, .int .u8 0, .int .u8 0, .int .u8 0, .int .u8 0, .int .u8 0, .int .u8 0, .int .u8 0, .int .u8 0, .int .u8 0, .int .u8 0, .int .u8 0, .int .u8 0, .int .u8 0, .int .u8 0, .int .u8 0, .int .u8 0, .int .u8 0, .int .u8 0, .int .u8 0, .int .u8 0, .int .u8 0, .int .u8 0, .int .u8 0, .int .u8 0, .int .u8 0, .int .u8 0, .int .u8 0, .int .u8 0, .int .u8 0, .int .u8 0, .int .u8 0, .int .u8 0], .arr 65 5 1⟩),
  (94, ⟨1, 8, [.nilFunc], .one⟩),
  (95, ⟨1, 8, [.int .u64 0], .int .u64⟩),
  (96, ⟨1, 8, [.nilFunc], .one⟩),
  (97, ⟨1, 8, [.int .i64 0], .int .i64⟩),
  (99, ⟨1, 8, [.nilFunc], .one⟩),
  (100, ⟨1, 8, [.pointer none], .one⟩),
  (101, ⟨1, 8, [.nilFunc], .one⟩),
  (102, ⟨1, 8, [.nilFunc], .one⟩),
  (103, ⟨1, 8, [.nilFunc], .one⟩),
  (104, ⟨256, 256, [.bool false, .bool false, .bool false, .bool false, .bool false, .bool false, .bool false, .bool false, .bool false, .bool false, .bool false, .bool false, .bool false, .bool false, .bool false, .bool false, .bool false, .bool false, .bool false, .bool false, .bool false, .bool false, .bool false, .bool false, .bool false, .bool false, .bool false, .bool false, .bool false, .bool false, .bool false, .bool false, .bool false, .bool false, .bool false, .bool false, .bool false, .bool false, .bool false, .bool false, .bool false, .bool false, .bool false, .bool false, .bool false, .bool false, .bool false, .bool false, .bool false, .bool false, .bool false, .bool false, .bool false, .bool false, .bool false, .bool false, .bool false, .bool false, .bool false, .bool false, .bool false, .bool false, .bool false, .bool false, .bool false, .bool false, .bool false, .bool false, .bool false, .bool false, .bool false, .bool false, .bool false, .bool false, .bool false, .bool false, .bool false, .bool false, .bool false, .bool false, .bool false, .bool false, .bool false, .bool false, .bool false, .bool false, .bool false, .bool false, .bool false, .bool false, .bool false, .bool false, .bool false, .bool false, .bool false, .bool false, .bool false, .bool false, .bool false, .bool false, .bool false, .bool false, .bool false, .bool false, .bool false, .bool false, .bool false, .bool false, .bool false, .bool false, .bool false, .bool false, .bool false, .bool false, .bool false, .bool false, .bool false, .bool false, .bool false, .bool false, .bool false, .bool false, .bool false, .bool false, .bool false, .bool false, .bool false, .bool false, .bool false, .bool false, .bool false, .bool false, .bool false, .bool false, .bool false, .bool false, .bool false, .bool false, .bool false, .bool false, .bool false, .bool false, .bool false, .bool false, .bool false, .bool false, .bool false, .bool false, .bool false, .bool false, .bool false, .bool false, .bool false, .bool false, .bool false, .bool false, .bool false, .bool false, .bool false, .bool false, .bool false, .bool false, .bool false, .bool false, .bool false, .bool false, .bool false, .bool false, .bool false, .bool false, .bool false, .bool false, .bool false, .bool false, .bool false, .bool false, .bool false, .bool false, .bool false, .bool false, .bool false, .bool false, .bool false, .bool false, .bool false, .bool false, .bool false, .bool false, .bool false, .bool false, .bool false, .bool false, .bool false, .bool false, .bool false, .bool false, .bool false, .bool false, .bool false, .bool false, .bool false, .bool false, .bool false, .bool false, .bool false, .bool false, .bool false, .bool false, .bool false, .bool false, .bool false, .bool false, .bool false, .bool false, .bool false, .bool false, .bool false, .bool false, .bool false, .bool false, .bool false, .bool false, .bool false, .bool false, .bool false, .bool false, .bool false, .bool false, .bool false, .bool false, .bool false, .bool false, .bool false, .bool false, .bool false, .bool false, .bool false, .bool false, .bool false, .bool false, .bool false, .bool false, .bool false, .bool false, .bool false, .bool false, .bool false, .bool false, .bool false, .bool false, .bool false, .bool false, .bool false, .bool false, .bool false, .bool false], .arr 256 4 1⟩),
  (105, ⟨256, 256, [.bool false, .bool false, .bool false, .bool false, .bool false, .bool false, .bool false, .bool false, .bool false, .bool false, .bool false, .bool false, .bool false, .bool false, .bool false, .bool false, .bool false, .bool false, .bool false, .bool false, .bool false, .bool false, .bool false, .bool false, .bool false, .bool false, .bool false, .bool false, .bool false, .bool false, .bool false, .bool false, .bool false, .bool false, .bool false, .bool false, .bool false, .bool false, .bool false, .bool false, .bool false, .bool false, .bool false, .bool false, .bool false, .bool false, .bool false, .bool false, .bool false, .bool false, .bool false, .bool false, .bool false, .bool false, .bool false, .bool false, .bool false, .bool false, .bool false, .bool false, .bool false, .bool false, .bool false, .bool false, .bool false, .bool false, .bool false, .bool false, .bool false, .bool false, .bool false, .bool false, .bool false, .bool false, .bool false, .bool false, .bool false, .bool false, .bool false, .bool false, .bool false, .bool false, .bool false, .bool false, .bool false, .bool false, .bool false, .bool false, .bool false, .bool false, .bool false, .bool false, .bool false, .bool false, .bool false, .bool false, .bool false, .bool false, .bool false, .bool false, .bool false, .bool false, .bool false, .bool false, .bool false, .bool false, .bool false, .bool false, .bool false, .bool false, .bool false, .bool false, .bool false, .bool false, .bool false, .bool false, .bool false, .bool false, .bool false, .bool false, .bool false, .bool false, .bool false, .bool false, .bool false, .bool false, .bool false, .bool false, .bool false, .bool false, .bool false, .bool false, .bool false, .bool false, .bool false, .bool false, .bool false, .bool false, .bool false, .bool false, .bool false, .bool false, .bool false, .bool false, .bool false, .bool false, .bool false, .bool false, .bool false, .bool false, .bool false, .bool false, .bool false, .bool false, .bool false, .bool false, .bool false, .bool false, .bool false, .bool false, .bool false, .bool false, .bool false, .bool false, .bool false, .bool false, .bool false, .bool false, .bool false, .bool false, .bool false, .bool false, .bool false, .bool false, .bool false, .bool false, .bool false, .bool false, .bool false, .bool false, .bool false, .bool false, .bool false, .bool false, .bool false, .bool false, .bool false, .bool false, .bool false, .bool false, .bool false, .bool false, .bool false, .bool false, .bool false, .bool false, .bool false, .bool false, .bool false, .bool false, .bool false, .bool false, .bool false, .bool false, .bool false, .bool false, .bool false, .bool false, .bool false, .bool false, .bool false, .bool false, .bool false, .bool false, .bool false, .bool false, .bool false, .bool false, .bool false, .bool false, .bool false, .bool false, .bool false, .bool false, .bool false, .bool false, .bool false, .bool false, .bool false, .bool false, .bool false, .bool false, .bool false, .bool false, .bool false, .bool false, .bool false, .bool false, .bool false, .bool false, .bool false, .bool false, .bool false, .bool false, .bool false, .bool false, .bool false, .bool false, .bool false, .bool false, .bool false, .bool false, .bool false, .bool false, .bool false, .bool false], .arr 256 4 1⟩),
  (107, ⟨1, 8, [.nilFunc], .one⟩),
  (108, ⟨1, 8, [.nilFunc], .one⟩),
  (109, ⟨1, 8, [.pointer none], .one⟩),
  (110, ⟨1, 8, [.nilFunc], .one⟩),
  (111, ⟨256, 256, [.int .u8 0, .int .u8 0, .int .u8 0, .int .u8 0, .int .u8 0, .int .u8 0, .int .u8 0, .int .u8 0, .int .u8 0, .int .u8 0, .int .u8 0, .int .u8 0, .int .u8 0, .int .u8 0, .int .u8 0, .int .u8 0, .int .u8 0, .int .u8 0, .int .u8 0, .int .u8 0, .int .u8 0, .int .u8 0, .int .u8 0, .int .u8 0, .int .u8 0, .int .u8 0, .int .u8 0, .int .u8 0, .int .u8 0, .int .u8 0, .int .u8 0, .int .u8 0, .int .u8 0, .int .u8 0, .int .u8 0, .int .u8 0, .int .u8 0, .int .u8 0, .int .u8 0, .int .u8 0, .int .u8 0, .int .u8 0, .int .u8 0, .int .u8 0, .int .u8 0, .int .u8 0, .int .u8 0, .int .u8 0, .int .u8 0, .int .u8 0, .int .u8 0, .int .u8 0, .int .u8 0, .int .u8 0, .int .u8 0, .int .u8 0, .int .u8 0, .int .u8 0, .int .u8 0, .int .u8 0, .int .u8 0, .int .u8 0, .int .u8 0, .int .u8 0, .int .u8 0, .int .u8 0, .int .u8 0, .int .u8 0, .int .u8 0, .int .u8 0, .int .u8 0, .int .u8 0, .int .u8 0, .int .u8 0, .int .u8 0, .int .u8 0, .int .u8 0, .int .u8 0, .int .u8 0, .int .u8 0, .int .u8 0, .int .u8 0, .int .u8 0, .int .u8 0, .int .u8 0, .int .u8 0, .int .u8 0, .int .u8 0, .int .u8 0, .int .u8 0, .int .u8 0, .int .u8 0, .int .u8 0, .int .u8 0, .int .u8 0, .int .u8 0, .int .u8 0, .int .u8 0, .int .u8 0, .int .u8 0, .int .u8 0, .int .u8 0, .int .u8 0, .int .u8 0, .int .u8 0, .int .u8 0, .int .u8 0, .int .u8 0, .int .u8 0, .int .u8 0, .int .u8 0, .int .u8 0, .int .u8 0, .int .u8 0, .int .u8 0, .int .u8 0, .int .u8 0, .int .u8 0, .int .u8 0, .int .u8 0, .int .u8 0, .int .u8 0, .int .u8 0, .int .u8 0, .int .u8 0, .int .u8 0, .int .u8 0, .int .u8 0, .int .u8 0, .int .u8 0, .int .u8 0, .int .u8 0, .int .u8 0, .int .u8 0, .int .u8 0, .int .u8 0, .int .u8 0, .int .u8 0, .int .u8 0, .int .u8 0, .int .u8 0, .int .u8 0, .int .u8 0, .int .u8 0, .int .u8 0, .int .u8 0, .int .u8 0, .int .u8 0, .int .u8 0, .int .u8 0, .int .u8 0, .int .u8 0, .int .u8 0, .int .u8 0, .int .u8 0, .int .u8 0, .int .u8 0, .int .u8 0, .int .u8 0, .int .u8 0, .int .u8 0, .int .u8 0, .int .u8 0, .int .u8 0, .int .u8 0, .int .u8 0, .int .u8 0, .int .u8 0, .int .u8 0, .int .u8 0, .int .u8 0, .int .u8 0, .int .u8 0, .int .u8 0, .int .u8 0, .int .u8 0, .int .u8 0, .int .u8 0, .int .u8 0, .int .u8 0, .int .u8 0, .int .u8 0, .int .u8 0, .int .u8 0, .int .u8 0, .int .u8 0, .int .u8 0, .int .u8 0, .int .u8 0, .int .u8 0, .int .u8 0, .int .u8 0, .int .u8 0, .int .u8 0, .int .u8 0, .int .u8 0, .int .u8 0, .int .u8 0, .int .u8 0, .int .u8 0, .int .u8 0, .int .u8 0, .int .u8 0, .int .u8 0, .int .u8 0, .int .u8 0, .int .u8 0, .int .u8 0, .int .u8 0, .int .u8 0, .int .u8 0, .int .u8 0, .int .u8 0, .int .u8 0, .int .u8 0, .int .u8 0, .int .u8 0, .int .u8 0, .int .u8 0, .int .u8 0, .int .u8 0, .int .u8 0, .int .u8 0, .int .u8 0, .int .u8 0, .int .u8 0, .int .u8 0, .int .u8 0, .int .u8 0, .int .u8 0, .int .u8 0, .int .u8 0, .int .u8 0, .int .u8 0, .int .u8 0, .int .u8 0, .int .u8 0, .int .u8 0, .int .u8 0, .int .u8 0, .int .u8 0, .int .u8 0, .int .u8 0, .int .u8 0, .int .u8 0, .int .u8 0, .int .u8 0, .int .u8 0, .int .u8 0, .int .u8 0, .int .u8 0, .int .u8 0, .int .u8 0, .int .u8 0, .int .u8 0, .int .u8 0], .arr 256 5 1⟩),
  (112, ⟨2, 2, [.int .u8 0, .int .u8 0], .st [(0, 1), (1, 1)]⟩),
  (113, ⟨2, 2, [.int .u8 0, .int .u8 0], .st [(0, 1), (1, 1)]⟩),
  (114, ⟨32, 32, [.int .u8 0, .int .u8 0, .int .u8 0, .int .u8 0, .int .u8 0, .int .u8 0, .int .u8 0, .int .u8 0, .int .u8 0, .int .u8 0, .int .u8 0, .int .u8 0, .int .u8 0, .int .u8 0, .int .u8 0, .int .u8 0, .int .u8 0, .int .u8 0, .int .u8 0, .int .u8 0, .int .u8 0, .int .u8 0, .int .u8 0, .int .u8 0, .int .u8 0, .int .u8 0, .int .u8 0, .int .u8 0, .int .u8 0, .int .u8 0, .int .u8 0, .int .u8 0], .arr 16 113 2⟩),
  (116, ⟨1, 8, [.nilFunc], .one⟩),
  (118, ⟨1, 8, [.nilFunc], .one⟩),
  (119, ⟨1, 8, [.nilFunc], .one⟩),
  (120, ⟨3, 48, [.string ⟨#[]⟩, .string ⟨#[]⟩, .nilIface], .st [(0, 1), (1, 1), (2, 1)]⟩),
  (121, ⟨3, 48, [.string ⟨#[]⟩, .string ⟨#[]⟩, .nilIface], .st [(0, 1), (1, 1), (2, 1)]⟩),
  (122, ⟨1, 8, [.nilFunc], .one⟩),
  (123, ⟨1, 8, [.nilFunc], .one⟩),
  (124, ⟨1, 8, [.nilFunc], .one⟩),
  (125, ⟨32, 32, [.int .u8 0, .int .u8 0, .int .u8 0, .int .u8 0, .int .u8 0, .int .u8 0, .int .u8 0, .int .u8 0, .int .u8 0, .int .u8 0, .int .u8 0, .int .u8 0, .int .u8 0, .int .u8 0, .int .u8 0, .int .u8 0, .int .u8 0, .int .u8 0, .int .u8 0, .int .u8 0, .int .u8 0, .int .u8 0, .int .u8 0, .int .u8 0, .int .u8 0, .int .u8 0, .int .u8 0, .int .u8 0, .int .u8 0, .int .u8 0, .int .u8 0, .int .u8 0], .arr 32 5 1⟩),
  (126, ⟨64, 64, [.int .u8 0, .int .u8 0, .int .u8 0, .int .u8 0, .int .u8 0, .int .u8 0, .int .u8 0, .int .u8 0, .int .u8 0, .int .u8 0, .int .u8 0, .int .u8 0, .int .u8 0, .int .u8 0, .int .u8 0, .int .u8 0, .int .u8 0, .int .u8 0, .int .u8 0, .int .u8 0, .int .u8 0, .int .u8 0, .int .u8 0, .int .u8 0, .int .u8 0, .int .u8 0, .int .u8 0, .int .u8 0, .int .u8 0, .int .u8 0, .int .u8 0, .int .u8 0, .int .u8 0, .int .u8 0, .int .u8 0, .int .u8 0, .int .u8 0, .int .u8 0, .int .u8 0, .int .u8 0, .int .u8 0, .int .u8 0, .int .u8 0, .int .u8 0, .int .u8 0, .int .u8 0, .int .u8 0, .int .u8 0, .int .u8 0, .int .u8 0, .int .u8 0, .int .u8 0, .int .u8 0, .int .u8 0, .int .u8 0, .int .u8 0, .int .u8 0, .int .u8 0, .int .u8 0, .int .u8 0, .int .u8 0, .int .u8 0, .int .u8 0, .int .u8 0], .arr 64 5 1⟩),
  (127, ⟨1, 8, [.nilFunc], .one⟩),
  (128, ⟨1, 8, [.pointer none], .one⟩),
  (129, ⟨1, 16, [.string ⟨#[]⟩], .st [(0, 1)]⟩),
  (130, ⟨1, 16, [.string ⟨#[]⟩], .st [(0, 1)]⟩),
  (131, ⟨1, 8, [.nilFunc], .one⟩),
  (132, ⟨1, 8, [.nilFunc], .one⟩),
  (138, ⟨1, 8, [.nilFunc], .one⟩),
  (141, ⟨1, 8, [.nilFunc], .one⟩)]

theorem tbl_b : tblB Go.Proofs.Tryd.prog tbl = true := by kernel_rfl
theorem tbl_ok : TOk Go.Proofs.Tryd.prog tbl := tok_of tbl_b
theorem mixed_ok : Go.Proofs.Tryd.prog.follows .mixedOrders = true := by kernel_rfl

end Go.Proofs.YtfaaghkgfbhglaaDoor

/-! F2 -/
/-
  Contracts of the references' functions on rows.
-/
namespace Go.Proofs.YtfaaghkgfbhglaaDoor
open Go.AX Go.RF

set_option maxRecDepth 100000

theorem ok_in (l : List Str) (k : Str) (hl : l.length ≤ 1073741824) : FnOk Tryd.prog 10 [.d (encStrs l), .d (dstr k)] (.one (dbool (isIn l k))) := by
  refine fnOk_of tbl_ok mixed_ok Tryd.func10 rfl (by kernel_rfl) rfl rfl fun w0 own0 => ?_
  repeat (first|((with_reducible apply s1); exact rfl)|(with_reducible first|apply CW.seq|apply CW.block|apply CW.region|apply CW.draw|apply CW.skip|apply CW.exit|apply CW.ret|apply q_then|apply q_then_exit|apply q_then_ret|apply q_block|apply q_block_ret|apply q_block_hit|apply q_ret|apply q_end|apply q_loop_exit|apply q_loop_ret|apply q_loopT_exit|apply q_loopT_ret|apply RW.nil)|((with_reducible apply s3); exact rfl; exact by_k)|((with_reducible apply s2); exact rfl; exact by_k)|((with_reducible apply s4); exact rfl)|((with_reducible apply s5); exact by_oa; exact by_g)|((with_reducible apply CW.cond_t); exact rfl; exact by_ks)|((with_reducible apply CW.cond_f); exact rfl; exact by_ks)|((with_reducible apply q_block_miss); exact rfl)|(refine And.intro (show chk [] [] _ _ = true by kernel_rfl) ?_))
  refine CW.loopT (fun i : Nat => [(.s 1, .av (.d (dstr k))), (.s 7, .av (.d (encStrs l))), (.s 8, .av (.d (dint l.length))), (.s 9, .av (.d (dint i))), (.nx, .num 0)]) (fun i => i ≤ l.length ∧ isIn (l.drop i) k = isIn l k) (fun i => l.length - i) 0 ⟨by omega, rfl⟩ ?_ fun i hI => ?_
  ·
    exact by_less
  · obtain ⟨hi, hI⟩ := hI
    rcases drop_case hi with ⟨h1, h2⟩ | ⟨p, h1, h2, h3⟩
    ·
      repeat (first|((with_reducible apply s1); exact rfl)|(with_reducible first|apply CW.seq|apply CW.block|apply CW.region|apply CW.draw|apply CW.skip|apply CW.exit|apply CW.ret|apply q_then|apply q_then_exit|apply q_then_ret|apply q_block|apply q_block_ret|apply q_block_hit|apply q_ret|apply q_end|apply q_loop_exit|apply q_loop_ret|apply q_loopT_exit|apply q_loopT_ret|apply RW.nil)|((with_reducible apply s3); exact rfl; exact by_k)|((with_reducible apply s2); exact rfl; exact by_k)|((with_reducible apply s4); exact rfl)|((with_reducible apply s5); exact by_oa; exact by_g)|((with_reducible apply CW.cond_t); exact rfl; exact by_ks)|((with_reducible apply CW.cond_f); exact rfl; exact by_ks)|((with_reducible apply q_block_miss); exact rfl)|(refine And.intro (show chk [] [] _ _ = true by kernel_rfl) ?_))
      rw [h1] at hI
      rw [← hI]
      exact .one (.tmp rfl (.one (.d (.refl _))))
    · rw [h1] at hI
      simp only [isIn] at hI
      by_cases h4 : p = k
      ·
        repeat (first|((with_reducible apply s1); exact rfl)|(with_reducible first|apply CW.seq|apply CW.block|apply CW.region|apply CW.draw|apply CW.skip|apply CW.exit|apply CW.ret|apply q_then|apply q_then_exit|apply q_then_ret|apply q_block|apply q_block_ret|apply q_block_hit|apply q_ret|apply q_end|apply q_loop_exit|apply q_loop_ret|apply q_loopT_exit|apply q_loopT_ret|apply RW.nil)|((with_reducible apply s3); exact rfl; exact by_k)|((with_reducible apply s2); exact rfl; exact by_k)|((with_reducible apply s4); exact rfl)|((with_reducible apply s5); exact by_oa; exact by_g)|((with_reducible apply CW.cond_t); exact rfl; exact by_ks)|((with_reducible apply CW.cond_f); exact rfl; exact by_ks)|((with_reducible apply q_block_miss); exact rfl)|(refine And.intro (show chk [] [] _ _ = true by kernel_rfl) ?_))
        rw [if_pos h4] at hI
        rw [← hI]
        exact .one (.tmp rfl (.one (.d (.refl _))))
      ·
        repeat (first|((with_reducible apply s1); exact rfl)|(with_reducible first|apply CW.seq|apply CW.block|apply CW.region|apply CW.draw|apply CW.skip|apply CW.exit|apply CW.ret|apply q_then|apply q_then_exit|apply q_then_ret|apply q_block|apply q_block_ret|apply q_block_hit|apply q_ret|apply q_end|apply q_loop_exit|apply q_loop_ret|apply q_loopT_exit|apply q_loopT_ret|apply RW.nil)|((with_reducible apply s3); exact rfl; exact by_k)|((with_reducible apply s2); exact rfl; exact by_k)|((with_reducible apply s4); exact rfl)|((with_reducible apply s5); exact by_oa; exact by_g)|((with_reducible apply CW.cond_t); exact rfl; exact by_ks)|((with_reducible apply CW.cond_f); exact rfl; exact by_ks)|((with_reducible apply q_block_miss); exact rfl)|(refine And.intro (show chk [] [] _ _ = true by kernel_rfl) ?_))
        rw [if_neg h4] at hI
        refine q_loopT (i + 1) ⟨by omega, hI⟩ (by omega) ?_
        exact by_less

theorem ok_key (s : Str) (hl : s.length ≤ 1073741824) : FnOk Tryd.prog 9 [.d (dstr s)] (.one (dbool (key s))) := by
  refine fnOk_of tbl_ok mixed_ok Tryd.func9 rfl (by kernel_rfl) rfl rfl fun w0 own0 => ?_
  repeat (first|((with_reducible apply s1); exact rfl)|(with_reducible first|apply CW.seq|apply CW.block|apply CW.region|apply CW.draw|apply CW.skip|apply CW.exit|apply CW.ret|apply q_then|apply q_then_exit|apply q_then_ret|apply q_block|apply q_block_ret|apply q_block_hit|apply q_ret|apply q_end|apply q_loop_exit|apply q_loop_ret|apply q_loopT_exit|apply q_loopT_ret|apply RW.nil)|((with_reducible apply s3); exact rfl; exact by_k)|((with_reducible apply s2); exact rfl; exact by_k)|((with_reducible apply s4); exact rfl)|((with_reducible apply s5); exact by_oa; exact by_g)|((with_reducible apply CW.cond_t); exact rfl; exact by_ks)|((with_reducible apply CW.cond_f); exact rfl; exact by_ks)|((with_reducible apply q_block_miss); exact rfl)|(refine And.intro (show chk [] [] _ _ = true by kernel_rfl) ?_))
  refine CW.loopT (fun i : Nat => [(.s 0, .av (.d (dstr s))), (.s 5, .av (.d (dint s.length))), (.s 6, .av (.d (dint i))), (.nx, .num 0)]) (fun i => i ≤ s.length ∧ keyGo s (s.drop i) = key s) (fun i => s.length - i) 0 ⟨by omega, rfl⟩ ?_ fun i hI => ?_
  ·
    exact by_less
  · obtain ⟨hi, hI⟩ := hI
    rcases drop_case hi with ⟨h1, h2⟩ | ⟨c, h1, h2, h3⟩
    · rw [h1] at hI
      simp only [keyGo] at hI
      by_cases h4 : 0 < s.length
      ·
        repeat (first|((with_reducible apply s1); exact rfl)|(with_reducible first|apply CW.seq|apply CW.block|apply CW.region|apply CW.draw|apply CW.skip|apply CW.exit|apply CW.ret|apply q_then|apply q_then_exit|apply q_then_ret|apply q_block|apply q_block_ret|apply q_block_hit|apply q_ret|apply q_end|apply q_loop_exit|apply q_loop_ret|apply q_loopT_exit|apply q_loopT_ret|apply RW.nil)|((with_reducible apply s3); exact rfl; exact by_k)|((with_reducible apply s2); exact rfl; exact by_k)|((with_reducible apply s4); exact rfl)|((with_reducible apply s5); exact by_oa; exact by_g)|((with_reducible apply CW.cond_t); exact rfl; exact by_ks)|((with_reducible apply CW.cond_f); exact rfl; exact by_ks)|((with_reducible apply q_block_miss); exact rfl)|(refine And.intro (show chk [] [] _ _ = true by kernel_rfl) ?_))
        exact .one (.tmp rfl (.one (.d (dle_bool (by rw [← hI]; simp [h4]; omega)))))
      ·
        repeat (first|((with_reducible apply s1); exact rfl)|(with_reducible first|apply CW.seq|apply CW.block|apply CW.region|apply CW.draw|apply CW.skip|apply CW.exit|apply CW.ret|apply q_then|apply q_then_exit|apply q_then_ret|apply q_block|apply q_block_ret|apply q_block_hit|apply q_ret|apply q_end|apply q_loop_exit|apply q_loop_ret|apply q_loopT_exit|apply q_loopT_ret|apply RW.nil)|((with_reducible apply s3); exact rfl; exact by_k)|((with_reducible apply s2); exact rfl; exact by_k)|((with_reducible apply s4); exact rfl)|((with_reducible apply s5); exact by_oa; exact by_g)|((with_reducible apply CW.cond_t); exact rfl; exact by_ks)|((with_reducible apply CW.cond_f); exact rfl; exact by_ks)|((with_reducible apply q_block_miss); exact rfl)|(refine And.intro (show chk [] [] _ _ = true by kernel_rfl) ?_))
        exact .one (.tmp rfl (.one (.d (dle_bool (by rw [← hI]; simp [h4])))))
    · rw [h1] at hI
      simp only [keyGo] at hI
      by_cases h4 : (c.toNat : Int) < 97
      ·
        repeat (first|((with_reducible apply s1); exact rfl)|(with_reducible first|apply CW.seq|apply CW.block|apply CW.region|apply CW.draw|apply CW.skip|apply CW.exit|apply CW.ret|apply q_then|apply q_then_exit|apply q_then_ret|apply q_block|apply q_block_ret|apply q_block_hit|apply q_ret|apply q_end|apply q_loop_exit|apply q_loop_ret|apply q_loopT_exit|apply q_loopT_ret|apply RW.nil)|((with_reducible apply s3); exact rfl; exact by_k)|((with_reducible apply s2); exact rfl; exact by_k)|((with_reducible apply s4); exact rfl)|((with_reducible apply s5); exact by_oa; exact by_g)|((with_reducible apply CW.cond_t); exact rfl; exact by_ks)|((with_reducible apply CW.cond_f); exact rfl; exact by_ks)|((with_reducible apply q_block_miss); exact rfl)|(refine And.intro (show chk [] [] _ _ = true by kernel_rfl) ?_))
        rw [if_pos (by simp only [bad, h4]; rfl)] at hI
        exact .one (.tmp rfl (.one (.d (dle_bool hI))))
      · by_cases h5 : (122 : Int) < (c.toNat : Int)
        ·
          repeat (first|((with_reducible apply s1); exact rfl)|(with_reducible first|apply CW.seq|apply CW.block|apply CW.region|apply CW.draw|apply CW.skip|apply CW.exit|apply CW.ret|apply q_then|apply q_then_exit|apply q_then_ret|apply q_block|apply q_block_ret|apply q_block_hit|apply q_ret|apply q_end|apply q_loop_exit|apply q_loop_ret|apply q_loopT_exit|apply q_loopT_ret|apply RW.nil)|((with_reducible apply s3); exact rfl; exact by_k)|((with_reducible apply s2); exact rfl; exact by_k)|((with_reducible apply s4); exact rfl)|((with_reducible apply s5); exact by_oa; exact by_g)|((with_reducible apply CW.cond_t); exact rfl; exact by_ks)|((with_reducible apply CW.cond_f); exact rfl; exact by_ks)|((with_reducible apply q_block_miss); exact rfl)|(refine And.intro (show chk [] [] _ _ = true by kernel_rfl) ?_))
          rw [if_pos (by simp [bad, h5])] at hI
          exact .one (.tmp rfl (.one (.d (dle_bool hI))))
        ·
          repeat (first|((with_reducible apply s1); exact rfl)|(with_reducible first|apply CW.seq|apply CW.block|apply CW.region|apply CW.draw|apply CW.skip|apply CW.exit|apply CW.ret|apply q_then|apply q_then_exit|apply q_then_ret|apply q_block|apply q_block_ret|apply q_block_hit|apply q_ret|apply q_end|apply q_loop_exit|apply q_loop_ret|apply q_loopT_exit|apply q_loopT_ret|apply RW.nil)|((with_reducible apply s3); exact rfl; exact by_k)|((with_reducible apply s2); exact rfl; exact by_k)|((with_reducible apply s4); exact rfl)|((with_reducible apply s5); exact by_oa; exact by_g)|((with_reducible apply CW.cond_t); exact rfl; exact by_ks)|((with_reducible apply CW.cond_f); exact rfl; exact by_ks)|((with_reducible apply q_block_miss); exact rfl)|(refine And.intro (show chk [] [] _ _ = true by kernel_rfl) ?_))
          rw [if_neg (by simp [bad]; omega)] at hI
          refine q_loopT (i + 1) ⟨by omega, hI⟩ (by omega) ?_
          exact by_less

theorem form_at {k : Nat} (h : k < 10) : forms[k]? = some (form k) := by
  simp [form, List.getD_eq_getElem?_getD, List.getElem?_eq_getElem (show k < forms.length from h)]

theorem ok_form (k : Nat) (hk : k < 10) : FnOk Tryd.prog 21 [.d (dint k)] (.one (dstr (form k))) := by
  refine fnOk_of tbl_ok mixed_ok Tryd.func21 rfl (by kernel_rfl) rfl rfl fun w0 own0 => ?_
  have h := form_at hk
  repeat (first|((with_reducible apply s5); ((with_reducible apply a_bs (forms.map encStr1)); (iterate 9 exact rfl); (repeat (first | exact PartsE.nil | (apply PartsE.cons; exact rfl; exact rfl)))); exact by_g)|((with_reducible apply s1); exact rfl)|(with_reducible first|apply CW.seq|apply CW.block|apply CW.region|apply CW.draw|apply CW.skip|apply CW.exit|apply CW.ret|apply q_then|apply q_then_exit|apply q_then_ret|apply q_block|apply q_block_ret|apply q_block_hit|apply q_ret|apply q_end|apply q_loop_exit|apply q_loop_ret|apply q_loopT_exit|apply q_loopT_ret|apply RW.nil)|((with_reducible apply s3); exact rfl; exact by_k)|((with_reducible apply s2); exact rfl; exact by_k)|((with_reducible apply s4); exact rfl)|((with_reducible apply s5); exact by_oa; exact by_g)|((with_reducible apply CW.cond_t); exact rfl; exact by_ks)|((with_reducible apply CW.cond_f); exact rfl; exact by_ks)|((with_reducible apply q_block_miss); exact rfl)|(refine And.intro (show chk [] [] _ _ = true by kernel_rfl) ?_))
  exact .one (.tmp rfl (.one (.d (.refl _))))

theorem form_len (k : Nat) : (form k).length ≤ 2 := by
  rcases Nat.lt_or_ge k 10 with h | h
  · have : ∀ k : Fin 10, (form k).length ≤ 2 := by decide
    exact this ⟨k, h⟩
  · simp [form, List.getD_eq_getElem?_getD, List.getElem?_eq_none (show forms.length ≤ k from h)]

theorem ok_has (k : Nat) (c : UInt8) (hk : k < 10) : FnOk Tryd.prog 11 [.d (dint k), .d (.v (.int .u8 c.toNat))] (.one (dbool (has k c))) := by
  refine fnOk_of tbl_ok mixed_ok Tryd.func11 rfl (by kernel_rfl) rfl rfl fun w0 own0 => ?_
  have hl := form_len k
  repeat (first|((with_reducible apply s1); exact rfl)|(with_reducible first|apply CW.seq|apply CW.block|apply CW.region|apply CW.draw|apply CW.skip|apply CW.exit|apply CW.ret|apply q_then|apply q_then_exit|apply q_then_ret|apply q_block|apply q_block_ret|apply q_block_hit|apply q_ret|apply q_end|apply q_loop_exit|apply q_loop_ret|apply q_loopT_exit|apply q_loopT_ret|apply RW.nil)|((with_reducible apply s3); exact rfl; exact by_k)|((with_reducible apply s2); exact rfl; exact by_k)|((with_reducible apply s4); exact rfl)|((with_reducible apply s5); (first|exact a_call (ok_form k hk) rfl by_sub|exact by_oa); exact by_g)|((with_reducible apply CW.cond_t); exact rfl; exact by_ks)|((with_reducible apply CW.cond_f); exact rfl; exact by_ks)|((with_reducible apply q_block_miss); exact rfl)|(refine And.intro (show chk [] [] _ _ = true by kernel_rfl) ?_))
  refine CW.loopT (fun i : Nat => [(.s 1, .av (.d (.v (.int .u8 c.toNat)))), (.s 5, .av (.d (dstr (form k)))), (.s 10, .av (.d (dint (form k).length))), (.s 11, .av (.d (dint i))), (.nx, .num 0)]) (fun i => i ≤ (form k).length ∧ hasGo c ((form k).drop i) = has k c) (fun i => (form k).length - i) 0 ⟨by omega, rfl⟩ ?_ fun i hI => ?_
  ·
    exact by_less
  · obtain ⟨hi, hI⟩ := hI
    rcases drop_case hi with ⟨h1, h2⟩ | ⟨x, h1, h2, h3⟩
    ·
      repeat (first|((with_reducible apply s1); exact rfl)|(with_reducible first|apply CW.seq|apply CW.block|apply CW.region|apply CW.draw|apply CW.skip|apply CW.exit|apply CW.ret|apply q_then|apply q_then_exit|apply q_then_ret|apply q_block|apply q_block_ret|apply q_block_hit|apply q_ret|apply q_end|apply q_loop_exit|apply q_loop_ret|apply q_loopT_exit|apply q_loopT_ret|apply RW.nil)|((with_reducible apply s3); exact rfl; exact by_k)|((with_reducible apply s2); exact rfl; exact by_k)|((with_reducible apply s4); exact rfl)|((with_reducible apply s5); exact by_oa; exact by_g)|((with_reducible apply CW.cond_t); exact rfl; exact by_ks)|((with_reducible apply CW.cond_f); exact rfl; exact by_ks)|((with_reducible apply q_block_miss); exact rfl)|(refine And.intro (show chk [] [] _ _ = true by kernel_rfl) ?_))
      rw [h1] at hI
      rw [← hI]
      exact .one (.tmp rfl (.one (.d (.refl _))))
    · rw [h1] at hI
      simp only [hasGo] at hI
      by_cases h4 : x = c
      · have h5 : (x.toNat : Int) = (c.toNat : Int) := by rw [h4]
        repeat (first|((with_reducible apply s1); exact rfl)|(with_reducible first|apply CW.seq|apply CW.block|apply CW.region|apply CW.draw|apply CW.skip|apply CW.exit|apply CW.ret|apply q_then|apply q_then_exit|apply q_then_ret|apply q_block|apply q_block_ret|apply q_block_hit|apply q_ret|apply q_end|apply q_loop_exit|apply q_loop_ret|apply q_loopT_exit|apply q_loopT_ret|apply RW.nil)|((with_reducible apply s3); exact rfl; exact by_k)|((with_reducible apply s2); exact rfl; exact by_k)|((with_reducible apply s4); exact rfl)|((with_reducible apply s5); exact by_oa; exact by_g)|((with_reducible apply CW.cond_t); exact rfl; exact by_ks)|((with_reducible apply CW.cond_f); exact rfl; exact by_ks)|((with_reducible apply q_block_miss); exact rfl)|(refine And.intro (show chk [] [] _ _ = true by kernel_rfl) ?_))
        rw [if_pos h4] at hI
        rw [← hI]
        exact .one (.tmp rfl (.one (.d (.refl _))))
      · have h5 : ¬ ((x.toNat : Int) = (c.toNat : Int)) := fun h => h4 (UInt8.toNat_inj.1 (by omega))
        repeat (first|((with_reducible apply s1); exact rfl)|(with_reducible first|apply CW.seq|apply CW.block|apply CW.region|apply CW.draw|apply CW.skip|apply CW.exit|apply CW.ret|apply q_then|apply q_then_exit|apply q_then_ret|apply q_block|apply q_block_ret|apply q_block_hit|apply q_ret|apply q_end|apply q_loop_exit|apply q_loop_ret|apply q_loopT_exit|apply q_loopT_ret|apply RW.nil)|((with_reducible apply s3); exact rfl; exact by_k)|((with_reducible apply s2); exact rfl; exact by_k)|((with_reducible apply s4); exact rfl)|((with_reducible apply s5); exact by_oa; exact by_g)|((with_reducible apply CW.cond_t); exact rfl; exact by_ks)|((with_reducible apply CW.cond_f); exact rfl; exact by_ks)|((with_reducible apply q_block_miss); exact rfl)|(refine And.intro (show chk [] [] _ _ = true by kernel_rfl) ?_))
        rw [if_neg h4] at hI
        refine q_loopT (i + 1) ⟨by omega, hI⟩ (by omega) ?_
        exact by_less

end Go.Proofs.YtfaaghkgfbhglaaDoor

/-! H1 -/
/-
  Contracts of the references' split, Words, Form.
-/
namespace Go.Proofs.YtfaaghkgfbhglaaDoor
open Go.AX Go.RF

set_option maxRecDepth 100000
set_option maxHeartbeats 4000000

theorem splitF_len (sep : Str) : ∀ (n : Nat) (cur r : Str), (splitF sep n cur r).length ≤ n + 1
  | 0, cur, r => by simp [splitF]
  | n + 1, cur, r => by
    simp only [splitF]
    split
    · simp
    split
    · have := splitF_len sep n [] (r.drop sep.length); simp; omega
    cases r with
    | nil => simp
    | cons c t => have := splitF_len sep n (cur ++ [c]) t; simp; omega

theorem splitF_succ (sep : Str) (n : Nat) (cur r : Str) : splitF sep (n + 1) cur r = if r.length < sep.length then [cur ++ r]
    else if r.take sep.length = sep then cur :: splitF sep n [] (r.drop sep.length)
    else match r with
      | [] => [cur]
      | c :: t => splitF sep n (cur ++ [c]) t := by cases r <;> rfl

end Go.Proofs.YtfaaghkgfbhglaaDoor

/-! ShNum -/
/-
  The library's Atoi and Itoa of numbers, at this program's numbers of functions and types.
-/
namespace Go.Proofs
open Go.Shelf Go.RowKit
noncomputable def Tryd.laysC172_ren : Go.Shelf.Ren := ⟨fun | 129 => 60 | 171 => 15 | 172 => 41 | 205 => 87 | 243 => 25 | 244 => 56 | 245 => 57 | 246 => 36 | 247 => 69 | 279 => 70 | 280 => 71 | 281 => 72 | 282 => 73 | 283 => 47 | 284 => 48 | 285 => 49 | 286 => 50 | 287 => 85 | 316 => 86 | 317 => 59 | 318 => 61 | 319 => 62 | 320 => 63 | 321 => 91 | 322 => 92 | 337 => 81 | 338 => 82 | n => n, fun | 0 => 0 | 2 => 2 | 3 => 3 | 4 => 4 | 5 => 5 | 9 => 9 | 20 => 20 | 21 => 21 | 37 => 49 | 46 => 95 | 51 => 92 | 53 => 78 | 75 => 54 | 76 => 55 | 85 => 98 | 127 => 69 | 143 => 128 | 145 => 130 | 167 => 97 | 168 => 100 | 171 => 77 | 173 => 81 | 175 => 117 | 210 => 121 | 212 => 91 | 213 => 93 | 232 => 125 | 233 => 126 | 80 => 57 | n => n, fun | 15 => (Tryd.prog.globals.findIdx? (·.name == "strconv.ErrSyntax")).getD 0 | 16 => (Tryd.prog.globals.findIdx? (·.name == "strconv.ErrRange")).getD 0 | 17 => (Tryd.prog.globals.findIdx? (·.name == "internal/strconv.uint64pow10")).getD 0 | 18 => (Tryd.prog.globals.findIdx? (·.name == "math/bits.deBruijn32tab")).getD 0 | 19 => (Tryd.prog.globals.findIdx? (·.name == "math/bits.deBruijn64tab")).getD 0 | n => n⟩
theorem Tryd.laysC172 : Go.Proofs.LaysC.n172 Tryd.prog Tryd.laysC172_ren := {
  mixed := by kernel_rfl
  f129 := Tryd.func60.trans (congrArg some (by kernel_rfl))
  f171 := Tryd.func15.trans (congrArg some (by kernel_rfl))
  f172 := Tryd.func41.trans (congrArg some (by kernel_rfl))
  f205 := Tryd.func87.trans (congrArg some (by kernel_rfl))
  f243 := Tryd.func25.trans (congrArg some (by kernel_rfl))
  f244 := Tryd.func56.trans (congrArg some (by kernel_rfl))
  f245 := Tryd.func57.trans (congrArg some (by kernel_rfl))
  f246 := Tryd.func36.trans (congrArg some (by kernel_rfl))
  f247 := Tryd.func69.trans (congrArg some (by kernel_rfl))
  f279 := Tryd.func70.trans (congrArg some (by kernel_rfl))
  f280 := Tryd.func71.trans (congrArg some (by kernel_rfl))
  f281 := Tryd.func72.trans (congrArg some (by kernel_rfl))
  f282 := Tryd.func73.trans (congrArg some (by kernel_rfl))
  f283 := Tryd.func47.trans (congrArg some (by kernel_rfl))
  f284 := Tryd.func48.trans (congrArg some (by kernel_rfl))
  f285 := Tryd.func49.trans (congrArg some (by kernel_rfl))
  f286 := Tryd.func50.trans (congrArg some (by kernel_rfl))
  f287 := Tryd.func85.trans (congrArg some (by kernel_rfl))
  f316 := Tryd.func86.trans (congrArg some (by kernel_rfl))
  f317 := Tryd.func59.trans (congrArg some (by kernel_rfl))
  f318 := Tryd.func61.trans (congrArg some (by kernel_rfl))
  f319 := Tryd.func62.trans (congrArg some (by kernel_rfl))
  f320 := Tryd.func63.trans (congrArg some (by kernel_rfl))
  f321 := Tryd.func91.trans (congrArg some (by kernel_rfl))
  f322 := Tryd.func92.trans (congrArg some (by kernel_rfl))
  f337 := Tryd.func81.trans (congrArg some (by kernel_rfl))
  f338 := Tryd.func82.trans (congrArg some (by kernel_rfl))
  t0 := Tryd.underlying0
  a0 := Tryd.isAgg0
  z0 := Tryd.sizeOf0
  v0 := Tryd.zeroValue0
  t2 := Tryd.underlying2
  a2 := Tryd.isAgg2
  z2 := Tryd.sizeOf2
  v2 := Tryd.zeroValue2
  t3 := Tryd.underlying3
  a3 := Tryd.isAgg3
  z3 := Tryd.sizeOf3
  v3 := Tryd.zeroValue3
  t4 := Tryd.underlying4
  a4 := Tryd.isAgg4
  z4 := Tryd.sizeOf4
  v4 := Tryd.zeroValue4
  t5 := Tryd.underlying5
  a5 := Tryd.isAgg5
  z5 := Tryd.sizeOf5
  v5 := Tryd.zeroValue5
  t9 := Tryd.underlying9
  a9 := Tryd.isAgg9
  z9 := Tryd.sizeOf9
  v9 := Tryd.zeroValue9
  t20 := Tryd.underlying20
  a20 := Tryd.isAgg20
  z20 := Tryd.sizeOf20
  v20 := Tryd.zeroValue20
  t21 := Tryd.underlying21
  a21 := Tryd.isAgg21
  z21 := Tryd.sizeOf21
  v21 := Tryd.zeroValue21
  t37 := Tryd.underlying49
  a37 := Tryd.isAgg49
  z37 := Tryd.sizeOf49
  v37 := Tryd.zeroValue49
  t46 := Tryd.underlying95
  a46 := Tryd.isAgg95
  z46 := Tryd.sizeOf95
  v46 := Tryd.zeroValue95
  t51 := Tryd.underlying92
  a51 := Tryd.isAgg92
  z51 := Tryd.sizeOf92
  v51 := Tryd.zeroValue92
  t53 := Tryd.underlying78
  a53 := Tryd.isAgg78
  z53 := Tryd.sizeOf78
  v53 := Tryd.zeroValue78
  t75 := Tryd.underlying54
  a75 := Tryd.isAgg54
  z75 := Tryd.sizeOf54
  v75 := Tryd.zeroValue54
  t76 := Tryd.underlying55
  a76 := Tryd.isAgg55
  z76 := Tryd.sizeOf55
  v76 := Tryd.zeroValue55
  t85 := Tryd.underlying98
  a85 := Tryd.isAgg98
  z85 := Tryd.sizeOf98
  v85 := Tryd.zeroValue98
  t127 := Tryd.underlying69
  a127 := Tryd.isAgg69
  z127 := Tryd.sizeOf69
  v127 := Tryd.zeroValue69
  t143 := Tryd.underlying128
  a143 := Tryd.isAgg128
  z143 := Tryd.sizeOf128
  v143 := Tryd.zeroValue128
  t145 := Tryd.underlying130
  a145 := Tryd.isAgg130
  z145 := Tryd.sizeOf130
  v145 := Tryd.zeroValue130
  t167 := Tryd.underlying97
  a167 := Tryd.isAgg97
  z167 := Tryd.sizeOf97
  v167 := Tryd.zeroValue97
  t168 := Tryd.underlying100
  a168 := Tryd.isAgg100
  z168 := Tryd.sizeOf100
  v168 := Tryd.zeroValue100
  t171 := Tryd.underlying77
  a171 := Tryd.isAgg77
  z171 := Tryd.sizeOf77
  v171 := Tryd.zeroValue77
  t173 := Tryd.underlying81
  a173 := Tryd.isAgg81
  z173 := Tryd.sizeOf81
  v173 := Tryd.zeroValue81
  t175 := Tryd.underlying117
  a175 := Tryd.isAgg117
  z175 := Tryd.sizeOf117
  v175 := Tryd.zeroValue117
  t210 := Tryd.underlying121
  a210 := Tryd.isAgg121
  z210 := Tryd.sizeOf121
  v210 := Tryd.zeroValue121
  t212 := Tryd.underlying91
  a212 := Tryd.isAgg91
  z212 := Tryd.sizeOf91
  v212 := Tryd.zeroValue91
  t213 := Tryd.underlying93
  a213 := Tryd.isAgg93
  z213 := Tryd.sizeOf93
  t232 := Tryd.underlying125
  a232 := Tryd.isAgg125
  z232 := Tryd.sizeOf125
  v232 := Tryd.zeroValue125
  t233 := Tryd.underlying126
  a233 := Tryd.isAgg126
  z233 := Tryd.sizeOf126
  v233 := Tryd.zeroValue126
  g15 := by kernel_rfl
  g16 := by kernel_rfl
  g17 := by kernel_rfl
  g18 := by kernel_rfl
  g19 := by kernel_rfl
  t80 := Tryd.underlying57
  a80 := Tryd.isAgg57
  z80 := Tryd.sizeOf57
  v80 := Tryd.zeroValue57
  i0 := by kernel_rfl
  i2 := by kernel_rfl
  i3 := by kernel_rfl
  i4 := by kernel_rfl
  i5 := by kernel_rfl
  i9 := by kernel_rfl
  i20 := by kernel_rfl
  i21 := by kernel_rfl
  i37 := by kernel_rfl
  i46 := by kernel_rfl
  i51 := by kernel_rfl
  i53 := by kernel_rfl
  i75 := by kernel_rfl
  i76 := by kernel_rfl
  i80 := by kernel_rfl
  i85 := by kernel_rfl
  i127 := by kernel_rfl
  i143 := by kernel_rfl
  i145 := by kernel_rfl
  i167 := by kernel_rfl
  i168 := by kernel_rfl
  i171 := by kernel_rfl
  i173 := by kernel_rfl
  i175 := by kernel_rfl
  i210 := by kernel_rfl
  i212 := by kernel_rfl
  i232 := by kernel_rfl
  i233 := by kernel_rfl
  m15 := by kernel_rfl
  m16 := by kernel_rfl
  m17 := by kernel_rfl
  m18 := by kernel_rfl
  m19 := by kernel_rfl
  c0 := by kernel_rfl
  c2 := by kernel_rfl
  c3 := by kernel_rfl
  c4 := by kernel_rfl
  c5 := by kernel_rfl
  c9 := by kernel_rfl
  c20 := by kernel_rfl
  c21 := by kernel_rfl
  c37 := by kernel_rfl
  c46 := by kernel_rfl
  c51 := by kernel_rfl
  c53 := by kernel_rfl
  c75 := by kernel_rfl
  c76 := by kernel_rfl
  c80 := by kernel_rfl
  c85 := by kernel_rfl
  c127 := by kernel_rfl
  c143 := by kernel_rfl
  c145 := by kernel_rfl
  c167 := by kernel_rfl
  c168 := by kernel_rfl
  c171 := by kernel_rfl
  c173 := by kernel_rfl
  c175 := by kernel_rfl
  c210 := by kernel_rfl
  c212 := by kernel_rfl
  c213 := by kernel_rfl
  c232 := by kernel_rfl
  c233 := by kernel_rfl
  }
end Go.Proofs

/-! ShNum2 -/
/-
  The library's Itoa of whatever number, at this program's numbers of functions and types.
-/
namespace Go.Proofs
open Go.Shelf Go.RowKit
noncomputable def Tryd.laysM171_ren : Go.Shelf.Ren := ⟨fun | 129 => 60 | 171 => 15 | 243 => 25 | 246 => 36 | 283 => 47 | 284 => 48 | 285 => 49 | 286 => 50 | 317 => 59 | 318 => 61 | 319 => 62 | 320 => 63 | 337 => 81 | 338 => 82 | n => n, fun | 0 => 0 | 2 => 2 | 3 => 3 | 4 => 4 | 5 => 5 | 9 => 9 | 20 => 20 | 37 => 49 | 46 => 95 | 51 => 92 | 53 => 78 | 171 => 77 | 173 => 81 | 212 => 91 | 213 => 93 | 232 => 125 | 233 => 126 | n => n, fun | 17 => (Tryd.prog.globals.findIdx? (·.name == "internal/strconv.uint64pow10")).getD 0 | 18 => (Tryd.prog.globals.findIdx? (·.name == "math/bits.deBruijn32tab")).getD 0 | 19 => (Tryd.prog.globals.findIdx? (·.name == "math/bits.deBruijn64tab")).getD 0 | n => n⟩
theorem Tryd.laysM171 : Go.Proofs.LaysM.n171 Tryd.prog Tryd.laysM171_ren := {
  mixed := by kernel_rfl
  f129 := Tryd.func60.trans (congrArg some (by kernel_rfl))
  f171 := Tryd.func15.trans (congrArg some (by kernel_rfl))
  f243 := Tryd.func25.trans (congrArg some (by kernel_rfl))
  f246 := Tryd.func36.trans (congrArg some (by kernel_rfl))
  f283 := Tryd.func47.trans (congrArg some (by kernel_rfl))
  f284 := Tryd.func48.trans (congrArg some (by kernel_rfl))
  f285 := Tryd.func49.trans (congrArg some (by kernel_rfl))
  f286 := Tryd.func50.trans (congrArg some (by kernel_rfl))
  f317 := Tryd.func59.trans (congrArg some (by kernel_rfl))
  f318 := Tryd.func61.trans (congrArg some (by kernel_rfl))
  f319 := Tryd.func62.trans (congrArg some (by kernel_rfl))
  f320 := Tryd.func63.trans (congrArg some (by kernel_rfl))
  f337 := Tryd.func81.trans (congrArg some (by kernel_rfl))
  f338 := Tryd.func82.trans (congrArg some (by kernel_rfl))
  t0 := Tryd.underlying0
  a0 := Tryd.isAgg0
  z0 := Tryd.sizeOf0
  v0 := Tryd.zeroValue0
  t2 := Tryd.underlying2
  a2 := Tryd.isAgg2
  z2 := Tryd.sizeOf2
  v2 := Tryd.zeroValue2
  t3 := Tryd.underlying3
  a3 := Tryd.isAgg3
  z3 := Tryd.sizeOf3
  v3 := Tryd.zeroValue3
  t4 := Tryd.underlying4
  a4 := Tryd.isAgg4
  z4 := Tryd.sizeOf4
  v4 := Tryd.zeroValue4
  t5 := Tryd.underlying5
  a5 := Tryd.isAgg5
  z5 := Tryd.sizeOf5
  v5 := Tryd.zeroValue5
  t9 := Tryd.underlying9
  a9 := Tryd.isAgg9
  z9 := Tryd.sizeOf9
  v9 := Tryd.zeroValue9
  t20 := Tryd.underlying20
  a20 := Tryd.isAgg20
  z20 := Tryd.sizeOf20
  v20 := Tryd.zeroValue20
  t37 := Tryd.underlying49
  a37 := Tryd.isAgg49
  z37 := Tryd.sizeOf49
  v37 := Tryd.zeroValue49
  t46 := Tryd.underlying95
  a46 := Tryd.isAgg95
  z46 := Tryd.sizeOf95
  v46 := Tryd.zeroValue95
  t51 := Tryd.underlying92
  a51 := Tryd.isAgg92
  z51 := Tryd.sizeOf92
  v51 := Tryd.zeroValue92
  t53 := Tryd.underlying78
  a53 := Tryd.isAgg78
  z53 := Tryd.sizeOf78
  v53 := Tryd.zeroValue78
  t171 := Tryd.underlying77
  a171 := Tryd.isAgg77
  z171 := Tryd.sizeOf77
  v171 := Tryd.zeroValue77
  t173 := Tryd.underlying81
  a173 := Tryd.isAgg81
  z173 := Tryd.sizeOf81
  v173 := Tryd.zeroValue81
  t212 := Tryd.underlying91
  a212 := Tryd.isAgg91
  z212 := Tryd.sizeOf91
  v212 := Tryd.zeroValue91
  t213 := Tryd.underlying93
  a213 := Tryd.isAgg93
  z213 := Tryd.sizeOf93
  t232 := Tryd.underlying125
  a232 := Tryd.isAgg125
  z232 := Tryd.sizeOf125
  v232 := Tryd.zeroValue125
  t233 := Tryd.underlying126
  a233 := Tryd.isAgg126
  z233 := Tryd.sizeOf126
  v233 := Tryd.zeroValue126
  g17 := by kernel_rfl
  g18 := by kernel_rfl
  g19 := by kernel_rfl
  i0 := by kernel_rfl
  i2 := by kernel_rfl
  i3 := by kernel_rfl
  i4 := by kernel_rfl
  i5 := by kernel_rfl
  i9 := by kernel_rfl
  i20 := by kernel_rfl
  i37 := by kernel_rfl
  i46 := by kernel_rfl
  i51 := by kernel_rfl
  i53 := by kernel_rfl
  i171 := by kernel_rfl
  i173 := by kernel_rfl
  i212 := by kernel_rfl
  i232 := by kernel_rfl
  i233 := by kernel_rfl
  m17 := by kernel_rfl
  m18 := by kernel_rfl
  m19 := by kernel_rfl
  }
end Go.Proofs

/-! AxPin2 -/
/-
  Handles that become known, and ours again; two slices of ours that a call yields, one within the other's element; slices of ours lent, and handed over.
-/
namespace Go.AX
open Go.RowKit

variable {cx : Cx} {g : Nat → Value} {σ σ' : St} {a : Act} {w w' : World} {nx : Nat} {c : Code} {Q : Exit → St → Prop}
variable {ty : TypeId} {pos : String} {af : Array Edge} {gd : Option (Nat × Bool)} {d : Nat}

/-- An object told otherwise. -/
theorem SimG.reob (hs : SimG cx σ a w g nx) {id : Nat} {o o' : Ob} (ho : get σ (.o id) = .ob o) (hle : ObLe g g id o o') (hr : ObOk cx g σ w id o') (hb : o'.bd nx) :
    SimG cx ((.o id, .ob o') :: σ) a w g nx := by
  have hback : ∀ j o1, get ((.o id, .ob o') :: σ) (.o j) = .ob o1 → ∃ o0, get σ (.o j) = .ob o0 ∧ ObLe g g j o0 o1 := by
    intro j o1 hj
    by_cases he : id = j
    · subst he
      rw [get_cons_same] at hj
      cases hj
      exact ⟨_, ho, hle⟩
    · rw [get_cons_ne (by simpa using he)] at hj
      exact ⟨o1, hj, by cases o1 <;> simp [ObLe]⟩
  have hl : Later cx g g σ ((.o id, .ob o') :: σ) w w nx := by
    refine ⟨Ext.refl _ _, Below.refl _ _, fun b hb => ?_, fun j o1 _ h => hback j o1 h⟩
    rcases hb with hb | ⟨j, o1, h1, h2⟩
    · exact .inl (.inl hb)
    · obtain ⟨o0, h3, _⟩ := hback j o1 h1
      exact .inl (.inr ⟨j, o0, h3, h2⟩)
  refine hs.next hl ((get_cons_ne (by simp)).trans hs.hnx) (Nat.le_refl _) hs.size hs.defers (Below.refl _ _) (fun i av hi => .inl ⟨(get_cons_ne (by simp)).symm.trans hi, rfl⟩) (fun j o1 hj => ?_) (fun j j' o1 o2 b h1 h2 => ?_)
  · by_cases he : id = j
    · subst he
      rw [get_cons_same] at hj
      cases hj
      exact .inr ⟨(hs.objs id _ ho).1, hr.step hl rfl (fun _ _ => rfl) hb, hb⟩
    · rw [get_cons_ne (by simpa using he)] at hj
      exact .inl ⟨hj, rfl, fun _ _ => rfl⟩
  · obtain ⟨o3, h3, _⟩ := hback j o1 h1
    obtain ⟨o4, h4, _⟩ := hback j' o2 h2
    exact hs.sep j j' o3 o4 b h3 h4

theorem CW.pin (i id n e k : Nat) (rows : List (List D)) (hi : get σ (.s i) = .av (.own id n)) (ho : get σ (.o id) = .ob (.arr e k rows)) (hn : n = rows.length)
    (h : ∀ x, CW cx c Q ((.s i, .av (.d (.v x))) :: (.o id, .ob (.pin e k rows x)) :: σ)) : CW cx c Q σ := by
  rintro a w ⟨g, nx, hs⟩
  have hv : a.tmps.getD i undef = g id := ((hs.slots i _ hi).1.2 e k rows ho).2 hn
  have hG := hs.reob ho (o' := .pin e k rows (g id)) trivial ⟨rfl, (hs.objs id _ ho).2.1⟩ trivial
  refine h (g id) a w (Sim.retell hG (av := .d (.v (g id))) ?_ trivial)
  rw [hv]; exact Rd.v _
/-! ### Operations of a region in their text's order, each from whatever state that the last one may leave -/
def SW (cx : Cx) (ops : Array Oper) (Q : Exit → St → Prop) (l : List Oper) (σ : St) : Prop :=
  ∀ a w, Sim cx σ a w → wpList cx.P ops (fun e a' w' => ∃ σ', Sim cx σ' a' w' ∧ Q e σ') l a w
variable {ops : Array Oper} {rest : List Oper} {o : Oper}
theorem SW.rw (h : RW cx ops (fun _ σ' => Q .normal σ') [] rest σ) : SW cx ops Q rest σ := by
  obtain ⟨ts, σ', h1, h2⟩ := h
  exact fun a w hs => wpList_of_steps h1 hs fun a' w' hs' => ⟨σ', hs', h2⟩
theorem SW.step {t : Tr} (hg : o.guard = none) (ho : OA cx σ o t) (h : SW cx ops Q rest (t.wr ++ σ)) : SW cx ops Q (o :: rest) σ := fun a w hs =>
  wpList_plain hg fun K hK => ho.1 σ a w K _ hs ho.2 fun a' w' hs' => hK a' w' (h a' w' hs')
/-! ### Lent as data -/
/-- What a slice of ours reads as: its rows, or those where one cell is another slice of ours. -/
inductive View (σ : St) (id e k : Nat) (rows : List (List D)) : D → List (Key × Val) → Prop
  | plain (h : get σ (.o id) = .ob (.arr e k rows)) : View σ id e k rows (.sl k rows) [(.o id, .ob (.arr e k rows))]
  | pin {i j id2 e2 k2 : Nat} {r : List D} {x : Value} {rows2 : List (List D)} (h : get σ (.o id) = .ob (.arr e k rows)) (hi : rows[i]? = some r) (hj : r[j]? = some (.v x))
      (h2 : get σ (.o id2) = .ob (.pin e2 k2 rows2 x)) : View σ id e k rows (.sl k (rows.set i (r.set j (.sl k2 rows2)))) [(.o id, .ob (.arr e k rows)), (.o id2, .ob (.pin e2 k2 rows2 x))]
def plainR : Res → Bool
  | .one (.v _) => true
  | .tup l => l.all fun x => match x with
    | .v _ => true
    | _ => false
  | _ => false
theorem rd_plain {own own' : Nat → Prop} {v x : Value} (h : Rd w own v (.v x)) : Rd w own' v (.v x) := by
  rw [rd_v h]; exact Rd.v _
theorem plainR_ok {r : Res} (h : plainR r = true) {own own' : Nat → Prop} {v : Value} (hr : ResOk w own v r) : ResOk w own' v r := by
  cases r with
  | one x =>
    cases x with
    | v x => exact rd_plain hr
    | x p => cases h
    | sl k rows => cases h
    | agg c => cases h
  | tup xs =>
    obtain ⟨vs, rfl, h1, h2⟩ := hr
    refine ⟨vs, rfl, h1, fun j c x hx hc => ?_⟩
    have h3 := List.all_eq_true.1 h x (List.mem_of_getElem? hx)
    cases x with
    | v x => exact rd_plain (h2 j c _ hx hc)
    | x p => cases h3
    | sl k rows => cases h3
    | agg c => cases h3

theorem ArgsOk.less {own own' : Nat → Prop} (ho : ∀ b, own' b → own b) : ∀ {vs : List Value} {xs : List Arg}, ArgsOk w own vs xs → ArgsOk w own' vs xs
  | [], [], _ => trivial
  | v :: vs, x :: xs, h => by
    refine ⟨?_, ArgsOk.less ho h.2⟩
    cases x with
    | d y => exact Rd.less ho h.1
    | pd cells =>
      obtain ⟨ad, h1, h2, h3⟩ := h.1
      exact ⟨ad, h1, h2, fun j z hz => by obtain ⟨u, h4, h5, h6⟩ := h3 j z hz; exact ⟨u, h4, h5, h6.less ho⟩⟩

theorem a_lend {f : FuncId} {x : Operand} {xs : List Operand} {avs : List AV} {ys : List Arg} {l lv : List (Key × Val)} {r : Res} {ats : Array TypeId} {id n e k : Nat} {rows : List (List D)} {dd : D}
    (hc : FnOk cx.P f (.d dd :: ys) r) (hx : ev σ x = some (.own id n)) (hv : View σ id e k rows dd lv) (hn : n = rows.length) (hp : plainR r = true) (hd : Nat.blt d cx.n = true) (hsub : SubsE σ xs avs ys l) :
    OA cx σ ⟨some d, .call { callee := .value (.func f), args := ⟨x :: xs⟩, argTypes := ats }, ty, pos, af, gd⟩ ⟨rdOf x (.own id n) ++ (l ++ lv), [(.s d, .av r.av)]⟩ := by
  refine ⟨?_, (ev_out hx).2.append (hsub.out.2.append ?_)⟩
  · rintro σ1 a w K Q ⟨g, nx, hs⟩ hr hK
    have hxv := hs.ev (ev_out hx).1 hr.left
    have hargs := hsub.out.1.ok hs hr.right.left
    have hlv := hr.right.right
    -- the first argument, read by whoever keeps all but that
    have key : ∃ own' : Nat → Prop, (∀ b, own' b → cx.own g σ1 b) ∧ Rd w own' (a.eval x) dd := by
      cases hv with
      | plain h =>
        have ho : get σ1 (.o id) = .ob (.arr e k rows) := hlv.1
        have hval : a.eval x = g id := (hxv.1.2 e k rows ho).2 hn
        refine ⟨fun b => cx.own g σ1 b ∧ blk (g id) ≠ some b, fun b hb => hb.1, ?_⟩
        rw [hval]
        exact (objRows hs ho).rd fun b hb => hb
      | @pin i j id2 e2 k2 r x0 rows2 h hi hj h2 =>
        have ho : get σ1 (.o id) = .ob (.arr e k rows) := hlv.1
        have ho2 : get σ1 (.o id2) = .ob (.pin e2 k2 rows2 x0) := hlv.2.1
        have hval : a.eval x = g id := (hxv.1.2 e k rows ho).2 hn
        obtain ⟨_, ⟨hgx, hp2⟩, _⟩ := hs.objs id2 _ ho2
        have hp2' : RowsAt w cx.w0.heap.size (cx.own g σ1) e2 k2 (g id2) rows2 := hp2
        rw [hgx] at hp2'
        refine ⟨fun b => (cx.own g σ1 b ∧ blk x0 ≠ some b) ∧ blk (g id) ≠ some b, fun b hb => hb.1.1, ?_⟩
        rw [hval]
        have h3 : RowsAt w cx.w0.heap.size (fun b => cx.own g σ1 b ∧ blk x0 ≠ some b) e k (g id) rows := (objRows hs ho).re (fun b hb => ((objRows hs ho).lt hb).1) fun b hb => hb.1
        exact (h3.at hi hj (hp2'.rd fun b hb => hb)).rd fun b hb => hb
    obtain ⟨own', hsub', hrd⟩ := key
    have hcall := hc.calls w own' (a.eval x :: xs.map a.eval) ⟨fun b hb => own_lt hs (hsub' b hb), hs.gl⟩ ⟨hrd, hargs.less hsub'⟩
    unfold Oper.wp
    rw [call_run hc.run]
    refine hcall.mono fun z w' he => ?_
    obtain ⟨v, rfl, hb, hres⟩ := he
    obtain ⟨h1, h2⟩ := Res.rep (nx := nx) (plainR_ok hp (own' := cx.own g σ1) hres)
    exact hK _ _ (Sim.put hs (lt_of_blt hd) hb h1 h2)
  · cases hv with
    | plain h => exact ⟨h, trivial⟩
    | pin h hi hj h2 => exact ⟨h, h2, trivial⟩

end Go.AX

/-! AxFam2 -/
/-
  The same, for a walk.
-/
namespace Go.AX
open Go.RowKit

variable {cx : Cx} {σ σ' : St} {a a' : Act} {w w' : World} {ops : Array Oper} {Q : Exit → St → Prop}
variable {ty : TypeId} {pos : String} {af : Array Edge} {gd : Option (Nat × Bool)} {d nx : Nat} {g : Nat → Value}

theorem Run.append : ∀ {t1 t2 : List Tr} {σ : St}, Run t1 σ → Run t2 (fin t1 σ) → Run (t1 ++ t2) σ ∧ fin (t1 ++ t2) σ = fin t2 (fin t1 σ)
  | [], t2, σ, _, h => ⟨h, rfl⟩
  | t :: t1, t2, σ, h1, h2 => by
    obtain ⟨h3, h4⟩ := Run.append h1.2 h2
    exact ⟨⟨h1.1, h3⟩, h4⟩

end Go.AX

/-! AxPin4 -/
/-
  Stutters between a region's operations; facts out of a state; a slice whose handle is known, read and written in place.
-/
namespace Go.AX
open Go.RowKit

variable {cx : Cx} {g : Nat → Value} {σ σ' : St} {a : Act} {w w' : World} {nx : Nat} {c : Code} {Q : Exit → St → Prop}
variable {ty : TypeId} {pos : String} {af : Array Edge} {gd : Option (Nat × Bool)} {d : Nat}
variable {ops : Array Oper} {rest : List Oper} {o : Oper}

theorem SW.s1 {rd wr : List (Key × Val)} (ha : autA cx σ o = some ⟨rd, wr⟩) (h : SW cx ops Q rest (wr ++ σ)) : SW cx ops Q (o :: rest) σ := by
  obtain ⟨dst, op, ty, pos, af, gd⟩ := o
  cases gd with
  | some p => cases ha
  | none =>
    simp only [autA] at ha
    split at ha
    · next hd => 
      obtain ⟨h1, h2⟩ := trA_ok (cx := cx) (ty := ty) (pos := pos) (af := af) (gd := none) hd ha
      exact SW.step rfl ⟨h1, h2⟩ h
    · cases ha
theorem SW.s5 {rd wr : List (Key × Val)} (ho : OA cx σ o ⟨rd, wr⟩) (hg : o.guard = none) (h : SW cx ops Q rest (wr ++ σ)) : SW cx ops Q (o :: rest) σ := SW.step hg ho h
theorem SW.nil (h : Q .normal σ) : SW cx ops Q [] σ := fun a w hs => wpList_nil ⟨σ, hs, h⟩
theorem SW.stut {t : Tr} {l : List Oper} (hs : Stut cx t) (ha : App σ t.rd) (h : SW cx ops Q l (t.wr ++ σ)) : SW cx ops Q l σ := fun a w hsim => h a w (hs σ a w hsim ha)
end Go.AX

/-! AxPin5 -/
/-
  A slice's length where its handle is known; a slice of ours within another's element, told as data there.
-/
namespace Go.AX
open Go.RowKit

variable {cx : Cx} {g : Nat → Value} {σ σ' : St} {a : Act} {w w' : World} {nx : Nat} {c : Code} {Q : Exit → St → Prop}
variable {ty : TypeId} {pos : String} {af : Array Edge} {gd : Option (Nat × Bool)} {d : Nat}

theorem SimG.drop (hG : SimG cx σ a w g nx) (id : Nat) : SimG cx ((.o id, .none) :: σ) a w g nx := by
  have hl := Less.drop ⟨g, nx, hG⟩ id
  have hlat : Later cx g g σ ((.o id, .none) :: σ) w w nx := by
    refine ⟨Ext.refl _ _, Below.refl _ _, fun b hb => ?_, fun j o' _ h => ⟨o', hl.o _ _ h, ?_⟩⟩
    · rcases hb with hb | ⟨j, o, h5, h6⟩
      · exact .inl (.inl hb)
      · exact .inl (.inr ⟨j, o, hl.o _ _ h5, h6⟩)
    · cases o' <;> simp [ObLe]
  exact hG.next hlat ((get_cons_ne (by simp)).trans hG.hnx) (Nat.le_refl _) hG.size hG.defers (Below.refl _ _) (fun j av hj => .inl ⟨hl.s _ _ hj, rfl⟩) (fun j o hj => .inl ⟨hl.o _ _ hj, rfl, fun _ _ => rfl⟩)
    (fun j j' o o' b h1 h2 => hG.sep j j' o o' b (hl.o _ _ h1) (hl.o _ _ h2))

end Go.AX

/-! AxFnD -/
/-
  Pointers, maps and closures told as data; closures made and called.
-/
namespace Go.AX
open Go.RowKit

variable {cx : Cx} {g : Nat → Value} {σ σ' : St} {a : Act} {w w' : World} {nx : Nat}
variable {ty : TypeId} {pos : String} {af : Array Edge} {gd : Option (Nat × Bool)} {d : Nat}

/-! ### As data -/
/-- A pointer to cells that stay. -/
def refP (ds : List D) (w : World) (own : Nat → Prop) (v : Value) : Prop := ∃ ad : Addr, v = .pointer (some ad) ∧ ¬ own ad.block ∧ ad.block < w.heap.size ∧ RdCells w own ad ds
def refD (ds : List D) : D := .x (refP ds)
/-- A map that stays. -/
def mapP (M : List (List UInt8 × Value)) (w : World) (own : Nat → Prop) (v : Value) : Prop := ∃ b es clock, v = .map (some b) ∧ ¬ own b ∧ b < w.heap.size ∧ w.heap[b]? = some (.map es clock) ∧ MapIs es M
def mapD (M : List (List UInt8 × Value)) : D := .x (mapP M)
theorem rd_x {own : Nat → Prop} {v : Value} {p : World → (Nat → Prop) → Value → Prop} (h : Rd w own v (.x p)) : p w own v := by
  generalize hD : D.x p = D0 at h
  cases h with
  | v => cases hD
  | sl => cases hD
  | agg => cases hD
  | nil => cases hD
  | x p v h1 hst hp => cases hD; exact hp
/-! ### A pointer to cells that stay -/
/-! ### Closures -/
/-- What is captured, as a function's arguments. -/
inductive Caps : List D → List Arg → Prop
  | nil : Caps [] []
  | ref {cs ds : List D} {zs : List Arg} (h : Caps ds zs) : Caps (refD cs :: ds) (.pd cs :: zs)
  | d {x : D} {ds : List D} {zs : List Arg} (h : Caps ds zs) : Caps (x :: ds) (.d x :: zs)
theorem Caps.ok {own : Nat → Prop} {ds : List D} {zs : List Arg} (h : Caps ds zs) : ∀ {vs : List Value}, vs.length = ds.length → (∀ (j : Nat) (x : D) (c : Value), ds[j]? = some x → vs[j]? = some c → Rd w own c x) → ArgsOk w own vs zs := by
  induction h with
  | nil =>
    intro vs hl _
    obtain rfl : vs = [] := List.eq_nil_of_length_eq_zero hl
    trivial
  | @ref cs ds zs h ih =>
    intro vs hl hr
    cases vs with
    | nil => simp at hl
    | cons v vs =>
      obtain ⟨ad, h1, _, h2, h3⟩ := rd_x (hr 0 _ v rfl rfl)
      exact ⟨⟨ad, h1, h2, h3⟩, ih (by simpa using hl) fun j x c hj hc => hr (j + 1) x c (by simpa using hj) (by simpa using hc)⟩
  | @d x ds zs h ih =>
    intro vs hl hr
    cases vs with
    | nil => simp at hl
    | cons v vs => exact ⟨hr 0 _ v rfl rfl, ih (by simpa using hl) fun j x c hj hc => hr (j + 1) x c (by simpa using hj) (by simpa using hc)⟩
/-- The same, where a map of ours lies in a captured box: told as data to who is called. -/
inductive CapsM (x0 : Value) (M : List (List UInt8 × Value)) : List D → List Arg → Prop
  | nil : CapsM x0 M [] []
  | map {ds : List D} {zs : List Arg} (h : CapsM x0 M ds zs) : CapsM x0 M (refD [.v x0] :: ds) (.pd [mapD M] :: zs)
  | ref {cs ds : List D} {zs : List Arg} (h : CapsM x0 M ds zs) : CapsM x0 M (refD cs :: ds) (.pd cs :: zs)
theorem CapsM.ok {own own' : Nat → Prop} {x0 : Value} {M : List (List UInt8 × Value)} (ho : ∀ b, own' b → own b) (hm : Rd w own' x0 (mapD M)) {ds : List D} {zs : List Arg} (h : CapsM x0 M ds zs) :
    ∀ {vs : List Value}, vs.length = ds.length → (∀ (j : Nat) (x : D) (c : Value), ds[j]? = some x → vs[j]? = some c → Rd w own c x) → ArgsOk w own' vs zs := by
  induction h with
  | nil =>
    intro vs hl _
    obtain rfl : vs = [] := List.eq_nil_of_length_eq_zero hl
    trivial
  | @map ds zs h ih =>
    intro vs hl hr
    cases vs with
    | nil => simp at hl
    | cons v vs =>
      obtain ⟨ad, h1, _, h2, h3⟩ := rd_x (hr 0 _ v rfl rfl)
      refine ⟨⟨ad, h1, h2, fun j z hz => ?_⟩, ih (by simpa using hl) fun j x c hj hc => hr (j + 1) x c (by simpa using hj) (by simpa using hc)⟩
      cases j with
      | zero =>
        simp at hz; subst hz
        obtain ⟨u, h4, h5, h6⟩ := h3 0 _ rfl
        rw [rd_v h6] at h4 h5
        exact ⟨x0, h4, h5, hm⟩
      | succ j => simp at hz
  | @ref cs ds zs h ih =>
    intro vs hl hr
    cases vs with
    | nil => simp at hl
    | cons v vs =>
      obtain ⟨ad, h1, _, h2, h3⟩ := rd_x (hr 0 _ v rfl rfl)
      exact ⟨⟨ad, h1, h2, fun j z hz => by obtain ⟨u, h4, h5, h6⟩ := h3 j z hz; exact ⟨u, h4, h5, h6.less ho⟩⟩, ih (by simpa using hl) fun j x c hj hc => hr (j + 1) x c (by simpa using hj) (by simpa using hc)⟩
/-! ### Maps of ours -/
end Go.AX

/-! AxErr -/
/-
  Errors that are some, held against nil.
-/
namespace Go.AX
open Go.RowKit

variable {cx : Cx} {g : Nat → Value} {σ σ' : St} {a : Act} {w w' : World} {nx : Nat}
variable {ty : TypeId} {pos : String} {af : Array Edge} {gd : Option (Nat × Bool)} {d : Nat}

/-- Some error. -/
def errP (_w : World) (_own : Nat → Prop) (v : Value) : Prop := ∃ t p, v = .iface t p
def errD : D := .x errP
theorem err_stable : Stable errP := fun _ _ _ _ _ _ _ h => h
theorem rd_err {own : Nat → Prop} {t : TypeId} {p : Value} : Rd w own (.iface t p) errD := .x errP _ rfl err_stable ⟨t, p, rfl⟩
theorem a_err {t t' : TypeId} {x : Operand} {ms : Array (String × TypeId)} (hx : ev σ x = some (.d errD)) (ht : cx.P.underlying t = some (.interface ms)) (hd : Nat.blt d cx.n = true) :
    OA cx σ ⟨some d, .binOp .eql t x (.const .nilIface) t', ty, pos, af, gd⟩ ⟨rdOf x (.d errD), [(.s d, .av (.d (.v (.bool false))))]⟩ := by
  refine ⟨ok_val rfl (lt_of_blt hd) fun σ1 a w g nx hs hr => ?_, (ev_out hx).2⟩
  obtain ⟨t1, p1, hv⟩ := rd_x (hs.ev (ev_out hx).1 hr).1
  refine ⟨.bool false, w, ?_, Below.refl _ _, Rd.v _, trivial⟩
  have h : ∀ d : Nat, (Op.equalIn (d + 1) t (.iface t1 p1) .nilIface).run cx.P w = .ok false w := fun d => by
    simp [Op.equalIn, run_underlying ht]
  have hg : eqGuard .eql t x (.const .nilIface) (.iface t1 p1) .nilIface = pure () := by cases x <;> rfl
  have hc : a.eval (.const .nilIface) = .nilIface := rfl
  simp [execOp, hv, hc, hg, binOp, Op.equal, Op.maxDepth, h 9999]

end Go.AX

/-! H6 -/
/-
  Contracts of Atoi and Itoa at whatever text and number; of the references' num and the program's number.
-/
namespace Go.Proofs.YtfaaghkgfbhglaaDoor
open Go.AX Go.RF Go.RowKit

set_option maxRecDepth 100000
set_option maxHeartbeats 4000000

/-- The number that Atoi tells, with an error or without. -/
def atoiV (s : Str) : Int := match Lib.atoiAll s with
  | .ok v => v
  | .range => Lib.atoiSat s
  | _ => 0
def atoiE (s : Str) : D := match Lib.atoiAll s with
  | .ok _ => .v .nilIface
  | _ => errD
theorem tup2 {w : World} {own : Nat → Prop} {u v : Value} {x y : D} (h1 : Rd w own u x) (h2 : Rd w own v y) : ResOk w own (.tuple #[u, v]) (.tup [x, y]) := by
  refine ⟨_, rfl, rfl, fun j c z hj hc => ?_⟩
  match j, hj, hc with
  | 0, hj, hc => simp at hj hc; subst hj hc; exact h1
  | 1, hj, hc => simp at hj hc; subst hj hc; exact h2
  | j + 2, hj, hc => simp at hj
theorem ok_atoiG (s : Str) (hs : s.length ≤ 1073741824) : FnOk Tryd.prog 41 [.d (dstr s)] (.tup [dint (atoiV s), atoiE s]) := by
  refine ⟨⟨_, Tryd.func41, by kernel_rfl, by kernel_rfl⟩, fun w own vs hown ha => ?_⟩
  match vs, ha with
  | [x], ⟨h1, _⟩ =>
    obtain rfl : x = str s := rd_v h1
    have hsz : (⟨s.toArray⟩ : ByteArray).size = s.length := by show s.toArray.size = _; simp
    cases hc : Lib.atoiAll s with
    | ok v =>
      refine (Any.strconv_Atoi_ok Tryd.laysC172 ⟨s.toArray⟩ (by rw [hsz]; omega) v (by simpa using hc) w).mono fun e w' he => ?_
      obtain ⟨rfl, hw⟩ := he
      refine ⟨_, rfl, ?_, ?_⟩
      · rcases hw with rfl | ⟨t, rfl⟩
        · exact Below.refl _ _
        · exact Lib.bytesWorld_below _ _ _
      · unfold atoiV atoiE; rw [hc]; exact tup2 (Rd.v _) (Rd.v _)
    | range =>
      obtain ⟨cs, hv, tp, p, rfl⟩ := hown.2.er _ Tryd.laysC172.m16
      refine (Any.strconv_Atoi_range_var Tryd.laysC172 ⟨s.toArray⟩ (by rw [hsz]; omega) (by simpa using hc) tp p w hv).mono fun e w' he => ?_
      obtain ⟨N, rfl, _, _, hb⟩ := he
      refine ⟨_, rfl, hb, ?_⟩
      unfold atoiV atoiE; rw [hc]; exact tup2 (Rd.v _) rd_err
    | _ =>
      obtain ⟨cs, hv, tp, p, rfl⟩ := hown.2.es _ Tryd.laysC172.m15
      refine (Any.strconv_Atoi_syntax_var Tryd.laysC172 ⟨s.toArray⟩ (by rw [hsz]; omega) (by simpa using hc) tp p w hv).mono fun e w' he => ?_
      obtain ⟨N, rfl, _, _, hb⟩ := he
      refine ⟨_, rfl, hb, ?_⟩
      unfold atoiV atoiE; rw [hc]; exact tup2 (Rd.v _) rd_err
theorem ok_itoaG (n : Int) (h0 : -9223372036854775808 ≤ n) (h1 : n ≤ 9223372036854775807) : FnOk Tryd.prog 15 [.d (dint n)] (.one (dstr (Lib.itoa n))) := by
  refine ⟨⟨_, Tryd.func15, by kernel_rfl, by kernel_rfl⟩, fun w own vs hown ha => ?_⟩
  match vs, ha with
  | [x], ⟨h2, _⟩ =>
    obtain rfl : x = i64 n := rd_v h2
    have htab : Lib.TabIs Tryd.prog w "internal/strconv.uint64pow10" .u64 Lib.pow10Tab := by
      obtain ⟨cs, hv, rfl⟩ := hown.2.pow _ Tryd.laysM171.m17
      exact hv
    refine (Any.strconv_Itoa Tryd.laysM171 n h0 h1 w htab).mono fun e w' he => ?_
    obtain ⟨rfl, k, os, rfl⟩ := he
    refine ⟨_, rfl, ?_, Rd.v _⟩
    exact ⟨rfl, rfl, rfl, (by show w.heap.size ≤ (w.heap ++ os).size; simp), fun k hk => (by show (w.heap ++ os)[k]? = w.heap[k]?; exact Array.getElem?_append_left hk)⟩
theorem atoi_in {s : Str} {v : Int} (h : Lib.atoiAll s = .ok v) : -9223372036854775808 ≤ v ∧ v ≤ 9223372036854775807 := Lib.atoiAll_bounds h
end Go.Proofs.YtfaaghkgfbhglaaDoor

/-! Tx2 -/
/-
  What Parse answers of whatever text, and Print of a deed, on data.
-/
namespace Go.RF
open Go.AX

def noDeed : Deed := ⟨[], [], []⟩
/-- The instruction of words, or what is wrong. -/
def insE (l : List Str) : Except Int Ins := match l with
  | [] => .error 1
  | w :: ws => if kindOf w = 0 then .error 1 else if ws.length = (form (kindOf w).toNat).length then (match fillI ⟨kindOf w, 0, 0, 0, []⟩ (form (kindOf w).toNat) ws with
    | some i => .ok i
    | none => .error 2) else .error 2
def codeE : List Str → Except Int (List Ins)
  | [] => .ok []
  | p :: r => match insE (split p [32]) with
    | .error e => .error e
    | .ok i => match codeE r with
      | .error e => .error e
      | .ok l => .ok (i :: l)
def wReads : Str := [114, 101, 97, 100, 115]
def wWrites : Str := [119, 114, 105, 116, 101, 115]
/-- A text read: a right deed, or what is wrong. -/
def parseE (s : Str) : Except Int Deed :=
  if 400 < s.length then .error 4 else match split s [59, 32] with
    | p0 :: p1 :: ps => if (split p0 [32]).head? = some wReads then (if (split p1 [32]).head? = some wWrites then (match codeE ps with
        | .error e => .error e
        | .ok code => if wrongDeed ⟨(split p0 [32]).tail, (split p1 [32]).tail, code⟩ = 0 then .ok ⟨(split p0 [32]).tail, (split p1 [32]).tail, code⟩ else .error (wrongDeed ⟨(split p0 [32]).tail, (split p1 [32]).tail, code⟩)) else .error 2) else .error 2
    | _ => .error 8
def resE : Except Int Deed → Deed × Int
  | .ok d => (d, 0)
  | .error e => (noDeed, e)
def parseR (s : Str) : Deed × Int := resE (parseE s)

/-- Words of an instruction's fields. -/
def fieldW (i : Ins) (c : UInt8) : Str := if c = 114 then 114 :: Lib.itoa i.a else if c = 115 then 114 :: Lib.itoa i.b else if c = 110 then Lib.itoa i.n else i.key
def insW (i : Ins) : List Str := words.getD i.kind.toNat [] :: (form i.kind.toNat).map (fieldW i)
def joinS (sep : Str) : List Str → Str
  | [] => []
  | [w] => w
  | w :: r => w ++ (sep ++ joinS sep r)
def partsD (d : Deed) : List Str := joinS [32] (wReads :: d.reads) :: joinS [32] (wWrites :: d.writes) :: d.code.map fun i => joinS [32] (insW i)
/-- A deed's text. -/
def printD (d : Deed) : Str := joinS [59, 32] (partsD d)

/-- What is left to be read, behind what was. -/
def finE (rs ws : List Str) (acc : List Ins) (rest : List Str) : Except Int Deed := match codeE rest with
  | .error e => .error e
  | .ok cs => if wrongDeed ⟨rs, ws, acc ++ cs⟩ = 0 then .ok ⟨rs, ws, acc ++ cs⟩ else .error (wrongDeed ⟨rs, ws, acc ++ cs⟩)
theorem parseE_fin {s p0 p1 w0 w1 : Str} {ps rs ws : List Str} (hs : s.length ≤ 400) (h : split s [59, 32] = p0 :: p1 :: ps) (h0 : split p0 [32] = w0 :: rs) (h1 : split p1 [32] = w1 :: ws) :
    parseE s = if w0 = wReads then (if w1 = wWrites then finE rs ws [] ps else .error 2) else .error 2 := by
  unfold parseE finE
  rw [if_neg (by omega), h]
  simp only [h0, h1, List.head?_cons, List.tail_cons, List.nil_append, Option.some.injEq]
theorem finE_cons {rs ws : List Str} {acc : List Ins} {p : Str} {rest : List Str} : finE rs ws acc (p :: rest) = match insE (split p [32]) with
    | .error e => .error e
    | .ok i => finE rs ws (acc ++ [i]) rest := by
  unfold finE
  simp only [codeE]
  cases insE (split p [32]) with
  | error e => rfl
  | ok i =>
    cases codeE rest with
    | error e => rfl
    | ok l => simp only [List.append_assoc, List.singleton_append]
theorem insE_fill {w : Str} {ws : List Str} (h0 : kindOf w ≠ 0) (hl : ws.length = (form (kindOf w).toNat).length) : insE (w :: ws) = match fillI ⟨kindOf w, 0, 0, 0, []⟩ (form (kindOf w).toNat) ws with
    | some i => .ok i
    | none => .error 2 := by
  simp only [insE]
  rw [if_neg h0, if_pos hl]

end Go.RF

/-! Eq2 -/
/-
  Ends held against each other.
-/
namespace Go.Proofs.YtfaaghkgfbhglaaDoor
open Go.AX Go.RF

theorem eq_ins (a b : Ins) (w : World) : (Op.equalIn 10000 35 (.agg #[i64 a.kind, i64 a.a, i64 a.b, i64 a.n, str a.key]) (.agg #[i64 b.kind, i64 b.a, i64 b.b, i64 b.n, str b.key])).run Tryd.prog w = .ok (decide (a = b)) w := by
  rw [run_equalIn_agg (P := Tryd.prog) w 9999 35 _ _ (by kernel_rfl) (by kernel_rfl)]
  obtain ⟨k1, a1, b1, n1, s1⟩ := a
  obtain ⟨k2, a2, b2, n2, s2⟩ := b
  simp only [Program.fieldsOf, Tryd.underlying35, Op.eqFields]
  simp [part, Tryd.isAgg9, Tryd.isAgg3, str, run_equalIn_string, run_equalIn_int, Tryd.underlying9, Tryd.underlying3]
  by_cases e1 : k1 = k2 <;> by_cases e2 : a1 = a2 <;> by_cases e3 : b1 = b2 <;> by_cases e4 : n1 = n2 <;> by_cases e5 : s1 = s2 <;> simp [e1, e2, e3, e4, e5]
theorem neq_ins (a b : Ins) : BinR Tryd.prog .neq 35 (.agg #[i64 a.kind, i64 a.a, i64 a.b, i64 a.n, str a.key]) (.agg #[i64 b.kind, i64 b.a, i64 b.b, i64 b.n, str b.key]) (.bool (!decide (a = b))) := by
  intro w x y
  rw [Sem.run_bind, run_eqGuard_agg _ _ _ _ _ _ _ (by kernel_rfl), Result.andThen_ok, run_neq_struct, eq_ins]
  rfl

end Go.Proofs.YtfaaghkgfbhglaaDoor

/-! F1 -/
/-
  Contracts of the references' small functions on data: lists held against each other.
-/
namespace Go.Proofs.YtfaaghkgfbhglaaDoor
open Go.AX Go.RF

set_option maxRecDepth 100000

theorem ok_SameTexts (l r : List Str) (hl : l.length ≤ 1073741824) : FnOk Tryd.prog 20 [.d (encStrs l), .d (encStrs r)] (.one (dbool (allB (fun a b => decide (a = b)) l r))) := by
  refine fnOk_of tbl_ok mixed_ok Tryd.func20 rfl (by kernel_rfl) rfl rfl fun w0 own0 => ?_
  by_cases hlen : l.length = r.length
  ·
    repeat (first|((with_reducible apply s1); exact rfl)|(with_reducible first|apply CW.seq|apply CW.block|apply CW.region|apply CW.draw|apply CW.skip|apply CW.exit|apply CW.ret|apply q_then|apply q_then_exit|apply q_then_ret|apply q_block|apply q_block_ret|apply q_block_hit|apply q_ret|apply q_end|apply q_loop_exit|apply q_loop_ret|apply q_loopT_exit|apply q_loopT_ret|apply RW.nil)|((with_reducible apply s3); exact rfl; exact by_k)|((with_reducible apply s2); exact rfl; exact by_k)|((with_reducible apply s4); exact rfl)|((with_reducible apply s5); exact by_oa; exact by_g)|((with_reducible apply CW.cond_t); exact rfl; exact by_ks)|((with_reducible apply CW.cond_f); exact rfl; exact by_ks)|((with_reducible apply q_block_miss); exact rfl)|(refine And.intro (show chk [] [] _ _ = true by kernel_rfl) ?_))
    refine CW.loop (fun k => [(.s 0, .av (.d (encStrs l))), (.s 1, .av (.d (encStrs r))), (.s 11, .av (.d (encStrs l))), (.s 12, .av (.d (dint l.length))), (.s 13, .av (.d (dint k))), (.nx, .num 0)]) (agree (fun a b => decide (a = b)) l r) ?_ fun k hk => ?_
    ·
      exact by_less
    · rcases agree_case hlen hk with ⟨h1, h1', a, b, h2, h3, h4⟩ | ⟨h1, h2⟩ | ⟨h1, h2, a, b, h3, h4, h5⟩
      · replace h4 : a = b := by simpa using h4
        repeat (first|((with_reducible apply s1); exact rfl)|(with_reducible first|apply CW.seq|apply CW.block|apply CW.region|apply CW.draw|apply CW.skip|apply CW.exit|apply CW.ret|apply q_then|apply q_then_exit|apply q_then_ret|apply q_block|apply q_block_ret|apply q_block_hit|apply q_ret|apply q_end|apply q_loop_exit|apply q_loop_ret|apply q_loopT_exit|apply q_loopT_ret|apply RW.nil)|((with_reducible apply s3); exact rfl; exact by_k)|((with_reducible apply s2); exact rfl; exact by_k)|((with_reducible apply s4); exact rfl)|((with_reducible apply s5); exact by_oa; exact by_g)|((with_reducible apply CW.cond_t); exact rfl; exact by_ks)|((with_reducible apply CW.cond_f); exact rfl; exact by_ks)|((with_reducible apply q_block_miss); exact rfl)|(refine And.intro (show chk [] [] _ _ = true by kernel_rfl) ?_))
        refine q_loop h1 ?_
        exact by_less
      ·
        repeat (first|((with_reducible apply s1); exact rfl)|(with_reducible first|apply CW.seq|apply CW.block|apply CW.region|apply CW.draw|apply CW.skip|apply CW.exit|apply CW.ret|apply q_then|apply q_then_exit|apply q_then_ret|apply q_block|apply q_block_ret|apply q_block_hit|apply q_ret|apply q_end|apply q_loop_exit|apply q_loop_ret|apply q_loopT_exit|apply q_loopT_ret|apply RW.nil)|((with_reducible apply s3); exact rfl; exact by_k)|((with_reducible apply s2); exact rfl; exact by_k)|((with_reducible apply s4); exact rfl)|((with_reducible apply s5); exact by_oa; exact by_g)|((with_reducible apply CW.cond_t); exact rfl; exact by_ks)|((with_reducible apply CW.cond_f); exact rfl; exact by_ks)|((with_reducible apply q_block_miss); exact rfl)|(refine And.intro (show chk [] [] _ _ = true by kernel_rfl) ?_))
        exact .one (.tmp rfl (.one (.d (dle_bool h2.symm))))
      · replace h5 : ¬ a = b := by simpa using h5
        repeat (first|((with_reducible apply s1); exact rfl)|(with_reducible first|apply CW.seq|apply CW.block|apply CW.region|apply CW.draw|apply CW.skip|apply CW.exit|apply CW.ret|apply q_then|apply q_then_exit|apply q_then_ret|apply q_block|apply q_block_ret|apply q_block_hit|apply q_ret|apply q_end|apply q_loop_exit|apply q_loop_ret|apply q_loopT_exit|apply q_loopT_ret|apply RW.nil)|((with_reducible apply s3); exact rfl; exact by_k)|((with_reducible apply s2); exact rfl; exact by_k)|((with_reducible apply s4); exact rfl)|((with_reducible apply s5); exact by_oa; exact by_g)|((with_reducible apply CW.cond_t); exact rfl; exact by_ks)|((with_reducible apply CW.cond_f); exact rfl; exact by_ks)|((with_reducible apply q_block_miss); exact rfl)|(refine And.intro (show chk [] [] _ _ = true by kernel_rfl) ?_))
        exact .one (.tmp rfl (.one (.d (dle_bool h2.symm))))
  ·
    repeat (first|((with_reducible apply s1); exact rfl)|(with_reducible first|apply CW.seq|apply CW.block|apply CW.region|apply CW.draw|apply CW.skip|apply CW.exit|apply CW.ret|apply q_then|apply q_then_exit|apply q_then_ret|apply q_block|apply q_block_ret|apply q_block_hit|apply q_ret|apply q_end|apply q_loop_exit|apply q_loop_ret|apply q_loopT_exit|apply q_loopT_ret|apply RW.nil)|((with_reducible apply s3); exact rfl; exact by_k)|((with_reducible apply s2); exact rfl; exact by_k)|((with_reducible apply s4); exact rfl)|((with_reducible apply s5); exact by_oa; exact by_g)|((with_reducible apply CW.cond_t); exact rfl; exact by_ks)|((with_reducible apply CW.cond_f); exact rfl; exact by_ks)|((with_reducible apply q_block_miss); exact rfl)|(refine And.intro (show chk [] [] _ _ = true by kernel_rfl) ?_))
    refine .one (.tmp rfl (.one (.d (dle_bool ?_))))
    cases hb : allB (fun a b => decide (a = b)) l r
    · rfl
    · exact absurd (allB_len hb) hlen

end Go.Proofs.YtfaaghkgfbhglaaDoor

/-! F6 -/
/-
  Contracts of the references' functions that hold lists of ends, deeds, chains against each other.
-/
namespace Go.Proofs.YtfaaghkgfbhglaaDoor
open Go.AX Go.RF

set_option maxRecDepth 100000
set_option maxHeartbeats 4000000

theorem ok_sameDeed (d e : Deed) (hr : d.reads.length ≤ 268435456) (hw : d.writes.length ≤ 268435456) (hc : d.code.length ≤ 268435456) :
    FnOk Tryd.prog 8 [.d (.agg d.enc), .d (.agg e.enc)] (.one (dbool (decide (d = e)))) := by
  refine fnOk_of tbl_ok mixed_ok Tryd.func8 rfl (by kernel_rfl) rfl rfl fun w0 own0 => ?_
  have c1 := ok_SameTexts d.reads e.reads (by omega)
  have c2 := ok_SameTexts d.writes e.writes (by omega)
  rw [allB_eq (fun a b => rfl)] at c1 c2
  obtain ⟨dr, dw, dc⟩ := d
  obtain ⟨er, ew, ec⟩ := e
  dsimp only at hr hw hc c1 c2
  by_cases e1 : dr = er
  · by_cases e2 : dw = ew
    · by_cases hlen : dc.length = ec.length
      ·
        repeat (first|((with_reducible apply s1); exact rfl)|(with_reducible first|apply CW.seq|apply CW.block|apply CW.region|apply CW.draw|apply CW.skip|apply CW.exit|apply CW.ret|apply q_then|apply q_then_exit|apply q_then_ret|apply q_block|apply q_block_ret|apply q_block_hit|apply q_ret|apply q_end|apply q_loop_exit|apply q_loop_ret|apply q_loopT_exit|apply q_loopT_ret|apply RW.nil)|((with_reducible apply s3); exact rfl; exact by_k)|((with_reducible apply s2); exact rfl; exact by_k)|((with_reducible apply s4); exact rfl)|((with_reducible apply s5); (first|exact a_call c1 rfl by_sub|exact a_call c2 rfl by_sub|exact by_oa); exact by_g)|((with_reducible apply CW.cond_t); exact rfl; exact by_ks)|((with_reducible apply CW.cond_f); exact rfl; exact by_ks)|((with_reducible apply q_block_miss); exact rfl)|(refine And.intro (show chk [] [] _ _ = true by kernel_rfl) ?_))
        refine CW.loop (fun k => [(.s 2, .av (.ptr 0 0)), (.o 0, .ob (.box ((Deed.enc ⟨dr, dw, dc⟩).map AV.d))), (.s 3, .av (.ptr 1 0)), (.o 1, .ob (.box ((Deed.enc ⟨er, ew, ec⟩).map AV.d))), (.s 31, .av (.d (dint dc.length))), (.s 32, .av (.d (dint k))), (.nx, .num 2)]) (agree (fun a b => decide (a = b)) dc ec) ?_ fun k hk => ?_
        ·
          exact by_less
        · rcases agree_case hlen hk with ⟨h1, h1', a, b, h2, h3, h4⟩ | ⟨h1, h2⟩ | ⟨h1, h2, a, b, h3, h4, h5⟩
          · replace h4 : a = b := by simpa using h4
            repeat (first|((with_reducible apply s1); exact rfl)|(with_reducible first|apply CW.seq|apply CW.block|apply CW.region|apply CW.draw|apply CW.skip|apply CW.exit|apply CW.ret|apply q_then|apply q_then_exit|apply q_then_ret|apply q_block|apply q_block_ret|apply q_block_hit|apply q_ret|apply q_end|apply q_loop_exit|apply q_loop_ret|apply q_loopT_exit|apply q_loopT_ret|apply RW.nil)|((with_reducible apply s3); exact rfl; exact by_k)|((with_reducible apply s2); exact rfl; exact by_k)|((with_reducible apply s4); exact rfl)|((with_reducible apply s5); (first|((with_reducible apply a_agg); exact neq_ins a b; (iterate 5 exact rfl))|exact by_oa); exact by_g)|((with_reducible apply CW.cond_t); exact rfl; exact by_ks)|((with_reducible apply CW.cond_f); exact rfl; exact by_ks)|((with_reducible apply q_block_miss); exact rfl)|(refine And.intro (show chk [] [] _ _ = true by kernel_rfl) ?_))
            refine q_loop h1 ?_
            exact by_less
          ·
            repeat (first|((with_reducible apply s1); exact rfl)|(with_reducible first|apply CW.seq|apply CW.block|apply CW.region|apply CW.draw|apply CW.skip|apply CW.exit|apply CW.ret|apply q_then|apply q_then_exit|apply q_then_ret|apply q_block|apply q_block_ret|apply q_block_hit|apply q_ret|apply q_end|apply q_loop_exit|apply q_loop_ret|apply q_loopT_exit|apply q_loopT_ret|apply RW.nil)|((with_reducible apply s3); exact rfl; exact by_k)|((with_reducible apply s2); exact rfl; exact by_k)|((with_reducible apply s4); exact rfl)|((with_reducible apply s5); exact by_oa; exact by_g)|((with_reducible apply CW.cond_t); exact rfl; exact by_ks)|((with_reducible apply CW.cond_f); exact rfl; exact by_ks)|((with_reducible apply q_block_miss); exact rfl)|(refine And.intro (show chk [] [] _ _ = true by kernel_rfl) ?_))
            rw [allB_eq (fun a b => rfl)] at h2
            exact .one (.tmp rfl (.one (.d (dle_bool (by simp at h2; simp [e1, e2, h2])))))
          · replace h5 : ¬ a = b := by simpa using h5
            repeat (first|((with_reducible apply s1); exact rfl)|(with_reducible first|apply CW.seq|apply CW.block|apply CW.region|apply CW.draw|apply CW.skip|apply CW.exit|apply CW.ret|apply q_then|apply q_then_exit|apply q_then_ret|apply q_block|apply q_block_ret|apply q_block_hit|apply q_ret|apply q_end|apply q_loop_exit|apply q_loop_ret|apply q_loopT_exit|apply q_loopT_ret|apply RW.nil)|((with_reducible apply s3); exact rfl; exact by_k)|((with_reducible apply s2); exact rfl; exact by_k)|((with_reducible apply s4); exact rfl)|((with_reducible apply s5); (first|((with_reducible apply a_agg); exact neq_ins a b; (iterate 5 exact rfl))|exact by_oa); exact by_g)|((with_reducible apply CW.cond_t); exact rfl; exact by_ks)|((with_reducible apply CW.cond_f); exact rfl; exact by_ks)|((with_reducible apply q_block_miss); exact rfl)|(refine And.intro (show chk [] [] _ _ = true by kernel_rfl) ?_))
            rw [allB_eq (fun a b => rfl)] at h2
            exact .one (.tmp rfl (.one (.d (dle_bool (by simp at h2; simp [h2])))))
      ·
        repeat (first|((with_reducible apply s1); exact rfl)|(with_reducible first|apply CW.seq|apply CW.block|apply CW.region|apply CW.draw|apply CW.skip|apply CW.exit|apply CW.ret|apply q_then|apply q_then_exit|apply q_then_ret|apply q_block|apply q_block_ret|apply q_block_hit|apply q_ret|apply q_end|apply q_loop_exit|apply q_loop_ret|apply q_loopT_exit|apply q_loopT_ret|apply RW.nil)|((with_reducible apply s3); exact rfl; exact by_k)|((with_reducible apply s2); exact rfl; exact by_k)|((with_reducible apply s4); exact rfl)|((with_reducible apply s5); (first|exact a_call c1 rfl by_sub|exact a_call c2 rfl by_sub|exact by_oa); exact by_g)|((with_reducible apply CW.cond_t); exact rfl; exact by_ks)|((with_reducible apply CW.cond_f); exact rfl; exact by_ks)|((with_reducible apply q_block_miss); exact rfl)|(refine And.intro (show chk [] [] _ _ = true by kernel_rfl) ?_))
        exact .one (.tmp rfl (.one (.d (dle_bool (by have : dc ≠ ec := fun h => hlen (by rw [h]); simp [this])))))
    ·
      repeat (first|((with_reducible apply s1); exact rfl)|(with_reducible first|apply CW.seq|apply CW.block|apply CW.region|apply CW.draw|apply CW.skip|apply CW.exit|apply CW.ret|apply q_then|apply q_then_exit|apply q_then_ret|apply q_block|apply q_block_ret|apply q_block_hit|apply q_ret|apply q_end|apply q_loop_exit|apply q_loop_ret|apply q_loopT_exit|apply q_loopT_ret|apply RW.nil)|((with_reducible apply s3); exact rfl; exact by_k)|((with_reducible apply s2); exact rfl; exact by_k)|((with_reducible apply s4); exact rfl)|((with_reducible apply s5); (first|exact a_call c1 rfl by_sub|exact a_call c2 rfl by_sub|exact by_oa); exact by_g)|((with_reducible apply CW.cond_t); exact rfl; exact by_ks)|((with_reducible apply CW.cond_f); exact rfl; exact by_ks)|((with_reducible apply q_block_miss); exact rfl)|(refine And.intro (show chk [] [] _ _ = true by kernel_rfl) ?_))
      exact .one (.tmp rfl (.one (.d (dle_bool (by simp [e2])))))
  ·
    repeat (first|((with_reducible apply s1); exact rfl)|(with_reducible first|apply CW.seq|apply CW.block|apply CW.region|apply CW.draw|apply CW.skip|apply CW.exit|apply CW.ret|apply q_then|apply q_then_exit|apply q_then_ret|apply q_block|apply q_block_ret|apply q_block_hit|apply q_ret|apply q_end|apply q_loop_exit|apply q_loop_ret|apply q_loopT_exit|apply q_loopT_ret|apply RW.nil)|((with_reducible apply s3); exact rfl; exact by_k)|((with_reducible apply s2); exact rfl; exact by_k)|((with_reducible apply s4); exact rfl)|((with_reducible apply s5); (first|exact a_call c1 rfl by_sub|exact a_call c2 rfl by_sub|exact by_oa); exact by_g)|((with_reducible apply CW.cond_t); exact rfl; exact by_ks)|((with_reducible apply CW.cond_f); exact rfl; exact by_ks)|((with_reducible apply q_block_miss); exact rfl)|(refine And.intro (show chk [] [] _ _ = true by kernel_rfl) ?_))
    exact .one (.tmp rfl (.one (.d (dle_bool (by simp [e1])))))

end Go.Proofs.YtfaaghkgfbhglaaDoor
