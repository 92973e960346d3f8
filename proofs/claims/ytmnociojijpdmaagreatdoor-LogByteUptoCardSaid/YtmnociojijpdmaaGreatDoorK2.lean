/-
  Part 2 of what the claim leans on: AxA AxOwn AxMore AxBy Md Sh0 AxOpen AxLaw Rf Rf2 Srt AxDec Rp AxDec2 AxPin AxNews AxApp AxBld AxBsO AxByt AxDec3 Tx Tx2 Tb F2 F5 F14 F17 F15 F19 F20 P14.
-/
import Derived.Test.YtmnociojijpdmaaGreatDoorK1
import Derived.Lib.SliceRun
import Derived.ProofKit
import Derived.Test.YtmnociojijpdmaaGreatDoorRows
import Derived.Deep.Slices
import Derived.Carry
import Derived.JoinedCond
import Derived.OpenShut
import Derived.Lib.AppendStr
import Derived.Lib.ConvBytes
import Derived.Laws.BytesString
import Derived.Lib.AtoiAll
import Derived.Lib.ItoaNum
import Derived.Test.YtmnociojijpdmaaGreatDoorProg
import Derived.KernelRfl
import Derived.Lib.ItoaLen
set_option linter.all false

namespace Go.AX
open Go.RowKit
def cmpI : BinOp → Int → Int → Option Bool
 | .lss,a,b => some (decide (a < b))
 | .leq,a,b => some (decide (a ≤ b))
 | .gtr,a,b => some (decide (b < a))
 | .geq,a,b => some (decide (b ≤ a))
 | .eql,a,b => some (decide (a = b))
 | .neq,a,b => some (!decide (a = b))
 | _,_,_ => none
def cmpS : BinOp → List UInt8 → List UInt8 → Option Bool
 | .lss,a,b => some (Op.bytesLess a b)
 | .leq,a,b => some (Op.bytesLess a b || decide (a = b))
 | .gtr,a,b => some (!(Op.bytesLess a b || decide (a = b)))
 | .geq,a,b => some (!Op.bytesLess a b)
 | .eql,a,b => some (decide (a = b))
 | .neq,a,b => some (!decide (a = b))
 | _,_,_ => none
def cmpA (op : BinOp) (u v : Value) : Option Bool := match u with
 | .int .i64 a => match v with
  | .int .i64 b => cmpI op a b
  | _ => none
 | .int .u8 a => match v with
  | .int .u8 b => cmpI op a b
  | _ => none
 | .int .i32 a => match v with
  | .int .i32 b => cmpI op a b
  | _ => none
 | .string ⟨⟨a⟩⟩ => match v with
  | .string ⟨⟨b⟩⟩ => cmpS op a b
  | _ => none
 | _ => none
def gbox (σ : St) (id : Nat) : Option (List AV) := match get σ (.o id) with
 | .ob (.box c) => some c
 | _ => none
def plainA : AV → Bool
 | .tup _ => false
 | _ => true
def valA (T : Tbl) (σ : St) : Op → Option (List (Key × Val) × AV)
 | .move x => (ev σ x).bind fun av => some (rdOf x av,av)
 | .assign x => (ev σ x).bind fun av => some (rdOf x av,av)
 | .unOp .not _ x => (ev σ x).bind fun av => match av with
  | .d (.v (.bool b)) => some (rdOf x (.d (.v (.bool b))),.d (.v (.bool !b)))
  | _ => none
 | .binOp op _ x y _ => (ev σ x).bind fun av => match av with
  | .d (.v u) => (ev σ y).bind fun aw => match aw with
   | .d (.v v) => (cmpA op u v).bind fun r => some (rdOf x (.d (.v u)) ++ rdOf y (.d (.v v)),.d (.v (.bool r)))
   | _ => none
  | _ => none
 | .load t x => (ev σ x).bind fun av => (tget T t).bind fun ti => match av with
  | .pd cells => (ldD ti cells).bind fun y => some (rdOf x (.pd cells),.d y)
  | .ptr id off => (gbox σ id).bind fun cells => (ldA ti (cells.drop off)).bind fun y => some (rdOf x (.ptr id off) ++ [(.o id,.ob (.box cells))],y)
  | _ => none
 | .fieldAddr t x f => (ev σ x).bind fun av => (tget T t).bind fun ti => (fldOff ti f).bind fun off => match av with
  | .pd cells => some (rdOf x (.pd cells),.pd (cells.drop off))
  | .ptr id o0 => (gbox σ id).bind fun cells => some (rdOf x (.ptr id o0) ++ [(.o id,.ob (.box cells))],.ptr id (o0 + off))
  | _ => none
 | .extract x i => (ev σ x).bind fun av => match av with
  | .tup avs => (avs[i]?).bind fun v => match plainA v with
   | true => some (rdOf x (.tup avs),v)
   | false => none
  | _ => none
 | .field t x f => (ev σ x).bind fun av => match av with
  | .d (.agg cells) => (tget T t).bind fun ti => match ti.kind with
   | .st fs => (fs[f]?).bind fun p => match Nat.beq p.2 1 with
    | true => (cells[p.1]?).bind fun y => some (rdOf x (.d (.agg cells)),.d y)
    | false => none
   | _ => none
  | _ => none
 | .call ⟨.builtin .len,⟨[x]⟩,⟨[t]⟩⟩ => (ev σ x).bind fun av => (tget T t).bind fun ti => match av with
  | .d (.sl k rows) => (slK ti).bind fun _ => some (rdOf x (.d (.sl k rows)),.d (.v (.int .i64 rows.length)))
  | .d (.v (.string ⟨⟨l⟩⟩)) => match ti.kind with
   | .str => some (rdOf x (.d (.v (.string ⟨⟨l⟩⟩))),.d (.v (.int .i64 l.length)))
   | _ => none
  | _ => none
 | _ => none
def freeA : AV → Bool
 | .own _ _ => false
 | .ptr _ _ => false
 | .pe _ _ _ _ => false
 | .h _ => false
 | _ => true
def partsA (σ : St) : List (Nat × Operand) → Option (List (Nat × List D) × List (Key × Val))
 | [] => some ([],[])
 | (i,x) :: r => (ev σ x).bind fun av => (dcells av).bind fun ds => (partsA σ r).bind fun q => some ((i,ds) :: q.1,rdOf x av ++ q.2)
def gnum (σ : St) : Option Nat := match get σ .nx with
 | .num n => some n
 | _ => none
def rowsA (k : Nat) : Nat → List (Nat × List D) → Option (List (List D))
 | _,[] => some []
 | i,(j,r) :: q => match Nat.beq i j && Nat.beq r.length k with
  | true => (rowsA k (i + 1) q).bind fun rs => some (r :: rs)
  | false => none
def trA (T : Tbl) (σ : St) (dst : Option Nat) (op : Op) : Option Tr := match dst with
 | some d => match valA T σ op with
  | some (rd,av) => some ⟨rd,[(.s d,.av av)]⟩
  | none => match op with
   | .alloc t => (gnum σ).bind fun nx => (tget T t).bind fun ti => match ti.zero.all Value.oneCell' with
    | true => some ⟨[(.nx,.num nx)],[(.s d,.av (.ptr nx 0)),(.o nx,.ob (.box (ti.zero.map fun c => .d (.v c)))),(.nx,.num (nx + 1))]⟩
    | false => none
   | .box _ x => (gnum σ).bind fun nx => (ev σ x).bind fun av => match freeA av with
    | true => (cellsOf av).bind fun cells => some ⟨(.nx,.num nx) :: (rdOf x av ++ []),[(.s d,.av (.ptr nx 0)),(.o nx,.ob (.box cells)),(.nx,.num (nx + 1))]⟩
    | false => none
   | .build t ⟨ps⟩ => (tget T t).bind fun ti => match ti.zero.all Value.oneCell' with
    | true => (stPlace ti).bind fun place => (partsA σ ps).bind fun q => (fillD place (ti.zero.map D.v) q.1).bind fun out => some ⟨q.2,[(.s d,.av (.d (.agg out)))]⟩
    | false => none
   | .buildSlice t n ⟨ps⟩ => (tget T t).bind fun ti => match ti.kind with
    | .sl e k => match n with
     | 0 => match ps with
      | [] => (gnum σ).bind fun nx => some ⟨[(.nx,.num nx)],[(.s d,.av (.own nx 0)),(.o nx,.ob (.arr e k [])),(.nx,.num (nx + 1))]⟩
      | _ => none
     | n + 1 => (tget T e).bind fun te => match te.zero.all Value.oneCell' && (Nat.ble ((n + 1) * k) 65536 && Nat.blt 0 ((n + 1) * k)) with
      | true => (partsA σ ps).bind fun q => (rowsA k 0 q.1).bind fun rs => match Nat.beq (n + 1) rs.length with
       | true => some ⟨q.2,[(.s d,.av (.d (.sl k rs)))]⟩
       | false => none
      | false => none
    | _ => none
   | _ => none
 | none => match op with
  | .store t x y => (ev σ x).bind fun ax => match ax with
   | .ptr id off => (gbox σ id).bind fun cells => (ev σ y).bind fun av => (tget T t).bind fun ti => match freeA av with
    | true => (cellsOf av).bind fun new => match Nat.beq new.length ti.n && Nat.ble (off + new.length) cells.length with
     | true => some ⟨rdOf x (.ptr id off) ++ (rdOf y av ++ ([] ++ [(.o id,.ob (.box cells))])),[(.o id,.ob (.box (putCells cells off new)))]⟩
     | false => none
    | false => none
   | _ => none
  | _ => none
variable {cx : Cx} {σ : St} {ty : TypeId} {pos : String} {af : Array Edge} {gd : Option (Nat × Bool)} {d : Nat}
theorem cmpI_ok {P : Program} {t : TypeId} {op : BinOp} {k : IntKind} {a b : Int} {r : Bool} (h : cmpI op a b = some r) : BinR P op t (.int k a) (.int k b) (.bool r) := by
 cases op <;> simp only [cmpI,Option.some.injEq,reduceCtorEq] at h <;> subst h <;> first | exact bin_lss | exact bin_leq | exact bin_gtr | exact bin_geq | exact bin_eql | exact bin_neq
theorem cmpS_ok {P : Program} {t : TypeId} {op : BinOp} {a b : List UInt8} {r : Bool} (h : cmpS op a b = some r) : BinR P op t (str a) (str b) (.bool r) := by
 cases op <;> simp only [cmpS,Option.some.injEq,reduceCtorEq] at h <;> subst h <;> first | exact bin_slss | exact bin_sleq | exact bin_sgtr | exact bin_sgeq | exact bin_seql | exact bin_sneq
theorem cmpA_ok {P : Program} {t : TypeId} {op : BinOp} {u v : Value} {r : Bool} (h : cmpA op u v = some r) : BinR P op t u v (.bool r) := by
 unfold cmpA at h
 split at h
 ·
  split at h
  ·
   exact cmpI_ok h
  ·
   cases h
 ·
  split at h
  ·
   exact cmpI_ok h
  ·
   cases h
 ·
  split at h
  ·
   exact cmpI_ok h
  ·
   cases h
 ·
  split at h
  ·
   exact cmpS_ok h
  ·
   cases h
 ·
  cases h
theorem gbox_out {id : Nat} {c : List AV} (h : gbox σ id = some c) : get σ (.o id) = .ob (.box c) := by
 unfold gbox at h
 split at h
 ·
  next x hx => cases h;exact hx
 ·
  cases h
theorem gnum_out {n : Nat} (h : gnum σ = some n) : get σ .nx = .num n := by
 unfold gnum at h
 split at h
 ·
  next x hx => cases h;exact hx
 ·
  cases h
theorem valA_ok {op : Op} {rd : List (Key × Val)} {av : AV} (hn : d < cx.n) (h : valA cx.T σ op = some (rd,av)) : OpOk cx ⟨some d,op,ty,pos,af,gd⟩ ⟨rd,[(.s d,.av av)]⟩ ∧ App σ rd := by
 unfold valA at h
 split at h
 ·
  simp only [Option.bind_eq_some_iff,Option.some.injEq,Prod.mk.injEq] at h
  obtain ⟨x,hx,rfl,rfl⟩ := h
  exact ⟨ok_move hn (ev_out hx).1,(ev_out hx).2⟩
 ·
  simp only [Option.bind_eq_some_iff,Option.some.injEq,Prod.mk.injEq] at h
  obtain ⟨x,hx,rfl,rfl⟩ := h
  exact ⟨ok_assign hn (ev_out hx).1,(ev_out hx).2⟩
 ·
  simp only [Option.bind_eq_some_iff] at h
  obtain ⟨x,hx,h⟩ := h
  split at h
  ·
   cases h
   exact ⟨ok_not hn (ev_out hx).1,(ev_out hx).2⟩
  ·
   cases h
 ·
  simp only [Option.bind_eq_some_iff] at h
  obtain ⟨x,hx,h⟩ := h
  split at h
  ·
   simp only [Option.bind_eq_some_iff] at h
   obtain ⟨y,hy,h⟩ := h
   split at h
   ·
    simp only [Option.bind_eq_some_iff] at h
    obtain ⟨r,hr,h⟩ := h
    cases h
    exact ⟨ok_bin hn (ev_out hx).1 (ev_out hy).1 (cmpA_ok hr),(ev_out hx).2.append (ev_out hy).2⟩
   ·
    cases h
  ·
   cases h
 ·
  simp only [Option.bind_eq_some_iff] at h
  obtain ⟨x,hx,ti,ht,h⟩ := h
  split at h
  ·
   simp only [Option.bind_eq_some_iff] at h
   obtain ⟨y,hy,h⟩ := h
   cases h
   exact ⟨ok_load_pd hn (ev_out hx).1 ht hy,(ev_out hx).2⟩
  ·
   simp only [Option.bind_eq_some_iff] at h
   obtain ⟨c,hc,y,hy,h⟩ := h
   cases h
   exact ⟨ok_load_ptr hn (ev_out hx).1 ht hy,(ev_out hx).2.append ⟨gbox_out hc,trivial⟩⟩
  ·
   cases h
 ·
  simp only [Option.bind_eq_some_iff] at h
  obtain ⟨x,hx,ti,ht,off,hf,h⟩ := h
  split at h
  ·
   cases h
   exact ⟨ok_fa_pd hn (ev_out hx).1 ht hf,(ev_out hx).2⟩
  ·
   simp only [Option.bind_eq_some_iff] at h
   obtain ⟨c,hc,h⟩ := h
   cases h
   exact ⟨ok_fa_ptr hn (ev_out hx).1 ht hf,(ev_out hx).2.append ⟨gbox_out hc,trivial⟩⟩
  ·
   cases h
 ·
  simp only [Option.bind_eq_some_iff] at h
  obtain ⟨x,hx,h⟩ := h
  split at h
  ·
   simp only [Option.bind_eq_some_iff] at h
   obtain ⟨v,hv,h⟩ := h
   split at h
   ·
    next hp =>
    cases h
    refine ⟨ok_extract hn (ev_out hx).1 hv ?_,(ev_out hx).2⟩
    cases av <;> first | trivial | exact absurd hp (by simp [plainA])
   ·
    cases h
  ·
   cases h
 ·
  simp only [Option.bind_eq_some_iff] at h
  obtain ⟨x,hx,h⟩ := h
  split at h
  ·
   simp only [Option.bind_eq_some_iff] at h
   obtain ⟨ti,ht,h⟩ := h
   split at h
   ·
    next fs hk =>
    simp only [Option.bind_eq_some_iff] at h
    obtain ⟨p,hp,h⟩ := h
    split at h
    ·
     next h1 =>
     simp only [Option.bind_eq_some_iff] at h
     obtain ⟨y,hy,h⟩ := h
     cases h
     obtain ⟨p1,p2⟩ := p
     obtain rfl : p2 = 1 := by simpa using h1
     exact ⟨ok_field hn (ev_out hx).1 ht hk hp hy,(ev_out hx).2⟩
    ·
     cases h
   ·
    cases h
  ·
   cases h
 ·
  simp only [Option.bind_eq_some_iff] at h
  obtain ⟨x,hx,ti,ht,h⟩ := h
  split at h
  ·
   simp only [Option.bind_eq_some_iff] at h
   obtain ⟨k,hk,h⟩ := h
   cases h
   exact ⟨ok_len_sl hn (ev_out hx).1 ht hk,(ev_out hx).2⟩
  ·
   split at h
   ·
    next hk =>
    cases h
    exact ⟨ok_len_str hn (ev_out hx).1 ht hk,(ev_out hx).2⟩
   ·
    cases h
  ·
   cases h
 ·
  cases h
theorem partsA_ok : ∀ {ps : List (Nat × Operand)} {q : List (Nat × List D) × List (Key × Val)},partsA σ ps = some q → PartsE σ ps q.1 q.2
 | [],q,h => by cases h;exact .nil
 | (i,x) :: r,q,h => by
  simp only [partsA,Option.bind_eq_some_iff] at h
  obtain ⟨av,hx,ds,hd,q',hq,h⟩ := h
  cases h
  exact .cons hx hd (partsA_ok hq)
theorem rowsA_ok {k : Nat} : ∀ {q : List (Nat × List D)} {i : Nat} {rs : List (List D)},rowsA k i q = some rs → q = numb i rs ∧ ∀ r ∈ rs,r.length = k
 | [],i,rs,h => by cases h;exact ⟨rfl,by simp⟩
 | (j,r) :: q,i,rs,h => by
  simp only [rowsA] at h
  split at h
  ·
   next hb =>
   simp only [Option.bind_eq_some_iff] at h
   obtain ⟨rs',hr,h⟩ := h
   cases h
   obtain ⟨h1,h2⟩ := rowsA_ok hr
   simp only [Bool.and_eq_true,Nat.beq_eq] at hb
   obtain ⟨rfl,hk⟩ := hb
   refine ⟨by rw [h1];rfl,fun x hx => ?_⟩
   rcases List.mem_cons.1 hx with rfl | hx
   ·
    exact hk
   ·
    exact h2 x hx
  ·
   cases h
theorem freeA_ok {av : AV} (h : freeA av = true) : nwRd av [] := by
 cases av <;> first | rfl | cases h
theorem trA_ok {op : Op} {dst : Option Nat} {t : Tr} (hn : (match dst with | some d => Nat.blt d cx.n | none => true) = true) (h : trA cx.T σ dst op = some t) :
  OpOk cx ⟨dst,op,ty,pos,af,gd⟩ t ∧ App σ t.rd := by
 unfold trA at h
 split at h
 ·
  next d =>
  have hd : d < cx.n := lt_of_blt hn
  split at h
  ·
   next rd av hv =>
   cases h
   exact valA_ok hd hv
  ·
   clear hn
   split at h
   ·
    simp only [Option.bind_eq_some_iff] at h
    obtain ⟨nx,hnx,ti,ht,h⟩ := h
    split at h
    ·
     next h1 =>
     cases h
     exact ⟨ok_alloc hd ht fun c hc => List.all_eq_true.1 h1 c hc,gnum_out hnx,trivial⟩
    ·
     cases h
   ·
    simp only [Option.bind_eq_some_iff] at h
    obtain ⟨nx,hnx,av,hx,h⟩ := h
    split at h
    ·
     next h1 =>
     simp only [Option.bind_eq_some_iff] at h
     obtain ⟨cells,hc,h⟩ := h
     cases h
     exact ⟨ok_box hd (ev_out hx).1 hc (freeA_ok h1),gnum_out hnx,(ev_out hx).2.append trivial⟩
    ·
     cases h
   ·
    simp only [Option.bind_eq_some_iff] at h
    obtain ⟨ti,ht,h⟩ := h
    split at h
    ·
     next h1 =>
     simp only [Option.bind_eq_some_iff] at h
     obtain ⟨place,hk,q,hq,out,hf,h⟩ := h
     cases h
     exact ⟨ok_build hd ht hk (fun c hc => List.all_eq_true.1 h1 c hc) (partsA_ok hq).out.1 hf,(partsA_ok hq).out.2⟩
    ·
     cases h
   ·
    simp only [Option.bind_eq_some_iff] at h
    obtain ⟨ti,ht,h⟩ := h
    split at h
    ·
     next e k hk =>
     split at h
     ·
      split at h
      ·
       simp only [Option.bind_eq_some_iff] at h
       obtain ⟨nx,hnx,h⟩ := h
       cases h
       exact ⟨ok_buildSlice0 hd ht hk,gnum_out hnx,trivial⟩
      ·
       cases h
     ·
      simp only [Option.bind_eq_some_iff] at h
      obtain ⟨te,hte,h⟩ := h
      split at h
      ·
       next h1 =>
       simp only [Option.bind_eq_some_iff] at h
       obtain ⟨q,hq,rs,hr,h⟩ := h
       split at h
       ·
        next h2 =>
        cases h
        simp only [Bool.and_eq_true] at h1
        obtain ⟨h1,h3,h4⟩ := h1
        obtain ⟨h5,h6⟩ := rowsA_ok hr
        have h7 := (partsA_ok hq).out
        rw [h5] at h7
        refine ⟨ok_buildSlice hd ht hk hte (fun c hc => List.all_eq_true.1 h1 c hc) h7.1 h6 (by simpa using h2) (by simpa using h3) (Nat.ne_of_gt (lt_of_blt h4)),h7.2⟩
       ·
        cases h
      ·
       cases h
    ·
     cases h
   ·
    cases h
 ·
  split at h
  ·
   simp only [Option.bind_eq_some_iff] at h
   obtain ⟨ax,hx,h⟩ := h
   split at h
   ·
    simp only [Option.bind_eq_some_iff] at h
    obtain ⟨cells,hc,av,hy,ti,ht,h⟩ := h
    split at h
    ·
     next h1 =>
     simp only [Option.bind_eq_some_iff] at h
     obtain ⟨new,hnew,h⟩ := h
     split at h
     ·
      next h2 =>
      cases h
      simp only [Bool.and_eq_true] at h2
      exact ⟨ok_store_ptr (ev_out hx).1 (ev_out hy).1 ht hnew (freeA_ok h1) h2.1 h2.2,(ev_out hx).2.append ((ev_out hy).2.append (App.append (l := []) trivial ⟨gbox_out hc,trivial⟩))⟩
     ·
      cases h
    ·
     cases h
   ·
    cases h
  ·
   cases h
variable {ops : Array Oper} {K : List Tr → St → Prop} {acc : List Tr} {rest : List Oper} {o : Oper}
def autA (cx : Cx) (σ : St) (o : Oper) : Option Tr := match o.guard with
 | some _ => none
 | none => match (match o.dst with | some d => Nat.blt d cx.n | none => true) with
  | true => trA cx.T σ o.dst o.op
  | false => none
theorem s1 {rd wr : List (Key × Val)} (ha : autA cx σ o = some ⟨rd,wr⟩) (h : RW cx ops K (acc ++ [⟨rd,wr⟩]) rest (wr ++ σ)) : RW cx ops K acc (o :: rest) σ := by
 obtain ⟨dst,op,ty,pos,af,gd⟩ := o
 cases gd with
 | some p => cases ha
 | none =>
  simp only [autA] at ha
  split at ha
  ·
   next hd =>
   obtain ⟨h1,h2⟩ := trA_ok (cx := cx) (ty := ty) (pos := pos) (af := af) (gd := none) hd ha
   exact RW.step (.none rfl) h1 h2 h
  ·
   cases ha
def guaA (cx : Cx) (ops : Array Oper) (σ : St) (o : Oper) : Option (Nat × Bool × Bool × Tr) := match o.guard with
 | none => none
 | some (j,want) => match (ops[j]?).bind (·.dst) with
  | none => none
  | some q => match get σ (.s q) with
   | .av (.d (.v (.bool b))) => match (match o.dst with | some d => Nat.blt d cx.n | none => true) with
    | true => (trA cx.T σ o.dst o.op).bind fun t => some (q,b,want,t)
    | false => none
   | _ => none
theorem s2 {q : Nat} {b want : Bool} {rd wr : List (Key × Val)} (ha : guaA cx ops σ o = some (q,b,want,⟨rd,wr⟩)) (hb : b = want) (h : RW cx ops K (acc ++ [⟨(.s q,bv want) :: rd,wr⟩]) rest (wr ++ σ)) : RW cx ops K acc (o :: rest) σ := by
 obtain ⟨dst,op,ty,pos,af,gd⟩ := o
 cases gd with
 | none => cases ha
 | some p =>
  obtain ⟨j,w⟩ := p
  simp only [guaA] at ha
  split at ha
  ·
   cases ha
  ·
   next q' hq =>
   split at ha
   ·
    next b' hv =>
    split at ha
    ·
     next hd =>
     simp only [Option.bind_eq_some_iff] at ha
     obtain ⟨t,ht,ha⟩ := ha
     cases ha
     subst hb
     obtain ⟨h1,h2⟩ := trA_ok (cx := cx) (ty := ty) (pos := pos) (af := af) (gd := some (j,b)) hd ht
     exact RW.step (.yes rfl hq hv) h1 h2 h
    ·
     cases ha
   ·
    cases ha
def skiA (cx : Cx) (ops : Array Oper) (σ : St) (o : Oper) : Option (Nat × Bool × Bool) := match o.guard with
 | none => none
 | some (j,want) => match (ops[j]?).bind (·.dst) with
  | none => none
  | some q => match get σ (.s q) with
   | .av (.d (.v (.bool b))) => match (match o.dst with | some d => Nat.blt d cx.n | none => true) with
    | true => some (q,b,!want)
    | false => none
   | _ => none
theorem s3 {q : Nat} {b nw : Bool} (ha : skiA cx ops σ o = some (q,b,nw)) (hb : b = nw) (h : RW cx ops K (acc ++ [⟨[(.s q,bv nw)],skipWr o⟩]) rest (skipWr o ++ σ)) : RW cx ops K acc (o :: rest) σ := by
 unfold skiA at ha
 split at ha
 ·
  cases ha
 ·
  next j w hg =>
  split at ha
  ·
   cases ha
  ·
   next q' hq =>
   split at ha
   ·
    next b' hv =>
    split at ha
    ·
     next hd =>
     cases ha
     exact st_skip (b := b) hg hq hv hb hd h
    ·
     cases ha
   ·
    cases ha
def skuA (cx : Cx) (ops : Array Oper) (σ : St) (o : Oper) : Option Nat := match o.guard with
 | none => none
 | some (j,_) => match (ops[j]?).bind (·.dst) with
  | none => none
  | some q => match get σ (.s q) with
   | .av (.d (.v (.tuple ⟨[]⟩))) => match (match o.dst with | some d => Nat.blt d cx.n | none => true) with
    | true => some q
    | false => none
   | _ => none
theorem s4 {q : Nat} (ha : skuA cx ops σ o = some q) (h : RW cx ops K (acc ++ [⟨[(.s q,.av (.d (.v undef)))],skipWr o⟩]) rest (skipWr o ++ σ)) : RW cx ops K acc (o :: rest) σ := by
 unfold skuA at ha
 split at ha
 ·
  cases ha
 ·
  next j w hg =>
  split at ha
  ·
   cases ha
  ·
   next q' hq =>
   split at ha
   ·
    next hv =>
    split at ha
    ·
     next hd =>
     cases ha
     exact st_skip_u hg hq hv hd h
    ·
     cases ha
   ·
    cases ha
structure OA (cx : Cx) (σ : St) (o : Oper) (t : Tr) : Prop where
 ok : OpOk cx o t
 app : App σ t.rd
theorem s5 {pre rd wr : List (Key × Val)} (ho : OA cx σ o ⟨rd,wr⟩) (hg : GOk ops σ o pre) (h : RW cx ops K (acc ++ [⟨pre ++ rd,wr⟩]) rest (wr ++ σ)) : RW cx ops K acc (o :: rest) σ :=
 RW.step hg ho.ok ho.app h
theorem a_pick_t {c x y : Operand} {b : Bool} {av : AV} (hc : ev σ c = some (.d (.v (.bool b)))) (hb : b = true) (hx : ev σ x = some av) (hd : Nat.blt d cx.n = true) :
  OA cx σ ⟨some d,.pick c x y,ty,pos,af,gd⟩ ⟨rdOf c (.d (.v (.bool b))) ++ rdOf x av,[(.s d,.av av)]⟩ := by
 subst hb
 exact ⟨ok_pick (b := true) (aw := av) (lt_of_blt hd) (ev_out hc).1 (ev_out hx).1,(ev_out hc).2.append (ev_out hx).2⟩
theorem a_pick_f {c x y : Operand} {b : Bool} {av : AV} (hc : ev σ c = some (.d (.v (.bool b)))) (hb : b = false) (hy : ev σ y = some av) (hd : Nat.blt d cx.n = true) :
  OA cx σ ⟨some d,.pick c x y,ty,pos,af,gd⟩ ⟨rdOf c (.d (.v (.bool b))) ++ rdOf y av,[(.s d,.av av)]⟩ := by
 subst hb
 exact ⟨ok_pick (b := false) (aw := av) (lt_of_blt hd) (ev_out hc).1 (ev_out hy).1,(ev_out hc).2.append (ev_out hy).2⟩
theorem a_bin {op : BinOp} {t t' : TypeId} {x y : Operand} {u v r : Value} (hx : ev σ x = some (.d (.v u))) (hy : ev σ y = some (.d (.v v))) (hb : BinR cx.P op t u v r) (hd : Nat.blt d cx.n = true) :
  OA cx σ ⟨some d,.binOp op t x y t',ty,pos,af,gd⟩ ⟨rdOf x (.d (.v u)) ++ rdOf y (.d (.v v)),[(.s d,.av (.d (.v r)))]⟩ :=
 ⟨ok_bin (lt_of_blt hd) (ev_out hx).1 (ev_out hy).1 hb,(ev_out hx).2.append (ev_out hy).2⟩
theorem a_ia {t : TypeId} {x y : Operand} {k : Nat} {rows : List (List D)} {kd : IntKind} {i : Int} {ti : TI} {r : List D} (hx : ev σ x = some (.d (.sl k rows))) (hy : ev σ y = some (.d (.v (.int kd i)))) (ht : tget cx.T t = some ti)
  (hk : slK ti = some k) (hd : Nat.blt d cx.n = true) (hi : idx rows i = some r) : OA cx σ ⟨some d,.indexAddr t x y,ty,pos,af,gd⟩ ⟨rdOf x (.d (.sl k rows)) ++ rdOf y (.d (.v (.int kd i))),[(.s d,.av (.pd r))]⟩ :=
 ⟨ok_ia_sl (lt_of_blt hd) (ev_out hx).1 (ev_out hy).1 ht hk hi,(ev_out hx).2.append (ev_out hy).2⟩
theorem a_ib {t : TypeId} {x y : Operand} {id o0 n k : Nat} {cells : List AV} {kd : IntKind} {i : Nat} {ti : TI} (hx : ev σ x = some (.ptr id o0)) (ho : get σ (.o id) = .ob (.box cells)) (hy : ev σ y = some (.d (.v (.int kd (i : Int)))))
  (ht : tget cx.T t = some ti) (hk : arK ti = some (n,k)) (hd : Nat.blt d cx.n = true) (hi : i < n) :
  OA cx σ ⟨some d,.indexAddr t x y,ty,pos,af,gd⟩ ⟨(rdOf x (.ptr id o0) ++ rdOf y (.d (.v (.int kd (i : Int))))) ++ [(.o id,.ob (.box cells))],[(.s d,.av (.ptr id (o0 + i * k)))]⟩ :=
 ⟨ok_ia_ptr (lt_of_blt hd) (ev_out hx).1 (ev_out hy).1 ht hk hi,((ev_out hx).2.append (ev_out hy).2).append ⟨ho,trivial⟩⟩
theorem a_is {t : TypeId} {x y : Operand} {l : List UInt8} {kd : IntKind} {k : Nat} {c : UInt8} {ti : TI} (hx : ev σ x = some (.d (.v (str l)))) (hy : ev σ y = some (.d (.v (.int kd (k : Int))))) (ht : tget cx.T t = some ti) (hk : ti.kind = .str)
  (hd : Nat.blt d cx.n = true) (hc : l[k]? = some c) : OA cx σ ⟨some d,.index t x y,ty,pos,af,gd⟩ ⟨rdOf x (.d (.v (str l))) ++ rdOf y (.d (.v (.int kd (k : Int)))),[(.s d,.av (.d (.v (.int .u8 c.toNat))))]⟩ :=
 ⟨ok_index_str (lt_of_blt hd) (ev_out hx).1 (ev_out hy).1 ht hk (by omega) (by simpa using hc),(ev_out hx).2.append (ev_out hy).2⟩
theorem a_store {t : TypeId} {x y : Operand} {id off : Nat} {cells new : List AV} {av : AV} {ti : TI} {l : List (Key × Val)} (hx : ev σ x = some (.ptr id off)) (ho : get σ (.o id) = .ob (.box cells)) (hy : ev σ y = some av) (ht : tget cx.T t = some ti)
  (hc : cellsOf av = some new) (hnn : Nat.beq new.length ti.n = true) (hle : Nat.ble (off + new.length) cells.length = true) (hl : nwRd av l ∧ App σ l) :
  OA cx σ ⟨none,.store t x y,ty,pos,af,gd⟩ ⟨rdOf x (.ptr id off) ++ (rdOf y av ++ (l ++ [(.o id,.ob (.box cells))])),[(.o id,.ob (.box (putCells cells off new)))]⟩ :=
 ⟨ok_store_ptr (ev_out hx).1 (ev_out hy).1 ht hc hl.1 hnn hle,(ev_out hx).2.append ((ev_out hy).2.append (hl.2.append ⟨ho,trivial⟩))⟩
theorem a_box {t : TypeId} {x : Operand} {av : AV} {cells : List AV} {l : List (Key × Val)} {nx : Nat} (hx : ev σ x = some av) (hnx : get σ .nx = .num nx) (hc : cellsOf av = some cells) (hd : Nat.blt d cx.n = true) (hl : nwRd av l ∧ App σ l) :
  OA cx σ ⟨some d,.box t x,ty,pos,af,gd⟩ ⟨(.nx,.num nx) :: (rdOf x av ++ l),[(.s d,.av (.ptr nx 0)),(.o nx,.ob (.box cells)),(.nx,.num (nx + 1))]⟩ :=
 ⟨ok_box (lt_of_blt hd) (ev_out hx).1 hc hl.1,hnx,(ev_out hx).2.append hl.2⟩
theorem a_bs {t e n k : Nat} {ps : List (Nat × Operand)} (rs : List (List D)) {l : List (Key × Val)} {ti te : TI} (ht : tget cx.T t = some ti) (hk : ti.kind = .sl e k)
  (hte : tget cx.T e = some te) (h1 : (te.zero.all Value.oneCell') = true) (hrs : (rs.all fun r => Nat.beq r.length k) = true) (hnl : n = rs.length) (hsm : Nat.ble (n * k) 65536 = true) (hpos : Nat.blt 0 (n * k) = true)
  (hd : Nat.blt d cx.n = true) (hp : PartsE σ ps (numb 0 rs) l) : OA cx σ ⟨some d,.buildSlice t n ⟨ps⟩,ty,pos,af,gd⟩ ⟨l,[(.s d,.av (.d (.sl k rs)))]⟩ :=
 ⟨ok_buildSlice (lt_of_blt hd) ht hk hte (fun c hc => List.all_eq_true.1 h1 c hc) hp.out.1 (fun r hr => by simpa using List.all_eq_true.1 hrs r hr) hnl (by simpa using hsm) (Nat.ne_of_gt (lt_of_blt hpos)),hp.out.2⟩
theorem a_app {t e k id n : Nat} {x y : Operand} {rows rows2 : List (List D)} {ti te : TI} (hx : ev σ x = some (.own id n)) (ho : get σ (.o id) = .ob (.arr e k rows)) (hy : ev σ y = some (.d (.sl k rows2))) (ht : tget cx.T t = some ti) (hk : ti.kind = .sl e k)
  (hte : tget cx.T e = some te) (hby : Nat.ble te.bytes 65536 = true) (hd : Nat.blt d cx.n = true) (hnn : n = rows.length) (hlen : rows.length + rows2.length ≤ 1073741824) :
  OA cx σ ⟨some d,.call { callee := .builtin .append,args := #[x,y],argTypes := #[t,t] },ty,pos,af,gd⟩
   ⟨rdOf x (.own id n) ++ (rdOf y (.d (.sl k rows2)) ++ [(.o id,.ob (.arr e k rows))]),[(.s d,.av (.own id (n + rows2.length))),(.o id,.ob (.arr e k (rows ++ rows2)))]⟩ :=
 ⟨ok_append (lt_of_blt hd) (ev_out hx).1 (ev_out hy).1 ht hk hte (by simpa using hby) hnn hlen,(ev_out hx).2.append ((ev_out hy).2.append ⟨ho,trivial⟩)⟩
theorem a_from {t : TypeId} {x lo : Operand} {kd : IntKind} {m : Int} {k : Nat} {rows out : List (List D)} {ti : TI} (hx : ev σ x = some (.d (.sl k rows))) (hlo : ev σ lo = some (.d (.v (.int kd m)))) (ht : tget cx.T t = some ti) (hk : slK ti = some k)
  (hd : Nat.blt d cx.n = true) (hc : cutI rows (some m) none = some out) : OA cx σ ⟨some d,.slice t x (some lo) none none,ty,pos,af,gd⟩ ⟨rdOf x (.d (.sl k rows)) ++ (rdOf lo (.d (.v (.int kd m))) ++ []),[(.s d,.av (.d (.sl k out)))]⟩ :=
 ⟨ok_slice (lt_of_blt hd) (ev_out hx).1 (.at_ (ev_out hlo).1) .no ht hk hc,(ev_out hx).2.append ((ev_out hlo).2.append trivial)⟩
theorem a_to {t : TypeId} {x hi : Operand} {kd : IntKind} {m : Int} {k : Nat} {rows out : List (List D)} {ti : TI} (hx : ev σ x = some (.d (.sl k rows))) (hhi : ev σ hi = some (.d (.v (.int kd m)))) (ht : tget cx.T t = some ti) (hk : slK ti = some k)
  (hd : Nat.blt d cx.n = true) (hc : cutI rows none (some m) = some out) : OA cx σ ⟨some d,.slice t x none (some hi) none,ty,pos,af,gd⟩ ⟨rdOf x (.d (.sl k rows)) ++ ([] ++ rdOf hi (.d (.v (.int kd m)))),[(.s d,.av (.d (.sl k out)))]⟩ :=
 ⟨ok_slice (lt_of_blt hd) (ev_out hx).1 .no (.at_ (ev_out hhi).1) ht hk hc,(ev_out hx).2.append (App.append (l := []) trivial (ev_out hhi).2)⟩
theorem a_call {f : FuncId} {xs : List Operand} {avs : List AV} {ys : List Arg} {l : List (Key × Val)} {r : Res} {ats : Array TypeId} (hc : FnOk cx.P f ys r) (hd : Nat.blt d cx.n = true) (hsub : SubsE σ xs avs ys l) :
  OA cx σ ⟨some d,.call { callee := .value (.func f),args := ⟨xs⟩,argTypes := ats },ty,pos,af,gd⟩ ⟨l,[(.s d,.av r.av)]⟩ :=
 ⟨ok_call (lt_of_blt hd) hc hsub.out.1,hsub.out.2⟩
abbrev sd (i : Nat) (x : D) : Key × Val := (.s i,.av (.d x))
abbrev sp (i id : Nat) : Key × Val := (.s i,.av (.ptr id 0))
abbrev so (i id n : Nat) : Key × Val := (.s i,.av (.own id n))
abbrev ob (id : Nat) (cells : List D) : Key × Val := (.o id,.ob (.box (cells.map AV.d)))
abbrev oa (id e k : Nat) (rows : List (List D)) : Key × Val := (.o id,.ob (.arr e k rows))
abbrev nxt (n : Nat) : Key × Val := (.nx,.num n)
end Go.AX
namespace Go.AX
open Go.RowKit
variable {cx : Cx} {g : Nat → Value} {σ : St} {a : Act} {w : World} {nx : Nat}
variable {ty : TypeId} {pos : String} {af : Array Edge} {gd : Option (Nat × Bool)} {d : Nat}
theorem splice_get {α : Type} {l new : List α} {off j : Nat} (h : off + new.length ≤ l.length) :
  (splice l off new)[j]? = if off ≤ j ∧ j < off + new.length then new[j - off]? else l[j]? := by
 unfold splice
 have ht : (l.take off).length = off := by simp;omega
 rw [List.append_assoc]
 rcases Nat.lt_or_ge j off with h1 | h1
 ·
  rw [List.getElem?_append_left (by omega),List.getElem?_take,if_pos h1,if_neg (by omega)]
 ·
  rw [List.getElem?_append_right (by omega),ht]
  rcases Nat.lt_or_ge (j - off) new.length with h2 | h2
  ·
   rw [List.getElem?_append_left h2,if_pos (by omega)]
  ·
   rw [List.getElem?_append_right h2,List.getElem?_drop,if_neg (by omega),show off + new.length + (j - off - new.length) = j by omega]
theorem splice_len {α : Type} {l new : List α} {off : Nat} (h : off + new.length ≤ l.length) : (splice l off new).length = l.length := by
 simp [splice];omega
theorem ok_len_own {t tt : TypeId} {x : Operand} {id n e k k' : Nat} {rows : List (List D)} {ti : TI} (hd : d < cx.n) (hx : EvS x (.own id n)) (ht : tget cx.T t = some ti) (hk : slK ti = some k') (hn : n = rows.length) :
  OpOk cx ⟨some d,.call { callee := .builtin .len,args := #[x],argTypes := #[t] },tt,pos,af,gd⟩ ⟨rdOf x (.own id n) ++ [(.o id,.ob (.arr e k rows))],[(.s d,.av (.d (.v (.int .i64 n))))]⟩ := by
 refine ok_val rfl hd fun σ a w g nx hs hr => ?_
 obtain ⟨_,ie,hu,_⟩ := slice_of (cx.hT t ti ht) hk
 have ho : get σ (.o id) = .ob (.arr e k rows) := hr.right.1
 have hv : a.eval x = g id := ((hs.ev hx hr.left).1.2 e k rows ho).2 hn
 obtain ⟨_,⟨xs,h1,_⟩,_⟩ := hs.objs id _ ho
 refine ⟨.int .i64 n,w,?_,Below.refl _ _,Rd.v _,trivial⟩
 rcases h1.2 with ⟨h2,h3⟩ | ⟨b,cap,cur,h2,_⟩
 ·
  simp [execOp,resolve,invoke,builtin,hv,h2,Builtin.len_,run_underlying hu,goInt,hn,h3]
 ·
  simp [execOp,resolve,invoke,builtin,hv,h2,Builtin.len_,run_underlying hu,goInt,hn]
theorem ok_ia_own {t : TypeId} {x y : Operand} {id n e k i : Nat} {rows : List (List D)} {kd : IntKind} {ti : TI} (hd : d < cx.n) (hx : EvS x (.own id n)) (hy : EvS y (.d (.v (.int kd (i : Int))))) (ht : tget cx.T t = some ti) (hk : slK ti = some k)
  (hn : n = rows.length) (hi : i < n) :
  OpOk cx ⟨some d,.indexAddr t x y,ty,pos,af,gd⟩ ⟨(rdOf x (.own id n) ++ rdOf y (.d (.v (.int kd (i : Int))))) ++ [(.o id,.ob (.arr e k rows))],[(.s d,.av (.pe id n i 0))]⟩ := by
 refine ok_val rfl hd fun σ a w g nx hs hr => ?_
 obtain ⟨_,ie,hu,hie,hks,_⟩ := slice_of (cx.hT t ti ht) hk
 have ho : get σ (.o id) = .ob (.arr e k rows) := hr.right.1
 obtain ⟨h0,hbd⟩ := hs.ev hx hr.left.left
 have hv : a.eval x = g id := (h0.2 e k rows ho).2 hn
 have hy' := rep_v (hs.ev hy hr.left.right).1
 obtain ⟨_,⟨xs,h1,_⟩,_⟩ := hs.objs id _ ho
 rcases h1.2 with ⟨h2,h3⟩ | ⟨b,cap,cur,h2,h3,h4,h5,_⟩
 ·
  omega
 ·
  refine ⟨.pointer (some ⟨b,i * k,none⟩),w,?_,Below.refl _ _,?_,hbd⟩
  ·
   have : (⟨b,0,none⟩ : Addr).add (i * k) = ⟨b,i * k,none⟩ := by rw [add_lit,Nat.zero_add]
   simp [execOp,hy',hv,h2,Instr.indexAt,asIntOf,run_underlying hu,sizeOf,typeInfo,hie,hks,this]
   omega
  ·
   refine ⟨.of ho,fun e' k' rows' ho' => ?_⟩
   rw [ho] at ho'
   cases ho'
   exact ⟨by omega,fun _ => ⟨b,by rw [h2];rfl,by rw [Nat.add_zero]⟩⟩
theorem ok_fa_pe {t : TypeId} {x : Operand} {id n i f : Nat} {ti : TI} {fl off : Nat} (hd : d < cx.n) (hx : EvS x (.pe id n i f)) (ht : tget cx.T t = some ti) (hf : fldOff ti fl = some off) {e k : Nat} {rows : List (List D)} (hn : n = rows.length) :
  OpOk cx ⟨some d,.fieldAddr t x fl,ty,pos,af,gd⟩ ⟨rdOf x (.pe id n i f) ++ [(.o id,.ob (.arr e k rows))],[(.s d,.av (.pe id n i (f + off)))]⟩ := by
 refine ok_val rfl hd fun σ a w g nx hs hr => ?_
 have ho : get σ (.o id) = .ob (.arr e k rows) := hr.right.1
 obtain ⟨h0,hbd⟩ := hs.ev hx hr.left
 obtain ⟨b,hb,hv⟩ := (h0.2 e k rows ho).2 hn
 refine ⟨.pointer (some ⟨b,i * k + (f + off),none⟩),w,?_,Below.refl _ _,?_,hbd⟩
 ·
  have h2 := fieldAt_of (cx.hT t ti ht) hf ⟨b,i * k + f,none⟩ w
  rw [add_lit,Nat.add_assoc] at h2
  simp [execOp,hv,h2]
 ·
  refine ⟨.of ho,fun e' k' rows' ho' => ?_⟩
  rw [ho] at ho'
  cases ho'
  exact ⟨by omega,fun _ => ⟨b,hb,rfl⟩⟩
theorem ok_load_pe {t : TypeId} {x : Operand} {id n i f e k : Nat} {rows : List (List D)} {r : List D} {ti : TI} {y : D} (hd : d < cx.n) (hx : EvS x (.pe id n i f)) (ht : tget cx.T t = some ti) (hn : n = rows.length) (hr : rows[i]? = some r)
  (hl : ldD ti (r.drop f) = some y) :
  OpOk cx ⟨some d,.load t x,ty,pos,af,gd⟩ ⟨rdOf x (.pe id n i f) ++ [(.o id,.ob (.arr e k rows))],[(.s d,.av (.d y))]⟩ := by
 refine ok_val rfl hd fun σ a w g nx hs hrd => ?_
 have ho : get σ (.o id) = .ob (.arr e k rows) := hrd.right.1
 obtain ⟨b,hb,hv⟩ := ((hs.ev hx hrd.left).1.2 e k rows ho).2 hn
 obtain ⟨_,⟨xs,h1,h2,h3,h4⟩,_⟩ := hs.objs id _ ho
 have hil := (List.getElem?_eq_some_iff.1 hr).1
 have hrk := h3 r (List.mem_of_getElem? hr)
 have hc : RdCells w (cx.own g σ) ⟨b,i * k + f,none⟩ (r.drop f) := by
  intro j z hz
  rw [List.getElem?_drop] at hz
  have hj : f + j < k := by rw [← hrk];exact (List.getElem?_eq_some_iff.1 hz).1
  have hlen : i * k + (f + j) < xs.length := by
   rw [h1.1]
   have h5 : (i + 1) * k ≤ rows.length * k := Nat.mul_le_mul_right _ hil
   rw [Nat.add_mul,Nat.one_mul] at h5
   omega
  refine ⟨xs[i * k + (f + j)],?_,h2 _ (List.getElem_mem _),h4 i (f + j) r z _ hr hz (List.getElem?_eq_getElem hlen)⟩
  rw [add_lit,show i * k + f + j = i * k + (f + j) by omega]
  have := h1.cells (g := b) (by rw [← blk_own h1];exact hb) (i * k + (f + j)) _ (List.getElem?_eq_getElem hlen)
  rw [add_lit,Nat.zero_add] at this
  exact this
 obtain ⟨v,h5,h6⟩ := run_load_cells (cx.hT t ti ht) hc hl
 have h5' : (loadVar t ⟨b,i * k + f,none⟩).run cx.P w = .ok v w := by simpa [Instr.loadAt,Instr.sureAddr] using h5
 exact ⟨v,w,by simp [execOp,hv,Instr.loadAt,Instr.sureAddr,h5'],Below.refl _ _,h6,trivial⟩
theorem ok_store_pe {t : TypeId} {x y : Operand} {id n i f e k : Nat} {rows : List (List D)} {r new : List D} {av : AV} {ti : TI} (hx : EvS x (.pe id n i f)) (hy : EvS y av) (ht : tget cx.T t = some ti) (hc : dcells av = some new)
  (hn : n = rows.length) (hr : rows[i]? = some r) (hnn : Nat.beq new.length ti.n = true) (hle : f + new.length ≤ r.length) :
  OpOk cx ⟨none,.store t x y,ty,pos,af,gd⟩ ⟨rdOf x (.pe id n i f) ++ (rdOf y av ++ [(.o id,.ob (.arr e k rows))]),[(.o id,.ob (.arr e k (rows.set i (splice r f new))))]⟩ := by
 rintro σ a w K Q ⟨g,nx,hs⟩ hrd hK
 have ho : get σ (.o id) = .ob (.arr e k rows) := hrd.right.right.1
 obtain ⟨b,hb,hv⟩ := ((hs.ev hx hrd.left).1.2 e k rows ho).2 hn
 obtain ⟨hav,hbd⟩ := hs.ev hy hrd.right.left
 obtain ⟨hidn,⟨xs,h1,h2,h3,h4⟩,_⟩ := hs.objs id _ ho
 obtain ⟨c1,c2,c3⟩ := dcells_ok hs hav hc
 have hF := cx.hT t ti ht
 have hnn' : new.length = ti.n := by simpa using hnn
 have hil := (List.getElem?_eq_some_iff.1 hr).1
 have hrk := h3 r (List.mem_of_getElem? hr)
 have h5 : (i + 1) * k ≤ rows.length * k := Nat.mul_le_mul_right _ hil
 rw [Nat.add_mul,Nat.one_mul] at h5
 rcases h1.2 with ⟨_,h6⟩ | ⟨b',cap,cur,hv',hge,hh,hle',hcm,hsz,htk⟩
 ·
  omega
 have hbb : b' = b := by rw [hv'] at hb;simpa [blk] using hb
 subst hbb
 generalize hX : a.eval y = X at hav c1 c2 c3
 have hlen : X.cells.toList.length = new.length := c1
 have hcap : rows.length * k ≤ cap * k := Nat.mul_le_mul_right _ hle'
 have hst := run_storeCells_at (P := cx.P) b' (i * k + f) e X.cells.toList 0 cur w hh (by rw [hlen];omega) c2
 simp only [Nat.add_zero] at hst
 have hX' : X.cells.size = ti.n := by rw [← hnn',← hlen];simp
 have hrun : (Instr.storeAt t (.pointer (some ⟨b',i * k + f,none⟩)) X).run cx.P w = .ok () (w.setRow b' (splice cur.toList (i * k + f) X.cells.toList).toArray) := by
  simp [Instr.storeAt,Instr.sureAddr,storeVar,sizeOf_of hF w,hX',hst,splice]
 generalize hcs' : (splice cur.toList (i * k + f) X.cells.toList).toArray = cs' at hrun
 have hheap : (w.setRow b' cs').heap[b']? = some (.cells cs' e (0,0)) := setRow_heap w b' cur cs' e (0,0) hh
 have hle2 : i * k + f + X.cells.toList.length ≤ cur.toList.length := by rw [hlen];simp;omega
 have hrows : (rows.set i (splice r f new)).length = rows.length := by simp
 have hOS : ObjStep cx σ g nx nx w (w.setRow b' cs') id (.arr e k (rows.set i (splice r f new))) (g id) := by
  refine ⟨.inr ⟨rfl,.arr e k rows,ho,by simp [ObLe,upd_same]⟩,⟨rfl,rfl,rfl,by simp,fun k hk => setRow_other w b' k cs' (by omega)⟩,fun b hb hne => setRow_other w b' b cs' (fun e => hne _ ho (by rw [hv',e];rfl)),fun b hb => .inl ⟨_,ho,hb⟩⟩
 have hxs' : cs'.toList.take (rows.length * k) = splice xs (i * k + f) X.cells.toList := by
  subst hcs'
  apply List.ext_getElem?
  intro j
  have hxl : xs.length = rows.length * k := h1.1
  rw [List.getElem?_take]
  show (if j < rows.length * k then (splice cur.toList (i * k + f) X.cells.toList)[j]? else none) = _
  rw [splice_get hle2,splice_get (l := xs) (by rw [hxl,hlen];omega)]
  by_cases hj : j < rows.length * k
  ·
   rw [if_pos hj]
   split
   ·
    rfl
   ·
    rw [← htk,List.getElem?_take,if_pos hj]
  ·
   rw [if_neg hj,if_neg (by rw [hlen];omega),List.getElem?_eq_none (by omega)]
 have hG := SimG.obj hs hOS (fun hlat => ?_) trivial
 ·
  unfold Oper.wp
  simp only [execOp,hv,hX,Sem.run_bind,hrun,Result.andThen_ok,Sem.run_pure,Oper.upon,Act.put]
  refine hK _ _ (Sim.eqv ⟨_,_,hG⟩ fun k => ?_)
  cases k with
  | s i => rw [objSt_s];exact (get_cons_ne (by simp)).symm
  | o i =>
   by_cases hi : i = id
   ·
    subst hi;rw [get_cons_same];exact get_cons_same.symm
   ·
    rw [objSt_o hi];exact (get_cons_ne (by simpa using fun e => hi e.symm)).symm
  | nx => rw [objSt_nx];exact hs.hnx.symm.trans (get_cons_ne (by simp)).symm
 ·
  have hsl : (splice xs (i * k + f) X.cells.toList).length = xs.length := splice_len (by rw [h1.1,hlen];omega)
  refine ⟨splice xs (i * k + f) X.cells.toList,⟨by rw [hsl,h1.1,hrows],.inr ⟨b',cap,cs',?_,hge,hheap,by rw [hrows];exact hle',hcm,?_,by rw [hrows];exact hxs'⟩⟩,fun x hx => ?_,fun r' hr' => ?_,fun i' j r' z x hi' hj hx => ?_⟩
  ·
   rw [upd_same,hv',hrows]
  ·
   subst hcs';rw [← hsz];simpa using splice_len hle2
  ·
   obtain ⟨j,hj⟩ := List.getElem?_of_mem hx
   rw [splice_get (by rw [h1.1,hlen];omega)] at hj
   split at hj
   ·
    exact c2 x (List.mem_of_getElem? hj)
   ·
    exact h2 x (List.mem_of_getElem? hj)
  ·
   rcases List.mem_or_eq_of_mem_set hr' with h | h
   ·
    exact h3 r' h
   ·
    subst h;rw [splice_len hle,hrk]
  ·
   have hjk : j < k := by
    have hm : r' ∈ rows.set i (splice r f new) := List.mem_of_getElem? hi'
    have : r'.length = k := by
     rcases List.mem_or_eq_of_mem_set hm with h | h
     ·
      exact h3 r' h
     ·
      subst h;rw [splice_len hle,hrk]
    rw [← this];exact (List.getElem?_eq_some_iff.1 hj).1
   rw [splice_get (by rw [h1.1,hlen];omega)] at hx
   by_cases hii : i = i'
   ·
    subst hii
    rw [List.getElem?_set_self hil] at hi'
    cases hi'
    rw [splice_get hle] at hj
    by_cases hin : f ≤ j ∧ j < f + new.length
    ·
     rw [if_pos hin] at hj
     rw [if_pos (by rw [hlen];omega),show i * k + j - (i * k + f) = j - f by omega] at hx
     exact (c3 (j - f) x z hj hx).step hlat.ext hlat.own
    ·
     rw [if_neg hin] at hj
     rw [if_neg (by rw [hlen];omega)] at hx
     exact (h4 i j r z x hr hj hx).step hlat.ext hlat.own
   ·
    rw [List.getElem?_set_ne hii] at hi'
    have hout : ¬ (i * k + f ≤ i' * k + j ∧ i' * k + j < i * k + f + X.cells.toList.length) := by
     rw [hlen]
     rcases Nat.lt_or_ge i' i with hlt | hge
     ·
      have := Nat.mul_le_mul_right k hlt
      rw [Nat.succ_mul] at this
      omega
     ·
      have := Nat.mul_le_mul_right k (show i + 1 ≤ i' by omega)
      rw [Nat.add_mul,Nat.one_mul] at this
      omega
    rw [if_neg hout] at hx
    exact (h4 i' j r' z x hi' hj hx).step hlat.ext hlat.own
variable {ops : Array Oper} {K : List Tr → St → Prop} {acc : List Tr} {rest : List Oper}
theorem a_leno {t tt : TypeId} {x : Operand} {id n e k k' : Nat} {rows : List (List D)} {ti : TI} (hx : ev σ x = some (.own id n)) (ho : get σ (.o id) = .ob (.arr e k rows)) (ht : tget cx.T t = some ti) (hk : slK ti = some k') (hd : Nat.blt d cx.n = true) (hn : n = rows.length) :
  OA cx σ ⟨some d,.call { callee := .builtin .len,args := #[x],argTypes := #[t] },tt,pos,af,gd⟩ ⟨rdOf x (.own id n) ++ [(.o id,.ob (.arr e k rows))],[(.s d,.av (.d (.v (.int .i64 n))))]⟩ :=
 ⟨ok_len_own (lt_of_blt hd) (ev_out hx).1 ht hk hn,(ev_out hx).2.append ⟨ho,trivial⟩⟩
theorem a_io {t : TypeId} {x y : Operand} {id n e k i : Nat} {rows : List (List D)} {kd : IntKind} {ti : TI} (hx : ev σ x = some (.own id n)) (ho : get σ (.o id) = .ob (.arr e k rows)) (hy : ev σ y = some (.d (.v (.int kd (i : Int))))) (ht : tget cx.T t = some ti)
  (hk : slK ti = some k) (hd : Nat.blt d cx.n = true) (hn : n = rows.length) (hi : i < n) :
  OA cx σ ⟨some d,.indexAddr t x y,ty,pos,af,gd⟩ ⟨(rdOf x (.own id n) ++ rdOf y (.d (.v (.int kd (i : Int))))) ++ [(.o id,.ob (.arr e k rows))],[(.s d,.av (.pe id n i 0))]⟩ :=
 ⟨ok_ia_own (lt_of_blt hd) (ev_out hx).1 (ev_out hy).1 ht hk hn hi,((ev_out hx).2.append (ev_out hy).2).append ⟨ho,trivial⟩⟩
theorem a_fpe {t : TypeId} {x : Operand} {id n i f : Nat} {ti : TI} {fl off e k : Nat} {rows : List (List D)} (hx : ev σ x = some (.pe id n i f)) (ho : get σ (.o id) = .ob (.arr e k rows)) (ht : tget cx.T t = some ti) (hf : fldOff ti fl = some off) (hd : Nat.blt d cx.n = true) (hn : n = rows.length) :
  OA cx σ ⟨some d,.fieldAddr t x fl,ty,pos,af,gd⟩ ⟨rdOf x (.pe id n i f) ++ [(.o id,.ob (.arr e k rows))],[(.s d,.av (.pe id n i (f + off)))]⟩ :=
 ⟨ok_fa_pe (lt_of_blt hd) (ev_out hx).1 ht hf hn,(ev_out hx).2.append ⟨ho,trivial⟩⟩
theorem a_lpe {t : TypeId} {x : Operand} {id n i f e k : Nat} {rows : List (List D)} {r : List D} {ti : TI} {y : D} (hx : ev σ x = some (.pe id n i f)) (ho : get σ (.o id) = .ob (.arr e k rows)) (ht : tget cx.T t = some ti)
  (hd : Nat.blt d cx.n = true) (hr : rows[i]? = some r) (hl : ldD ti (r.drop f) = some y) (hn : n = rows.length) :
  OA cx σ ⟨some d,.load t x,ty,pos,af,gd⟩ ⟨rdOf x (.pe id n i f) ++ [(.o id,.ob (.arr e k rows))],[(.s d,.av (.d y))]⟩ :=
 ⟨ok_load_pe (lt_of_blt hd) (ev_out hx).1 ht hn hr hl,(ev_out hx).2.append ⟨ho,trivial⟩⟩
theorem a_spe {t : TypeId} {x y : Operand} {id n i f e k : Nat} {rows : List (List D)} {r new : List D} {av : AV} {ti : TI} (hx : ev σ x = some (.pe id n i f)) (ho : get σ (.o id) = .ob (.arr e k rows)) (hy : ev σ y = some av) (ht : tget cx.T t = some ti)
  (hc : dcells av = some new) (hnn : Nat.beq new.length ti.n = true) (hr : rows[i]? = some r) (hle : Nat.ble (f + new.length) r.length = true) (hn : n = rows.length) :
  OA cx σ ⟨none,.store t x y,ty,pos,af,gd⟩ ⟨rdOf x (.pe id n i f) ++ (rdOf y av ++ [(.o id,.ob (.arr e k rows))]),[(.o id,.ob (.arr e k (rows.set i (splice r f new))))]⟩ :=
 ⟨ok_store_pe (ev_out hx).1 (ev_out hy).1 ht hc hn hr hnn (by simpa using hle),(ev_out hx).2.append ((ev_out hy).2.append ⟨ho,trivial⟩)⟩
theorem map_at {α : Type} {l : List α} {f : α → List D} {k : Nat} {x : α} (h : l[k]? = some x) : (l.map f)[k]? = some (f x) := by simp [h]
end Go.AX
namespace Go.AX
open Go.RowKit
variable {cx : Cx} {g : Nat → Value} {σ : St} {a : Act} {w : World} {nx : Nat} {c : Code} {Q : Exit → St → Prop}
variable {ty : TypeId} {pos : String} {af : Array Edge} {gd : Option (Nat × Bool)} {d : Nat}
theorem CW.empty {k : Nat} (i : Nat) (hi : get σ (.s i) = .av (.d (.sl k []))) (h : ∀ (p : Option Addr) (cp : Nat),CW cx c Q ((.s i,.av (.d (.v (.slice p 0 cp)))) :: σ)) : CW cx c Q σ := by
 intro a w hs
 have hs0 := hs
 obtain ⟨g,nx,hG⟩ := hs0
 have hr : Rd w (cx.own g σ) (a.tmps.getD i undef) (.sl k []) := (hG.slots i _ hi).1
 have key : ∃ p cp,a.tmps.getD i undef = .slice p 0 cp := by
  generalize a.tmps.getD i undef = x at hr
  generalize hD : D.sl k [] = D0 at hr
  cases hr with
  | v => cases hD
  | x => cases hD
  | agg => cases hD
  | nil p cp => exact ⟨p,cp,rfl⟩
  | sl ad cp k' rows f hb hsz hcap hk hc h1 hr => cases hD;exact ⟨_,_,rfl⟩
 obtain ⟨p,cp,hv⟩ := key
 exact h p cp a w (Sim.retell hG (by rw [hv];exact Rd.v _) trivial)
theorem stut_nilv {i k cp : Nat} {p : Option Addr} : Stut cx ⟨[(.s i,.av (.d (.v (.slice p 0 cp))))],[(.s i,.av (.d (.sl k [])))]⟩ := by
 rintro σ a w ⟨g,nx,hs⟩ hr
 exact Sim.retell hs (av := .d (.sl k [])) (DLe_nilv p cp k (hs.slots i _ hr.1).1) trivial
theorem bin_isnil {P : Program} {t e : TypeId} {p : Option Addr} {n cp : Nat} (h : P.underlying t = some (.slice e)) : BinR P .eql t (.slice p n cp) (.slice none 0 0) (.bool p.isNone) := by
 intro w x y
 rw [eqGuard_at_slice]
 simp only [Sem.run_bind,Sem.run_pure,Result.andThen_ok]
 exact Go.Lib.run_eql_slice_nil w t e p n cp 0 0 h
theorem tbl_slice {t : TypeId} {ti : TI} {k : Nat} (ht : tget cx.T t = some ti) (hk : slK ti = some k) : ∃ e,cx.P.underlying t = some (.slice e) := by
 obtain ⟨e,ie,hu,_⟩ := slice_of (cx.hT t ti ht) hk
 exact ⟨e,hu⟩
theorem a_nilv {t t' : TypeId} {x y : Operand} {p : Option Addr} {n cp k : Nat} {ti : TI} (hx : ev σ x = some (.d (.v (.slice p n cp)))) (hy : ev σ y = some (.d (.v (.slice none 0 0)))) (ht : tget cx.T t = some ti) (hk : slK ti = some k) (hd : Nat.blt d cx.n = true) :
  OA cx σ ⟨some d,.binOp .eql t x y t',ty,pos,af,gd⟩ ⟨rdOf x (.d (.v (.slice p n cp))) ++ rdOf y (.d (.v (.slice none 0 0))),[(.s d,.av (.d (.v (.bool p.isNone))))]⟩ := by
 obtain ⟨e,hu⟩ := tbl_slice (cx := cx) ht hk
 exact a_bin hx hy (bin_isnil hu) hd
theorem ok_nilsl {t t' : TypeId} {x y : Operand} {k k' : Nat} {r : List D} {rows : List (List D)} {ti : TI} (hn : d < cx.n) (hx : EvS x (.d (.sl k (r :: rows)))) (hy : EvS y (.d (.v (.slice none 0 0)))) (ht : tget cx.T t = some ti) (hk : slK ti = some k') :
  OpOk cx ⟨some d,.binOp .eql t x y t',ty,pos,af,gd⟩ ⟨rdOf x (.d (.sl k (r :: rows))) ++ rdOf y (.d (.v (.slice none 0 0))),[(.s d,.av (.d (.v (.bool false))))]⟩ := by
 refine ok_val rfl hn fun σ a w g nx hs hr => ⟨.bool false,w,?_,Below.refl _ _,Rd.v _,trivial⟩
 obtain ⟨e,hu⟩ := tbl_slice (cx := cx) ht hk
 have h1 : Rd w (cx.own g σ) (a.eval x) (.sl k (r :: rows)) := (hs.ev hx hr.left).1
 have h2 := rep_v (hs.ev hy hr.right).1
 have key : ∃ ad n cp,a.eval x = .slice (some ad) n cp := by
  generalize a.eval x = v at h1
  generalize hD : D.sl k (r :: rows) = D0 at h1
  cases h1 with
  | v => cases hD
  | x => cases hD
  | agg => cases hD
  | nil p cp => cases hD
  | sl ad cp k' rows f hb hsz hcap hk hc h1 hr => exact ⟨_,_,_,rfl⟩
 obtain ⟨ad,n,cp,hv⟩ := key
 have := bin_isnil (P := cx.P) (p := some ad) (n := n) (cp := cp) hu w x y
 simp only [execOp,hv,h2,Sem.run_bind] at this ⊢
 rw [this]
 rfl
theorem a_nilsl {t t' : TypeId} {x y : Operand} {k k' : Nat} {r : List D} {rows : List (List D)} {ti : TI} (hx : ev σ x = some (.d (.sl k (r :: rows)))) (hy : ev σ y = some (.d (.v (.slice none 0 0)))) (ht : tget cx.T t = some ti) (hk : slK ti = some k') (hd : Nat.blt d cx.n = true) :
  OA cx σ ⟨some d,.binOp .eql t x y t',ty,pos,af,gd⟩ ⟨rdOf x (.d (.sl k (r :: rows))) ++ rdOf y (.d (.v (.slice none 0 0))),[(.s d,.av (.d (.v (.bool false))))]⟩ :=
 ⟨ok_nilsl (lt_of_blt hd) (ev_out hx).1 (ev_out hy).1 ht hk,(ev_out hx).2.append (ev_out hy).2⟩
def inK (ti : TI) : Option IntKind := match ti.kind with
 | .int k => some k
 | _ => none
theorem int_of {t : TypeId} {ti : TI} {k : IntKind} (ht : tget cx.T t = some ti) (hk : inK ti = some k) : cx.P.underlying t = some (.int k) := by
 have h := (cx.hT t ti ht).kind
 unfold inK at hk
 split at hk
 ·
  next k' hkk => cases hk;rw [hkk] at h;exact h.1
 ·
  cases hk
theorem ok_conv {s t : TypeId} {x : Operand} {ks kt : IntKind} {n : Int} {si ti : TI} (hn : d < cx.n) (hx : EvS x (.d (.v (.int ks n)))) (hs' : tget cx.T s = some si) (hks : inK si = some ks) (ht : tget cx.T t = some ti) (hkt : inK ti = some kt) (hw : kt.wrap n = n) :
  OpOk cx ⟨some d,.convert s t x,ty,pos,af,gd⟩ ⟨rdOf x (.d (.v (.int ks n))),[(.s d,.av (.d (.v (.int kt n))))]⟩ := by
 refine ok_val rfl hn fun σ a w g nx hs hr => ⟨.int kt n,w,?_,Below.refl _ _,Rd.v _,trivial⟩
 have hv := rep_v (hs.ev hx hr).1
 have h1 := int_of (cx := cx) hs' hks
 have h2 := int_of (cx := cx) ht hkt
 have h3 : cx.P.intKind t = kt := by simp [Program.intKind,h2]
 have := run_convert_int (P := cx.P) w s t ks n (by simp [h1]) (by rw [h3];exact h2)
 rw [h3,hw] at this
 simp [execOp,hv,this]
theorem a_conv {s t : TypeId} {x : Operand} {ks kt : IntKind} {n : Int} {si ti : TI} (hx : ev σ x = some (.d (.v (.int ks n)))) (hs' : tget cx.T s = some si) (hks : inK si = some ks) (ht : tget cx.T t = some ti) (hkt : inK ti = some kt) (hd : Nat.blt d cx.n = true) (hw : kt.wrap n = n) :
  OA cx σ ⟨some d,.convert s t x,ty,pos,af,gd⟩ ⟨rdOf x (.d (.v (.int ks n))),[(.s d,.av (.d (.v (.int kt n))))]⟩ :=
 ⟨ok_conv (lt_of_blt hd) (ev_out hx).1 hs' hks ht hkt hw,(ev_out hx).2⟩
theorem wrap_u64_in {n : Int} (h : 0 ≤ n ∧ n ≤ 9223372036854775807) : IntKind.u64.wrap n = n := by
 rw [IntKind.wrap_u64];omega
end Go.AX
namespace Go.AX
theorem by_k {p : Prop} (h : p := by ((focus first | exact rfl | assumption | ((first | apply decide_eq_true | apply decide_eq_false);omega) | (simp;done) | (simp;omega) | (simp;assumption)))) : p := h
theorem by_ks {p : Prop} (h : p := by ((focus first | assumption | ((first | apply decide_eq_true | apply decide_eq_false);omega) | (simp;done) | (simp;omega) | (simp;assumption) | exact rfl))) : p := h
theorem by_g {p : Prop} (h : p := by ((first | exact .none rfl | (refine .yes rfl rfl (gt rfl ?_);(focus first | exact rfl | assumption | ((first | apply decide_eq_true | apply decide_eq_false);omega) | (simp;done) | (simp;omega) | (simp;assumption)))))) : p := h
theorem by_less {p : Prop} (h : p := by ((refine less_of rfl rfl rfl ?_);(repeat (first | exact lessL_nil | refine lessL_nx ?_ | refine lessL_cons (by first | exact rfl | exact get_int rfl (by (focus first | omega | (simp;done) | (simp;omega))) | exact get_own rfl (by first | rfl | (simp;done) | (simp;omega)) | exact get_bool rfl (by (focus first | exact rfl | assumption | ((first | apply decide_eq_true | apply decide_eq_false);omega) | (simp;done) | (simp;omega) | (simp;assumption))) | exact get_sl rfl (by first | rfl | assumption | (simp;done) | (simp only [List.map_append];rfl) | (simp only [List.map_append,List.append_assoc];rfl) | (simp;rfl)) | exact get_arr rfl (by first | rfl | assumption | (simp;done) | (simp only [List.map_append];rfl) | (simp only [List.map_append,List.append_assoc];rfl) | (simp;rfl)) | exact get_box rfl (by first | rfl | assumption | (simp;done) | (simp;rfl))) rfl ?_)))) : p := h
theorem by_oa {p : Prop} (h : p := by
  first
  | ((with_reducible apply a_ia);(iterate 5 exact rfl);apply idx_map;assumption)
  | ((with_reducible apply a_bin);(iterate 2 exact rfl);(first | with_reducible apply bin_add | with_reducible apply bin_sub | apply bin_add | apply bin_sub);(focus first | omega | (simp;done) | (simp;omega));exact rfl)
  | ((with_reducible apply a_pick_t);exact rfl;(focus first | exact rfl | assumption | ((first | apply decide_eq_true | apply decide_eq_false);omega) | (simp;done) | (simp;omega) | (simp;assumption));(iterate 2 exact rfl))
  | ((with_reducible apply a_pick_f);exact rfl;(focus first | exact rfl | assumption | ((first | apply decide_eq_true | apply decide_eq_false);omega) | (simp;done) | (simp;omega) | (simp;assumption));(iterate 2 exact rfl))
  | ((with_reducible apply a_app);(iterate 8 exact rfl);(focus first | exact rfl | (simp;done) | (simp;omega));(focus first | omega | (simp;done) | (simp;omega)))
  | ((with_reducible apply a_store);(iterate 7 exact rfl);(first | exact ⟨rfl,trivial⟩ | (apply nw_own;exact rfl;(focus first | exact rfl | (simp;done) | (simp;omega)))))
  | ((with_reducible apply a_ib);(iterate 6 exact rfl);(first | omega | decide))
  | ((with_reducible apply a_is);(iterate 5 exact rfl);assumption)
  | ((with_reducible apply a_from);(iterate 5 exact rfl);apply cut_from;(focus first | omega | (simp;omega) | (simp;done)))
  | ((with_reducible apply a_to);(iterate 5 exact rfl);apply cut_to;(focus first | omega | (simp;omega) | (simp;done)))
  | ((with_reducible apply a_leno);(iterate 5 exact rfl);(focus first | exact rfl | (simp;done) | (simp;omega)))
  | ((with_reducible apply a_io);(iterate 6 exact rfl);(focus first | exact rfl | (simp;done) | (simp;omega));(focus first | omega | (simp;done) | (simp;omega)))
  | ((with_reducible apply a_fpe);(iterate 5 exact rfl);(focus first | exact rfl | (simp;done) | (simp;omega)))
  | ((with_reducible apply a_lpe);(iterate 4 exact rfl);(focus first | assumption | (apply map_at;assumption));exact rfl;(focus first | exact rfl | (simp;done) | (simp;omega)))
  | ((with_reducible apply a_spe);(iterate 6 exact rfl);(focus first | assumption | (apply map_at;assumption));exact rfl;(focus first | exact rfl | (simp;done) | (simp;omega)))
  | ((with_reducible apply a_nilv);(iterate 5 exact rfl))
  | ((with_reducible apply a_nilsl);(iterate 5 exact rfl))
  | ((with_reducible apply a_conv);(iterate 6 exact rfl);(apply wrap_u64_in;(focus first | omega | (simp;done) | (simp;omega))))
  | ((with_reducible apply a_conv);(iterate 6 exact rfl);(apply wrap_in;(focus first | omega | (simp;done) | (simp;omega))))
  | ((with_reducible apply a_box);(iterate 4 exact rfl);(first | exact ⟨rfl,trivial⟩ | (apply nw_own;exact rfl;(focus first | exact rfl | (simp;done) | (simp;omega)))))
  ) : p := h
theorem by_sub {p : Prop} (h : p := by (repeat (first | exact SubsE.nil | (apply SubsE.cons;exact rfl;(first | exact .d (.refl _) | exact .d (.nil _) | exact .agg rfl (.refl _) | exact .pd | exact .ptr rfl);(first | exact trivial | exact ⟨rfl,trivial⟩))))) : p := h
theorem by_ca {p : Prop} (h : p := by exact a_call (by assumption) rfl by_sub) : p := h
structure Hold (q : Prop) : Prop where
 get : q
structure StopA (n : Nat) : Prop where
 t : n = n
structure StopX (n : Nat) : Prop where
 t : n = n
structure StopR (n : Nat) : Prop where
 t : n = n
variable {cx : Cx} {σ : St} {Q : Exit → St → Prop}
theorem stop_atA {x y : Code} {n : Nat} (_h : firstRegion x = some n) (_hn : StopA n) (hs : Stop (CW cx (.seq x y) Q σ)) : CW cx (.seq x y) Q σ := hs
theorem stop_atX {ops : Array Oper} {b : Bool} {n : Nat} (_hn : StopX n) (hs : Stop (CW cx (.region n ops b) Q σ)) : CW cx (.region n ops b) Q σ := hs
theorem stop_atR {ops : Array Oper} {b : Bool} {y : Code} {n : Nat} (_hn : StopR n) (hs : Stop (CW cx (.seq (.region n ops b) y) Q σ)) : CW cx (.seq (.region n ops b) y) Q σ := hs
theorem wk {p q : Prop} (h : q) (s : Hold q → p := by
  intro hq
  (first | ((with_reducible apply s1);exact rfl) | (with_reducible first | apply CW.seq | apply CW.block | apply CW.region | apply CW.draw | apply CW.skip | apply CW.exit | apply CW.ret | apply q_then | apply q_then_exit | apply q_then_ret | apply q_block | apply q_block_ret | apply q_block_hit | apply q_ret | apply q_end | apply q_loop_exit | apply q_loop_ret | apply q_loopT_exit | apply q_loopT_ret | apply RW.nil) | ((with_reducible apply s3);exact rfl;exact by_k) | ((with_reducible apply s2);exact rfl;exact by_k) | ((with_reducible apply s4);exact rfl) | ((with_reducible apply s5);(first | exact by_oa | exact by_ca);exact by_g) | ((with_reducible apply CW.cond_t);exact rfl;exact by_ks) | ((with_reducible apply CW.cond_f);exact rfl;exact by_ks) | ((with_reducible apply q_block_miss);exact rfl) | (refine And.intro (show chk [] [] _ _ = true by kernel_rfl) ?_))
  (repeat (first | ((with_reducible apply s1);exact rfl) | (with_reducible first | apply CW.seq | apply CW.block | apply CW.region | apply CW.draw | apply CW.skip | apply CW.exit | apply CW.ret | apply q_then | apply q_then_exit | apply q_then_ret | apply q_block | apply q_block_ret | apply q_block_hit | apply q_ret | apply q_end | apply q_loop_exit | apply q_loop_ret | apply q_loopT_exit | apply q_loopT_ret | apply RW.nil) | ((with_reducible apply s3);exact rfl;exact by_k) | ((with_reducible apply s2);exact rfl;exact by_k) | ((with_reducible apply s4);exact rfl) | ((with_reducible apply s5);(first | exact by_oa | exact by_ca);exact by_g) | ((with_reducible apply CW.cond_t);exact rfl;exact by_ks) | ((with_reducible apply CW.cond_f);exact rfl;exact by_ks) | ((with_reducible apply q_block_miss);exact rfl) | (refine And.intro (show chk [] [] _ _ = true by kernel_rfl) ?_)))
  exact hq.get) : p := s ⟨h⟩
theorem wkS {p q : Prop} (h : q) (s : Hold q → p := by
  intro hq
  (first | ((with_reducible apply stop_atA);exact rfl;assumption) | ((with_reducible apply stop_atX);assumption) | ((with_reducible apply stop_atR);assumption) | ((with_reducible apply s1);exact rfl) | (with_reducible first | apply CW.seq | apply CW.block | apply CW.region | apply CW.draw | apply CW.skip | apply CW.exit | apply CW.ret | apply q_then | apply q_then_exit | apply q_then_ret | apply q_block | apply q_block_ret | apply q_block_hit | apply q_ret | apply q_end | apply q_loop_exit | apply q_loop_ret | apply q_loopT_exit | apply q_loopT_ret | apply RW.nil) | ((with_reducible apply s3);exact rfl;exact by_k) | ((with_reducible apply s2);exact rfl;exact by_k) | ((with_reducible apply s4);exact rfl) | ((with_reducible apply s5);(first | exact by_oa | exact by_ca);exact by_g) | ((with_reducible apply CW.cond_t);exact rfl;exact by_ks) | ((with_reducible apply CW.cond_f);exact rfl;exact by_ks) | ((with_reducible apply q_block_miss);exact rfl) | (refine And.intro (show chk [] [] _ _ = true by kernel_rfl) ?_))
  (repeat (first | ((with_reducible apply stop_atA);exact rfl;assumption) | ((with_reducible apply stop_atX);assumption) | ((with_reducible apply stop_atR);assumption) | ((with_reducible apply s1);exact rfl) | (with_reducible first | apply CW.seq | apply CW.block | apply CW.region | apply CW.draw | apply CW.skip | apply CW.exit | apply CW.ret | apply q_then | apply q_then_exit | apply q_then_ret | apply q_block | apply q_block_ret | apply q_block_hit | apply q_ret | apply q_end | apply q_loop_exit | apply q_loop_ret | apply q_loopT_exit | apply q_loopT_ret | apply RW.nil) | ((with_reducible apply s3);exact rfl;exact by_k) | ((with_reducible apply s2);exact rfl;exact by_k) | ((with_reducible apply s4);exact rfl) | ((with_reducible apply s5);(first | exact by_oa | exact by_ca);exact by_g) | ((with_reducible apply CW.cond_t);exact rfl;exact by_ks) | ((with_reducible apply CW.cond_f);exact rfl;exact by_ks) | ((with_reducible apply q_block_miss);exact rfl) | (refine And.intro (show chk [] [] _ _ = true by kernel_rfl) ?_)))
  exact hq.get) : p := s ⟨h⟩
theorem wa {p q : Prop} (h : q) (s : Hold q → p := by
  intro hq
  (first | ((with_reducible apply s1);exact rfl) | (with_reducible first | apply CW.seq | apply CW.block | apply CW.region | apply CW.draw | apply CW.skip | apply CW.exit | apply CW.ret | apply q_then | apply q_then_exit | apply q_then_ret | apply q_block | apply q_block_ret | apply q_block_hit | apply q_ret | apply q_end | apply q_loop_exit | apply q_loop_ret | apply q_loopT_exit | apply q_loopT_ret | apply RW.nil) | ((with_reducible apply s3);exact rfl;exact by_k) | ((with_reducible apply s2);exact rfl;exact by_k) | ((with_reducible apply s4);exact rfl))
  (repeat (first | ((with_reducible apply s1);exact rfl) | (with_reducible first | apply CW.seq | apply CW.block | apply CW.region | apply CW.draw | apply CW.skip | apply CW.exit | apply CW.ret | apply q_then | apply q_then_exit | apply q_then_ret | apply q_block | apply q_block_ret | apply q_block_hit | apply q_ret | apply q_end | apply q_loop_exit | apply q_loop_ret | apply q_loopT_exit | apply q_loopT_ret | apply RW.nil) | ((with_reducible apply s3);exact rfl;exact by_k) | ((with_reducible apply s2);exact rfl;exact by_k) | ((with_reducible apply s4);exact rfl)))
  exact hq.get) : p := s ⟨h⟩
theorem waS {p q : Prop} (h : q) (s : Hold q → p := by
  intro hq
  (first | ((with_reducible apply stop_atA);exact rfl;assumption) | ((with_reducible apply stop_atX);assumption) | ((with_reducible apply stop_atR);assumption) | ((with_reducible apply s1);exact rfl) | (with_reducible first | apply CW.seq | apply CW.block | apply CW.region | apply CW.draw | apply CW.skip | apply CW.exit | apply CW.ret | apply q_then | apply q_then_exit | apply q_then_ret | apply q_block | apply q_block_ret | apply q_block_hit | apply q_ret | apply q_end | apply q_loop_exit | apply q_loop_ret | apply q_loopT_exit | apply q_loopT_ret | apply RW.nil) | ((with_reducible apply s3);exact rfl;exact by_k) | ((with_reducible apply s2);exact rfl;exact by_k) | ((with_reducible apply s4);exact rfl))
  (repeat (first | ((with_reducible apply stop_atA);exact rfl;assumption) | ((with_reducible apply stop_atX);assumption) | ((with_reducible apply stop_atR);assumption) | ((with_reducible apply s1);exact rfl) | (with_reducible first | apply CW.seq | apply CW.block | apply CW.region | apply CW.draw | apply CW.skip | apply CW.exit | apply CW.ret | apply q_then | apply q_then_exit | apply q_then_ret | apply q_block | apply q_block_ret | apply q_block_hit | apply q_ret | apply q_end | apply q_loop_exit | apply q_loop_ret | apply q_loopT_exit | apply q_loopT_ret | apply RW.nil) | ((with_reducible apply s3);exact rfl;exact by_k) | ((with_reducible apply s2);exact rfl;exact by_k) | ((with_reducible apply s4);exact rfl)))
  exact hq.get) : p := s ⟨h⟩
theorem wa1 {p q : Prop} (h : q) (s : Hold q → p := by
  intro hq
  (first | ((with_reducible apply s1);exact rfl) | (with_reducible first | apply CW.seq | apply CW.block | apply CW.region | apply CW.draw | apply CW.skip | apply CW.exit | apply CW.ret | apply q_then | apply q_then_exit | apply q_then_ret | apply q_block | apply q_block_ret | apply q_block_hit | apply q_ret | apply q_end | apply q_loop_exit | apply q_loop_ret | apply q_loopT_exit | apply q_loopT_ret | apply RW.nil) | ((with_reducible apply s3);exact rfl;exact by_k) | ((with_reducible apply s2);exact rfl;exact by_k) | ((with_reducible apply s4);exact rfl))
  exact hq.get) : p := s ⟨h⟩
theorem wa1S {p q : Prop} (h : q) (s : Hold q → p := by
  intro hq
  (first | ((with_reducible apply stop_atA);exact rfl;assumption) | ((with_reducible apply stop_atX);assumption) | ((with_reducible apply stop_atR);assumption) | ((with_reducible apply s1);exact rfl) | (with_reducible first | apply CW.seq | apply CW.block | apply CW.region | apply CW.draw | apply CW.skip | apply CW.exit | apply CW.ret | apply q_then | apply q_then_exit | apply q_then_ret | apply q_block | apply q_block_ret | apply q_block_hit | apply q_ret | apply q_end | apply q_loop_exit | apply q_loop_ret | apply q_loopT_exit | apply q_loopT_ret | apply RW.nil) | ((with_reducible apply s3);exact rfl;exact by_k) | ((with_reducible apply s2);exact rfl;exact by_k) | ((with_reducible apply s4);exact rfl))
  exact hq.get) : p := s ⟨h⟩
theorem wb {p q : Prop} (h : q) (s : Hold q → p := by
  intro hq
  (first | ((with_reducible apply CW.cond_t);exact rfl;exact by_ks) | ((with_reducible apply CW.cond_f);exact rfl;exact by_ks) | ((with_reducible apply q_block_miss);exact rfl) | (refine And.intro (show chk [] [] _ _ = true by kernel_rfl) ?_))
  exact hq.get) : p := s ⟨h⟩
end Go.AX
namespace Go.RF
open Go.AX
abbrev Str := List UInt8
abbrev i64 (n : Int) : Value := .int .i64 n
abbrev dint (n : Int) : D := .v (.int .i64 n)
abbrev dbool (b : Bool) : D := .v (.bool b)
abbrev dstr (s : Str) : D := .v (str s)
structure Pair where
 key : Str
 n : Int
 deriving DecidableEq
structure Version where
 by_ : Int
 made : Bool
 has : Bool
 n : Int
 deriving DecidableEq
structure Chain where
 key : Str
 vs : List Version
 deriving DecidableEq
structure Ins where
 kind : Int
 a : Int
 b : Int
 n : Int
 key : Str
 deriving DecidableEq
structure Deed where
 reads : List Str
 writes : List Str
 code : List Ins
 deriving DecidableEq
structure Done where
 failed : Bool
 r0 : Int
 r1 : Int
 r2 : Int
 r3 : Int
 deriving DecidableEq
structure Engine where
 chains : List Chain
 deeds : List Deed
 state : List Int
 ends : List Done
 base : Int
 deriving DecidableEq
def Pair.enc (p : Pair) : List D := [dstr p.key,dint p.n]
def Version.enc (v : Version) : List D := [dint v.by_,dbool v.made,dbool v.has,dint v.n]
def encVs (l : List Version) : D := .sl 4 (l.map Version.enc)
def Chain.enc (c : Chain) : List D := [dstr c.key,encVs c.vs]
def Ins.enc (i : Ins) : List D := [dint i.kind,dint i.a,dint i.b,dint i.n,dstr i.key]
def encStr1 (s : Str) : List D := [dstr s]
def encInt1 (n : Int) : List D := [dint n]
def encStrs (l : List Str) : D := .sl 1 (l.map encStr1)
def encInts (l : List Int) : D := .sl 1 (l.map encInt1)
def encCode (l : List Ins) : D := .sl 5 (l.map Ins.enc)
def Deed.enc (d : Deed) : List D := [encStrs d.reads,encStrs d.writes,encCode d.code]
def Done.enc (d : Done) : List D := [dbool d.failed,dint d.r0,dint d.r1,dint d.r2,dint d.r3]
def encChains (l : List Chain) : D := .sl 2 (l.map Chain.enc)
def encDeeds (l : List Deed) : D := .sl 3 (l.map Deed.enc)
def encEnds (l : List Done) : D := .sl 5 (l.map Done.enc)
def Engine.enc (e : Engine) : List D := [encChains e.chains,encDeeds e.deeds,encInts e.state,encEnds e.ends,dint e.base]
theorem dle_int {n m : Int} (h : n = m) : DLe (dint n) (dint m) := by rw [h];exact .refl _
theorem dle_bool {n m : Bool} (h : n = m) : DLe (dbool n) (dbool m) := by rw [h];exact .refl _
theorem dle_eq {x y : D} (h : x = y) : DLe x y := by rw [h];exact .refl _
inductive DLes : List D → List D → Prop
 | nil : DLes [] []
 | cons {x y : D} {xs ys : List D} (h : DLe x y) (hr : DLes xs ys) : DLes (x :: xs) (y :: ys)
theorem DLes.at {a b : List D} (h : DLes a b) : a.length = b.length ∧ ∀ (j : Nat) (x y : D),a[j]? = some x → b[j]? = some y → DLe x y := by
 induction h with
 | nil => exact ⟨rfl,fun j x y h => by simp at h⟩
 | cons h hr ih =>
  refine ⟨by simp [ih.1],fun j x y hx hy => ?_⟩
  cases j with
  | zero => simp at hx hy;subst hx hy;exact h
  | succ j => exact ih.2 j x y (by simpa using hx) (by simpa using hy)
theorem DLes.agg {a b : List D} (h : DLes a b) : DLe (.agg a) (.agg b) := .agg a b h.at.1 h.at.2
theorem dle_nil (k : Nat) : DLe (.v nilS) (.sl k []) := .nil k
theorem idx_map {α : Type} {l : List α} {f : α → List D} {k : Nat} {x : α} (h : l[k]? = some x) : idx (l.map f) (k : Int) = some (f x) := by
 simp [idx,List.getElem?_map,h]
end Go.RF
namespace Go.AX
open Go.RowKit Go.WideShapes Go.ChangeShapes
section
variable {H : Type} {enc : TypeId × Value → H} {P : Program}
theorem post_of_below {f : Func} {s : ChangeSpec} {apart fresh handsOn again : Bool} {W W' : World} {args : Array Value} {v : Value} {ds gs : List (DataW H)} {before pa pv : List MemPlace}
  (hW : DataW.Whole enc P f.params.toList s.vars apart W args.toList ds gs before)
  (hres : ∀ (b : Nat) (sp : Nat → Bool) (hd : Bool),DataW.TrodAll enc P W' b sp hd f.resultTypes.toList (v.resultList f.resultTypes.size) (s.fn H (ds ++ gs)).results [])
  (hargs : ∀ sp : Nat → Bool,(∀ p ∈ before,sp p.block = true) → DataW.TrodAll enc P W' 0 sp true f.params.toList args.toList (s.fn H (ds ++ gs)).args pa)
  (hvars : ∀ sp : Nat → Bool,(∀ p ∈ before,sp p.block = true) → DataW.TrodVars enc P W' sp s.vars (s.fn H (ds ++ gs)).vars pv)
  (hps : before = pa ++ pv) (hb : Below W.heap.size W W')
  (hok : ∀ (j : Nat) (t : TypeId) (r : Value),f.resultTypes[j]? = some t → (v.resultList f.resultTypes.size)[j]? = some r → Value.okWide P W' .any 0 t r) :
  s.post enc P f apart fresh handsOn again W args v W' := by
 have hlt : ∀ p ∈ before,p.block < W.heap.size := fun p hp => hW.lt p hp
 have hold : ∀ p ∈ before,(fun b => decide (b < W.heap.size)) p.block = true := fun p hp => by simpa using hlt p hp
 refine ⟨ds,gs,before,[],pa,pv,hW,hres _ _ _,hargs _ hold,hvars _ hold,World.keptBut_mono (fun p hp => ⟨hp,?_⟩) (hb.frame (· ∈ before)),fun _ => ?_⟩
 ·
  rw [hps,List.mem_append] at hp
  exact Or.inr hp
 ·
  obtain ⟨_,_,_,_,_,hz,hn⟩ := hW
  refine ⟨hok,_,_,([] ++ pa) ++ pv,⟨[] ++ pa,pv,trodAll_append (hargs _ (fun _ _ => rfl)) (hres _ _ _),hvars _ (fun _ _ => rfl),rfl,?_,?_⟩,?_⟩
  ·
   intro b off hp
   have hin : MemPlace.cell b off ∈ before := by rw [hps];simpa using hp
   rw [hb.frozen (hlt _ hin)]
   exact hz b off hin
  ·
   intro ha
   have := hn ha
   rw [hps] at this
   simpa using this
  ·
   intro p hp _
   rw [hps]
   simpa using hp
end
theorem FnOk.bool {P : Program} {f : FuncId} {args : List Arg} {b : Bool} (h : FnOk P f args (.one (.v (.bool b)))) {w : World} {vs : List Value} (hgl : Gl P w) (ha : ArgsOk w (fun _ => False) vs args) :
  Calls P f vs.toArray w fun e w' => e = .returned (.bool b) ∧ Below w.heap.size w w' :=
 (h.calls w (fun _ => False) vs ⟨fun _ h => h.elim,hgl⟩ ha).mono fun _ _ ⟨v,h1,h2,h3⟩ => ⟨by rw [h1,rd_v h3],h2⟩
end Go.AX
namespace Go.Proofs.YtmnociojijpdmaaGreatDoor
open Go.AX Go.RF Go.RowKit Go.ChangeShapes Go.WideShapes Go.Deep
inductive Sh where
 | num (k : IntKind)
 | str
 | bool
 | sl (fs : List Sh)
mutual
inductive Fits : Sh → Nat → D → Prop
 | num (k : IntKind) (n : Int) (m : Nat) (h : (Lit.int k n).wf = true) : Fits (.num k) m (.v (.int k n))
 | str (s : Str) (m : Nat) (h : s.length ≤ m) : Fits .str m (dstr s)
 | bool (b : Bool) (m : Nat) : Fits .bool m (dbool b)
 | sl (fs : List Sh) (m : Nat) (rows : List (List D)) (h : FitsR fs m rows) : Fits (.sl fs) m (.sl fs.length rows)
inductive FitsL : List Sh → Nat → List D → Prop
 | nil (m : Nat) : FitsL [] m []
 | cons {s : Sh} {a b m : Nat} {d : D} {ss : List Sh} {ds : List D} (h : Fits s a d) (hr : FitsL ss b ds) (hm : a + b ≤ m) : FitsL (s :: ss) m (d :: ds)
inductive FitsR : List Sh → Nat → List (List D) → Prop
 | nil (fs : List Sh) (m : Nat) : FitsR fs m []
 | cons {fs : List Sh} {a b m : Nat} {r : List D} {rows : List (List D)} (h : FitsL fs a r) (hr : FitsR fs b rows) (hm : a + b + 1 ≤ m) : FitsR fs m (r :: rows)
end
mutual
inductive TySh (P : Program) : TypeId → List Sh → Prop
 | num {t : TypeId} {k : IntKind} (h : P.underlying t = some (.int k)) : TySh P t [.num k]
 | str {t : TypeId} (h : P.underlying t = some .string) : TySh P t [.str]
 | bool {t : TypeId} (h : P.underlying t = some .bool) : TySh P t [.bool]
 | sl {t e : TypeId} {fs : List Sh} (h : P.underlying t = some (.slice e)) (hk : P.cellsOf e = fs.length) (h0 : 0 < fs.length) (he : TySh P e fs) : TySh P t [.sl fs]
 | st {t : TypeId} {fs : Array Field} {ss : List Sh} (h : P.underlying t = some (.struct fs)) (hC : P.cellsOf t = ss.length) (hf : TyFs P fs.toList 0 ss) : TySh P t ss
inductive TyFs (P : Program) : List Field → Nat → List Sh → Prop
 | nil (o : Nat) : TyFs P [] o []
 | cons {f : Field} {r : List Field} {o n : Nat} {s ss : List Sh} (ho : f.offset = o) (hc : P.cellsOf f.type = s.length) (hn : n = o + s.length) (ht : TySh P f.type s) (hr : TyFs P r n ss) : TyFs P (f :: r) o (s ++ ss)
end
theorem FitsL.mono {ss : List Sh} {m n : Nat} {ds : List D} (h : FitsL ss m ds) (hm : m ≤ n) : FitsL ss n ds := by
 cases h with
 | nil => exact .nil _
 | cons h1 h2 h3 => exact .cons h1 h2 (by omega)
theorem FitsL.append : ∀ {ss ts : List Sh} {a b m : Nat} {ds es : List D},FitsL ss a ds → FitsL ts b es → a + b ≤ m → FitsL (ss ++ ts) m (ds ++ es)
 | [],ts,a,b,m,ds,es,h,h',hm => by cases h;exact h'.mono (by omega)
 | s :: ss,ts,a,b,m,ds,es,h,h',hm => by
  cases h with
  | cons h1 h2 h3 => exact .cons h1 (h2.append (m := _) h' (Nat.le_refl _)) (by omega)
theorem FitsL.len : ∀ {ss : List Sh} {m : Nat} {ds : List D},FitsL ss m ds → ds.length = ss.length
 | [],m,ds,h => by cases h;rfl
 | s :: ss,m,ds,h => by
  cases h with
  | cons h1 h2 h3 => simp [h2.len]
theorem FitsR.row {fs : List Sh} : ∀ {rows : List (List D)} {m : Nat},FitsR fs m rows → ∀ r ∈ rows,r.length = fs.length
 | [],m,h,r,hr => by simp at hr
 | x :: rows,m,h,r,hr => by
  cases h with
  | cons h1 h2 h3 =>
   rcases List.mem_cons.1 hr with rfl | hr
   ·
    exact h1.len
   ·
    exact h2.row r hr
theorem FitsR.mono {fs : List Sh} {m n : Nat} {rows : List (List D)} (h : FitsR fs m rows) (hm : m ≤ n) : FitsR fs n rows := by
 cases h with
 | nil => exact .nil _ _
 | cons h1 h2 h3 => exact .cons h1 h2 (by omega)
section
variable {H : Type} {enc : TypeId × Value → H} {P : Program} {w : World}
theorem fitsR_of {fs : List Sh} {ι : Type} {D0 : ι → DataW H} {f : ι → List D} : ∀ {l : List ι},(∀ i ∈ l,FitsL fs (Rows.uptoBulk (D0 i) - 1) (f i) ∧ 1 ≤ Rows.uptoBulk (D0 i)) → FitsR fs (Rows.uptoBulkAll (l.map D0)) (l.map f)
 | [],_ => .nil _ _
 | i :: l,h => by
  have h1 := h i (List.mem_cons_self ..)
  refine .cons h1.1 (fitsR_of fun j hj => h j (List.mem_cons_of_mem _ hj)) ?_
  simp only [List.map_cons,Rows.uptoBulkAll]
  omega
theorem one_le (d : DataW H) : 1 ≤ Rows.uptoBulk d := by
 cases d with
 | lit l => cases l <;> simp [Rows.uptoBulk]
 | nil => simp [Rows.uptoBulk]
 | ptr d => simp [Rows.uptoBulk]
 | slice elems spare => simp [Rows.uptoBulk]
 | agg parts => simp [Rows.uptoBulk]
 | iface t d => simp [Rows.uptoBulk]
 | map entries => simp [Rows.uptoBulk]
 | held h => simp [Rows.uptoBulk]
def RdL (w : World) (own : Nat → Prop) (cs : List Value) (ds : List D) : Prop :=
 cs.length = ds.length ∧ ∀ (j : Nat) (c : Value) (d : D),cs[j]? = some c → ds[j]? = some d → c.oneCell' = true ∧ Rd w own c d
theorem RdL.one {own : Nat → Prop} {c : Value} {d : D} (h1 : c.oneCell' = true) (h : Rd w own c d) : RdL w own [c] [d] := by
 refine ⟨rfl,fun j c' d' hc hd => ?_⟩
 cases j with
 | zero => simp at hc hd;subst hc hd;exact ⟨h1,h⟩
 | succ j => simp at hc
theorem RdL.append {own : Nat → Prop} {a b : List Value} {x y : List D} (h : RdL w own a x) (h' : RdL w own b y) : RdL w own (a ++ b) (x ++ y) := by
 refine ⟨by simp [h.1,h'.1],fun j c d hc hd => ?_⟩
 rcases Nat.lt_or_ge j a.length with hj | hj
 ·
  rw [List.getElem?_append_left hj] at hc
  rw [List.getElem?_append_left (by rw [← h.1];exact hj)] at hd
  exact h.2 j c d hc hd
 ·
  rw [List.getElem?_append_right hj] at hc
  rw [List.getElem?_append_right (by rw [← h.1];exact hj),← h.1] at hd
  exact h'.2 _ c d hc hd
abbrev noOwn : Nat → Prop := fun _ => False
theorem block_lt {a : Addr} {c : Value} (h : w.cell? (a.add 0) = some c) : a.block < w.heap.size := by
 rcases Nat.lt_or_ge a.block w.heap.size with hlt | hge
 ·
  exact hlt
 ·
  exfalso
  have : w.heap[a.block]? = none := Array.getElem?_eq_none hge
  simp [World.cell?,add_zero,this] at h
theorem open_fields {n : Nat} (ih : ∀ {t : TypeId} {ss : List Sh} {cs : List Value} {x : DataW H × List MemPlace},TySh P t ss → DataW.trod enc P w 0 (fun _ => true) true n t cs = some x →
   ∃ ds : List D,RdL w noOwn cs ds ∧ FitsL ss (Rows.uptoBulk x.1 - 1) ds) : ∀ {fs : List Field} {o : Nat} {ss : List Sh} {cs : List Value} {xs : List (DataW H × List MemPlace)},TyFs P fs o ss → xs.length = fs.length →
  (∀ (i : Nat) (f : Field),fs[i]? = some f → DataW.trod enc P w 0 (fun _ => true) true n f.type ((cs.drop f.offset).take (P.cellsOf f.type)) = xs[i]?) → cs.length = o + ss.length →
  ∃ ds : List D,RdL w noOwn (cs.drop o) ds ∧ FitsL ss (Rows.uptoBulkAll (xs.map (·.1))) ds
 | [],o,ss,cs,xs,hT,hl,hat,hc => by
  cases hT
  refine ⟨[],⟨by simp;simp at hc;omega,fun j c d _ hd => by simp at hd⟩,.nil _⟩
 | f :: r,o,ss,cs,xs,hT,hl,hat,hc => by
  cases hT with
  | @cons _ _ _ n' s ss' ho hcc hn ht hr =>
   cases xs with
   | nil => simp at hl
   | cons x xs =>
    have h0 := hat 0 f rfl
    rw [List.getElem?_cons_zero,ho,hcc] at h0
    obtain ⟨ds,h1,h2⟩ := ih ht h0
    rw [List.length_append] at hc
    obtain ⟨es,h3,h4⟩ := open_fields ih (cs := cs) hr (by simpa using hl) (fun i g hg => by simpa using hat (i + 1) g hg) (by omega)
    refine ⟨ds ++ es,?_,h2.append h4 ?_⟩
    ·
     have := h1.append h3
     rw [hn,← List.drop_drop,List.take_append_drop] at this
     exact this
    ·
     simp only [List.map_cons,Rows.uptoBulkAll];omega
theorem open_cells : ∀ (n : Nat) {t : TypeId} {ss : List Sh} {cs : List Value} {x : DataW H × List MemPlace},TySh P t ss → DataW.trod enc P w 0 (fun _ => true) true n t cs = some x →
  ∃ ds : List D,RdL w noOwn cs ds ∧ FitsL ss (Rows.uptoBulk x.1 - 1) ds
 | 0,t,ss,cs,x,_,h => by simp [DataW.trod] at h
 | n + 1,t,ss,cs,x,hT,h => by
  cases hT with
  | num ht =>
   obtain ⟨v,rfl,rfl,hw⟩ := DataW.trod_int ht h
   exact ⟨[.v (.int _ v)],.one (by simp [Value.oneCell']) (.v _),.cons (a := 0) (b := 0) (.num _ v _ hw) (.nil _) (by omega)⟩
  | str ht =>
   obtain ⟨s,rfl,rfl,hm⟩ := DataW.trod_string ht h
   refine ⟨[dstr s.data.toList],.one (by simp [Value.oneCell']) (.v _),.cons (a := s.data.toList.length) (b := 0) (.str _ _ (Nat.le_refl _)) (.nil _) ?_⟩
   simp [Rows.uptoBulk]
  | bool ht =>
   obtain ⟨v,rfl,rfl⟩ := DataW.trod_bool ht h
   exact ⟨[dbool v],.one (by simp [Value.oneCell']) (.v _),.cons (a := 0) (b := 0) (.bool v _) (.nil _) (by omega)⟩
  | @sl _ e fs ht hk h0 he =>
   rcases DataW.trod_slice ht h with ⟨rfl,rfl⟩ | ⟨a,len,cap,elems,rest,n',hn,rfl,rfl,hb,hl,hm,hlen,hel,_,_⟩
   ·
    exact ⟨[.sl fs.length []],.one (by simp [Value.oneCell']) (.nil none 0 _),.cons (a := 0) (b := 0) (.sl fs 0 [] (.nil _ _)) (.nil _) (by omega)⟩
   ·
    obtain rfl : n = n' := by omega
    obtain ⟨D0,hD0⟩ : ∃ D0 : Nat → DataW H,D0 = fun i => (elems.getD i (.nil,[])).1 := ⟨_,rfl⟩
    have hmap : elems.map (·.1) = (List.range len).map D0 := by rw [hD0,← hlen];exact map_by_index elems (.nil,[]) (·.1)
    rw [hmap]
    obtain ⟨F,hF⟩ := choose_lt (α := List Value × List D) (n := len) (p := fun i y => w.cells? 0 (a.add (i * P.cellsOf e)) (P.cellsOf e) = some y.1 ∧ RdL w noOwn y.1 y.2 ∧ FitsL fs (Rows.uptoBulk (D0 i) - 1) y.2) fun i hil => by
     have hei : elems[i]? = some (elems[i]'(by omega)) := List.getElem?_eq_getElem (by omega)
     have h0 := hel i hil
     rw [hei] at h0
     obtain ⟨cs',h1,h2⟩ := Option.bind_eq_some_iff.1 h0
     obtain ⟨ds,h3,h4⟩ := open_cells n he h2
     have hDi : D0 i = (elems[i]'(by omega)).1 := by rw [hD0];simp [List.getD,hei]
     rw [← hDi] at h4
     exact ⟨(cs',ds),h1,h3,h4⟩
    have hx : ∀ i,i < len → (F i).1.length = fs.length ∧ (F i).2.length = fs.length ∧ ∀ j c,(F i).1[j]? = some c → w.cell? (a.add (i * fs.length + j)) = some c := fun i hil => by
     obtain ⟨h1,h2,h3⟩ := hF i hil
     obtain ⟨_,hlen,hat⟩ := World.cells?_some h1
     rw [hk] at hlen hat
     refine ⟨hlen,by rw [← h2.1,hlen],fun j c hj => ?_⟩
     rw [← AX.add_add,hat j (by rw [← hlen];exact (List.getElem?_eq_some_iff.1 hj).1)]
     exact hj
    have hrow : ∀ i r,((List.range len).map fun i => (F i).2)[i]? = some r → i < len ∧ r = (F i).2 := fun i r hir => by
     obtain ⟨hi1,hi2⟩ := List.getElem?_eq_some_iff.1 hir
     simp at hi1 hi2
     exact ⟨hi1,hi2.symm⟩
    refine ⟨[.sl fs.length ((List.range len).map fun i => (F i).2)],.one (by simp [Value.oneCell']) ?_,.cons (a := Rows.uptoBulkAll ((List.range len).map D0)) (b := 0) (.sl fs _ _ (fitsR_of fun i hir => ⟨(hF i (by simpa using hir)).2.2,one_le _⟩)) (.nil _) ?_⟩
    ·
     rcases Nat.eq_zero_or_pos len with rfl | hlen
     ·
      exact .nil _ _ _
     ·
      have hpos := (hx 0 hlen)
      have hcell : ∃ c,w.cell? (a.add 0) = some c := by
       have h1 : 0 < (F 0).1.length := by rw [hpos.1];exact h0
       exact ⟨_,by simpa using hpos.2.2 0 _ (List.getElem?_eq_getElem h1)⟩
      have hsz : a.block < w.heap.size := by
       obtain ⟨c,hc⟩ := hcell
       exact block_lt hc
      have key := Rd.sl (w := w) (own := noOwn) a cap fs.length ((List.range len).map fun i => (F i).2) (fun i j => ((F i).1[j]?).getD undef) (fun h => h) hsz (by simpa using hl)
       (fun r hr => by
        obtain ⟨i,hi2,rfl⟩ := List.mem_map.1 hr
        exact (hx i (by simpa using hi2)).2.1)
       (fun i j r d hr hd => by
        obtain ⟨hil,rfl⟩ := hrow i r hr
        obtain ⟨h1,h2,h3⟩ := hx i hil
        have hj : j < (F i).1.length := by rw [h1,← h2];exact (List.getElem?_eq_some_iff.1 hd).1
        rw [List.getElem?_eq_getElem hj]
        exact h3 j _ (List.getElem?_eq_getElem hj))
       (fun i j r d hr hd => by
        obtain ⟨hil,rfl⟩ := hrow i r hr
        obtain ⟨h1,h2,h3⟩ := hx i hil
        have hj : j < (F i).1.length := by rw [h1,← h2];exact (List.getElem?_eq_some_iff.1 hd).1
        rw [List.getElem?_eq_getElem hj]
        exact ((hF i hil).2.1.2 j _ d (List.getElem?_eq_getElem hj) hd).1)
       (fun i j r d hr hd => by
        obtain ⟨hil,rfl⟩ := hrow i r hr
        obtain ⟨h1,h2,h3⟩ := hx i hil
        have hj : j < (F i).1.length := by rw [h1,← h2];exact (List.getElem?_eq_some_iff.1 hd).1
        rw [List.getElem?_eq_getElem hj]
        exact ((hF i hil).2.1.2 j _ d (List.getElem?_eq_getElem hj) hd).2)
      simpa using key
    ·
     simp only [Rows.uptoBulk];omega
  | @st _ fs _ ht hC hf =>
   obtain ⟨xs,n',hn,rfl,hcl,hxl,hat⟩ := DataW.trod_struct ht h
   obtain rfl : n = n' := by omega
   obtain ⟨ds,h1,h2⟩ := open_fields (fun {t ss cs x} hT h => open_cells n hT h) hf (by simpa using hxl) (fun i f hi => hat i f (by simpa using hi)) (by omega)
   exact ⟨ds,by simpa using h1,h2.mono (by simp only [Rows.uptoBulk];omega)⟩
end
end Go.Proofs.YtmnociojijpdmaaGreatDoor
namespace Go.Proofs.YtmnociojijpdmaaGreatDoor
open Go.AX Go.RF Go.RowKit Go.ChangeShapes Go.WideShapes Go.Deep
inductive PS where
 | one (s : Sh)
 | st (ss : List Sh)
def isSt (P : Program) (t : TypeId) : Bool := match P.underlying t with
 | some (.struct _) => true
 | _ => false
inductive TyPs (P : Program) : List TypeId → List PS → Prop
 | nil : TyPs P [] []
 | one {t : TypeId} {s : Sh} {ts : List TypeId} {ps : List PS} (h : TySh P t [s]) (hn : isSt P t = false) (hr : TyPs P ts ps) : TyPs P (t :: ts) (.one s :: ps)
 | st {t : TypeId} {ss : List Sh} {ts : List TypeId} {ps : List PS} (h : TySh P t ss) (hn : isSt P t = true) (hr : TyPs P ts ps) : TyPs P (t :: ts) (.st ss :: ps)
inductive FitsPs : List PS → Nat → List D → Prop
 | nil (m : Nat) : FitsPs [] m []
 | one {s : Sh} {a b m : Nat} {d : D} {ps : List PS} {ds : List D} (h : Fits s a d) (hr : FitsPs ps b ds) (hm : a + b ≤ m) : FitsPs (.one s :: ps) m (d :: ds)
 | st {ss : List Sh} {a b m : Nat} {es : List D} {ps : List PS} {ds : List D} (h : FitsL ss a es) (hr : FitsPs ps b ds) (hm : a + b ≤ m) : FitsPs (.st ss :: ps) m (.agg es :: ds)
def fldsB (P : Program) (ty : TypeId → Option (List Sh)) : List Field → Nat → Option (List Sh)
 | [],_ => some []
 | f :: r,o => match ty f.type with
  | some s => match Nat.beq f.offset o && Nat.beq (P.cellsOf f.type) s.length with
   | true => match fldsB P ty r (o + s.length) with
    | some ss => some (s ++ ss)
    | none => none
   | false => none
  | none => none
def tyB (P : Program) : Nat → TypeId → Option (List Sh)
 | 0,_ => none
 | n + 1,t => match P.underlying t with
  | some (.int k) => some [.num k]
  | some .string => some [.str]
  | some .bool => some [.bool]
  | some (.slice e) => match tyB P n e with
   | some fs => match Nat.beq (P.cellsOf e) fs.length && Nat.blt 0 fs.length with
    | true => some [.sl fs]
    | false => none
   | none => none
  | some (.struct fs) => match fldsB P (tyB P n) fs.toList 0 with
   | some ss => match Nat.beq (P.cellsOf t) ss.length with
    | true => some ss
    | false => none
   | none => none
  | _ => none
def parB (P : Program) : List TypeId → Option (List PS)
 | [] => some []
 | t :: ts => match tyB P 9 t with
  | some ss => match parB P ts with
   | some ps => match isSt P t with
    | true => some (.st ss :: ps)
    | false => match ss with
     | [s] => some (.one s :: ps)
     | _ => none
   | none => none
  | none => none
theorem fldsB_ok {P : Program} {ty : TypeId → Option (List Sh)} (hty : ∀ t ss,ty t = some ss → TySh P t ss) : ∀ {fs : List Field} {o : Nat} {ss : List Sh},fldsB P ty fs o = some ss → TyFs P fs o ss
 | [],o,ss,h => by cases h;exact .nil _
 | f :: r,o,ss,h => by
  simp only [fldsB] at h
  split at h
  ·
   next s hs =>
   split at h
   ·
    next hb =>
    split at h
    ·
     next ss' hr =>
     cases h
     simp only [Bool.and_eq_true,Nat.beq_eq] at hb
     exact .cons hb.1 hb.2 rfl (hty _ _ hs) (fldsB_ok hty hr)
    ·
     cases h
   ·
    cases h
  ·
   cases h
theorem tyB_ok {P : Program} : ∀ {n : Nat} {t : TypeId} {ss : List Sh},tyB P n t = some ss → TySh P t ss
 | 0,t,ss,h => by cases h
 | n + 1,t,ss,h => by
  simp only [tyB] at h
  split at h
  ·
   next k hu => cases h;exact .num hu
  ·
   next hu => cases h;exact .str hu
  ·
   next hu => cases h;exact .bool hu
  ·
   next e hu =>
   split at h
   ·
    next fs hf =>
    split at h
    ·
     next hb =>
     cases h
     simp only [Bool.and_eq_true,Nat.beq_eq] at hb
     exact .sl hu hb.1 (by simpa [Nat.blt_eq] using hb.2) (tyB_ok hf)
    ·
     cases h
   ·
    cases h
  ·
   next fs hu =>
   split at h
   ·
    next ss' hf =>
    split at h
    ·
     next hb => cases h;exact .st hu (by simpa using hb) (fldsB_ok (fun t ss h => tyB_ok h) hf)
    ·
     cases h
   ·
    cases h
  ·
   cases h
theorem parB_ok {P : Program} : ∀ {ts : List TypeId} {ps : List PS},parB P ts = some ps → TyPs P ts ps
 | [],ps,h => by cases h;exact .nil
 | t :: ts,ps,h => by
  simp only [parB] at h
  split at h
  ·
   next ss hs =>
   split at h
   ·
    next ps' hp =>
    split at h
    ·
     next hi => cases h;exact .st (tyB_ok hs) hi (parB_ok hp)
    ·
     next hi =>
     split at h
     ·
      next s => cases h;exact .one (tyB_ok hs) hi (parB_ok hp)
     ·
      cases h
   ·
    cases h
  ·
   cases h
theorem FitsPs.mono {ps : List PS} {m n : Nat} {xs : List D} (h : FitsPs ps m xs) (hm : m ≤ n) : FitsPs ps n xs := by
 cases h with
 | nil => exact .nil _
 | one h1 h2 h3 => exact .one h1 h2 (by omega)
 | st h1 h2 h3 => exact .st h1 h2 (by omega)
theorem Fits.mono' {s : Sh} {m n : Nat} {d : D} (h : Fits s m d) (hm : m ≤ n) : Fits s n d := by
 cases h with
 | num k v m h => exact .num k v n h
 | str s m h => exact .str s n (by omega)
 | bool b m => exact .bool b n
 | sl fs m rows h => exact .sl fs n rows (h.mono hm)
theorem fits_one {s : Sh} {ps : List PS} {m : Nat} {xs : List D} (h : FitsPs (.one s :: ps) m xs) : ∃ d r,xs = d :: r ∧ Fits s m d ∧ FitsPs ps m r := by
 cases h with
 | one h1 h2 h3 => exact ⟨_,_,rfl,h1.mono' (by omega),h2.mono (by omega)⟩
theorem fits_st {ss : List Sh} {ps : List PS} {m : Nat} {xs : List D} (h : FitsPs (.st ss :: ps) m xs) : ∃ es r,xs = .agg es :: r ∧ FitsL ss m es ∧ FitsPs ps m r := by
 cases h with
 | st h1 h2 h3 => exact ⟨_,_,rfl,h1.mono (by omega),h2.mono (by omega)⟩
theorem fits_nil {m : Nat} {xs : List D} (h : FitsPs [] m xs) : xs = [] := by
 cases h;rfl
section
variable {H : Type} {enc : TypeId × Value → H} {P : Program} {w : World}
theorem one_cell {t : TypeId} {s : Sh} {r : Reach} {b : Nat} {v : Value} (hT : TySh P t [s]) (hn : isSt P t = false) (hv : Value.okWide P w r b t v) : v.cells.toList = [v] := by
 generalize hs : [s] = ss at hT
 cases hT with
 | num h => obtain ⟨n,rfl⟩ := okWide_int h hv;rfl
 | str h => obtain ⟨n,rfl⟩ := okWide_string h hv;rfl
 | bool h => obtain ⟨n,rfl⟩ := okWide_bool h hv;rfl
 | sl h => obtain ⟨a,l,c,rfl⟩ := okWide_slice h hv;rfl
 | st h => simp [isSt,h] at hn
theorem open_args {r : Reach} {b : Nat} : ∀ {ts : List TypeId} {ps : List PS} {vs : List Value} {ds : List (DataW H)} {p : List MemPlace},TyPs P ts ps →
  (∀ (j : Nat) (t : TypeId) (v : Value),ts[j]? = some t → vs[j]? = some v → Value.okWide P w r b t v) → DataW.TrodAll enc P w 0 (fun _ => true) true ts vs ds p →
  ∃ xs : List D,ArgsOk w noOwn vs (xs.map Arg.d) ∧ FitsPs ps (Rows.uptoBulkAll ds) xs ∧ ds.length = ts.length
 | [],ps,vs,ds,p,hT,hv,h => by
  cases hT
  obtain ⟨rfl,rfl,rfl⟩ := trodAll_nil h
  exact ⟨[],trivial,.nil _,rfl⟩
 | t :: ts,ps,vs,ds,p,hT,hv,h => by
  obtain ⟨v,vs,d,ds,p,q,rfl,rfl,rfl,⟨n,h0⟩,hr⟩ := trodAll_cons h
  have hv0 := hv 0 t v rfl rfl
  have hvr : ∀ (j : Nat) (t : TypeId) (v : Value),ts[j]? = some t → vs[j]? = some v → Value.okWide P w r b t v := fun j t' v' h1 h2 => hv (j + 1) t' v' (by simpa using h1) (by simpa using h2)
  have hb := one_le d
  cases hT with
  | one hT hn hTr =>
   obtain ⟨xs,h1,h2,h3⟩ := open_args hTr hvr hr
   rw [one_cell hT hn hv0] at h0
   obtain ⟨es,⟨h4,h5⟩,h6⟩ := open_cells n hT h0
   cases h6 with
   | @cons _ a b _ e _ es h7 h8 h9 =>
    cases h8
    have h9' : a + b ≤ Rows.uptoBulk d - 1 := h9
    exact ⟨e :: xs,⟨(h5 0 v e rfl rfl).2,h1⟩,.one h7 h2 (by simp only [Rows.uptoBulkAll];omega),by simp [h3]⟩
  | st hT hn hTr =>
   obtain ⟨xs,h1,h2,h3⟩ := open_args hTr hvr hr
   obtain ⟨es,h5,h6⟩ := open_cells n hT h0
   have h6' : FitsL _ (Rows.uptoBulk d - 1) es := h6
   have hs : ∃ fs,P.underlying t = some (.struct fs) := by
    unfold isSt at hn
    split at hn
    ·
     exact ⟨_,by assumption⟩
    ·
     cases hn
   obtain ⟨fs,hs⟩ := hs
   obtain ⟨cs,rfl,hsz⟩ := okWide_struct hs hv0
   refine ⟨.agg es :: xs,⟨.agg cs es ?_ (fun j c hj => ?_) fun j d c hd hc => ?_,h1⟩,.st h6' h2 (by simp only [Rows.uptoBulkAll];omega),by simp [h3]⟩
   ·
    simpa [Value.cells] using h5.1
   ·
    have hj' : j < es.length := by rw [← h5.1];simpa [Value.cells] using (Array.getElem?_eq_some_iff.1 hj).1
    exact (h5.2 j c _ (by simpa [Value.cells] using hj) (List.getElem?_eq_getElem hj')).1
   ·
    exact (h5.2 j c d (by simpa [Value.cells] using hc) hd).2
theorem again_args {W W' : World} {sp : Nat → Bool} (hl : laidOutB P = true) (hb : Below W.heap.size W W') : ∀ {ts : List TypeId} {vs : List Value} {ds : List (DataW H)} {p : List MemPlace},
  (∀ t ∈ ts,P.readableRec t = true ∧ t < P.types.size) → DataW.TrodAll enc P W 0 (fun _ => true) true ts vs ds p → (∀ x ∈ p,x.block < W.heap.size) → (∀ x ∈ p,sp x.block = true) →
  DataW.TrodAll enc P W' 0 sp true ts vs ds p
 | [],vs,ds,p,_,h,_,_ => by
  obtain ⟨rfl,rfl,rfl⟩ := trodAll_nil h
  exact trodAll_mk0
 | t :: ts,vs,ds,p,hr,h,hlt,hsp => by
  obtain ⟨v,vs,d,ds,p,q,rfl,rfl,rfl,h0,hq⟩ := trodAll_cons h
  have ht := hr t (List.mem_cons_self ..)
  exact trodAll_cons_mk (WideElems.Trod_stays hl ht.1 ht.2 h0 (fun x hx => hb.same (hlt x (List.mem_append_left _ hx))) fun x hx => hsp x (List.mem_append_left _ hx))
   (again_args hl hb (fun t h => hr t (List.mem_cons_of_mem _ h)) hq (fun x hx => hlt x (List.mem_append_right _ hx)) fun x hx => hsp x (List.mem_append_right _ hx))
end
theorem law_contract {H : Type} {enc : TypeId × Value → H} {P : Program} {f : FuncId} {fn : Func} {s : ChangeSpec} {tb : TypeId} {ps : List PS}
  (hT : TyPs P fn.params.toList ps) (hl : laidOutB P = true) (hread : fn.params.toList.all (fun t => P.readableRec t && decide (t < P.types.size)) = true) (hvars : s.vars = [])
  (hres : fn.resultTypes = #[tb]) (htb : P.underlying tb = some .bool)
  (hfn : ∀ ds : List (DataW H),ds.length = fn.params.toList.length → s.fn H ds = { results := [.lit (.bool true)],args := ds })
  (hlaw : ∀ (xs : List D) (m : Nat),m ≤ 1048576 → FitsPs ps m xs → FnOk P f (xs.map Arg.d) (.one (dbool true)))
  (W : World) (base : Nat) (args : Array Value) (ds gs : List (DataW H)) (before : List MemPlace)
  (hval : ∀ (j : Nat) t v,fn.params[j]? = some t → args[j]? = some v → Value.okWide P W .any base t v)
  (hW : DataW.Whole enc P fn.params.toList s.vars false W args.toList ds gs before) (hk : Rows.uptoSmall H (ds ++ gs) = true) (hgl : Gl P W) :
  Calls P f args W fun e W' => ∃ v,e = .returned v ∧ s.post enc P fn false true false false W args v W' := by
 have hW' := hW
 obtain ⟨p,q,hA,hV,rfl,hfz,hnd⟩ := hW
 rw [hvars] at hV
 obtain ⟨rfl,rfl⟩ := trodVars_none hV
 obtain ⟨xs,h1,h2,h3⟩ := open_args hT (fun j t v ht hv => hval j t v (by simpa using ht) (by simpa using hv)) hA
 rw [List.append_nil] at hk
 have hk' : Rows.uptoBulkAll ds ≤ 1048576 := of_decide_eq_true hk
 have hc := hlaw xs _ hk' h2
 have key := FnOk.bool hc (w := W) (vs := args.toList) hgl h1
 rw [Array.toArray_toList] at key
 refine key.mono fun e W' ⟨he,hg⟩ => ?_
 subst he
 have hf := hfn ds h3
 have hlt : ∀ x ∈ p,x.block < W.heap.size := fun x hx => hW'.lt x (by simpa using hx)
 refine ⟨_,rfl,Go.AX.post_of_below (pa := p) (pv := []) hW' (fun _ _ _ => ?_) (fun sp hsp => ?_) (fun _ _ => ?_) rfl hg (ok_one hres rfl (okWide_bool_mk htb _))⟩
 ·
  rw [List.append_nil,hf,hres]
  exact trodAll_cons_mk (shut_bool htb _) trodAll_mk0
 ·
  rw [List.append_nil,hf]
  refine again_args hl hg (fun t ht => ?_) hA hlt fun x hx => hsp x (by simpa using hx)
  have := List.all_eq_true.1 hread t ht
  simpa using this
 ·
  rw [List.append_nil,hf,hvars]
  rfl
end Go.Proofs.YtmnociojijpdmaaGreatDoor
namespace Go.RF
open Go.AX
abbrev slt (a b : Str) : Bool := Go.Op.bytesLess a b
def bad (c : UInt8) : Bool := decide ((c.toNat : Int) < 97) || decide ((122 : Int) < (c.toNat : Int))
def keyGo (s : Str) : Str → Bool
 | [] => decide (0 < s.length) && decide (s.length < 7)
 | c :: r => if bad c then false else keyGo s r
def key (s : Str) : Bool := keyGo s s
def get (r : List Pair) (k : Str) : Int × Bool := match r with
 | [] => (0,false)
 | p :: r => if p.key = k then (p.n,true) else get r k
def isIn (l : List Str) (s : Str) : Bool := match l with
 | [] => false
 | x :: l => if x = s then true else isIn l s
def putGo (k : Str) (n : Int) (h : Bool) : Bool → List Pair → List Pair → List Pair
 | done,out,[] => if !done && h then out ++ [⟨k,n⟩] else out
 | done,out,p :: r =>
  let done' := done || !slt p.key k
  let out' := if !done && !slt p.key k && h then out ++ [⟨k,n⟩] else out
  putGo k n h done' (if p.key = k then out' else out' ++ [p]) r
def put (r : List Pair) (k : Str) (n : Int) (h : Bool) : List Pair := putGo k n h false [] r
def round (n : Int) : Int := n - n.tdiv 1073741825 * 1073741825
def forms : List Str := [[],[114,107],[114,110],[114,115],[114,115],[114,115],[114,107],[107],[114,110],[114]]
def form (k : Nat) : Str := forms.getD k []
def hasGo (c : UInt8) : Str → Bool
 | [] => false
 | x :: r => if x = c then true else hasGo c r
def has (k : Nat) (c : UInt8) : Bool := hasGo c (form k)
def keysGo (l : List Str) : Nat → List Str → Int
 | _,[] => 0
 | i,k :: r => if key k = false then 7 else if isIn (l.take i) k = true then 7 else keysGo l (i + 1) r
def keysWrong (l : List Str) : Int := if 5 < l.length then 5 else keysGo l 0 l
def lsGo : List (List Str) → Int
 | [] => 0
 | l :: r => if keysWrong l = 0 then lsGo r else keysWrong l
def insA (k : Nat) : Int := if has k 114 = true then 3 else 0
def insB (k : Nat) : Int := if has k 115 = true then 3 else 0
def insLow (k : Nat) : Int := if k = 2 then -1073741824 else if k = 8 then 1 else 0
def insHigh (k : Nat) (m : Int) : Int := if k = 2 then 1073741824 else if k = 8 then m else 0
def insOut (k : Nat) (a b n m : Int) : Bool := decide (a < 0) || (decide (insA k < a) || (decide (b < 0) || (decide (insB k < b) || (decide (n < insLow k) || decide (insHigh k m < n)))))
def wrongIns (d : Deed) (m : Int) (i : Ins) : Int :=
 if i.kind < 1 ∨ 9 < i.kind then 1
 else if insOut i.kind.toNat i.a i.b i.n m = true then 3
 else if has i.kind.toNat 107 = false then (if i.key = [] then 0 else 2)
 else if isIn (if i.kind = 1 then d.reads else d.writes) i.key = true then 0 else 9
def codeGo (d : Deed) : Nat → List Ins → Int
 | _,[] => 0
 | k,i :: r => if wrongIns d ((d.code.length : Int) - 1 - k) i = 0 then codeGo d (k + 1) r else wrongIns d ((d.code.length : Int) - 1 - k) i
def wrongDeed (d : Deed) : Int :=
 if lsGo [d.reads,d.writes] = 0 then (if 12 < d.code.length then 5 else codeGo d 0 d.code) else lsGo [d.reads,d.writes]
structure Deed.Sm (d : Deed) : Prop where
 r : d.reads.length ≤ 268435456
 w : d.writes.length ≤ 268435456
 c : d.code.length ≤ 268435456
 rk : ∀ s ∈ d.reads,s.length ≤ 1073741824
 wk : ∀ s ∈ d.writes,s.length ≤ 1073741824
def right : List Deed → Bool
 | [] => true
 | d :: r => if wrongDeed d = 0 then right r else false
def bvs (hit : Bool) (b : Int) : Version → List Version → Version
 | out,[] => out
 | out,v :: r => bvs hit b (if hit && decide (v.by_ < b) then v else out) r
def beforeGo (k : Str) (b : Int) : Version → List Chain → Version
 | out,[] => out
 | out,c :: r => beforeGo k b (bvs (decide (c.key = k)) b out c.vs) r
def before (l : List Chain) (k : Str) (b : Int) : Version := beforeGo k b ⟨-1,true,false,0⟩ l
def rowsAtGo (l : List Chain) (b : Int) : List Pair → List Chain → List Pair × Bool
 | out,[] => (out,true)
 | out,c :: r => if (before l c.key b).made = false then ([],false) else if (before l c.key b).has = true then rowsAtGo l b (out ++ [⟨c.key,(before l c.key b).n⟩]) r else rowsAtGo l b out r
def rowsAt (l : List Chain) (b : Int) : List Pair × Bool := rowsAtGo l b [] l
def setV (hit : Bool) (v w : Version) : Version := if hit = true ∧ w.by_ = v.by_ then v else w
def setC (k : Str) (v : Version) (c : Chain) : Chain := ⟨c.key,c.vs.map (setV (decide (c.key = k)) v)⟩
def setChains (l : List Chain) (k : Str) (v : Version) : List Chain := l.map (setC k v)
def later (b : Int) : List Version → Bool
 | [] => false
 | w :: _ => decide (w.by_ < b)
def old (b : Int) (r : List Version) (v : Version) : Bool := (later b r && decide (v.by_ < b)) || (decide (v.by_ < b) && (v.made && !v.has))
def clrV (b : Int) : List Version → List Version
 | [] => []
 | v :: r => if old b r v = true then clrV b r else v :: clrV b r
def clear (b : Int) : List Chain → List Chain
 | [] => []
 | c :: r => if clrV b c.vs = [] then clear b r else ⟨c.key,clrV b c.vs⟩ :: clear b r
structure Chain.Sm (c : Chain) : Prop where
 k : c.key.length ≤ 1073741824
 v : c.vs.length ≤ 268435456
def done0 : Done := ⟨false,0,0,0,0⟩
def wrongs : List Deed → Int
 | [] => 0
 | d :: r => if wrongDeed d = 0 then wrongs r else wrongDeed d
def keysGo' : List Str → List Str → List Str
 | out,[] => out
 | out,k :: r => keysGo' (if isIn out k = true then out else out ++ [k]) r
def keysD (d : Deed) : List Str := keysGo' [] (d.reads ++ d.writes)
def hit (cs : List Chain) (b : Int) (want : Int) (k : Str) : Bool := !(before cs k b).made && decide ((before cs k b).by_ = want)
def anyHit (cs : List Chain) (b : Int) (want : Int) : List Str → Bool
 | [] => false
 | k :: r => if hit cs b want k = true then true else anyHit cs b want r
def needsGo (cs : List Chain) (base b : Int) (ks : List Str) : Nat → List Nat → List Int
 | _,[] => []
 | _,k :: r => if anyHit cs b (base + k) ks = true then (k : Int) :: needsGo cs base b ks 0 r else needsGo cs base b ks 0 r
def needs (e : Engine) (at_ : Nat) (d : Deed) : List Int := needsGo e.chains e.base (e.base + at_) (keysD d) 0 (List.range at_)
def markN : List Int → Nat
 | [] => 0
 | s :: r => if s = 1 then markN r + 1 else 0
def clearE (e : Engine) : Engine := ⟨clear (e.base + markN e.state) e.chains,e.deeds.drop (markN e.state),e.state.drop (markN e.state),e.ends.drop (markN e.state),e.base + markN e.state⟩
def rget (e : Done) : Nat → Int
 | 0 => e.r0
 | 1 => e.r1
 | 2 => e.r2
 | _ => e.r3
def rset (e : Done) (k : Nat) (x : Int) : Done := match k with
 | 0 => ⟨e.failed,x,e.r1,e.r2,e.r3⟩
 | 1 => ⟨e.failed,e.r0,x,e.r2,e.r3⟩
 | 2 => ⟨e.failed,e.r0,e.r1,x,e.r3⟩
 | _ => ⟨e.failed,e.r0,e.r1,e.r2,x⟩
def bustE (e : Done) : Done := ⟨true,e.r0,e.r1,e.r2,e.r3⟩
def doGo (r0 : List Pair) : Int → List Pair → Done → List Ins → List Pair × Done
 | _,now,e,[] => (now,e)
 | sk,now,e,i :: r =>
  if 0 < sk then doGo r0 (sk - 1) now e r
  else if i.kind = 1 then doGo r0 sk now (rset e i.a.toNat (get now i.key).1) r
  else if i.kind = 2 then doGo r0 sk now (rset e i.a.toNat i.n) r
  else if i.kind = 3 then doGo r0 sk now (rset e i.a.toNat (round (rget e i.a.toNat + rget e i.b.toNat))) r
  else if i.kind = 4 then doGo r0 sk now (rset e i.a.toNat (round (rget e i.a.toNat - rget e i.b.toNat))) r
  else if i.kind = 5 then doGo r0 sk now (rset e i.a.toNat (round (rget e i.a.toNat * rget e i.b.toNat))) r
  else if i.kind = 6 then doGo r0 sk (put now i.key (rget e i.a.toNat) true) e r
  else if i.kind = 7 then doGo r0 sk (put now i.key 0 false) e r
  else if i.kind = 8 then doGo r0 (if rget e i.a.toNat < 1 then i.n else sk) now e r
  else if rget e i.a.toNat < 0 then (r0,bustE e) else doGo r0 sk now e r
def doD (r : List Pair) (d : Deed) : List Pair × Done := doGo r 0 r done0 d.code
def allD : List Pair → List Deed → List Pair × List Done
 | r,[] => (r,[])
 | r,d :: l => ((allD (doD r d).1 l).1,(doD r d).2 :: (allD (doD r d).1 l).2)
def nOk (n : Int) : Prop := -1073741824 ≤ n ∧ n ≤ 1073741824
structure Ins.Ok (i : Ins) : Prop where
 k : 1 ≤ i.kind ∧ i.kind ≤ 9
 a : 0 ≤ i.a ∧ i.a ≤ 3
 b : 0 ≤ i.b ∧ i.b ≤ 3
 c : i.kind = 2 → nOk i.n
 s : i.kind = 8 → 0 ≤ i.n ∧ i.n ≤ 1073741824
structure Done.Ok (e : Done) : Prop where
 a : nOk e.r0
 b : nOk e.r1
 c : nOk e.r2
 d : nOk e.r3
def rowsOk (r : List Pair) : Prop := ∀ p ∈ r,nOk p.n
theorem rget_ok {e : Done} (h : e.Ok) (k : Nat) : nOk (rget e k) := by
 unfold rget
 split
 ·
  exact h.a
 ·
  exact h.b
 ·
  exact h.c
 ·
  exact h.d
theorem rset_ok {e : Done} (h : e.Ok) (k : Nat) {x : Int} (hx : nOk x) : (rset e k x).Ok := by
 unfold rset
 split
 ·
  exact ⟨hx,h.b,h.c,h.d⟩
 ·
  exact ⟨h.a,hx,h.c,h.d⟩
 ·
  exact ⟨h.a,h.b,hx,h.d⟩
 ·
  exact ⟨h.a,h.b,h.c,hx⟩
theorem rset_failed (e : Done) (k : Nat) (x : Int) : (rset e k x).failed = e.failed := by
 unfold rset
 split <;> rfl
theorem round_ok (n : Int) : nOk (round n) := by
 have h1 : n.tdiv 1073741825 * 1073741825 + n.tmod 1073741825 = n := Int.tdiv_mul_add_tmod n 1073741825
 have h2 : n.tmod 1073741825 < 1073741825 := Int.tmod_lt_of_pos n (by omega)
 have h4 := Int.tmod_lt_of_pos (-n) (show (0 : Int) < 1073741825 by omega)
 rw [Int.neg_tmod] at h4
 unfold nOk round
 omega
theorem get_ok {r : List Pair} (h : rowsOk r) (k : Str) : nOk (get r k).1 := by
 induction r with
 | nil => simp [get,nOk]
 | cons p r ih =>
  simp only [get]
  split
  ·
   exact h p (List.mem_cons_self ..)
  ·
   exact ih fun q hq => h q (List.mem_cons_of_mem _ hq)
theorem putGo_mem {k : Str} {n : Int} {hs : Bool} : ∀ {l : List Pair} {dn : Bool} {out : List Pair} {q : Pair},q ∈ putGo k n hs dn out l → q ∈ out ∨ q ∈ l ∨ (q = ⟨k,n⟩ ∧ hs = true)
 | [],dn,out,q,h => by
  simp only [putGo] at h
  split at h
  ·
   next hb =>
   rcases List.mem_append.1 h with h | h
   ·
    exact .inl h
   ·
    simp at hb;exact .inr (.inr ⟨by simpa using h,hb.2⟩)
  ·
   exact .inl h
 | p :: l,dn,out,q,h => by
  simp only [putGo] at h
  rcases putGo_mem h with h | h | h
  ·
   have key : ∀ out' : List Pair,(q ∈ out' → q ∈ out ∨ (q = ⟨k,n⟩ ∧ hs = true)) → q ∈ (if p.key = k then out' else out' ++ [p]) → q ∈ out ∨ q ∈ p :: l ∨ (q = ⟨k,n⟩ ∧ hs = true) := by
    intro out' h1 h2
    split at h2
    ·
     rcases h1 h2 with h | h
     ·
      exact .inl h
     ·
      exact .inr (.inr h)
    ·
     rcases List.mem_append.1 h2 with h2 | h2
     ·
      rcases h1 h2 with h | h
      ·
       exact .inl h
      ·
       exact .inr (.inr h)
     ·
      exact .inr (.inl (by simp at h2;simp [h2]))
   refine key _ (fun h1 => ?_) h
   split at h1
   ·
    next hb =>
    rcases List.mem_append.1 h1 with h1 | h1
    ·
     exact .inl h1
    ·
     simp at hb;exact .inr ⟨by simpa using h1,hb.2⟩
   ·
    exact .inl h1
  ·
   exact .inr (.inl (List.mem_cons_of_mem _ h))
  ·
   exact .inr (.inr h)
theorem putGo_len {k : Str} {n : Int} {hs : Bool} : ∀ (l : List Pair) (dn : Bool) (out : List Pair),(putGo k n hs dn out l).length ≤ out.length + l.length + (if dn = true then 0 else 1)
 | [],dn,out => by
  simp only [putGo]
  cases dn <;> cases hs <;> simp
 | p :: l,dn,out => by
  simp only [putGo]
  have := putGo_len (k := k) (n := n) (hs := hs) l (dn || !slt p.key k) (if p.key = k then (if (!dn && !slt p.key k && hs) = true then out ++ [⟨k,n⟩] else out) else (if (!dn && !slt p.key k && hs) = true then out ++ [⟨k,n⟩] else out) ++ [p])
  refine Nat.le_trans this ?_
  cases dn <;> cases hq : slt p.key k <;> cases hs <;> by_cases hk : p.key = k <;> simp [hk] <;> omega
theorem put_len (l : List Pair) (k : Str) (n : Int) (hs : Bool) : (put l k n hs).length ≤ l.length + 1 := by
 have := putGo_len (k := k) (n := n) (hs := hs) l false []
 unfold put
 simpa using this
theorem put_ok {l : List Pair} (h : rowsOk l) (k : Str) {n : Int} (hn : nOk n) (hs : Bool) : rowsOk (put l k n hs) := by
 intro q hq
 rcases putGo_mem hq with h1 | h1 | h1
 ·
  simp at h1
 ·
  exact h q h1
 ·
  rw [h1.1];exact hn
structure Engine.Sm (e : Engine) : Prop where
 c : e.chains.length ≤ 134217728
 v : ∀ c ∈ e.chains,c.vs.length ≤ 134217728
 d : e.deeds.length ≤ 134217728
 s : e.state.length ≤ 134217728
 n : e.ends.length ≤ 134217728
 b : 0 ≤ e.base ∧ e.base ≤ 134217728
 dd : ∀ d ∈ e.deeds,d.Sm
def inI (n : Int) : Prop := -9223372036854775808 ≤ n ∧ n ≤ 9223372036854775807
theorem bl_nil_cons (b : UInt8) (r : Str) : slt [] (b :: r) = true := by simp [slt,Op.bytesLess]
theorem bl_nil (a : Str) : slt a [] = false := by cases a <;> simp [slt,Op.bytesLess]
theorem bl_cons (a b : UInt8) (l r : Str) : slt (a :: l) (b :: r) = if a < b then true else if b < a then false else slt l r := by
 simp only [slt,Op.bytesLess]
 by_cases h1 : a < b
 ·
  simp [h1]
 ·
  by_cases h2 : b < a
  ·
   have h3 : ¬ a = b := fun h => by subst h;exact h1 h2
   simp [h1,h2,h3]
  ·
   have h3 : a = b := UInt8.le_antisymm (UInt8.not_lt.1 h2) (UInt8.not_lt.1 h1)
   subst h3
   simp [h1]
theorem slt_irrefl (a : Str) : slt a a = false := by
 induction a with
 | nil => exact bl_nil []
 | cons x l ih => rw [bl_cons];simp [ih]
theorem slt_trans : ∀ {a b c : Str},slt a b = true → slt b c = true → slt a c = true
 | [],[],c,h,_ => by simp [bl_nil] at h
 | a :: l,[],c,h,_ => by simp [bl_nil] at h
 | a,b :: r,[],_,h => by simp [bl_nil] at h
 | [],b :: r,c :: s,_,_ => bl_nil_cons _ _
 | a :: l,b :: r,c :: s,h,h' => by
  rw [bl_cons] at h h' ⊢
  by_cases h1 : a < b
  ·
   by_cases h2 : b < c
   ·
    simp [UInt8.lt_trans h1 h2]
   ·
    by_cases h3 : c < b
    ·
     simp [h2,h3] at h'
    ·
     have h4 : b = c := UInt8.le_antisymm (UInt8.not_lt.1 h3) (UInt8.not_lt.1 h2)
     subst h4;simp [h1]
  ·
   by_cases h2 : b < a
   ·
    simp [h1,h2] at h
   ·
    have h4 : a = b := UInt8.le_antisymm (UInt8.not_lt.1 h2) (UInt8.not_lt.1 h1)
    subst h4
    simp only [UInt8.lt_irrefl,if_false] at h
    by_cases h2 : a < c
    ·
     simp [h2]
    ·
     by_cases h3 : c < a
     ·
      simp [h2,h3] at h'
     ·
      simp only [h2,h3,if_false] at h' ⊢
      exact slt_trans h h'
theorem slt_tri : ∀ (a b : Str),slt a b = true ∨ a = b ∨ slt b a = true
 | [],[] => .inr (.inl rfl)
 | [],b :: r => .inl (bl_nil_cons _ _)
 | a :: l,[] => .inr (.inr (bl_nil_cons _ _))
 | a :: l,b :: r => by
  rw [bl_cons,bl_cons]
  by_cases h1 : a < b
  ·
   simp [h1]
  ·
   by_cases h2 : b < a
   ·
    simp [h2]
   ·
    have h4 : a = b := UInt8.le_antisymm (UInt8.not_lt.1 h2) (UInt8.not_lt.1 h1)
    subst h4
    rcases slt_tri l r with h | h | h
    ·
     simp [h]
    ·
     subst h;simp
    ·
     simp [h]
theorem slt_ne {a b : Str} (h : slt a b = true) : a ≠ b := fun e => by subst e;rw [slt_irrefl] at h;cases h
structure AtK {α : Type} (f : α → Str) (l : List α) (k : Str) (m : Nat) : Prop where
 le : m ≤ l.length
 lt : ∀ x c,l[x]? = some c → x < m → slt (f c) k = true
 ge : ∀ x c,l[x]? = some c → m ≤ x → slt (f c) k = false
def Srt {α : Type} (f : α → Str) (l : List α) : Prop := l.Pairwise fun a b => slt (f a) (f b) = true
theorem Srt.at {α : Type} {f : α → Str} (k : Str) : ∀ {l : List α},Srt f l → ∃ m,AtK f l k m
 | [],_ => ⟨0,⟨by simp,by simp,by simp⟩⟩
 | c :: l,h => by
  have h' : (∀ a ∈ l,slt (f c) (f a) = true) ∧ Srt f l := List.pairwise_cons.1 h
  cases hc : slt (f c) k with
  | true =>
   obtain ⟨m,hm⟩ := Srt.at k h'.2
   refine ⟨m + 1,⟨by have := hm.le;simpa using this,fun x d hx hlt => ?_,fun x d hx hge => ?_⟩⟩
   ·
    cases x with
    | zero => simp at hx;subst hx;exact hc
    | succ x => exact hm.lt x d (by simpa using hx) (by omega)
   ·
    cases x with
    | zero => omega
    | succ x => exact hm.ge x d (by simpa using hx) (by omega)
  | false =>
   refine ⟨0,⟨by simp,fun x d _ hlt => by omega,fun x d hx _ => ?_⟩⟩
   cases x with
   | zero => simp at hx;subst hx;exact hc
   | succ x =>
    have h1 := h'.1 d (List.mem_of_getElem? (by simpa using hx))
    cases hd : slt (f d) k with
    | false => rfl
    | true => rw [slt_trans h1 hd] at hc;cases hc
theorem Srt.lt {α : Type} {f : α → Str} {l : List α} (h : Srt f l) {i j : Nat} {a b : α} (hi : l[i]? = some a) (hj : l[j]? = some b) (hlt : i < j) : slt (f a) (f b) = true := by
 obtain ⟨h1,rfl⟩ := List.getElem?_eq_some_iff.1 hi
 obtain ⟨h2,rfl⟩ := List.getElem?_eq_some_iff.1 hj
 exact List.pairwise_iff_getElem.1 h i j h1 h2 hlt
def noV : Version := ⟨-1,true,false,0⟩
theorem bvs_false {b : Int} : ∀ {l : List Version} {out : Version},bvs false b out l = out
 | [],out => rfl
 | v :: l,out => by simp only [bvs];exact bvs_false
theorem bvs_ge {h : Bool} {b : Int} : ∀ {l : List Version} {out : Version},(∀ v ∈ l,b ≤ v.by_) → bvs h b out l = out
 | [],out,_ => rfl
 | v :: l,out,hl => by
  have := hl v (List.mem_cons_self ..)
  simp only [bvs]
  rw [if_neg (by simp;omega)]
  exact bvs_ge fun w hw => hl w (List.mem_cons_of_mem _ hw)
theorem beforeGo_none {k : Str} {b : Int} : ∀ {l : List Chain} {out : Version},(∀ c ∈ l,c.key ≠ k) → beforeGo k b out l = out
 | [],out,_ => rfl
 | c :: l,out,h => by
  simp only [beforeGo]
  rw [decide_eq_false (h c (List.mem_cons_self ..)),bvs_false]
  exact beforeGo_none fun d hd => h d (List.mem_cons_of_mem _ hd)
end Go.RF
namespace Go.Proofs.YtmnociojijpdmaaGreatDoor
open Go.AX Go.RF
abbrev i64s : Sh := .num .i64
abbrev shIns : List Sh := [i64s,i64s,i64s,i64s,.str]
abbrev shDeed : List Sh := [.sl [.str],.sl [.str],.sl shIns]
theorem inI_of {n : Int} (h : (Lit.int .i64 n).wf = true) : inI n := by
 simpa [Lit.wf,IntKind.min,IntKind.max,IntKind.signed,IntKind.bits,inI] using h
theorem fitsR_map {α : Type} {enc : α → List D} {Q : α → Nat → Prop} {fs : List Sh} (h : ∀ r m,FitsL fs m r → ∃ x,r = enc x ∧ Q x m) : ∀ {rows : List (List D)} {m : Nat},FitsR fs m rows →
  ∃ l : List (α × Nat),rows = (l.map (·.1)).map enc ∧ (∀ y ∈ l,Q y.1 y.2) ∧ (l.map (·.2)).sum + l.length ≤ m
 | [],m,_ => ⟨[],rfl,by simp,by simp⟩
 | r :: rows,m,hR => by
  cases hR with
  | @cons _ a b _ _ _ h1 h2 h3 =>
   obtain ⟨x,rfl,hx⟩ := h r a h1
   obtain ⟨l,rfl,hl,hs⟩ := fitsR_map h h2
   refine ⟨(x,a) :: l,rfl,fun y hy => ?_,by simp;omega⟩
   rcases List.mem_cons.1 hy with rfl | hy
   ·
    exact hx
   ·
    exact hl y hy
theorem sum_mem {l : List Nat} {n : Nat} (h : n ∈ l) : n ≤ l.sum := by
 induction l with
 | nil => simp at h
 | cons x l ih =>
  rcases List.mem_cons.1 h with rfl | h
  ·
   simp
  ·
   have := ih h;simp;omega
theorem fitsR_all {α : Type} {enc : α → List D} {Q : α → Nat → Prop} {fs : List Sh} (h : ∀ r m,FitsL fs m r → ∃ x,r = enc x ∧ Q x m) {rows : List (List D)} {m : Nat} (hR : FitsR fs m rows) :
  ∃ l : List α,rows = l.map enc ∧ (∀ x ∈ l,∃ k,k ≤ m ∧ Q x k) ∧ l.length ≤ m := by
 obtain ⟨l,h1,h2,h3⟩ := fitsR_map h hR
 refine ⟨l.map (·.1),h1,fun x hx => ?_,by simp;omega⟩
 obtain ⟨y,hy,rfl⟩ := List.mem_map.1 hx
 have := sum_mem (List.mem_map.2 ⟨y,hy,rfl⟩ : y.2 ∈ l.map (·.2))
 exact ⟨y.2,by omega,h2 y hy⟩
theorem dec_int {m : Nat} {d : D} (h : Fits i64s m d) : ∃ n,d = dint n ∧ inI n := by
 cases h with
 | num k n m h => exact ⟨n,rfl,inI_of h⟩
theorem dec_str {m : Nat} {d : D} (h : Fits .str m d) : ∃ s,d = dstr s ∧ s.length ≤ m := by
 cases h with
 | str s m h => exact ⟨s,rfl,h⟩
theorem dec_one {s : Sh} {m : Nat} {r : List D} (h : FitsL [s] m r) : ∃ d,r = [d] ∧ Fits s m d := by
 cases h with
 | @cons _ a b _ d _ ds h1 h2 h3 =>
  cases h2
  exact ⟨d,rfl,h1.mono' (by omega)⟩
theorem dec_two {s t : Sh} {m : Nat} {r : List D} (h : FitsL [s,t] m r) : ∃ d e,r = [d,e] ∧ Fits s m d ∧ Fits t m e := by
 cases h with
 | @cons _ a b _ d _ ds h1 h2 h3 =>
  obtain ⟨e,rfl,h4⟩ := dec_one h2
  exact ⟨d,e,rfl,h1.mono' (by omega),h4.mono' (by omega)⟩
theorem dec_three {s t u : Sh} {m : Nat} {r : List D} (h : FitsL [s,t,u] m r) : ∃ d e f,r = [d,e,f] ∧ Fits s m d ∧ Fits t m e ∧ Fits u m f := by
 cases h with
 | @cons _ a b _ d _ ds h1 h2 h3 =>
  obtain ⟨e,f,rfl,h4,h5⟩ := dec_two h2
  exact ⟨d,e,f,rfl,h1.mono' (by omega),h4.mono' (by omega),h5.mono' (by omega)⟩
theorem dec_four {s t u v : Sh} {m : Nat} {r : List D} (h : FitsL [s,t,u,v] m r) : ∃ d e f g,r = [d,e,f,g] ∧ Fits s m d ∧ Fits t m e ∧ Fits u m f ∧ Fits v m g := by
 cases h with
 | @cons _ a b _ d _ ds h1 h2 h3 =>
  obtain ⟨e,f,g,rfl,h4,h5,h6⟩ := dec_three h2
  exact ⟨d,e,f,g,rfl,h1.mono' (by omega),h4.mono' (by omega),h5.mono' (by omega),h6.mono' (by omega)⟩
theorem dec_five {s t u v x : Sh} {m : Nat} {r : List D} (h : FitsL [s,t,u,v,x] m r) : ∃ d e f g k,r = [d,e,f,g,k] ∧ Fits s m d ∧ Fits t m e ∧ Fits u m f ∧ Fits v m g ∧ Fits x m k := by
 cases h with
 | @cons _ a b _ d _ ds h1 h2 h3 =>
  obtain ⟨e,f,g,k,rfl,h4,h5,h6,h7⟩ := dec_four h2
  exact ⟨d,e,f,g,k,rfl,h1.mono' (by omega),h4.mono' (by omega),h5.mono' (by omega),h6.mono' (by omega),h7.mono' (by omega)⟩
theorem dec_sl {fs : List Sh} {m : Nat} {d : D} (h : Fits (.sl fs) m d) : ∃ rows,d = .sl fs.length rows ∧ FitsR fs m rows := by
 cases h with
 | sl fs m rows h => exact ⟨rows,rfl,h⟩
theorem dec_text (r : List D) (m : Nat) (h : FitsL [.str] m r) : ∃ s : Str,r = encStr1 s ∧ s.length ≤ m := by
 obtain ⟨d,rfl,h1⟩ := dec_one h
 obtain ⟨s,rfl,hs⟩ := dec_str h1
 exact ⟨s,rfl,hs⟩
theorem dec_ins (r : List D) (m : Nat) (h : FitsL shIns m r) : ∃ i : Ins,r = i.enc ∧ (i.key.length ≤ m ∧ inI i.kind ∧ inI i.a ∧ inI i.b ∧ inI i.n) := by
 obtain ⟨d,e,f,g,k,rfl,h1,h2,h3,h4,h5⟩ := dec_five h
 obtain ⟨a,rfl,ha⟩ := dec_int h1
 obtain ⟨b,rfl,hb⟩ := dec_int h2
 obtain ⟨c,rfl,hc⟩ := dec_int h3
 obtain ⟨n,rfl,hn⟩ := dec_int h4
 obtain ⟨s,rfl,hs⟩ := dec_str h5
 exact ⟨⟨a,b,c,n,s⟩,rfl,hs,ha,hb,hc,hn⟩
structure Deed.In (d : Deed) (m : Nat) : Prop where
 r : d.reads.length ≤ m
 w : d.writes.length ≤ m
 c : d.code.length ≤ m
 rk : ∀ s ∈ d.reads,s.length ≤ m
 wk : ∀ s ∈ d.writes,s.length ≤ m
 ck : ∀ i ∈ d.code,i.key.length ≤ m
theorem Deed.In.sm {d : Deed} {m : Nat} (h : Deed.In d m) (hm : m ≤ 1048576) : d.Sm :=
 ⟨by have := h.r;omega,by have := h.w;omega,by have := h.c;omega,fun s hs => by have := h.rk s hs;omega,fun s hs => by have := h.wk s hs;omega⟩
theorem Deed.In.mono {d : Deed} {m n : Nat} (h : Deed.In d m) (hm : m ≤ n) : Deed.In d n :=
 ⟨by have := h.r;omega,by have := h.w;omega,by have := h.c;omega,fun s hs => by have := h.rk s hs;omega,fun s hs => by have := h.wk s hs;omega,fun s hs => by have := h.ck s hs;omega⟩
theorem dec_deed (r : List D) (m : Nat) (h : FitsL shDeed m r) : ∃ d : Deed,r = d.enc ∧ Deed.In d m := by
 obtain ⟨x,y,z,rfl,h1,h2,h3⟩ := dec_three h
 obtain ⟨r1,rfl,hr1⟩ := dec_sl h1
 obtain ⟨r2,rfl,hr2⟩ := dec_sl h2
 obtain ⟨r3,rfl,hr3⟩ := dec_sl h3
 obtain ⟨a,rfl,ha,hal⟩ := fitsR_all dec_text hr1
 obtain ⟨b,rfl,hb,hbl⟩ := fitsR_all dec_text hr2
 obtain ⟨c,rfl,hc,hcl⟩ := fitsR_all dec_ins hr3
 exact ⟨⟨a,b,c⟩,rfl,hal,hbl,hcl,fun s hs => let ⟨_,h1,h2⟩ := ha s hs;Nat.le_trans h2 h1,fun s hs => let ⟨_,h1,h2⟩ := hb s hs;Nat.le_trans h2 h1,fun s hs => let ⟨_,h1,h2⟩ := hc s hs;Nat.le_trans h2.1 h1⟩
theorem dec_deeds {m : Nat} {d : D} (h : Fits (.sl shDeed) m d) : ∃ l : List Deed,d = encDeeds l ∧ l.length ≤ m ∧ ∀ x ∈ l,Deed.In x m := by
 obtain ⟨rows,rfl,hr⟩ := dec_sl h
 obtain ⟨l,rfl,hl,hn⟩ := fitsR_all dec_deed hr
 exact ⟨l,rfl,hn,fun p hp => let ⟨_,h1,h2⟩ := hl p hp;h2.mono h1⟩
end Go.Proofs.YtmnociojijpdmaaGreatDoor
namespace Go.RF
open Go.AX
structure Entry where
 number : Int
 deeds : List Deed
 deriving DecidableEq
structure Replica where
 engine : Engine
 next : Int
 early : List Entry
 deriving DecidableEq
def Entry.enc (e : Entry) : List D := [dint e.number,encDeeds e.deeds]
def encEntries (l : List Entry) : D := .sl 2 (l.map Entry.enc)
def Replica.enc (r : Replica) : List D := [encChains r.engine.chains,encDeeds r.engine.deeds,encInts r.engine.state,encEnds r.engine.ends,dint r.engine.base,dint r.next,encEntries r.early]
def wrongEntry (e : Entry) : Int := if e.number < 0 ∨ 11 < e.number then 3 else if 6 < e.deeds.length then 5 else wrongs e.deeds
def clearR (r : Replica) : Replica := ⟨clearE r.engine,r.next,r.early⟩
end Go.RF
namespace Go.Proofs.YtmnociojijpdmaaGreatDoor
open Go.AX Go.RF
abbrev shEntry : List Sh := [i64s,.sl shDeed]
structure Entry.In (e : Entry) (m : Nat) : Prop where
 l : e.deeds.length ≤ m
 d : ∀ x ∈ e.deeds,Deed.In x m
theorem Entry.In.mono {e : Entry} {m n : Nat} (h : Entry.In e m) (hm : m ≤ n) : Entry.In e n := ⟨by have := h.l;omega,fun x hx => (h.d x hx).mono hm⟩
theorem Entry.In.sm {e : Entry} {m : Nat} (h : Entry.In e m) (hm : m ≤ 1048576) : e.deeds.length ≤ 10000000 ∧ ∀ d ∈ e.deeds,d.Sm := ⟨by have := h.l;omega,fun d hd => (h.d d hd).sm hm⟩
theorem dec_entry (r : List D) (m : Nat) (h : FitsL shEntry m r) : ∃ e : Entry,r = e.enc ∧ Entry.In e m := by
 obtain ⟨d,e,rfl,h1,h2⟩ := dec_two h
 obtain ⟨n,rfl,hn⟩ := dec_int h1
 obtain ⟨l,rfl,hl,hd⟩ := dec_deeds h2
 exact ⟨⟨n,l⟩,rfl,hl,hd⟩
end Go.Proofs.YtmnociojijpdmaaGreatDoor
namespace Go.AX
open Go.RowKit
variable {cx : Cx} {g : Nat → Value} {σ σ' : St} {a : Act} {w w' : World} {nx : Nat} {c : Code} {Q : Exit → St → Prop}
variable {ty : TypeId} {pos : String} {af : Array Edge} {gd : Option (Nat × Bool)} {d : Nat}
def RowsAt (w : World) (base : Nat) (own : Nat → Prop) (e k : Nat) (v : Value) (rows : List (List D)) : Prop :=
 ∃ xs : List Value,w.ownsRow base e k v rows.length xs ∧ (∀ x ∈ xs,Value.oneCell' x = true) ∧ (∀ r ∈ rows,r.length = k) ∧
  ∀ (i j : Nat) (r : List D) (d : D) (x : Value),rows[i]? = some r → r[j]? = some d → xs[i * k + j]? = some x → Rd w own x d
def with1 (own : Nat → Prop) (v : Value) : Nat → Prop := fun b => own b ∨ blk v = some b
theorem ownsRow_base {base base' : Nat} {e k : Nat} {v : Value} {n : Nat} {xs : List Value} (h : w.ownsRow base e k v n xs) (hb : ∀ b,blk v = some b → base' ≤ b) : w.ownsRow base' e k v n xs := by
 refine ⟨h.1,?_⟩
 rcases h.2 with h1 | ⟨g,cap,cur,hv,h1,h2⟩
 ·
  exact .inl h1
 ·
  exact .inr ⟨g,cap,cur,hv,hb g (by rw [hv];rfl),h2⟩
theorem RowsAt.lt {base e k : Nat} {own : Nat → Prop} {v : Value} {rows : List (List D)} (h : RowsAt w base own e k v rows) {b : Nat} (hb : blk v = some b) : base ≤ b ∧ b < w.heap.size := by
 obtain ⟨xs,h1,_⟩ := h
 exact h1.lt b (by rw [← blk_own h1];exact hb)
theorem RowsAt.re {base base' e k : Nat} {own own' : Nat → Prop} {v : Value} {rows : List (List D)} (h : RowsAt w base own e k v rows) (hb : ∀ b,blk v = some b → base' ≤ b) (ho : ∀ b,own' b → own b) : RowsAt w base' own' e k v rows := by
 obtain ⟨xs,h1,h2,h3,h4⟩ := h
 exact ⟨xs,ownsRow_base h1 hb,h2,h3,fun i j r d x hi hj hx => (h4 i j r d x hi hj hx).less ho⟩
theorem RowsAt.rd {base e k : Nat} {own own' : Nat → Prop} {v : Value} {rows : List (List D)} (h : RowsAt w base own e k v rows) (ho : ∀ b,own' b → own b ∧ blk v ≠ some b) : Rd w own' v (.sl k rows) := by
 obtain ⟨xs,h1,h2,h3,h4⟩ := h
 rcases h1.2 with ⟨hv,hn⟩ | ⟨b,cap,cur,hv,hb,hh,hle,hcm,hsz,htk⟩
 ·
  obtain rfl : rows = [] := List.eq_nil_of_length_eq_zero hn
  rw [hv];exact .nil none 0 k
 ·
  have hlt : b < w.heap.size := by
   rcases Nat.lt_or_ge b w.heap.size with h | h
   ·
    exact h
   ·
    rw [Array.getElem?_eq_none h] at hh;cases hh
  have hx : ∀ i j r d,rows[i]? = some r → r[j]? = some d → ∃ x,xs[i * k + j]? = some x ∧ w.cell? ((⟨b,0,none⟩ : Addr).add (i * k + j)) = some x := by
   intro i j r d hi hj
   have hil := (List.getElem?_eq_some_iff.1 hi).1
   have hjl : j < k := by rw [← h3 r (List.mem_of_getElem? hi)];exact (List.getElem?_eq_some_iff.1 hj).1
   have hlen : i * k + j < xs.length := by
    rw [h1.1]
    have h5 : (i + 1) * k ≤ rows.length * k := Nat.mul_le_mul_right _ hil
    rw [Nat.add_mul,Nat.one_mul] at h5
    omega
   exact ⟨xs[i * k + j],List.getElem?_eq_getElem hlen,h1.cells (g := b) (by rw [hv];rfl) _ _ (List.getElem?_eq_getElem hlen)⟩
  have hblk : blk v = some b := by rw [hv];rfl
  rw [hv]
  refine .sl ⟨b,0,none⟩ cap k rows (fun i j => xs.getD (i * k + j) undef) (fun h0 => (ho b h0).2 hblk) hlt hle h3 (fun i j r d hi hj => ?_) (fun i j r d hi hj => ?_) fun i j r d hi hj => ?_
  ·
   obtain ⟨x,h5,h6⟩ := hx i j r d hi hj
   rw [h6];simp [List.getD,h5]
  ·
   obtain ⟨x,h5,h6⟩ := hx i j r d hi hj
   simp only [List.getD,h5,Option.getD_some]
   exact h2 x (List.mem_of_getElem? h5)
  ·
   obtain ⟨x,h5,h6⟩ := hx i j r d hi hj
   simp only [List.getD,h5,Option.getD_some]
   exact (h4 i j r d x hi hj h5).less fun b hb => (ho b hb).1
theorem RowsAt.at {base e k : Nat} {own : Nat → Prop} {v : Value} {rows : List (List D)} (h : RowsAt w base own e k v rows) {i j : Nat} {r : List D} {x0 : Value} {d' : D} (hi : rows[i]? = some r) (hj : r[j]? = some (.v x0)) (hd : Rd w own x0 d') :
  RowsAt w base own e k v (rows.set i (r.set j d')) := by
 obtain ⟨xs,h1,h2,h3,h4⟩ := h
 have hil := (List.getElem?_eq_some_iff.1 hi).1
 have hjl := (List.getElem?_eq_some_iff.1 hj).1
 refine ⟨xs,by simpa using h1,h2,fun r' hr' => ?_,fun i' j' r' z x hi' hj' hx => ?_⟩
 ·
  rcases List.mem_or_eq_of_mem_set hr' with h | h
  ·
   exact h3 r' h
  ·
   subst h;simp;exact h3 r (List.mem_of_getElem? hi)
 ·
  by_cases he : i = i'
  ·
   subst he
   rw [List.getElem?_set_self hil] at hi'
   cases hi'
   by_cases hf : j = j'
   ·
    subst hf
    rw [List.getElem?_set_self hjl] at hj'
    cases hj'
    have := h4 i j r (.v x0) x hi hj hx
    rw [rd_v this];exact hd
   ·
    rw [List.getElem?_set_ne hf] at hj'
    exact h4 i j' r z x hi hj' hx
  ·
   rw [List.getElem?_set_ne he] at hi'
   exact h4 i' j' r' z x hi' hj' hx
structure FnNew (P : Program) (f : FuncId) (args : List Arg) (e k : Nat) (rows : List (List D)) : Prop where
 run : ∃ fn, P.funcs[f]? = some fn ∧ (fn.name == "runtime.NumGoroutine") = false ∧ fn.body.isNone = false
 calls : ∀ (w : World) (own : Nat → Prop) (vs : List Value),((∀ b,own b → b < w.heap.size) ∧ Gl P w) → ArgsOk w own vs args →
  Calls P f vs.toArray w fun r w' => ∃ v,r = .returned v ∧ Below w.heap.size w w' ∧ RowsAt w' w.heap.size (with1 own v) e k v rows
inductive RetNew (σ : St) (t e k : Nat) (rows : List (List D)) : Prop
 | own {id n : Nat} (h : get σ (.s t) = .av (.own id n)) (ho : get σ (.o id) = .ob (.arr e k rows)) (hn : n = rows.length)
 | nil (h : get σ (.s t) = .av (.d (.v nilS))) (hr : rows = [])
def newQ (t e k : Nat) (rows : List (List D)) : Exit → St → Prop
 | .normal,σ => RetNew σ t e k rows
 | .ret,σ => RetNew σ t e k rows
 | _,_ => False
theorem objRows (hs : SimG cx σ a w g nx) {id e k : Nat} {rows : List (List D)} (ho : get σ (.o id) = .ob (.arr e k rows)) : RowsAt w cx.w0.heap.size (cx.own g σ) e k (g id) rows := (hs.objs id _ ho).2.1
theorem RetNew.ok (hs : SimG cx σ a w g nx) {t e k : Nat} {rows : List (List D)} (h : RetNew σ t e k rows) : RowsAt w cx.w0.heap.size (with1 cx.own0 (a.tmps.getD t undef)) e k (a.tmps.getD t undef) rows := by
 cases h with
 | @own id n h ho hn =>
  have hv : a.tmps.getD t undef = g id := ((hs.slots t _ h).1.2 e k rows ho).2 hn
  rw [hv]
  refine (objRows hs ho).re (fun b hb => obj_ge hs ho hb) fun b hb => ?_
  rcases hb with hb | hb
  ·
   exact .inl hb
  ·
   exact .inr ⟨id,_,ho,hb⟩
 | nil h hr =>
  subst hr
  rw [rd_v (hs.slots t _ h).1]
  exact ⟨[],World.ownsRow_nil _ _ _ _,by simp,by simp,by simp⟩
theorem fnNew_of {P : Program} {T : Tbl} (hT : TOk P T) (hm : P.follows .mixedOrders = true) {f : FuncId} {fn : Func} {c : Code} {t e k : Nat} {args : List Arg} {rows : List (List D)}
  (hf : P.funcs[f]? = some fn) (hb : fn.body = some c) (hname : (fn.name == "runtime.NumGoroutine") = false) (hr : fn.results = #[.tmp t]) (hn : Nat.ble args.length fn.ntmps = true)
  (h : ∀ w0 own0,CW ⟨P,T,hT,hm,fn.ntmps,w0,own0,0,[]⟩ c (newQ t e k rows) (argSt 0 args)) : FnNew P f args e k rows := by
 refine ⟨⟨fn,hf,hname,by rw [hb];rfl⟩,fun w own vs hown ha => ?_⟩
 have hsim := entry_sim (P := P) (T := T) (hT := hT) (hm := hm) (n := fn.ntmps) hown ha (by simpa using hn)
 refine calls_of_wp hf hb (wp_mono (h w own _ _ hsim) fun x a' w' he => ?_)
 obtain ⟨σ',⟨g,nx,hg⟩,hq⟩ := he
 have fin : ∀ hq : RetNew σ' t e k rows,a'.defers = [] ∧ ∃ v,(results fn a'.tmps).run P w' = .ok v w' ∧ ∃ v',Ending.returned v = .returned v' ∧ Below w.heap.size w w' ∧ RowsAt w' w.heap.size (with1 own v') e k v' rows := by
  intro hq
  exact ⟨hg.defers,_,by rw [results_one hr];simp [rvRun],_,rfl,hg.below,hq.ok hg⟩
 cases x with
 | normal => exact fin hq
 | ret => exact fin hq
 | exit j => exact hq.elim
 | goto j => exact hq.elim
 | panic c => exact hq.elim
 | outgrown => exact hq.elim
theorem FnNew.ok {P : Program} {f : FuncId} {args : List Arg} {e k : Nat} {rows : List (List D)} (h : FnNew P f args e k rows) : FnOk P f args (.one (.sl k rows)) := by
 refine ⟨h.run,fun w own vs hown ha => (h.calls w own vs hown ha).mono fun r w' hr => ?_⟩
 obtain ⟨v,rfl,h1,h2⟩ := hr
 exact ⟨v,rfl,h1,h2.rd fun b hb => ⟨.inl hb,fun he => by have := (h2.lt he).1;have := hown.1 b hb;omega⟩⟩
theorem SimG.join (hs : SimG cx σ a w g nx) (hb : Below w.heap.size w w') {v : Value} {o : Ob} {e k : Nat} {rows : List (List D)} (hr : RowsAt w' w.heap.size (with1 (cx.own g σ) v) e k v rows)
  (ho : o = .arr e k rows ∨ o = .pin e k rows v) : SimG cx (objSt σ (nx + 1) nx o) a w' (upd g nx v) (nx + 1) := by
 have hge := hs.below.size
 refine SimG.obj hs ⟨.inl ⟨rfl,rfl⟩,hb.mono hge,fun b hb' _ => hb.block b hb',fun b hb' => .inr (hr.lt hb').1⟩ (fun hl => ?_) (by rcases ho with rfl | rfl <;> trivial)
 have hre : RowsAt w' cx.w0.heap.size (cx.own (upd g nx v) (objSt σ (nx + 1) nx o)) e k (upd g nx v nx) rows := by
  rw [upd_same]
  refine hr.re (fun b hb' => by have := (hr.lt hb').1;omega) fun b hb' => ?_
  rcases hb' with h | ⟨id,o',h1,h2⟩
  ·
   exact .inl (.inl h)
  ·
   by_cases hid : id = nx
   ·
    subst hid;rw [upd_same] at h2;exact .inr h2
   ·
    rw [objSt_o hid] at h1
    rw [upd_ne hid] at h2
    exact .inl (.inr ⟨id,o',h1,h2⟩)
 rcases ho with rfl | rfl
 ·
  exact hre
 ·
  exact ⟨upd_same _ _ _,hre⟩
theorem call_run {P : Program} {f : FuncId} {xs : List Operand} {ats : Array TypeId} (hr : ∃ fn, P.funcs[f]? = some fn ∧ (fn.name == "runtime.NumGoroutine") = false ∧ fn.body.isNone = false) :
  (execOp a.eval ⟨some d,.call { callee := .value (.func f),args := ⟨xs⟩,argTypes := ats },ty,pos,af,gd⟩).run P w = .ok (.enter f (xs.map a.eval).toArray) w := by
 obtain ⟨fn,h1,h2,h3⟩ := hr
 simp only [execOp,resolve,Deferred.ofValue,Act.eval,invoke,callFunc,Sem.run_bind,Sem.run_pure,Result.andThen_ok,run_program,h1,h2,h3,Bool.false_eq_true,if_false]
 simp
end Go.AX
namespace Go.AX
open Go.RowKit
variable {cx : Cx} {g : Nat → Value} {σ σ' : St} {a : Act} {w w' : World} {nx : Nat} {c : Code} {Q : Exit → St → Prop}
variable {ty : TypeId} {pos : String} {af : Array Edge} {gd : Option (Nat × Bool)} {d : Nat}
inductive Part where
 | d (x : D)
 | own (e k : Nat) (rows : List (List D))
def withL (own : Nat → Prop) (ps : List Part) (cs : Array Value) : Nat → Prop := fun b => own b ∨ ∃ j e k rows,ps[j]? = some (.own e k rows) ∧ blk (cs.getD j undef) = some b
structure PartsAt (w : World) (base : Nat) (own : Nat → Prop) (ps : List Part) (cs : Array Value) : Prop where
 size : cs.size = ps.length
 one : ∀ (j : Nat) (c : Value),cs[j]? = some c → c.oneCell' = true
 data : ∀ j x,ps[j]? = some (.d x) → Rd w (withL own ps cs) (cs.getD j undef) x
 rows : ∀ j e k rows,ps[j]? = some (.own e k rows) → RowsAt w base (withL own ps cs) e k (cs.getD j undef) rows
 sep : ∀ j j' e k rows e' k' rows' b,ps[j]? = some (.own e k rows) → ps[j']? = some (.own e' k' rows') → blk (cs.getD j undef) = some b → blk (cs.getD j' undef) = some b → j = j'
structure FnNews (P : Program) (f : FuncId) (args : List Arg) (ps : List Part) : Prop where
 run : ∃ fn, P.funcs[f]? = some fn ∧ (fn.name == "runtime.NumGoroutine") = false ∧ fn.body.isNone = false
 calls : ∀ (w : World) (own : Nat → Prop) (vs : List Value),((∀ b,own b → b < w.heap.size) ∧ Gl P w) → ArgsOk w own vs args →
  Calls P f vs.toArray w fun r w' => ∃ cs,r = .returned (.agg cs) ∧ Below w.heap.size w w' ∧ PartsAt w' w.heap.size own ps cs
inductive PartE (σ : St) : AV → Part → Prop
 | d {x : D} : PartE σ (.d x) (.d x)
 | own {id n e k : Nat} {rows : List (List D)} (ho : get σ (.o id) = .ob (.arr e k rows)) (hn : n = rows.length) : PartE σ (.own id n) (.own e k rows)
def ids : List AV → List Nat
 | [] => []
 | .own id _ :: r => id :: ids r
 | _ :: r => ids r
inductive PartsL (σ : St) : List AV → List Part → Prop
 | nil : PartsL σ [] []
 | cons {av : AV} {p : Part} {avs : List AV} {ps : List Part} (h : PartE σ av p) (t : PartsL σ avs ps) : PartsL σ (av :: avs) (p :: ps)
theorem PartsL.at {avs : List AV} {ps : List Part} (h : PartsL σ avs ps) : avs.length = ps.length ∧ ∀ (j : Nat) (p : Part),ps[j]? = some p → ∃ av : AV,avs[j]? = some av ∧ PartE σ av p := by
 induction h with
 | nil => exact ⟨rfl,fun j p h => by simp at h⟩
 | cons h t ih =>
  refine ⟨by simp [ih.1],fun j p hj => ?_⟩
  cases j with
  | zero => simp at hj;subst hj;exact ⟨_,rfl,h⟩
  | succ j => simpa using ih.2 j p (by simpa using hj)
theorem ids_mem {id n : Nat} : ∀ {avs : List AV} {j : Nat},avs[j]? = some (.own id n) → id ∈ ids avs
 | x :: avs,0,h => by
  obtain rfl : x = .own id n := by simpa using h
  exact List.mem_cons_self ..
 | x :: avs,j + 1,h => by
  have := ids_mem (avs := avs) (j := j) (by simpa using h)
  cases x <;> simp [ids,this]
theorem ids_inj {id n m : Nat} : ∀ {avs : List AV} {i j : Nat},(ids avs).Nodup → avs[i]? = some (.own id n) → avs[j]? = some (.own id m) → i = j
 | x :: avs,0,0,_,_,_ => rfl
 | x :: avs,0,j + 1,h,hi,hj => by
  obtain rfl : x = .own id n := by simpa using hi
  simp only [ids,List.nodup_cons] at h
  exact absurd (ids_mem (by simpa using hj)) h.1
 | x :: avs,i + 1,0,h,hi,hj => by
  obtain rfl : x = .own id m := by simpa using hj
  simp only [ids,List.nodup_cons] at h
  exact absurd (ids_mem (by simpa using hi)) h.1
 | x :: avs,i + 1,j + 1,h,hi,hj => by
  have h' : (ids avs).Nodup := by
   cases x <;> simp only [ids,List.nodup_cons] at h <;> first | exact h.2 | exact h
  exact congrArg (· + 1) (ids_inj (n := n) (m := m) h' (by simpa using hi) (by simpa using hj))
theorem parts_at (hs : SimG cx σ a w g nx) {avs : List AV} {ps : List Part} {v : Value} (hr : Rep cx g σ w v (.agg avs)) (hp : PartsL σ avs ps) (hn : (ids avs).Nodup) : ∃ cs,v = .agg cs ∧ PartsAt w cx.w0.heap.size cx.own0 ps cs := by
 obtain ⟨cs,h1,h2,h3,h4⟩ := hr
 obtain ⟨hl,hat⟩ := hp.at
 refine ⟨cs,h1,?_⟩
 have hc : ∀ j p,ps[j]? = some p → ∃ av,avs[j]? = some av ∧ PartE σ av p ∧ Rep1 cx g σ w (cs.getD j undef) av := fun j p hj => by
  obtain ⟨av,h5,h6⟩ := hat j p hj
  have hlt : j < cs.size := by rw [h2];exact (List.getElem?_eq_some_iff.1 h5).1
  have h7 : cs[j]? = some cs[j] := Array.getElem?_eq_getElem hlt
  refine ⟨av,h5,h6,?_⟩
  rw [Array.getD_eq_getD_getElem?,h7]
  exact h4 j _ av h5 h7
 have hown : ∀ j e k rows,ps[j]? = some (.own e k rows) → ∃ id n,avs[j]? = some (.own id n) ∧ cs.getD j undef = g id ∧ get σ (.o id) = .ob (.arr e k rows) := fun j e k rows hj => by
  obtain ⟨av,h5,h6,h7⟩ := hc j _ hj
  cases h6 with
  | @own id n _ _ _ ho hn => exact ⟨id,n,h5,(h7.2 e k rows ho).2 hn,ho⟩
 have hle : ∀ b,withL cx.own0 ps cs b → cx.own g σ b := fun b hb => by
  rcases hb with hb | ⟨j,e,k,rows,hj,hb⟩
  ·
   exact .inl hb
  ·
   obtain ⟨id,n,_,h6,h7⟩ := hown j e k rows hj
   exact .inr ⟨id,_,h7,by rw [← h6];exact hb⟩
 refine ⟨by rw [h2,hl],h3,fun j x hj => ?_,fun j e k rows hj => ?_,fun j j' e k rows e' k' rows' b hj hj' hb hb' => ?_⟩
 ·
  obtain ⟨av,h5,h6,h7⟩ := hc j _ hj
  cases h6 with
  | d => exact Rd.less hle h7
 ·
  obtain ⟨id,n,_,h6,h7⟩ := hown j e k rows hj
  rw [h6]
  exact (objRows hs h7).re (fun b hb => obj_ge hs h7 hb) hle
 ·
  obtain ⟨id,n,h5,h6,h7⟩ := hown j e k rows hj
  obtain ⟨id',n',h5',h6',h7'⟩ := hown j' e' k' rows' hj'
  obtain rfl := hs.sep id id' _ _ b h7 h7' (by rw [← h6];exact hb) (by rw [← h6'];exact hb')
  exact ids_inj hn h5 h5'
inductive RetNews (T : Tbl) (σ : St) (ps : List Part) : ResultVar → Prop
 | tmp {t : Nat} {avs : List AV} (h : get σ (.s t) = .av (.agg avs)) (hp : PartsL σ avs ps) (hn : (ids avs).Nodup) : RetNews T σ ps (.tmp t)
 | cell {s t id : Nat} {cells avs : List AV} {ti : TI} (h : get σ (.s s) = .av (.ptr id 0)) (ho : get σ (.o id) = .ob (.box cells)) (ht : tget T t = some ti)
   (hl : ldA ti cells = some (.agg avs)) (hp : PartsL σ avs ps) (hn : (ids avs).Nodup) : RetNews T σ ps (.cell s t)
theorem RetNews.ok (hs : SimG cx σ a w g nx) {rv : ResultVar} {ps : List Part} (h : RetNews cx.T σ ps rv) : ∃ cs,(rvRun a.tmps rv).run cx.P w = .ok (.agg cs) w ∧ PartsAt w cx.w0.heap.size cx.own0 ps cs := by
 cases h with
 | @tmp t avs h hp hn =>
  obtain ⟨cs,h1,h2⟩ := parts_at hs (hs.slots t _ h).1 hp hn
  exact ⟨cs,by rw [← h1];rfl,h2⟩
 | @cell s t id cells avs ti h ho ht hl hp hn =>
  obtain ⟨v,h1,h2,_⟩ := load_ptr hs (x := a.tmps.getD s undef) (off := 0) (hs.slots s _ h).1 ho ht (by simpa using hl)
  obtain ⟨b,hg,hv⟩ := (hs.slots s _ h).1.2 cells ho
  obtain ⟨cs,rfl,h3⟩ := parts_at hs h2 hp hn
  refine ⟨cs,?_,h3⟩
  rw [hv] at h1
  simp only [rvRun,hv,asAddr,Sem.run_bind,Sem.run_pure,Result.andThen_ok]
  simpa [Instr.loadAt,Instr.sureAddr] using h1
def Part.dt : Part → D
 | .d x => x
 | .own _ k rows => .sl k rows
theorem FnNews.ok {P : Program} {f : FuncId} {args : List Arg} {ps : List Part} (h : FnNews P f args ps) : FnOk P f args (.one (.agg (ps.map Part.dt))) := by
 refine ⟨h.run,fun w own vs hown ha => (h.calls w own vs hown ha).mono fun r w' hr => ?_⟩
 obtain ⟨cs,rfl,h1,h2⟩ := hr
 refine ⟨.agg cs,rfl,h1,?_⟩
 refine .agg cs _ (by rw [h2.size,List.length_map]) h2.one fun j x c hj hc => ?_
 rw [List.getElem?_map] at hj
 cases hp : ps[j]? with
 | none => rw [hp] at hj;cases hj
 | some p =>
  rw [hp] at hj
  simp at hj;subst hj
  have hcd : cs.getD j undef = c := by rw [Array.getD_eq_getD_getElem?,hc];rfl
  cases p with
  | d x =>
   have := h2.data j x hp
   rw [hcd] at this
   exact this.less fun b hb => .inl hb
  | own e k rows =>
   have := h2.rows j e k rows hp
   rw [hcd] at this
   refine this.rd fun b hb => ⟨.inl hb,fun he => ?_⟩
   have := (this.lt he).1
   have := hown.1 b hb
   omega
end Go.AX
namespace Go.AX
open Go.RowKit
variable {cx : Cx} {g : Nat → Value} {σ : St} {a : Act} {w : World} {nx : Nat}
variable {ty : TypeId} {pos : String} {af : Array Edge} {gd : Option (Nat × Bool)} {d : Nat}
theorem a_nilpd {x : Operand} {cells : List D} (hx : ev σ x = some (.pd cells)) (hd : Nat.blt d cx.n = true) :
  OA cx σ ⟨some d,.nilCheck x,ty,pos,af,gd⟩ ⟨rdOf x (.pd cells),[(.s d,.av (.pd cells))]⟩ :=
 ⟨ok_nilCheck_pd (lt_of_blt hd) (ev_out hx).1,(ev_out hx).2⟩
end Go.AX
namespace Go.AX
open Go.RowKit
variable {cx : Cx} {g : Nat → Value} {σ : St} {a : Act} {w : World} {nx : Nat}
variable {ty : TypeId} {pos : String} {af : Array Edge} {gd : Option (Nat × Bool)} {d : Nat}
def RdG (R : Value → AV → Prop) (cs : List Value) (ds : List AV) : Prop :=
 cs.length = ds.length ∧ (∀ c ∈ cs,Value.oneCell' c = true) ∧ ∀ (j : Nat) (c : Value) (x : AV),ds[j]? = some x → cs[j]? = some c → R c x
theorem RdG.splice {R : Value → AV → Prop} {cs ns : List Value} {ds es : List AV} {off : Nat} (h : RdG R cs ds) (hn : RdG R ns es) (hle : off + es.length ≤ ds.length) : RdG R (splice cs off ns) (splice ds off es) := by
 obtain ⟨h1,h2,h3⟩ := h
 obtain ⟨n1,n2,n3⟩ := hn
 refine ⟨by simp [AX.splice];omega,fun c hc => ?_,fun j c x hx hc => ?_⟩
 ·
  unfold AX.splice at hc
  rcases List.mem_append.1 hc with hc | hc
  ·
   rcases List.mem_append.1 hc with hc | hc
   ·
    exact h2 c (List.mem_of_mem_take hc)
   ·
    exact n2 c hc
  ·
   exact h2 c (List.mem_of_mem_drop hc)
 ·
  unfold AX.splice at hx hc
  rw [List.append_assoc] at hx hc
  have t1 : (ds.take off).length = off := by simp;omega
  have t2 : (cs.take off).length = off := by simp;omega
  rcases Nat.lt_or_ge j off with hj | hj
  ·
   rw [List.getElem?_append_left (by omega),List.getElem?_take,if_pos hj] at hx hc
   exact h3 j c x hx hc
  ·
   rw [List.getElem?_append_right (by omega),t1] at hx
   rw [List.getElem?_append_right (by omega),t2] at hc
   rcases Nat.lt_or_ge (j - off) es.length with hjn | hjn
   ·
    rw [List.getElem?_append_left hjn] at hx
    rw [List.getElem?_append_left (by omega)] at hc
    exact n3 _ c x hx hc
   ·
    rw [List.getElem?_append_right hjn,List.getElem?_drop] at hx
    rw [List.getElem?_append_right (by omega),List.getElem?_drop] at hc
    rw [n1] at hc
    exact h3 _ c x hx hc
def fillA (place : Nat → Option (Nat × Nat)) : List AV → List (Nat × List AV) → Option (List AV)
 | ds,[] => some ds
 | ds,(i,es) :: r => match place i with
  | none => none
  | some (off,size) => match Nat.beq es.length size with
   | false => none
   | true => match Nat.ble (off + es.length) ds.length with
    | false => none
    | true => fillA place (splice ds off es) r
theorem fillA_ok {R : Value → AV → Prop} {place : Nat → Option (Nat × Nat)} : ∀ {ps : List (Nat × Value)} {qs : List (Nat × List AV)} {cs : Array Value} {ds out : List AV},
  ps.length = qs.length → (∀ (j : Nat) (p : Nat × Value) (q : Nat × List AV),ps[j]? = some p → qs[j]? = some q → p.1 = q.1 ∧ RdG R p.2.cells.toList q.2) →
  RdG R cs.toList ds → fillA place ds qs = some out → ∃ cs',Instr.fill place cs ps = some cs' ∧ RdG R cs'.toList out
 | [],[],cs,ds,out,_,_,h,hf => by
  simp only [fillA,Option.some.injEq] at hf
  subst hf
  exact ⟨cs,rfl,h⟩
 | p :: ps,(i,es) :: qs,cs,ds,out,hl,hp,h,hf => by
  obtain ⟨hp1,hp2⟩ := hp 0 p (i,es) rfl rfl
  simp only [fillA] at hf
  split at hf
  ·
   cases hf
  ·
   next off size hpl =>
   split at hf
   ·
    cases hf
   ·
    next hb1 =>
    split at hf
    ·
     cases hf
    ·
     next hb2 =>
     have e1 : es.length = size := by simpa using hb1
     have e2 : off + es.length ≤ ds.length := by simpa using hb2
     have hsz : p.2.cells.size = es.length := by have := hp2.1;simpa using this
     have hcs : cs.size = ds.length := by have := h.1;simpa using this
     have hsp := foldl_set off p.2.cells.toList 0 cs (by simp;omega)
     rw [Nat.add_zero] at hsp
     have hr := h.splice hp2 e2
     rw [← hsp] at hr
     obtain ⟨cs',h3,h4⟩ := fillA_ok (ps := ps) (qs := qs) (by simpa using hl) (fun j p q hj hq => hp (j + 1) p q (by simpa using hj) (by simpa using hq)) hr hf
     refine ⟨cs',?_,h4⟩
     obtain ⟨pi,pv⟩ := p
     simp only at hp1 hsz
     subst hp1
     simp only [Instr.fill,hpl,hsz,e1,ne_eq,not_true_eq_false,decide_false,Bool.false_or]
     rw [if_neg (by simp;omega)]
     rw [← h3]
     have hfo : pv.cells.zipIdx.foldl (fun (cs : Array Value) (x : Value × Nat) => match x with | (c,j) => cs.setIfInBounds (off + j) c) cs =
       List.foldl (fun (cs : Array Value) (x : Value × Nat) => match x with | (c,j) => cs.setIfInBounds (off + j) c) cs pv.cells.toList.zipIdx := by
      rw [← Array.foldl_toList,Array.toList_zipIdx]
     rw [← hfo]
inductive PartsV (σ : St) : List (Nat × Operand) → List (Nat × List AV) → List (Key × Val) → Prop
 | nil : PartsV σ [] [] []
 | cons {i : Nat} {x : Operand} {r : List (Nat × Operand)} {av : AV} {ds : List AV} {q : List (Nat × List AV)} {l lo : List (Key × Val)} (hx : ev σ x = some av) (hc : cellsOf av = some ds) (hl : nwRd av lo ∧ App σ lo) (hr : PartsV σ r q l) :
   PartsV σ ((i,x) :: r) ((i,ds) :: q) (rdOf x av ++ (lo ++ l))
inductive PartsW : List (Nat × Operand) → List (Nat × List AV) → List (Key × Val) → Prop
 | nil : PartsW [] [] []
 | cons {i : Nat} {x : Operand} {r : List (Nat × Operand)} {av : AV} {ds : List AV} {q : List (Nat × List AV)} {l lo : List (Key × Val)} (hx : EvS x av) (hc : cellsOf av = some ds) (hl : nwRd av lo) (hr : PartsW r q l) :
   PartsW ((i,x) :: r) ((i,ds) :: q) (rdOf x av ++ (lo ++ l))
theorem PartsV.out {ps : List (Nat × Operand)} {qs : List (Nat × List AV)} {l : List (Key × Val)} (h : PartsV σ ps qs l) : PartsW ps qs l ∧ App σ l := by
 induction h with
 | nil => exact ⟨.nil,trivial⟩
 | cons hx hc hl hr ih => exact ⟨.cons (ev_out hx).1 hc hl.1 ih.1,(ev_out hx).2.append (hl.2.append ih.2)⟩
theorem PartsW.ok (hs : SimG cx σ a w g nx) {ps : List (Nat × Operand)} {qs : List (Nat × List AV)} {l : List (Key × Val)} (h : PartsW ps qs l) (ha : App σ l) :
  (ps.map fun p => (p.1,a.eval p.2)).length = qs.length ∧
  (∀ (j : Nat) (p : Nat × Value) (q : Nat × List AV),(ps.map fun p => (p.1,a.eval p.2))[j]? = some p → qs[j]? = some q → p.1 = q.1 ∧ RdG (Rep1 cx g σ w) p.2.cells.toList q.2) ∧
  ∀ q ∈ qs,∀ av ∈ q.2,av.bd1 nx := by
 induction h with
 | nil => exact ⟨rfl,fun j p q h => by simp at h,by simp⟩
 | cons hx hc hl hr ih =>
  obtain ⟨h1,h2,h3⟩ := ih ha.right.right
  obtain ⟨hrep,hbd⟩ := hs.ev hx ha.left
  obtain ⟨c1,c2,c3,c4⟩ := cells_of hrep hbd hc (one_of hs hrep (newest_of hl ha.right.left))
  refine ⟨by simpa using h1,fun j p q hj hq => ?_,fun q hq => ?_⟩
  ·
   cases j with
   | zero =>
    simp at hj hq
    subst hj hq
    refine ⟨rfl,by simpa using c1,fun c hc => ?_,fun j c x hx hc => c3 j c x hx (by simpa using hc)⟩
    obtain ⟨j,hj⟩ := List.getElem?_of_mem hc
    exact c2 j c (by simpa using hj)
   | succ j => exact h2 j p q (by simpa using hj) (by simpa using hq)
  ·
   rcases List.mem_cons.1 hq with rfl | hq
   ·
    exact c4
   ·
    exact h3 q hq
theorem zero_g {zs : List Value} (h1 : ∀ c ∈ zs,Value.oneCell' c = true) : RdG (Rep1 cx g σ w) zs (zs.map fun c => AV.d (.v c)) :=
 ⟨by simp,h1,fun j c x hx hc => by
  rw [List.getElem?_map,hc] at hx
  obtain rfl : AV.d (.v c) = x := by simpa using hx
  exact Rd.v c⟩
theorem fillA_bd {place : Nat → Option (Nat × Nat)} : ∀ {qs : List (Nat × List AV)} {ds out : List AV},(∀ av ∈ ds,av.bd1 nx) → (∀ q ∈ qs,∀ av ∈ q.2,av.bd1 nx) → fillA place ds qs = some out → ∀ av ∈ out,av.bd1 nx
 | [],ds,out,h,_,hf => by
  simp only [fillA,Option.some.injEq] at hf
  subst hf;exact h
 | (i,es) :: qs,ds,out,h,hq,hf => by
  simp only [fillA] at hf
  split at hf
  ·
   cases hf
  ·
   next off size hpl =>
   split at hf
   ·
    cases hf
   ·
    split at hf
    ·
     cases hf
    ·
     refine fillA_bd (fun av hav => ?_) (fun q hq' => hq q (List.mem_cons_of_mem _ hq')) hf
     unfold splice at hav
     rcases List.mem_append.1 hav with hav | hav
     ·
      rcases List.mem_append.1 hav with hav | hav
      ·
       exact h av (List.mem_of_mem_take hav)
      ·
       exact hq _ (List.mem_cons_self ..) av hav
     ·
      exact h av (List.mem_of_mem_drop hav)
theorem ok_buildA {t : TypeId} {ps : List (Nat × Operand)} {qs : List (Nat × List AV)} {l : List (Key × Val)} {ti : TI} {place : Nat → Option (Nat × Nat)} {out : List AV} (hn : d < cx.n) (ht : tget cx.T t = some ti)
  (hk : stPlace ti = some place) (h1 : ∀ c ∈ ti.zero,Value.oneCell' c = true) (hp : PartsW ps qs l) (hf : fillA place (ti.zero.map fun c => AV.d (.v c)) qs = some out) :
  OpOk cx ⟨some d,.build t ⟨ps⟩,ty,pos,af,gd⟩ ⟨l,[(.s d,.av (.agg out))]⟩ := by
 refine ok_val rfl hn fun σ a w g nx hs hr => ?_
 have hF := cx.hT t ti ht
 obtain ⟨i,hi,_,_,z,hz,hzc⟩ := hF.info
 unfold stPlace at hk
 split at hk
 ·
  next fs hkd =>
  cases hk
  have hkk := hF.kind
  rw [hkd] at hkk
  obtain ⟨b,hu,hbl,hg⟩ := hkk
  have hpl : b.toList.mapM (fun f => (cx.P.info? f.type).map fun i => (f.offset,i.size)) = some fs := by
   have key : ∀ (bl : List Field) (fl : List (Nat × Nat)),bl.length = fl.length → (∀ (j : Nat) (p : Nat × Nat),fl[j]? = some p → ∃ (f : Field) (i : TypeInfo),bl[j]? = some f ∧ f.offset = p.1 ∧ cx.P.info? f.type = some i ∧ i.size = p.2) →
     bl.mapM (fun f => (cx.P.info? f.type).map fun i => (f.offset,i.size)) = some fl := by
    intro bl
    induction bl with
    | nil => intro fl hl _;cases fl with
     | nil => rfl
     | cons p fl => simp at hl
    | cons f bl ih => intro fl hl hh;cases fl with
     | nil => simp at hl
     | cons p fl =>
      obtain ⟨f',i',e1,e2,e3,e4⟩ := hh 0 p rfl
      simp at e1
      subst e1
      have := ih fl (by simpa using hl) fun j q hq => by
       obtain ⟨f',i',e⟩ := hh (j + 1) q (by simpa using hq)
       exact ⟨f',i',by simpa using e⟩
      simp [List.mapM_cons,e3,this,e2,e4]
   exact key b.toList fs (by simpa using hbl) fun j p hj => by
    obtain ⟨f,i,e1,e2,e3,e4,_⟩ := hg j p hj
    exact ⟨f,i,by simpa using e1,e2,e3,e4⟩
  obtain ⟨h2,h3,h8⟩ := hp.ok hs hr
  obtain ⟨cs',h4,h5,h6,h7⟩ := fillA_ok (cs := z.cells) h2 h3 (by rw [hzc];exact zero_g h1) hf
  have hb : cx.P.built t (ps.map fun p => (p.1,a.eval p.2)) = some cs' := by
   simp only [Program.built,hi,hu,hz,hpl]
   rw [← h4]
   congr 1
   funext j
   simp
  have hrun := run_build (P := cx.P) w t (ps.map fun p => (p.1,a.eval p.2)).toArray cs' (by simpa using hb)
  refine ⟨.agg cs',w,?_,Below.refl _ _,⟨cs',rfl,by simpa using h5,fun j c hj => h6 c (List.mem_of_getElem? (by simpa using hj)),fun j c x hx hc => h7 j c x hx (by simpa using hc)⟩,fillA_bd (fun av hav => by obtain ⟨z,_,rfl⟩ := List.mem_map.1 hav;trivial) h8 hf⟩
  simp only [execOp,List.map_toArray,Sem.run_bind,hrun,Result.andThen_ok,Sem.run_pure]
 ·
  cases hk
theorem a_buildA {t : TypeId} {ps : List (Nat × Operand)} {qs : List (Nat × List AV)} {l : List (Key × Val)} {ti : TI} {place : Nat → Option (Nat × Nat)} {out : List AV} (ht : tget cx.T t = some ti)
  (hk : stPlace ti = some place) (h1 : (ti.zero.all Value.oneCell') = true) (hd : Nat.blt d cx.n = true) (hp : PartsV σ ps qs l) (hf : fillA place (ti.zero.map fun c => AV.d (.v c)) qs = some out) :
  OA cx σ ⟨some d,.build t ⟨ps⟩,ty,pos,af,gd⟩ ⟨l,[(.s d,.av (.agg out))]⟩ :=
 ⟨ok_buildA (lt_of_blt hd) ht hk (fun c hc => List.all_eq_true.1 h1 c hc) hp.out.1 hf,hp.out.2⟩
end Go.AX
namespace Go.AX
open Go.RowKit
variable {cx : Cx} {g : Nat → Value} {σ σ' : St} {a : Act} {w w' : World} {nx : Nat}
variable {ty : TypeId} {pos : String} {af : Array Edge} {gd : Option (Nat × Bool)} {d : Nat}
theorem flatten_len {k : Nat} : ∀ {rs : List (List D)},(∀ r ∈ rs,r.length = k) → rs.flatten.length = rs.length * k
 | [],_ => by simp
 | r :: rs,h => by
  rw [List.flatten_cons,List.length_append,h r (List.mem_cons_self ..),flatten_len fun x hx => h x (List.mem_cons_of_mem _ hx),List.length_cons,Nat.add_mul,Nat.one_mul,Nat.add_comm]
theorem ok_bsO {t e : TypeId} {n k n0 : Nat} {ps : List (Nat × Operand)} {rs : List (List D)} {l : List (Key × Val)} {ti te : TI} (hn : d < cx.n) (ht : tget cx.T t = some ti) (hk : ti.kind = .sl e k)
  (hte : tget cx.T e = some te) (h1 : ∀ c ∈ te.zero,Value.oneCell' c = true) (hp : Parts ps (numb 0 rs) l) (hrs : ∀ r ∈ rs,r.length = k) (hnl : n = rs.length) (hsm : n * k ≤ 65536) (hpos : n * k ≠ 0) :
  OpOk cx ⟨some d,.buildSlice t n ⟨ps⟩,ty,pos,af,gd⟩ ⟨(.nx,.num n0) :: l,[(.s d,.av (.own n0 n)),(.o n0,.ob (.arr e k rs)),(.nx,.num (n0 + 1))]⟩ := by
 rintro σ a w K Q ⟨g,nx,hs⟩ hr hK
 obtain ⟨hnn,hr⟩ := hr
 have hnx : nx = n0 := by
  have h2 := hs.hnx
  rw [hnn] at h2
  simpa using h2.symm
 subst hnx
 have hF := (cx.hT t ti ht).kind
 rw [hk] at hF
 obtain ⟨hu,⟨ie,hie,hks⟩,hk0,_⟩ := hF
 obtain ⟨ie',hie',hes,_,z,hz,hzc⟩ := (cx.hT e te hte).info
 rw [hie] at hie'
 cases hie'
 obtain ⟨h2,h3⟩ := hp.ok hs hr
 have hzl : z.cells.size = k := by
  have := (cx.hT e te hte).len
  rw [← hzc] at this
  simp at this
  omega
 have hinit : RdL w (cx.own g σ) ((Array.range (n * ie.size)).map (z.cells[· % z.cells.size]!)).toList (((Array.range (n * ie.size)).map (z.cells[· % z.cells.size]!)).toList.map D.v) := by
  refine zero_rd fun c hc => ?_
  simp only [Array.toList_map,List.mem_map] at hc
  obtain ⟨q,_,rfl⟩ := hc
  refine h1 _ ?_
  rw [← hzc]
  have hlt : q % z.cells.size < z.cells.size := Nat.mod_lt _ (by rw [hzl];exact Nat.pos_of_ne_zero fun e => hpos (by rw [e,Nat.mul_zero]))
  rw [getElem!_pos z.cells _ hlt]
  simp
 have hfr := fill_rows (k := k) (n := n) (rs := rs) (i := 0) (ds := ((Array.range (n * ie.size)).map (z.cells[· % z.cells.size]!)).toList.map D.v) hrs (by simp [hks]) (by omega)
 rw [Nat.zero_mul,List.take_zero,List.nil_append,List.drop_eq_nil_of_le (by simp [hks,hnl]),List.append_nil] at hfr
 obtain ⟨cs',h4,h5⟩ := fill_ok (cs := (Array.range (n * ie.size)).map (z.cells[· % z.cells.size]!)) h2 h3 hinit hfr
 have hrun := run_buildSlice (P := cx.P) w t e n (ps.map fun p => (p.1,a.eval p.2)).toArray cs' ie z hu hie hz (by rw [hks];omega) (by rw [hks];exact hpos) (by rw [← h4,hks])
 have hflen : rs.flatten.length = n * k := by rw [hnl];exact flatten_len hrs
 have hcl : cs'.size = n * k := by have := h5.1;simp only [Array.length_toList] at this;omega
 have hb : Below w.heap.size w (w.alloc (.cells cs' e)) := (Below.refl _ _).alloc (Nat.le_refl _) _
 have hst : ObjStep cx σ g nx (nx + 1) w (w.alloc (.cells cs' e)) nx (.arr e k rs) (.slice (some ⟨w.heap.size,0,none⟩) n n) :=
  ⟨.inl ⟨rfl,rfl⟩,hb.mono hs.below.size,fun c hc _ => hb.block c hc,fun c hc => .inr (by cases hc;exact Nat.le_refl _)⟩
 have hn65 : n ≤ 65536 := by
  rcases Nat.eq_zero_or_pos k with h | h
  ·
   exact absurd (by rw [h,Nat.mul_zero]) hpos
  ·
   exact Nat.le_trans (Nat.le_mul_of_pos_right n h) hsm
 have hG := SimG.obj hs hst (fun hl => ⟨cs'.toList,by
   rw [upd_same,← hnl]
   refine ⟨by simpa using hcl,.inr ⟨w.heap.size,n,cs',rfl,hs.below.size,heap_alloc_new w _,Nat.le_refl _,by unfold maxLen;omega,hcl,?_⟩⟩
   rw [List.take_of_length_le (by simp [hcl])],h5.2.1,hrs,fun i j r x v hi hj hv => by
   have hf := flat_get hrs hi hj
   exact (h5.2.2 _ v x hf hv).step hl.ext hl.own⟩) trivial
 have hex : (execOp a.eval ⟨some d,.buildSlice t n ⟨ps⟩,ty,pos,af,gd⟩).run cx.P w = .ok (.value (.slice (some ⟨w.heap.size,0,none⟩) n n)) (w.alloc (.cells cs' e)) := by
  simp only [execOp,List.map_toArray,Sem.run_bind,hrun,Result.andThen_ok,Sem.run_pure]
 refine wp_val rfl hex (hK _ _ ?_)
 refine Sim.eqv (Sim.put hG hn (Below.refl _ _) (av := .own nx n) ⟨.of get_cons_same,fun e' k' rows' hg => ?_⟩ (Nat.lt_succ_self nx)) fun q => ?_
 ·
  rw [get_cons_same] at hg
  simp only [Val.ob.injEq,Ob.arr.injEq] at hg
  obtain ⟨_,_,rfl⟩ := hg
  exact ⟨by omega,fun _ => (upd_same _ _ _).symm⟩
 cases q with
 | s i =>
  by_cases hi : i = d
  ·
   subst hi;rw [get_cons_same];exact get_cons_same.symm
  ·
   rw [get_cons_ne (by simpa using fun e => hi e.symm),objSt_s]
   exact ((get_cons_ne (by simpa using fun e => hi e.symm)).trans ((get_cons_ne (by simp)).trans (get_cons_ne (by simp)))).symm
 | o i =>
  rw [get_cons_ne (by simp)]
  by_cases hi : i = nx
  ·
   subst hi;rw [get_cons_same];exact ((get_cons_ne (by simp)).trans get_cons_same).symm
  ·
   rw [objSt_o hi]
   exact ((get_cons_ne (by simp)).trans ((get_cons_ne (by simpa using fun e => hi e.symm)).trans (get_cons_ne (by simp)))).symm
 | nx =>
  rw [get_cons_ne (by simp),objSt_nx]
  exact ((get_cons_ne (by simp)).trans ((get_cons_ne (by simp)).trans get_cons_same)).symm
theorem a_bsO {t e n k n0 : Nat} {ps : List (Nat × Operand)} (rs : List (List D)) {l : List (Key × Val)} {ti te : TI} (hn0 : get σ .nx = .num n0) (ht : tget cx.T t = some ti) (hk : ti.kind = .sl e k)
  (hte : tget cx.T e = some te) (h1 : (te.zero.all Value.oneCell') = true) (hrs : (rs.all fun r => Nat.beq r.length k) = true) (hnl : n = rs.length) (hsm : Nat.ble (n * k) 65536 = true) (hpos : Nat.blt 0 (n * k) = true)
  (hd : Nat.blt d cx.n = true) (hp : PartsE σ ps (numb 0 rs) l) : OA cx σ ⟨some d,.buildSlice t n ⟨ps⟩,ty,pos,af,gd⟩ ⟨(.nx,.num n0) :: l,[(.s d,.av (.own n0 n)),(.o n0,.ob (.arr e k rs)),(.nx,.num (n0 + 1))]⟩ :=
 ⟨ok_bsO (lt_of_blt hd) ht hk hte (fun c hc => List.all_eq_true.1 h1 c hc) hp.out.1 (fun r hr => by simpa using List.all_eq_true.1 hrs r hr) hnl (by simpa using hsm) (Nat.ne_of_gt (lt_of_blt hpos)),hn0,hp.out.2⟩
end Go.AX
namespace Go.AX
open Go.RowKit Go.Lib
variable {cx : Cx} {g : Nat → Value} {σ σ' : St} {a : Act} {w w' : World} {nx : Nat}
variable {ty : TypeId} {pos : String} {af : Array Edge} {gd : Option (Nat × Bool)} {d : Nat}
def byteD (c : UInt8) : List D := [.v (.int .u8 c.toNat)]
theorem a_appstr {t t2 e id n : Nat} {x y : Operand} {rows : List (List D)} {s : List UInt8} {ti te si : TI} (hx : ev σ x = some (.own id n)) (ho : get σ (.o id) = .ob (.arr e 1 rows)) (hy : ev σ y = some (.d (.v (str s)))) (ht : tget cx.T t = some ti) (hk : ti.kind = .sl e 1)
  (hte : tget cx.T e = some te) (hzz : ∀ w,(zeroValue e).run cx.P w = .ok (.int .u8 0) w) (hb1 : te.bytes = 1) (hn1 : te.n = 1) (ht2 : tget cx.T t2 = some si) (hk2 : si.kind = .str) (hd : Nat.blt d cx.n = true) (hnn : n = rows.length) (hlen : rows.length + s.length ≤ 1073741824) :
  OA cx σ ⟨some d,.call { callee := .builtin .append,args := #[x,y],argTypes := #[t,t2] },ty,pos,af,gd⟩
   ⟨rdOf x (.own id n) ++ (rdOf y (.d (.v (str s))) ++ [(.o id,.ob (.arr e 1 rows))]),[(.s d,.av (.own id (n + s.length))),(.o id,.ob (.arr e 1 (rows ++ s.map byteD)))]⟩ := by
 refine ⟨?_,(ev_out hx).2.append ((ev_out hy).2.append ⟨ho,trivial⟩)⟩
 rintro σ1 a w K Q ⟨g,nx,hs⟩ hr hK
 subst hnn
 have ho1 : get σ1 (.o id) = .ob (.arr e 1 rows) := hr.right.right.1
 have hv : a.eval x = g id := ((hs.ev (ev_out hx).1 hr.left).1.2 e 1 rows ho1).2 rfl
 have hyv : a.eval y = str s := rd_v (hs.ev (ev_out hy).1 hr.right.left).1
 obtain ⟨hid,⟨xs,h1,h2,h3,h4⟩,_⟩ := hs.objs id _ ho1
 have hF := (cx.hT t ti ht).kind
 rw [hk] at hF
 obtain ⟨hu,⟨ie,hie,hks⟩,hk0,_⟩ := hF
 have hF2 := (cx.hT t2 si ht2).kind
 rw [hk2] at hF2
 obtain ⟨hu2,_⟩ := hF2
 obtain ⟨ie',hie',hes,heb,z,hz,hzc⟩ := (cx.hT e te hte).info
 rw [hie] at hie'
 cases hie'
 have hzv : z = .int .u8 0 := by
  have := hzz w
  simp [zeroValue,typeInfo,hie,hz] at this
  exact this
 subst hzv
 have hsz : (⟨s.toArray⟩ : ByteArray).size = s.length := by show s.toArray.size = _;simp
 obtain ⟨v',w',hrun,hown,hgr,_⟩ := run_append_own_string (P := cx.P) w cx.w0.heap.size t t2 ty e ie hu hu2 hie hz hks (by rw [heb,hb1]) (g id) rows.length xs h1 ⟨s.toArray⟩ (by simp only [maxLen];omega) (by omega) hs.below.size
 rw [hsz] at hown
 have hst0 : strCells ⟨s.toArray⟩ = s.map fun b => Value.int .u8 b.toNat := by simp [strCells]
 -- where it lies now
 have hat : (v'.ownBlock = (g id).ownBlock ∨ v'.ownBlock = some w.heap.size) ∧ (s.length = 0 → v' = g id) := by
  rcases h1.2 with ⟨e1,e2⟩ | ⟨gb,cap,cur,e1,hbg,hg,hnc,hcm,hcs,htake⟩
  ·
   by_cases h0 : s.length = 0
   ·
    have hs0 : s = [] := List.eq_nil_of_length_eq_zero h0
    subst hs0
    have hr2 : (Builtin.append_ #[t,t2] ty #[g id,.string ⟨#[]⟩]).run cx.P w = .ok (.slice none 0 0) w := by
     rw [e1]
     have hf := run_firstCells_string (P := cx.P) w 1 ⟨#[]⟩
     have hz2 : (⟨#[]⟩ : ByteArray).size = 0 := rfl
     rw [hz2] at hf
     simp [Builtin.append_,run_underlying hu,run_underlying hu2,sizeOf,typeInfo,hie,hks,Builtin.lenOf,hz2,hf]
    have hr3 : (Builtin.append_ #[t,t2] ty #[g id,.string ⟨#[]⟩]).run cx.P w = .ok v' w' := hrun
    rw [hr2] at hr3
    cases hr3
    exact ⟨.inl (by rw [e1]),fun _ => e1.symm⟩
   ·
    have hr2 := run_append_nil_string (P := cx.P) w t t2 ty e ie (.int .u8 0) hu hu2 hie hz ⟨s.toArray⟩ (by omega) (by omega) (by rw [heb,hb1];omega)
    rw [e1] at hrun
    rw [hr2] at hrun
    cases hrun
    exact ⟨.inr rfl,fun h => absurd h h0⟩
  ·
   have hcs' : cur.size = cap := by simpa using hcs
   by_cases hroom : rows.length + s.length ≤ cap
   ·
    have hr2 := run_append_room_string (P := cx.P) w t t2 ty e ie hu hu2 hie hks gb rows.length cap cur hg ⟨s.toArray⟩ (by rw [hsz];exact hroom) (by rw [hsz,hcs'];exact hroom)
    rw [e1] at hrun
    rw [hr2] at hrun
    cases hrun
    exact ⟨.inl (by rw [e1];rfl),fun h => by rw [e1,hsz,h];rfl⟩
   ·
    have holds : ∀ j u,xs[j]? = some u → w.cell? ((⟨gb,0,none⟩ : Addr).add j) = some u := h1.cells (g := gb) (by rw [e1];rfl)
    have hr2 := run_append_grow_string (P := cx.P) w t t2 ty e ie (.int .u8 0) hu hu2 hie hz ⟨gb,0,none⟩ rows.length cap xs (by rw [hks];exact h1.1) holds ⟨s.toArray⟩ (by rw [hsz];omega) (by omega) (by rw [heb,hb1];exact growslice_fits (by omega) (by omega))
    rw [e1] at hrun
    rw [hr2] at hrun
    cases hrun
    exact ⟨.inr rfl,fun h => by omega⟩
 have hgb : ∀ b,blk (g id) = some b ↔ (g id).ownBlock = some b := fun b => by rw [blk_own h1]
 have hst : ObjStep cx σ1 g nx nx w w' id (.arr e 1 (rows ++ s.map byteD)) v' := by
  refine ⟨.inr ⟨rfl,_,ho1,rfl,rfl,by simp,fun h => ?_⟩,?_,fun b hb hno => ?_,fun b hb => ?_⟩
  ·
   rw [List.length_append,List.length_map] at h
   rw [upd_same]
   exact hat.2 (by omega)
  ·
   exact (Below.refl _ _).grown hgr hs.below.size fun q hq => obj_ge hs ho1 (by rw [hgb];exact hq)
  ·
   exact hgr.block b hb fun e => hno _ ho1 (by rw [hgb];exact e.symm)
  ·
   have hb' : v'.ownBlock = some b := by rw [← blk_own hown];exact hb
   rcases hat.1 with h | h
   ·
    exact .inl ⟨_,ho1,by rw [hgb,← h];exact hb'⟩
   ·
    rw [h] at hb'
    right
    simp at hb'
    omega
 have hG := SimG.obj hs hst (fun hl => ⟨xs ++ strCells ⟨s.toArray⟩,by rw [upd_same,List.length_append,List.length_map];exact hown,fun u hu => ?_,fun r hr' => ?_,fun i j r q u hi hj hu => ?_⟩) trivial
 ·
  refine wp_val rfl (v := v') (w' := w') ?_ (hK _ _ (Sim.eqv (Sim.put hG (lt_of_blt hd) (Below.refl _ _) (av := .own id (rows.length + s.length)) ⟨.of get_cons_same,fun e' k' rows' hg => ?_⟩ hid) fun q => ?_))
  ·
   have : (Builtin.append_ #[t,t2] ty #[a.eval x,a.eval y]).run cx.P w = .ok v' w' := by rw [hv,hyv];exact hrun
   simp [execOp,resolve,invoke,builtin,this]
  ·
   rw [get_cons_same] at hg
   cases hg
   exact ⟨by simp,fun _ => (upd_same _ _ _).symm⟩
  ·
   cases q with
   | s i =>
    by_cases hi : i = d
    ·
     subst hi;rw [get_cons_same];exact get_cons_same.symm
    ·
     rw [get_cons_ne (by simpa using fun e => hi e.symm),objSt_s]
     exact ((get_cons_ne (by simpa using fun e => hi e.symm)).trans (get_cons_ne (by simp))).symm
   | o i =>
    rw [get_cons_ne (by simp)]
    by_cases hi : i = id
    ·
     subst hi
     rw [get_cons_same]
     exact ((get_cons_ne (by simp)).trans get_cons_same).symm
    ·
     rw [objSt_o hi]
     exact ((get_cons_ne (by simp)).trans (get_cons_ne (by simpa using fun e => hi e.symm))).symm
   | nx =>
    rw [get_cons_ne (by simp),objSt_nx]
    exact (((get_cons_ne (by simp)).trans (get_cons_ne (by simp))).trans hs.hnx).symm
 ·
  rcases List.mem_append.1 hu with hu | hu
  ·
   exact h2 u hu
  ·
   exact strCells_oneCell _ u hu
 ·
  rcases List.mem_append.1 hr' with hr' | hr'
  ·
   exact h3 r hr'
  ·
   obtain ⟨c,_,rfl⟩ := List.mem_map.1 hr'
   rfl
 ·
  have hxl : xs.length = rows.length := by have := h1.1;omega
  rcases Nat.lt_or_ge i rows.length with hil | hil
  ·
   rw [List.getElem?_append_left hil] at hi
   have hjk : j < 1 := by
    have := (List.getElem?_eq_some_iff.1 hj).1
    rw [h3 r (List.mem_of_getElem? hi)] at this
    exact this
   rw [List.getElem?_append_left (by omega)] at hu
   exact (h4 i j r q u hi hj hu).step hl.ext hl.own
  ·
   rw [List.getElem?_append_right hil,List.getElem?_map,Option.map_eq_some_iff] at hi
   obtain ⟨c,hc,rfl⟩ := hi
   have hj0 : j = 0 := by
    have := (List.getElem?_eq_some_iff.1 hj).1
    simp [byteD] at this
    exact this
   subst hj0
   simp [byteD] at hj
   subst hj
   rw [List.getElem?_append_right (by omega),hst0,List.getElem?_map,show i * 1 + 0 - xs.length = i - rows.length by omega,hc] at hu
   obtain rfl : Value.int .u8 c.toNat = u := by simpa using hu
   exact Rd.v _
theorem foldl_push : ∀ (s : List UInt8) (b : ByteArray),(s.map fun c => (c.toNat : Int)).foldl (fun r n => r.push (UInt8.ofNat n.toNat)) b = ⟨(b.data.toList ++ s).toArray⟩
 | [],b => by simp
 | c :: s,b => by
  rw [List.map_cons,List.foldl_cons,foldl_push s]
  congr 1
  have : UInt8.ofNat (c.toNat : Int).toNat = c := by
   apply UInt8.toNat_inj.1
   rw [Int.toNat_natCast,UInt8.toNat_ofNat']
   have := c.toNat_lt
   omega
  rw [this]
  simp [ByteArray.push]
theorem a_b2s {t t2 e : Nat} {x : Operand} {s : List UInt8} {ti te si : TI} (hx : ev σ x = some (.d (.sl 1 (s.map byteD)))) (ht : tget cx.T t = some ti) (hk : ti.kind = .sl e 1) (hte : tget cx.T e = some te) (hke : te.kind = .int .u8) (ht2 : tget cx.T t2 = some si) (hk2 : si.kind = .str) (hd : Nat.blt d cx.n = true) :
  OA cx σ ⟨some d,.convert t t2 x,ty,pos,af,gd⟩ ⟨rdOf x (.d (.sl 1 (s.map byteD))),[(.s d,.av (.d (.v (str s))))]⟩ := by
 refine ⟨ok_val rfl (lt_of_blt hd) fun σ1 a w g nx hs hr => ⟨str s,w,?_,Below.refl _ _,Rd.v _,trivial⟩,(ev_out hx).2⟩
 have hr1 : Rd w (cx.own g σ1) (a.eval x) (.sl 1 (s.map byteD)) := (hs.ev (ev_out hx).1 hr).1
 have hF := (cx.hT t ti ht).kind
 rw [hk] at hF
 obtain ⟨hu,_⟩ := hF
 have hF2 := (cx.hT t2 si ht2).kind
 rw [hk2] at hF2
 obtain ⟨hu2,_⟩ := hF2
 have hF3 := (cx.hT e te hte).kind
 rw [hke] at hF3
 obtain ⟨hu3,_⟩ := hF3
 have key : ∃ ad l c,a.eval x = .slice ad l c ∧ (Conv.bytesToString (.slice ad l c)).run cx.P w = .ok (str s) w := by
  by_cases h0 : s = []
  ·
   subst h0
   generalize a.eval x = v at hr1
   generalize hD : D.sl 1 (List.map byteD []) = D0 at hr1
   cases hr1 with
   | v => cases hD
   | x => cases hD
   | agg => cases hD
   | nil p c =>
    refine ⟨p,0,c,rfl,?_⟩
    cases p with
    | none => simp [Conv.bytesToString];rfl
    | some ad => exact run_bytesToString w ad 0 c [] (run_loadCells_list w ad [] (fun j v h => by simp at h))
   | sl ad cap k rows hb hs2 =>
    cases hD
    refine ⟨some ad,_,cap,rfl,?_⟩
    exact run_bytesToString w ad 0 cap [] (run_loadCells_list w ad [] (fun j v h => by simp at h))
  ·
   obtain ⟨ad,c,news,h1,h2,h3,h4,h5⟩ := sl_cells hr1 (by simpa using h0)
   refine ⟨some ad,_,c,h1,?_⟩
   have hnews : news = (s.map fun c => (c.toNat : Int)).map (Value.int .u8) := by
    refine List.ext_getElem? fun j => ?_
    rw [List.map_map,List.getElem?_map]
    cases hj : s[j]? with
    | none =>
     have := List.getElem?_eq_none_iff.1 hj
     rw [List.getElem?_eq_none (by rw [h2,List.length_map];omega)];rfl
    | some b =>
     have hlt := (List.getElem?_eq_some_iff.1 hj).1
     obtain ⟨u,hu⟩ : ∃ u,news[j]? = some u := ⟨news[j]'(by rw [h2,List.length_map];omega),List.getElem?_eq_getElem _⟩
     have := h5 j 0 (byteD b) (.v (.int .u8 b.toNat)) u (by rw [List.getElem?_map,hj];rfl) rfl (by rw [show j * 1 + 0 = j by omega];exact hu)
     rw [hu,rd_v this];rfl
   have hl : (loadCells ad (s.map byteD).length).run cx.P w = .ok ((s.map fun c => (c.toNat : Int)).map (Value.int .u8)).toArray w := by
    have := run_loadCells_list (P := cx.P) w ad news h3
    rw [hnews] at this
    simpa using this
   have := run_bytesToString w ad (s.map byteD).length c _ hl
   rw [foldl_push] at this
   exact this
 obtain ⟨ad,l,c,h1,h2⟩ := key
 have hc := run_convert_bytes_string (P := cx.P) w t t2 e ad l c hu hu3 hu2
 simp [execOp,h1,hc,h2]
theorem wrap_u8_in {n : Int} (h : 0 ≤ n ∧ n ≤ 255) : IntKind.u8.wrap n = n := by
 rw [IntKind.wrap_u8];omega
theorem bin_shr8 {P : Program} {t : TypeId} {k : IntKind} {n : Int} : BinR P .shr t (.int .i64 n) (.int k 8) (.int .i64 (n / 256)) := by
 intro w x y
 rw [eqGuard_shr,binOp_shr,shift_shr .i64 k n 8 (by omega) (by decide)]
 rfl
theorem bin_shl8 {P : Program} {t : TypeId} {k : IntKind} {n : Nat} (h : n < 256) : BinR P .shl t (.int .i64 n) (.int k 8) (.int .i64 ((n : Int) * 256)) := by
 intro w x y
 have : IntKind.i64.wrap ((n : Int) * 2 ^ min (8 : Int).toNat IntKind.i64.bits) = (n : Int) * 256 := by
  rw [show (2 : Int) ^ min (8 : Int).toNat IntKind.i64.bits = 256 by decide]
  exact wrap_in (by omega)
 rw [eqGuard_shl,binOp_shl,shift_shl_any .i64 k n 8 (by omega),this]
 rfl
theorem bin_or8 {P : Program} {t : TypeId} {n m : Nat} (h : n < 256) (hm : m < 256) : BinR P .or t (.int .i64 ((n : Int) * 256)) (.int .i64 (m : Int)) (.int .i64 ((n : Int) * 256 + m)) := by
 intro w x y
 have h1 : (BitVec.ofInt IntKind.i64.bits ((n : Int) * 256)).toNat = n * 256 := by
  rw [BitVec.toNat_ofInt,show IntKind.i64.bits = 64 from rfl];omega
 have h2 : (BitVec.ofInt IntKind.i64.bits (m : Int)).toNat = m := by
  rw [BitVec.toNat_ofInt,show IntKind.i64.bits = 64 from rfl];omega
 have h3 : n * 256 ||| m = n * 256 + m := by
  have := Nat.shiftLeft_add_eq_or_of_lt (i := 8) (b := m) (by omega) n
  rw [Nat.shiftLeft_eq] at this
  exact this.symm
 have h4 : (BitVec.ofInt IntKind.i64.bits ((n : Int) * 256) ||| BitVec.ofInt IntKind.i64.bits (m : Int)).toNat = n * 256 + m := by rw [BitVec.toNat_or,h1,h2,h3]
 have h5 : IntKind.i64.wrap ((n * 256 + m : Nat) : Int) = (n : Int) * 256 + m := by rw [wrap_in (by omega)];omega
 rw [eqGuard_or,binOp_or]
 unfold Op.intBits
 simp only [h4,h5]
 rfl
end Go.AX
namespace Go.Proofs.YtmnociojijpdmaaGreatDoor
open Go.AX Go.RF
abbrev u8s : Sh := .num .u8
theorem dec_byte {m : Nat} {d : D} (h : Fits u8s m d) : ∃ c : UInt8,d = .v (.int .u8 c.toNat) := by
 cases h with
 | num k n m h =>
  have hn : 0 ≤ n ∧ n ≤ 255 := by simpa [Lit.wf,IntKind.min,IntKind.max,IntKind.signed,IntKind.bits] using h
  refine ⟨UInt8.ofNat n.toNat,?_⟩
  have : ((UInt8.ofNat n.toNat).toNat : Int) = n := by
   rw [UInt8.toNat_ofNat',Nat.mod_eq_of_lt (by omega)];omega
  rw [this]
end Go.Proofs.YtmnociojijpdmaaGreatDoor
namespace Go.RF
open Go.AX
def splitF (sep : Str) : Nat → Str → Str → List Str
 | 0,cur,r => [cur ++ r]
 | n + 1,cur,r =>
  if r.length < sep.length then [cur ++ r]
  else if r.take sep.length = sep then cur :: splitF sep n [] (r.drop sep.length)
  else match r with
   | [] => [cur]
   | c :: t => splitF sep n (cur ++ [c]) t
def split (s sep : Str) : List Str := splitF sep s.length [] s
theorem splitF_ne (sep : Str) : ∀ (n : Nat) (cur r : Str),splitF sep n cur r ≠ []
 | 0,cur,r => by simp [splitF]
 | n + 1,cur,r => by
  simp only [splitF]
  split
  ·
   simp
  split
  ·
   simp
  cases r with
  | nil => simp
  | cons c t => exact splitF_ne sep n _ _
def words : List Str := [[],[108,111,97,100],[99,111,110,115,116],[97,100,100],[115,117,98],[109,117,108],[115,116,111,114,101],[100,114,111,112],[115,107,105,112],[102,97,105,108]]
def kindGo (w : Str) : Nat → Int → List Str → Int
 | _,k,[] => k
 | n,k,x :: r => kindGo w (n + 1) (if 0 < n ∧ x = w then (n : Int) else k) r
def kindOf (w : Str) : Int := kindGo w 0 0 words
def numV (s : Str) : Option Int := match Lib.atoiAll s with
 | .ok v => if Lib.itoa v = s then some v else none
 | _ => none
def regV (s : Str) : Option Int := match s with
 | 114 :: r => numV r
 | _ => none
def fillI : Ins → Str → List Str → Option Ins
 | i,[],_ => some i
 | i,_ :: _,[] => some i
 | i,c :: f,w :: ws =>
  if c = 107 then fillI { i with key := w } f ws
  else if c = 110 then match numV w with
   | some n => fillI { i with n := n } f ws
   | none => none
  else match regV w with
   | some x => if c = 114 then fillI { i with a := x } f ws else fillI { i with b := x } f ws
   | none => none
def insP (l : List Str) : Option Ins := match l with
 | [] => none
 | w :: ws => if kindOf w = 0 then none else if ws.length = (form (kindOf w).toNat).length then fillI ⟨kindOf w,0,0,0,[]⟩ (form (kindOf w).toNat) ws else none
def insAll : List Str → Option (List Ins)
 | [] => some []
 | p :: r => match insP (split p [32]),insAll r with
  | some i,some l => some (i :: l)
  | _,_ => none
def parseD (s : Str) : Option Deed :=
 if 400 < s.length then none else match split s [59,32] with
  | p0 :: p1 :: ps => match split p0 [32],split p1 [32],insAll ps with
   | w0 :: rs,w1 :: ws,some code => if w0 = [114,101,97,100,115] ∧ w1 = [119,114,105,116,101,115] ∧ wrongDeed ⟨rs,ws,code⟩ = 0 then some ⟨rs,ws,code⟩ else none
   | _,_,_ => none
  | _ => none
def noDeed : Deed := ⟨[],[],[]⟩
def insE (l : List Str) : Except Int Ins := match l with
 | [] => .error 1
 | w :: ws => if kindOf w = 0 then .error 1 else if ws.length = (form (kindOf w).toNat).length then (match fillI ⟨kindOf w,0,0,0,[]⟩ (form (kindOf w).toNat) ws with
  | some i => .ok i
  | none => .error 2) else .error 2
def codeE : List Str → Except Int (List Ins)
 | [] => .ok []
 | p :: r => match insE (split p [32]) with
  | .error e => .error e
  | .ok i => match codeE r with
   | .error e => .error e
   | .ok l => .ok (i :: l)
def wReads : Str := [114,101,97,100,115]
def wWrites : Str := [119,114,105,116,101,115]
def parseE (s : Str) : Except Int Deed :=
 if 400 < s.length then .error 4 else match split s [59,32] with
  | p0 :: p1 :: ps => if (split p0 [32]).head? = some wReads then (if (split p1 [32]).head? = some wWrites then (match codeE ps with
    | .error e => .error e
    | .ok code => if wrongDeed ⟨(split p0 [32]).tail,(split p1 [32]).tail,code⟩ = 0 then .ok ⟨(split p0 [32]).tail,(split p1 [32]).tail,code⟩ else .error (wrongDeed ⟨(split p0 [32]).tail,(split p1 [32]).tail,code⟩)) else .error 2) else .error 2
  | _ => .error 8
def resE : Except Int Deed → Deed × Int
 | .ok d => (d,0)
 | .error e => (noDeed,e)
def parseR (s : Str) : Deed × Int := resE (parseE s)
def fieldW (i : Ins) (c : UInt8) : Str := if c = 114 then 114 :: Lib.itoa i.a else if c = 115 then 114 :: Lib.itoa i.b else if c = 110 then Lib.itoa i.n else i.key
def insW (i : Ins) : List Str := words.getD i.kind.toNat [] :: (form i.kind.toNat).map (fieldW i)
def joinS (sep : Str) : List Str → Str
 | [] => []
 | [w] => w
 | w :: r => w ++ (sep ++ joinS sep r)
def partsD (d : Deed) : List Str := joinS [32] (wReads :: d.reads) :: joinS [32] (wWrites :: d.writes) :: d.code.map fun i => joinS [32] (insW i)
def printD (d : Deed) : Str := joinS [59,32] (partsD d)
def finE (rs ws : List Str) (acc : List Ins) (rest : List Str) : Except Int Deed := match codeE rest with
 | .error e => .error e
 | .ok cs => if wrongDeed ⟨rs,ws,acc ++ cs⟩ = 0 then .ok ⟨rs,ws,acc ++ cs⟩ else .error (wrongDeed ⟨rs,ws,acc ++ cs⟩)
theorem parseE_fin {s p0 p1 w0 w1 : Str} {ps rs ws : List Str} (hs : s.length ≤ 400) (h : split s [59,32] = p0 :: p1 :: ps) (h0 : split p0 [32] = w0 :: rs) (h1 : split p1 [32] = w1 :: ws) :
  parseE s = if w0 = wReads then (if w1 = wWrites then finE rs ws [] ps else .error 2) else .error 2 := by
 unfold parseE finE
 rw [if_neg (by omega),h]
 simp only [h0,h1,List.head?_cons,List.tail_cons,List.nil_append,Option.some.injEq]
theorem finE_cons {rs ws : List Str} {acc : List Ins} {p : Str} {rest : List Str} : finE rs ws acc (p :: rest) = match insE (split p [32]) with
  | .error e => .error e
  | .ok i => finE rs ws (acc ++ [i]) rest := by
 unfold finE
 simp only [codeE]
 cases insE (split p [32]) with
 | error e => rfl
 | ok i =>
  cases codeE rest with
  | error e => rfl
  | ok l => simp only [List.append_assoc,List.singleton_append]
theorem insE_fill {w : Str} {ws : List Str} (h0 : kindOf w ≠ 0) (hl : ws.length = (form (kindOf w).toNat).length) : insE (w :: ws) = match fillI ⟨kindOf w,0,0,0,[]⟩ (form (kindOf w).toNat) ws with
  | some i => .ok i
  | none => .error 2 := by
 simp only [insE]
 rw [if_neg h0,if_pos hl]
end Go.RF
namespace Go.Proofs.YtmnociojijpdmaaGreatDoor
open Go.AX
def tbl : Tbl := [
 (1,⟨1,8,[.nilFunc],.one⟩),
 (2,⟨1,8,[.int .i64 0],.int .i64⟩),
 (3,⟨1,8,[.int .i64 0],.int .i64⟩),
 (4,⟨1,1,[.bool false],.bool⟩),
 (5,⟨1,1,[.int .u8 0],.int .u8⟩),
 (9,⟨1,16,[.string ⟨#[]⟩],.str⟩),
 (12,⟨1,8,[.int .u64 0],.int .u64⟩),
 (13,⟨2,24,[.string ⟨#[]⟩,.int .u64 0],.st [(0,1),(1,1)]⟩),
 (21,⟨1,4,[.int .i32 0],.int .i32⟩),
 (22,⟨1,24,[.slice none 0 0],.sl 26 2⟩),
 (23,⟨1,24,[.slice none 0 0],.sl 3 1⟩),
 (24,⟨1,24,[.slice none 0 0],.sl 72 3⟩),
 (25,⟨2,32,[.int .i64 0,.slice none 0 0],.st [(0,1),(1,1)]⟩),
 (26,⟨2,32,[.int .i64 0,.slice none 0 0],.st [(0,1),(1,1)]⟩),
 (27,⟨1,24,[.slice none 0 0],.sl 127 2⟩),
 (28,⟨1,24,[.slice none 0 0],.sl 88 5⟩),
 (29,⟨5,104,[.slice none 0 0,.slice none 0 0,.slice none 0 0,.slice none 0 0,.int .i64 0],.st [(0,1),(1,1),(2,1),(3,1),(4,1)]⟩),
 (30,⟨5,104,[.slice none 0 0,.slice none 0 0,.slice none 0 0,.slice none 0 0,.int .i64 0],.st [(0,1),(1,1),(2,1),(3,1),(4,1)]⟩),
 (31,⟨7,136,[.slice none 0 0,.slice none 0 0,.slice none 0 0,.slice none 0 0,.int .i64 0,.int .i64 0,.slice none 0 0],.st [(0,5),(5,1),(6,1)]⟩),
 (32,⟨7,136,[.slice none 0 0,.slice none 0 0,.slice none 0 0,.slice none 0 0,.int .i64 0,.int .i64 0,.slice none 0 0],.st [(0,5),(5,1),(6,1)]⟩),
 (33,⟨1,8,[.nilFunc],.one⟩),
 (34,⟨1,8,[.nilFunc],.one⟩),
 (35,⟨1,8,[.nilFunc],.one⟩),
 (36,⟨1,8,[.nilFunc],.one⟩),
 (37,⟨1,8,[.int .i64 0],.int .i64⟩),
 (38,⟨1,8,[.nilFunc],.one⟩),
 (40,⟨1,8,[.nilFunc],.one⟩),
 (41,⟨1,8,[.nilFunc],.one⟩),
 (42,⟨1,8,[.nilFunc],.one⟩),
 (44,⟨1,8,[.nilFunc],.one⟩),
 (45,⟨1,8,[.nilFunc],.one⟩),
 (46,⟨1,24,[.slice none 0 0],.sl 98 2⟩),
 (47,⟨1,24,[.slice none 0 0],.sl 98 2⟩),
 (49,⟨1,8,[.nilFunc],.one⟩),
 (50,⟨1,8,[.nilFunc],.one⟩),
 (51,⟨1,8,[.nilFunc],.one⟩),
 (52,⟨1,8,[.nilFunc],.one⟩),
 (53,⟨1,8,[.nilFunc],.one⟩),
 (54,⟨1,24,[.slice none 0 0],.sl 5 1⟩),
 (55,⟨1,8,[.nilFunc],.one⟩),
 (56,⟨1,8,[.nilFunc],.one⟩),
 (57,⟨1,8,[.nilFunc],.one⟩),
 (58,⟨1,8,[.nilFunc],.one⟩),
 (60,⟨1,8,[.nilFunc],.one⟩),
 (61,⟨1,8,[.nilFunc],.one⟩),
 (62,⟨1,8,[.nilFunc],.one⟩),
 (63,⟨1,8,[.nilFunc],.one⟩),
 (64,⟨1,8,[.nilFunc],.one⟩),
 (65,⟨1,8,[.nilFunc],.one⟩),
 (66,⟨1,8,[.nilFunc],.one⟩),
 (67,⟨1,8,[.nilFunc],.one⟩),
 (68,⟨1,8,[.nilFunc],.one⟩),
 (69,⟨1,24,[.slice none 0 0],.sl 9 1⟩),
 (70,⟨1,24,[.slice none 0 0],.sl 118 5⟩),
 (71,⟨3,72,[.slice none 0 0,.slice none 0 0,.slice none 0 0],.st [(0,1),(1,1),(2,1)]⟩),
 (72,⟨3,72,[.slice none 0 0,.slice none 0 0,.slice none 0 0],.st [(0,1),(1,1),(2,1)]⟩),
 (73,⟨1,8,[.nilFunc],.one⟩),
 (74,⟨1,8,[.nilFunc],.one⟩),
 (75,⟨1,8,[.nilFunc],.one⟩),
 (76,⟨1,8,[.nilFunc],.one⟩),
 (77,⟨1,8,[.pointer none],.one⟩),
 (78,⟨1,8,[.nilFunc],.one⟩),
 (79,⟨1,8,[.nilFunc],.one⟩),
 (80,⟨1,8,[.nilFunc],.one⟩),
 (81,⟨1,8,[.nilFunc],.one⟩),
 (82,⟨4,24,[.int .i64 0,.bool false,.bool false,.int .i64 0],.st [(0,1),(1,1),(2,1),(3,1)]⟩),
 (83,⟨4,24,[.int .i64 0,.bool false,.bool false,.int .i64 0],.st [(0,1),(1,1),(2,1),(3,1)]⟩),
 (84,⟨1,8,[.nilFunc],.one⟩),
 (85,⟨1,8,[.nilFunc],.one⟩),
 (86,⟨4,32,[.int .i64 0,.int .i64 0,.int .i64 0,.int .i64 0],.arr 4 3 1⟩),
 (87,⟨5,40,[.bool false,.int .i64 0,.int .i64 0,.int .i64 0,.int .i64 0],.st [(0,1),(1,4)]⟩),
 (88,⟨5,40,[.bool false,.int .i64 0,.int .i64 0,.int .i64 0,.int .i64 0],.st [(0,1),(1,4)]⟩),
 (90,⟨1,8,[.nilFunc],.one⟩),
 (92,⟨1,8,[.nilFunc],.one⟩),
 (93,⟨1,8,[.nilFunc],.one⟩),
 (94,⟨1,8,[.nilFunc],.one⟩),
 (96,⟨1,8,[.nilFunc],.one⟩),
 (97,⟨2,24,[.string ⟨#[]⟩,.int .i64 0],.st [(0,1),(1,1)]⟩),
 (98,⟨2,24,[.string ⟨#[]⟩,.int .i64 0],.st [(0,1),(1,1)]⟩),
 (99,⟨1,8,[.nilFunc],.one⟩),
 (100,⟨1,8,[.nilFunc],.one⟩),
 (101,⟨1,8,[.nilFunc],.one⟩),
 (102,⟨1,8,[.int .u64 0],.int .u64⟩),
 (103,⟨1,8,[.nilFunc],.one⟩),
 (105,⟨1,8,[.nilFunc],.one⟩),
 (106,⟨1,8,[.nilFunc],.one⟩),
 (107,⟨1,8,[.nilFunc],.one⟩),
 (108,⟨1,8,[.nilFunc],.one⟩),
 (109,⟨1,8,[.nilFunc],.one⟩),
 (110,⟨1,8,[.nilFunc],.one⟩),
 (111,⟨1,8,[.nilFunc],.one⟩),
 (112,⟨1,8,[.nilFunc],.one⟩),
 (113,⟨1,8,[.nilFunc],.one⟩),
 (114,⟨1,24,[.slice none 0 0],.sl 69 1⟩),
 (115,⟨1,8,[.nilFunc],.one⟩),
 (116,⟨1,8,[.nilFunc],.one⟩),
 (117,⟨5,48,[.int .i64 0,.int .i64 0,.int .i64 0,.int .i64 0,.string ⟨#[]⟩],.st [(0,1),(1,1),(2,1),(3,1),(4,1)]⟩),
 (118,⟨5,48,[.int .i64 0,.int .i64 0,.int .i64 0,.int .i64 0,.string ⟨#[]⟩],.st [(0,1),(1,1),(2,1),(3,1),(4,1)]⟩),
 (119,⟨1,8,[.nilFunc],.one⟩),
 (120,⟨1,8,[.nilFunc],.one⟩),
 (121,⟨1,8,[.nilFunc],.one⟩),
 (122,⟨1,8,[.nilFunc],.one⟩),
 (123,⟨1,24,[.slice none 0 0],.sl 83 4⟩),
 (125,⟨1,8,[.nilFunc],.one⟩),
 (126,⟨2,40,[.string ⟨#[]⟩,.slice none 0 0],.st [(0,1),(1,1)]⟩),
 (127,⟨2,40,[.string ⟨#[]⟩,.slice none 0 0],.st [(0,1),(1,1)]⟩),
 (128,⟨1,8,[.nilFunc],.one⟩),
 (129,⟨1,8,[.nilFunc],.one⟩),
 (130,⟨1,8,[.nilFunc],.one⟩),
 (131,⟨1,8,[.pointer none],.one⟩),
 (132,⟨1,8,[.nilFunc],.one⟩),
 (133,⟨1,8,[.nilFunc],.one⟩),
 (134,⟨1,8,[.nilFunc],.one⟩),
 (135,⟨1,8,[.nilFunc],.one⟩),
 (136,⟨1,8,[.nilFunc],.one⟩),
 (137,⟨1,8,[.nilFunc],.one⟩),
 (138,⟨1,8,[.map none],.one⟩),
 (139,⟨1,8,[.nilFunc],.one⟩),
 (141,⟨1,8,[.nilFunc],.one⟩),
 (142,⟨1,8,[.nilFunc],.one⟩),
 (143,⟨1,8,[.nilFunc],.one⟩),
 (144,⟨1,8,[.nilFunc],.one⟩),
 (145,⟨1,8,[.nilFunc],.one⟩),
 (146,⟨1,8,[.nilFunc],.one⟩),
 (147,⟨1,8,[.nilFunc],.one⟩),
 (148,⟨1,8,[.nilFunc],.one⟩),
 (149,⟨1,8,[.nilFunc],.one⟩),
 (150,⟨1,8,[.nilFunc],.one⟩),
 (151,⟨1,8,[.nilFunc],.one⟩),
 (152,⟨1,8,[.map none],.one⟩),
 (153,⟨2,16,[.bool false,.int .i64 0],.st [(0,1),(1,1)]⟩),
 (154,⟨2,16,[.bool false,.int .i64 0],.st [(0,1),(1,1)]⟩),
 (156,⟨1,8,[.nilFunc],.one⟩),
 (157,⟨1,8,[.pointer none],.one⟩),
 (158,⟨1,8,[.pointer none],.one⟩),
 (159,⟨2,32,[.pointer none,.slice none 0 0],.st [(0,1),(1,1)]⟩),
 (160,⟨2,32,[.pointer none,.slice none 0 0],.st [(0,1),(1,1)]⟩),
 (161,⟨1,8,[.nilFunc],.one⟩),
 (165,⟨1,8,[.nilFunc],.one⟩),
 (166,⟨1,8,[.nilFunc],.one⟩),
 (167,⟨1,8,[.nilFunc],.one⟩),
 (168,⟨1,8,[.nilFunc],.one⟩),
 (169,⟨1,8,[.nilFunc],.one⟩),
 (170,⟨1,8,[.nilFunc],.one⟩),
 (172,⟨1,8,[.nilFunc],.one⟩),
 (173,⟨1,8,[.nilFunc],.one⟩),
 (174,⟨1,8,[.nilFunc],.one⟩),
 (175,⟨1,8,[.nilFunc],.one⟩),
 (176,⟨1,8,[.nilFunc],.one⟩),
 (177,⟨1,8,[.nilFunc],.one⟩),
 (178,⟨1,8,[.nilFunc],.one⟩),
 (179,⟨1,8,[.nilFunc],.one⟩),
 (180,⟨1,8,[.nilFunc],.one⟩),
 (181,⟨1,8,[.pointer none],.one⟩),
 (182,⟨1,8,[.nilFunc],.one⟩),
 (184,⟨1,8,[.nilFunc],.one⟩),
 (185,⟨1,8,[.nilFunc],.one⟩),
 (186,⟨1,8,[.nilFunc],.one⟩),
 (187,⟨1,8,[.nilFunc],.one⟩),
 (188,⟨1,8,[.int .i64 0],.int .i64⟩),
 (190,⟨1,8,[.nilFunc],.one⟩),
 (191,⟨1,8,[.nilFunc],.one⟩),
 (192,⟨1,8,[.nilFunc],.one⟩),
 (193,⟨1,8,[.nilFunc],.one⟩),
 (194,⟨1,8,[.nilFunc],.one⟩),
 (195,⟨1,8,[.nilFunc],.one⟩),
 (196,⟨1,4,[.int .u32 0],.int .u32⟩),
 (197,⟨1,8,[.nilFunc],.one⟩),
 (198,⟨1,8,[.int .u64 0],.int .u64⟩),
 (199,⟨1,8,[.nilFunc],.one⟩),
 (200,⟨256,256,[.bool false,.bool false,.bool false,.bool false,.bool false,.bool false,.bool false,.bool false,.bool false,.bool false,.bool false,.bool false,.bool false,.bool false,.bool false,.bool false,.bool false,.bool false,.bool false,.bool false,.bool false,.bool false,.bool false,.bool false,.bool false,.bool false,.bool false,.bool false,.bool false,.bool false,.bool false,.bool false,.bool false,.bool false,.bool false,.bool false,.bool false,.bool false,.bool false,.bool false,.bool false,.bool false,.bool false,.bool false,.bool false,.bool false,.bool false,.bool false,.bool false,.bool false,.bool false,.bool false,.bool false,.bool false,.bool false,.bool false,.bool false,.bool false,.bool false,.bool false,.bool false,.bool false,.bool false,.bool false,.bool false,.bool false,.bool false,.bool false,.bool false,.bool false,.bool false,.bool false,.bool false,.bool false,.bool false,.bool false,.bool false,.bool false,.bool false,.bool false,.bool false,.bool false,.bool false,.bool false,.bool false,.bool false,.bool false,.bool false,.bool false,.bool false,.bool false,.bool false,.bool false,.bool false,.bool false,.bool false,.bool false,.bool false,.bool false,.bool false,.bool false,.bool false,.bool false,.bool false,.bool false,.bool false,.bool false,.bool false,.bool false,.bool false,.bool false,.bool false,.bool false,.bool false,.bool false,.bool false,.bool false,.bool false,.bool false,.bool false,.bool false,.bool false,.bool false,.bool false,.bool false,.bool false,.bool false,.bool false,.bool false,.bool false,.bool false,.bool false,.bool false,.bool false,.bool false,.bool false,.bool false,.bool false,.bool false,.bool false,.bool false,.bool false,.bool false,.bool false,.bool false,.bool false,.bool false,.bool false,.bool false,.bool false,.bool false,.bool false,.bool false,.bool false,.bool false,.bool false,.bool false,.bool false,.bool false,.bool false,.bool false,.bool false,.bool false,.bool false,.bool false,.bool false,.bool false,.bool false,.bool false,.bool false,.bool false,.bool false,.bool false,.bool false,.bool false,.bool false,.bool false,.bool false,.bool false,.bool false,.bool false,.bool false,.bool false,.bool false,.bool false,.bool false,.bool false,.bool false,.bool false,.bool false,.bool false,.bool false,.bool false,.bool false,.bool false,.bool false,.bool false,.bool false,.bool false,.bool false,.bool false,.bool false,.bool false,.bool false,.bool false,.bool false,.bool false,.bool false,.bool false,.bool false,.bool false,.bool false,.bool false,.bool false,.bool false,.bool false,.bool false,.bool false,.bool false,.bool false,.bool false,.bool false,.bool false,.bool false,.bool false,.bool false,.bool false,.bool false,.bool false,.bool false,.bool false,.bool false,.bool false,.bool false,.bool false,.bool false,.bool false,.bool false,.bool false,.bool false,.bool false,.bool false,.bool false,.bool false,.bool false,.bool false,.bool false,.bool false,.bool false,.bool false,.bool false,.bool false,.bool false,.bool false,.bool false,.bool false],.arr 256 4 1⟩),
 (201,⟨256,256,[.bool false,.bool false,.bool false,.bool false,.bool false,.bool false,.bool false,.bool false,.bool false,.bool false,.bool false,.bool false,.bool false,.bool false,.bool false,.bool false,.bool false,.bool false,.bool false,.bool false,.bool false,.bool false,.bool false,.bool false,.bool false,.bool false,.bool false,.bool false,.bool false,.bool false,.bool false,.bool false,.bool false,.bool false,.bool false,.bool false,.bool false,.bool false,.bool false,.bool false,.bool false,.bool false,.bool false,.bool false,.bool false,.bool false,.bool false,.bool false,.bool false,.bool false,.bool false,.bool false,.bool false,.bool false,.bool false,.bool false,.bool false,.bool false,.bool false,.bool false,.bool false,.bool false,.bool false,.bool false,.bool false,.bool false,.bool false,.bool false,.bool false,.bool false,.bool false,.bool false,.bool false,.bool false,.bool false,.bool false,.bool false,.bool false,.bool false,.bool false,.bool false,.bool false,.bool false,.bool false,.bool false,.bool false,.bool false,.bool false,.bool false,.bool false,.bool false,.bool false,.bool false,.bool false,.bool false,.bool false,.bool false,.bool false,.bool false,.bool false,.bool false,.bool false,.bool false,.bool false,.bool false,.bool false,.bool false,.bool false,.bool false,.bool false,.bool false,.bool false,.bool false,.bool false,.bool false,.bool false,.bool false,.bool false,.bool false,.bool false,.bool false,.bool false,.bool false,.bool false,.bool false,.bool false,.bool false,.bool false,.bool false,.bool false,.bool false,.bool false,.bool false,.bool false,.bool false,.bool false,.bool false,.bool false,.bool false,.bool false,.bool false,.bool false,.bool false,.bool false,.bool false,.bool false,.bool false,.bool false,.bool false,.bool false,.bool false,.bool false,.bool false,.bool false,.bool false,.bool false,.bool false,.bool false,.bool false,.bool false,.bool false,.bool false,.bool false,.bool false,.bool false,.bool false,.bool false,.bool false,.bool false,.bool false,.bool false,.bool false,.bool false,.bool false,.bool false,.bool false,.bool false,.bool false,.bool false,.bool false,.bool false,.bool false,.bool false,.bool false,.bool false,.bool false,.bool false,.bool false,.bool false,.bool false,.bool false,.bool false,.bool false,.bool false,.bool false,.bool false,.bool false,.bool false,.bool false,.bool false,.bool false,.bool false,.bool false,.bool false,.bool false,.bool false,.bool false,.bool false,.bool false,.bool false,.bool false,.bool false,.bool false,.bool false,.bool false,.bool false,.bool false,.bool false,.bool false,.bool false,.bool false,.bool false,.bool false,.bool false,.bool false,.bool false,.bool false,.bool false,.bool false,.bool false,.bool false,.bool false,.bool false,.bool false,.bool false,.bool false,.bool false,.bool false,.bool false,.bool false,.bool false,.bool false,.bool false,.bool false,.bool false,.bool false,.bool false,.bool false,.bool false,.bool false,.bool false,.bool false,.bool false,.bool false,.bool false,.bool false],.arr 256 4 1⟩),
 (203,⟨1,8,[.nilFunc],.one⟩),
 (204,⟨1,8,[.nilFunc],.one⟩),
 (205,⟨1,8,[.pointer none],.one⟩),
 (207,⟨1,8,[.nilFunc],.one⟩),
 (208,⟨1,8,[.nilFunc],.one⟩),
 (209,⟨24,24,[.int .u8 0,.int .u8 0,.int .u8 0,.int .u8 0,.int .u8 0,.int .u8 0,.int .u8 0,.int .u8 0,.int .u8 0,.int .u8 0,.int .u8 0,.int .u8 0,.int .u8 0,.int .u8 0,.int .u8 0,.int .u8 0,.int .u8 0,.int .u8 0,.int .u8 0,.int .u8 0,.int .u8 0,.int .u8 0,.int .u8 0,.int .u8 0],.arr 24 5 1⟩),
 (210,⟨1,8,[.nilFunc],.one⟩),
 (212,⟨1,8,[.nilFunc],.one⟩),
 (213,⟨1,8,[.nilFunc],.one⟩),
 (214,⟨1,8,[.int .i64 0],.int .i64⟩),
 (216,⟨1,8,[.nilFunc],.one⟩),
 (217,⟨1,8,[.pointer none],.one⟩),
 (218,⟨1,8,[.nilFunc],.one⟩),
 (219,⟨1,8,[.nilFunc],.one⟩),
 (220,⟨1,8,[.nilFunc],.one⟩),
 (221,⟨1,8,[.int .u64 0],.int .u64⟩),
 (222,⟨1,8,[.nilFunc],.one⟩),
 (223,⟨1,8,[.nilFunc],.one⟩),
 (224,⟨1,8,[.nilFunc],.one⟩),
 (225,⟨1,8,[.pointer none],.one⟩),
 (226,⟨1,8,[.nilFunc],.one⟩),
 (227,⟨1,8,[.nilFunc],.one⟩),
 (228,⟨1,8,[.nilFunc],.one⟩),
 (229,⟨1,8,[.nilFunc],.one⟩),
 (230,⟨1,8,[.nilFunc],.one⟩),
 (231,⟨20,160,[.int .u64 0,.int .u64 0,.int .u64 0,.int .u64 0,.int .u64 0,.int .u64 0,.int .u64 0,.int .u64 0,.int .u64 0,.int .u64 0,.int .u64 0,.int .u64 0,.int .u64 0,.int .u64 0,.int .u64 0,.int .u64 0,.int .u64 0,.int .u64 0,.int .u64 0,.int .u64 0],.arr 20 198 1⟩),
 (232,⟨65,65,[.int .u8 0,.int .u8 0,.int .u8 0,.int .u8 0,.int .u8 0,.int .u8 0,.int .u8 0,.int .u8 0,.int .u8 0,.int .u8 0,.int .u8 0,.int .u8 0,.int .u8 0,.int .u8 0,.int .u8 0,.int .u8 0,.int .u8 0,.int .u8 0,.int .u8 0,.int .u8 0,.int .u8 0,.int .u8 0,.int .u8 0,.int .u8 0,.int .u8 0,.int .u8 0,.int .u8 0,.int .u8 0,.int .u8 0,.int .u8 0,.int .u8 0,.int .u8 0,.int .u8 0,.int .u8 0,.int .u8 0,.int .u8 0,.int .u8 0,.int .u8 0,.int .u8 0,.int .u8 0,.int .u8 0,.int .u8 0,.int .u8 0,.int .u8 0,.int .u8 0,.int .u8 0,.int .u8 0,.int .u8 0,.int .u8 0,.int .u8 0,.int .u8 0,.int .u8 0,.int .u8 0,.int .u8 0,.int .u8 0,.int .u8 0,.int .u8 0,.int .u8 0,.int .u8 0,.int .u8 0,.int .u8 0,.int .u8 0,.int .u8 0,.int .u8 0,.int .u8 0],.arr 65 5 1⟩),
 (233,⟨256,256,[.int .u8 0,.int .u8 0,.int .u8 0,.int .u8 0,.int .u8 0,.int .u8 0,.int .u8 0,.int .u8 0,.int .u8 0,.int .u8 0,.int .u8 0,.int .u8 0,.int .u8 0,.int .u8 0,.int .u8 0,.int .u8 0,.int .u8 0,.int .u8 0,.int .u8 0,.int .u8 0,.int .u8 0,.int .u8 0,.int .u8 0,.int .u8 0,.int .u8 0,.int .u8 0,.int .u8 0,.int .u8 0,.int .u8 0,.int .u8 0,.int .u8 0,.int .u8 0,.int .u8 0,.int .u8 0,.int .u8 0,.int .u8 0,.int .u8 0,.int .u8 0,.int .u8 0,.int .u8 0,.int .u8 0,.int .u8 0,.int .u8 0,.int .u8 0,.int .u8 0,.int .u8 0,.int .u8 0,.int .u8 0,.int .u8 0,.int .u8 0,.int .u8 0,.int .u8 0,.int .u8 0,.int .u8 0,.int .u8 0,.int .u8 0,.int .u8 0,.int .u8 0,.int .u8 0,.int .u8 0,.int .u8 0,.int .u8 0,.int .u8 0,.int .u8 0,.int .u8 0,.int .u8 0,.int .u8 0,.int .u8 0,.int .u8 0,.int .u8 0,.int .u8 0,.int .u8 0,.int .u8 0,.int .u8 0,.int .u8 0,.int .u8 0,.int .u8 0,.int .u8 0,.int .u8 0,.int .u8 0,.int .u8 0,.int .u8 0,.int .u8 0,.int .u8 0,.int .u8 0,.int .u8 0,.int .u8 0,.int .u8 0,.int .u8 0,.int .u8 0,.int .u8 0,.int .u8 0,.int .u8 0,.int .u8 0,.int .u8 0,.int .u8 0,.int .u8 0,.int .u8 0,.int .u8 0,.int .u8 0,.int .u8 0,.int .u8 0,.int .u8 0,.int .u8 0,.int .u8 0,.int .u8 0,.int .u8 0,.int .u8 0,.int .u8 0,.int .u8 0,.int .u8 0,.int .u8 0,.int .u8 0,.int .u8 0,.int .u8 0,.int .u8 0,.int .u8 0,.int .u8 0,.int .u8 0,.int .u8 0,.int .u8 0,.int .u8 0,.int .u8 0,.int .u8 0,.int .u8 0,.int .u8 0,.int .u8 0,.int .u8 0,.int .u8 0,.int .u8 0,.int .u8 0,.int .u8 0,.int .u8 0,.int .u8 0,.int .u8 0,.int .u8 0,.int .u8 0,.int .u8 0,.int .u8 0,.int .u8 0,.int .u8 0,.int .u8 0,.int .u8 0,.int .u8 0,.int .u8 0,.int .u8 0,.int .u8 0,.int .u8 0,.int .u8 0,.int .u8 0,.int .u8 0,.int .u8 0,.int .u8 0,.int .u8 0,.int .u8 0,.int .u8 0,.int .u8 0,.int .u8 0,.int .u8 0,.int .u8 0,.int .u8 0,.int .u8 0,.int .u8 0,.int .u8 0,.int .u8 0,.int .u8 0,.int .u8 0,.int .u8 0,.int .u8 0,.int .u8 0,.int .u8 0,.int .u8 0,.int .u8 0,.int .u8 0,.int .u8 0,.int .u8 0,.int .u8 0,.int .u8 0,.int .u8 0,.int .u8 0,.int .u8 0,.int .u8 0,.int .u8 0,.int .u8 0,.int .u8 0,.int .u8 0,.int .u8 0,.int .u8 0,.int .u8 0,.int .u8 0,.int .u8 0,.int .u8 0,.int .u8 0,.int .u8 0,.int .u8 0,.int .u8 0,.int .u8 0,.int .u8 0,.int .u8 0,.int .u8 0,.int .u8 0,.int .u8 0,.int .u8 0,.int .u8 0,.int .u8 0,.int .u8 0,.int .u8 0,.int .u8 0,.int .u8 0,.int .u8 0,.int .u8 0,.int .u8 0,.int .u8 0,.int .u8 0,.int .u8 0,.int .u8 0,.int .u8 0,.int .u8 0,.int .u8 0,.int .u8 0,.int .u8 0,.int .u8 0,.int .u8 0,.int .u8 0,.int .u8 0,.int .u8 0,.int .u8 0,.int .u8 0,.int .u8 0,.int .u8 0,.int .u8 0,.int .u8 0,.int .u8 0,.int .u8 0,.int .u8 0,.int .u8 0,.int .u8 0,.int .u8 0,.int .u8 0,.int .u8 0,.int .u8 0,.int .u8 0,.int .u8 0,.int .u8 0,.int .u8 0,.int .u8 0,.int .u8 0,.int .u8 0,.int .u8 0,.int .u8 0,.int .u8 0,.int .u8 0,.int .u8 0,.int .u8 0,.int .u8 0,.int .u8 0],.arr 256 5 1⟩),
 (234,⟨2,2,[.int .u8 0,.int .u8 0],.st [(0,1),(1,1)]⟩),
 (235,⟨2,2,[.int .u8 0,.int .u8 0],.st [(0,1),(1,1)]⟩),
 (236,⟨32,32,[.int .u8 0,.int .u8 0,.int .u8 0,.int .u8 0,.int .u8 0,.int .u8 0,.int .u8 0,.int .u8 0,.int .u8 0,.int .u8 0,.int .u8 0,.int .u8 0,.int .u8 0,.int .u8 0,.int .u8 0,.int .u8 0,.int .u8 0,.int .u8 0,.int .u8 0,.int .u8 0,.int .u8 0,.int .u8 0,.int .u8 0,.int .u8 0,.int .u8 0,.int .u8 0,.int .u8 0,.int .u8 0,.int .u8 0,.int .u8 0,.int .u8 0,.int .u8 0],.arr 16 235 2⟩),
 (238,⟨1,8,[.nilFunc],.one⟩),
 (240,⟨1,8,[.nilFunc],.one⟩),
 (241,⟨1,8,[.nilFunc],.one⟩),
 (242,⟨3,48,[.string ⟨#[]⟩,.string ⟨#[]⟩,.nilIface],.st [(0,1),(1,1),(2,1)]⟩),
 (243,⟨3,48,[.string ⟨#[]⟩,.string ⟨#[]⟩,.nilIface],.st [(0,1),(1,1),(2,1)]⟩),
 (244,⟨1,8,[.nilFunc],.one⟩),
 (245,⟨1,8,[.pointer none],.one⟩),
 (247,⟨1,8,[.nilFunc],.one⟩),
 (248,⟨1,8,[.nilFunc],.one⟩),
 (249,⟨1,8,[.nilFunc],.one⟩),
 (250,⟨1,8,[.pointer none],.one⟩),
 (251,⟨1,16,[.string ⟨#[]⟩],.st [(0,1)]⟩),
 (252,⟨1,16,[.string ⟨#[]⟩],.st [(0,1)]⟩),
 (253,⟨1,8,[.nilFunc],.one⟩),
 (254,⟨32,32,[.int .u8 0,.int .u8 0,.int .u8 0,.int .u8 0,.int .u8 0,.int .u8 0,.int .u8 0,.int .u8 0,.int .u8 0,.int .u8 0,.int .u8 0,.int .u8 0,.int .u8 0,.int .u8 0,.int .u8 0,.int .u8 0,.int .u8 0,.int .u8 0,.int .u8 0,.int .u8 0,.int .u8 0,.int .u8 0,.int .u8 0,.int .u8 0,.int .u8 0,.int .u8 0,.int .u8 0,.int .u8 0,.int .u8 0,.int .u8 0,.int .u8 0,.int .u8 0],.arr 32 5 1⟩),
 (255,⟨64,64,[.int .u8 0,.int .u8 0,.int .u8 0,.int .u8 0,.int .u8 0,.int .u8 0,.int .u8 0,.int .u8 0,.int .u8 0,.int .u8 0,.int .u8 0,.int .u8 0,.int .u8 0,.int .u8 0,.int .u8 0,.int .u8 0,.int .u8 0,.int .u8 0,.int .u8 0,.int .u8 0,.int .u8 0,.int .u8 0,.int .u8 0,.int .u8 0,.int .u8 0,.int .u8 0,.int .u8 0,.int .u8 0,.int .u8 0,.int .u8 0,.int .u8 0,.int .u8 0,.int .u8 0,.int .u8 0,.int .u8 0,.int .u8 0,.int .u8 0,.int .u8 0,.int .u8 0,.int .u8 0,.int .u8 0,.int .u8 0,.int .u8 0,.int .u8 0,.int .u8 0,.int .u8 0,.int .u8 0,.int .u8 0,.int .u8 0,.int .u8 0,.int .u8 0,.int .u8 0,.int .u8 0,.int .u8 0,.int .u8 0,.int .u8 0,.int .u8 0,.int .u8 0,.int .u8 0,.int .u8 0,.int .u8 0,.int .u8 0,.int .u8 0,.int .u8 0],.arr 64 5 1⟩),
 (261,⟨1,8,[.nilFunc],.one⟩),
 (264,⟨1,8,[.nilFunc],.one⟩)]
theorem tbl_b : tblB Go.Proofs.Tryz.prog tbl = true := by kernel_rfl
theorem tbl_ok : TOk Go.Proofs.Tryz.prog tbl := tok_of tbl_b
theorem mixed_ok : Go.Proofs.Tryz.prog.follows .mixedOrders = true := by kernel_rfl
end Go.Proofs.YtmnociojijpdmaaGreatDoor
namespace Go.Proofs.YtmnociojijpdmaaGreatDoor
open Go.AX Go.RF
set_option maxRecDepth 100000
theorem ok_in (l : List Str) (k : Str) (hl : l.length ≤ 1073741824) : FnOk Tryz.prog 80 [.d (encStrs l),.d (dstr k)] (.one (dbool (isIn l k))) := by
 refine fnOk_of tbl_ok mixed_ok Tryz.func80 rfl (by kernel_rfl) rfl rfl fun w0 own0 => ?_
 try refine wk ?_
 refine CW.loopT (fun i : Nat => [(.s 1,.av (.d (dstr k))),(.s 7,.av (.d (encStrs l))),(.s 8,.av (.d (dint l.length))),(.s 9,.av (.d (dint i))),(.nx,.num 0)]) (fun i => i ≤ l.length ∧ isIn (l.drop i) k = isIn l k) (fun i => l.length - i) 0 ⟨by omega,rfl⟩ ?_ fun i hI => ?_
 ·
  exact by_less
 ·
  obtain ⟨hi,hI⟩ := hI
  rcases drop_case hi with ⟨h1,h2⟩ | ⟨p,h1,h2,h3⟩
  ·
   try refine wk ?_
   rw [h1] at hI
   rw [← hI]
   exact .one (.tmp rfl (.one (.d (.refl _))))
  ·
   rw [h1] at hI
   simp only [isIn] at hI
   by_cases h4 : p = k
   ·
    try refine wk ?_
    rw [if_pos h4] at hI
    rw [← hI]
    exact .one (.tmp rfl (.one (.d (.refl _))))
   ·
    try refine wk ?_
    rw [if_neg h4] at hI
    refine q_loopT (i + 1) ⟨by omega,hI⟩ (by omega) ?_
    exact by_less
theorem ok_key (s : Str) (hl : s.length ≤ 1073741824) : FnOk Tryz.prog 79 [.d (dstr s)] (.one (dbool (key s))) := by
 refine fnOk_of tbl_ok mixed_ok Tryz.func79 rfl (by kernel_rfl) rfl rfl fun w0 own0 => ?_
 try refine wk ?_
 refine CW.loopT (fun i : Nat => [(.s 0,.av (.d (dstr s))),(.s 5,.av (.d (dint s.length))),(.s 6,.av (.d (dint i))),(.nx,.num 0)]) (fun i => i ≤ s.length ∧ keyGo s (s.drop i) = key s) (fun i => s.length - i) 0 ⟨by omega,rfl⟩ ?_ fun i hI => ?_
 ·
  exact by_less
 ·
  obtain ⟨hi,hI⟩ := hI
  rcases drop_case hi with ⟨h1,h2⟩ | ⟨c,h1,h2,h3⟩
  ·
   rw [h1] at hI
   simp only [keyGo] at hI
   by_cases h4 : 0 < s.length
   ·
    try refine wk ?_
    exact .one (.tmp rfl (.one (.d (dle_bool (by rw [← hI];simp [h4];omega)))))
   ·
    try refine wk ?_
    exact .one (.tmp rfl (.one (.d (dle_bool (by rw [← hI];simp [h4])))))
  ·
   rw [h1] at hI
   simp only [keyGo] at hI
   by_cases h4 : (c.toNat : Int) < 97
   ·
    try refine wk ?_
    rw [if_pos (by simp only [bad,h4];rfl)] at hI
    exact .one (.tmp rfl (.one (.d (dle_bool hI))))
   ·
    by_cases h5 : (122 : Int) < (c.toNat : Int)
    ·
     try refine wk ?_
     rw [if_pos (by simp [bad,h5])] at hI
     exact .one (.tmp rfl (.one (.d (dle_bool hI))))
    ·
     try refine wk ?_
     rw [if_neg (by simp [bad];omega)] at hI
     refine q_loopT (i + 1) ⟨by omega,hI⟩ (by omega) ?_
     exact by_less
theorem form_at {k : Nat} (h : k < 10) : forms[k]? = some (form k) := by
 simp [form,List.getD_eq_getElem?_getD,List.getElem?_eq_getElem (show k < forms.length from h)]
theorem ok_form (k : Nat) (hk : k < 10) : FnOk Tryz.prog 104 [.d (dint k)] (.one (dstr (form k))) := by
 refine fnOk_of tbl_ok mixed_ok Tryz.func104 rfl (by kernel_rfl) rfl rfl fun w0 own0 => ?_
 have h := form_at hk
 repeat (first|((with_reducible apply s5);((with_reducible apply a_bs (forms.map encStr1));(iterate 9 exact rfl);(repeat (first | exact PartsE.nil | (apply PartsE.cons;exact rfl;exact rfl))));exact by_g)|refine wa1 ?_|((with_reducible apply s5);(first|exact by_oa|exact by_ca);exact by_g)|refine wb ?_)
 exact .one (.tmp rfl (.one (.d (.refl _))))
theorem form_len (k : Nat) : (form k).length ≤ 2 := by
 rcases Nat.lt_or_ge k 10 with h | h
 ·
  have : ∀ k : Fin 10,(form k).length ≤ 2 := by decide
  exact this ⟨k,h⟩
 ·
  simp [form,List.getD_eq_getElem?_getD,List.getElem?_eq_none (show forms.length ≤ k from h)]
theorem ok_has (k : Nat) (c : UInt8) (hk : k < 10) : FnOk Tryz.prog 81 [.d (dint k),.d (.v (.int .u8 c.toNat))] (.one (dbool (has k c))) := by
 refine fnOk_of tbl_ok mixed_ok Tryz.func81 rfl (by kernel_rfl) rfl rfl fun w0 own0 => ?_
 have hl := form_len k
 repeat (first|refine wa ?_|((with_reducible apply s5);(first|exact a_call (ok_form k hk) rfl by_sub|exact by_oa|exact by_ca);exact by_g)|refine wb ?_)
 refine CW.loopT (fun i : Nat => [(.s 1,.av (.d (.v (.int .u8 c.toNat)))),(.s 5,.av (.d (dstr (form k)))),(.s 10,.av (.d (dint (form k).length))),(.s 11,.av (.d (dint i))),(.nx,.num 0)]) (fun i => i ≤ (form k).length ∧ hasGo c ((form k).drop i) = has k c) (fun i => (form k).length - i) 0 ⟨by omega,rfl⟩ ?_ fun i hI => ?_
 ·
  exact by_less
 ·
  obtain ⟨hi,hI⟩ := hI
  rcases drop_case hi with ⟨h1,h2⟩ | ⟨x,h1,h2,h3⟩
  ·
   try refine wk ?_
   rw [h1] at hI
   rw [← hI]
   exact .one (.tmp rfl (.one (.d (.refl _))))
  ·
   rw [h1] at hI
   simp only [hasGo] at hI
   by_cases h4 : x = c
   ·
    have h5 : (x.toNat : Int) = (c.toNat : Int) := by rw [h4]
    try refine wk ?_
    rw [if_pos h4] at hI
    rw [← hI]
    exact .one (.tmp rfl (.one (.d (.refl _))))
   ·
    have h5 : ¬ ((x.toNat : Int) = (c.toNat : Int)) := fun h => h4 (UInt8.toNat_inj.1 (by omega))
    try refine wk ?_
    rw [if_neg h4] at hI
    refine q_loopT (i + 1) ⟨by omega,hI⟩ (by omega) ?_
    exact by_less
set_option maxHeartbeats 4000000
theorem ls_first {l : List Str} {r : List (List Str)} {v : Int} (h : lsGo (l :: r) = v) : (keysWrong l = 0 ∧ lsGo r = v) ∨ (keysWrong l ≠ 0 ∧ keysWrong l = v) := by
 simp only [lsGo] at h
 split at h
 ·
  next h0 => exact .inl ⟨h0,h⟩
 ·
  next h0 => exact .inr ⟨h0,h⟩
theorem ok_wrongDeed (d : Deed) (hr : d.reads.length ≤ 268435456) (hw : d.writes.length ≤ 268435456) (hc : d.code.length ≤ 268435456)
  (hrk : ∀ s ∈ d.reads,s.length ≤ 1073741824) (hwk : ∀ s ∈ d.writes,s.length ≤ 1073741824) : FnOk Tryz.prog 41 [.d (.agg d.enc)] (.one (dint (wrongDeed d))) := by
 refine fnOk_of tbl_ok mixed_ok Tryz.func41 rfl (by kernel_rfl) rfl rfl fun w0 own0 => ?_
 repeat (first|((with_reducible apply s5);((with_reducible apply a_bs ([d.reads,d.writes].map fun l => [encStrs l]));(iterate 9 exact rfl);(repeat (first | exact PartsE.nil | (apply PartsE.cons;exact rfl;exact rfl))));exact by_g)|refine wa1 ?_|((with_reducible apply s5);(first|exact by_oa|exact by_ca);exact by_g)|refine wb ?_)
 refine CW.loopT (fun j : Nat => [(.s 1,.av (.ptr 0 0)),(.o 0,.ob (.box (d.enc.map AV.d))),(.s 18,.av (.d (.sl 1 ([d.reads,d.writes].map fun l => [encStrs l])))),(.s 19,.av (.d (dint 2))),(.s 20,.av (.d (dint j))),(.nx,.num 1)])
  (fun j => j ≤ [d.reads,d.writes].length ∧ lsGo ([d.reads,d.writes].drop j) = lsGo [d.reads,d.writes]) (fun j => 2 - j) 0 ⟨by simp,rfl⟩ ?_ ?_
 ·
  exact by_less
 ·
  rintro j ⟨hj,hI⟩
  have hj2 : j ≤ 2 := hj
  rcases drop_case hj with ⟨h1,h2⟩ | ⟨l,h1,h2,h3⟩
  ·
   have h2' : j = 2 := h2
   rw [h1] at hI
   have hI' : lsGo [d.reads,d.writes] = 0 := hI.symm
   by_cases h4 : 12 < d.code.length
   ·
    try refine wk ?_
    exact .one (.tmp rfl (.one (.d (dle_int (by simp [wrongDeed,hI',h4])))))
   ·
    try refine wk ?_
    refine CW.loopT (fun k : Nat => [(.s 1,.av (.ptr 0 0)),(.o 0,.ob (.box (d.enc.map AV.d))),(.s 51,.av (.d (encCode d.code))),(.s 52,.av (.d (dint d.code.length))),(.s 53,.av (.d (dint k))),(.nx,.num 1)])
     (fun k => k ≤ d.code.length ∧ codeGo d k (d.code.drop k) = codeGo d 0 d.code) (fun k => d.code.length - k) 0 ⟨by omega,rfl⟩ ?_ ?_
    ·
     exact by_less
    ·
     rintro k ⟨hk,hC⟩
     rcases drop_case hk with ⟨h5,h6⟩ | ⟨i,h5,h6,h7⟩
     ·
      rw [h5] at hC
      simp only [codeGo] at hC
      try refine wk ?_
      exact .one (.tmp rfl (.one (.d (dle_int (by rw [wrongDeed,if_pos hI',if_neg h4,hC])))))
     ·
      rw [h5] at hC
      have hbad : wrongIns d ((d.code.length : Int) - 1 - k) i ≠ 0 → wrongIns d ((d.code.length : Int) - 1 - k) i = wrongDeed d := fun h0 => by
       rw [codeGo,if_neg h0] at hC
       rw [wrongDeed,if_pos hI',if_neg h4,hC]
      have hgood : wrongIns d ((d.code.length : Int) - 1 - k) i = 0 → codeGo d (k + 1) (d.code.drop (k + 1)) = codeGo d 0 d.code := fun h0 => by
       rw [codeGo,if_pos h0] at hC
       exact hC
      clear hC h5
      obtain ⟨kd0,ia,ib,n,key⟩ := i
      by_cases hk1 : kd0 < 1
      ·
       try refine wk ?_
       have h0 : wrongIns d ((d.code.length : Int) - 1 - k) ⟨kd0,ia,ib,n,key⟩ = 1 := by simp [wrongIns,hk1]
       exact .one (.tmp rfl (.one (.d (dle_int (by rw [← hbad (by rw [h0];decide),h0])))))
      ·
       by_cases hk9 : 9 < kd0
       ·
        try refine wk ?_
        have h0 : wrongIns d ((d.code.length : Int) - 1 - k) ⟨kd0,ia,ib,n,key⟩ = 1 := by simp [wrongIns,hk9]
        exact .one (.tmp rfl (.one (.d (dle_int (by rw [← hbad (by rw [h0];decide),h0])))))
       ·
        obtain ⟨kd,rfl⟩ := Int.eq_ofNat_of_zero_le (show 0 ≤ kd0 by omega)
        have hkd : kd < 10 := by omega
        have hcA := ok_has kd 114 hkd
        have hcB := ok_has kd 115 hkd
        have hcK := ok_has kd 107 hkd
        have hst0 : StopA 21 := ⟨rfl⟩
        try refine wkS ?_
        clear hst0
        refine Stop.cutk [(.s 9,.av (.d (dint (insA kd))))] [.s 1,.s 51,.s 52,.s 53,.s 7,.s 8,.s 10,.s 11,.s 12,.o 0,.o 1,.nx] ?_ ?_
        ·
         unfold insA
         cases hA : has kd 114
         ·
          repeat (first|refine wa ?_|((with_reducible apply s5);(first|exact a_call hcA rfl by_sub|exact by_oa|exact by_ca);exact by_g)|refine wb ?_)
          refine q_cut ?_
          exact by_less
         ·
          repeat (first|refine wa ?_|((with_reducible apply s5);(first|exact a_call hcA rfl by_sub|exact by_oa|exact by_ca);exact by_g)|refine wb ?_)
          refine q_cut ?_
          exact by_less
        have hst0 : StopA 23 := ⟨rfl⟩
        try refine wkS ?_
        clear hst0
        refine Stop.cutk [(.s 10,.av (.d (dint (insB kd))))] [.s 1,.s 51,.s 52,.s 53,.s 7,.s 8,.s 9,.s 11,.s 12,.o 0,.o 1,.nx] ?_ ?_
        ·
         unfold insB
         cases hA : has kd 115
         ·
          repeat (first|refine wa ?_|((with_reducible apply s5);(first|exact a_call hcB rfl by_sub|exact by_oa|exact by_ca);exact by_g)|refine wb ?_)
          refine q_cut ?_
          exact by_less
         ·
          repeat (first|refine wa ?_|((with_reducible apply s5);(first|exact a_call hcB rfl by_sub|exact by_oa|exact by_ca);exact by_g)|refine wb ?_)
          refine q_cut ?_
          exact by_less
        have hst0 : StopA 25 := ⟨rfl⟩
        try refine wkS ?_
        clear hst0
        refine Stop.cutk [(.s 11,.av (.d (dint (if kd = 2 then -1073741824 else 0)))),(.s 12,.av (.d (dint (if kd = 2 then 1073741824 else 0))))] [.s 1,.s 51,.s 52,.s 53,.s 7,.s 8,.s 9,.s 10,.o 0,.o 1,.nx] ?_ ?_
        ·
         by_cases hA : kd = 2
         ·
          rw [if_pos hA,if_pos hA]
          try refine wk ?_
          refine q_cut ?_
          exact by_less
         ·
          rw [if_neg hA,if_neg hA]
          try refine wk ?_
          refine q_cut ?_
          exact by_less
        have hst0 : StopA 27 := ⟨rfl⟩
        try refine wkS ?_
        clear hst0
        refine Stop.cutk [(.s 11,.av (.d (dint (insLow kd)))),(.s 12,.av (.d (dint (insHigh kd ((d.code.length : Int) - 1 - k)))))] [.s 1,.s 51,.s 52,.s 53,.s 7,.s 8,.s 9,.s 10,.o 0,.o 1,.nx] ?_ ?_
        ·
         by_cases hA : kd = 8
         ·
          have hB : ¬ kd = 2 := by omega
          rw [insLow,insHigh,if_neg hB,if_neg hB,if_neg hB,if_neg hB,if_pos hA,if_pos hA]
          repeat (first|((with_reducible apply st_bin);exact rfl;exact rfl;(apply bin_sub;simp only [List.length_map];omega);exact .none rfl;exact rfl)|refine wa1 ?_|((with_reducible apply s5);(first|exact by_oa|exact by_ca);exact by_g)|refine wb ?_)
          refine q_cut ?_
          exact by_less
         ·
          rw [insLow,insHigh,if_neg hA,if_neg hA]
          try refine wk ?_
          refine q_cut ?_
          exact by_less
        have hst0 : StopR 29 := ⟨rfl⟩
        try refine wkS ?_
        clear hst0
        refine Stop.cutk [(.s 115,.av (.d (dbool (insOut kd ia ib n ((d.code.length : Int) - 1 - k)))))] [.s 1,.s 51,.s 52,.s 53,.s 8,.o 0,.o 1,.nx] ?_ ?_
        ·
         unfold insOut
         by_cases c1 : ia < 0
         ·
          rw [decide_eq_true c1]
          try refine wk ?_
          refine q_cut ?_
          exact by_less
         rw [decide_eq_false c1,Bool.false_or]
         by_cases c2 : insA kd < ia
         ·
          rw [decide_eq_true c2]
          try refine wk ?_
          refine q_cut ?_
          exact by_less
         rw [decide_eq_false c2,Bool.false_or]
         by_cases c3 : ib < 0
         ·
          rw [decide_eq_true c3]
          try refine wk ?_
          refine q_cut ?_
          exact by_less
         rw [decide_eq_false c3,Bool.false_or]
         by_cases c4 : insB kd < ib
         ·
          rw [decide_eq_true c4]
          try refine wk ?_
          refine q_cut ?_
          exact by_less
         rw [decide_eq_false c4,Bool.false_or]
         by_cases c5 : n < insLow kd
         ·
          rw [decide_eq_true c5]
          try refine wk ?_
          refine q_cut ?_
          exact by_less
         rw [decide_eq_false c5,Bool.false_or]
         try refine wk ?_
         refine q_cut ?_
         exact by_less
        have hw0 : wrongIns d ((d.code.length : Int) - 1 - k) ⟨kd,ia,ib,n,key⟩ = if insOut kd ia ib n ((d.code.length : Int) - 1 - k) = true then 3 else if has kd 107 = false then (if key = [] then 0 else 2)
          else if isIn (if (kd : Int) = 1 then d.reads else d.writes) key = true then 0 else 9 := by
         rw [wrongIns,if_neg (by show ¬ ((kd : Int) < 1 ∨ 9 < (kd : Int));omega)]
         rfl
        have hcr := ok_in d.reads key (by omega)
        have hcw := ok_in d.writes key (by omega)
        cases hO : insOut kd ia ib n ((d.code.length : Int) - 1 - k)
        ·
         rw [if_neg (by simp [hO])] at hw0
         cases hK : has kd 107
         ·
          rw [if_pos hK] at hw0
          by_cases hkey : key = []
          ·
           rw [if_pos hkey] at hw0
           repeat (first|refine wa ?_|((with_reducible apply s5);(first|exact a_call hcK rfl by_sub|exact by_oa|exact by_ca);exact by_g)|refine wb ?_)
           refine q_loopT (k + 1) ⟨by omega,hgood hw0⟩ (by omega) ?_
           exact by_less
          ·
           rw [if_neg hkey] at hw0
           repeat (first|refine wa ?_|((with_reducible apply s5);(first|exact a_call hcK rfl by_sub|exact by_oa|exact by_ca);exact by_g)|refine wb ?_)
           exact .one (.tmp rfl (.one (.d (dle_int (by rw [← hbad (by rw [hw0];decide),hw0])))))
         ·
          rw [if_neg (by simp [hK])] at hw0
          by_cases hk1' : (kd : Int) = 1
          ·
           rw [if_pos hk1'] at hw0
           cases hin : isIn d.reads key
           ·
            rw [if_neg (by simp [hin])] at hw0
            repeat (first|refine wa ?_|((with_reducible apply s5);(first|exact a_call hcK rfl by_sub|exact a_call hcr rfl by_sub|exact by_oa|exact by_ca);exact by_g)|refine wb ?_)
            exact .one (.tmp rfl (.one (.d (dle_int (by rw [← hbad (by rw [hw0];decide),hw0])))))
           ·
            rw [if_pos hin] at hw0
            repeat (first|refine wa ?_|((with_reducible apply s5);(first|exact a_call hcK rfl by_sub|exact a_call hcr rfl by_sub|exact by_oa|exact by_ca);exact by_g)|refine wb ?_)
            refine q_loopT (k + 1) ⟨by omega,hgood hw0⟩ (by omega) ?_
            exact by_less
          ·
           rw [if_neg hk1'] at hw0
           cases hin : isIn d.writes key
           ·
            rw [if_neg (by simp [hin])] at hw0
            repeat (first|refine wa ?_|((with_reducible apply s5);(first|exact a_call hcK rfl by_sub|exact a_call hcw rfl by_sub|exact by_oa|exact by_ca);exact by_g)|refine wb ?_)
            exact .one (.tmp rfl (.one (.d (dle_int (by rw [← hbad (by rw [hw0];decide),hw0])))))
           ·
            rw [if_pos hin] at hw0
            repeat (first|refine wa ?_|((with_reducible apply s5);(first|exact a_call hcK rfl by_sub|exact a_call hcw rfl by_sub|exact by_oa|exact by_ca);exact by_g)|refine wb ?_)
            refine q_loopT (k + 1) ⟨by omega,hgood hw0⟩ (by omega) ?_
            exact by_less
        ·
         rw [if_pos hO] at hw0
         try refine wk ?_
         exact .one (.tmp rfl (.one (.d (dle_int (by rw [← hbad (by rw [hw0];decide),hw0])))))
  ·
   have h3' : j < 2 := h3
   rw [h1] at hI
   have hl : l.length ≤ 268435456 ∧ ∀ s ∈ l,s.length ≤ 1073741824 := by
    have := List.mem_of_getElem? h2
    simp at this
    rcases this with rfl | rfl
    ·
     exact ⟨hr,hrk⟩
    ·
     exact ⟨hw,hwk⟩
   have hbad : keysWrong l ≠ 0 → keysWrong l = wrongDeed d := fun h0 => by
    rcases ls_first hI with ⟨h5,h6⟩ | ⟨h5,h6⟩
    ·
     exact absurd h5 h0
    ·
     rw [wrongDeed,if_neg (by rw [← h6];exact h0),h6]
   by_cases h4 : 5 < l.length
   ·
    have h6 : keysWrong l = 5 := by rw [keysWrong,if_pos h4]
    try refine wk ?_
    exact .one (.tmp rfl (.one (.d (dle_int (by rw [← h6];exact hbad (by rw [h6];decide))))))
   ·
    try refine wk ?_
    refine CW.loopT (fun i : Nat => [(.s 1,.av (.ptr 0 0)),(.o 0,.ob (.box (d.enc.map AV.d))),(.s 18,.av (.d (.sl 1 ([d.reads,d.writes].map fun l => [encStrs l])))),(.s 19,.av (.d (dint 2))),(.s 20,.av (.d (dint j))),(.s 4,.av (.d (encStrs l))),(.s 27,.av (.d (encStrs l))),(.s 28,.av (.d (dint l.length))),(.s 29,.av (.d (dint i))),(.nx,.num 1)])
     (fun i => i ≤ l.length ∧ keysGo l i (l.drop i) = keysWrong l) (fun i => l.length - i) 0 ⟨by omega,by rw [keysWrong,if_neg h4];rfl⟩ ?_ ?_
    ·
     exact by_less
    ·
     rintro i ⟨hi,hJ⟩
     rcases drop_case hi with ⟨h5,h6⟩ | ⟨k,h5,h6,h7⟩
     ·
      rw [h5] at hJ
      simp only [keysGo] at hJ
      try refine wk ?_
      refine q_loopT (j + 1) ⟨by simp;omega,?_⟩ (by omega) ?_
      ·
       rcases ls_first hI with ⟨h8,h9⟩ | ⟨h8,h9⟩
       ·
        exact h9
       ·
        exact absurd hJ.symm h8
      ·
       exact by_less
     ·
      rw [h5] at hJ
      simp only [keysGo] at hJ
      have hck := ok_key k (hl.2 k (List.mem_of_getElem? h6))
      have hin : FnOk Tryz.prog 80 [.d (.sl 1 ((l.map encStr1).take i)),.d (dstr k)] (.one (dbool (isIn (l.take i) k))) := by
       rw [← List.map_take]
       exact ok_in (l.take i) k (by rw [List.length_take];have := hl.1;omega)
      cases h8 : key k
      ·
       rw [if_pos h8] at hJ
       try refine wk ?_
       exact .one (.tmp rfl (.one (.d (dle_int (by rw [hJ];exact hbad (by rw [← hJ];decide))))))
      ·
       rw [if_neg (by simp [h8])] at hJ
       cases h9 : isIn (l.take i) k
       ·
        rw [if_neg (by simp [h9])] at hJ
        repeat (first|refine wa ?_|((with_reducible apply s5);(first|exact a_call hin rfl by_sub|exact by_oa|exact by_ca);exact by_g)|refine wb ?_)
        refine q_loopT (i + 1) ⟨by omega,hJ⟩ (by omega) ?_
        exact by_less
       ·
        rw [if_pos h9] at hJ
        repeat (first|refine wa ?_|((with_reducible apply s5);(first|exact a_call hin rfl by_sub|exact by_oa|exact by_ca);exact by_g)|refine wb ?_)
        exact .one (.tmp rfl (.one (.d (dle_int (by rw [hJ];exact hbad (by rw [← hJ];decide))))))
theorem markN_le : ∀ l : List Int,markN l ≤ l.length
 | [] => by simp [markN]
 | s :: r => by
  have := markN_le r
  simp only [markN]
  split <;> simp <;> omega
set_option maxHeartbeats 8000000
structure Engine.Sz (e : Engine) (N : Nat) : Prop where
 c : e.chains.length ≤ N
 v : ∀ c ∈ e.chains,c.vs.length ≤ N
 d : e.deeds.length ≤ N
 s : e.state.length = e.deeds.length
 n : e.ends.length = e.deeds.length
 b : 0 ≤ e.base ∧ e.base + e.deeds.length ≤ N
 dd : ∀ d ∈ e.deeds,d.Sm
theorem Engine.Sz.sm {e : Engine} {N : Nat} (h : Engine.Sz e N) (hN : N ≤ 134217728) : e.Sm :=
 ⟨by have := h.c;omega,fun c hc => by have := h.v c hc;omega,by have := h.d;omega,by have := h.d;have := h.s;omega,by have := h.d;have := h.n;omega,by have := h.b;omega,h.dd⟩
theorem wrong_writes {d : Deed} (h : wrongDeed d = 0) : d.reads.length ≤ 5 ∧ d.writes.length ≤ 5 ∧ d.code.length ≤ 12 := by
 unfold wrongDeed at h
 by_cases h0 : lsGo [d.reads,d.writes] = 0
 ·
  rw [if_pos h0] at h
  simp only [lsGo] at h0
  have hc : d.code.length ≤ 12 := by
   by_cases hc : 12 < d.code.length
   ·
    rw [if_pos hc] at h;simp at h
   ·
    omega
  have key : ∀ l : List Str,keysWrong l = 0 → l.length ≤ 5 := by
   intro l hl
   unfold keysWrong at hl
   by_cases h5 : 5 < l.length
   ·
    rw [if_pos h5] at hl;simp at hl
   ·
    omega
  by_cases h1 : keysWrong d.reads = 0
  ·
   rw [if_pos h1] at h0
   by_cases h2 : keysWrong d.writes = 0
   ·
    exact ⟨key _ h1,key _ h2,hc⟩
   ·
    rw [if_neg h2] at h0;exact absurd h0 h2
  ·
   rw [if_neg h1] at h0;exact absurd h0 h1
 ·
  rw [if_neg h0] at h;exact absurd h h0
theorem wrongs_mem : ∀ {l : List Deed},wrongs l = 0 → ∀ d ∈ l,wrongDeed d = 0
 | [],_,d,hd => by cases hd
 | x :: l,h,d,hd => by
  simp only [wrongs] at h
  by_cases h0 : wrongDeed x = 0
  ·
   rw [if_pos h0] at h
   rcases List.mem_cons.1 hd with rfl | hd
   ·
    exact h0
   ·
    exact wrongs_mem h d hd
  ·
   rw [if_neg h0] at h;exact absurd h h0
set_option maxHeartbeats 4000000
theorem keysGo_len : ∀ (l out : List Str),(keysGo' out l).length ≤ out.length + l.length
 | [],out => by simp [keysGo']
 | k :: r,out => by
  have := keysGo_len r (if isIn out k = true then out else out ++ [k])
  simp only [keysGo']
  split at this <;> simp_all <;> omega
def needsAt (e : Engine) (at_ : Nat) : List Int := match e.deeds[at_]? with
 | some d => needs e at_ d
 | none => []
def readyGo (e : Engine) : Nat → List Int → List Int
 | _,[] => []
 | i,s :: r => if s = 0 ∧ needsAt e i = [] then (i : Int) :: readyGo e (i + 1) r else readyGo e (i + 1) r
def ready (e : Engine) : List Int := readyGo e 0 e.state
set_option maxHeartbeats 8000000
def goRows (cs : List Chain) (b : Int) : List Pair → List Str → List Pair
 | r,[] => r
 | r,k :: ks => goRows cs b (if (before cs k b).has = true then put r k (before cs k b).n true else r) ks
def goSets (r : List Pair) (b : Int) : List Chain → List Str → List Chain
 | cs,[] => cs
 | cs,k :: ks => goSets r b (setChains cs k ⟨b,true,(RF.get r k).2,(RF.get r k).1⟩) ks
def goDone (e : Engine) (at_ : Nat) (d : Deed) : List Pair × Done := doD (goRows e.chains (e.base + at_) [] (keysD d)) d
def goNew (e : Engine) (at_ : Nat) (d : Deed) : Engine :=
 ⟨goSets (goDone e at_ d).1 (e.base + at_) e.chains d.writes,e.deeds,e.state.set at_ 1,e.ends.set at_ (goDone e at_ d).2,e.base⟩
def goAt (e : Engine) (at_ : Nat) : Engine × Int := match e.deeds[at_]? with
 | some d => if e.state[at_]? = some 1 then (e,11) else if needs e at_ d = [] then (goNew e at_ d,0) else (e,10)
 | none => (e,6)
def goE (e : Engine) (at_ : Int) : Engine × Int := if at_ < 0 then (e,6) else goAt e at_.toNat
structure Deed.Ok (d : Deed) : Prop where
 i : ∀ i ∈ d.code,i.Ok
 r : d.reads.length ≤ 5
 w : d.writes.length ≤ 5
 c : d.code.length ≤ 12
theorem Deed.Ok.keys {d : Deed} (h : Deed.Ok d) : (keysD d).length ≤ 10 := by
 have := keysGo_len (d.reads ++ d.writes) []
 have h1 := h.r
 have h2 := h.w
 simp at this
 unfold keysD
 omega
def chOk (l : List Chain) : Prop := ∀ c ∈ l,∀ v ∈ c.vs,nOk v.n
theorem bvs_ok {h : Bool} {b : Int} : ∀ {l : List Version} {out : Version},nOk out.n → (∀ v ∈ l,nOk v.n) → nOk (bvs h b out l).n
 | [],out,ho,_ => ho
 | v :: l,out,ho,hl => by
  simp only [bvs]
  refine bvs_ok ?_ fun w hw => hl w (List.mem_cons_of_mem _ hw)
  split
  ·
   exact hl v (List.mem_cons_self ..)
  ·
   exact ho
theorem beforeGo_ok {k : Str} {b : Int} : ∀ {l : List Chain} {out : Version},nOk out.n → chOk l → nOk (beforeGo k b out l).n
 | [],out,ho,_ => ho
 | c :: l,out,ho,hl => by
  simp only [beforeGo]
  exact beforeGo_ok (bvs_ok ho (hl c (List.mem_cons_self ..))) fun x hx => hl x (List.mem_cons_of_mem _ hx)
theorem before_ok {l : List Chain} (h : chOk l) (k : Str) (b : Int) : nOk (before l k b).n := beforeGo_ok (by simp [nOk]) h
theorem goRows_ok {cs : List Chain} {b : Int} (h : chOk cs) : ∀ {ks : List Str} {r : List Pair},rowsOk r → rowsOk (goRows cs b r ks) ∧ (goRows cs b r ks).length ≤ r.length + ks.length
 | [],r,hr => ⟨hr,by simp [goRows]⟩
 | k :: ks,r,hr => by
  simp only [goRows]
  by_cases hh : (before cs k b).has = true
  ·
   rw [if_pos hh]
   have := goRows_ok (b := b) h (ks := ks) (put_ok hr k (before_ok h k b) true)
   refine ⟨this.1,?_⟩
   have h2 := put_len r k (before cs k b).n true
   have h3 := this.2
   simp;omega
  ·
   rw [if_neg hh]
   have := goRows_ok (b := b) h (ks := ks) hr
   exact ⟨this.1,by have h3 := this.2;simp;omega⟩
theorem setC_len {k : Str} {v : Version} {c : Chain} : (setC k v c).vs.length = c.vs.length := by simp [setC]
theorem set_vs {l : List Chain} {k : Str} {v : Version} {M : Nat} (h : ∀ c ∈ l,c.vs.length ≤ M) : ∀ c ∈ setChains l k v,c.vs.length ≤ M := by
 intro c hc
 obtain ⟨c0,h0,rfl⟩ := List.mem_map.1 hc
 rw [setC_len];exact h c0 h0
structure EInv (e : Engine) (N : Nat) : Prop where
 z : Engine.Sz e N
 o : ∀ d ∈ e.deeds,Deed.Ok d
 c : chOk e.chains
theorem EInv.mono {e : Engine} {N M : Nat} (h : EInv e N) (hm : N ≤ M) : EInv e M := by
 obtain ⟨hz,ho,hc⟩ := h
 refine ⟨⟨by have := hz.c;omega,fun c hc => by have := hz.v c hc;omega,by have := hz.d;omega,hz.s,hz.n,by have := hz.b;omega,hz.dd⟩,ho,hc⟩
theorem codeGo_mem {d : Deed} : ∀ {l : List Ins} {k : Nat},codeGo d k l = 0 → ∀ j i,l[j]? = some i → wrongIns d ((d.code.length : Int) - 1 - ((k + j : Nat) : Int)) i = 0
 | [],k,_,j,i,hj => by simp at hj
 | x :: l,k,h,j,i,hj => by
  simp only [codeGo] at h
  by_cases h0 : wrongIns d ((d.code.length : Int) - 1 - k) x = 0
  ·
   rw [if_pos h0] at h
   cases j with
   | zero => simp at hj;subst hj;simpa using h0
   | succ j =>
    have := codeGo_mem h j i (by simpa using hj)
    rw [show k + (j + 1) = k + 1 + j by omega]
    exact this
  ·
   rw [if_neg h0] at h;exact absurd h h0
theorem has_ins {k : Int} (h : 1 ≤ k ∧ k ≤ 9) : insA k.toNat ≤ 3 ∧ insB k.toNat ≤ 3 := by
 unfold insA insB
 constructor <;> split <;> omega
theorem wrongIns_ok {d : Deed} {m : Int} (hm : m ≤ 11) {i : Ins} (h : wrongIns d m i = 0) : i.Ok := by
 unfold wrongIns at h
 by_cases hk : i.kind < 1 ∨ 9 < i.kind
 ·
  rw [if_pos hk] at h;simp at h
 rw [if_neg hk] at h
 by_cases ho : insOut i.kind.toNat i.a i.b i.n m = true
 ·
  rw [if_pos ho] at h;simp at h
 have hkk : 1 ≤ i.kind ∧ i.kind ≤ 9 := by omega
 have hs := has_ins hkk
 simp only [insOut,Bool.or_eq_true,decide_eq_true_eq,not_or] at ho
 obtain ⟨h1,h2,h3,h4,h5,h6⟩ := ho
 refine ⟨hkk,by omega,by omega,fun hc => ?_,fun hc => ?_⟩
 ·
  rw [hc] at h5 h6
  simp [insLow,insHigh] at h5 h6
  unfold nOk;omega
 ·
  rw [hc] at h5 h6
  simp [insLow,insHigh] at h5 h6
  omega
theorem wrongDeed_ok {d : Deed} (h : wrongDeed d = 0) : Deed.Ok d := by
 obtain ⟨h1,h2,h3⟩ := wrong_writes h
 refine ⟨fun i hi => ?_,h1,h2,h3⟩
 unfold wrongDeed at h
 by_cases h0 : lsGo [d.reads,d.writes] = 0
 ·
  rw [if_pos h0] at h
  by_cases hc : 12 < d.code.length
  ·
   rw [if_pos hc] at h;simp at h
  ·
   rw [if_neg hc] at h
   obtain ⟨j,hj⟩ := List.getElem?_of_mem hi
   exact wrongIns_ok (by omega) (codeGo_mem h j i hj)
 ·
  rw [if_neg h0] at h;exact absurd h h0
theorem doGo_ok {r0 : List Pair} (h0 : rowsOk r0) : ∀ {l : List Ins} {sk : Int} {now : List Pair} {e : Done},(∀ i ∈ l,i.Ok) → rowsOk now → e.Ok → rowsOk (doGo r0 sk now e l).1 ∧ (doGo r0 sk now e l).2.Ok
 | [],sk,now,e,_,hn,he => ⟨hn,he⟩
 | i :: l,sk,now,e,hl,hn,he => by
  have hio := hl i (List.mem_cons_self ..)
  have ih := fun (sk : Int) (now : List Pair) (e : Done) (h1 : rowsOk now) (h2 : e.Ok) => doGo_ok h0 (l := l) (sk := sk) (now := now) (e := e) (fun j hj => hl j (List.mem_cons_of_mem _ hj)) h1 h2
  simp only [doGo]
  split
  ·
   exact ih _ _ _ hn he
  split
  ·
   exact ih _ _ _ hn (rset_ok he _ (get_ok hn _))
  split
  ·
   next hk => exact ih _ _ _ hn (rset_ok he _ (hio.c hk))
  split
  ·
   exact ih _ _ _ hn (rset_ok he _ (round_ok _))
  split
  ·
   exact ih _ _ _ hn (rset_ok he _ (round_ok _))
  split
  ·
   exact ih _ _ _ hn (rset_ok he _ (round_ok _))
  split
  ·
   exact ih _ _ _ (put_ok hn _ (rget_ok he _) _) he
  split
  ·
   exact ih _ _ _ (put_ok hn _ (by simp [nOk]) _) he
  split
  ·
   exact ih _ _ _ hn he
  split
  ·
   exact ⟨h0,⟨he.a,he.b,he.c,he.d⟩⟩
  ·
   exact ih _ _ _ hn he
theorem done0_ok : done0.Ok := ⟨by simp [nOk,done0],by simp [nOk,done0],by simp [nOk,done0],by simp [nOk,done0]⟩
theorem doD_ok {r : List Pair} {d : Deed} (h0 : rowsOk r) (hd : Deed.Ok d) : rowsOk (doD r d).1 := (doGo_ok h0 hd.i h0 done0_ok).1
theorem set_ok {l : List Chain} (h : chOk l) (k : Str) {v : Version} (hv : nOk v.n) : chOk (setChains l k v) := by
 intro c hc w hw
 obtain ⟨c0,h0,rfl⟩ := List.mem_map.1 hc
 simp only [setC] at hw
 obtain ⟨w0,hw0,rfl⟩ := List.mem_map.1 hw
 unfold setV
 split
 ·
  exact hv
 ·
  exact h c0 h0 w0 hw0
theorem goSets_ok {r : List Pair} (hr : rowsOk r) {b : Int} {M : Nat} : ∀ {ks : List Str} {l : List Chain},chOk l → (∀ c ∈ l,c.vs.length ≤ M) → chOk (goSets r b l ks) ∧ (goSets r b l ks).length = l.length ∧ ∀ c ∈ goSets r b l ks,c.vs.length ≤ M
 | [],l,h,hv => ⟨h,rfl,hv⟩
 | k :: ks,l,h,hv => by
  simp only [goSets]
  have := goSets_ok hr (b := b) (ks := ks) (set_ok h k (v := ⟨b,true,(RF.get r k).2,(RF.get r k).1⟩) (get_ok hr k)) (set_vs hv)
  refine ⟨this.1,by rw [this.2.1];simp [setChains],this.2.2⟩
theorem EInv.goNew {e : Engine} {N : Nat} (h : EInv e N) {A : Nat} {d : Deed} (hd : d ∈ e.deeds) : EInv (goNew e A d) N := by
 obtain ⟨hz,ho,hc⟩ := h
 have hr := doD_ok (goRows_ok (b := e.base + A) hc (ks := keysD d) (r := []) (by simp [rowsOk])).1 (ho d hd)
 have := goSets_ok hr (b := e.base + A) (ks := d.writes) hc hz.v
 refine ⟨⟨?_,this.2.2,hz.d,?_,?_,hz.b,hz.dd⟩,ho,this.1⟩
 ·
  show (goSets _ _ _ _).length ≤ N
  rw [goDone,this.2.1];exact hz.c
 ·
  simp [Proofs.YtmnociojijpdmaaGreatDoor.goNew];exact hz.s
 ·
  simp [Proofs.YtmnociojijpdmaaGreatDoor.goNew];exact hz.n
theorem EInv.goE {e : Engine} {N : Nat} (h : EInv e N) (at_ : Int) : EInv (goE e at_).1 N := by
 unfold Proofs.YtmnociojijpdmaaGreatDoor.goE
 split
 ·
  exact h
 unfold goAt
 cases hA : e.deeds[at_.toNat]? with
 | none => exact h
 | some d =>
  dsimp only
  split
  ·
   exact h
  split
  ·
   exact h.goNew (List.mem_of_getElem? hA)
  ·
   exact h
theorem clrV_sub {b : Int} : ∀ {l : List Version} {v : Version},v ∈ clrV b l → v ∈ l
 | [],v,h => by simp [clrV] at h
 | x :: l,v,h => by
  simp only [clrV] at h
  split at h
  ·
   exact List.mem_cons_of_mem _ (clrV_sub h)
  ·
   rcases List.mem_cons.1 h with rfl | h
   ·
    exact List.mem_cons_self ..
   ·
    exact List.mem_cons_of_mem _ (clrV_sub h)
theorem clrV_len {b : Int} : ∀ (l : List Version),(clrV b l).length ≤ l.length
 | [] => by simp [clrV]
 | x :: l => by
  have := clrV_len (b := b) l
  simp only [clrV]
  split <;> simp <;> omega
theorem clear_mem {b : Int} : ∀ {l : List Chain} {c : Chain},c ∈ clear b l → ∃ c0 ∈ l,c = ⟨c0.key,clrV b c0.vs⟩
 | [],c,h => by simp [clear] at h
 | x :: l,c,h => by
  simp only [clear] at h
  split at h
  ·
   obtain ⟨c0,h0,h1⟩ := clear_mem h
   exact ⟨c0,List.mem_cons_of_mem _ h0,h1⟩
  ·
   rcases List.mem_cons.1 h with rfl | h
   ·
    exact ⟨x,List.mem_cons_self ..,rfl⟩
   ·
    obtain ⟨c0,h0,h1⟩ := clear_mem h
    exact ⟨c0,List.mem_cons_of_mem _ h0,h1⟩
theorem clear_len {b : Int} : ∀ (l : List Chain),(clear b l).length ≤ l.length
 | [] => by simp [clear]
 | x :: l => by
  have := clear_len (b := b) l
  simp only [clear]
  split <;> simp <;> omega
theorem EInv.clearE {e : Engine} {N : Nat} (h : EInv e N) : EInv (clearE e) N := by
 obtain ⟨hz,ho,hc⟩ := h
 have hm := markN_le e.state
 have hsl := hz.s
 have hnl := hz.n
 have hd := hz.d
 have hb := hz.b
 refine ⟨⟨?_,fun c hcc => ?_,?_,?_,?_,?_,fun d hd => hz.dd d (List.mem_of_mem_drop hd)⟩,fun d hd => ho d (List.mem_of_mem_drop hd),fun c hcc v hv => ?_⟩
 ·
  have := clear_len (b := e.base + markN e.state) e.chains
  have := hz.c
  simp only [RF.clearE];omega
 ·
  obtain ⟨c0,h0,rfl⟩ := clear_mem hcc
  have := clrV_len (b := e.base + markN e.state) c0.vs
  have := hz.v c0 h0
  simp only [];omega
 ·
  simp only [RF.clearE,List.length_drop];omega
 ·
  simp only [RF.clearE,List.length_drop];omega
 ·
  simp only [RF.clearE,List.length_drop];omega
 ·
  simp only [RF.clearE,List.length_drop];omega
 ·
  obtain ⟨c0,h0,rfl⟩ := clear_mem hcc
  exact hc c0 h0 v (clrV_sub hv)
def tailS (sep : Str) : List Str → Str
 | [] => []
 | w :: r => sep ++ (w ++ tailS sep r)
theorem joinS_cons (sep w : Str) : ∀ r : List Str,joinS sep (w :: r) = w ++ tailS sep r
 | [] => by simp [joinS,tailS]
 | x :: r => by
  have := joinS_cons sep x r
  simp only [joinS,tailS] at this ⊢
  rw [this]
theorem printD_eq (d : Deed) : printD d = (wReads ++ tailS [32] d.reads) ++ ([59,32] ++ ((wWrites ++ tailS [32] d.writes) ++ tailS [59,32] (d.code.map fun i => joinS [32] (insW i)))) := by
 unfold printD partsD
 rw [joinS_cons,joinS_cons,joinS_cons]
 rfl
theorem insW_eq (i : Ins) : joinS [32] (insW i) = words.getD i.kind.toNat [] ++ tailS [32] ((form i.kind.toNat).map (fieldW i)) := joinS_cons _ _ _
theorem form_let {k : Nat} {c : UInt8} (h : c ∈ form k) : c = 114 ∨ c = 115 ∨ c = 110 ∨ c = 107 := by
 match k,h with
 | 0,h => simp [form,forms] at h
 | 1,h => simp [form,forms] at h;rcases h with rfl | rfl <;> simp
 | 2,h => simp [form,forms] at h;rcases h with rfl | rfl <;> simp
 | 3,h => simp [form,forms] at h;rcases h with rfl | rfl <;> simp
 | 4,h => simp [form,forms] at h;rcases h with rfl | rfl <;> simp
 | 5,h => simp [form,forms] at h;rcases h with rfl | rfl <;> simp
 | 6,h => simp [form,forms] at h;rcases h with rfl | rfl <;> simp
 | 7,h => simp [form,forms] at h;subst h;simp
 | 8,h => simp [form,forms] at h;rcases h with rfl | rfl <;> simp
 | 9,h => simp [form,forms] at h;subst h;simp
 | k + 10,h => simp [form,forms] at h
theorem wrongIns_n {d : Deed} {m : Int} {i : Ins} (h : wrongIns d m i = 0) (hm : m ≤ 1073741824) : -1073741824 ≤ i.n ∧ i.n ≤ 1073741824 := by
 unfold wrongIns at h
 split at h
 ·
  cases h
 split at h
 ·
  cases h
 next h2 =>
  simp only [insOut,Bool.or_eq_true,decide_eq_true_eq,not_or] at h2
  obtain ⟨_,_,_,_,h3,h4⟩ := h2
  unfold insLow at h3
  unfold insHigh at h4
  split at h3 <;> split at h4 <;> (try split at h3) <;> (try split at h4) <;> omega
theorem wrong_n {d : Deed} (h : wrongDeed d = 0) : ∀ i ∈ d.code,-1073741824 ≤ i.n ∧ i.n ≤ 1073741824 := by
 intro i hi
 have hok := wrongDeed_ok h
 unfold wrongDeed at h
 split at h
 ·
  split at h
  ·
   cases h
  ·
   obtain ⟨j,hj⟩ := List.getElem?_of_mem hi
   have := codeGo_mem h j i hj
   exact wrongIns_n this (by have := hok.c;omega)
 ·
  next h1 => exact absurd h h1
theorem itoa_len (n : Int) (h0 : -9223372036854775808 ≤ n) (h1 : n ≤ 9223372036854775807) : (Lib.itoa n).length ≤ 21 := Lib.itoa_length_le n h0 h1
theorem key_len {k : Str} (h : key k = true) : k.length ≤ 6 := by
 unfold key at h
 have : ∀ r : Str,keyGo k r = true → k.length ≤ 6 := by
  intro r
  induction r with
  | nil => intro h;simp [keyGo] at h;omega
  | cons c r ih => intro h;simp only [keyGo] at h;split at h;· cases h
                   ·
                    exact ih h
 exact this k h
end Go.Proofs.YtmnociojijpdmaaGreatDoor
