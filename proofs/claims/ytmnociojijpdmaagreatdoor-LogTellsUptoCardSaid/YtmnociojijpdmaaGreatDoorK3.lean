/-
  Part 3 of what the claim leans on: AxPin4 AxPin5 AxBool AxFnD AxMap Rn G1 G3 R2 P1 P4 P5 P16 P17 P18 P19 P20 G15 G5 G6 P7 P10 P11 P21 AxMapI AxGen AxS2b Lg AxStr H1 P23 ShNum ShNum2 AxErr H6 ShTxt AxGen2 AxLit H9 H12 H8 J1 ShTrim R3 G20.
-/
import Derived.Test.YtmnociojijpdmaaGreatDoorK2
import Derived.Laws.Small
import Derived.MapKept
import Derived.Lib.SlTrimSet
import Derived.RangeFuncNested
import Derived.RangeFuncLeaves
import Derived.Shelf.Abstract
import Derived.WalkKit
import Derived.OwnWalkIn
import Derived.TacticsInMore
import Derived.LoopNIn
import Derived.LoopIn
import Derived.Shelf.Strconv.AtoiAll
import Derived.Shelf.Strconv.Itoa3
import Derived.Test.YtmnociojijpdmaaGreatDoorProg
import Derived.Shelf.Strconv.ErrVarAll
import Derived.Shelf.Strings.Split
import Derived.Shelf.Small.Wraps
import Derived.Shelf.Strings.OnBuilder
import Derived.Shelf.Strings.SlTrimAscii

namespace Go.AX
open Go.RowKit
variable {cx : Cx} {g : Nat → Value} {σ σ' : St} {a : Act} {w w' : World} {nx : Nat} {c : Code} {Q : Exit → St → Prop}
variable {ty : TypeId} {pos : String} {af : Array Edge} {gd : Option (Nat × Bool)} {d : Nat}
variable {ops : Array Oper} {rest : List Oper} {o : Oper}
theorem SW.s1 {rd wr : List (Key × Val)} (ha : autA cx σ o = some ⟨rd,wr⟩) (h : SW cx ops Q rest (wr ++ σ)) : SW cx ops Q (o :: rest) σ := by
 obtain ⟨dst,op,ty,pos,af,gd⟩ := o
 cases gd with
 | some p => cases ha
 | none =>
  simp only [autA] at ha
  split at ha
  ·
   next hd =>
   obtain ⟨h1,h2⟩ := trA_ok (cx := cx) (ty := ty) (pos := pos) (af := af) (gd := none) hd ha
   exact SW.step rfl ⟨h1,h2⟩ h
  ·
   cases ha
theorem SW.s5 {rd wr : List (Key × Val)} (ho : OA cx σ o ⟨rd,wr⟩) (hg : o.guard = none) (h : SW cx ops Q rest (wr ++ σ)) : SW cx ops Q (o :: rest) σ := SW.step hg ho h
theorem SW.nil (h : Q .normal σ) : SW cx ops Q [] σ := fun a w hs => wpList_nil ⟨σ,hs,h⟩
theorem SW.stut {t : Tr} {l : List Oper} (hs : Stut cx t) (ha : App σ t.rd) (h : SW cx ops Q l (t.wr ++ σ)) : SW cx ops Q l σ := fun a w hsim => h a w (hs σ a w hsim ha)
end Go.AX
namespace Go.AX
open Go.RowKit
variable {cx : Cx} {g : Nat → Value} {σ σ' : St} {a : Act} {w w' : World} {nx : Nat} {c : Code} {Q : Exit → St → Prop}
variable {ty : TypeId} {pos : String} {af : Array Edge} {gd : Option (Nat × Bool)} {d : Nat}
theorem SimG.drop (hG : SimG cx σ a w g nx) (id : Nat) : SimG cx ((.o id,.none) :: σ) a w g nx := by
 have hl := Less.drop ⟨g,nx,hG⟩ id
 have hlat : Later cx g g σ ((.o id,.none) :: σ) w w nx := by
  refine ⟨Ext.refl _ _,Below.refl _ _,fun b hb => ?_,fun j o' _ h => ⟨o',hl.o _ _ h,?_⟩⟩
  ·
   rcases hb with hb | ⟨j,o,h5,h6⟩
   ·
    exact .inl (.inl hb)
   ·
    exact .inl (.inr ⟨j,o,hl.o _ _ h5,h6⟩)
  ·
   cases o' <;> simp [ObLe]
 exact hG.next hlat ((get_cons_ne (by simp)).trans hG.hnx) (Nat.le_refl _) hG.size hG.defers (Below.refl _ _) (fun j av hj => .inl ⟨hl.s _ _ hj,rfl⟩) (fun j o hj => .inl ⟨hl.o _ _ hj,rfl,fun _ _ => rfl⟩)
  (fun j j' o o' b h1 h2 => hG.sep j j' o o' b (hl.o _ _ h1) (hl.o _ _ h2))
end Go.AX
namespace Go.AX
open Go.RowKit
section
variable {P : Program} {t : TypeId}
end
variable {cx : Cx} {g : Nat → Value} {σ σ' : St} {a : Act} {w w' : World} {nx : Nat}
variable {ty : TypeId} {pos : String} {af : Array Edge} {gd : Option (Nat × Bool)} {d : Nat}
inductive AggV : AV → List Value → Prop
 | d {ds : List D} {us : List Value} (h : ds = us.map D.v) : AggV (.d (.agg ds)) us
 | a {cs : List AV} {us : List Value} (h : cs = us.map fun u => AV.d (.v u)) : AggV (.agg cs) us
theorem rep_aggv {v : Value} {av : AV} {us : List Value} (h : AggV av us) (hr : Rep cx g σ w v av) : v = .agg us.toArray := by
 cases h with
 | d h => subst h;exact rd_agg_v hr
 | a h =>
  subst h
  obtain ⟨cs,rfl,hs,_,hr⟩ := hr
  congr 1
  apply Array.ext_getElem?
  intro j
  have hs' : cs.size = us.length := by simpa using hs
  rcases Nat.lt_or_ge j us.length with hj | hj
  ·
   have h1 := hr j cs[j] (.d (.v us[j])) (by simp [List.getElem?_map,List.getElem?_eq_getElem hj]) (Array.getElem?_eq_getElem (by omega))
   have h2 : cs[j] = us[j] := rd_v h1
   rw [Array.getElem?_eq_getElem (by omega)]
   simp [h2]
  ·
   rw [Array.getElem?_eq_none (by omega)]
   simp [hj]
end Go.AX
namespace Go.AX
open Go.RowKit
variable {cx : Cx} {g : Nat → Value} {σ σ' : St} {a : Act} {w w' : World} {nx : Nat}
variable {ty : TypeId} {pos : String} {af : Array Edge} {gd : Option (Nat × Bool)} {d : Nat}
def refP (ds : List D) (w : World) (own : Nat → Prop) (v : Value) : Prop := ∃ ad : Addr,v = .pointer (some ad) ∧ ¬ own ad.block ∧ ad.block < w.heap.size ∧ RdCells w own ad ds
def refD (ds : List D) : D := .x (refP ds)
def mapP (M : List (List UInt8 × Value)) (w : World) (own : Nat → Prop) (v : Value) : Prop := ∃ b es clock,v = .map (some b) ∧ ¬ own b ∧ b < w.heap.size ∧ w.heap[b]? = some (.map es clock) ∧ MapIs es M
def mapD (M : List (List UInt8 × Value)) : D := .x (mapP M)
theorem rd_x {own : Nat → Prop} {v : Value} {p : World → (Nat → Prop) → Value → Prop} (h : Rd w own v (.x p)) : p w own v := by
 generalize hD : D.x p = D0 at h
 cases h with
 | v => cases hD
 | sl => cases hD
 | agg => cases hD
 | nil => cases hD
 | x p v h1 hst hp => cases hD;exact hp
theorem own_drop (hs : SimG cx σ a w g nx) {id : Nat} {o : Ob} (ho : get σ (.o id) = .ob o) {b : Nat} (hb : cx.own g ((.o id,.none) :: σ) b) : cx.own g σ b ∧ blk (g id) ≠ some b := by
 rcases hb with h | ⟨j,o1,h1,h2⟩
 ·
  refine ⟨.inl h,fun hb => ?_⟩
  have h3 := obj_ge hs ho hb
  have h4 := hs.own0.1 b h
  omega
 ·
  by_cases hj : id = j
  ·
   subst hj;rw [get_cons_same] at h1;cases h1
  ·
   rw [get_cons_ne (by simpa using hj)] at h1
   exact ⟨.inr ⟨j,o1,h1,h2⟩,fun hb => hj (hs.sep id j _ o1 b ho h1 hb h2)⟩
inductive Caps : List D → List Arg → Prop
 | nil : Caps [] []
 | ref {cs ds : List D} {zs : List Arg} (h : Caps ds zs) : Caps (refD cs :: ds) (.pd cs :: zs)
 | d {x : D} {ds : List D} {zs : List Arg} (h : Caps ds zs) : Caps (x :: ds) (.d x :: zs)
theorem Caps.ok {own : Nat → Prop} {ds : List D} {zs : List Arg} (h : Caps ds zs) : ∀ {vs : List Value},vs.length = ds.length → (∀ (j : Nat) (x : D) (c : Value),ds[j]? = some x → vs[j]? = some c → Rd w own c x) → ArgsOk w own vs zs := by
 induction h with
 | nil =>
  intro vs hl _
  obtain rfl : vs = [] := List.eq_nil_of_length_eq_zero hl
  trivial
 | @ref cs ds zs h ih =>
  intro vs hl hr
  cases vs with
  | nil => simp at hl
  | cons v vs =>
   obtain ⟨ad,h1,_,h2,h3⟩ := rd_x (hr 0 _ v rfl rfl)
   exact ⟨⟨ad,h1,h2,h3⟩,ih (by simpa using hl) fun j x c hj hc => hr (j + 1) x c (by simpa using hj) (by simpa using hc)⟩
 | @d x ds zs h ih =>
  intro vs hl hr
  cases vs with
  | nil => simp at hl
  | cons v vs => exact ⟨hr 0 _ v rfl rfl,ih (by simpa using hl) fun j x c hj hc => hr (j + 1) x c (by simpa using hj) (by simpa using hc)⟩
theorem callfn_run {P : Program} {f : FuncId} {ys : List Arg} {r : Res} (hc : FnOk P f ys r) {ev : Operand → Value} {z : Operand} {xs : List Operand} {ats : Array TypeId} {dd : Option Nat} {cs : Array Value} (hv : ev z = .func (.func f) #[] cs) :
  (execOp ev ⟨dd,.call { callee := .value z,args := ⟨xs⟩,argTypes := ats },ty,pos,af,gd⟩).run P w = .ok (.enter f (xs.map ev ++ cs.toList).toArray) w := by
 obtain ⟨fn,h1,h2,h3⟩ := hc.run
 simp only [execOp,resolve,Deferred.ofValue,hv,invoke,callFunc,Sem.run_bind,Sem.run_pure,Result.andThen_ok,run_program,h1,h2,h3,Bool.false_eq_true,if_false]
 simp
inductive CapsM (x0 : Value) (M : List (List UInt8 × Value)) : List D → List Arg → Prop
 | nil : CapsM x0 M [] []
 | map {ds : List D} {zs : List Arg} (h : CapsM x0 M ds zs) : CapsM x0 M (refD [.v x0] :: ds) (.pd [mapD M] :: zs)
 | ref {cs ds : List D} {zs : List Arg} (h : CapsM x0 M ds zs) : CapsM x0 M (refD cs :: ds) (.pd cs :: zs)
theorem CapsM.ok {own own' : Nat → Prop} {x0 : Value} {M : List (List UInt8 × Value)} (ho : ∀ b,own' b → own b) (hm : Rd w own' x0 (mapD M)) {ds : List D} {zs : List Arg} (h : CapsM x0 M ds zs) :
  ∀ {vs : List Value},vs.length = ds.length → (∀ (j : Nat) (x : D) (c : Value),ds[j]? = some x → vs[j]? = some c → Rd w own c x) → ArgsOk w own' vs zs := by
 induction h with
 | nil =>
  intro vs hl _
  obtain rfl : vs = [] := List.eq_nil_of_length_eq_zero hl
  trivial
 | @map ds zs h ih =>
  intro vs hl hr
  cases vs with
  | nil => simp at hl
  | cons v vs =>
   obtain ⟨ad,h1,_,h2,h3⟩ := rd_x (hr 0 _ v rfl rfl)
   refine ⟨⟨ad,h1,h2,fun j z hz => ?_⟩,ih (by simpa using hl) fun j x c hj hc => hr (j + 1) x c (by simpa using hj) (by simpa using hc)⟩
   cases j with
   | zero =>
    simp at hz;subst hz
    obtain ⟨u,h4,h5,h6⟩ := h3 0 _ rfl
    rw [rd_v h6] at h4 h5
    exact ⟨x0,h4,h5,hm⟩
   | succ j => simp at hz
 | @ref cs ds zs h ih =>
  intro vs hl hr
  cases vs with
  | nil => simp at hl
  | cons v vs =>
   obtain ⟨ad,h1,_,h2,h3⟩ := rd_x (hr 0 _ v rfl rfl)
   exact ⟨⟨ad,h1,h2,fun j z hz => by obtain ⟨u,h4,h5,h6⟩ := h3 j z hz;exact ⟨u,h4,h5,h6.less ho⟩⟩,ih (by simpa using hl) fun j x c hj hc => hr (j + 1) x c (by simpa using hj) (by simpa using hc)⟩
end Go.AX
namespace Go.AX
open Go.RowKit
variable {cx : Cx} {g : Nat → Value} {σ σ' : St} {a : Act} {w w' : World} {nx : Nat}
variable {ty : TypeId} {pos : String} {af : Array Edge} {gd : Option (Nat × Bool)} {d : Nat}
def flat : Value → Prop
 | .agg cs => ∀ c ∈ cs.toList,Value.oneCell' c = true
 | _ => True
def dv : Value → D
 | .agg cs => .agg (cs.toList.map D.v)
 | v => .v v
theorem rd_dv {own : Nat → Prop} {v : Value} (h : flat v) : Rd w own v (dv v) := by
 cases v with
 | agg cs =>
  refine .agg _ _ (by simp) (fun j c hc => h c (List.mem_of_getElem? (by simpa using hc))) fun j x c hx hc => ?_
  rw [List.getElem?_map] at hx
  have hc' : cs.toList[j]? = some c := by simpa using hc
  rw [hc'] at hx
  simp at hx;subst hx
  exact Rd.v _
 | _ => exact Rd.v _
structure MapTy (cx : Cx) (t te : TypeId) (zv : Value) : Prop where
 u : ∃ tk,cx.P.underlying t = some (.map tk te) ∧ cx.P.underlying tk = some .string
 z : ∀ w,(zeroValue te).run cx.P w = .ok zv w
theorem MapTy.st {t te : TypeId} {ti : TI} (hu : ∃ tk,cx.P.underlying t = some (.map tk te) ∧ cx.P.underlying tk = some .string) (he : tget cx.T te = some ti) (h2 : ti.zero.length ≠ 1) : MapTy cx t te (.agg ti.zero.toArray) := by
 refine ⟨hu,fun w => ?_⟩
 obtain ⟨i,hi,_,_,z,hz,hc⟩ := (cx.hT te ti he).info
 have hag : z = .agg ti.zero.toArray := by
  cases z with
  | agg cs =>
   have : cs.toList = ti.zero := hc
   rw [← this]
  | _ => exact absurd (by rw [← hc];rfl) h2
 subst hag
 simp [zeroValue,typeInfo,hi,hz]
inductive ValV : AV → Value → Prop
 | v {u : Value} : ValV (.d (.v u)) u
 | agg {av : AV} {us : List Value} (h : AggV av us) : ValV av (.agg us.toArray)
theorem rep_valv {v u : Value} {av : AV} (h : ValV av u) (hr : Rep cx g σ w v av) : v = u := by
 cases h with
 | v => exact rep_v hr
 | agg h => exact rep_aggv h hr
end Go.AX
namespace Go.RF
open Go.AX
abbrev Mk := List (Str × (Bool × Int))
def mG : Mk → Str → Option (Bool × Int)
 | [],_ => none
 | (s,c) :: r,k => if s = k then some c else mG r k
def mS : Mk → Str → Bool × Int → Mk
 | [],k,c => [(k,c)]
 | (s,u) :: r,k,c => if s = k then (s,c) :: r else (s,u) :: mS r k c
theorem mG_mS (m : Mk) (k k' : Str) (c : Bool × Int) : mG (mS m k c) k' = if k = k' then some c else mG m k' := by
 induction m with
 | nil => simp [mS,mG]
 | cons p m ih =>
  obtain ⟨s,u⟩ := p
  simp only [mS]
  by_cases hs : s = k
  ·
   rw [if_pos hs]
   simp only [mG]
   by_cases h : k = k'
   ·
    simp [hs,h]
   ·
    rw [if_neg (by rw [hs];exact h),if_neg h,if_neg (by rw [hs];exact h)]
  ·
   rw [if_neg hs]
   simp only [mG,ih]
   by_cases h : s = k'
   ·
    rw [if_pos h,if_neg (fun e => hs (by rw [h,e])),if_pos h]
   ·
    rw [if_neg h,if_neg h]
def seeM (view : Str → Int × Bool) (m : Mk) (k : Str) : Int := match mG m k with
 | some c => c.2
 | none => (view k).1
def runGo (view : Str → Int × Bool) : Int → Mk → Done → List Ins → Mk × Done
 | _,m,e,[] => (m,e)
 | sk,m,e,i :: r =>
  if 0 < sk then runGo view (sk - 1) m e r
  else if i.kind = 1 then runGo view sk m (rset e i.a.toNat (seeM view m i.key)) r
  else if i.kind = 2 then runGo view sk m (rset e i.a.toNat i.n) r
  else if i.kind = 3 then runGo view sk m (rset e i.a.toNat (round (rget e i.a.toNat + rget e i.b.toNat))) r
  else if i.kind = 4 then runGo view sk m (rset e i.a.toNat (round (rget e i.a.toNat - rget e i.b.toNat))) r
  else if i.kind = 5 then runGo view sk m (rset e i.a.toNat (round (rget e i.a.toNat * rget e i.b.toNat))) r
  else if i.kind = 6 then runGo view sk (mS m i.key (true,rget e i.a.toNat)) e r
  else if i.kind = 7 then runGo view sk (mS m i.key (false,0)) e r
  else if i.kind = 8 then runGo view (if rget e i.a.toNat < 1 then i.n else sk) m e r
  else if rget e i.a.toNat < 0 then (m,bustE e) else runGo view sk m e r
def chg (m : Mk) : List Str → List (Str × (Bool × Int))
 | [] => []
 | k :: r => match mG m k with
  | some c => (k,c) :: chg m r
  | none => chg m r
def runM (view : Str → Int × Bool) (d : Deed) : Mk × Done := runGo view 0 [] done0 d.code
def runC (view : Str → Int × Bool) (d : Deed) : List (Str × (Bool × Int)) := if (runM view d).2.failed = true then [] else chg (runM view d).1 d.writes
end Go.RF
namespace Go.Proofs.YtmnociojijpdmaaGreatDoor
open Go.AX Go.RF
set_option maxRecDepth 100000
set_option maxHeartbeats 4000000
theorem new_clone_str (rows : List (List D)) (hl : rows.length ≤ 536870912) : FnNew Tryz.prog 101 [.d (.sl 1 rows)] 9 1 rows := by
 refine fnNew_of tbl_ok mixed_ok Tryz.func101 rfl (by kernel_rfl) rfl rfl fun w0 own0 => ?_
 cases rows with
 | nil =>
  refine CW.empty 0 rfl fun p cp => ?_
  cases p with
  | none =>
   try refine wk ?_
   exact RetNew.nil rfl rfl
  | some ad =>
   have hst0 : StopR 3 := ⟨rfl⟩
   try refine wkS ?_
   clear hst0
   refine Stop.go (CW.stut (stut_nilv (i := 0) (k := 1)) ⟨rfl,trivial⟩ ?_)
   try refine wk ?_
   exact RetNew.own rfl rfl rfl
 | cons r rows =>
  have hl2 : rows.length ≤ 536870911 := by simp at hl;omega
  try refine wk ?_
  exact RetNew.own rfl rfl (by simp)
theorem ok_clone_str (rows : List (List D)) (hl : rows.length ≤ 536870912) : FnOk Tryz.prog 101 [.d (.sl 1 rows)] (.one (.sl 1 rows)) := (new_clone_str rows hl).ok
theorem new_clone_ins (rows : List (List D)) (hl : rows.length ≤ 536870912) : FnNew Tryz.prog 102 [.d (.sl 5 rows)] 118 5 rows := by
 refine fnNew_of tbl_ok mixed_ok Tryz.func102 rfl (by kernel_rfl) rfl rfl fun w0 own0 => ?_
 cases rows with
 | nil =>
  refine CW.empty 0 rfl fun p cp => ?_
  cases p with
  | none =>
   try refine wk ?_
   exact RetNew.nil rfl rfl
  | some ad =>
   have hst0 : StopR 3 := ⟨rfl⟩
   try refine wkS ?_
   clear hst0
   refine Stop.go (CW.stut (stut_nilv (i := 0) (k := 5)) ⟨rfl,trivial⟩ ?_)
   try refine wk ?_
   exact RetNew.own rfl rfl rfl
 | cons r rows =>
  have hl2 : rows.length ≤ 536870911 := by simp at hl;omega
  try refine wk ?_
  exact RetNew.own rfl rfl (by simp)
theorem ok_clone_ins (rows : List (List D)) (hl : rows.length ≤ 536870912) : FnOk Tryz.prog 102 [.d (.sl 5 rows)] (.one (.sl 5 rows)) := (new_clone_ins rows hl).ok
theorem ok_deedOwn (d : Deed) (hs : d.Sm) : FnOk Tryz.prog 65 [.d (.agg d.enc)] (.one (.agg d.enc)) := by
 refine fnOk_of tbl_ok mixed_ok Tryz.func65 rfl (by kernel_rfl) rfl rfl fun w0 own0 => ?_
 have h1 := hs.r
 have h2 := hs.w
 have h3 := hs.c
 have c1 := ok_clone_str (d.reads.map encStr1) (by simp;omega)
 have c2 := ok_clone_str (d.writes.map encStr1) (by simp;omega)
 have c3 := ok_clone_ins (d.code.map Ins.enc) (by simp;omega)
 repeat (first|refine wa ?_|((with_reducible apply s5);(first|exact a_call c1 rfl by_sub|exact a_call c2 rfl by_sub|exact by_oa|exact by_ca);exact by_g)|refine wb ?_)
 exact .one (.cell rfl rfl rfl rfl (.aggd (ds := d.enc) rfl (.refl _)))
end Go.Proofs.YtmnociojijpdmaaGreatDoor
namespace Go.Proofs.YtmnociojijpdmaaGreatDoor
open Go.AX Go.RF Go.RowKit
set_option maxRecDepth 100000
set_option maxHeartbeats 8000000
def putS (k : Str) (n : Int) : List Pair → List Pair
 | [] => [⟨k,n⟩]
 | p :: r => if p.key = k then ⟨k,n⟩ :: r else if slt p.key k = true then p :: putS k n r else ⟨k,n⟩ :: p :: r
def dropS (k : Str) : List Pair → List Pair
 | [] => []
 | p :: r => if p.key = k then r else p :: dropS k r
theorem dropS_none {k : Str} : ∀ {l : List Pair},(∀ p ∈ l,p.key ≠ k) → dropS k l = l
 | [],_ => rfl
 | d :: l,h => by
  simp only [dropS]
  rw [if_neg (h d (List.mem_cons_self ..)),dropS_none fun p hp => h p (List.mem_cons_of_mem _ hp)]
theorem putGo_done {k : Str} {n : Int} {h : Bool} : ∀ {l out : List Pair},(∀ p ∈ l,p.key ≠ k) → putGo k n h true out l = out ++ l
 | [],out,_ => by simp [putGo]
 | p :: l,out,hl => by
  simp only [putGo]
  rw [if_neg (hl p (List.mem_cons_self ..))]
  simp only [Bool.true_or,Bool.not_true,Bool.false_and,Bool.false_eq_true,if_false]
  rw [putGo_done fun q hq => hl q (List.mem_cons_of_mem _ hq)]
  simp
theorem putGo_srt {k : Str} {n : Int} {h : Bool} : ∀ {l out : List Pair},Srt Pair.key l → putGo k n h false out l = out ++ (if h = true then putS k n l else dropS k l)
 | [],out,_ => by cases h <;> simp [putGo,putS,dropS]
 | p :: l,out,hs => by
  obtain ⟨h1,h2⟩ := List.pairwise_cons.1 hs
  cases hl : slt p.key k with
  | true =>
   have hk : p.key ≠ k := slt_ne hl
   simp only [putGo,hl]
   rw [if_neg hk]
   simp only [Bool.not_true,Bool.or_false,Bool.not_false,Bool.and_false,Bool.false_and,Bool.false_eq_true,if_false]
   rw [putGo_srt h2]
   cases h <;> simp [putS,dropS,hk,hl]
  | false =>
   have hne : ∀ q ∈ l,q.key ≠ k := fun q hq e => by
    have h3 := h1 q hq
    rw [e] at h3
    rw [h3] at hl;cases hl
   simp only [putGo,hl]
   simp only [Bool.not_false,Bool.or_true,Bool.true_and,Bool.and_true]
   rw [putGo_done hne]
   by_cases hk : p.key = k
   ·
    cases h <;> simp [putS,dropS,hk]
   ·
    cases h <;> simp [putS,dropS,hk,hl,dropS_none hne]
theorem put_true {l : List Pair} (hs : Srt Pair.key l) (k : Str) (n : Int) : put l k n true = putS k n l := by
 unfold put;rw [putGo_srt hs];rfl
theorem put_false {l : List Pair} (hs : Srt Pair.key l) (k : Str) (n : Int) : put l k n false = dropS k l := by
 unfold put;rw [putGo_srt hs];rfl
theorem putS_mem {k : Str} {n : Int} : ∀ {l : List Pair} {p : Pair},p ∈ putS k n l → p ∈ l ∨ p = ⟨k,n⟩
 | [],p,h => by simp [putS] at h;exact .inr h
 | q :: l,p,h => by
  simp only [putS] at h
  split at h
  ·
   rcases List.mem_cons.1 h with h | h
   ·
    exact .inr h
   ·
    exact .inl (List.mem_cons_of_mem _ h)
  ·
   split at h
   ·
    rcases List.mem_cons.1 h with h | h
    ·
     exact .inl (h ▸ List.mem_cons_self ..)
    ·
     rcases putS_mem h with h | h
     ·
      exact .inl (List.mem_cons_of_mem _ h)
     ·
      exact .inr h
   ·
    rcases List.mem_cons.1 h with h | h
    ·
     exact .inr h
    ·
     exact .inl h
theorem dropS_sub {k : Str} : ∀ l : List Pair,(dropS k l).Sublist l
 | [] => List.Sublist.slnil
 | p :: l => by
  simp only [dropS]
  split
  ·
   exact List.sublist_cons_self ..
  ·
   exact (dropS_sub l).cons_cons _
theorem putS_srt {k : Str} {n : Int} : ∀ {l : List Pair},Srt Pair.key l → Srt Pair.key (putS k n l)
 | [],_ => List.pairwise_singleton ..
 | c :: l,hs => by
  obtain ⟨h1,h2⟩ := List.pairwise_cons.1 hs
  simp only [putS]
  by_cases hk : c.key = k
  ·
   rw [if_pos hk]
   exact List.pairwise_cons.2 ⟨fun d hd => by show slt k d.key = true;rw [← hk];exact h1 d hd,h2⟩
  ·
   rw [if_neg hk]
   split
   ·
    next h3 =>
    refine List.pairwise_cons.2 ⟨fun d hd => ?_,putS_srt h2⟩
    rcases putS_mem hd with h | rfl
    ·
     exact h1 d h
    ·
     exact h3
   ·
    next h3 =>
    have h4 : slt k c.key = true := by
     rcases slt_tri c.key k with h | h | h
     ·
      exact absurd h h3
     ·
      exact absurd h hk
     ·
      exact h
    refine List.pairwise_cons.2 ⟨fun d hd => ?_,hs⟩
    rcases List.mem_cons.1 hd with rfl | hd
    ·
     exact h4
    ·
     exact slt_trans h4 (h1 d hd)
theorem dropS_srt {k : Str} {l : List Pair} (hs : Srt Pair.key l) : Srt Pair.key (dropS k l) := hs.sublist (dropS_sub l)
end Go.Proofs.YtmnociojijpdmaaGreatDoor
namespace Go.Proofs.YtmnociojijpdmaaGreatDoor
open Go.AX Go.RF
def VSrt (l : List Version) : Prop := l.Pairwise fun a b => a.by_ < b.by_
theorem VSrt.cons {v : Version} {l : List Version} : VSrt (v :: l) ↔ (∀ w ∈ l,v.by_ < w.by_) ∧ VSrt l := List.pairwise_cons
theorem allB_refl {α : Type} {f : α → α → Bool} (hf : ∀ a,f a a = true) : ∀ l : List α,allB f l l = true
 | [] => rfl
 | a :: l => by simp [allB,hf,allB_refl hf l]
structure SInv (e : Engine) : Prop where
 k : Srt Chain.key e.chains
 v : ∀ c ∈ e.chains,VSrt c.vs
 b : ∀ c ∈ e.chains,∀ v ∈ c.vs,v.by_ < e.base + e.deeds.length
theorem get_put {k k' : Str} {n : Int} : ∀ {l : List Pair},RF.get (putS k n l) k' = if k = k' then (n,true) else RF.get l k'
 | [] => by simp [putS,RF.get]
 | p :: l => by
  simp only [putS]
  by_cases hk : p.key = k
  ·
   rw [if_pos hk]
   simp only [RF.get]
   by_cases h : k = k'
   ·
    simp [h]
   ·
    rw [if_neg h,if_neg h,if_neg (by rw [hk];exact h)]
  ·
   rw [if_neg hk]
   split
   ·
    simp only [RF.get]
    rw [get_put]
    by_cases h : p.key = k'
    ·
     rw [if_pos h,if_neg (fun e => hk (by rw [h,e])),if_pos h]
    ·
     rw [if_neg h,if_neg h]
   ·
    simp only [RF.get]
theorem get_absent {k : Str} : ∀ {l : List Pair},(∀ p ∈ l,p.key ≠ k) → RF.get l k = (0,false)
 | [],_ => rfl
 | p :: l,h => by
  simp only [RF.get]
  rw [if_neg (h p (List.mem_cons_self ..)),get_absent fun q hq => h q (List.mem_cons_of_mem _ hq)]
theorem srt_absent {p : Pair} {l : List Pair} (hs : Srt Pair.key (p :: l)) : ∀ q ∈ l,q.key ≠ p.key := fun q hq e => by
 have := (List.pairwise_cons.1 hs).1 q hq
 rw [e,slt_irrefl] at this;cases this
theorem get_drop {k k' : Str} : ∀ {l : List Pair},Srt Pair.key l → RF.get (dropS k l) k' = if k = k' then (0,false) else RF.get l k'
 | [],_ => by simp [dropS,RF.get]
 | p :: l,hs => by
  simp only [dropS]
  by_cases hk : p.key = k
  ·
   rw [if_pos hk]
   by_cases h : k = k'
   ·
    rw [if_pos h]
    exact get_absent fun q hq => by rw [← h,← hk];exact srt_absent hs q hq
   ·
    rw [if_neg h]
    simp only [RF.get]
    rw [if_neg (by rw [hk];exact h)]
  ·
   rw [if_neg hk]
   simp only [RF.get]
   rw [get_drop (List.pairwise_cons.1 hs).2]
   by_cases h : p.key = k'
   ·
    rw [if_pos h,if_neg (fun e => hk (by rw [h,e])),if_pos h]
   ·
    rw [if_neg h,if_neg h]
theorem srt_ext : ∀ {l r : List Pair},Srt Pair.key l → Srt Pair.key r → (∀ p,p ∈ l ↔ p ∈ r) → l = r
 | [],[],_,_,_ => rfl
 | [],q :: r,_,_,h => by have := (h q).2 (List.mem_cons_self ..);simp at this
 | p :: l,[],_,_,h => by have := (h p).1 (List.mem_cons_self ..);simp at this
 | p :: l,q :: r,hl,hr,h => by
  obtain ⟨l1,l2⟩ := List.pairwise_cons.1 hl
  obtain ⟨r1,r2⟩ := List.pairwise_cons.1 hr
  have hpq : p = q := by
   rcases List.mem_cons.1 ((h p).1 (List.mem_cons_self ..)) with e | e
   ·
    exact e
   ·
    rcases List.mem_cons.1 ((h q).2 (List.mem_cons_self ..)) with e' | e'
    ·
     exact e'.symm
    ·
     have := slt_trans (l1 q e') (r1 p e)
     rw [slt_irrefl] at this;cases this
  subst hpq
  congr 1
  refine srt_ext l2 r2 fun x => ⟨fun hx => ?_,fun hx => ?_⟩
  ·
   rcases List.mem_cons.1 ((h x).1 (List.mem_cons_of_mem _ hx)) with e | e
   ·
    subst e;have := l1 x hx;rw [slt_irrefl] at this;cases this
   ·
    exact e
  ·
   rcases List.mem_cons.1 ((h x).2 (List.mem_cons_of_mem _ hx)) with e | e
   ·
    subst e;have := r1 x hx;rw [slt_irrefl] at this;cases this
   ·
    exact e
def alpha : List UInt8 := [97,98,99,100,101,102,103,104,105,106,107,108,109,110,111,112,113,114,115,116,117,118,119,120,121,122]
theorem alpha_bad (c : UInt8) : alpha.contains c = !bad c := by
 have h : ∀ n : Fin 256,alpha.contains (UInt8.ofFin n) = !bad (UInt8.ofFin n) := by decide +kernel
 have := h c.toFin
 rwa [UInt8.ofFin_toFin] at this
theorem dropWhile_nil {p : UInt8 → Bool} : ∀ {l : List UInt8},l.dropWhile p = [] ↔ ∀ x ∈ l,p x = true
 | [] => by simp
 | x :: l => by
  cases h : p x with
  | true => rw [List.dropWhile_cons_of_pos h,dropWhile_nil];simp [h]
  | false => rw [List.dropWhile_cons_of_neg (by simp [h])];simp [h]
theorem dropWhile_head {p : UInt8 → Bool} : ∀ {l r : List UInt8} {x : UInt8},l.dropWhile p = x :: r → p x = false
 | [],r,x,h => by simp at h
 | y :: l,r,x,h => by
  cases hy : p y with
  | true => rw [List.dropWhile_cons_of_pos hy] at h;exact dropWhile_head h
  | false => rw [List.dropWhile_cons_of_neg (by simp [hy])] at h;cases h;exact hy
theorem trim_nil {l cs : List UInt8} : Lib.trimS l cs = [] ↔ ∀ x ∈ l,cs.contains x = true := by
 unfold Lib.trimS Lib.trimLeftS Lib.trimRightS
 rw [dropWhile_nil]
 constructor
 ·
  intro h
  have h1 : l.reverse.dropWhile (cs.contains ·) = [] := by
   cases h2 : l.reverse.dropWhile (cs.contains ·) with
   | nil => rfl
   | cons x r =>
    have h3 := dropWhile_head h2
    have h4 := h x (by rw [h2];simp)
    rw [h3] at h4;cases h4
  intro x hx
  exact dropWhile_nil.1 h1 x (by simpa using hx)
 ·
  intro h x hx
  have h1 : l.reverse.dropWhile (cs.contains ·) = [] := dropWhile_nil.2 fun x hx => h x (by simpa using hx)
  rw [h1] at hx;simp at hx
theorem keyGo_eq {s : Str} : ∀ {r : Str},keyGo s r = ((r.all fun c => !bad c) && (decide (0 < s.length) && decide (s.length < 7)))
 | [] => by simp [keyGo]
 | c :: r => by
  simp only [keyGo,List.all_cons]
  rw [keyGo_eq]
  cases bad c <;> simp
theorem key_trim (s : Str) : key s = (decide (1 ≤ s.length) && (decide (s.length ≤ 6) && decide (Lib.trimS s alpha = []))) := by
 unfold key
 rw [keyGo_eq]
 have h1 : (s.all fun c => !bad c) = decide (Lib.trimS s alpha = []) := by
  rw [Bool.eq_iff_iff,decide_eq_true_eq,trim_nil,List.all_eq_true]
  simp only [alpha_bad]
 rw [h1]
 have h2 : decide (0 < s.length) = decide (1 ≤ s.length) := by congr 1
 have h3 : decide (s.length < 7) = decide (s.length ≤ 6) := by congr 1;exact propext ⟨fun h => by omega,fun h => by omega⟩
 rw [h2,h3]
 cases decide (Lib.trimS s alpha = []) <;> cases decide (1 ≤ s.length) <;> cases decide (s.length ≤ 6) <;> rfl
theorem get_mem_some {k : Str} : ∀ {l : List Pair} {n : Int},RF.get l k = (n,true) → (⟨k,n⟩ : Pair) ∈ l
 | [],n,h => by simp [RF.get] at h
 | p :: l,n,h => by
  simp only [RF.get] at h
  by_cases hk : p.key = k
  ·
   rw [if_pos hk] at h
   cases h
   rw [← hk]
   exact List.mem_cons_self ..
  ·
   rw [if_neg hk] at h
   exact List.mem_cons_of_mem _ (get_mem_some h)
theorem get_of_mem {p : Pair} : ∀ {l : List Pair},Srt Pair.key l → p ∈ l → RF.get l p.key = (p.n,true)
 | q :: l,hs,h => by
  simp only [RF.get]
  rcases List.mem_cons.1 h with rfl | h
  ·
   rw [if_pos rfl]
  ·
   have := srt_absent hs p h
   rw [if_neg (fun e => this e.symm),get_of_mem (List.pairwise_cons.1 hs).2 h]
theorem get_ext {l r : List Pair} (hl : Srt Pair.key l) (hr : Srt Pair.key r) (h : ∀ k,RF.get l k = RF.get r k) : l = r :=
 srt_ext hl hr fun p => ⟨fun hp => get_mem_some (by rw [← h,get_of_mem hl hp]),fun hp => get_mem_some (by rw [h,get_of_mem hr hp])⟩
def chOf (c : Bool × Int) : Int × Bool := if c.1 = true then (c.2,true) else (0,false)
def chAt (r : List Pair) (m : Mk) (k : Str) : Int × Bool := match mG m k with
 | some c => chOf c
 | none => RF.get r k
def app1 (out : List Pair) (k : Str) (c : Bool × Int) : List Pair := if c.1 = true then putS k c.2 out else dropS k out
def appC : List Pair → List (Str × (Bool × Int)) → List Pair
 | out,[] => out
 | out,x :: r => appC (app1 out x.1 x.2) r
theorem app1_srt {out : List Pair} (h : Srt Pair.key out) (k : Str) (c : Bool × Int) : Srt Pair.key (app1 out k c) := by
 unfold app1;split
 ·
  exact putS_srt h
 ·
  exact dropS_srt h
theorem app1_get {out : List Pair} (h : Srt Pair.key out) (k k' : Str) (c : Bool × Int) : RF.get (app1 out k c) k' = if k = k' then chOf c else RF.get out k' := by
 unfold app1 chOf;split
 ·
  exact get_put
 ·
  exact get_drop h
theorem appC_srt : ∀ {l : List (Str × (Bool × Int))} {out : List Pair},Srt Pair.key out → Srt Pair.key (appC out l)
 | [],out,h => h
 | x :: l,out,h => appC_srt (l := l) (app1_srt h _ _)
theorem appC_get {m : Mk} {k : Str} : ∀ {l : List Str} {out : List Pair},Srt Pair.key out → RF.get (appC out (chg m l)) k = if k ∈ l then chAt out m k else RF.get out k
 | [],out,h => by simp [chg,appC]
 | x :: l,out,h => by
  simp only [chg]
  cases hx : mG m x with
  | none =>
   simp only
   rw [appC_get h]
   by_cases hk : k ∈ l
   ·
    rw [if_pos hk,if_pos (List.mem_cons_of_mem _ hk)]
   ·
    rw [if_neg hk]
    by_cases he : k = x
    ·
     subst he
     rw [if_pos (List.mem_cons_self ..),chAt,hx]
    ·
     rw [if_neg (by simp [he,hk])]
  | some c =>
   simp only [appC]
   rw [appC_get (app1_srt h _ _)]
   by_cases he : x = k
   ·
    subst he
    rw [if_pos (List.mem_cons_self ..),app1_get h,if_pos rfl]
    simp only [chAt,hx,ite_self]
   ·
    have hne : ¬ k = x := fun e => he e.symm
    by_cases hk : k ∈ l
    ·
     rw [if_pos hk,if_pos (List.mem_cons_of_mem _ hk)]
     unfold chAt
     rw [app1_get h,if_neg he]
    ·
     rw [if_neg hk,if_neg (by simp [hne,hk]),app1_get h,if_neg he]
def plainD (r : List Pair) (d : Deed) : List Pair × Done := (appC r (runC (RF.get r) d),(runM (RF.get r) d).2)
theorem see_at {r now : List Pair} {m : Mk} (h : ∀ k,RF.get now k = chAt r m k) (hf : ∀ k c,mG m k = some c → c.1 = false → c.2 = 0) (k : Str) : seeM (RF.get r) m k = (RF.get now k).1 := by
 rw [h k]
 unfold seeM chAt chOf
 cases hm : mG m k with
 | none => rfl
 | some c =>
  dsimp only
  by_cases hc : c.1 = true
  ·
   rw [if_pos hc]
  ·
   rw [if_neg hc]
   exact hf k c hm (by simpa using hc)
structure MInv (r : List Pair) (W : List Str) (m : Mk) (now : List Pair) : Prop where
 s : Srt Pair.key now
 a : ∀ k,RF.get now k = chAt r m k
 f : ∀ k c,mG m k = some c → c.1 = false → c.2 = 0
 w : ∀ k c,mG m k = some c → k ∈ W
theorem MInv.set {r now : List Pair} {W : List Str} {m : Mk} (h : MInv r W m now) {k : Str} (hk : k ∈ W) (c : Bool × Int) (hc : c.1 = false → c.2 = 0) : MInv r W (mS m k c) (app1 now k c) := by
 refine ⟨app1_srt h.s k c,fun k' => ?_,fun k' c' hm => ?_,fun k' c' hm => ?_⟩
 ·
  rw [app1_get h.s]
  unfold chAt
  rw [mG_mS]
  by_cases he : k = k'
  ·
   rw [if_pos he,if_pos he]
  ·
   rw [if_neg he,if_neg he]
   exact h.a k'
 ·
  rw [mG_mS] at hm
  split at hm
  ·
   cases hm;exact hc
  ·
   exact h.f k' c' hm
 ·
  rw [mG_mS] at hm
  split at hm
  ·
   next he => rw [← he];exact hk
  ·
   exact h.w k' c' hm
theorem run_do {r : List Pair} {W : List Str} : ∀ {l : List Ins} {sk : Int} {m : Mk} {e : Done} {now : List Pair},MInv r W m now → e.failed = false → (∀ i ∈ l,(i.kind = 6 ∨ i.kind = 7) → i.key ∈ W) →
  (runGo (RF.get r) sk m e l).2 = (doGo r sk now e l).2 ∧ ((doGo r sk now e l).2.failed = true → (doGo r sk now e l).1 = r) ∧ ((doGo r sk now e l).2.failed = false → MInv r W (runGo (RF.get r) sk m e l).1 (doGo r sk now e l).1)
 | [],sk,m,e,now,h,he,hw => by
  simp only [runGo,doGo]
  exact ⟨trivial,fun hf => by rw [he] at hf;exact absurd hf (by simp),fun _ => h⟩
 | i :: l,sk,m,e,now,h,he,hw => by
  have hl : ∀ i ∈ l,(i.kind = 6 ∨ i.kind = 7) → i.key ∈ W := fun j hj => hw j (List.mem_cons_of_mem _ hj)
  simp only [runGo,doGo]
  rw [see_at h.a h.f]
  by_cases h0 : 0 < sk
  ·
   rw [if_pos h0,if_pos h0];exact run_do h he hl
  rw [if_neg h0,if_neg h0]
  have hr : ∀ k x,(rset e k x).failed = false := fun k x => by rw [rset_failed];exact he
  by_cases h1 : i.kind = 1
  ·
   rw [if_pos h1,if_pos h1];exact run_do h (hr _ _) hl
  rw [if_neg h1,if_neg h1]
  by_cases h2 : i.kind = 2
  ·
   rw [if_pos h2,if_pos h2];exact run_do h (hr _ _) hl
  rw [if_neg h2,if_neg h2]
  by_cases h3 : i.kind = 3
  ·
   rw [if_pos h3,if_pos h3];exact run_do h (hr _ _) hl
  rw [if_neg h3,if_neg h3]
  by_cases h4 : i.kind = 4
  ·
   rw [if_pos h4,if_pos h4];exact run_do h (hr _ _) hl
  rw [if_neg h4,if_neg h4]
  by_cases h5 : i.kind = 5
  ·
   rw [if_pos h5,if_pos h5];exact run_do h (hr _ _) hl
  rw [if_neg h5,if_neg h5]
  by_cases h6 : i.kind = 6
  ·
   rw [if_pos h6,if_pos h6,put_true h.s]
   have := h.set (hw i (List.mem_cons_self ..) (.inl h6)) (true,rget e i.a.toNat) (by simp)
   exact run_do this he hl
  rw [if_neg h6,if_neg h6]
  by_cases h7 : i.kind = 7
  ·
   rw [if_pos h7,if_pos h7,put_false h.s]
   have := h.set (hw i (List.mem_cons_self ..) (.inr h7)) (false,0) (by simp)
   exact run_do this he hl
  rw [if_neg h7,if_neg h7]
  by_cases h8 : i.kind = 8
  ·
   rw [if_pos h8,if_pos h8];exact run_do h he hl
  rw [if_neg h8,if_neg h8]
  by_cases h9 : rget e i.a.toNat < 0
  ·
   rw [if_pos h9,if_pos h9]
   exact ⟨rfl,fun _ => rfl,fun hf => by simp [bustE] at hf⟩
  ·
   rw [if_neg h9,if_neg h9];exact run_do h he hl
theorem plain_do {r : List Pair} {d : Deed} (hs : Srt Pair.key r) (hw : ∀ i ∈ d.code,(i.kind = 6 ∨ i.kind = 7) → i.key ∈ d.writes) : plainD r d = doD r d := by
 obtain ⟨h1,h2,h3⟩ := run_do (r := r) (W := d.writes) (l := d.code) (sk := 0) (m := []) (e := done0) (now := r) ⟨hs,fun k => rfl,fun k c h => by simp [mG] at h,fun k c h => by simp [mG] at h⟩ rfl hw
 unfold plainD doD
 refine Prod.ext ?_ h1
 dsimp only
 unfold runC
 by_cases hf : (runM (RF.get r) d).2.failed = true
 ·
  rw [if_pos hf]
  have hf' : (doGo r 0 r done0 d.code).2.failed = true := by rw [← h1];exact hf
  rw [h2 hf'];rfl
 ·
  rw [if_neg hf]
  have hf' : (doGo r 0 r done0 d.code).2.failed = false := by rw [← h1];exact Bool.eq_false_iff.2 hf
  have h := h3 hf'
  refine get_ext (appC_srt hs) h.s fun k => ?_
  rw [appC_get hs,h.a k]
  by_cases hk : k ∈ d.writes
  ·
   rw [if_pos hk];rfl
  ·
   rw [if_neg hk]
   unfold chAt
   cases hm : mG (runGo (RF.get r) 0 [] done0 d.code).1 k with
   | none => rfl
   | some c => exact absurd (h.w k c hm) hk
theorem doD_srt {r : List Pair} {d : Deed} (hs : Srt Pair.key r) (hw : ∀ i ∈ d.code,(i.kind = 6 ∨ i.kind = 7) → i.key ∈ d.writes) : Srt Pair.key (doD r d).1 := by
 rw [← plain_do hs hw];exact appC_srt hs
theorem isIn_true {s : Str} : ∀ {l : List Str},isIn l s = true → s ∈ l
 | [],h => by cases h
 | x :: l,h => by
  simp only [isIn] at h
  by_cases hx : x = s
  ·
   rw [hx];exact List.mem_cons_self ..
  ·
   rw [if_neg hx] at h
   exact List.mem_cons_of_mem _ (isIn_true h)
theorem wrongIns_keyed {d : Deed} {m : Int} {i : Ins} (h : wrongIns d m i = 0) (hk : i.kind = 6 ∨ i.kind = 7) : i.key ∈ d.writes := by
 unfold wrongIns at h
 have hkk : ¬ (i.kind < 1 ∨ 9 < i.kind) := by omega
 rw [if_neg hkk] at h
 have hh : has i.kind.toNat 107 = true := by rcases hk with e | e <;> rw [e] <;> decide
 split at h
 ·
  simp at h
 ·
  rw [if_neg (by rw [hh];simp),if_neg (show ¬ i.kind = 1 by omega)] at h
  split at h
  ·
   next hi => exact isIn_true hi
  ·
   simp at h
theorem wrong_keyed {d : Deed} (h : wrongDeed d = 0) : ∀ i ∈ d.code,(i.kind = 6 ∨ i.kind = 7) → i.key ∈ d.writes := by
 intro i hi
 unfold wrongDeed at h
 by_cases h0 : lsGo [d.reads,d.writes] = 0
 ·
  rw [if_pos h0] at h
  by_cases hc : 12 < d.code.length
  ·
   rw [if_pos hc] at h;simp at h
  ·
   rw [if_neg hc] at h
   obtain ⟨j,hj⟩ := List.getElem?_of_mem hi
   exact wrongIns_keyed (codeGo_mem h j i hj)
 ·
  rw [if_neg h0] at h;exact absurd h h0
theorem keysGo_key {l : List Str} : ∀ {r : List Str} {i : Nat},keysGo l i r = 0 → ∀ k ∈ r,key k = true
 | [],_,_,k,hk => by cases hk
 | x :: r,i,h,k,hk => by
  simp only [keysGo] at h
  split at h
  ·
   cases h
  ·
   next hx =>
   split at h
   ·
    cases h
   ·
    rcases List.mem_cons.1 hk with rfl | hk
    ·
     simpa using hx
    ·
     exact keysGo_key h k hk
theorem wrong_key {d : Deed} (h : wrongDeed d = 0) : (∀ k ∈ d.reads,key k = true) ∧ ∀ k ∈ d.writes,key k = true := by
 unfold wrongDeed at h
 split at h
 ·
  next h0 =>
  simp only [lsGo] at h0
  split at h0
  ·
   next h1 =>
   split at h0
   ·
    next h2 =>
    unfold keysWrong at h1 h2
    split at h1
    ·
     cases h1
    split at h2
    ·
     cases h2
    exact ⟨keysGo_key h1,keysGo_key h2⟩
   ·
    next h2 => exact absurd h0 h2
  ·
   next h1 => exact absurd h0 h1
 ·
  next h0 => exact absurd h h0
theorem nDigits_le : ∀ (k u : Nat),u < 10 ^ (k + 1) → Lib.nDigits u ≤ k + 1
 | 0,u,h => by unfold Lib.nDigits;rw [dif_pos (by simpa using h)];exact Nat.le_refl _
 | k + 1,u,h => by
  unfold Lib.nDigits
  split
  ·
   omega
  ·
   have := nDigits_le k (u / 10) (by rw [Nat.pow_succ] at h;omega)
   omega
theorem itoa_small {n : Int} (h0 : 0 ≤ n) (h1 : n ≤ 3) : (Lib.itoa n).length ≤ 1 := by
 unfold Lib.itoa
 rw [if_neg (by omega),Lib.decDigits_length]
 exact nDigits_le 0 _ (by omega)
theorem itoa_mid {n : Int} (h0 : -1073741824 ≤ n) (h1 : n ≤ 1073741824) : (Lib.itoa n).length ≤ 11 := by
 unfold Lib.itoa
 split
 ·
  rw [List.length_cons,Lib.decDigits_length]
  have := nDigits_le 9 n.natAbs (by omega)
  omega
 ·
  rw [Lib.decDigits_length]
  have := nDigits_le 9 n.toNat (by omega)
  omega
theorem tailS_le {sep : Str} {m : Nat} : ∀ {l : List Str},(∀ w ∈ l,w.length ≤ m) → (tailS sep l).length ≤ l.length * (sep.length + m)
 | [],_ => by simp [tailS]
 | w :: l,h => by
  have h1 := h w (List.mem_cons_self ..)
  have h2 := tailS_le (sep := sep) (l := l) fun x hx => h x (List.mem_cons_of_mem _ hx)
  simp only [tailS,List.length_append,List.length_cons]
  rw [Nat.add_mul,Nat.one_mul]
  omega
theorem wrongIns_key {d : Deed} {m : Int} {i : Ins} (h : wrongIns d m i = 0) : i.key = [] ∨ i.key ∈ d.reads ∨ i.key ∈ d.writes := by
 unfold wrongIns at h
 split at h
 ·
  cases h
 split at h
 ·
  cases h
 split at h
 ·
  split at h
  ·
   next h1 => exact .inl h1
  ·
   cases h
 ·
  by_cases hx : isIn (if i.kind = 1 then d.reads else d.writes) i.key = true
  ·
   have := isIn_true hx
   split at this
   ·
    exact .inr (.inl this)
   ·
    exact .inr (.inr this)
  ·
   rw [if_neg hx] at h;cases h
theorem insW_len {d : Deed} (h : wrongDeed d = 0) {i : Ins} (hi : i ∈ d.code) : (joinS [32] (insW i)).length ≤ 20 := by
 have hok := (wrongDeed_ok h).i i hi
 have hn := wrong_n h i hi
 have hkey : i.key.length ≤ 6 := by
  have hw : ∃ m,wrongIns d m i = 0 := by
   unfold wrongDeed at h
   split at h
   ·
    split at h
    ·
     cases h
    ·
     obtain ⟨j,hj⟩ := List.getElem?_of_mem hi
     exact ⟨_,codeGo_mem h j i hj⟩
   ·
    next h1 => exact absurd h h1
  obtain ⟨m,hm⟩ := hw
  obtain ⟨h1,h2⟩ := wrong_key h
  rcases wrongIns_key hm with h3 | h3 | h3
  ·
   rw [h3];simp
  ·
   exact key_len (h1 _ h3)
  ·
   exact key_len (h2 _ h3)
 have ha := itoa_small hok.a.1 hok.a.2
 have hb := itoa_small hok.b.1 hok.b.2
 have hnn := itoa_mid hn.1 hn.2
 have hk := hok.k
 rw [insW_eq]
 obtain ⟨k,a,b,n,key⟩ := i
 dsimp only at hk hkey ha hb hnn
 obtain ⟨K,rfl⟩ := Int.eq_ofNat_of_zero_le (show 0 ≤ k by omega)
 rw [Int.toNat_natCast]
 match K,hk with
 | 0,hk => omega
 | 1,_ => simp [words,form,forms,tailS,fieldW];omega
 | 2,_ => simp [words,form,forms,tailS,fieldW];omega
 | 3,_ => simp [words,form,forms,tailS,fieldW];omega
 | 4,_ => simp [words,form,forms,tailS,fieldW];omega
 | 5,_ => simp [words,form,forms,tailS,fieldW];omega
 | 6,_ => simp [words,form,forms,tailS,fieldW];omega
 | 7,_ => simp [words,form,forms,tailS,fieldW];omega
 | 8,_ => simp [words,form,forms,tailS,fieldW];omega
 | 9,_ => simp [words,form,forms,tailS,fieldW];omega
 | K + 10,hk => omega
theorem printD_len {d : Deed} (h : wrongDeed d = 0) : (printD d).length ≤ 400 := by
 have hok := wrongDeed_ok h
 obtain ⟨h1,h2⟩ := wrong_key h
 have hr := tailS_le (sep := [32]) (m := 6) fun w hw => key_len (h1 w hw)
 have hw := tailS_le (sep := [32]) (m := 6) fun w hw => key_len (h2 w hw)
 have hc := tailS_le (sep := [59,32]) (m := 20) (l := d.code.map fun i => joinS [32] (insW i)) fun w hw => by
  obtain ⟨i,hi,rfl⟩ := List.mem_map.1 hw
  exact insW_len h hi
 have l1 := hok.r
 have l2 := hok.w
 have l3 := hok.c
 rw [printD_eq]
 simp only [List.length_append,List.length_map,List.length_cons,List.length_nil] at *
 have e1 : wReads.length = 5 := rfl
 have e2 : wWrites.length = 6 := rfl
 omega
theorem splitF_join {sep : Str} : ∀ (n : Nat) (cur r : Str),joinS sep (splitF sep n cur r) = cur ++ r
 | 0,cur,r => rfl
 | n + 1,cur,r => by
  simp only [splitF]
  split
  ·
   rfl
  ·
   next h1 =>
   split
   ·
    next h2 =>
    rw [joinS_cons]
    have ih := splitF_join (sep := sep) n [] (r.drop sep.length)
    have hne := splitF_ne sep n [] (r.drop sep.length)
    cases hs : splitF sep n [] (r.drop sep.length) with
    | nil => exact absurd hs hne
    | cons x y =>
     rw [hs,joinS_cons] at ih
     simp only [tailS]
     rw [ih,List.nil_append]
     conv => rhs;rw [← List.take_append_drop sep.length r,h2]
   ·
    cases r with
    | nil => simp [joinS]
    | cons c t =>
     show joinS sep (splitF sep n (cur ++ [c]) t) = _
     rw [splitF_join n (cur ++ [c]) t];simp
theorem split_join_id (s sep : Str) : joinS sep (split s sep) = s := splitF_join s.length [] s
theorem numV_eq {w : Str} {n : Int} (h : numV w = some n) : Lib.itoa n = w := by
 unfold numV at h
 split at h
 ·
  split at h
  ·
   next hy => cases h;exact hy
  ·
   cases h
 ·
  cases h
theorem regV_eq {w : Str} {n : Int} (h : regV w = some n) : (114 :: Lib.itoa n) = w := by
 match w,h with
 | [],h => simp [regV] at h
 | c :: r,h =>
  by_cases hc : c = 114
  ·
   subst hc;rw [numV_eq (show numV r = some n from h)]
  ·
   unfold regV at h
   split at h
   ·
    next r' he => cases he;exact absurd rfl hc
   ·
    cases h
theorem kindOf_word {w : Str} (h : kindOf w ≠ 0) : words.getD (kindOf w).toNat [] = w ∧ kindOf w < 10 ∧ 0 ≤ kindOf w := by
 by_cases h1 : w = [108,111,97,100]
 ·
  subst h1;decide
 by_cases h2 : w = [99,111,110,115,116]
 ·
  subst h2;decide
 by_cases h3 : w = [97,100,100]
 ·
  subst h3;decide
 by_cases h4 : w = [115,117,98]
 ·
  subst h4;decide
 by_cases h5 : w = [109,117,108]
 ·
  subst h5;decide
 by_cases h6 : w = [115,116,111,114,101]
 ·
  subst h6;decide
 by_cases h7 : w = [100,114,111,112]
 ·
  subst h7;decide
 by_cases h8 : w = [115,107,105,112]
 ·
  subst h8;decide
 by_cases h9 : w = [102,97,105,108]
 ·
  subst h9;decide
 exact absurd (by
  unfold kindOf
  simp [words,kindGo,Ne.symm h1,Ne.symm h2,Ne.symm h3,Ne.symm h4,Ne.symm h5,Ne.symm h6,Ne.symm h7,Ne.symm h8,Ne.symm h9]) h
theorem fill_kind : ∀ {f : Str} {ws : List Str} {i i' : Ins},fillI i f ws = some i' → i'.kind = i.kind
 | [],ws,i,i',h => by simp only [fillI,Option.some.injEq] at h;rw [h]
 | c :: f,[],i,i',h => by simp only [fillI,Option.some.injEq] at h;rw [h]
 | c :: f,w :: ws,i,i',h => by
  simp only [fillI] at h
  split at h
  ·
   exact (fill_kind h).trans rfl
  split at h
  ·
   split at h
   ·
    exact (fill_kind h).trans rfl
   ·
    cases h
  ·
   split at h
   ·
    split at h
    ·
     exact (fill_kind h).trans rfl
    ·
     exact (fill_kind h).trans rfl
   ·
    cases h
theorem f_rk {k : Int} {ws : List Str} {i : Ins} (hl : ws.length = 2) (hf : fillI ⟨k,0,0,0,[]⟩ [114,107] ws = some i) : [114,107].map (fieldW i) = ws := by
 match ws,hl with
 | [x,y],_ =>
  cases hx : regV x with
  | none => simp [fillI,hx] at hf
  | some a =>
   simp [fillI,hx] at hf
   subst hf
   simp [fieldW,regV_eq hx]
theorem f_rn {k : Int} {ws : List Str} {i : Ins} (hl : ws.length = 2) (hf : fillI ⟨k,0,0,0,[]⟩ [114,110] ws = some i) : [114,110].map (fieldW i) = ws := by
 match ws,hl with
 | [x,y],_ =>
  cases hx : regV x with
  | none => simp [fillI,hx] at hf
  | some a =>
   cases hy : numV y with
   | none => simp [fillI,hx,hy] at hf
   | some b =>
    simp [fillI,hx,hy] at hf
    subst hf
    simp [fieldW,regV_eq hx,numV_eq hy]
theorem f_rs {k : Int} {ws : List Str} {i : Ins} (hl : ws.length = 2) (hf : fillI ⟨k,0,0,0,[]⟩ [114,115] ws = some i) : [114,115].map (fieldW i) = ws := by
 match ws,hl with
 | [x,y],_ =>
  cases hx : regV x with
  | none => simp [fillI,hx] at hf
  | some a =>
   cases hy : regV y with
   | none => simp [fillI,hx,hy] at hf
   | some b =>
    simp [fillI,hx,hy] at hf
    subst hf
    simp [fieldW,regV_eq hx,regV_eq hy]
theorem f_k {k : Int} {ws : List Str} {i : Ins} (hl : ws.length = 1) (hf : fillI ⟨k,0,0,0,[]⟩ [107] ws = some i) : [107].map (fieldW i) = ws := by
 match ws,hl with
 | [x],_ =>
  simp [fillI] at hf
  subst hf
  simp [fieldW]
theorem f_r {k : Int} {ws : List Str} {i : Ins} (hl : ws.length = 1) (hf : fillI ⟨k,0,0,0,[]⟩ [114] ws = some i) : [114].map (fieldW i) = ws := by
 match ws,hl with
 | [x],_ =>
  cases hx : regV x with
  | none => simp [fillI,hx] at hf
  | some a =>
   simp [fillI,hx] at hf
   subst hf
   simp [fieldW,regV_eq hx]
theorem form_word {n : Nat} (h1 : n ≠ 0) (h9 : n < 10) {k : Int} {ws : List Str} {i : Ins} (hl : ws.length = (form n).length) (hf : fillI ⟨k,0,0,0,[]⟩ (form n) ws = some i) : (form n).map (fieldW i) = ws := by
 match n,h1,h9 with
 | 1,_,_ => exact f_rk hl hf
 | 2,_,_ => exact f_rn hl hf
 | 3,_,_ => exact f_rs hl hf
 | 4,_,_ => exact f_rs hl hf
 | 5,_,_ => exact f_rs hl hf
 | 6,_,_ => exact f_rk hl hf
 | 7,_,_ => exact f_k hl hf
 | 8,_,_ => exact f_rn hl hf
 | 9,_,_ => exact f_r hl hf
theorem insE_word {l : List Str} {i : Ins} (h : insE l = .ok i) : insW i = l := by
 match l,h with
 | [],h => simp [insE] at h
 | w :: ws,h =>
  simp only [insE] at h
  split at h
  ·
   cases h
  ·
   next h0 =>
   split at h
   ·
    next hl =>
    split at h
    ·
     next i' hf =>
     cases h
     obtain ⟨hw,h9,hp⟩ := kindOf_word h0
     have hk := fill_kind hf
     dsimp only at hk
     unfold insW
     rw [hk,hw,form_word (n := (kindOf w).toNat) (by omega) (by omega) hl hf]
    ·
     cases h
   ·
    cases h
theorem codeE_words : ∀ {ps : List Str} {l : List Ins},codeE ps = .ok l → (l.map fun i => joinS [32] (insW i)) = ps
 | [],l,h => by simp only [codeE] at h;cases h;rfl
 | p :: ps,l,h => by
  simp only [codeE] at h
  cases hi : insE (split p [32]) with
  | error e => rw [hi] at h;cases h
  | ok i =>
   rw [hi] at h
   dsimp only at h
   cases hr : codeE ps with
   | error e => rw [hr] at h;cases h
   | ok r =>
    rw [hr] at h
    cases h
    rw [List.map_cons,insE_word hi,split_join_id,codeE_words hr]
theorem print_parse {s : Str} {d : Deed} (h : parseE s = .ok d) : printD d = s := by
 unfold parseE at h
 split at h
 ·
  cases h
 split at h
 ·
  next p0 p1 ps hsp =>
  split at h
  ·
   next h0 =>
   split at h
   ·
    next h1 =>
    split at h
    ·
     cases h
    ·
     next code hc =>
     split at h
     ·
      cases h
      have e0 : wReads :: (split p0 [32]).tail = split p0 [32] := by
       cases hx : split p0 [32] with
       | nil => rw [hx] at h0;cases h0
       | cons x y => rw [hx] at h0;cases h0;rfl
      have e1 : wWrites :: (split p1 [32]).tail = split p1 [32] := by
       cases hx : split p1 [32] with
       | nil => rw [hx] at h1;cases h1
       | cons x y => rw [hx] at h1;cases h1;rfl
      unfold printD partsD
      dsimp only
      rw [e0,e1,split_join_id,split_join_id,codeE_words hc,← hsp,split_join_id]
     ·
      cases h
   ·
    cases h
  ·
   cases h
 ·
  cases h
theorem wrong_sm {d : Deed} (h : wrongDeed d = 0) : d.Sm := by
 have hok := wrongDeed_ok h
 obtain ⟨h1,h2⟩ := wrong_key h
 have := hok.r;have := hok.w;have := hok.c
 exact ⟨by omega,by omega,by omega,fun s hs => by have := key_len (h1 s hs);omega,fun s hs => by have := key_len (h2 s hs);omega⟩
theorem insE_err {l : List Str} {e : Int} (h : insE l = .error e) : e ≠ 0 := by
 unfold insE at h
 split at h
 ·
  cases h;decide
 ·
  split at h
  ·
   cases h;decide
  ·
   split at h
   ·
    split at h
    ·
     cases h
    ·
     cases h;decide
   ·
    cases h;decide
theorem codeE_err : ∀ {l : List Str} {e : Int},codeE l = .error e → e ≠ 0
 | [],e,h => by cases h
 | p :: r,e,h => by
  simp only [codeE] at h
  split at h
  ·
   next e' he => cases h;exact insE_err he
  ·
   split at h
   ·
    next e' he => cases h;exact codeE_err he
   ·
    cases h
theorem parseE_err {s : Str} {e : Int} (h : parseE s = .error e) : e ≠ 0 := by
 unfold parseE at h
 split at h
 ·
  cases h;decide
 split at h
 ·
  split at h
  ·
   split at h
   ·
    split at h
    ·
     next e' he => cases h;exact codeE_err he
    ·
     split at h
     ·
      cases h
     ·
      next h1 => cases h;exact h1
   ·
    cases h;decide
  ·
   cases h;decide
 ·
  cases h;decide
theorem parseE_right {s : Str} {d : Deed} (h : parseE s = .ok d) : wrongDeed d = 0 := by
 unfold parseE at h
 split at h
 ·
  cases h
 split at h
 ·
  split at h
  ·
   split at h
   ·
    split at h
    ·
     cases h
    ·
     split at h
     ·
      next h1 => cases h;exact h1
     ·
      cases h
   ·
    cases h
  ·
   cases h
 ·
  cases h
theorem parseR_ok {s : Str} {d : Deed} (h : parseE s = .ok d) : parseR s = (d,0) := by unfold parseR;rw [h];rfl
theorem parseR_err {s : Str} {e : Int} (h : parseE s = .error e) : parseR s = (noDeed,e) := by unfold parseR;rw [h];rfl
set_option maxRecDepth 100000
set_option maxHeartbeats 8000000
def idxS : Nat → List Str → Str → Int
 | _,[],_ => -1
 | i,x :: l,s => if x = s then (i : Int) else idxS (i + 1) l s
theorem idxS_in : ∀ {l : List Str} {i : Nat} {s : Str},decide (0 ≤ idxS i l s) = isIn l s
 | [],i,s => rfl
 | x :: l,i,s => by
  by_cases h : x = s
  ·
   simp only [idxS,isIn,if_pos h];exact decide_eq_true (by omega)
  ·
   simp only [idxS,isIn,if_neg h];exact idxS_in
theorem ok_indexS (l : List Str) (s : Str) (hl : l.length ≤ 1073741824) : FnOk Tryz.prog 130 [.d (encStrs l),.d (dstr s)] (.one (dint (idxS 0 l s))) := by
 refine fnOk_of tbl_ok mixed_ok Tryz.func130 rfl (by kernel_rfl) rfl rfl fun w0 own0 => ?_
 try refine wk ?_
 refine CW.loopT (fun t : Nat => [sd 0 (encStrs l),sd 1 (dstr s),sd 6 (encStrs l),sd 7 (dint l.length),sd 8 (dint t),nxt 0])
  (fun t => t ≤ l.length ∧ idxS t (l.drop t) s = idxS 0 l s) (fun t => l.length - t) 0 ⟨by omega,rfl⟩ ?_ ?_
 ·
  exact by_less
 ·
  rintro t ⟨ht,hI⟩
  rcases drop_case ht with ⟨h1,h2⟩ | ⟨x,h1,h2,h3⟩
  ·
   rw [h1,idxS] at hI
   try refine wk ?_
   rw [← hI]
   exact .one (.tmp rfl (.one (.d (.refl _))))
  ·
   rw [h1,idxS] at hI
   by_cases h : x = s
   ·
    rw [if_pos h] at hI
    have h' : s = x := h.symm
    try refine wk ?_
    rw [← hI]
    exact .one (.tmp rfl (.one (.d (.refl _))))
   ·
    rw [if_neg h] at hI
    have h' : ¬ s = x := fun e => h e.symm
    try refine wk ?_
    refine q_loopT (t + 1) ⟨by omega,hI⟩ (by omega) ?_
    exact by_less
theorem ok_containsS (l : List Str) (s : Str) (hl : l.length ≤ 1073741824) : FnOk Tryz.prog 120 [.d (encStrs l),.d (dstr s)] (.one (dbool (isIn l s))) := by
 refine fnOk_of tbl_ok mixed_ok Tryz.func120 rfl (by kernel_rfl) rfl rfl fun w0 own0 => ?_
 have c1 := ok_indexS l s hl
 try refine wk ?_
 rw [← idxS_in (i := 0)]
 exact .one (.tmp rfl (.one (.d (.refl _))))
end Go.Proofs.YtmnociojijpdmaaGreatDoor
namespace Go.Proofs.YtmnociojijpdmaaGreatDoor
open Go.AX Go.RF Go.RowKit Go.Shelf
attribute [local go_sem] Oper.semAt_some
def verC (v : Version) (j : Nat) : Value := match j with
 | 0 => .int .i64 v.by_
 | 1 => .bool v.made
 | 2 => .bool v.has
 | _ => .int .i64 v.n
def back (vs : List Version) (k : Nat) : List (Nat × Version) := (List.range k).map fun j => (vs.length - 1 - j,vs[vs.length - 1 - j]?.getD ⟨0,false,false,0⟩)
def VerAt (n₀ : Nat) (W : World) (ad : Addr) (vs : List Version) : Prop := ad.block < n₀ ∧ ∀ (i j : Nat) (v : Version),vs[i]? = some v → j < 4 → W.cell? (ad.add (i * 4 + j)) = some (verC v j)
theorem VerAt.below {n₀ : Nat} {A B : World} {ad : Addr} {vs : List Version} (h : VerAt n₀ A ad vs) (hb : Below n₀ A B) : VerAt n₀ B ad vs :=
 ⟨h.1,fun i j v hi hj => (hb.cell (by rw [add_block];exact h.1)).trans (h.2 i j v hi hj)⟩
def Vers (n₀ : Nat) (W : World) (sv : Value) (vs : List Version) : Prop :=
 ∃ p cap,sv = .slice p vs.length cap ∧ (vs = [] ∨ ∃ ad,p = some ad ∧ VerAt n₀ W ad vs)
theorem Vers.below {n₀ : Nat} {A B : World} (h : Below n₀ A B) {sv : Value} {vs : List Version} : Vers n₀ A sv vs → Vers n₀ B sv vs
 | ⟨p,cap,e,.inl h0⟩ => ⟨p,cap,e,.inl h0⟩
 | ⟨p,cap,e,.inr ⟨ad,h1,h2⟩⟩ => ⟨p,cap,e,.inr ⟨ad,h1,h2.below h⟩⟩
theorem Vers.mono {n₀ n₁ : Nat} {A : World} (h : n₀ ≤ n₁) {sv : Value} {vs : List Version} : Vers n₀ A sv vs → Vers n₁ A sv vs
 | ⟨p,cap,e,.inl h0⟩ => ⟨p,cap,e,.inl h0⟩
 | ⟨p,cap,e,.inr ⟨ad,h1,h2⟩⟩ => ⟨p,cap,e,.inr ⟨ad,h1,⟨Nat.lt_of_lt_of_le h2.1 h,h2.2⟩⟩⟩
attribute [local go_sem] Oper.semAt_some
def Box4 (W : World) (B : Nat) (v : Version) : Prop := W.heap[B]? = some (.cells #[.int .i64 v.by_,.bool v.made,.bool v.has,.int .i64 v.n] 83 (0,0))
theorem Box4.lt {W : World} {B : Nat} {v : Version} (h : Box4 W B v) : B < W.heap.size := (Array.getElem?_eq_some_iff.1 h).1
theorem Box4.cells {W : World} {B : Nat} {v : Version} (h : Box4 W B v) : W.cell? ⟨B,0,none⟩ = some (.int .i64 v.by_) ∧ W.cell? ⟨B,1,none⟩ = some (.bool v.made) ∧ W.cell? ⟨B,2,none⟩ = some (.bool v.has) ∧ W.cell? ⟨B,3,none⟩ = some (.int .i64 v.n) := by
 have h' : W.heap[B]? = _ := h
 refine ⟨?_,?_,?_,?_⟩ <;> simp [World.cell?,h']
theorem Box4.kept {W W' : World} {row : Option Nat} {B : Nat} {v : Version} (h : Box4 W B v) (hg : W.grownBy W' row) (hne : some B ≠ row) : Box4 W' B v := (hg.block B h.lt hne).trans h
theorem Box4.alloc {W : World} {B : Nat} {v : Version} (h : Box4 W B v) (o : Obj) : Box4 (W.alloc o) B v := h.kept (World.grownBy_alloc W o none) (by simp)
theorem Box4.below {n : Nat} {W W' : World} {B : Nat} {v : Version} (h : Box4 W B v) (hb : Below n W W') (hB : B < n) : Box4 W' B v := (hb.block B hB).trans h
end Go.Proofs.YtmnociojijpdmaaGreatDoor
namespace Go.Proofs.YtmnociojijpdmaaGreatDoor
open Go.AX Go.RF
structure WInv (e : Engine) : Prop where
 d : ∀ d ∈ e.deeds,wrongDeed d = 0
 n : ∀ c ∈ e.chains,∀ v ∈ c.vs,v.made = false → ∃ (k : Nat) (x : Deed),v.by_ = e.base + k ∧ e.state[k]? = some 0 ∧ e.deeds[k]? = some x ∧ c.key ∈ x.writes
 h : ∀ c ∈ e.chains,∀ v ∈ c.vs,v.has = false → v.n = 0
 l : e.state.length = e.deeds.length
theorem bvs_mem {h : Bool} {b : Int} : ∀ {l : List Version} {out : Version},bvs h b out l = out ∨ (h = true ∧ bvs h b out l ∈ l ∧ (bvs h b out l).by_ < b)
 | [],out => .inl rfl
 | v :: l,out => by
  simp only [bvs]
  rcases bvs_mem (h := h) (b := b) (l := l) (out := if h && decide (v.by_ < b) then v else out) with e | ⟨h1,h2,h3⟩
  ·
   rw [e]
   by_cases hc : (h && decide (v.by_ < b)) = true
   ·
    rw [if_pos hc]
    simp only [Bool.and_eq_true,decide_eq_true_eq] at hc
    exact .inr ⟨hc.1,List.mem_cons_self ..,hc.2⟩
   ·
    rw [if_neg hc];exact .inl rfl
  ·
   exact .inr ⟨h1,List.mem_cons_of_mem _ h2,h3⟩
theorem beforeGo_mem {k : Str} {b : Int} : ∀ {l : List Chain} {out : Version},beforeGo k b out l = out ∨ ∃ c ∈ l,c.key = k ∧ beforeGo k b out l ∈ c.vs ∧ (beforeGo k b out l).by_ < b
 | [],out => .inl rfl
 | c :: l,out => by
  simp only [beforeGo]
  rcases beforeGo_mem (k := k) (b := b) (l := l) (out := bvs (decide (c.key = k)) b out c.vs) with e | ⟨c',h1,h2⟩
  ·
   rw [e]
   rcases bvs_mem (h := decide (c.key = k)) (b := b) (l := c.vs) (out := out) with e2 | ⟨h1,h2,h3⟩
   ·
    exact .inl e2
   ·
    exact .inr ⟨c,List.mem_cons_self ..,by simpa using h1,h2,h3⟩
  ·
   exact .inr ⟨c',List.mem_cons_of_mem _ h1,h2⟩
theorem before_mem (l : List Chain) (k : Str) (b : Int) : before l k b = noV ∨ ∃ c ∈ l,c.key = k ∧ before l k b ∈ c.vs ∧ (before l k b).by_ < b := beforeGo_mem
theorem WInv.bh {e : Engine} (h : WInv e) (k : Str) (b : Int) : (before e.chains k b).has = false → (before e.chains k b).n = 0 := by
 intro hm
 rcases before_mem e.chains k b with h1 | ⟨c,h1,h2,h3,h4⟩
 ·
  rw [h1];rfl
 ·
  exact h.h c h1 _ h3 hm
def sq (r : List Pair) (l : List Deed) (i : Nat) : List Pair := (allD r (l.take i)).1
theorem allD_snoc : ∀ {l : List Deed} {r : List Pair} {d : Deed},allD r (l ++ [d]) = ((doD (allD r l).1 d).1,(allD r l).2 ++ [(doD (allD r l).1 d).2])
 | [],r,d => rfl
 | x :: l,r,d => by simp only [List.cons_append,allD];rw [allD_snoc]
theorem sq_succ {r : List Pair} {l : List Deed} {i : Nat} {d : Deed} (h : l[i]? = some d) : sq r l (i + 1) = (doD (sq r l i) d).1 := by
 unfold sq
 rw [List.take_add_one,h]
 show (allD r (l.take i ++ [d])).1 = _
 rw [allD_snoc]
theorem sq_srt {r : List Pair} {l : List Deed} (hs : Srt Pair.key r) (hw : ∀ d ∈ l,wrongDeed d = 0) : ∀ (i : Nat),Srt Pair.key (sq r l i)
 | 0 => hs
 | i + 1 => by
  cases h : l[i]? with
  | none =>
   have hle := List.getElem?_eq_none_iff.1 h
   have : sq r l (i + 1) = sq r l i := by unfold sq;rw [List.take_of_length_le (by omega),List.take_of_length_le hle]
   rw [this];exact sq_srt hs hw i
  | some d =>
   rw [sq_succ h]
   exact doD_srt (sq_srt hs hw i) (wrong_keyed (hw d (List.mem_of_getElem? h)))
structure QInv (e : Engine) (r : List Pair) : Prop where
 s : Srt Pair.key r
 z : ∀ k,(before e.chains k e.base).made = true
 m : ∀ (k : Str) (i : Nat),i ≤ e.deeds.length → (before e.chains k (e.base + i)).made = true → RF.get (sq r e.deeds i) k = ((before e.chains k (e.base + i)).n,(before e.chains k (e.base + i)).has)
 p : ∀ (k : Str) (i : Nat) (d : Deed),e.deeds[i]? = some d → k ∈ d.writes → (before e.chains k (e.base + (i + 1 : Nat))).by_ = e.base + i ∧ (e.state[i]? = some 1 → (before e.chains k (e.base + (i + 1 : Nat))).made = true)
 q : ∀ (k : Str) (i : Nat) (d : Deed),e.deeds[i]? = some d → k ∉ d.writes → before e.chains k (e.base + (i + 1 : Nat)) = before e.chains k (e.base + i)
 w : ∀ (i : Nat) (d : Deed),e.deeds[i]? = some d → e.state[i]? = some 1 → e.ends[i]? = some (doD (sq r e.deeds i) d).2
 b : 0 ≤ e.base
structure BInv (e : Engine) (r : List Pair) : Prop where
 S : SInv e
 W : WInv e
 Q : QInv e r
 n : e.ends.length = e.deeds.length
 t : ∀ s ∈ e.state,s = 0 ∨ s = 1
 u : ∀ (k : Str) (i : Nat) (d : Deed),e.deeds[i]? = some d → k ∈ d.writes → e.state[i]? = some 0 → (before e.chains k (e.base + (i + 1 : Nat))).made = false
def seenP (cs : List Chain) (b : Int) (c : Chain) : Option Pair := if (before cs c.key b).has = true then some ⟨c.key,(before cs c.key b).n⟩ else none
theorem rowsAtGo_made {cs : List Chain} {b : Int} : ∀ {l : List Chain} {out : List Pair},(∀ c ∈ l,(before cs c.key b).made = true) → rowsAtGo cs b out l = (out ++ l.filterMap (seenP cs b),true)
 | [],out,_ => by simp [rowsAtGo]
 | c :: l,out,h => by
  have h1 := h c (List.mem_cons_self ..)
  have h2 : ∀ c ∈ l,(before cs c.key b).made = true := fun x hx => h x (List.mem_cons_of_mem _ hx)
  simp only [rowsAtGo]
  rw [if_neg (by rw [h1];simp)]
  by_cases hh : (before cs c.key b).has = true
  ·
   rw [if_pos hh,rowsAtGo_made h2,List.filterMap_cons_some (show seenP cs b c = some _ from if_pos hh)]
   simp
  ·
   rw [if_neg hh,rowsAtGo_made h2,List.filterMap_cons_none (show seenP cs b c = none from if_neg hh)]
theorem rowsAt_made {cs : List Chain} {b : Int} (hs : Srt Chain.key cs) (hb : ∀ k,(before cs k b).has = false → (before cs k b).n = 0) (h : ∀ k,(before cs k b).made = true) :
  (rowsAt cs b).2 = true ∧ Srt Pair.key (rowsAt cs b).1 ∧ ∀ k,RF.get (rowsAt cs b).1 k = ((before cs k b).n,(before cs k b).has) := by
 have he : rowsAt cs b = (cs.filterMap (seenP cs b),true) := rowsAtGo_made fun c _ => h c.key
 have hsr : Srt Pair.key (cs.filterMap (seenP cs b)) := by
  refine List.pairwise_filterMap.2 (List.Pairwise.imp (fun {x y} hxy p hp q hq => ?_) hs)
  unfold seenP at hp hq
  split at hp
  ·
   split at hq
   ·
    cases hp;cases hq;exact hxy
   ·
    cases hq
  ·
   cases hp
 rw [he]
 refine ⟨rfl,hsr,fun k => ?_⟩
 show RF.get (cs.filterMap (seenP cs b)) k = _
 cases hh : (before cs k b).has with
 | true =>
  rcases before_mem cs k b with h1 | ⟨c,h1,rfl,_,_⟩
  ·
   rw [h1] at hh;cases hh
  ·
   have hm : (⟨c.key,(before cs c.key b).n⟩ : Pair) ∈ cs.filterMap (seenP cs b) := List.mem_filterMap.2 ⟨c,h1,if_pos hh⟩
   exact get_of_mem hsr hm
 | false =>
  rw [hb k hh]
  refine get_absent fun p hp e => ?_
  obtain ⟨c,h1,h2⟩ := List.mem_filterMap.1 hp
  unfold seenP at h2
  split at h2
  ·
   next hc =>
   cases h2
   have e' : c.key = k := e
   rw [e',hh] at hc
   cases hc
  ·
   cases h2
theorem BInv.rows {e : Engine} {r : List Pair} (h : BInv e r) {i : Nat} (hi : i ≤ e.deeds.length) (hm : ∀ k,(before e.chains k (e.base + i)).made = true) : rowsAt e.chains (e.base + i) = (sq r e.deeds i,true) := by
 obtain ⟨h1,h2,h3⟩ := rowsAt_made h.S.k (fun k => h.W.bh k _) hm
 exact Prod.ext (get_ext h2 (sq_srt h.Q.s h.W.d i) fun k => by rw [h3,h.Q.m k i hi (hm k)]) h1
theorem wrongEntry_out {e : Entry} (h : wrongEntry e = 0) : (0 ≤ e.number ∧ e.number ≤ 11) ∧ e.deeds.length ≤ 6 ∧ wrongs e.deeds = 0 ∧ ∀ d ∈ e.deeds,wrongDeed d = 0 := by
 unfold wrongEntry at h
 split at h
 ·
  cases h
 split at h
 ·
  cases h
 exact ⟨by omega,by omega,h,wrongs_mem h⟩
structure RInv (r : Replica) : Prop where
 e : EInv r.engine (1 + 30 * r.next.toNat)
 b : ∃ q,BInv r.engine q
 n : 0 ≤ r.next ∧ r.next ≤ 12
 l : r.early.length ≤ 4
 w : ∀ x ∈ r.early,wrongEntry x = 0
 g : ∀ x ∈ r.early,r.next < x.number
 d : (r.early.map Entry.number).Nodup
structure DInv (r : Replica) : Prop where
 e : EInv r.engine (1 + 30 * r.next.toNat)
 b : ∃ q,BInv r.engine q
 n : 0 ≤ r.next ∧ r.next ≤ 12
 l : r.early.length ≤ 5
 w : ∀ x ∈ r.early,wrongEntry x = 0
 g : ∀ x ∈ r.early,r.next ≤ x.number
 d : (r.early.map Entry.number).Nodup
theorem RInv.D {r : Replica} (h : RInv r) : DInv r := ⟨h.e,h.b,h.n,by have := h.l;omega,h.w,fun x hx => by have := h.g x hx;omega,h.d⟩
theorem DInv.R {r : Replica} (h : DInv r) (hl : r.early.length ≤ 4) (hg : ∀ x ∈ r.early,r.next < x.number) : RInv r := ⟨h.e,h.b,h.n,hl,h.w,hg,h.d⟩
end Go.Proofs.YtmnociojijpdmaaGreatDoor
namespace Go.AX
open Go.RowKit
variable {cx : Cx} {g : Nat → Value} {σ σ' : St} {a : Act} {w w' : World} {nx : Nat}
variable {ty : TypeId} {pos : String} {af : Array Edge} {gd : Option (Nat × Bool)} {d : Nat}
def mgetI (M : List (Int × Value)) (k : Int) : Option Value := match M with
 | [] => none
 | (s,v) :: r => if s = k then some v else mgetI r k
def msetI (M : List (Int × Value)) (k : Int) (v : Value) : List (Int × Value) := match M with
 | [] => [(k,v)]
 | (s,u) :: r => if s = k then (s,v) :: r else (s,u) :: msetI r k v
def mfindI (k : Int) : List (Int × Value) → Nat → Option (Nat × Value)
 | [],_ => none
 | (s,v) :: r,i => if s = k then some (i,v) else mfindI k r (i + 1)
theorem mfindI_get (k : Int) : ∀ (M : List (Int × Value)) (i : Nat),(mfindI k M i).map (·.2) = mgetI M k
 | [],_ => rfl
 | (s,v) :: M,i => by
  simp only [mfindI,mgetI]
  split
  ·
   rfl
  ·
   exact mfindI_get k M (i + 1)
def mlookI (zv : Value) (M : List (Int × Value)) (k : Int) : Value := (mgetI M k).getD zv
theorem mfindI_some {k : Int} {us v : Value} : ∀ {M : List (Int × Value)} {j i : Nat},mfindI k M j = some (i,v) → ∃ n,i = j + n ∧ M[n]? = some (k,v) ∧ msetI M k us = M.set n (k,us)
 | [],j,i,h => by cases h
 | (s,u) :: M,j,i,h => by
  simp only [mfindI] at h
  by_cases hs : s = k
  ·
   rw [if_pos hs] at h
   cases h
   exact ⟨0,rfl,by simp [hs],by simp [msetI,hs]⟩
  ·
   rw [if_neg hs] at h
   obtain ⟨n,h1,h2,h3⟩ := mfindI_some (us := us) h
   exact ⟨n + 1,by omega,by simpa using h2,by simp [msetI,hs,h3]⟩
theorem mfindI_none {k : Int} {us : Value} : ∀ {M : List (Int × Value)} {j : Nat},mfindI k M j = none → msetI M k us = M ++ [(k,us)]
 | [],j,_ => rfl
 | (s,u) :: M,j,h => by
  simp only [mfindI] at h
  by_cases hs : s = k
  ·
   rw [if_pos hs] at h;cases h
  ·
   rw [if_neg hs] at h
   simp [msetI,hs,mfindI_none h]
end Go.AX
namespace Go.AX
open Go.RowKit
variable {cx : Cx} {g : Nat → Value} {σ σ' : St} {a : Act} {w w' : World} {nx : Nat}
variable {ty : TypeId} {pos : String} {af : Array Edge} {gd : Option (Nat × Bool)} {d : Nat}
theorem ok_gennew {op : Op} {l : List (Key × Val)} {n0 : Nat} (p : Value → Obj → Prop) (hd : d < cx.n)
  (hex : ∀ σ a w g nx,SimG cx σ a w g nx → App σ l → ∃ v o,(execOp a.eval ⟨some d,op,ty,pos,af,gd⟩).run cx.P w = .ok (.value v) (w.alloc o) ∧ blk v = some w.heap.size ∧ p v o) :
  OpOk cx ⟨some d,op,ty,pos,af,gd⟩ ⟨(.nx,.num n0) :: l,[(.s d,.av (.h n0)),(.o n0,.ob (.gen p)),(.nx,.num (n0 + 1))]⟩ := by
 rintro σ a w K Q ⟨g,nx,hs⟩ hr hK
 obtain ⟨hn,hl⟩ := hr
 have hnx : nx = n0 := by
  have h2 := hs.hnx
  rw [hn] at h2
  simpa using h2.symm
 subst hnx
 obtain ⟨v,o,hrun,hbv,hp⟩ := hex σ a w g nx hs hl
 have hb : Below w.heap.size w (w.alloc o) := (Below.refl _ _).alloc (Nat.le_refl _) _
 have hst : ObjStep cx σ g nx (nx + 1) w (w.alloc o) nx (.gen p) v :=
  ⟨.inl ⟨rfl,rfl⟩,hb.mono hs.below.size,fun c hc _ => hb.block c hc,fun c hc => .inr (by rw [hbv] at hc;cases hc;exact Nat.le_refl _)⟩
 have hG := SimG.obj hs hst (fun _ => ⟨w.heap.size,o,by rw [upd_same];exact hbv,hs.below.size,heap_alloc_new w _,by rw [upd_same];exact hp⟩) trivial
 refine wp_val rfl hrun (hK _ _ ?_)
 refine Sim.eqv (Sim.put hG hd (Below.refl _ _) (av := .h nx) ⟨.of get_cons_same,fun p' _ _ => (upd_same _ _ _).symm⟩ (Nat.lt_succ_self nx)) fun q => ?_
 cases q with
 | s i =>
  by_cases hi : i = d
  ·
   subst hi;rw [get_cons_same];exact get_cons_same.symm
  ·
   rw [get_cons_ne (by simpa using fun e => hi e.symm),objSt_s]
   exact ((get_cons_ne (by simpa using fun e => hi e.symm)).trans ((get_cons_ne (by simp)).trans (get_cons_ne (by simp)))).symm
 | o i =>
  rw [get_cons_ne (by simp)]
  by_cases hi : i = nx
  ·
   subst hi;rw [get_cons_same];exact ((get_cons_ne (by simp)).trans get_cons_same).symm
  ·
   rw [objSt_o hi]
   exact ((get_cons_ne (by simp)).trans ((get_cons_ne (by simpa using fun e => hi e.symm)).trans (get_cons_ne (by simp)))).symm
 | nx =>
  rw [get_cons_ne (by simp),objSt_nx]
  exact ((get_cons_ne (by simp)).trans ((get_cons_ne (by simp)).trans get_cons_same)).symm
theorem gen_set (hs : SimG cx σ a w g nx) {id b : Nat} {p p' : Value → Obj → Prop} {o' : Obj} (ho : get σ (.o id) = .ob (.gen p)) (hb : blk (g id) = some b) (hlt : b < w.heap.size) (hp : p' (g id) o') :
  SimG cx (objSt σ nx id (.gen p')) a { w with heap := w.heap.setIfInBounds b o' } (upd g id (g id)) nx := by
 have hoth : ∀ c,c ≠ b → ({ w with heap := w.heap.setIfInBounds b o' } : World).heap[c]? = w.heap[c]? := fun c hc => by
  show (w.heap.setIfInBounds b _)[c]? = _
  rw [Array.getElem?_setIfInBounds,if_neg (fun e => hc e.symm)]
 obtain ⟨hid,⟨b1,o1,h1,h2,h3,h4⟩,_⟩ := hs.objs id _ ho
 obtain rfl : b1 = b := Option.some.inj (h1.symm.trans hb)
 have hst : ObjStep cx σ g nx nx w { w with heap := w.heap.setIfInBounds b1 o' } id (.gen p') (g id) :=
  ⟨.inr ⟨rfl,_,ho,by simp [ObLe,upd_same]⟩,⟨rfl,rfl,rfl,by simp,fun c hc => hoth c (by omega)⟩,fun c hc hn => hoth c fun e => hn _ ho (by rw [hb,e]),fun c hc => .inl ⟨_,ho,hc⟩⟩
 exact SimG.obj hs hst (fun _ => ⟨b1,o',by rw [upd_same];exact hb,h2,by show (w.heap.setIfInBounds b1 _)[b1]? = _;rw [Array.getElem?_setIfInBounds,if_pos rfl,if_pos hlt],by rw [upd_same];exact hp⟩) trivial
theorem gen_at (hs : SimG cx σ a w g nx) {id : Nat} {p : Value → Obj → Prop} {x : Value} (ho : get σ (.o id) = .ob (.gen p)) (hr : Rep cx g σ w x (.h id)) :
  ∃ b o,blk x = some b ∧ blk (g id) = some b ∧ b < w.heap.size ∧ w.heap[b]? = some o ∧ p x o ∧ x = g id := by
 obtain ⟨_,⟨b,o,h1,h2,h3,h4⟩,_⟩ := hs.objs id _ ho
 have hx : x = g id := hr.2 _ ho rfl
 refine ⟨b,o,by rw [hx];exact h1,h1,?_,h3,by rw [hx];exact h4,hx⟩
 rcases Nat.lt_or_ge b w.heap.size with h | h
 ·
  exact h
 ·
  rw [Array.getElem?_eq_none h] at h3;cases h3
def ItP (s : List UInt8) (k : Nat) : Value → Obj → Prop := fun v o => (∃ b,v = .pointer (some ⟨b,0,none⟩)) ∧ o = .stringIter ⟨s.toArray⟩ k
theorem a_range {t : TypeId} {x : Operand} {s : List UInt8} {n0 : Nat} (hn : get σ .nx = .num n0) (hx : ev σ x = some (.d (.v (str s)))) (ht : cx.P.underlying t = some .string) (hd : Nat.blt d cx.n = true) :
  OA cx σ ⟨some d,.range t x,ty,pos,af,gd⟩ ⟨(.nx,.num n0) :: rdOf x (.d (.v (str s))),[(.s d,.av (.h n0)),(.o n0,.ob (.gen (ItP s 0))),(.nx,.num (n0 + 1))]⟩ := by
 refine ⟨ok_gennew (ItP s 0) (lt_of_blt hd) fun σ a w g nx hs hl => ⟨.pointer (some ⟨w.heap.size,0,none⟩),.stringIter ⟨s.toArray⟩ 0,?_,rfl,⟨_,rfl⟩,rfl⟩,hn,(ev_out hx).2⟩
 have hv := rep_v (hs.ev (ev_out hx).1 hl).1
 simp [execOp,hv,Instr.range,run_underlying ht,newObj,Result.andThen]
 rfl
theorem decode_ascii {s : List UInt8} {k : Nat} {c : UInt8} (h : s[k]? = some c) (hc : c.toNat < 128) : Utf8.decode ⟨s.toArray⟩ k = (c.toNat,1) := by
 have hg : (⟨s.toArray⟩ : ByteArray).get! (k + 0) = c := by
  show s.toArray[k + 0]! = c
  rw [Nat.add_zero,Array.getElem!_eq_getD,Array.getD_eq_getD_getElem?]
  simp [h]
 unfold Utf8.decode
 simp only [hg]
 rw [if_pos hc]
theorem a_next {x : Operand} {s : List UInt8} {k : Nat} {c : UInt8} (id : Nat) (hx : ev σ x = some (.h id)) (ho : get σ (.o id) = .ob (.gen (ItP s k))) (hk : s[k]? = some c) (hc : c.toNat < 128) (hd : Nat.blt d cx.n = true) :
  OA cx σ ⟨some d,.next x true,ty,pos,af,gd⟩ ⟨rdOf x (.h id) ++ [(.o id,.ob (.gen (ItP s k)))],
   [(.s d,.av (.tup [.d (.v (.bool true)),.d (.v (.int .i64 k)),.d (.v (.int .i32 c.toNat))])),(.o id,.ob (.gen (ItP s (k + 1))))]⟩ := by
 refine ⟨?_,(ev_out hx).2.append ⟨ho,trivial⟩⟩
 rintro σ a w K Q ⟨g,nx,hs⟩ hr hK
 have ho := hr.right.1
 obtain ⟨b,o,h1,h2,h3,h4,⟨⟨b',h7⟩,h5⟩,h6⟩ := gen_at hs ho (hs.ev (ev_out hx).1 hr.left).1
 subst h5
 obtain rfl : b' = b := by rw [h7] at h1;simpa [blk] using h1
 have hkl := (List.getElem?_eq_some_iff.1 hk).1
 have hdec := decode_ascii hk hc
 have hG := gen_set hs (p' := ItP s (k + 1)) (o' := .stringIter ⟨s.toArray⟩ (k + 1)) ho h2 h3 ⟨⟨b',by rw [← h6];exact h7⟩,rfl⟩
 have hrun : (execOp a.eval ⟨some d,.next x true,ty,pos,af,gd⟩).run cx.P w = .ok (.value (.tuple #[.bool true,.int .i64 k,.int .i32 c.toNat])) { w with heap := w.heap.setIfInBounds b' (.stringIter ⟨s.toArray⟩ (k + 1)) } := by
  have hsz : k < (⟨s.toArray⟩ : ByteArray).size := by show k < s.toArray.size;simpa using hkl
  have hget : (getObj b').run cx.P w = .ok (.stringIter ⟨s.toArray⟩ k) w := by simp [getObj,Sem.run,h4]
  have hset : ∀ o,(setObj b' o).run cx.P w = .ok () { w with heap := w.heap.setIfInBounds b' o } := fun o => by simp [setObj,Sem.run,h4]
  simp [execOp,h7,Instr.next,hget,hset,hsz,hdec,goInt,Result.andThen]
 refine wp_val rfl hrun (hK _ _ (Sim.eqv (Sim.put hG (lt_of_blt hd) (Below.refl _ _) (av := .tup [.d (.v (.bool true)),.d (.v (.int .i64 k)),.d (.v (.int .i32 c.toNat))]) ⟨_,rfl,rfl,fun j x av hj hc => ?_⟩ (by intro av hav;simp at hav;rcases hav with rfl | rfl | rfl <;> trivial)) fun q => ?_))
 ·
  match j,hj,hc with
  | 0,hj,hc => simp at hj hc;subst hj hc;exact Rd.v _
  | 1,hj,hc => simp at hj hc;subst hj hc;exact Rd.v _
  | 2,hj,hc => simp at hj hc;subst hj hc;exact Rd.v _
  | j + 3,hj,hc => simp at hj
 cases q with
 | s i =>
  by_cases hi : i = d
  ·
   subst hi;rw [get_cons_same];exact get_cons_same.symm
  ·
   rw [get_cons_ne (by simpa using fun e => hi e.symm),objSt_s]
   exact ((get_cons_ne (by simpa using fun e => hi e.symm)).trans (get_cons_ne (by simp))).symm
 | o i =>
  rw [get_cons_ne (by simp)]
  by_cases hi : i = id
  ·
   subst hi;rw [get_cons_same];exact ((get_cons_ne (by simp)).trans get_cons_same).symm
  ·
   rw [objSt_o hi]
   exact ((get_cons_ne (by simp)).trans (get_cons_ne (by simpa using fun e => hi e.symm))).symm
 | nx =>
  rw [get_cons_ne (by simp),objSt_nx]
  exact (((get_cons_ne (by simp)).trans (get_cons_ne (by simp))).trans hs.hnx).symm
theorem a_nextE {x : Operand} {s : List UInt8} {k : Nat} (id : Nat) (hx : ev σ x = some (.h id)) (ho : get σ (.o id) = .ob (.gen (ItP s k))) (hk : s.length ≤ k) (hd : Nat.blt d cx.n = true) :
  OA cx σ ⟨some d,.next x true,ty,pos,af,gd⟩ ⟨rdOf x (.h id) ++ [(.o id,.ob (.gen (ItP s k)))],[(.s d,.av (.tup [.d (.v (.bool false))]))]⟩ := by
 refine ⟨?_,(ev_out hx).2.append ⟨ho,trivial⟩⟩
 rintro σ a w K Q ⟨g,nx,hs⟩ hr hK
 have ho := hr.right.1
 obtain ⟨b,o,h1,h2,h3,h4,⟨⟨b',h7⟩,h5⟩,h6⟩ := gen_at hs ho (hs.ev (ev_out hx).1 hr.left).1
 subst h5
 obtain rfl : b' = b := by rw [h7] at h1;simpa [blk] using h1
 have hrun : (execOp a.eval ⟨some d,.next x true,ty,pos,af,gd⟩).run cx.P w = .ok (.value (.tuple #[.bool false])) w := by
  have hsz : ¬ k < (⟨s.toArray⟩ : ByteArray).size := by show ¬ k < s.toArray.size;simp;omega
  have hget : (getObj b').run cx.P w = .ok (.stringIter ⟨s.toArray⟩ k) w := by simp [getObj,Sem.run,h4]
  simp [execOp,h7,Instr.next,hget,hsz,Result.andThen]
 refine wp_val rfl hrun (hK _ _ (Sim.put hs (lt_of_blt hd) (Below.refl _ _) (av := .tup [.d (.v (.bool false))]) ⟨_,rfl,rfl,fun j x av hj hc => ?_⟩ (by intro av hav;simp at hav;subst hav;trivial)))
 match j,hj,hc with
 | 0,hj,hc => simp at hj hc;subst hj hc;exact Rd.v _
 | j + 1,hj,hc => simp at hj
end Go.AX
namespace Go.AX
open Go.RowKit Go.Lib
variable {cx : Cx} {g : Nat → Value} {σ σ' : St} {a : Act} {w w' : World} {nx : Nat}
variable {ty : TypeId} {pos : String} {af : Array Edge} {gd : Option (Nat × Bool)} {d : Nat}
def BytP (s : List UInt8) : Value → Obj → Prop := fun v o => ∃ (b cap : Nat) (cur : Array Value) (e : TypeId) (fz : Nat × Nat),v = .slice (some ⟨b,0,none⟩) s.length cap ∧ o = .cells cur e fz ∧ cur.size = cap ∧ s.length ≤ cap ∧ cap ≤ fz.1 ∧
 ∀ (j : Nat) (c : UInt8),s[j]? = some c → cur[j]? = some (.int .u8 c.toNat)
theorem rd_bytes {own : Nat → Prop} {b cap : Nat} {cur : Array Value} {e : TypeId} {fz : Nat × Nat} {s : List UInt8} (hb : w.heap[b]? = some (.cells cur e fz)) (ho : ¬ own b) (hc : s.length ≤ cap)
  (h : ∀ (j : Nat) (c : UInt8),s[j]? = some c → cur[j]? = some (.int .u8 c.toNat)) : Rd w own (.slice (some ⟨b,0,none⟩) s.length cap) (.sl 1 (s.map byteD)) := by
 have hlt : b < w.heap.size := by
  rcases Nat.lt_or_ge b w.heap.size with h | h
  ·
   exact h
  ·
   rw [Array.getElem?_eq_none h] at hb;cases hb
 have key : ∀ (i j : Nat) (r : List D) (x : D),(s.map byteD)[i]? = some r → r[j]? = some x → ∃ c,s[i]? = some c ∧ j = 0 ∧ x = .v (.int .u8 c.toNat) := fun i j r x hi hj => by
  rw [List.getElem?_map,Option.map_eq_some_iff] at hi
  obtain ⟨c,hc,rfl⟩ := hi
  have hj0 : j = 0 := by
   have := (List.getElem?_eq_some_iff.1 hj).1
   simp [byteD] at this
   exact this
  subst hj0
  simp [byteD] at hj
  exact ⟨c,hc,rfl,hj.symm⟩
 have := Rd.sl (w := w) (own := own) ⟨b,0,none⟩ cap 1 (s.map byteD) (fun i _ => .int .u8 (s.getD i 0).toNat) ho hlt (by simpa using hc) (fun r hr => by obtain ⟨c,_,rfl⟩ := List.mem_map.1 hr;rfl)
  (fun i j r x hi hj => by
   obtain ⟨c,h1,rfl,_⟩ := key i j r x hi hj
   rw [add_lit,show 0 + (i * 1 + 0) = i by omega]
   simp only [World.cell?,hb]
   rw [h i c h1,List.getD_eq_getElem?_getD,h1]
   rfl)
  (fun i j r x hi hj => rfl)
  (fun i j r x hi hj => by
   obtain ⟨c,h1,rfl,rfl⟩ := key i j r x hi hj
   rw [List.getD_eq_getElem?_getD,h1]
   exact Rd.v _)
 rw [List.length_map] at this
 exact this
theorem bytes_cells (w : World) (e : TypeId) (s : List UInt8) : (bytesCells w e ⟨s.toArray⟩).size = grownCap w s.length 0 e ∧ s.length ≤ grownCap w s.length 0 e ∧ ∀ (j : Nat) (c : UInt8),s[j]? = some c → (bytesCells w e ⟨s.toArray⟩)[j]? = some (.int .u8 c.toNat) := by
 have hsz : (⟨s.toArray⟩ : ByteArray).size = s.length := by show s.toArray.size = _;simp
 have hge := grownCap_ge w s.length 0 e
 refine ⟨?_,hge,fun j c hj => ?_⟩
 ·
  unfold bytesCells
  rw [hsz]
  simp
  omega
 ·
  have hlt := (List.getElem?_eq_some_iff.1 hj).1
  unfold bytesCells
  rw [Array.getElem?_append_left (by simpa using hlt)]
  simp [hj]
theorem bytes_below {B : Nat} (w : World) (e : TypeId) (s : ByteArray) (hB : B ≤ w.heap.size) : Below B w (bytesWorld w e s) :=
 ⟨rfl,rfl,rfl,by rw [bytesWorld_size];omega,fun k hk => bytesWorld_at_old w e s k (by omega)⟩
theorem run_s2b {t t2 e : Nat} {si ti te : TI} {s : List UInt8} (ht : tget cx.T t = some si) (hk : si.kind = .str) (ht2 : tget cx.T t2 = some ti) (hk2 : ti.kind = .sl e 1) (hte : tget cx.T e = some te) (hke : te.kind = .int .u8) :
  (convert t t2 (str s)).run cx.P w = .ok (.slice (some ⟨w.heap.size,0,none⟩) s.length (grownCap w s.length 0 e)) (bytesWorld w e ⟨s.toArray⟩) := by
 have hF := (cx.hT t si ht).kind
 rw [hk] at hF
 obtain ⟨hu,_⟩ := hF
 have hF2 := (cx.hT t2 ti ht2).kind
 rw [hk2] at hF2
 obtain ⟨hu2,_⟩ := hF2
 have hF3 := (cx.hT e te hte).kind
 rw [hke] at hF3
 obtain ⟨hu3,_⟩ := hF3
 have := Go.Lib.run_convert_string_bytes (P := cx.P) w t t2 e ⟨s.toArray⟩ hu hu2 hu3
 have hsz : (⟨s.toArray⟩ : ByteArray).size = s.length := by show s.toArray.size = _;simp
 rw [hsz] at this
 exact this
theorem a_s2b {t t2 e : Nat} {x : Operand} {s : List UInt8} {si ti te : TI} (hx : ev σ x = some (.d (.v (str s)))) (ht : tget cx.T t = some si) (hk : si.kind = .str) (ht2 : tget cx.T t2 = some ti) (hk2 : ti.kind = .sl e 1) (hte : tget cx.T e = some te) (hke : te.kind = .int .u8) (hd : Nat.blt d cx.n = true) :
  OA cx σ ⟨some d,.convert t t2 x,ty,pos,af,gd⟩ ⟨rdOf x (.d (.v (str s))),[(.s d,.av (.d (.sl 1 (s.map byteD))))]⟩ := by
 refine ⟨ok_val rfl (lt_of_blt hd) fun σ1 a w g nx hs hr => ?_,(ev_out hx).2⟩
 have hv := rep_v (hs.ev (ev_out hx).1 hr).1
 obtain ⟨h1,h2,h3⟩ := bytes_cells w e s
 refine ⟨_,_,?_,bytes_below w e ⟨s.toArray⟩ (Nat.le_refl _),rd_bytes (bytesWorld_at_new w e ⟨s.toArray⟩) (fun ho => by have := own_lt hs ho;omega) h2 h3,trivial⟩
 simp [execOp,hv,run_s2b (w := w) (s := s) ht hk ht2 hk2 hte hke]
theorem ok_gennew2 {op : Op} {l : List (Key × Val)} {n0 : Nat} (p : Value → Obj → Prop) (hd : d < cx.n)
  (hex : ∀ σ a w g nx,SimG cx σ a w g nx → App σ l → ∃ v o w',(execOp a.eval ⟨some d,op,ty,pos,af,gd⟩).run cx.P w = .ok (.value v) w' ∧ Below w.heap.size w w' ∧ w'.heap[w.heap.size]? = some o ∧ blk v = some w.heap.size ∧ p v o) :
  OpOk cx ⟨some d,op,ty,pos,af,gd⟩ ⟨(.nx,.num n0) :: l,[(.s d,.av (.h n0)),(.o n0,.ob (.gen p)),(.nx,.num (n0 + 1))]⟩ := by
 rintro σ a w K Q ⟨g,nx,hs⟩ hr hK
 obtain ⟨hn,hl⟩ := hr
 have hnx : nx = n0 := by
  have h2 := hs.hnx
  rw [hn] at h2
  simpa using h2.symm
 subst hnx
 obtain ⟨v,o,w',hrun,hb,hnew,hbv,hp⟩ := hex σ a w g nx hs hl
 have hst : ObjStep cx σ g nx (nx + 1) w w' nx (.gen p) v :=
  ⟨.inl ⟨rfl,rfl⟩,hb.mono hs.below.size,fun c hc _ => hb.block c hc,fun c hc => .inr (by rw [hbv] at hc;cases hc;exact Nat.le_refl _)⟩
 have hG := SimG.obj hs hst (fun _ => ⟨w.heap.size,o,by rw [upd_same];exact hbv,hs.below.size,hnew,by rw [upd_same];exact hp⟩) trivial
 refine wp_val rfl hrun (hK _ _ ?_)
 refine Sim.eqv (Sim.put hG hd (Below.refl _ _) (av := .h nx) ⟨.of get_cons_same,fun p' _ _ => (upd_same _ _ _).symm⟩ (Nat.lt_succ_self nx)) fun q => ?_
 cases q with
 | s i =>
  by_cases hi : i = d
  ·
   subst hi;rw [get_cons_same];exact get_cons_same.symm
  ·
   rw [get_cons_ne (by simpa using fun e => hi e.symm),objSt_s]
   exact ((get_cons_ne (by simpa using fun e => hi e.symm)).trans ((get_cons_ne (by simp)).trans (get_cons_ne (by simp)))).symm
 | o i =>
  rw [get_cons_ne (by simp)]
  by_cases hi : i = nx
  ·
   subst hi;rw [get_cons_same];exact ((get_cons_ne (by simp)).trans get_cons_same).symm
  ·
   rw [objSt_o hi]
   exact ((get_cons_ne (by simp)).trans ((get_cons_ne (by simpa using fun e => hi e.symm)).trans (get_cons_ne (by simp)))).symm
 | nx =>
  rw [get_cons_ne (by simp),objSt_nx]
  exact ((get_cons_ne (by simp)).trans ((get_cons_ne (by simp)).trans get_cons_same)).symm
theorem a_s2bO {t t2 e : Nat} {x : Operand} {s : List UInt8} {si ti te : TI} {n0 : Nat} (hn : get σ .nx = .num n0) (hx : ev σ x = some (.d (.v (str s)))) (ht : tget cx.T t = some si) (hk : si.kind = .str) (ht2 : tget cx.T t2 = some ti) (hk2 : ti.kind = .sl e 1) (hte : tget cx.T e = some te) (hke : te.kind = .int .u8) (hd : Nat.blt d cx.n = true) :
  OA cx σ ⟨some d,.convert t t2 x,ty,pos,af,gd⟩ ⟨(.nx,.num n0) :: rdOf x (.d (.v (str s))),[(.s d,.av (.h n0)),(.o n0,.ob (.gen (BytP s))),(.nx,.num (n0 + 1))]⟩ := by
 refine ⟨ok_gennew2 (BytP s) (lt_of_blt hd) fun σ1 a w g nx hs hr => ?_,hn,(ev_out hx).2⟩
 have hv := rep_v (hs.ev (ev_out hx).1 hr).1
 obtain ⟨h1,h2,h3⟩ := bytes_cells w e s
 refine ⟨_,_,_,?_,bytes_below w e ⟨s.toArray⟩ (Nat.le_refl _),bytesWorld_at_new w e ⟨s.toArray⟩,rfl,⟨_,_,_,e,_,rfl,rfl,h1,h2,by rw [h1];exact Nat.le_refl _,h3⟩⟩
 simp [execOp,hv,run_s2b (w := w) (s := s) ht hk ht2 hk2 hte hke]
theorem run_storeCells_atT (P : Program) (g o : Nat) (t : TypeId) (fz : Nat × Nat) : ∀ (vs : List Value) (i : Nat) (cur : Array Value) (w : World),w.heap[g]? = some (.cells cur t fz) → cur.size ≤ fz.1 → o + i + vs.length ≤ cur.size → (∀ v ∈ vs,v.oneCell' = true) →
  (storeCells ⟨g,o,none⟩ vs i).run P w = .ok () (w.setRow g (cur.toList.take (o + i) ++ vs ++ cur.toList.drop (o + i + vs.length)).toArray)
 | [],i,cur,w,hg,_,_,_ => by
  simp only [storeCells,List.append_nil,List.length_nil,Nat.add_zero,List.take_append_drop,Array.toArray_toList]
  rw [setRow_self w g cur t fz hg]
  rfl
 | v :: rest,i,cur,w,hg,hfz,hl,h1 => by
  have hi : o + i < cur.size := by simp at hl;omega
  have hadd : (⟨g,o,none⟩ : Addr).add i = ⟨g,o + i,none⟩ := by unfold Addr.add;split <;> simp_all
  have hcell : w.cell? ⟨g,o + i,none⟩ = some cur[o + i] := by simp [World.cell?,hg,hi]
  have hfro : w.frozen? ⟨g,o + i,none⟩ = false := by
   obtain ⟨lo,hi'⟩ := fz
   simp only [World.frozen?,hg,Bool.and_eq_false_iff,decide_eq_false_iff_not]
   left
   simp only at hfz
   omega
  have hst : (store ((⟨g,o,none⟩ : Addr).add i) v).run P w = .ok () (w.setRow g (cur.setIfInBounds (o + i) v)) := by
   rw [hadd,run_store P w _ v _ (h1 v (by simp)),hcell]
   simp [hfro,setCell_eq_setRow w g (o + i) cur t fz v hg]
  have ih := run_storeCells_atT P g o t fz rest (i + 1) (cur.setIfInBounds (o + i) v) (w.setRow g (cur.setIfInBounds (o + i) v)) (setRow_heap w g cur _ t _ hg) (by simpa using hfz) (by simp at hl ⊢;omega) (fun x hx => h1 x (by simp [hx]))
  simp only [storeCells,Sem.run_bind,hst,Result.andThen_ok,ih,setRow_setRow]
  congr 3
  have e := list_seg_step cur.toList (o + i) v rest (by simp at hl ⊢;omega)
  simpa [Array.toList_setIfInBounds,Nat.add_assoc] using e
theorem bcells_of {s : List UInt8} {news : List Value} (hl : news.length = s.length) (h : ∀ (j : Nat) (c : UInt8) (u : Value),s[j]? = some c → news[j]? = some u → u = .int .u8 c.toNat) : news = s.map fun c => Value.int .u8 c.toNat := by
 refine List.ext_getElem? fun j => ?_
 rw [List.getElem?_map]
 cases hj : s[j]? with
 | none =>
  have := List.getElem?_eq_none_iff.1 hj
  rw [List.getElem?_eq_none (by omega)];rfl
 | some c =>
  have hlt := (List.getElem?_eq_some_iff.1 hj).1
  have hu : news[j]? = some (news[j]'(by omega)) := List.getElem?_eq_getElem _
  rw [hu,h j c _ hj hu];rfl
theorem a_appb {t e id : Nat} {x y : Operand} {s r : List UInt8} {ti te : TI} (hx : ev σ x = some (.h id)) (ho : get σ (.o id) = .ob (.gen (BytP s))) (hy : ev σ y = some (.d (.sl 1 (r.map byteD)))) (ht : tget cx.T t = some ti) (hk : ti.kind = .sl e 1)
  (hte : tget cx.T e = some te) (hb1 : te.bytes = 1) (hn1 : te.n = 1) (hd : Nat.blt d cx.n = true) (hr0 : 0 < r.length) (hlen : s.length + r.length ≤ 1073741824) :
  OA cx σ ⟨some d,.call { callee := .builtin .append,args := #[x,y],argTypes := #[t,t] },ty,pos,af,gd⟩
   ⟨rdOf x (.h id) ++ (rdOf y (.d (.sl 1 (r.map byteD))) ++ [(.o id,.ob (.gen (BytP s)))]),[(.s d,.av (.d (.sl 1 ((s ++ r).map byteD)))),(.o id,.none)]⟩ := by
 refine ⟨?_,(ev_out hx).2.append ((ev_out hy).2.append ⟨ho,trivial⟩)⟩
 rintro σ1 a w K Q ⟨g,nx,hs⟩ hr hK
 have ho1 := hr.right.right.1
 obtain ⟨b,o,h1,h2,h3,h4,⟨b',cap,cur,e0,fz,h5,h6,h7,h8,h9,h10⟩,hxg⟩ := gen_at hs ho1 (hs.ev (ev_out hx).1 hr.left).1
 subst h6
 obtain rfl : b' = b := by rw [h5] at h1;simpa [blk] using h1
 have hyr : Rd w (cx.own g σ1) (a.eval y) (.sl 1 (r.map byteD)) := (hs.ev (ev_out hy).1 hr.right.left).1
 obtain ⟨ad,c,news,y1,y2,y3,y4,y5⟩ := sl_cells hyr (by simp;exact fun h => by rw [h] at hr0;simp at hr0)
 rw [List.length_map] at y1 y2
 have hnews : news = r.map fun c => Value.int .u8 c.toNat := bcells_of (by omega) fun j c u hj hu => by
  have := y5 j 0 (byteD c) (.v (.int .u8 c.toNat)) u (by rw [List.getElem?_map,hj];rfl) rfl (by rw [show j * 1 + 0 = j by omega];exact hu)
  exact rd_v this
 have hF := (cx.hT t ti ht).kind
 rw [hk] at hF
 obtain ⟨hu,⟨ie,hie,hks⟩,hk0,_⟩ := hF
 obtain ⟨ie',hie',hes,heb,z,hz,hzc⟩ := (cx.hT e te hte).info
 rw [hie] at hie'
 cases hie'
 by_cases hroom : s.length + r.length ≤ cap
 ·
  -- in place
  have hst := run_storeCells_atT cx.P b' s.length e0 fz news 0 cur w h4 (by omega) (by omega) y4
  simp only [Nat.add_zero] at hst
  have hf := run_firstCells_some (P := cx.P) w 1 r.length ad r.length c news (by omega) y3
  have hG := gen_set hs (p' := BytP s) (o' := .cells (cur.toList.take s.length ++ news ++ cur.toList.drop (s.length + news.length)).toArray e0 fz) ho1 h2 h3 ⟨b',cap,_,e0,fz,by rw [← hxg];exact h5,rfl,by simp;omega,h8,h9,fun j c hj => by
   have hjl := (List.getElem?_eq_some_iff.1 hj).1
   rw [List.getElem?_toArray,List.append_assoc,List.getElem?_append_left (by simp;omega),List.getElem?_take,if_pos hjl,Array.getElem?_toList]
   exact h10 j c hj⟩
  have hw : w.setRow b' (cur.toList.take s.length ++ news ++ cur.toList.drop (s.length + news.length)).toArray = { w with heap := w.heap.setIfInBounds b' (.cells (cur.toList.take s.length ++ news ++ cur.toList.drop (s.length + news.length)).toArray e0 fz) } := by
   unfold World.setRow
   congr 1
   apply Array.ext_getElem?
   intro i
   rw [Array.getElem?_modify,Array.getElem?_setIfInBounds]
   by_cases hi : b' = i
   ·
    subst hi;rw [if_pos rfl,if_pos rfl,if_pos h3,h4];rfl
   ·
    rw [if_neg hi,if_neg hi]
  rw [← hw] at hG
  have hup : upd g id (g id) = g := by funext i;unfold upd;split <;> simp_all
  rw [hup] at hG
  have hd1 := hG.drop id
  have hlatw : ∀ q,cx.own g ((Key.o id,Val.none) :: objSt σ1 nx id (.gen (BytP s))) q → cx.own g ((Key.o id,Val.none) :: σ1) q := fun q hq => by
   rcases hq with hq | ⟨j,o,q1,q2⟩
   ·
    exact .inl hq
   ·
    by_cases hj : id = j
    ·
     subst hj;rw [get_cons_same] at q1;cases q1
    ·
     rw [get_cons_ne (by simpa using hj),objSt_o (fun e => hj e.symm)] at q1
     exact .inr ⟨j,o,(get_cons_ne (by simpa using hj)).trans q1,q2⟩
  refine wp_val rfl (v := .slice (some ⟨b',0,none⟩) (s ++ r).length cap) ?_ (hK _ _ (Sim.eqv (Sim.put hd1 (lt_of_blt hd) (Below.refl _ _) (av := .d (.sl 1 ((s ++ r).map byteD))) ?_ trivial) fun q => ?_))
  ·
   have : (Builtin.append_ #[t,t] ty #[a.eval x,a.eval y]).run cx.P w = .ok (.slice (some ⟨b',0,none⟩) (s.length + r.length) cap) (w.setRow b' (cur.toList.take s.length ++ news ++ cur.toList.drop (s.length + news.length)).toArray) := by
    rw [h5,y1]
    simp [Builtin.append_,run_underlying hu,sizeOf,typeInfo,hie,hks,Builtin.lenOf,hroom,hf,Addr.add_lit,hst]
   rw [List.length_append]
   simp [execOp,resolve,invoke,builtin,this]
  ·
   refine rd_bytes (e := e0) (fz := fz) (b := b') (cur := (cur.toList.take s.length ++ news ++ cur.toList.drop (s.length + news.length)).toArray) (setRow_heap w b' cur _ e0 fz h4) (fun hown => (own_drop hs ho1 (hlatw _ hown)).2 h2) (by rw [List.length_append];exact hroom) fun j c hj => ?_
   rw [List.getElem?_toArray,List.append_assoc]
   rcases Nat.lt_or_ge j s.length with hjl | hjl
   ·
    rw [List.getElem?_append_left hjl] at hj
    rw [List.getElem?_append_left (by simp;omega),List.getElem?_take,if_pos hjl,Array.getElem?_toList]
    exact h10 j c hj
   ·
    rw [List.getElem?_append_right hjl] at hj
    have hjr := (List.getElem?_eq_some_iff.1 hj).1
    have hmin : (cur.toList.take s.length).length = s.length := by simp;omega
    rw [List.getElem?_append_right (by omega),hmin,List.getElem?_append_left (by omega),hnews,List.getElem?_map,hj]
    rfl
  ·
   cases q with
   | s i =>
    by_cases hi : i = d
    ·
     subst hi;rw [get_cons_same];exact get_cons_same.symm
    ·
     rw [get_cons_ne (by simpa using fun e => hi e.symm),get_cons_ne (by simp),objSt_s]
     exact ((get_cons_ne (by simpa using fun e => hi e.symm)).trans (get_cons_ne (by simp))).symm
   | o i =>
    rw [get_cons_ne (by simp)]
    by_cases hi : i = id
    ·
     subst hi;rw [get_cons_same];exact ((get_cons_ne (by simp)).trans get_cons_same).symm
    ·
     rw [get_cons_ne (by simpa using fun e => hi e.symm),objSt_o hi]
     exact ((get_cons_ne (by simp)).trans (get_cons_ne (by simpa using fun e => hi e.symm))).symm
   | nx =>
    rw [get_cons_ne (by simp),get_cons_ne (by simp),objSt_nx]
    exact (((get_cons_ne (by simp)).trans (get_cons_ne (by simp))).trans hs.hnx).symm
 ·
  -- moved
  have holds : ∀ (j : Nat) (v : Value),(s.map fun c => Value.int .u8 c.toNat)[j]? = some v → w.cell? ((⟨b',0,none⟩ : Addr).add j) = some v := fun j v hj => by
   rw [List.getElem?_map,Option.map_eq_some_iff] at hj
   obtain ⟨c,hc,rfl⟩ := hj
   rw [add_lit,Nat.zero_add]
   simp only [World.cell?,h4]
   exact h10 j c hc
  have hgr := run_append_grow (P := cx.P) w t ty e ie z hu hie hz ⟨b',0,none⟩ s.length cap (s.map fun c => Value.int .u8 c.toNat) (by rw [hks];simp) holds ad r.length c news (by rw [hks];omega) y3 (by omega) (by omega) (by rw [heb,hb1];exact growslice_fits (by omega) (by omega))
  have hge := grownCap_ge w (s.length + r.length) cap e
  have hdr := hs.drop id
  have hbel : Below cx.w0.heap.size w (w.drew.alloc (.cells ((s.map fun c => Value.int .u8 c.toNat).toArray ++ news.toArray ++ Builtin.zeroCells z.cells (grownCap w (s.length + r.length) cap e - (s.length + r.length))) e)) :=
   ⟨rfl,rfl,rfl,by simp,fun k hk => heap_alloc_old w.drew _ (Nat.lt_of_lt_of_le hk hs.below.size)⟩
  have hbel2 : Below w.heap.size w (w.drew.alloc (.cells ((s.map fun c => Value.int .u8 c.toNat).toArray ++ news.toArray ++ Builtin.zeroCells z.cells (grownCap w (s.length + r.length) cap e - (s.length + r.length))) e)) :=
   ⟨rfl,rfl,rfl,by simp,fun k hk => heap_alloc_old w.drew _ hk⟩
  refine wp_val rfl (v := .slice (some ⟨w.heap.size,0,none⟩) (s ++ r).length (grownCap w (s.length + r.length) cap e)) (w' := w.drew.alloc (.cells ((s.map fun c => Value.int .u8 c.toNat).toArray ++ news.toArray ++ Builtin.zeroCells z.cells (grownCap w (s.length + r.length) cap e - (s.length + r.length))) e)) ?_ (hK _ _ (Sim.put hdr (lt_of_blt hd) hbel2 (av := .d (.sl 1 ((s ++ r).map byteD))) ?_ trivial))
  ·
   rw [List.length_append]
   simp [execOp,resolve,invoke,builtin,h5,y1,hgr]
  ·
   refine rd_bytes (e := e) (fz := (0,0)) (heap_alloc_new w.drew _) (fun hown => by have := own_lt hdr hown;simp at this) (by rw [List.length_append];exact hge) fun j c hj => ?_
   rw [hnews,Array.append_assoc,← List.map_toArray]
   rcases Nat.lt_or_ge j s.length with hjl | hjl
   ·
    rw [List.getElem?_append_left hjl] at hj
    rw [Array.getElem?_append_left (by simpa using hjl)]
    simp [hj]
   ·
    rw [List.getElem?_append_right hjl] at hj
    have hjr := (List.getElem?_eq_some_iff.1 hj).1
    rw [Array.getElem?_append_right (by simpa using hjl),Array.getElem?_append_left (by simp;omega)]
    simp [hj]
theorem a_ft {t : TypeId} {x lo hi : Operand} {kd ke : IntKind} {m q : Int} {k : Nat} {rows out : List (List D)} {ti : TI} (hx : ev σ x = some (.d (.sl k rows))) (hlo : ev σ lo = some (.d (.v (.int kd m)))) (hhi : ev σ hi = some (.d (.v (.int ke q)))) (ht : tget cx.T t = some ti) (hk : slK ti = some k)
  (hd : Nat.blt d cx.n = true) (hc : cutI rows (some m) (some q) = some out) : OA cx σ ⟨some d,.slice t x (some lo) (some hi) none,ty,pos,af,gd⟩ ⟨rdOf x (.d (.sl k rows)) ++ (rdOf lo (.d (.v (.int kd m))) ++ rdOf hi (.d (.v (.int ke q)))),[(.s d,.av (.d (.sl k out)))]⟩ :=
 ⟨ok_slice (lt_of_blt hd) (ev_out hx).1 (.at_ (ev_out hlo).1) (.at_ (ev_out hhi).1) ht hk hc,(ev_out hx).2.append ((ev_out hlo).2.append (ev_out hhi).2)⟩
theorem cut_ft {rows : List (List D)} {m n : Nat} (h : m ≤ n) (hn : n ≤ rows.length) : cutI rows (some (m : Int)) (some (n : Int)) = some ((rows.take n).drop m) := by
 unfold cutI
 dsimp only [Option.getD]
 rw [if_pos (by omega)]
 simp
theorem bin_remI {P : Program} {t : TypeId} {a b r : Int} (hb : b ≠ 0) (h : a.tmod b = r) : BinR P .rem t (.int .i64 a) (.int .i64 b) (.int .i64 r) := by
 subst h;exact bin_rem hb
theorem bin_quoI {P : Program} {t : TypeId} {a b r : Int} (hb : b ≠ 0) (h : a.tdiv b = r) (hr : -9223372036854775808 ≤ r ∧ r ≤ 9223372036854775807) : BinR P .quo t (.int .i64 a) (.int .i64 b) (.int .i64 r) := by
 subst h;exact bin_quo hb hr
theorem tmod_sum {s c : Nat} : ((s : Int) * 257 + (c : Int) + 1).tmod 65521 = (((s * 257 + c + 1) % 65521 : Nat) : Int) := by
 rw [Int.tmod_eq_emod_of_nonneg (by omega)];omega
theorem tmod_sum' {s c : Nat} : (257 * (s : Int) + (c : Int) + 1).tmod 65521 = (((s * 257 + c + 1) % 65521 : Nat) : Int) := by
 rw [show 257 * (s : Int) = (s : Int) * 257 by omega];exact tmod_sum
theorem tdiv_256 {s : Nat} : (s : Int).tdiv 256 = ((s / 256 : Nat) : Int) := by rw [Int.tdiv_eq_ediv_of_nonneg (by omega)];omega
theorem tmod_256 {s : Nat} : (s : Int).tmod 256 = ((s % 256 : Nat) : Int) := by rw [Int.tmod_eq_emod_of_nonneg (by omega)];omega
theorem bin_shrJ {P : Program} {t : TypeId} {k : IntKind} {a c r : Int} (hc : c = 8) (h : a / 256 = r) : BinR P .shr t (.int .i64 a) (.int k c) (.int .i64 r) := by
 subst hc h;exact bin_shr8
theorem bin_shlJ {P : Program} {t : TypeId} {k : IntKind} {n : Nat} {c : Int} (hc : c = 8) (h : n < 256) : BinR P .shl t (.int .i64 n) (.int k c) (.int .i64 ((n : Int) * 256)) := by
 subst hc;exact bin_shl8 h
theorem div_256 {s : Nat} : (s : Int) / 256 = ((s / 256 : Nat) : Int) := by omega
theorem wrap_u8_n {s : Nat} : IntKind.u8.wrap (s : Int) = ((s % 256 : Nat) : Int) := by
 rw [IntKind.wrap_u8];omega
theorem a_convW {s t : TypeId} {x : Operand} {ks kt : IntKind} {n m : Int} {si ti : TI} (hx : ev σ x = some (.d (.v (.int ks n)))) (hs' : tget cx.T s = some si) (hks : inK si = some ks) (ht : tget cx.T t = some ti) (hkt : inK ti = some kt) (hd : Nat.blt d cx.n = true) (hw : kt.wrap n = m) :
  OA cx σ ⟨some d,.convert s t x,ty,pos,af,gd⟩ ⟨rdOf x (.d (.v (.int ks n))),[(.s d,.av (.d (.v (.int kt m))))]⟩ := by
 refine ⟨ok_val rfl (lt_of_blt hd) fun σ a w g nx hs hr => ⟨.int kt m,w,?_,Below.refl _ _,Rd.v _,trivial⟩,(ev_out hx).2⟩
 have hv := rep_v (hs.ev (ev_out hx).1 hr).1
 have h1 := int_of (cx := cx) hs' hks
 have h2 := int_of (cx := cx) ht hkt
 have h3 : cx.P.intKind t = kt := by simp [Program.intKind,h2]
 have := run_convert_int (P := cx.P) w s t ks n (by simp [h1]) (by rw [h3];exact h2)
 rw [h3,hw] at this
 simp [execOp,hv,this]
theorem byte_row {s : Nat} (h : s < 256) : [D.v (.int .u8 (s : Int))] = byteD (UInt8.ofNat s) := by
 unfold byteD
 rw [UInt8.toNat_ofNat',Nat.mod_eq_of_lt h]
end Go.AX
namespace Go.RF
open Go.AX
def sumN : Nat → Str → Nat
 | s,[] => s
 | s,c :: r => sumN ((s * 257 + c.toNat + 1) % 65521) r
def linesD (l : List Deed) : Str := l.flatMap fun d => printD d ++ [10]
def headE (e : Entry) : Str := UInt8.ofNat e.number.toNat :: linesD e.deeds
def sum2 (s : Nat) : Str := [UInt8.ofNat (s / 256),UInt8.ofNat (s % 256)]
def bytesE (e : Entry) : Str := headE e ++ sum2 (sumN 1 (headE e))
def parseL : List Str → Except Int (List Deed)
 | [] => .ok []
 | s :: r => match parseE s with
  | .error e => .error e
  | .ok d => match parseL r with
   | .error e => .error e
   | .ok l => .ok (d :: l)
def bodyB (b : Str) : Str := (b.take (b.length - 2)).drop 1
def byteN (b : Str) (k : Nat) : Nat := (b.getD k 0).toNat
def parseB (b : Str) : Except Int Entry :=
 if b.length < 3 then .error 8
 else if sumN 1 (b.take (b.length - 2)) = byteN b (b.length - 2) * 256 + byteN b (b.length - 1) then
  (if (split (bodyB b) [10]).getLast? = some [] then match parseL (split (bodyB b) [10]).dropLast with
   | .error e => .error e
   | .ok ds => if wrongEntry ⟨byteN b 0,ds⟩ = 0 then .ok ⟨byteN b 0,ds⟩ else .error (wrongEntry ⟨byteN b 0,ds⟩)
  else .error 2)
 else .error 2
def noEntry : Entry := ⟨0,[]⟩
def resB : Except Int Entry → Entry × Int
 | .ok e => (e,0)
 | .error w => (noEntry,w)
abbrev encBytes (b : Str) : D := .sl 1 (b.map byteD)
end Go.RF
namespace Go.AX
open Go.RowKit Go.RF
variable {cx : Cx} {g : Nat → Value} {σ : St} {a : Act} {w w' : World} {nx : Nat}
variable {ty : TypeId} {pos : String} {af : Array Edge} {gd : Option (Nat × Bool)} {d : Nat}
theorem extract_str (s : List UInt8) (l h : Nat) : Value.string ((⟨s.toArray⟩ : ByteArray).extract l h) = str ((s.drop l).take (h - l)) := by
 have : (⟨s.toArray⟩ : ByteArray).extract l h = ⟨((s.drop l).take (h - l)).toArray⟩ := by
  apply ByteArray.ext
  rw [ByteArray.data_extract]
  simp
 rw [this];rfl
theorem a_sub {t : TypeId} {x lo hi : Operand} {kd ke : IntKind} {s : List UInt8} {l h : Nat} {ti : TI} (hx : ev σ x = some (.d (.v (str s)))) (hlo : ev σ lo = some (.d (.v (.int kd (l : Int))))) (hhi : ev σ hi = some (.d (.v (.int ke (h : Int)))))
  (ht : tget cx.T t = some ti) (hk : ti.kind = .str) (hd : Nat.blt d cx.n = true) (hlh : l ≤ h) (hh : h ≤ s.length) :
  OA cx σ ⟨some d,.slice t x (some lo) (some hi) none,ty,pos,af,gd⟩ ⟨rdOf x (.d (.v (str s))) ++ (rdOf lo (.d (.v (.int kd (l : Int)))) ++ rdOf hi (.d (.v (.int ke (h : Int))))),[(.s d,.av (.d (.v (str ((s.drop l).take (h - l))))))]⟩ := by
 refine ⟨ok_val rfl (lt_of_blt hd) fun σ1 a w g nx hs hr => ?_,(ev_out hx).2.append ((ev_out hlo).2.append (ev_out hhi).2)⟩
 have hv := rep_v (hs.ev (ev_out hx).1 hr.left).1
 have h1 := rep_v (hs.ev (ev_out hlo).1 hr.right.left).1
 have h2 := rep_v (hs.ev (ev_out hhi).1 hr.right.right).1
 have hu : cx.P.underlying t = some .string := by have := (cx.hT t ti ht).kind;rw [hk] at this;exact this.1
 refine ⟨_,w,?_,Below.refl _ _,Rd.v _,trivial⟩
 have hsz : (⟨s.toArray⟩ : ByteArray).size = s.length := rfl
 have e1 : ¬ ((h : Int) < 0) := by omega
 have e2 : ¬ ((l : Int) < 0) := by omega
 rw [← extract_str]
 simp [execOp,hv,h1,h2,str,Instr.sliceAt,Instr.slice,run_underlying hu,Instr.sliceBounds,Instr.sliceBound,asIntOf,hsz,hlh,hh,e1,e2]
theorem a_subF {t : TypeId} {x lo : Operand} {kd : IntKind} {s : List UInt8} {l : Nat} {ti : TI} (hx : ev σ x = some (.d (.v (str s)))) (hlo : ev σ lo = some (.d (.v (.int kd (l : Int)))))
  (ht : tget cx.T t = some ti) (hk : ti.kind = .str) (hd : Nat.blt d cx.n = true) (hh : l ≤ s.length) :
  OA cx σ ⟨some d,.slice t x (some lo) none none,ty,pos,af,gd⟩ ⟨rdOf x (.d (.v (str s))) ++ rdOf lo (.d (.v (.int kd (l : Int)))),[(.s d,.av (.d (.v (str (s.drop l)))))]⟩ := by
 refine ⟨ok_val rfl (lt_of_blt hd) fun σ1 a w g nx hs hr => ?_,(ev_out hx).2.append (ev_out hlo).2⟩
 have hv := rep_v (hs.ev (ev_out hx).1 hr.left).1
 have h1 := rep_v (hs.ev (ev_out hlo).1 hr.right).1
 have hu : cx.P.underlying t = some .string := by have := (cx.hT t ti ht).kind;rw [hk] at this;exact this.1
 refine ⟨_,w,?_,Below.refl _ _,Rd.v _,trivial⟩
 have hsz : (⟨s.toArray⟩ : ByteArray).size = s.length := rfl
 have e2 : ¬ ((l : Int) < 0) := by omega
 have he := extract_str s l s.length
 rw [List.take_of_length_le (by simp)] at he
 rw [← he]
 simp [execOp,hv,h1,str,Instr.sliceAt,Instr.slice,run_underlying hu,Instr.sliceBounds,Instr.sliceBound,asIntOf,hsz,hh,e2]
theorem a_noerr {t t' : TypeId} {x : Operand} {ms : Array (String × TypeId)} (hx : ev σ x = some (.d (.v .nilIface))) (ht : cx.P.underlying t = some (.interface ms)) (hd : Nat.blt d cx.n = true) :
  OA cx σ ⟨some d,.binOp .eql t x (.const .nilIface) t',ty,pos,af,gd⟩ ⟨rdOf x (.d (.v .nilIface)),[(.s d,.av (.d (.v (.bool true))))]⟩ := by
 refine ⟨ok_val rfl (lt_of_blt hd) fun σ1 a w g nx hs hr => ?_,(ev_out hx).2⟩
 have hv := rep_v (hs.ev (ev_out hx).1 hr).1
 refine ⟨.bool true,w,?_,Below.refl _ _,Rd.v _,trivial⟩
 have h : ∀ d : Nat,(Op.equalIn (d + 1) t .nilIface .nilIface).run cx.P w = .ok true w := fun d => by
  simp [Op.equalIn,run_underlying ht]
 have hg : eqGuard .eql t x (.const .nilIface) .nilIface .nilIface = pure () := by cases x <;> rfl
 have hc : a.eval (.const .nilIface) = .nilIface := rfl
 simp [execOp,hv,hc,hg,binOp,Op.equal,Op.maxDepth,h 9999]
end Go.AX
namespace Go.Proofs.YtmnociojijpdmaaGreatDoor
open Go.AX Go.RF
set_option maxRecDepth 100000
set_option maxHeartbeats 4000000
theorem splitF_len (sep : Str) : ∀ (n : Nat) (cur r : Str),(splitF sep n cur r).length ≤ n + 1
 | 0,cur,r => by simp [splitF]
 | n + 1,cur,r => by
  simp only [splitF]
  split
  ·
   simp
  split
  ·
   have := splitF_len sep n [] (r.drop sep.length);simp;omega
  cases r with
  | nil => simp
  | cons c t => have := splitF_len sep n (cur ++ [c]) t;simp;omega
theorem splitF_succ (sep : Str) (n : Nat) (cur r : Str) : splitF sep (n + 1) cur r = if r.length < sep.length then [cur ++ r]
  else if r.take sep.length = sep then cur :: splitF sep n [] (r.drop sep.length)
  else match r with
   | [] => [cur]
   | c :: t => splitF sep n (cur ++ [c]) t := by cases r <;> rfl
theorem ok_split (s sep : Str) (hs : s.length ≤ 1073741000) (hp : sep ≠ []) (hp2 : sep.length ≤ 1000) : FnOk Tryz.prog 108 [.d (dstr s),.d (dstr sep)] (.one (encStrs (split s sep))) := by
 refine fnOk_of tbl_ok mixed_ok Tryz.func108 rfl (by kernel_rfl) rfl rfl fun w0 own0 => ?_
 have hp0 : 0 < sep.length := List.length_pos_iff.2 hp
 have hst0 : StopA 3 := ⟨rfl⟩
 try refine wkS ?_
 clear hst0
 refine Stop.go (CW.stut (stut_promote (i := 5) 9 1) ⟨rfl,rfl,trivial⟩ ?_)
 try refine wk ?_
 refine CW.loopT (fun t : Nat × Nat × List Str => [sd 0 (dstr s),sd 1 (dstr sep),sd 4 (.v nilS),so 5 0 t.2.2.length,oa 0 9 1 (t.2.2.map encStr1),sd 6 (dint t.1),sd 7 (dint t.2.1),nxt 1])
  (fun t => t.1 ≤ t.2.1 ∧ t.2.1 ≤ s.length ∧ t.2.2.length ≤ t.2.1 ∧ ∃ n,s.length ≤ n + t.2.1 ∧ t.2.2 ++ splitF sep n ((s.drop t.1).take (t.2.1 - t.1)) (s.drop t.2.1) = split s sep) (fun t => s.length - t.2.1) (0,0,[]) ⟨by dsimp only;omega,by dsimp only;omega,by dsimp only;simp,s.length,by dsimp only;omega,rfl⟩ ?_ ?_
 ·
  exact by_less
 ·
  rintro ⟨f,i,out⟩ ⟨hf,hi,ho,n,hn,hI⟩
  dsimp only at hf hi ho hn hI ⊢
  have hcr : (s.drop f).take (i - f) ++ s.drop i = s.drop f := by
   have := List.take_append_drop (i - f) (s.drop f)
   rw [List.drop_drop,show f + (i - f) = i by omega] at this
   exact this
  have hrl : (s.drop i).length = s.length - i := by simp
  by_cases h1 : i + sep.length ≤ s.length
  ·
   obtain ⟨n,rfl⟩ : ∃ m,n = m + 1 := ⟨n - 1,by omega⟩
   rw [splitF_succ,if_neg (by omega)] at hI
   have hcut : ((s.drop i).take (i + sep.length - i)) = (s.drop i).take sep.length := by congr 1;omega
   by_cases h2 : (s.drop i).take sep.length = sep
   ·
    rw [if_pos h2] at hI
    have h2' : (s.drop i).take (i + sep.length - i) = sep := hcut.trans h2
    repeat (first|((with_reducible apply s5);((with_reducible apply a_bs [[dstr ((s.drop f).take (i - f))]]);(iterate 9 exact rfl);(repeat (first | exact PartsE.nil | (apply PartsE.cons;exact rfl;exact rfl))));exact by_g)|refine wa1 ?_|((with_reducible apply s5);(first|((with_reducible apply (a_sub (l := i) (h := i + sep.length)));(iterate 6 exact rfl);omega;omega)|((with_reducible apply (a_sub (l := f) (h := i)));(iterate 6 exact rfl);omega;omega)|exact by_oa|exact by_ca);exact by_g)|refine wb ?_)
    refine q_loopT (i + sep.length,i + sep.length,out ++ [(s.drop f).take (i - f)]) ⟨by dsimp only;omega,by dsimp only;omega,by dsimp only;simp;omega,n,by dsimp only;omega,?_⟩ (by dsimp only;omega) ?_
    ·
     dsimp only
     rw [← hI,List.append_assoc,List.drop_drop,Nat.sub_self,List.take_zero]
     rfl
    exact by_less
   ·
    rw [if_neg h2] at hI
    have h2' : ¬ (s.drop i).take (i + sep.length - i) = sep := fun h => h2 (hcut.symm.trans h)
    have hlt : i < s.length := by omega
    rw [List.drop_eq_getElem_cons hlt] at hI
    dsimp only at hI
    repeat (first|refine wa ?_|((with_reducible apply s5);(first|((with_reducible apply (a_sub (l := i) (h := i + sep.length)));(iterate 6 exact rfl);omega;omega)|exact by_oa|exact by_ca);exact by_g)|refine wb ?_)
    refine q_loopT (f,i + 1,out) ⟨by dsimp only;omega,by dsimp only;omega,by dsimp only;omega,n,by dsimp only;omega,?_⟩ (by dsimp only;omega) ?_
    ·
     dsimp only
     rw [← hI,show i + 1 - f = (i - f) + 1 by omega,List.take_add_one,List.getElem?_drop,show f + (i - f) = i by omega,List.getElem?_eq_getElem hlt]
     rfl
    exact by_less
  ·
   have hfin : out ++ [s.drop f] = split s sep := by
    rw [← hI]
    cases n with
    | zero => rw [splitF,hcr]
    | succ n => rw [splitF_succ,if_pos (by omega),hcr]
   repeat (first|((with_reducible apply s5);((with_reducible apply a_bs [[dstr (s.drop f)]]);(iterate 9 exact rfl);(repeat (first | exact PartsE.nil | (apply PartsE.cons;exact rfl;exact rfl))));exact by_g)|refine wa1 ?_|((with_reducible apply s5);(first|((with_reducible apply (a_subF (l := f)));(iterate 5 exact rfl);omega)|exact by_oa|exact by_ca);exact by_g)|refine wb ?_)
   rw [← hfin,show encStrs (out ++ [s.drop f]) = .sl 1 (out.map encStr1 ++ [[dstr (s.drop f)]]) by simp [encStrs,encStr1]]
   exact .one (.tmp rfl (.one (.own rfl (by simp) (.refl _))))
theorem ok_words : FnOk Tryz.prog 103 [] (.one (encStrs words)) := by
 refine fnOk_of tbl_ok mixed_ok Tryz.func103 rfl (by kernel_rfl) rfl rfl fun w0 own0 => ?_
 repeat (first|((with_reducible apply s5);((with_reducible apply a_bs (words.map encStr1));(iterate 9 exact rfl);(repeat (first | exact PartsE.nil | (apply PartsE.cons;exact rfl;exact rfl))));exact by_g)|refine wa1 ?_|((with_reducible apply s5);(first|exact by_oa|exact by_ca);exact by_g)|refine wb ?_)
 exact .one (.tmp rfl (.one (.d (.refl _))))
theorem sumN_lt : ∀ {l : Str} {s : Nat},s < 65521 → sumN s l < 65521
 | [],s,h => h
 | c :: r,s,h => by simp only [sumN];exact sumN_lt (Nat.mod_lt _ (by omega))
theorem toNat_ofNat {n : Nat} (h : n < 256) : (UInt8.ofNat n).toNat = n := by
 rw [UInt8.toNat_ofNat'];omega
theorem lines_join {ls : List Str} : joinS [10] (ls ++ [[]]) = ls.flatMap fun s => s ++ [10] := by
 induction ls with
 | nil => rfl
 | cons s l ih =>
  rw [List.flatMap_cons,← ih,List.cons_append,joinS_cons]
  cases l with
  | nil => simp [joinS,tailS]
  | cons x l => rw [List.cons_append,joinS_cons];simp [tailS]
theorem linesD_eq (l : List Deed) : linesD l = (l.map printD).flatMap fun s => s ++ [10] := by
 unfold linesD
 rw [List.flatMap_map]
theorem parseL_print : ∀ {ls : List Str} {l : List Deed},parseL ls = .ok l → l.map printD = ls
 | [],l,h => by simp only [parseL] at h;cases h;rfl
 | s :: ls,l,h => by
  simp only [parseL] at h
  cases hp : parseE s with
  | error e => rw [hp] at h;cases h
  | ok d =>
   rw [hp] at h
   dsimp only at h
   cases hr : parseL ls with
   | error e => rw [hr] at h;cases h
   | ok r =>
    rw [hr] at h
    cases h
    rw [List.map_cons,print_parse hp,parseL_print hr]
def goL : Str → List Deed → Str → Except Int (List Deed)
 | _,acc,[] => .ok acc
 | cur,acc,c :: r => if c = 10 then (match parseE cur with
  | .error e => .error e
  | .ok d => goL [] (acc ++ [d]) r) else goL (cur ++ [c]) acc r
def accL (acc : List Deed) : Except Int (List Deed) → Except Int (List Deed)
 | .error e => .error e
 | .ok l => .ok (acc ++ l)
theorem goL_split : ∀ (r : Str) (n : Nat) (cur : Str) (acc : List Deed),r.length ≤ n → (splitF [10] n cur r).getLast? = some [] → goL cur acc r = accL acc (parseL (splitF [10] n cur r).dropLast)
 | [],n,cur,acc,_,h => by
  have h1 : splitF [10] n cur [] = [cur] := by
   cases n with
   | zero => simp [splitF]
   | succ n => rw [splitF_succ];simp
  rw [h1]
  simp [goL,parseL,accL]
 | c :: r,0,cur,acc,hn,h => by simp at hn
 | c :: r,n + 1,cur,acc,hn,h => by
  rw [splitF_succ] at h ⊢
  have hlen : ¬ (c :: r).length < ([10] : Str).length := by simp
  rw [if_neg hlen] at h ⊢
  have hn' : r.length ≤ n := by simpa using hn
  by_cases hc : c = 10
  ·
   subst hc
   have ht : ((10 : UInt8) :: r).take ([10] : Str).length = [10] := rfl
   rw [if_pos ht] at h ⊢
   have hd : ((10 : UInt8) :: r).drop ([10] : Str).length = r := rfl
   rw [hd] at h ⊢
   have hne := splitF_ne [10] n [] r
   have h2 : (splitF [10] n [] r).getLast? = some [] := by
    obtain ⟨x,t,hx⟩ : ∃ x t,splitF [10] n [] r = x :: t := by
     cases hs : splitF [10] n [] r with
     | nil => exact absurd hs hne
     | cons x t => exact ⟨x,t,rfl⟩
    rw [hx] at h ⊢
    simpa using h
   rw [List.dropLast_cons_of_ne_nil hne]
   simp only [goL,if_pos,parseL]
   cases hp : parseE cur with
   | error e => simp [accL]
   | ok d =>
    dsimp only
    rw [goL_split r n [] (acc ++ [d]) hn' h2]
    cases parseL (splitF [10] n [] r).dropLast with
    | error e => rfl
    | ok l => simp [accL]
  ·
   have ht : (c :: r).take ([10] : Str).length ≠ [10] := by simp [hc]
   rw [if_neg ht] at h ⊢
   dsimp only at h ⊢
   simp only [goL]
   rw [if_neg hc]
   exact goL_split r n (cur ++ [c]) acc hn' h
theorem split_last : ∀ (r : Str) (n : Nat) (cur : Str),r.length ≤ n → ((splitF [10] n cur r).getLast? = some [] ↔ (r = [] ∧ cur = []) ∨ r.getLast? = some 10)
 | [],n,cur,_ => by
  have h1 : splitF [10] n cur [] = [cur] := by
   cases n with
   | zero => simp [splitF]
   | succ n => rw [splitF_succ];simp
  rw [h1];simp
 | c :: r,0,cur,hn => by simp at hn
 | c :: r,n + 1,cur,hn => by
  have hn' : r.length ≤ n := by simpa using hn
  rw [splitF_succ,if_neg (by simp)]
  by_cases hc : c = 10
  ·
   subst hc
   rw [if_pos (show ((10 : UInt8) :: r).take ([10] : Str).length = [10] from rfl),show ((10 : UInt8) :: r).drop ([10] : Str).length = r from rfl]
   have hne := splitF_ne [10] n [] r
   obtain ⟨x,t,hx⟩ : ∃ x t,splitF [10] n [] r = x :: t := by
    cases hs : splitF [10] n [] r with
    | nil => exact absurd hs hne
    | cons x t => exact ⟨x,t,rfl⟩
   have h3 : (cur :: splitF [10] n [] r).getLast? = (splitF [10] n [] r).getLast? := by rw [hx];simp
   rw [h3,split_last r n [] hn']
   cases r with
   | nil => simp
   | cons y r => simp
  ·
   rw [if_neg (show ¬ (c :: r).take ([10] : Str).length = [10] by simp [hc])]
   dsimp only
   rw [split_last r n (cur ++ [c]) hn']
   cases r with
   | nil => simp [hc]
   | cons y r => simp
theorem parseB_app (h0 : UInt8) (L : Str) (u v : UInt8) : parseB (h0 :: (L ++ [u,v])) =
  if sumN 1 (h0 :: L) = u.toNat * 256 + v.toNat then
   (if (split L [10]).getLast? = some [] then match parseL (split L [10]).dropLast with
    | .error e => .error e
    | .ok ds => if wrongEntry ⟨h0.toNat,ds⟩ = 0 then .ok ⟨h0.toNat,ds⟩ else .error (wrongEntry ⟨h0.toNat,ds⟩)
   else .error 2)
  else .error 2 := by
 have hl : (h0 :: (L ++ [u,v])).length = L.length + 3 := by simp
 have h1 : (h0 :: (L ++ [u,v])).take (L.length + 1) = h0 :: L := by simp
 have h2 : byteN (h0 :: (L ++ [u,v])) (L.length + 1) = u.toNat := by simp [byteN]
 have h3 : byteN (h0 :: (L ++ [u,v])) (L.length + 2) = v.toNat := by simp [byteN,List.getElem?_append_right]
 have h4 : byteN (h0 :: (L ++ [u,v])) 0 = h0.toNat := by simp [byteN]
 have h5 : bodyB (h0 :: (L ++ [u,v])) = L := by
  unfold bodyB
  rw [hl,show L.length + 3 - 2 = L.length + 1 by omega,h1]
  rfl
 unfold parseB
 rw [hl,if_neg (by omega),show L.length + 3 - 2 = L.length + 1 by omega,show L.length + 3 - 1 = L.length + 2 by omega,h1,h2,h3,h4,h5]
 all_goals rfl
theorem bytes_form {b : Str} (h : 3 ≤ b.length) : ∃ h0 L u v,b = h0 :: (L ++ [u,v]) := by
 match b,h with
 | c :: r,h =>
  have hl : r.length = (r.length - 2) + 2 := by simp at h;omega
  have h1 : r = r.take (r.length - 2) ++ r.drop (r.length - 2) := (List.take_append_drop _ _).symm
  have h2 : (r.drop (r.length - 2)).length = 2 := by rw [List.length_drop];omega
  match hd : r.drop (r.length - 2),h2 with
  | [u,v],_ => exact ⟨c,r.take (r.length - 2),u,v,by rw [hd] at h1;rw [← h1]⟩
theorem ofNat_toNat (c : UInt8) : UInt8.ofNat c.toNat = c := by
 apply UInt8.toNat_inj.1
 rw [toNat_ofNat c.toNat_lt]
theorem bytes_parse {b : Str} {e : Entry} (h : parseB b = .ok e) : wrongEntry e = 0 ∧ bytesE e = b := by
 have h3 : 3 ≤ b.length := by
  refine Classical.byContradiction fun hlt => ?_
  unfold parseB at h
  rw [if_pos (by omega)] at h
  cases h
 obtain ⟨h0,L,u,v,rfl⟩ := bytes_form h3
 rw [parseB_app] at h
 split at h
 ·
  next hs =>
  split at h
  ·
   next hl =>
   split at h
   ·
    cases h
   ·
    next ds hp =>
    split at h
    ·
     next hw =>
     cases h
     refine ⟨hw,?_⟩
     have hlin : linesD ds = L := by
      have hj := split_join_id L [10]
      have hne : split L [10] ≠ [] := splitF_ne [10] L.length [] L
      have hds : split L [10] = (split L [10]).dropLast ++ [[]] := by
       have hlx : (split L [10]).getLast hne = [] := by
        rw [List.getLast?_eq_some_getLast hne] at hl
        exact Option.some.inj hl
       have := List.dropLast_concat_getLast hne
       rw [hlx] at this
       exact this.symm
      rw [linesD_eq,parseL_print hp,← lines_join,← hds,hj]
     have hhd : headE ⟨(h0.toNat : Int),ds⟩ = h0 :: L := by
      unfold headE
      rw [hlin,Int.toNat_natCast,ofNat_toNat]
     unfold bytesE
     rw [hhd,hs]
     unfold sum2
     have hu := u.toNat_lt
     have hv := v.toNat_lt
     rw [show (u.toNat * 256 + v.toNat) / 256 = u.toNat by omega,show (u.toNat * 256 + v.toNat) % 256 = v.toNat by omega,ofNat_toNat,ofNat_toNat]
     rfl
    ·
     cases h
  ·
   cases h
 ·
  cases h
end Go.Proofs.YtmnociojijpdmaaGreatDoor
namespace Go.Proofs
open Go.Shelf Go.RowKit
noncomputable def Tryz.laysC172_ren : Go.Shelf.Ren := ⟨fun | 129 => 166 | 171 => 99 | 172 => 133 | 205 => 210 | 243 => 125 | 244 => 152 | 245 => 153 | 246 => 146 | 247 => 186 | 279 => 187 | 280 => 188 | 281 => 189 | 282 => 190 | 283 => 176 | 284 => 177 | 285 => 178 | 286 => 179 | 287 => 208 | 316 => 209 | 317 => 202 | 318 => 203 | 319 => 204 | 320 => 205 | 321 => 216 | 322 => 217 | 337 => 214 | 338 => 215 | n => n, fun | 0 => 0 | 2 => 2 | 3 => 3 | 4 => 4 | 5 => 5 | 9 => 9 | 20 => 20 | 21 => 21 | 37 => 54 | 46 => 102 | 51 => 196 | 53 => 198 | 75 => 163 | 76 => 164 | 85 => 215 | 127 => 181 | 143 => 250 | 145 => 252 | 167 => 214 | 168 => 217 | 171 => 209 | 173 => 211 | 175 => 239 | 210 => 243 | 212 => 231 | 213 => 232 | 232 => 254 | 233 => 255 | 80 => 166 | n => n, fun | 15 => (Tryz.prog.globals.findIdx? (·.name == "strconv.ErrSyntax")).getD 0 | 16 => (Tryz.prog.globals.findIdx? (·.name == "strconv.ErrRange")).getD 0 | 17 => (Tryz.prog.globals.findIdx? (·.name == "internal/strconv.uint64pow10")).getD 0 | 18 => (Tryz.prog.globals.findIdx? (·.name == "math/bits.deBruijn32tab")).getD 0 | 19 => (Tryz.prog.globals.findIdx? (·.name == "math/bits.deBruijn64tab")).getD 0 | n => n⟩
theorem Tryz.laysC172 : Go.Proofs.LaysC.n172 Tryz.prog Tryz.laysC172_ren := {
 mixed := by kernel_rfl
 f129 := Tryz.func166.trans (congrArg some (by kernel_rfl))
 f171 := Tryz.func99.trans (congrArg some (by kernel_rfl))
 f172 := Tryz.func133.trans (congrArg some (by kernel_rfl))
 f205 := Tryz.func210.trans (congrArg some (by kernel_rfl))
 f243 := Tryz.func125.trans (congrArg some (by kernel_rfl))
 f244 := Tryz.func152.trans (congrArg some (by kernel_rfl))
 f245 := Tryz.func153.trans (congrArg some (by kernel_rfl))
 f246 := Tryz.func146.trans (congrArg some (by kernel_rfl))
 f247 := Tryz.func186.trans (congrArg some (by kernel_rfl))
 f279 := Tryz.func187.trans (congrArg some (by kernel_rfl))
 f280 := Tryz.func188.trans (congrArg some (by kernel_rfl))
 f281 := Tryz.func189.trans (congrArg some (by kernel_rfl))
 f282 := Tryz.func190.trans (congrArg some (by kernel_rfl))
 f283 := Tryz.func176.trans (congrArg some (by kernel_rfl))
 f284 := Tryz.func177.trans (congrArg some (by kernel_rfl))
 f285 := Tryz.func178.trans (congrArg some (by kernel_rfl))
 f286 := Tryz.func179.trans (congrArg some (by kernel_rfl))
 f287 := Tryz.func208.trans (congrArg some (by kernel_rfl))
 f316 := Tryz.func209.trans (congrArg some (by kernel_rfl))
 f317 := Tryz.func202.trans (congrArg some (by kernel_rfl))
 f318 := Tryz.func203.trans (congrArg some (by kernel_rfl))
 f319 := Tryz.func204.trans (congrArg some (by kernel_rfl))
 f320 := Tryz.func205.trans (congrArg some (by kernel_rfl))
 f321 := Tryz.func216.trans (congrArg some (by kernel_rfl))
 f322 := Tryz.func217.trans (congrArg some (by kernel_rfl))
 f337 := Tryz.func214.trans (congrArg some (by kernel_rfl))
 f338 := Tryz.func215.trans (congrArg some (by kernel_rfl))
 t0 := Tryz.underlying0
 a0 := Tryz.isAgg0
 z0 := Tryz.sizeOf0
 v0 := Tryz.zeroValue0
 t2 := Tryz.underlying2
 a2 := Tryz.isAgg2
 z2 := Tryz.sizeOf2
 v2 := Tryz.zeroValue2
 t3 := Tryz.underlying3
 a3 := Tryz.isAgg3
 z3 := Tryz.sizeOf3
 v3 := Tryz.zeroValue3
 t4 := Tryz.underlying4
 a4 := Tryz.isAgg4
 z4 := Tryz.sizeOf4
 v4 := Tryz.zeroValue4
 t5 := Tryz.underlying5
 a5 := Tryz.isAgg5
 z5 := Tryz.sizeOf5
 v5 := Tryz.zeroValue5
 t9 := Tryz.underlying9
 a9 := Tryz.isAgg9
 z9 := Tryz.sizeOf9
 v9 := Tryz.zeroValue9
 t20 := Tryz.underlying20
 a20 := Tryz.isAgg20
 z20 := Tryz.sizeOf20
 v20 := Tryz.zeroValue20
 t21 := Tryz.underlying21
 a21 := Tryz.isAgg21
 z21 := Tryz.sizeOf21
 v21 := Tryz.zeroValue21
 t37 := Tryz.underlying54
 a37 := Tryz.isAgg54
 z37 := Tryz.sizeOf54
 v37 := Tryz.zeroValue54
 t46 := Tryz.underlying102
 a46 := Tryz.isAgg102
 z46 := Tryz.sizeOf102
 v46 := Tryz.zeroValue102
 t51 := Tryz.underlying196
 a51 := Tryz.isAgg196
 z51 := Tryz.sizeOf196
 v51 := Tryz.zeroValue196
 t53 := Tryz.underlying198
 a53 := Tryz.isAgg198
 z53 := Tryz.sizeOf198
 v53 := Tryz.zeroValue198
 t75 := Tryz.underlying163
 a75 := Tryz.isAgg163
 z75 := Tryz.sizeOf163
 v75 := Tryz.zeroValue163
 t76 := Tryz.underlying164
 a76 := Tryz.isAgg164
 z76 := Tryz.sizeOf164
 v76 := Tryz.zeroValue164
 t85 := Tryz.underlying215
 a85 := Tryz.isAgg215
 z85 := Tryz.sizeOf215
 v85 := Tryz.zeroValue215
 t127 := Tryz.underlying181
 a127 := Tryz.isAgg181
 z127 := Tryz.sizeOf181
 v127 := Tryz.zeroValue181
 t143 := Tryz.underlying250
 a143 := Tryz.isAgg250
 z143 := Tryz.sizeOf250
 v143 := Tryz.zeroValue250
 t145 := Tryz.underlying252
 a145 := Tryz.isAgg252
 z145 := Tryz.sizeOf252
 v145 := Tryz.zeroValue252
 t167 := Tryz.underlying214
 a167 := Tryz.isAgg214
 z167 := Tryz.sizeOf214
 v167 := Tryz.zeroValue214
 t168 := Tryz.underlying217
 a168 := Tryz.isAgg217
 z168 := Tryz.sizeOf217
 v168 := Tryz.zeroValue217
 t171 := Tryz.underlying209
 a171 := Tryz.isAgg209
 z171 := Tryz.sizeOf209
 v171 := Tryz.zeroValue209
 t173 := Tryz.underlying211
 a173 := Tryz.isAgg211
 z173 := Tryz.sizeOf211
 v173 := Tryz.zeroValue211
 t175 := Tryz.underlying239
 a175 := Tryz.isAgg239
 z175 := Tryz.sizeOf239
 v175 := Tryz.zeroValue239
 t210 := Tryz.underlying243
 a210 := Tryz.isAgg243
 z210 := Tryz.sizeOf243
 v210 := Tryz.zeroValue243
 t212 := Tryz.underlying231
 a212 := Tryz.isAgg231
 z212 := Tryz.sizeOf231
 v212 := Tryz.zeroValue231
 t213 := Tryz.underlying232
 a213 := Tryz.isAgg232
 z213 := Tryz.sizeOf232
 t232 := Tryz.underlying254
 a232 := Tryz.isAgg254
 z232 := Tryz.sizeOf254
 v232 := Tryz.zeroValue254
 t233 := Tryz.underlying255
 a233 := Tryz.isAgg255
 z233 := Tryz.sizeOf255
 v233 := Tryz.zeroValue255
 g15 := by kernel_rfl
 g16 := by kernel_rfl
 g17 := by kernel_rfl
 g18 := by kernel_rfl
 g19 := by kernel_rfl
 t80 := Tryz.underlying166
 a80 := Tryz.isAgg166
 z80 := Tryz.sizeOf166
 v80 := Tryz.zeroValue166
 i0 := by kernel_rfl
 i2 := by kernel_rfl
 i3 := by kernel_rfl
 i4 := by kernel_rfl
 i5 := by kernel_rfl
 i9 := by kernel_rfl
 i20 := by kernel_rfl
 i21 := by kernel_rfl
 i37 := by kernel_rfl
 i46 := by kernel_rfl
 i51 := by kernel_rfl
 i53 := by kernel_rfl
 i75 := by kernel_rfl
 i76 := by kernel_rfl
 i80 := by kernel_rfl
 i85 := by kernel_rfl
 i127 := by kernel_rfl
 i143 := by kernel_rfl
 i145 := by kernel_rfl
 i167 := by kernel_rfl
 i168 := by kernel_rfl
 i171 := by kernel_rfl
 i173 := by kernel_rfl
 i175 := by kernel_rfl
 i210 := by kernel_rfl
 i212 := by kernel_rfl
 i232 := by kernel_rfl
 i233 := by kernel_rfl
 m15 := by kernel_rfl
 m16 := by kernel_rfl
 m17 := by kernel_rfl
 m18 := by kernel_rfl
 m19 := by kernel_rfl
 c0 := by kernel_rfl
 c2 := by kernel_rfl
 c3 := by kernel_rfl
 c4 := by kernel_rfl
 c5 := by kernel_rfl
 c9 := by kernel_rfl
 c20 := by kernel_rfl
 c21 := by kernel_rfl
 c37 := by kernel_rfl
 c46 := by kernel_rfl
 c51 := by kernel_rfl
 c53 := by kernel_rfl
 c75 := by kernel_rfl
 c76 := by kernel_rfl
 c80 := by kernel_rfl
 c85 := by kernel_rfl
 c127 := by kernel_rfl
 c143 := by kernel_rfl
 c145 := by kernel_rfl
 c167 := by kernel_rfl
 c168 := by kernel_rfl
 c171 := by kernel_rfl
 c173 := by kernel_rfl
 c175 := by kernel_rfl
 c210 := by kernel_rfl
 c212 := by kernel_rfl
 c213 := by kernel_rfl
 c232 := by kernel_rfl
 c233 := by kernel_rfl
 }
noncomputable def Tryz.laysM171_ren : Go.Shelf.Ren := ⟨fun | 129 => 166 | 171 => 99 | 243 => 125 | 246 => 146 | 283 => 176 | 284 => 177 | 285 => 178 | 286 => 179 | 317 => 202 | 318 => 203 | 319 => 204 | 320 => 205 | 337 => 214 | 338 => 215 | n => n, fun | 0 => 0 | 2 => 2 | 3 => 3 | 4 => 4 | 5 => 5 | 9 => 9 | 20 => 20 | 37 => 54 | 46 => 102 | 51 => 196 | 53 => 198 | 171 => 209 | 173 => 211 | 212 => 231 | 213 => 232 | 232 => 254 | 233 => 255 | n => n, fun | 17 => (Tryz.prog.globals.findIdx? (·.name == "internal/strconv.uint64pow10")).getD 0 | 18 => (Tryz.prog.globals.findIdx? (·.name == "math/bits.deBruijn32tab")).getD 0 | 19 => (Tryz.prog.globals.findIdx? (·.name == "math/bits.deBruijn64tab")).getD 0 | n => n⟩
theorem Tryz.laysM171 : Go.Proofs.LaysM.n171 Tryz.prog Tryz.laysM171_ren := {
 mixed := by kernel_rfl
 f129 := Tryz.func166.trans (congrArg some (by kernel_rfl))
 f171 := Tryz.func99.trans (congrArg some (by kernel_rfl))
 f243 := Tryz.func125.trans (congrArg some (by kernel_rfl))
 f246 := Tryz.func146.trans (congrArg some (by kernel_rfl))
 f283 := Tryz.func176.trans (congrArg some (by kernel_rfl))
 f284 := Tryz.func177.trans (congrArg some (by kernel_rfl))
 f285 := Tryz.func178.trans (congrArg some (by kernel_rfl))
 f286 := Tryz.func179.trans (congrArg some (by kernel_rfl))
 f317 := Tryz.func202.trans (congrArg some (by kernel_rfl))
 f318 := Tryz.func203.trans (congrArg some (by kernel_rfl))
 f319 := Tryz.func204.trans (congrArg some (by kernel_rfl))
 f320 := Tryz.func205.trans (congrArg some (by kernel_rfl))
 f337 := Tryz.func214.trans (congrArg some (by kernel_rfl))
 f338 := Tryz.func215.trans (congrArg some (by kernel_rfl))
 t0 := Tryz.underlying0
 a0 := Tryz.isAgg0
 z0 := Tryz.sizeOf0
 v0 := Tryz.zeroValue0
 t2 := Tryz.underlying2
 a2 := Tryz.isAgg2
 z2 := Tryz.sizeOf2
 v2 := Tryz.zeroValue2
 t3 := Tryz.underlying3
 a3 := Tryz.isAgg3
 z3 := Tryz.sizeOf3
 v3 := Tryz.zeroValue3
 t4 := Tryz.underlying4
 a4 := Tryz.isAgg4
 z4 := Tryz.sizeOf4
 v4 := Tryz.zeroValue4
 t5 := Tryz.underlying5
 a5 := Tryz.isAgg5
 z5 := Tryz.sizeOf5
 v5 := Tryz.zeroValue5
 t9 := Tryz.underlying9
 a9 := Tryz.isAgg9
 z9 := Tryz.sizeOf9
 v9 := Tryz.zeroValue9
 t20 := Tryz.underlying20
 a20 := Tryz.isAgg20
 z20 := Tryz.sizeOf20
 v20 := Tryz.zeroValue20
 t37 := Tryz.underlying54
 a37 := Tryz.isAgg54
 z37 := Tryz.sizeOf54
 v37 := Tryz.zeroValue54
 t46 := Tryz.underlying102
 a46 := Tryz.isAgg102
 z46 := Tryz.sizeOf102
 v46 := Tryz.zeroValue102
 t51 := Tryz.underlying196
 a51 := Tryz.isAgg196
 z51 := Tryz.sizeOf196
 v51 := Tryz.zeroValue196
 t53 := Tryz.underlying198
 a53 := Tryz.isAgg198
 z53 := Tryz.sizeOf198
 v53 := Tryz.zeroValue198
 t171 := Tryz.underlying209
 a171 := Tryz.isAgg209
 z171 := Tryz.sizeOf209
 v171 := Tryz.zeroValue209
 t173 := Tryz.underlying211
 a173 := Tryz.isAgg211
 z173 := Tryz.sizeOf211
 v173 := Tryz.zeroValue211
 t212 := Tryz.underlying231
 a212 := Tryz.isAgg231
 z212 := Tryz.sizeOf231
 v212 := Tryz.zeroValue231
 t213 := Tryz.underlying232
 a213 := Tryz.isAgg232
 z213 := Tryz.sizeOf232
 t232 := Tryz.underlying254
 a232 := Tryz.isAgg254
 z232 := Tryz.sizeOf254
 v232 := Tryz.zeroValue254
 t233 := Tryz.underlying255
 a233 := Tryz.isAgg255
 z233 := Tryz.sizeOf255
 v233 := Tryz.zeroValue255
 g17 := by kernel_rfl
 g18 := by kernel_rfl
 g19 := by kernel_rfl
 i0 := by kernel_rfl
 i2 := by kernel_rfl
 i3 := by kernel_rfl
 i4 := by kernel_rfl
 i5 := by kernel_rfl
 i9 := by kernel_rfl
 i20 := by kernel_rfl
 i37 := by kernel_rfl
 i46 := by kernel_rfl
 i51 := by kernel_rfl
 i53 := by kernel_rfl
 i171 := by kernel_rfl
 i173 := by kernel_rfl
 i212 := by kernel_rfl
 i232 := by kernel_rfl
 i233 := by kernel_rfl
 m17 := by kernel_rfl
 m18 := by kernel_rfl
 m19 := by kernel_rfl
 }
end Go.Proofs
namespace Go.AX
open Go.RowKit
variable {cx : Cx} {g : Nat → Value} {σ σ' : St} {a : Act} {w w' : World} {nx : Nat}
variable {ty : TypeId} {pos : String} {af : Array Edge} {gd : Option (Nat × Bool)} {d : Nat}
def errP (_w : World) (_own : Nat → Prop) (v : Value) : Prop := ∃ t p,v = .iface t p
def errD : D := .x errP
theorem err_stable : Stable errP := fun _ _ _ _ _ _ _ h => h
theorem rd_err {own : Nat → Prop} {t : TypeId} {p : Value} : Rd w own (.iface t p) errD := .x errP _ rfl err_stable ⟨t,p,rfl⟩
theorem a_err {t t' : TypeId} {x : Operand} {ms : Array (String × TypeId)} (hx : ev σ x = some (.d errD)) (ht : cx.P.underlying t = some (.interface ms)) (hd : Nat.blt d cx.n = true) :
  OA cx σ ⟨some d,.binOp .eql t x (.const .nilIface) t',ty,pos,af,gd⟩ ⟨rdOf x (.d errD),[(.s d,.av (.d (.v (.bool false))))]⟩ := by
 refine ⟨ok_val rfl (lt_of_blt hd) fun σ1 a w g nx hs hr => ?_,(ev_out hx).2⟩
 obtain ⟨t1,p1,hv⟩ := rd_x (hs.ev (ev_out hx).1 hr).1
 refine ⟨.bool false,w,?_,Below.refl _ _,Rd.v _,trivial⟩
 have h : ∀ d : Nat,(Op.equalIn (d + 1) t (.iface t1 p1) .nilIface).run cx.P w = .ok false w := fun d => by
  simp [Op.equalIn,run_underlying ht]
 have hg : eqGuard .eql t x (.const .nilIface) (.iface t1 p1) .nilIface = pure () := by cases x <;> rfl
 have hc : a.eval (.const .nilIface) = .nilIface := rfl
 simp [execOp,hv,hc,hg,binOp,Op.equal,Op.maxDepth,h 9999]
theorem a_callc {f : FuncId} {z : Operand} {xs : List Operand} {avs : List AV} {ys : List Arg} {l : List (Key × Val)} {r : Res} {ats : Array TypeId} (hc : FnOk cx.P f ys r)
  (hz : ev σ z = some (.d (.v (.func (.func f) #[] #[])))) (hd : Nat.blt d cx.n = true) (hsub : SubsE σ xs avs ys l) :
  OA cx σ ⟨some d,.call { callee := .value z,args := ⟨xs⟩,argTypes := ats },ty,pos,af,gd⟩ ⟨rdOf z (.d (.v (.func (.func f) #[] #[]))) ++ l,[(.s d,.av r.av)]⟩ := by
 refine ⟨?_,(ev_out hz).2.append hsub.out.2⟩
 rintro σ1 a w K Q ⟨g,nx,hs⟩ hr hK
 have hv := rep_v (hs.ev (ev_out hz).1 hr.left).1
 have hcall := hc.calls w (cx.own g σ1) (xs.map a.eval) ⟨fun b hb => own_lt hs hb,hs.gl⟩ (hsub.out.1.ok hs hr.right)
 have hrun := callfn_run (xs := xs) (ats := ats) (ty := ty) (pos := pos) (af := af) (gd := gd) (dd := some d) (w := w) hc hv
 simp only [List.append_nil] at hrun
 unfold Oper.wp
 rw [hrun]
 refine hcall.mono fun e w' he => ?_
 obtain ⟨v,rfl,hb,hres⟩ := he
 obtain ⟨h1,h2⟩ := Res.rep (nx := nx) hres
 exact hK _ _ (Sim.put hs (lt_of_blt hd) hb h1 h2)
end Go.AX
namespace Go.Proofs.YtmnociojijpdmaaGreatDoor
open Go.AX Go.RF Go.RowKit
set_option maxRecDepth 100000
set_option maxHeartbeats 4000000
def atoiV (s : Str) : Int := match Lib.atoiAll s with
 | .ok v => v
 | .range => Lib.atoiSat s
 | _ => 0
def atoiE (s : Str) : D := match Lib.atoiAll s with
 | .ok _ => .v .nilIface
 | _ => errD
theorem tup2 {w : World} {own : Nat → Prop} {u v : Value} {x y : D} (h1 : Rd w own u x) (h2 : Rd w own v y) : ResOk w own (.tuple #[u,v]) (.tup [x,y]) := by
 refine ⟨_,rfl,rfl,fun j c z hj hc => ?_⟩
 match j,hj,hc with
 | 0,hj,hc => simp at hj hc;subst hj hc;exact h1
 | 1,hj,hc => simp at hj hc;subst hj hc;exact h2
 | j + 2,hj,hc => simp at hj
theorem ok_atoiG (s : Str) (hs : s.length ≤ 1073741824) : FnOk Tryz.prog 133 [.d (dstr s)] (.tup [dint (atoiV s),atoiE s]) := by
 refine ⟨⟨_,Tryz.func133,by kernel_rfl,by kernel_rfl⟩,fun w own vs hown ha => ?_⟩
 match vs,ha with
 | [x],⟨h1,_⟩ =>
  obtain rfl : x = str s := rd_v h1
  have hsz : (⟨s.toArray⟩ : ByteArray).size = s.length := by show s.toArray.size = _;simp
  cases hc : Lib.atoiAll s with
  | ok v =>
   refine (Any.strconv_Atoi_ok Tryz.laysC172 ⟨s.toArray⟩ (by rw [hsz];omega) v (by simpa using hc) w).mono fun e w' he => ?_
   obtain ⟨rfl,hw⟩ := he
   refine ⟨_,rfl,?_,?_⟩
   ·
    rcases hw with rfl | ⟨t,rfl⟩
    ·
     exact Below.refl _ _
    ·
     exact Lib.bytesWorld_below _ _ _
   ·
    unfold atoiV atoiE;rw [hc];exact tup2 (Rd.v _) (Rd.v _)
  | range =>
   obtain ⟨cs,hv,tp,p,rfl⟩ := hown.2.er _ Tryz.laysC172.m16
   refine (Any.strconv_Atoi_range_var Tryz.laysC172 ⟨s.toArray⟩ (by rw [hsz];omega) (by simpa using hc) tp p w hv).mono fun e w' he => ?_
   obtain ⟨N,rfl,_,_,hb⟩ := he
   refine ⟨_,rfl,hb,?_⟩
   unfold atoiV atoiE;rw [hc];exact tup2 (Rd.v _) rd_err
  | _ =>
   obtain ⟨cs,hv,tp,p,rfl⟩ := hown.2.es _ Tryz.laysC172.m15
   refine (Any.strconv_Atoi_syntax_var Tryz.laysC172 ⟨s.toArray⟩ (by rw [hsz];omega) (by simpa using hc) tp p w hv).mono fun e w' he => ?_
   obtain ⟨N,rfl,_,_,hb⟩ := he
   refine ⟨_,rfl,hb,?_⟩
   unfold atoiV atoiE;rw [hc];exact tup2 (Rd.v _) rd_err
theorem ok_itoaG (n : Int) (h0 : -9223372036854775808 ≤ n) (h1 : n ≤ 9223372036854775807) : FnOk Tryz.prog 99 [.d (dint n)] (.one (dstr (Lib.itoa n))) := by
 refine ⟨⟨_,Tryz.func99,by kernel_rfl,by kernel_rfl⟩,fun w own vs hown ha => ?_⟩
 match vs,ha with
 | [x],⟨h2,_⟩ =>
  obtain rfl : x = i64 n := rd_v h2
  have htab : Lib.TabIs Tryz.prog w "internal/strconv.uint64pow10" .u64 Lib.pow10Tab := by
   obtain ⟨cs,hv,rfl⟩ := hown.2.pow _ Tryz.laysM171.m17
   exact hv
  refine (Any.strconv_Itoa Tryz.laysM171 n h0 h1 w htab).mono fun e w' he => ?_
  obtain ⟨rfl,k,os,rfl⟩ := he
  refine ⟨_,rfl,?_,Rd.v _⟩
  exact ⟨rfl,rfl,rfl,(by show w.heap.size ≤ (w.heap ++ os).size;simp),fun k hk => (by show (w.heap ++ os)[k]? = w.heap[k]?;exact Array.getElem?_append_left hk)⟩
theorem atoi_in {s : Str} {v : Int} (h : Lib.atoiAll s = .ok v) : -9223372036854775808 ≤ v ∧ v ≤ 9223372036854775807 := Lib.atoiAll_bounds h
theorem ok_num (s : Str) (hs : s.length ≤ 1073741824) : FnOk Tryz.prog 109 [.d (dstr s)] (.tup [dint (atoiV s),dbool (numV s).isSome]) := by
 refine fnOk_of tbl_ok mixed_ok Tryz.func109 rfl (by kernel_rfl) rfl rfl fun w0 own0 => ?_
 have c1 := ok_atoiG s hs
 unfold atoiV atoiE at c1
 unfold atoiV numV
 cases hc : Lib.atoiAll s with
 | ok v =>
  rw [hc] at c1
  have hb := atoi_in hc
  have c2 := ok_itoaG v hb.1 hb.2
  dsimp only at c1 ⊢
  generalize Lib.itoa v = t at c2 ⊢
  by_cases hv : t = s
  ·
   rw [if_pos hv]
   repeat (first|refine wa ?_|((with_reducible apply s5);(first|((with_reducible apply a_noerr);exact rfl;exact Tryz.underlying163;exact rfl)|exact by_oa|exact by_ca);exact by_g)|refine wb ?_)
   exact .two (.tmp rfl (.one (.d (.refl _)))) (.tmp rfl (.one (.d (dle_bool (by simp [hv])))))
  ·
   rw [if_neg hv]
   repeat (first|refine wa ?_|((with_reducible apply s5);(first|((with_reducible apply a_noerr);exact rfl;exact Tryz.underlying163;exact rfl)|exact by_oa|exact by_ca);exact by_g)|refine wb ?_)
   exact .two (.tmp rfl (.one (.d (.refl _)))) (.tmp rfl (.one (.d (dle_bool (by simp [hv])))))
 | range =>
  rw [hc] at c1
  dsimp only at c1 ⊢
  generalize Lib.atoiSat s = q at c1 ⊢
  repeat (first|refine wa ?_|((with_reducible apply s5);(first|((with_reducible apply a_err);exact rfl;exact Tryz.underlying163;exact rfl)|exact by_oa|exact by_ca);exact by_g)|refine wb ?_)
  exact .two (.tmp rfl (.one (.d (.refl _)))) (.tmp rfl (.one (.d (.refl _))))
 | _ =>
  rw [hc] at c1
  dsimp only at c1 ⊢
  repeat (first|refine wa ?_|((with_reducible apply s5);(first|((with_reducible apply a_err);exact rfl;exact Tryz.underlying163;exact rfl)|exact by_oa|exact by_ca);exact by_g)|refine wb ?_)
  exact .two (.tmp rfl (.one (.d (.refl _)))) (.tmp rfl (.one (.d (.refl _))))
end Go.Proofs.YtmnociojijpdmaaGreatDoor
namespace Go.Proofs
open Go.Shelf Go.RowKit
noncomputable def Tryz.lays146_ren : Go.Shelf.Ren := ⟨fun | 138 => 128 | 143 => 129 | 146 => 67 | 195 => 147 | 197 => 148 | 217 => 181 | 218 => 149 | 219 => 150 | 221 => 105 | 224 => 183 | 225 => 182 | 260 => 180 | 266 => 206 | 267 => 184 | 268 => 127 | 314 => 207 | n => n, fun | 0 => 0 | 3 => 3 | 4 => 4 | 5 => 5 | 9 => 9 | 21 => 21 | 31 => 69 | 46 => 102 | 51 => 196 | 105 => 183 | 119 => 233 | 138 => 235 | 139 => 236 | 146 => 237 | n => n, fun | 1 => (Tryz.prog.globals.findIdx? (·.name == "internal/bytealg.MaxLen")).getD 0 | 3 => (Tryz.prog.globals.findIdx? (·.name == "unicode/utf8.first")).getD 0 | 4 => (Tryz.prog.globals.findIdx? (·.name == "unicode/utf8.acceptRanges")).getD 0 | n => n⟩
theorem Tryz.lays146 : Go.Proofs.Lays.n146 Tryz.prog Tryz.lays146_ren := {
 mixed := by kernel_rfl
 f138 := Tryz.func128.trans (congrArg some (by kernel_rfl))
 f143 := Tryz.func129.trans (congrArg some (by kernel_rfl))
 f146 := Tryz.func67.trans (congrArg some (by kernel_rfl))
 f195 := Tryz.func147.trans (congrArg some (by kernel_rfl))
 f197 := Tryz.func148.trans (congrArg some (by kernel_rfl))
 f217 := Tryz.func181.trans (congrArg some (by kernel_rfl))
 f218 := Tryz.func149.trans (congrArg some (by kernel_rfl))
 f219 := Tryz.func150.trans (congrArg some (by kernel_rfl))
 f221 := Tryz.func105.trans (congrArg some (by kernel_rfl))
 f224 := Tryz.func183.trans (congrArg some (by kernel_rfl))
 f225 := Tryz.func182.trans (congrArg some (by kernel_rfl))
 f260 := Tryz.func180.trans (congrArg some (by kernel_rfl))
 f266 := Tryz.func206.trans (congrArg some (by kernel_rfl))
 f267 := Tryz.func184.trans (congrArg some (by kernel_rfl))
 f268 := Tryz.func127.trans (congrArg some (by kernel_rfl))
 f314 := Tryz.func207.trans (congrArg some (by kernel_rfl))
 t0 := Tryz.underlying0
 a0 := Tryz.isAgg0
 z0 := Tryz.sizeOf0
 v0 := Tryz.zeroValue0
 t3 := Tryz.underlying3
 a3 := Tryz.isAgg3
 z3 := Tryz.sizeOf3
 v3 := Tryz.zeroValue3
 t4 := Tryz.underlying4
 a4 := Tryz.isAgg4
 z4 := Tryz.sizeOf4
 v4 := Tryz.zeroValue4
 t5 := Tryz.underlying5
 a5 := Tryz.isAgg5
 z5 := Tryz.sizeOf5
 v5 := Tryz.zeroValue5
 t9 := Tryz.underlying9
 a9 := Tryz.isAgg9
 z9 := Tryz.sizeOf9
 v9 := Tryz.zeroValue9
 t21 := Tryz.underlying21
 a21 := Tryz.isAgg21
 z21 := Tryz.sizeOf21
 v21 := Tryz.zeroValue21
 t31 := Tryz.underlying69
 a31 := Tryz.isAgg69
 z31 := Tryz.sizeOf69
 v31 := Tryz.zeroValue69
 t46 := Tryz.underlying102
 a46 := Tryz.isAgg102
 z46 := Tryz.sizeOf102
 v46 := Tryz.zeroValue102
 t51 := Tryz.underlying196
 a51 := Tryz.isAgg196
 z51 := Tryz.sizeOf196
 v51 := Tryz.zeroValue196
 t105 := Tryz.underlying183
 a105 := Tryz.isAgg183
 z105 := Tryz.sizeOf183
 v105 := Tryz.zeroValue183
 t119 := Tryz.underlying233
 a119 := Tryz.isAgg233
 z119 := Tryz.sizeOf233
 t138 := Tryz.underlying235
 a138 := Tryz.isAgg235
 z138 := Tryz.sizeOf235
 v138 := Tryz.zeroValue235
 t139 := Tryz.underlying236
 a139 := Tryz.isAgg236
 z139 := Tryz.sizeOf236
 v139 := Tryz.zeroValue236
 t146 := Tryz.underlying237
 a146 := Tryz.isAgg237
 z146 := Tryz.sizeOf237
 v146 := Tryz.zeroValue237
 g1 := by kernel_rfl
 g3 := by kernel_rfl
 g4 := by kernel_rfl
 }
noncomputable def Tryz.lays103_ren : Go.Shelf.Ren := ⟨fun | 103 => 131 | 206 => 185 | 210 => 151 | n => n,fun | 3 => 3 | 4 => 4 | 9 => 9 | 24 => 171 | n => n,fun | n => n⟩
theorem Tryz.lays103 : Go.Proofs.Lays.n103 Tryz.prog Tryz.lays103_ren := {
 mixed := by kernel_rfl
 f103 := Tryz.func131.trans (congrArg some (by kernel_rfl))
 f206 := Tryz.func185.trans (congrArg some (by kernel_rfl))
 f210 := Tryz.func151.trans (congrArg some (by kernel_rfl))
 t3 := Tryz.underlying3
 a3 := Tryz.isAgg3
 z3 := Tryz.sizeOf3
 v3 := Tryz.zeroValue3
 t4 := Tryz.underlying4
 a4 := Tryz.isAgg4
 z4 := Tryz.sizeOf4
 v4 := Tryz.zeroValue4
 t9 := Tryz.underlying9
 a9 := Tryz.isAgg9
 z9 := Tryz.sizeOf9
 v9 := Tryz.zeroValue9
 t24 := Tryz.underlying171
 a24 := Tryz.isAgg171
 z24 := Tryz.sizeOf171
 v24 := Tryz.zeroValue171
 }
noncomputable def Tryz.lays156_ren : Go.Shelf.Ren := ⟨fun | 156 => 96 | 165 => 122 | 166 => 123 | 169 => 124 | 240 => 144 | 241 => 145 | 276 => 174 | 277 => 175 | n => n,fun | 0 => 0 | 3 => 3 | 4 => 4 | 5 => 5 | 9 => 9 | 20 => 20 | 31 => 69 | 37 => 54 | 70 => 158 | 72 => 160 | 75 => 163 | 76 => 164 | 80 => 166 | 127 => 181 | 164 => 206 | n => n,fun | n => n⟩
theorem Tryz.lays156 : Go.Proofs.Lays.n156 Tryz.prog Tryz.lays156_ren := {
 mixed := by kernel_rfl
 f156 := Tryz.func96.trans (congrArg some (by kernel_rfl))
 f165 := Tryz.func122.trans (congrArg some (by kernel_rfl))
 f166 := Tryz.func123.trans (congrArg some (by kernel_rfl))
 f169 := Tryz.func124.trans (congrArg some (by kernel_rfl))
 f240 := Tryz.func144.trans (congrArg some (by kernel_rfl))
 f241 := Tryz.func145.trans (congrArg some (by kernel_rfl))
 f276 := Tryz.func174.trans (congrArg some (by kernel_rfl))
 f277 := Tryz.func175.trans (congrArg some (by kernel_rfl))
 t0 := Tryz.underlying0
 a0 := Tryz.isAgg0
 z0 := Tryz.sizeOf0
 v0 := Tryz.zeroValue0
 t3 := Tryz.underlying3
 a3 := Tryz.isAgg3
 z3 := Tryz.sizeOf3
 v3 := Tryz.zeroValue3
 t4 := Tryz.underlying4
 a4 := Tryz.isAgg4
 z4 := Tryz.sizeOf4
 v4 := Tryz.zeroValue4
 t9 := Tryz.underlying9
 a9 := Tryz.isAgg9
 z9 := Tryz.sizeOf9
 v9 := Tryz.zeroValue9
 t20 := Tryz.underlying20
 a20 := Tryz.isAgg20
 z20 := Tryz.sizeOf20
 v20 := Tryz.zeroValue20
 t31 := Tryz.underlying69
 a31 := Tryz.isAgg69
 z31 := Tryz.sizeOf69
 v31 := Tryz.zeroValue69
 t37 := Tryz.underlying54
 a37 := Tryz.isAgg54
 z37 := Tryz.sizeOf54
 v37 := Tryz.zeroValue54
 t70 := Tryz.underlying158
 a70 := Tryz.isAgg158
 z70 := Tryz.sizeOf158
 v70 := Tryz.zeroValue158
 t72 := Tryz.underlying160
 a72 := Tryz.isAgg160
 z72 := Tryz.sizeOf160
 v72 := Tryz.zeroValue160
 t75 := Tryz.underlying163
 a75 := Tryz.isAgg163
 z75 := Tryz.sizeOf163
 v75 := Tryz.zeroValue163
 t76 := Tryz.underlying164
 a76 := Tryz.isAgg164
 z76 := Tryz.sizeOf164
 v76 := Tryz.zeroValue164
 t127 := Tryz.underlying181
 a127 := Tryz.isAgg181
 z127 := Tryz.sizeOf181
 v127 := Tryz.zeroValue181
 t164 := Tryz.underlying206
 a164 := Tryz.isAgg206
 z164 := Tryz.sizeOf206
 v164 := Tryz.zeroValue206
 }
theorem Tryz.bld156 : Go.Proofs.Builder.Extra Tryz.prog Tryz.lays156_ren := {
 sizeBuilder := by kernel_rfl
 liesBuilder := by kernel_rfl
 t5 := Tryz.underlying5
 a5 := Tryz.isAgg5
 z5 := Tryz.sizeOf5
 v5 := Tryz.zeroValue5
 infoByte := by kernel_rfl
 cellsByte := by kernel_rfl
 sizeByte := by kernel_rfl
 neB5 := by decide
 }
end Go.Proofs
namespace Go.AX
open Go.RowKit
variable {cx : Cx} {g : Nat → Value} {σ σ' : St} {a : Act} {w w' : World} {nx : Nat} {kk : IntKind}
variable {ty : TypeId} {pos : String} {af : Array Edge} {gd : Option (Nat × Bool)} {d : Nat}
def MapIsK (kk : IntKind) (es : Array MapEntry) (M : List (Int × Value)) : Prop := es.toList.map (fun e => (e.key,e.val)) = M.map fun p => (Value.int kk p.1,p.2)
structure MapTyK (cx : Cx) (kk : IntKind) (t te : TypeId) (zv : Value) : Prop where
 u : ∃ tk,cx.P.underlying t = some (.map tk te) ∧ cx.P.underlying tk = some (.int kk)
 z : ∀ w,(zeroValue te).run cx.P w = .ok zv w
theorem findNow_eqK (k : Int) : ∀ {es : List MapEntry} {M : List (Int × Value)} (i : Nat),es.map (fun e => (e.key,e.val)) = M.map (fun p => (Value.int kk p.1,p.2)) →
  Instr.findNow (.int kk) (.int kk k) es i = some ((mfindI k M i).map fun p => (p.1,p.2))
 | [],[],i,_ => rfl
 | [],p :: M,i,h => by simp at h
 | e :: es,[],i,h => by simp at h
 | e :: es,(s,v) :: M,i,h => by
  simp only [List.map_cons,List.cons.injEq,Prod.mk.injEq] at h
  obtain ⟨⟨h1,h2⟩,h3⟩ := h
  obtain ⟨r,hr,hiff⟩ := MapKept.sameNow_of_keys (d := .int kk) (a := .int kk k) (b := .int kk s) (by simp [MapKept.IsKey]) (by simp [MapKept.IsKey])
  rw [← h1] at hr
  have hs' : r = true ↔ s = k := by
   rw [hiff]
   simp only [Value.int.injEq,true_and]
   exact eq_comm
  simp only [Instr.findNow,hr,mfindI]
  by_cases hs : s = k
  ·
   rw [if_pos hs]
   have hrt := hs'.2 hs
   subst hrt
   simp [h2]
  ·
   rw [if_neg hs]
   have hrf : r = false := by
    cases r with
    | false => rfl
    | true => exact absurd (hs'.1 rfl) hs
   subst hrf
   exact findNow_eqK k (i + 1) h3
theorem run_mlookK {t te : TypeId} {zv : Value} (h : MapTyK cx kk t te zv) {b : Nat} {es : Array MapEntry} {clock : Nat} {M : List (Int × Value)} (hb : w.heap[b]? = some (.map es clock)) (hm : MapIsK kk es M) (k : Int) :
  (Instr.lookup t (.map (some b)) (.int kk k) false).run cx.P w = .ok (mlookI zv M k) w := by
 obtain ⟨tk,h1,h2⟩ := h.u
 have hf := findNow_eqK k 0 hm
 have hg := mfindI_get k M 0
 have hck : (Instr.checkKey es.isEmpty 10000 tk (.int kk k)).run cx.P w = .ok () w := MapKept.run_checkKey h2 (by simp [MapKept.IsKey]) _ 9999
 have hz := h.z w
 cases hfd : mfindI k M 0 with
 | none =>
  rw [hfd] at hf hg
  simp only [Option.map_none] at hf hg
  simp [Instr.lookup,run_underlying h1,MapKept.run_getObj_map hb,hck,Instr.findKey,run_underlying h2,hf,hz,mlookI,← hg,Result.andThen]
 | some p =>
  rw [hfd] at hf hg
  simp only [Option.map_some] at hf hg
  simp [Instr.lookup,run_underlying h1,MapKept.run_getObj_map hb,hck,Instr.findKey,run_underlying h2,hf,mlookI,← hg,Result.andThen]
theorem run_msetK {t te : TypeId} {zv : Value} (h : MapTyK cx kk t te zv) {b : Nat} {es : Array MapEntry} {clock : Nat} {M : List (Int × Value)} (hb : w.heap[b]? = some (.map es clock)) (hm : MapIsK kk es M) (k : Int) (us : Value) :
  ∃ es' clock',(Instr.mapUpdate t (.map (some b)) (.int kk k) us).run cx.P w = .ok () { w with heap := w.heap.setIfInBounds b (.map es' clock') } ∧ MapIsK kk es' (msetI M k us) := by
 obtain ⟨tk,h1,h2⟩ := h.u
 have hf := findNow_eqK k 0 hm
 have hck : (Instr.checkKey false 10000 tk (.int kk k)).run cx.P w = .ok () w := MapKept.run_checkKey h2 (by simp [MapKept.IsKey]) _ 9999
 have hset : ∀ o,(setObj b o).run cx.P w = .ok () { w with heap := w.heap.setIfInBounds b o } := fun o => MapKept.run_setObj_map o hb
 cases hfd : mfindI k M 0 with
 | none =>
  rw [hfd] at hf
  simp only [Option.map_none] at hf
  refine ⟨es.push ⟨.int kk k,us,clock⟩,clock + 1,?_,?_⟩
  ·
   simp [Instr.mapUpdate,run_underlying h1,MapKept.run_getObj_map hb,hck,Instr.findKey,run_underlying h2,hf,hset,Result.andThen]
  ·
   rw [mfindI_none hfd]
   unfold MapIsK at hm ⊢
   simp [hm]
 | some p =>
  obtain ⟨i,v⟩ := p
  rw [hfd] at hf
  simp only [Option.map_some] at hf
  obtain ⟨n,hn,h3,h4⟩ := mfindI_some (us := us) hfd
  obtain rfl : i = n := by omega
  have hes : (es.toList.map fun e => (e.key,e.val))[i]? = some (Value.int kk k,v) := by
   unfold MapIsK at hm
   rw [hm,List.getElem?_map,h3];rfl
  obtain ⟨e,he,hek⟩ : ∃ e,es[i]? = some e ∧ e.key = Value.int kk k := by
   rw [List.getElem?_map] at hes
   cases hx : es.toList[i]? with
   | none => rw [hx] at hes;cases hes
   | some e =>
    rw [hx] at hes
    simp at hes
    exact ⟨e,by simpa using hx,hes.1⟩
  refine ⟨es.modify i fun e => { e with key := .int kk k,val := us },clock,?_,?_⟩
  ·
   have hst : (Instr.keyThatStays (((es[i]?).map (·.key)).getD (.int kk k)) (.int kk k)).run cx.P w = .ok (.int kk k) w := by
    rw [he]
    simp only [Option.map_some,Option.getD_some,hek]
    exact MapKept.run_keyThatStays (d := .int kk) (by simp [MapKept.IsKey])
   simp [Instr.mapUpdate,run_underlying h1,MapKept.run_getObj_map hb,hck,Instr.findKey,run_underlying h2,hf,hst,hset,Result.andThen]
  ·
   rw [h4]
   unfold MapIsK at hm ⊢
   rw [List.map_set,← hm]
   apply List.ext_getElem?
   intro j
   rw [List.getElem?_map,Array.getElem?_toList,Array.getElem?_modify]
   by_cases hj : i = j
   ·
    subst hj
    have hlt := (Array.getElem?_eq_some_iff.1 he).1
    rw [if_pos rfl,List.getElem?_set_self (by simpa using hlt),he]
    rfl
   ·
    rw [if_neg hj,List.getElem?_set_ne hj,List.getElem?_map,Array.getElem?_toList]
theorem bytes_append (a b : List UInt8) : (⟨a.toArray⟩ : ByteArray) ++ ⟨b.toArray⟩ = ⟨(a ++ b).toArray⟩ := by
 apply ByteArray.ext
 simp
theorem bin_sadd {P : Program} {t : TypeId} {a b : List UInt8} (h : a.length + b.length ≤ 4611686018427387904) : BinR P .add t (str a) (str b) (str (a ++ b)) := by
 intro w x y
 have h1 : (⟨a.toArray⟩ : ByteArray).size = a.length := by show a.toArray.size = _;simp
 have h2 : (⟨b.toArray⟩ : ByteArray).size = b.length := by show b.toArray.size = _;simp
 have h3 : ¬ (((⟨a.toArray⟩ : ByteArray).size + (⟨b.toArray⟩ : ByteArray).size : Nat) : Int) > IntKind.i64.max := by
  rw [h1,h2]
  show ¬ ((a.length + b.length : Nat) : Int) > 9223372036854775807
  omega
 simp only [str,Sem.run_bind,eqGuard,Sem.run_pure,Result.andThen_ok,binOp,Op.stringOp]
 rw [if_neg h3,bytes_append]
 rfl
end Go.AX
namespace Go.AX
open Go.RowKit
variable {cx : Cx} {g : Nat → Value} {σ σ' : St} {a : Act} {w w' : World} {nx : Nat} {kk : IntKind}
variable {ty : TypeId} {pos : String} {af : Array Edge} {gd : Option (Nat × Bool)} {d : Nat}
theorem stut_tok (o : Nat) : Stut cx ⟨[(.nx,.num nx)],[(.o nx,.ob (.tok o false)),(.nx,.num (nx + 1))]⟩ := by
 rintro σ a w ⟨g,n',hs⟩ hr
 have hnx : n' = nx := by
  have h2 := hr.1
  rw [hs.hnx] at h2
  simpa using h2
 subst hnx
 exact ⟨_,_,SimG.obj (o' := .tok o false) (hv := nilS) hs ⟨.inl ⟨rfl,rfl⟩,Below.refl _ _,fun b _ _ => rfl,fun b hb => by simp [blk] at hb⟩ (fun _ => upd_same _ _ _) trivial⟩
section
variable {i o : Nat} {b : Bool}
theorem tok_get (k : Key) (hk : k ≠ .o i) : get ((.o i,.ob (.tok o true)) :: σ) k = get σ k := get_cons_ne (fun e => hk e.symm)
theorem tok_own (hi : get σ (.o i) = .ob (.tok o b)) : cx.own g ((.o i,.ob (.tok o true)) :: σ) = cx.own g σ := by
 funext c
 apply propext
 refine or_congr Iff.rfl ⟨?_,?_⟩
 ·
  rintro ⟨id,ob,h1,h2⟩
  by_cases h : id = i
  ·
   subst h;exact ⟨id,_,hi,h2⟩
  ·
   exact ⟨id,ob,by rw [tok_get _ (by simpa using h)] at h1;exact h1,h2⟩
 ·
  rintro ⟨id,ob,h1,h2⟩
  by_cases h : id = i
  ·
   subst h;exact ⟨id,_,get_cons_same,h2⟩
  ·
   exact ⟨id,ob,by rw [tok_get _ (by simpa using h)];exact h1,h2⟩
theorem tok_ob {id : Nat} {ob : Ob} (h : get ((.o i,.ob (.tok o true)) :: σ) (.o id) = .ob ob) (hn : ∀ q c,ob ≠ .tok q c) : get σ (.o id) = .ob ob := by
 by_cases he : id = i
 ·
  subst he
  rw [get_cons_same] at h
  exact absurd (by simpa using h.symm) (hn o true)
 ·
  rw [tok_get _ (by simpa using he)] at h;exact h
theorem tok_nr {id : Nat} (h : NR σ id) : NR ((.o i,.ob (.tok o true)) :: σ) id := fun hg => h (tok_ob hg (by simp))
theorem tok_rep1 (hi : get σ (.o i) = .ob (.tok o b)) {x : Value} {av : AV} (h : Rep1 cx g σ w x av) : Rep1 cx g ((.o i,.ob (.tok o true)) :: σ) w x av := by
 cases av with
 | d y => show Rd w _ x y;rw [tok_own hi];exact h
 | pd ds =>
  obtain ⟨ad,h1,h2,h3,h4⟩ := h
  refine ⟨ad,h1,?_,h3,?_⟩
  ·
   rw [tok_own hi];exact h2
  ·
   rw [tok_own hi];exact h4
 | ptr id off => exact ⟨tok_nr h.1,fun cells hg => h.2 cells (tok_ob hg (by simp))⟩
 | own id n => exact ⟨tok_nr h.1,fun e k rows hg => h.2 e k rows (tok_ob hg (by simp))⟩
 | pe id n p q => exact ⟨tok_nr h.1,fun e k rows hg => h.2 e k rows (tok_ob hg (by simp))⟩
 | h id => exact ⟨tok_nr h.1,fun ob hg hh => h.2 ob (tok_ob hg (by rintro q c rfl;cases hh)) hh⟩
 | any => trivial
 | agg c => exact h
 | tup c => exact h
theorem tok_rep2 (hi : get σ (.o i) = .ob (.tok o b)) {x : Value} {av : AV} (h : Rep2 cx g σ w x av) : Rep2 cx g ((.o i,.ob (.tok o true)) :: σ) w x av := by
 cases av with
 | agg cells =>
  obtain ⟨cs,h1,h2,h3,h4⟩ := h
  exact ⟨cs,h1,h2,h3,fun j c av hj hc => tok_rep1 hi (h4 j c av hj hc)⟩
 | d y => exact tok_rep1 (cx := cx) (g := g) (w := w) (av := .d y) hi h
 | pd y => exact tok_rep1 (cx := cx) (g := g) (w := w) (av := .pd y) hi h
 | ptr n m => exact tok_rep1 (cx := cx) (g := g) (w := w) (av := .ptr n m) hi h
 | own n m => exact tok_rep1 (cx := cx) (g := g) (w := w) (av := .own n m) hi h
 | pe n m p q => exact tok_rep1 (cx := cx) (g := g) (w := w) (av := .pe n m p q) hi h
 | h n => exact tok_rep1 (cx := cx) (g := g) (w := w) (av := .h n) hi h
 | any => exact trivial
 | tup c => exact h
theorem tok_rep (hi : get σ (.o i) = .ob (.tok o b)) {x : Value} {av : AV} (h : Rep cx g σ w x av) : Rep cx g ((.o i,.ob (.tok o true)) :: σ) w x av := by
 cases av with
 | tup avs =>
  obtain ⟨vs,h1,h2,h3⟩ := h
  exact ⟨vs,h1,h2,fun j c av hj hc => tok_rep2 hi (h3 j c av hj hc)⟩
 | agg cells => exact tok_rep2 (cx := cx) (g := g) (w := w) (av := .agg cells) hi h
 | d y => exact tok_rep2 (cx := cx) (g := g) (w := w) (av := .d y) hi h
 | pd y => exact tok_rep2 (cx := cx) (g := g) (w := w) (av := .pd y) hi h
 | ptr n m => exact tok_rep2 (cx := cx) (g := g) (w := w) (av := .ptr n m) hi h
 | own n m => exact tok_rep2 (cx := cx) (g := g) (w := w) (av := .own n m) hi h
 | pe n m p q => exact tok_rep2 (cx := cx) (g := g) (w := w) (av := .pe n m p q) hi h
 | h n => exact tok_rep2 (cx := cx) (g := g) (w := w) (av := .h n) hi h
 | any => exact trivial
theorem tok_set (hs : SimG cx σ a w g nx) (hi : get σ (.o i) = .ob (.tok o b))
  (hp : ∀ kk V ids (j : Nat) p,get σ (.o o) = .ob (.lit kk V ids) → ids[j]? = some i → V[j]? = some p → ∃ bb es clock,g o = .map (some bb) ∧ w.heap[bb]? = some (.map es clock) ∧ ∃ e ∈ es.toList,e.key = .int kk p.1) :
  SimG cx ((.o i,.ob (.tok o true)) :: σ) a w g nx := by
 refine ⟨by rw [tok_get _ (by simp)];exact hs.hnx,hs.size,hs.defers,hs.below,hs.own0,fun s av h => ?_,fun id ob h => ?_,fun id id' o1 o2 c h1 h2 h3 h4 => ?_,hs.gh.1,fun p hp => ⟨tok_rep hi (hs.gh.2 p hp).1,(hs.gh.2 p hp).2⟩⟩
 ·
  rw [tok_get _ (by simp)] at h
  obtain ⟨h1,h2⟩ := hs.slots s av h
  exact ⟨tok_rep hi h1,h2⟩
 ·
  by_cases he : id = i
  ·
   subst he
   rw [get_cons_same] at h
   obtain rfl : Ob.tok o true = ob := by simpa using h
   obtain ⟨h1,h2,_⟩ := hs.objs id _ hi
   exact ⟨h1,h2,trivial⟩
  ·
   rw [tok_get _ (by simpa using he)] at h
   obtain ⟨h1,h2,h3⟩ := hs.objs id ob h
   refine ⟨h1,?_,h3⟩
   cases ob with
   | box cells =>
    obtain ⟨b0,cs,t,q0,q1,q2,q3,q4,q5⟩ := h2
    exact ⟨b0,cs,t,q0,q1,q2,q3,q4,fun j c av hj hc => tok_rep1 hi (q5 j c av hj hc)⟩
   | arr e k rows =>
    obtain ⟨xs,q1,q2,q3,q4⟩ := h2
    exact ⟨xs,q1,q2,q3,fun i' j r d x u1 u2 u3 => by rw [tok_own hi];exact q4 i' j r d x u1 u2 u3⟩
   | pin e k rows x0 =>
    obtain ⟨q0,xs,q1,q2,q3,q4⟩ := h2
    exact ⟨q0,xs,q1,q2,q3,fun i' j r d x u1 u2 u3 => by rw [tok_own hi];exact q4 i' j r d x u1 u2 u3⟩
   | mp M x0 => exact h2
   | mi M x0 => exact h2
   | gen p => exact h2
   | tok q c => exact h2
   | res => exact h2
   | lit kk V ids =>
    obtain ⟨b0,es,clock,q0,q1,q2,q3,q4⟩ := h2
    refine ⟨b0,es,clock,q0,q1,q2,q3,fun j i' p u1 u2 u3 => ?_⟩
    by_cases h' : i' = i
    ·
     subst h'
     rw [get_cons_same] at u3
     obtain rfl : o = id := by simpa using u3
     obtain ⟨bb,es',clock',r1,r2,r3⟩ := hp kk V ids j p h u1 u2
     rw [q0] at r1
     obtain rfl : b0 = bb := by simpa using r1
     rw [q2] at r2
     simp only [Option.some.injEq,Obj.map.injEq] at r2
     rw [r2.1]
     exact r3
    ·
     rw [tok_get _ (by simpa using h')] at u3
     exact q4 j i' p u1 u2 u3
 ·
  have key : ∀ (id : Nat) (o1 : Ob),get ((.o i,.ob (.tok o true)) :: σ) (.o id) = .ob o1 → ∃ o',get σ (.o id) = .ob o' := fun id o1 h => by
   by_cases he : id = i
   ·
    subst he;exact ⟨_,hi⟩
   ·
    rw [tok_get _ (by simpa using he)] at h;exact ⟨_,h⟩
  obtain ⟨p1,q1⟩ := key _ _ h1
  obtain ⟨p2,q2⟩ := key _ _ h2
  exact hs.sep id id' p1 p2 c q1 q2 h3 h4
end
theorem msetI_mem {M : List (Int × Value)} {k : Int} {us : Value} {q : Int × Value} (h : q ∈ msetI M k us) : q ∈ M ∨ q = (k,us) := by
 induction M with
 | nil => simp [msetI] at h;exact .inr h
 | cons p M ih =>
  obtain ⟨s,v⟩ := p
  simp only [msetI] at h
  split at h
  ·
   next hs =>
   rcases List.mem_cons.1 h with rfl | h
   ·
    exact .inr (by rw [hs])
   ·
    exact .inl (List.mem_cons_of_mem _ h)
  ·
   rcases List.mem_cons.1 h with rfl | h
   ·
    exact .inl (List.mem_cons_self ..)
   ·
    rcases ih h with h | h
    ·
     exact .inl (List.mem_cons_of_mem _ h)
    ·
     exact .inr h
theorem msetI_keys {M : List (Int × Value)} {k : Int} {us : Value} : (∀ q ∈ M,∃ v,(q.1,v) ∈ msetI M k us) ∧ ∃ v,(k,v) ∈ msetI M k us := by
 induction M with
 | nil => exact ⟨by simp,us,by simp [msetI]⟩
 | cons p M ih =>
  obtain ⟨s,v⟩ := p
  obtain ⟨h1,h2⟩ := ih
  simp only [msetI]
  split
  ·
   next hs =>
   refine ⟨fun q hq => ?_,us,by rw [hs];exact List.mem_cons_self ..⟩
   rcases List.mem_cons.1 hq with rfl | hq
   ·
    exact ⟨us,List.mem_cons_self ..⟩
   ·
    exact ⟨q.2,List.mem_cons_of_mem _ hq⟩
  ·
   refine ⟨fun q hq => ?_,?_⟩
   ·
    rcases List.mem_cons.1 hq with rfl | hq
    ·
     exact ⟨v,List.mem_cons_self ..⟩
    ·
     obtain ⟨u,hu⟩ := h1 q hq
     exact ⟨u,List.mem_cons_of_mem _ hu⟩
   ·
    obtain ⟨u,hu⟩ := h2
    exact ⟨u,List.mem_cons_of_mem _ hu⟩
theorem entries_list {es : Array MapEntry} {V : List (Int × Value)} (h : ∀ e ∈ es.toList,∃ p ∈ V,e.key = .int kk p.1 ∧ e.val = p.2) : ∃ M : List (Int × Value),MapIsK kk es M ∧ ∀ q ∈ M,q ∈ V := by
 unfold MapIsK
 generalize es.toList = l at h
 induction l with
 | nil => exact ⟨[],rfl,by simp⟩
 | cons e l ih =>
  obtain ⟨M,h1,h2⟩ := ih fun e he => h e (List.mem_cons_of_mem _ he)
  obtain ⟨p,hp,h3,h4⟩ := h e (List.mem_cons_self ..)
  refine ⟨p :: M,by simp [h1,h3,h4],fun q hq => ?_⟩
  rcases List.mem_cons.1 hq with rfl | hq
  ·
   exact hp
  ·
   exact h2 q hq
theorem list_entry {es : Array MapEntry} {M : List (Int × Value)} (h : MapIsK kk es M) : (∀ e ∈ es.toList,∃ q ∈ M,e.key = .int kk q.1 ∧ e.val = q.2) ∧ ∀ q ∈ M,∃ e ∈ es.toList,e.key = .int kk q.1 := by
 unfold MapIsK at h
 refine ⟨fun e he => ?_,fun q hq => ?_⟩
 ·
  have : (e.key,e.val) ∈ M.map fun p => (Value.int kk p.1,p.2) := by rw [← h];exact List.mem_map.2 ⟨e,he,rfl⟩
  obtain ⟨q,hq,h1⟩ := List.mem_map.1 this
  simp only [Prod.mk.injEq] at h1
  exact ⟨q,hq,h1.1.symm,h1.2.symm⟩
 ·
  have : (Value.int kk q.1,q.2) ∈ es.toList.map fun e => (e.key,e.val) := by rw [h];exact List.mem_map.2 ⟨q,hq,rfl⟩
  obtain ⟨e,he,h1⟩ := List.mem_map.1 this
  simp only [Prod.mk.injEq] at h1
  exact ⟨e,he,h1.1⟩
theorem lit_at (hs : SimG cx σ a w g nx) {id : Nat} {V : List (Int × Value)} {ids : List Nat} {x : Value} (ho : get σ (.o id) = .ob (.lit kk V ids)) (hr : Rep cx g σ w x (.h id)) :
  ∃ b es clock,x = .map (some b) ∧ g id = .map (some b) ∧ cx.w0.heap.size ≤ b ∧ b < w.heap.size ∧ w.heap[b]? = some (.map es clock) ∧ (∀ e ∈ es.toList,∃ p ∈ V,e.key = .int kk p.1 ∧ e.val = p.2) ∧
   ∀ (j i : Nat) (p : Int × Value),ids[j]? = some i → V[j]? = some p → get σ (.o i) = .ob (.tok id true) → ∃ e ∈ es.toList,e.key = .int kk p.1 := by
 obtain ⟨_,⟨b,es,clock,h1,h2,h3,h4,h5⟩,_⟩ := hs.objs id _ ho
 have hx : x = g id := hr.2 _ ho rfl
 refine ⟨b,es,clock,by rw [hx];exact h1,h1,h2,?_,h3,h4,h5⟩
 rcases Nat.lt_or_ge b w.heap.size with h | h
 ·
  exact h
 ·
  rw [Array.getElem?_eq_none h] at h3;cases h3
def toksRd (o : Nat) (ids : List Nat) : List (Key × Val) := ids.map fun i => (.o i,.ob (.tok o false))
theorem toks_app {o : Nat} : ∀ {ids : List Nat},(∀ i ∈ ids,get σ (.o i) = .ob (.tok o false)) → App σ (toksRd o ids)
 | [],_ => trivial
 | i :: ids,h => ⟨h i (List.mem_cons_self ..),toks_app fun j hj => h j (List.mem_cons_of_mem _ hj)⟩
theorem toks_at {o : Nat} : ∀ {ids : List Nat},App σ (toksRd o ids) → ∀ i ∈ ids,get σ (.o i) = .ob (.tok o false)
 | [],_,i,hi => by cases hi
 | j :: ids,h,i,hi => by
  rcases List.mem_cons.1 hi with rfl | hi
  ·
   exact h.1
  ·
   exact toks_at h.2 i hi
theorem a_mklit {t : TypeId} {n0 : Nat} (kk : IntKind) (V : List (Int × Value)) (ids : List Nat) (hn : get σ .nx = .num n0) (hd : Nat.blt d cx.n = true) (ht : ∀ i ∈ ids,get σ (.o i) = .ob (.tok n0 false)) :
  OA cx σ ⟨some d,.makeMap t none,ty,pos,af,gd⟩ ⟨(.nx,.num n0) :: toksRd n0 ids,[(.s d,.av (.h n0)),(.o n0,.ob (.lit kk V ids)),(.nx,.num (n0 + 1))]⟩ := by
 refine ⟨?_,hn,toks_app ht⟩
 rintro σ a w K Q ⟨g,nx,hs⟩ hr hK
 obtain ⟨hn,hl⟩ := hr
 have htk := toks_at hl
 have hnx : nx = n0 := by
  have h2 := hs.hnx
  rw [hn] at h2
  simpa using h2.symm
 subst hnx
 have hrun : (execOp a.eval ⟨some d,.makeMap t none,ty,pos,af,gd⟩).run cx.P w = .ok (.value (.map (some w.heap.size))) (w.alloc (.map #[] 0)) := by
  simp [execOp,Instr.makeMap,newObj]
  rfl
 have hb : Below w.heap.size w (w.alloc (.map #[] 0)) := (Below.refl _ _).alloc (Nat.le_refl _) _
 have hst : ObjStep cx σ g nx (nx + 1) w (w.alloc (.map #[] 0)) nx (.lit kk V ids) (.map (some w.heap.size)) :=
  ⟨.inl ⟨rfl,rfl⟩,hb.mono hs.below.size,fun c hc _ => hb.block c hc,fun c hc => .inr (by cases hc;exact Nat.le_refl _)⟩
 have hG := SimG.obj hs hst (fun _ => ⟨w.heap.size,#[],0,upd_same _ _ _,hs.below.size,heap_alloc_new w _,by simp,fun j i p hj hp hi => by
   exfalso
   have him := List.mem_of_getElem? hj
   have h1 := htk i him
   have hlt := (hs.objs i _ h1).1
   rw [objSt_o (by omega),h1] at hi
   simp at hi⟩) (fun i hi => by have := (hs.objs i _ (htk i hi)).1;omega)
 refine wp_val rfl hrun (hK _ _ ?_)
 refine Sim.eqv (Sim.put hG (lt_of_blt hd) (Below.refl _ _) (av := .h nx) ⟨.of get_cons_same,fun _ _ _ => (upd_same _ _ _).symm⟩ (Nat.lt_succ_self nx)) fun q => ?_
 cases q with
 | s i =>
  by_cases hi : i = d
  ·
   subst hi;rw [get_cons_same];exact get_cons_same.symm
  ·
   rw [get_cons_ne (by simpa using fun e => hi e.symm),objSt_s]
   exact ((get_cons_ne (by simpa using fun e => hi e.symm)).trans ((get_cons_ne (by simp)).trans (get_cons_ne (by simp)))).symm
 | o i =>
  rw [get_cons_ne (by simp)]
  by_cases hi : i = nx
  ·
   subst hi;rw [get_cons_same];exact ((get_cons_ne (by simp)).trans get_cons_same).symm
  ·
   rw [objSt_o hi]
   exact ((get_cons_ne (by simp)).trans ((get_cons_ne (by simpa using fun e => hi e.symm)).trans (get_cons_ne (by simp)))).symm
 | nx =>
  rw [get_cons_ne (by simp),objSt_nx]
  exact ((get_cons_ne (by simp)).trans ((get_cons_ne (by simp)).trans get_cons_same)).symm
theorem a_inslit {t te : TypeId} {zv : Value} {x y z : Operand} {av : AV} {k : Int} {us : Value} {V : List (Int × Value)} {ids : List Nat} (id j i : Nat) (h : MapTyK cx kk t te zv)
  (hx : ev σ x = some (.h id)) (hy : ev σ y = some (.d (.v (.int kk k)))) (hz : ev σ z = some av) (hu : ValV av us) (ho : get σ (.o id) = .ob (.lit kk V ids)) (hi : get σ (.o i) = .ob (.tok id false))
  (hj : ids[j]? = some i) (hV : V[j]? = some (k,us)) (hnd : ids.Nodup) :
  OA cx σ ⟨none,.insert t x y z,ty,pos,af,gd⟩ ⟨rdOf x (.h id) ++ (rdOf y (.d (.v (.int kk k))) ++ (rdOf z av ++ [(.o id,.ob (.lit kk V ids)),(.o i,.ob (.tok id false))])),[(.o i,.ob (.tok id true))]⟩ := by
 refine ⟨?_,(ev_out hx).2.append ((ev_out hy).2.append ((ev_out hz).2.append ⟨ho,hi,trivial⟩))⟩
 rintro σ1 a w K Q ⟨g,nx,hs⟩ hr hK
 have hk := rep_v (hs.ev (ev_out hy).1 hr.right.left).1
 have hzv := rep_valv hu (hs.ev (ev_out hz).1 hr.right.right.left).1
 have ho1 : get σ1 (.o id) = .ob (.lit kk V ids) := hr.right.right.right.1
 have hi1 : get σ1 (.o i) = .ob (.tok id false) := hr.right.right.right.2.1
 obtain ⟨b,es,clock,h1,h2,h3,h4,h5,h6,h7⟩ := lit_at hs ho1 (hs.ev (ev_out hx).1 hr.left).1
 obtain ⟨M,hM1,hM2⟩ := entries_list h6
 obtain ⟨es',clock',hrun,hmi'⟩ := run_msetK (w := w) h h5 hM1 k us
 obtain ⟨q1,q2⟩ := list_entry hmi'
 obtain ⟨r1,r2⟩ := msetI_keys (M := M) (k := k) (us := us)
 have hup : ∀ e ∈ es'.toList,∃ p ∈ V,e.key = .int kk p.1 ∧ e.val = p.2 := fun e he => by
  obtain ⟨q,hq,h8,h9⟩ := q1 e he
  rcases msetI_mem hq with h | rfl
  ·
   exact ⟨q,hM2 q h,h8,h9⟩
  ·
   exact ⟨_,List.mem_of_getElem? hV,h8,h9⟩
 have hold : ∀ n,(∃ e ∈ es.toList,e.key = .int kk n) → ∃ e ∈ es'.toList,e.key = .int kk n := by
  rintro n ⟨e,he,hek⟩
  obtain ⟨q,hq,h8,_⟩ := (list_entry hM1).1 e he
  obtain ⟨v,hv⟩ := r1 q hq
  obtain ⟨e',he',h9⟩ := q2 _ hv
  exact ⟨e',he',by rw [h9,← h8,hek]⟩
 have hnew : ∃ e ∈ es'.toList,e.key = .int kk k := by
  obtain ⟨v,hv⟩ := r2
  obtain ⟨e',he',h9⟩ := q2 _ hv
  exact ⟨e',he',h9⟩
 have hoth : ∀ c,c ≠ b → ({ w with heap := w.heap.setIfInBounds b (.map es' clock') } : World).heap[c]? = w.heap[c]? := fun c hc => by
  show (w.heap.setIfInBounds b _)[c]? = _
  rw [Array.getElem?_setIfInBounds,if_neg (fun e => hc e.symm)]
 have hsame : ({ w with heap := w.heap.setIfInBounds b (.map es' clock') } : World).heap[b]? = some (.map es' clock') := by
  show (w.heap.setIfInBounds b _)[b]? = _
  rw [Array.getElem?_setIfInBounds,if_pos rfl,if_pos h4]
 have hblk : blk (g id) = some b := by rw [h2];rfl
 have hst : ObjStep cx σ1 g nx nx w { w with heap := w.heap.setIfInBounds b (.map es' clock') } id (.lit kk V ids) (g id) :=
  ⟨.inr ⟨rfl,_,ho1,by simp [ObLe,upd_same]⟩,⟨rfl,rfl,rfl,by simp,fun c hc => hoth c (by omega)⟩,fun c hc hn => hoth c fun e => hn _ ho1 (by rw [hblk,e]),fun c hc => .inl ⟨_,ho1,hc⟩⟩
 have hG := SimG.obj hs hst (fun _ => ⟨b,es',clock',by rw [upd_same];exact h2,h3,hsame,hup,fun j' i' p u1 u2 u3 => by
   have hne : i' ≠ id := fun e => by subst e;rw [get_cons_same] at u3;cases u3
   rw [objSt_o hne] at u3
   exact hold _ (h7 j' i' p u1 u2 u3)⟩) (fun i' hi' => (hs.objs id _ ho1).2.2 i' hi')
 have hne : i ≠ id := fun e => by subst e;rw [ho1] at hi1;cases hi1
 have hG2 := tok_set hG (i := i) (o := id) (b := false) (by rw [objSt_o hne];exact hi1) fun kk' V' ids' j' p u1 u2 u3 => by
  rw [get_cons_same] at u1
  simp only [Val.ob.injEq,Ob.lit.injEq] at u1
  obtain ⟨rfl,rfl,rfl⟩ := u1
  have hjj : j' = j := (List.getElem?_inj (List.getElem?_eq_some_iff.1 u2).1 hnd).1 (u2.trans hj.symm)
  subst hjj
  rw [hV] at u3
  cases u3
  exact ⟨b,es',clock',by rw [upd_same];exact h2,hsame,hnew⟩
 unfold Oper.wp
 have hex : (execOp a.eval ⟨none,.insert t x y z,ty,pos,af,gd⟩).run cx.P w = .ok .skip { w with heap := w.heap.setIfInBounds b (.map es' clock') } := by
  simp [execOp,h1,hk,hzv,hrun]
 rw [hex]
 refine hK _ _ (Sim.eqv ⟨_,_,hG2⟩ fun q => ?_)
 cases q with
 | s n => exact (get_cons_ne (by simp)).trans ((objSt_s n).trans (get_cons_ne (by simp)).symm)
 | o n =>
  by_cases hn : n = i
  ·
   subst hn;rw [get_cons_same];exact get_cons_same.symm
  ·
   rw [tok_get _ (by simpa using hn)]
   have hr' : get ([(Key.o i,Val.ob (.tok id true))] ++ σ1) (.o n) = get σ1 (.o n) := get_cons_ne (by simpa using fun e => hn e.symm)
   rw [hr']
   by_cases hn2 : n = id
   ·
    subst hn2;rw [get_cons_same];exact ho1.symm
   ·
    exact objSt_o hn2
 | nx => exact (get_cons_ne (by simp)).trans (objSt_nx.trans (hs.hnx.symm.trans (get_cons_ne (by simp)).symm))
theorem a_looklit {t te : TypeId} {zv : Value} {x y : Operand} {k : Int} {us : Value} {V : List (Int × Value)} {ids : List Nat} (id j i : Nat) (h : MapTyK cx kk t te zv) (hfl : flat us) (hun : ∀ p ∈ V,p.1 = k → p.2 = us)
  (hx : ev σ x = some (.h id)) (hy : ev σ y = some (.d (.v (.int kk k)))) (ho : get σ (.o id) = .ob (.lit kk V ids)) (hi : get σ (.o i) = .ob (.tok id true)) (hj : ids[j]? = some i) (hV : V[j]? = some (k,us)) (hd : Nat.blt d cx.n = true) :
  OA cx σ ⟨some d,.lookup t x y false,ty,pos,af,gd⟩ ⟨rdOf x (.h id) ++ (rdOf y (.d (.v (.int kk k))) ++ [(.o id,.ob (.lit kk V ids)),(.o i,.ob (.tok id true))]),[(.s d,.av (.d (dv us)))]⟩ := by
 refine ⟨ok_val rfl (lt_of_blt hd) fun σ1 a w g nx hs hr => ?_,(ev_out hx).2.append ((ev_out hy).2.append ⟨ho,hi,trivial⟩)⟩
 have hk := rep_v (hs.ev (ev_out hy).1 hr.right.left).1
 obtain ⟨b,es,clock,h1,h2,h3,h4,h5,h6,h7⟩ := lit_at hs hr.right.right.1 (hs.ev (ev_out hx).1 hr.left).1
 obtain ⟨M,hM1,hM2⟩ := entries_list h6
 have := run_mlookK (w := w) h h5 hM1 k
 have hml : mlookI zv M k = us := by
  obtain ⟨e,he,hek⟩ := h7 j i _ hj hV hr.right.right.2.1
  obtain ⟨q,hq,h8,_⟩ := (list_entry hM1).1 e he
  have hqk : q.1 = k := by rw [hek] at h8;simpa using h8.symm
  unfold mlookI
  have hex : ∀ {M : List (Int × Value)},(∀ q ∈ M,q ∈ V) → (∃ q ∈ M,q.1 = k) → mgetI M k = some us := by
   intro M
   induction M with
   | nil => rintro _ ⟨q,hq,_⟩;cases hq
   | cons p M ih =>
    obtain ⟨s,v⟩ := p
    rintro hMV ⟨q,hq,hqk⟩
    simp only [mgetI]
    by_cases hs : s = k
    ·
     rw [if_pos hs,show v = us from hun (s,v) (hMV _ (List.mem_cons_self ..)) hs]
    ·
     rw [if_neg hs]
     refine ih (fun q hq => hMV q (List.mem_cons_of_mem _ hq)) ?_
     rcases List.mem_cons.1 hq with rfl | hq
     ·
      exact absurd hqk hs
     ·
      exact ⟨q,hq,hqk⟩
  rw [hex hM2 ⟨q,hq,hqk⟩]
  rfl
 rw [hml] at this
 exact ⟨_,w,by simp [execOp,hk,h1,this],Below.refl _ _,rd_dv hfl,trivial⟩
end Go.AX
namespace Go.Proofs.YtmnociojijpdmaaGreatDoor
open Go.AX Go.RF Go.RowKit
set_option maxRecDepth 100000
set_option maxHeartbeats 8000000
theorem ok_lsplit (s sep : Str) (hs : s.length ≤ 1000000000) (hp : sep ≠ []) : FnOk Tryz.prog 67 [.d (dstr s),.d (dstr sep)] (.one (encStrs (split s sep))) := by
 refine ⟨⟨_,Tryz.func67,by kernel_rfl,by kernel_rfl⟩,fun w own vs hown ha => ?_⟩
 match vs,ha with
 | [x,y],⟨h1,h2,_⟩ =>
  obtain rfl : x = str s := rd_v h1
  obtain rfl : y = str sep := rd_v h2
  obtain ⟨cs, hv, m, hm⟩ := hown.2.mx _ (show Tryz.prog.globalNamed "internal/bytealg.MaxLen" = some (Tryz.lays146_ren.g 1) by kernel_rfl)
  have hm' : w.cell? ⟨Tryz.lays146_ren.g 1,0,none⟩ = some (.int .i64 m) := by rw [World.var?_cell (by kernel_rfl) hv 0];exact hm
  have hl : 1 ≤ (⟨sep.toArray⟩ : ByteArray).size := by
   show 1 ≤ sep.toArray.size
   have := List.length_pos_iff.2 hp
   rw [List.size_toArray];omega
  refine (Any.strings_Split Tryz.lays146 (by kernel_rfl) ⟨s.toArray⟩ ⟨sep.toArray⟩ m w (by show s.toArray.size < _;simp;omega) hm' hl).mono fun e w' he => ?_
  obtain ⟨rfl,rfl⟩ := he
  have hmap := Lib.splitB_data ⟨sep.toArray⟩ 0 (Lib.countB ⟨s.toArray⟩ ⟨sep.toArray⟩) ⟨s.toArray⟩
  have hlen := Lib.splitB_all ⟨sep.toArray⟩ hl 0 _ ⟨s.toArray⟩ rfl
  have hsp : (Lib.splitB ⟨sep.toArray⟩ 0 (Lib.countB ⟨s.toArray⟩ ⟨sep.toArray⟩) ⟨s.toArray⟩).map (·.data.toList) = split s sep := by
   rw [hmap,split_lib hp];rfl
  generalize Lib.splitB ⟨sep.toArray⟩ 0 (Lib.countB ⟨s.toArray⟩ ⟨sep.toArray⟩) ⟨s.toArray⟩ = L at hsp hlen
  refine ⟨_,rfl,(Below.refl _ _).alloc (Nat.le_refl _) _,?_⟩
  rw [← hlen]
  refine rd_new hown.1 ?_ (fun r hr => ?_) L.length ?_
  ·
   have hfl : ((split s sep).map encStr1).flatten = (split s sep).map dstr := by
    induction split s sep with
    | nil => rfl
    | cons x l ih => simp [encStr1,ih]
   rw [hfl,← hsp]
   refine ⟨by simp,fun c hc => ?_,fun j c x hj hc => ?_⟩
   ·
    simp at hc
    obtain ⟨b,_,rfl⟩ := hc
    rfl
   ·
    simp only [List.map_map,List.getElem?_map,Option.map_eq_some_iff] at hj hc
    obtain ⟨b,hb,rfl⟩ := hj
    obtain ⟨b',hb',rfl⟩ := hc
    rw [hb] at hb'
    cases hb'
    exact Rd.v _
  ·
   obtain ⟨q,_,rfl⟩ := List.mem_map.1 hr
   rfl
  ·
   rw [List.length_map,← hsp,List.length_map]
theorem ok_join (l : List Str) (sep : Str) (hl : l.length ≤ 1000000) (hj : (joinS sep l).length ≤ 1000000) : FnOk Tryz.prog 96 [.d (encStrs l),.d (dstr sep)] (.one (dstr (joinS sep l))) := by
 refine ⟨⟨_,Tryz.func96,by kernel_rfl,by kernel_rfl⟩,fun w own vs hown ha => ?_⟩
 match vs,ha with
 | [x,y],⟨h1,h2,_⟩ =>
  obtain rfl : y = str sep := rd_v h2
  have h1' : Rd w own x (.sl 1 (l.map encStr1)) := h1
  generalize hr : l.map encStr1 = rows at h1'
  generalize hd : D.sl 1 rows = dd at h1'
  cases h1' with
  | v => cases hd
  | x => cases hd
  | agg => cases hd
  | nil a cap k =>
   cases hd
   have : l = [] := by simpa using hr
   subst this
   refine (Any.strings_Join_none Tryz.lays156 Tryz.bld156 a cap ⟨sep.toArray⟩ w).mono fun e w' he => ?_
   obtain ⟨rfl,rfl⟩ := he
   exact ⟨_,rfl,Below.refl _ _,Rd.v _⟩
  | sl ad cap k rows' f hb hs hcap hk hc h3 hrd =>
   cases hd
   have hrl : rows.length = l.length := by rw [← hr,List.length_map]
   by_cases h0 : l = []
   ·
    subst h0
    rw [show rows.length = 0 by rw [hrl];rfl]
    refine (Any.strings_Join_none Tryz.lays156 Tryz.bld156 (some ad) cap ⟨sep.toArray⟩ w).mono fun e w' he => ?_
    obtain ⟨rfl,rfl⟩ := he
    exact ⟨_,rfl,Below.refl _ _,Rd.v _⟩
   have hcell : ∀ (j : Nat) (u : Str),l[j]? = some u → w.cell? (ad.add j) = some (str u) := fun j u hj => by
    have h4 : rows[j]? = some [dstr u] := by rw [← hr,List.getElem?_map,hj];rfl
    have h5 := hc j 0 _ _ h4 rfl
    rw [Nat.mul_one,Nat.add_zero] at h5
    rw [h5,rd_v (hrd j 0 _ _ h4 rfl)]
   obtain ⟨u0,hu0⟩ : ∃ u,l[0]? = some u := by
    cases l with
    | nil => exact absurd rfl h0
    | cons u l => exact ⟨u,rfl⟩
   obtain ⟨bk,o,sp⟩ := ad
   have hsp : sp = none := by
    have h6 := hcell 0 u0 hu0
    rw [add_zero] at h6
    unfold World.cell? at h6
    split at h6
    ·
     cases sp with
     | none => rfl
     | some q => simp at h6
    ·
     cases h6
   subst hsp
   rw [hrl] at hcap ⊢
   have hjl : Lib.join ((l.map fun u : Str => (⟨u.toArray⟩ : ByteArray)).map (·.data.toList)) (⟨sep.toArray⟩ : ByteArray).data.toList = joinS sep l := by
    have hml : (l.map fun u : Str => (⟨u.toArray⟩ : ByteArray)).map (·.data.toList) = l := by rw [List.map_map];exact (List.map_congr_left (fun u _ => rfl)).trans (List.map_id l)
    rw [hml,← join_lib]
   have key := Any.strings_Join Tryz.lays156 Tryz.bld156 bk o cap (l.map fun u => ⟨u.toArray⟩) ⟨sep.toArray⟩ w (fun j b hj => by
    rw [List.getElem?_map] at hj
    cases hlj : l[j]? with
    | none => rw [hlj] at hj;cases hj
    | some u =>
     rw [hlj] at hj
     obtain rfl : (⟨u.toArray⟩ : ByteArray) = b := by simpa using hj
     have := hcell j u hlj
     rw [add_lit] at this
     exact this) hs (by simp;omega) (by simpa using hcap) (by rw [hjl];omega)
   rw [hjl,List.length_map] at key
   refine key.mono fun e w' he => ?_
   obtain ⟨rfl,hb'⟩ := he
   exact ⟨_,rfl,hb',Rd.v _⟩
theorem ok_cutp (s p : Str) : FnOk Tryz.prog 131 [.d (dstr s),.d (dstr p)] (.tup [dstr (Lib.trimPrefix s p),dbool (Lib.hasPrefix s p)]) := by
 refine ⟨⟨_,Tryz.func131,by kernel_rfl,by kernel_rfl⟩,fun w own vs hown ha => ?_⟩
 match vs,ha with
 | [x,y],⟨h1,h2,_⟩ =>
  obtain rfl : x = str s := rd_v h1
  obtain rfl : y = str p := rd_v h2
  refine (Any.strings_CutPrefix Tryz.lays103 ⟨s.toArray⟩ ⟨p.toArray⟩ w).mono fun e w' he => ?_
  obtain ⟨rfl,rfl⟩ := he
  exact ⟨_,rfl,Below.refl _ _,tup2 (Rd.v _) (Rd.v _)⟩
theorem ok_number (s : Str) (hs : s.length ≤ 1073741824) : FnOk Tryz.prog 132 [.d (dstr s)] (.tup [dint (atoiV s),dbool (numV s).isSome]) := by
 refine fnOk_of tbl_ok mixed_ok Tryz.func132 rfl (by kernel_rfl) rfl rfl fun w0 own0 => ?_
 have c1 := ok_atoiG s hs
 unfold atoiV atoiE at c1
 unfold atoiV numV
 cases hc : Lib.atoiAll s with
 | ok v =>
  rw [hc] at c1
  have hb := atoi_in hc
  have c2 := ok_itoaG v hb.1 hb.2
  dsimp only at c1 ⊢
  generalize Lib.itoa v = t at c2 ⊢
  by_cases hv : t = s
  ·
   rw [if_pos hv]
   repeat (first|refine wa ?_|((with_reducible apply s5);(first|((with_reducible apply a_noerr);exact rfl;exact Tryz.underlying163;exact rfl)|exact by_oa|exact by_ca);exact by_g)|refine wb ?_)
   exact .two (.tmp rfl (.one (.d (.refl _)))) (.tmp rfl (.one (.d (dle_bool (by simp [hv])))))
  ·
   rw [if_neg hv]
   repeat (first|refine wa ?_|((with_reducible apply s5);(first|((with_reducible apply a_noerr);exact rfl;exact Tryz.underlying163;exact rfl)|exact by_oa|exact by_ca);exact by_g)|refine wb ?_)
   exact .two (.tmp rfl (.one (.d (.refl _)))) (.tmp rfl (.one (.d (dle_bool (by simp [hv])))))
 | range =>
  rw [hc] at c1
  dsimp only at c1 ⊢
  generalize Lib.atoiSat s = q at c1 ⊢
  repeat (first|refine wa ?_|((with_reducible apply s5);(first|((with_reducible apply a_err);exact rfl;exact Tryz.underlying163;exact rfl)|exact by_oa|exact by_ca);exact by_g)|refine wb ?_)
  exact .two (.tmp rfl (.one (.d (.refl _)))) (.tmp rfl (.one (.d (.refl _))))
 | _ =>
  rw [hc] at c1
  dsimp only at c1 ⊢
  repeat (first|refine wa ?_|((with_reducible apply s5);(first|((with_reducible apply a_err);exact rfl;exact Tryz.underlying163;exact rfl)|exact by_oa|exact by_ca);exact by_g)|refine wb ?_)
  exact .two (.tmp rfl (.one (.d (.refl _)))) (.tmp rfl (.one (.d (.refl _))))
theorem ok_twords : FnOk Tryz.prog 97 [] (.one (encStrs words.tail)) := by
 refine fnOk_of tbl_ok mixed_ok Tryz.func97 rfl (by kernel_rfl) rfl rfl fun w0 own0 => ?_
 repeat (first|((with_reducible apply s5);((with_reducible apply a_bs (words.tail.map encStr1));(iterate 9 exact rfl);(repeat (first | exact PartsE.nil | (apply PartsE.cons;exact rfl;exact rfl))));exact by_g)|refine wa1 ?_|((with_reducible apply s5);(first|exact by_oa|exact by_ca);exact by_g)|refine wb ?_)
 exact .one (.tmp rfl (.one (.d (.refl _))))
theorem fields_at {k : Nat} (h : k < 9) : forms.tail[k]? = some (form (k + 1)) := by
 have : ∀ k : Fin 9,forms.tail[k.val]? = some (form (k.val + 1)) := by decide
 exact this ⟨k,h⟩
theorem ok_fields (k : Nat) (h1 : 1 ≤ k) (h9 : k ≤ 9) : FnOk Tryz.prog 98 [.d (dint k)] (.one (dstr (form k))) := by
 refine fnOk_of tbl_ok mixed_ok Tryz.func98 rfl (by kernel_rfl) rfl rfl fun w0 own0 => ?_
 obtain ⟨j,rfl⟩ : ∃ j,k = j + 1 := ⟨k - 1,by omega⟩
 have h := fields_at (k := j) (by omega)
 have hx : ((j + 1 : Nat) : Int) - 1 = (j : Int) := by omega
 repeat (first|((with_reducible apply s5);((with_reducible apply a_bs (forms.tail.map encStr1));(iterate 9 exact rfl);(repeat (first | exact PartsE.nil | (apply PartsE.cons;exact rfl;exact rfl))));exact by_g)|refine wa1 ?_|((with_reducible apply s5);(first|((with_reducible apply a_ia);(iterate 5 exact rfl);rw [hx];exact idx_map h)|exact by_oa|exact by_ca);exact by_g)|refine wb ?_)
 exact .one (.tmp rfl (.one (.d (.refl _))))
set_option maxHeartbeats 16000000
theorem tailS_len {sep w : Str} {l : List Str} (h : w ∈ l) : w.length ≤ (tailS sep l).length := by
 induction l with
 | nil => cases h
 | cons x l ih =>
  simp only [tailS,List.length_append]
  rcases List.mem_cons.1 h with rfl | h
  ·
   omega
  ·
   have := ih h;omega
theorem joinS_part {sep w : Str} {l : List Str} (h : w ∈ l) : w.length ≤ (joinS sep l).length := by
 cases l with
 | nil => cases h
 | cons x l =>
  rw [joinS_cons]
  simp only [List.length_append]
  rcases List.mem_cons.1 h with rfl | h
  ·
   omega
  ·
   have := tailS_len (sep := sep) h;omega
theorem words_tail {K : Nat} (h1 : 1 ≤ K) (h9 : K ≤ 9) : words.tail[K - 1]? = some (words.getD K []) := by
 have : ∀ k : Fin 9,words.tail[k.val]? = some (words.getD (k.val + 1) []) := by decide
 have := this ⟨K - 1,by omega⟩
 rwa [show K - 1 + 1 = K by omega] at this
theorem take_snoc {α : Type} {l : List α} {n : Nat} {x : α} (h : l[n]? = some x) : l.take n ++ [x] = l.take (n + 1) := by
 rw [List.take_add_one,h];rfl
theorem ok_tprint (d : Deed) (hw : wrongDeed d = 0) (hd : d.Sm) (hF : (printD d).length ≤ 1000000) : FnOk Tryz.prog 63 [.d (.agg d.enc)] (.one (dstr (printD d))) := by
 refine fnOk_of tbl_ok mixed_ok Tryz.func63 rfl (by kernel_rfl) rfl rfl fun w0 own0 => ?_
 have hok := wrongDeed_ok hw
 have hnn := wrong_n hw
 have hr := hok.r
 have hwl := hok.w
 have hcl := hok.c
 have cj := fun (l : List Str) (hl : l.length ≤ 1000000) (h : joinS [32] l ∈ partsD d) => ok_join l [32] hl (Nat.le_trans (joinS_part (sep := [59,32]) h) hF)
 have cJ := ok_join (partsD d) [59,32] (by simp [partsD];omega) hF
 have hpl : (partsD d).length = 2 + d.code.length := by simp [partsD];omega
 have hp0 : (partsD d)[0]? = some (joinS [32] (wReads :: d.reads)) := rfl
 have hp1 : (partsD d)[1]? = some (joinS [32] (wWrites :: d.writes)) := rfl
 have hp2 : ∀ z i,d.code[z]? = some i → (partsD d)[2 + z]? = some (joinS [32] (insW i)) := fun z i h => by
  rw [Nat.add_comm]
  simp [partsD,h]
 have cw := ok_twords
 rw [show printD d = joinS [59,32] (partsD d) from rfl]
 rw [show printD d = joinS [59,32] (partsD d) from rfl] at hF
 generalize hPD : partsD d = PD at *
 have hst0 : StopA 2 := ⟨rfl⟩
 repeat (first|((with_reducible apply s5);((with_reducible apply a_bs ([d.reads,d.writes].map fun l => [encStrs l]));(iterate 9 exact rfl);(repeat (first | exact PartsE.nil | (apply PartsE.cons;exact rfl;exact rfl))));exact by_g)|refine wa1S ?_|((with_reducible apply s5);(first|exact by_oa|exact by_ca);exact by_g)|refine wb ?_)
 clear hst0
 refine Stop.go (CW.stut (stut_promote (i := 3) 9 1) ⟨rfl,rfl,trivial⟩ ?_)
 repeat (first|((with_reducible apply s5);((with_reducible apply a_bs ([d.reads,d.writes].map fun l => [encStrs l]));(iterate 9 exact rfl);(repeat (first | exact PartsE.nil | (apply PartsE.cons;exact rfl;exact rfl))));exact by_g)|refine wa1 ?_|((with_reducible apply s5);(first|exact by_oa|exact by_ca);exact by_g)|refine wb ?_)
 refine CW.loopT (fun t : Nat => [sp 1 0,ob 0 d.enc,so 3 1 (PD.take t).length,oa 1 9 1 ((PD.take t).map encStr1),sd 15 (.sl 1 ([d.reads,d.writes].map fun l => [encStrs l])),sd 16 (dint 2),sd 17 (dint t),nxt 2])
  (fun t => t ≤ 2) (fun t => 2 - t) 0 (by omega) ?_ ?_
 ·
  exact by_less
 ·
  intro t ht
  have hn0 : ([wReads,wWrites] : List Str)[0]? = some wReads := rfl
  have hn1 : ([wReads,wWrites] : List Str)[1]? = some wWrites := rfl
  have hd0 : ([d.reads,d.writes] : List (List Str))[0]? = some d.reads := rfl
  have hd1 : ([d.reads,d.writes] : List (List Str))[1]? = some d.writes := rfl
  match t,ht with
  | 0,_ =>
   have c1 := cj (wReads :: d.reads) (by simp;omega) (List.mem_of_getElem? hp0)
   have hts := take_snoc hp0
   generalize joinS [32] (wReads :: d.reads) = J at c1 hts
   repeat (first|((with_reducible apply s5);((with_reducible apply a_bs (([wReads,wWrites] : List Str).map encStr1));(iterate 9 exact rfl);(repeat (first | exact PartsE.nil | (apply PartsE.cons;exact rfl;exact rfl))));exact by_g)|((with_reducible apply s5);(with_reducible apply (a_bsO [encStr1 wReads]));(iterate 10 exact rfl);(repeat (first | exact PartsE.nil | (apply PartsE.cons;exact rfl;exact rfl)));exact by_g)|refine wa1 ?_|((with_reducible apply s5);(first|((with_reducible apply a_ia);(iterate 5 exact rfl);exact idx_map (k := 0) hd0)|((with_reducible apply a_ia);(iterate 5 exact rfl);exact idx_map (k := 0) hn0)|(focus ((with_reducible apply a_lend);exact c1;exact rfl;exact .plain rfl;(focus first | exact rfl | (simp;done) | (simp;omega));(iterate 2 exact rfl);exact by_sub))|exact by_oa|exact by_ca);exact by_g)|refine wb ?_)
   refine q_loopT 1 (by omega) (by omega) ?_
   rw [← hts]
   exact by_less
  | 1,_ =>
   have c1 := cj (wWrites :: d.writes) (by simp;omega) (List.mem_of_getElem? hp1)
   have hts := take_snoc hp1
   have htl : (PD.take 1).length = 1 := by rw [List.length_take];omega
   generalize joinS [32] (wWrites :: d.writes) = J at c1 hts
   generalize PD.take 1 = P1 at *
   repeat (first|((with_reducible apply s5);((with_reducible apply a_bs (([wReads,wWrites] : List Str).map encStr1));(iterate 9 exact rfl);(repeat (first | exact PartsE.nil | (apply PartsE.cons;exact rfl;exact rfl))));exact by_g)|((with_reducible apply s5);(with_reducible apply (a_bsO [encStr1 wWrites]));(iterate 10 exact rfl);(repeat (first | exact PartsE.nil | (apply PartsE.cons;exact rfl;exact rfl)));exact by_g)|refine wa1 ?_|((with_reducible apply s5);(first|((with_reducible apply a_ia);(iterate 5 exact rfl);exact idx_map (k := 1) hd1)|((with_reducible apply a_ia);(iterate 5 exact rfl);exact idx_map (k := 1) hn1)|(focus ((with_reducible apply a_lend);exact c1;exact rfl;exact .plain rfl;(focus first | exact rfl | (simp;done) | (simp;omega));(iterate 2 exact rfl);exact by_sub))|exact by_oa|exact by_ca);exact by_g)|refine wb ?_)
   refine q_loopT 2 (by omega) (by omega) ?_
   rw [← hts]
   exact by_less
  | 2,_ =>
   try refine wk ?_
   refine CW.loopT (fun z : Nat => [sp 1 0,ob 0 d.enc,so 3 1 (PD.take (2 + z)).length,oa 1 9 1 ((PD.take (2 + z)).map encStr1),sd 35 (encCode d.code),sd 36 (dint d.code.length),sd 37 (dint z),nxt 2])
    (fun z => z ≤ d.code.length) (fun z => d.code.length - z) 0 (by omega) ?_ ?_
   ·
    exact by_less
   ·
    intro z hz
    have htl : (PD.take (2 + z)).length = 2 + z := by rw [List.length_take];omega
    rcases drop_case hz with ⟨h1,h2⟩ | ⟨i,h1,h2,h3⟩
    ·
     rw [show PD.take (2 + z) = PD by rw [List.take_of_length_le (by omega)]]
     repeat (first|refine wa ?_|((with_reducible apply s5);(first|(focus ((with_reducible apply a_lend);exact cJ;exact rfl;exact .plain rfl;(focus first | exact rfl | (simp;done) | (simp;omega));(iterate 2 exact rfl);exact by_sub))|exact by_oa|exact by_ca);exact by_g)|refine wb ?_)
     exact .one (.tmp rfl (.one (.d (.refl _))))
    ·
     have him := List.mem_of_getElem? h2
     have hi := hok.i i him
     have hin := hnn i him
     have hik := hi.k
     have hia := hi.a
     have hib := hi.b
     have ca := ok_itoaG i.a (by omega) (by omega)
     have cb := ok_itoaG i.b (by omega) (by omega)
     have cn := ok_itoaG i.n (by omega) (by omega)
     have la := itoa_len i.a (by omega) (by omega)
     have lb := itoa_len i.b (by omega) (by omega)
     have hp := hp2 z i h2
     have hts := take_snoc hp
     have cJ1 := cj (insW i) (by simp [insW];have := form_len i.kind.toNat;omega) (List.mem_of_getElem? hp)
     generalize joinS [32] (insW i) = J at cJ1 hts hp
     have hk0 : 0 ≤ i.kind := by omega
     obtain ⟨K,hK⟩ := Int.eq_ofNat_of_zero_le hk0
     unfold insW at cJ1
     have cf := ok_fields K (by omega) (by omega)
     have hwk := words_tail (K := K) (by omega) (by omega)
     have hfl := form_len K
     have hlet : ∀ c ∈ form K,c = 114 ∨ c = 115 ∨ c = 110 ∨ c = 107 := fun c hc => form_let hc
     rw [hK,Int.toNat_natCast] at cJ1
     generalize words.getD K [] = wd at hwk cJ1
     generalize form K = f at *
     obtain ⟨ik,ia,ib,inn,ikey⟩ := i
     dsimp only at hK ca cb cn la lb hik
     subst hK
     have hix : idx (words.tail.map encStr1) ((K : Int) - 1) = some (encStr1 wd) := by
      have := idx_map (f := encStr1) hwk
      rwa [show ((K - 1 : Nat) : Int) = (K : Int) - 1 by omega] at this
     generalize hPe : PD.take (2 + z) = P at *
     repeat (first|((with_reducible apply s5);(with_reducible apply (a_bsO [encStr1 wd]));(iterate 10 exact rfl);(repeat (first | exact PartsE.nil | (apply PartsE.cons;exact rfl;exact rfl)));exact by_g)|refine wa1 ?_|((with_reducible apply s5);(first|((with_reducible apply a_ia);(iterate 5 exact rfl);exact hix)|((with_reducible apply a_range);exact rfl;exact rfl;exact Tryz.underlying9;exact rfl)|exact by_oa|exact by_ca);exact by_g)|refine wb ?_)
     refine CW.loopT (fun j : Nat => [sp 1 0,ob 0 d.enc,so 3 1 P.length,oa 1 9 1 (P.map encStr1),sd 35 (encCode d.code),sd 36 (dint d.code.length),sd 37 (dint z),sp 7 2,ob 2 (Ins.enc ⟨K,ia,ib,inn,ikey⟩),so 8 3 (wd :: (f.take j).map (fieldW ⟨K,ia,ib,inn,ikey⟩)).length,oa 3 9 1 ((wd :: (f.take j).map (fieldW ⟨K,ia,ib,inn,ikey⟩)).map encStr1),(.s 51,.av (.h 4)),(.o 4,.ob (.gen (ItP f j))),nxt 5])
      (fun j => j ≤ f.length) (fun j => f.length - j) 0 (by omega) ?_ ?_
     ·
      exact by_less
     ·
      intro j hj
      have hjl : (wd :: (f.take j).map (fieldW ⟨K,ia,ib,inn,ikey⟩)).length = j + 1 := by simp;omega
      rcases drop_case hj with ⟨b1,b2⟩ | ⟨c,b1,b2,b3⟩
      ·
       rw [b2,List.take_length] at *
       generalize wd :: f.map (fieldW ⟨K,ia,ib,inn,ikey⟩) = L at *
       repeat (first|refine wa ?_|((with_reducible apply s5);(first|(focus ((with_reducible apply a_lend);exact cJ1;exact rfl;exact .plain rfl;(focus first | exact rfl | (simp;done) | (simp;omega));(iterate 2 exact rfl);exact by_sub))|((with_reducible apply (a_nextE (k := f.length) 4));exact rfl;exact rfl;exact Nat.le_refl _;exact rfl)|exact by_oa|exact by_ca);exact by_g)|refine wb ?_)
       refine q_loopT (z + 1) (by omega) (by omega) ?_
       rw [show 2 + (z + 1) = 2 + z + 1 by omega,← hts]
       exact by_less
      ·
       have hc := hlet c (List.mem_of_getElem? b2)
       have hc1 : c.toNat < 128 := by rcases hc with rfl | rfl | rfl | rfl <;> decide
       have hsn : (wd :: (f.take j).map (fieldW ⟨K,ia,ib,inn,ikey⟩)) ++ [fieldW ⟨K,ia,ib,inn,ikey⟩ c] = wd :: (f.take (j + 1)).map (fieldW ⟨K,ia,ib,inn,ikey⟩) := by
        rw [← take_snoc b2];simp
       have hql : ∀ x : Str,x = fieldW ⟨K,ia,ib,inn,ikey⟩ c → ((wd :: (f.take j).map (fieldW ⟨K,ia,ib,inn,ikey⟩)) ++ [x]) = wd :: (f.take (j + 1)).map (fieldW ⟨K,ia,ib,inn,ikey⟩) := fun x hx => by rw [hx];exact hsn
       rcases hc with rfl | rfl | rfl | rfl
       ·
        have hq := hql (114 :: Lib.itoa ia) rfl
        generalize wd :: (f.take j).map (fieldW ⟨K,ia,ib,inn,ikey⟩) = L at *
        repeat (first|refine wa ?_|((with_reducible apply s5);(first|exact a_call ca rfl by_sub|((with_reducible apply a_bin);exact rfl;exact rfl;exact bin_sadd (by simp;omega);exact rfl)|((with_reducible apply (a_next (k := j) 4));exact rfl;exact rfl;exact b2;exact hc1;exact rfl)|exact by_oa|exact by_ca);exact by_g)|refine wb ?_)
        refine q_loopT (j + 1) (by omega) (by omega) ?_
        rw [← hq]
        exact by_less
       ·
        have hq := hql (114 :: Lib.itoa ib) rfl
        generalize wd :: (f.take j).map (fieldW ⟨K,ia,ib,inn,ikey⟩) = L at *
        repeat (first|refine wa ?_|((with_reducible apply s5);(first|exact a_call cb rfl by_sub|((with_reducible apply a_bin);exact rfl;exact rfl;exact bin_sadd (by simp;omega);exact rfl)|((with_reducible apply (a_next (k := j) 4));exact rfl;exact rfl;exact b2;exact hc1;exact rfl)|exact by_oa|exact by_ca);exact by_g)|refine wb ?_)
        refine q_loopT (j + 1) (by omega) (by omega) ?_
        rw [← hq]
        exact by_less
       ·
        have hq := hql (Lib.itoa inn) rfl
        generalize wd :: (f.take j).map (fieldW ⟨K,ia,ib,inn,ikey⟩) = L at *
        repeat (first|refine wa ?_|((with_reducible apply s5);(first|exact a_call cn rfl by_sub|((with_reducible apply (a_next (k := j) 4));exact rfl;exact rfl;exact b2;exact hc1;exact rfl)|exact by_oa|exact by_ca);exact by_g)|refine wb ?_)
        refine q_loopT (j + 1) (by omega) (by omega) ?_
        rw [← hq]
        exact by_less
       ·
        have hq := hql ikey rfl
        generalize wd :: (f.take j).map (fieldW ⟨K,ia,ib,inn,ikey⟩) = L at *
        repeat (first|refine wa ?_|((with_reducible apply s5);(first|((with_reducible apply (a_next (k := j) 4));exact rfl;exact rfl;exact b2;exact hc1;exact rfl)|exact by_oa|exact by_ca);exact by_g)|refine wb ?_)
        refine q_loopT (j + 1) (by omega) (by omega) ?_
        rw [← hq]
        exact by_less
set_option maxHeartbeats 8000000
theorem mapR {n : Nat} {w0 : World} {own0 : Nat → Prop} : MapTyK ⟨Tryz.prog,tbl,tbl_ok,mixed_ok,n,w0,own0,0,[]⟩ .i32 138 9 (.string ⟨#[]⟩) :=
 ⟨⟨21,Tryz.underlying138,Tryz.underlying21⟩,fun w => by exact Tryz.zeroValue9 w⟩
def fieldM (i : Ins) : List (Int × Value) := [(114,str (114 :: Lib.itoa i.a)),(115,str (114 :: Lib.itoa i.b)),(110,str (Lib.itoa i.n)),(107,str i.key)]
theorem fieldM_at {i : Ins} {c : UInt8} (h : c = 114 ∨ c = 115 ∨ c = 110 ∨ c = 107) : (∀ p ∈ fieldM i,p.1 = (c.toNat : Int) → p.2 = str (fieldW i c)) ∧
  ((fieldM i)[0]? = some ((c.toNat : Int),str (fieldW i c)) ∨ (fieldM i)[1]? = some ((c.toNat : Int),str (fieldW i c)) ∨ (fieldM i)[2]? = some ((c.toNat : Int),str (fieldW i c)) ∨ (fieldM i)[3]? = some ((c.toNat : Int),str (fieldW i c))) := by
 refine ⟨fun p hp hk => ?_,?_⟩
 ·
  simp only [fieldM,List.mem_cons,List.not_mem_nil,or_false] at hp
  rcases h with rfl | rfl | rfl | rfl <;> rcases hp with rfl | rfl | rfl | rfl <;> first | rfl | (exact absurd hk (by dsimp only;decide))
 ·
  rcases h with rfl | rfl | rfl | rfl
  ·
   exact .inl rfl
  ·
   exact .inr (.inl rfl)
  ·
   exact .inr (.inr (.inl rfl))
  ·
   exact .inr (.inr (.inr rfl))
theorem words_at {K : Nat} (h : K < 10) : words[K]? = some (words.getD K []) := by
 have hl : K < words.length := h
 rw [List.getD_eq_getElem?_getD,List.getElem?_eq_getElem hl]
 rfl
theorem ok_rprint (d : Deed) (hw : wrongDeed d = 0) (hd : d.Sm) (hF : (printD d).length ≤ 1000000) : FnOk Tryz.prog 66 [.d (.agg d.enc)] (.one (dstr (printD d))) := by
 refine fnOk_of tbl_ok mixed_ok Tryz.func66 rfl (by kernel_rfl) rfl rfl fun w0 own0 => ?_
 have hFe := printD_eq d
 have hok := wrongDeed_ok hw
 have hnn := wrong_n hw
 have hr := hok.r
 have hwl := hok.w
 have hcl := hok.c
 generalize printD d = F at hF hFe ⊢
 have hm := mapR (n := Tryz.f66.ntmps) (w0 := w0) (own0 := own0)
 have cw := ok_words
 try refine wk ?_
 refine CW.loopT (fun t : Nat × Str => [sp 1 0,ob 0 d.enc,sd 3 (dstr t.2),sd 13 (encStrs d.reads),sd 14 (dint d.reads.length),sd 15 (dint t.1),nxt 1])
  (fun t => t.1 ≤ d.reads.length ∧ t.2 ++ (tailS [32] (d.reads.drop t.1) ++ ([59,32] ++ ((wWrites ++ tailS [32] d.writes) ++ tailS [59,32] (d.code.map fun i => joinS [32] (insW i))))) = F) (fun t => d.reads.length - t.1) (0,wReads) ⟨by dsimp only;omega,by rw [hFe];simp⟩ ?_ ?_
 ·
  exact by_less
 ·
  rintro ⟨x,s⟩ ⟨hx,hI⟩
  dsimp only at hx hI ⊢
  have hlen := congrArg List.length hI
  rcases drop_case hx with ⟨h1,h2⟩ | ⟨k,h1,h2,h3⟩
  ·
   rw [h1] at hI
   simp only [tailS,List.nil_append] at hI
   simp only [List.length_append] at hlen
   have hWl : ([59,32,119,114,105,116,101,115] : Str) = [59,32] ++ wWrites := rfl
   repeat (first|refine wa ?_|((with_reducible apply s5);(first|((with_reducible apply a_bin);exact rfl;exact rfl;exact bin_sadd (by simp;omega);exact rfl)|exact by_oa|exact by_ca);exact by_g)|refine wb ?_)
   refine CW.loopT (fun t : Nat × Str => [sp 1 0,ob 0 d.enc,sd 3 (dstr t.2),sd 27 (encStrs d.writes),sd 28 (dint d.writes.length),sd 29 (dint t.1),nxt 1])
    (fun t => t.1 ≤ d.writes.length ∧ t.2 ++ (tailS [32] (d.writes.drop t.1) ++ tailS [59,32] (d.code.map fun i => joinS [32] (insW i))) = F) (fun t => d.writes.length - t.1) (0,s ++ [59,32,119,114,105,116,101,115]) ⟨by dsimp only;omega,by rw [hWl,← hI];simp⟩ ?_ ?_
   ·
    exact by_less
   ·
    rintro ⟨y,s⟩ ⟨hy,hI⟩
    dsimp only at hy hI ⊢
    have hlen := congrArg List.length hI
    rcases drop_case hy with ⟨h1,h2⟩ | ⟨k,h1,h2,h3⟩
    ·
     rw [h1] at hI
     simp only [tailS,List.nil_append] at hI
     try refine wk ?_
     refine CW.loopT (fun t : Nat × Str => [sp 1 0,ob 0 d.enc,sd 3 (dstr t.2),sd 39 (encCode d.code),sd 40 (dint d.code.length),sd 41 (dint t.1),nxt 1])
      (fun t => t.1 ≤ d.code.length ∧ t.2 ++ tailS [59,32] ((d.code.drop t.1).map fun i => joinS [32] (insW i)) = F) (fun t => d.code.length - t.1) (0,s) ⟨by dsimp only;omega,hI⟩ ?_ ?_
     ·
      exact by_less
     ·
      rintro ⟨z,s⟩ ⟨hz,hI⟩
      dsimp only at hz hI ⊢
      rcases drop_case hz with ⟨h1,h2⟩ | ⟨i,h1,h2,h3⟩
      ·
       rw [h1] at hI
       simp only [List.map_nil,tailS,List.append_nil] at hI
       subst hI
       try refine wk ?_
       exact .one (.tmp rfl (.one (.d (.refl _))))
      ·
       have him := List.mem_of_getElem? h2
       have hi := hok.i i him
       have hin := hnn i him
       have hik := hi.k
       have hia := hi.a
       have hib := hi.b
       rw [h1] at hI
       simp only [List.map_cons,tailS] at hI
       rw [insW_eq] at hI
       generalize hT : tailS [59,32] ((d.code.drop (z + 1)).map fun i => joinS [32] (insW i)) = T at hI
       have ca := ok_itoaG i.a (by omega) (by omega)
       have cb := ok_itoaG i.b (by omega) (by omega)
       have cn := ok_itoaG i.n (by omega) (by omega)
       have la := itoa_len i.a (by omega) (by omega)
       have lb := itoa_len i.b (by omega) (by omega)
       have hfA := fun (c : UInt8) (h : c = 114 ∨ c = 115 ∨ c = 110 ∨ c = 107) => fieldM_at (i := i) h
       have hk0 : 0 ≤ i.kind := by omega
       obtain ⟨K,hK⟩ := Int.eq_ofNat_of_zero_le hk0
       have cf := ok_form K (by omega)
       have hwk := words_at (K := K) (by omega)
       rw [hK,Int.toNat_natCast] at hI
       have hlet : ∀ c ∈ form K,c = 114 ∨ c = 115 ∨ c = 110 ∨ c = 107 := fun c hc => form_let hc
       generalize words.getD K [] = wd at hI hwk
       generalize form K = f at hI cf hlet
       have hlen := congrArg List.length hI
       simp only [List.length_append,List.length_cons,List.length_nil] at hlen
       obtain ⟨ik,ia,ib,inn,ikey⟩ := i
       dsimp only at hK ca cb cn la lb
       subst hK
       repeat (first|refine wa ?_|((with_reducible apply s5);(first|((with_reducible apply a_bin);exact rfl;exact rfl;exact bin_sadd (by simp;omega);exact rfl)|((with_reducible apply a_range);exact rfl;exact rfl;exact Tryz.underlying9;exact rfl)|exact by_oa|exact by_ca);exact by_g)|refine wb ?_)
       refine CW.loopT (fun t : Nat × Str => [sp 1 0,ob 0 d.enc,sd 3 (dstr t.2),sd 39 (encCode d.code),sd 40 (dint d.code.length),sd 41 (dint z),sp 9 1,ob 1 (Ins.enc ⟨K,ia,ib,inn,ikey⟩),(.s 56,.av (.h 2)),(.o 2,.ob (.gen (ItP f t.1))),nxt 3])
        (fun t => t.1 ≤ f.length ∧ t.2 ++ (tailS [32] ((f.drop t.1).map (fieldW ⟨K,ia,ib,inn,ikey⟩)) ++ T) = F) (fun t => f.length - t.1) (0,(s ++ [59,32]) ++ wd) ⟨by dsimp only;omega,by rw [← hI];simp⟩ ?_ ?_
       ·
        exact by_less
       ·
        rintro ⟨j,s⟩ ⟨hj,hI⟩
        dsimp only at hj hI ⊢
        rcases drop_case hj with ⟨b1,b2⟩ | ⟨c,b1,b2,b3⟩
        ·
         rw [b1] at hI
         simp only [List.map_nil,tailS,List.nil_append] at hI
         repeat (first|refine wa ?_|((with_reducible apply s5);(first|((with_reducible apply (a_nextE (k := j) 2));exact rfl;exact rfl;exact Nat.le_of_eq b2.symm;exact rfl)|exact by_oa|exact by_ca);exact by_g)|refine wb ?_)
         refine q_loopT (z + 1,s) ⟨by dsimp only;omega,by dsimp only;rw [hT];exact hI⟩ (by dsimp only;omega) ?_
         exact by_less
        ·
         have hc := hlet c (List.mem_of_getElem? b2)
         have hc1 : c.toNat < 128 := by rcases hc with rfl | rfl | rfl | rfl <;> decide
         rw [b1] at hI
         simp only [List.map_cons,tailS] at hI
         have hlen := congrArg List.length hI
         simp only [List.length_append,List.length_cons,List.length_nil] at hlen
         obtain ⟨hun,hat⟩ := hfA c hc
         generalize fieldW ⟨K,ia,ib,inn,ikey⟩ c = fw at hI hlen hun hat
         have hst0 : StopX 20 := ⟨rfl⟩
         repeat (first|refine waS ?_|((with_reducible apply s5);(first|((with_reducible apply a_bin);exact rfl;exact rfl;exact bin_sadd (by simp;omega);exact rfl)|((with_reducible apply (a_next (k := j) 2));exact rfl;exact rfl;exact b2;exact hc1;exact rfl)|exact by_oa|exact by_ca);exact by_g)|refine wb ?_)
         clear hst0
         refine Stop.go (CW.stut (stut_tok 7) ⟨rfl,trivial⟩ ?_)
         refine CW.stut (stut_tok 7) ⟨rfl,trivial⟩ ?_
         refine CW.stut (stut_tok 7) ⟨rfl,trivial⟩ ?_
         refine CW.stut (stut_tok 7) ⟨rfl,trivial⟩ ?_
         rcases hat with hat | hat | hat | hat
         ·
          repeat (first|refine wa ?_|((with_reducible apply s5);(first|exact a_call ca rfl by_sub|exact a_call cb rfl by_sub|exact a_call cn rfl by_sub|((with_reducible apply a_bin);exact rfl;exact rfl;exact bin_sadd (by simp;omega);exact rfl)|((with_reducible apply (a_mklit .i32 (fieldM ⟨K,ia,ib,inn,ikey⟩) [3,4,5,6]));exact rfl;exact rfl;(intro q hq;simp only [List.mem_cons,List.not_mem_nil,or_false] at hq;rcases hq with rfl | rfl | rfl | rfl <;> rfl))|((with_reducible apply (a_inslit 7 0 3 hm));(iterate 3 exact rfl);exact .v;(iterate 4 exact rfl);decide)|((with_reducible apply (a_inslit 7 1 4 hm));(iterate 3 exact rfl);exact .v;(iterate 4 exact rfl);decide)|((with_reducible apply (a_inslit 7 2 5 hm));(iterate 3 exact rfl);exact .v;(iterate 4 exact rfl);decide)|((with_reducible apply (a_inslit 7 3 6 hm));(iterate 3 exact rfl);exact .v;(iterate 4 exact rfl);decide)|((with_reducible apply (a_looklit (us := str fw) 7 0 3 hm));exact trivial;exact hun;(iterate 5 exact rfl);exact hat;exact rfl)|exact by_oa|exact by_ca);exact by_g)|refine wb ?_)
          refine q_loopT (j + 1,(s ++ [32]) ++ fw) ⟨by dsimp only;omega,by dsimp only;rw [← hI];simp⟩ (by dsimp only;omega) ?_
          exact by_less
         ·
          repeat (first|refine wa ?_|((with_reducible apply s5);(first|exact a_call ca rfl by_sub|exact a_call cb rfl by_sub|exact a_call cn rfl by_sub|((with_reducible apply a_bin);exact rfl;exact rfl;exact bin_sadd (by simp;omega);exact rfl)|((with_reducible apply (a_mklit .i32 (fieldM ⟨K,ia,ib,inn,ikey⟩) [3,4,5,6]));exact rfl;exact rfl;(intro q hq;simp only [List.mem_cons,List.not_mem_nil,or_false] at hq;rcases hq with rfl | rfl | rfl | rfl <;> rfl))|((with_reducible apply (a_inslit 7 0 3 hm));(iterate 3 exact rfl);exact .v;(iterate 4 exact rfl);decide)|((with_reducible apply (a_inslit 7 1 4 hm));(iterate 3 exact rfl);exact .v;(iterate 4 exact rfl);decide)|((with_reducible apply (a_inslit 7 2 5 hm));(iterate 3 exact rfl);exact .v;(iterate 4 exact rfl);decide)|((with_reducible apply (a_inslit 7 3 6 hm));(iterate 3 exact rfl);exact .v;(iterate 4 exact rfl);decide)|((with_reducible apply (a_looklit (us := str fw) 7 1 4 hm));exact trivial;exact hun;(iterate 5 exact rfl);exact hat;exact rfl)|exact by_oa|exact by_ca);exact by_g)|refine wb ?_)
          refine q_loopT (j + 1,(s ++ [32]) ++ fw) ⟨by dsimp only;omega,by dsimp only;rw [← hI];simp⟩ (by dsimp only;omega) ?_
          exact by_less
         ·
          repeat (first|refine wa ?_|((with_reducible apply s5);(first|exact a_call ca rfl by_sub|exact a_call cb rfl by_sub|exact a_call cn rfl by_sub|((with_reducible apply a_bin);exact rfl;exact rfl;exact bin_sadd (by simp;omega);exact rfl)|((with_reducible apply (a_mklit .i32 (fieldM ⟨K,ia,ib,inn,ikey⟩) [3,4,5,6]));exact rfl;exact rfl;(intro q hq;simp only [List.mem_cons,List.not_mem_nil,or_false] at hq;rcases hq with rfl | rfl | rfl | rfl <;> rfl))|((with_reducible apply (a_inslit 7 0 3 hm));(iterate 3 exact rfl);exact .v;(iterate 4 exact rfl);decide)|((with_reducible apply (a_inslit 7 1 4 hm));(iterate 3 exact rfl);exact .v;(iterate 4 exact rfl);decide)|((with_reducible apply (a_inslit 7 2 5 hm));(iterate 3 exact rfl);exact .v;(iterate 4 exact rfl);decide)|((with_reducible apply (a_inslit 7 3 6 hm));(iterate 3 exact rfl);exact .v;(iterate 4 exact rfl);decide)|((with_reducible apply (a_looklit (us := str fw) 7 2 5 hm));exact trivial;exact hun;(iterate 5 exact rfl);exact hat;exact rfl)|exact by_oa|exact by_ca);exact by_g)|refine wb ?_)
          refine q_loopT (j + 1,(s ++ [32]) ++ fw) ⟨by dsimp only;omega,by dsimp only;rw [← hI];simp⟩ (by dsimp only;omega) ?_
          exact by_less
         ·
          repeat (first|refine wa ?_|((with_reducible apply s5);(first|exact a_call ca rfl by_sub|exact a_call cb rfl by_sub|exact a_call cn rfl by_sub|((with_reducible apply a_bin);exact rfl;exact rfl;exact bin_sadd (by simp;omega);exact rfl)|((with_reducible apply (a_mklit .i32 (fieldM ⟨K,ia,ib,inn,ikey⟩) [3,4,5,6]));exact rfl;exact rfl;(intro q hq;simp only [List.mem_cons,List.not_mem_nil,or_false] at hq;rcases hq with rfl | rfl | rfl | rfl <;> rfl))|((with_reducible apply (a_inslit 7 0 3 hm));(iterate 3 exact rfl);exact .v;(iterate 4 exact rfl);decide)|((with_reducible apply (a_inslit 7 1 4 hm));(iterate 3 exact rfl);exact .v;(iterate 4 exact rfl);decide)|((with_reducible apply (a_inslit 7 2 5 hm));(iterate 3 exact rfl);exact .v;(iterate 4 exact rfl);decide)|((with_reducible apply (a_inslit 7 3 6 hm));(iterate 3 exact rfl);exact .v;(iterate 4 exact rfl);decide)|((with_reducible apply (a_looklit (us := str fw) 7 3 6 hm));exact trivial;exact hun;(iterate 5 exact rfl);exact hat;exact rfl)|exact by_oa|exact by_ca);exact by_g)|refine wb ?_)
          refine q_loopT (j + 1,(s ++ [32]) ++ fw) ⟨by dsimp only;omega,by dsimp only;rw [← hI];simp⟩ (by dsimp only;omega) ?_
          exact by_less
    ·
     rw [h1] at hI
     simp only [tailS] at hI
     simp only [List.length_append] at hlen
     have hlen := congrArg List.length hI
     simp only [List.length_append,List.length_cons,List.length_nil] at hlen
     repeat (first|refine wa ?_|((with_reducible apply s5);(first|((with_reducible apply a_bin);exact rfl;exact rfl;exact bin_sadd (by simp;omega);exact rfl)|exact by_oa|exact by_ca);exact by_g)|refine wb ?_)
     refine q_loopT (y + 1,(s ++ [32]) ++ k) ⟨by dsimp only;omega,by dsimp only;rw [← hI];simp⟩ (by dsimp only;omega) ?_
     exact by_less
  ·
   rw [h1] at hI
   simp only [tailS] at hI
   have hlen := congrArg List.length hI
   simp only [List.length_append,List.length_cons,List.length_nil] at hlen
   repeat (first|refine wa ?_|((with_reducible apply s5);(first|((with_reducible apply a_bin);exact rfl;exact rfl;exact bin_sadd (by simp;omega);exact rfl)|exact by_oa|exact by_ca);exact by_g)|refine wb ?_)
   refine q_loopT (x + 1,(s ++ [32]) ++ k) ⟨by dsimp only;omega,by dsimp only;rw [← hI];simp⟩ (by dsimp only;omega) ?_
   exact by_less
end Go.Proofs.YtmnociojijpdmaaGreatDoor
namespace Go.Proofs.YtmnociojijpdmaaGreatDoor
open Go.AX Go.RF
set_option maxRecDepth 100000
set_option maxHeartbeats 4000000
theorem ok_rwrongEntry (e : Entry) (hd : ∀ d ∈ e.deeds,d.Sm) (hl : e.deeds.length ≤ 1000000000) : FnOk Tryz.prog 14 [.d (.agg e.enc)] (.one (dint (wrongEntry e))) := by
 refine fnOk_of tbl_ok mixed_ok Tryz.func14 rfl (by kernel_rfl) rfl rfl fun w0 own0 => ?_
 unfold wrongEntry
 by_cases h0 : e.number < 0
 ·
  rw [if_pos (.inl h0)]
  try refine wk ?_
  exact .one (.tmp rfl (.one (.d (.refl _))))
 by_cases h1 : 11 < e.number
 ·
  rw [if_pos (.inr h1)]
  try refine wk ?_
  exact .one (.tmp rfl (.one (.d (.refl _))))
 rw [if_neg (by omega)]
 by_cases h2 : 6 < e.deeds.length
 ·
  rw [if_pos h2]
  try refine wk ?_
  exact .one (.tmp rfl (.one (.d (.refl _))))
 rw [if_neg h2]
 try refine wk ?_
 refine CW.loopT (fun t : Nat => [sp 1 0,ob 0 e.enc,sd 19 (encDeeds e.deeds),sd 20 (dint e.deeds.length),sd 21 (dint t),nxt 1])
  (fun t => t ≤ e.deeds.length ∧ wrongs (e.deeds.drop t) = wrongs e.deeds) (fun t => e.deeds.length - t) 0 ⟨by omega,rfl⟩ ?_ ?_
 ·
  exact by_less
 ·
  rintro i ⟨hi,hI⟩
  rcases drop_case hi with ⟨h3,h4⟩ | ⟨d,h3,h4,h5⟩
  ·
   rw [h3,wrongs] at hI
   try refine wk ?_
   exact .one (.tmp rfl (.one (.d (dle_int hI))))
  ·
   rw [h3] at hI
   simp only [wrongs] at hI
   have hds := hd d (List.mem_of_getElem? h4)
   have hc := ok_wrongDeed d hds.r hds.w hds.c hds.rk hds.wk
   by_cases h6 : wrongDeed d = 0
   ·
    rw [if_pos h6] at hI
    try refine wk ?_
    refine q_loopT (i + 1) ⟨by omega,hI⟩ (by omega) ?_
    exact by_less
   ·
    rw [if_neg h6] at hI
    try refine wk ?_
    exact .one (.tmp rfl (.one (.d (dle_int hI))))
theorem ok_sameEnts (l r : List Entry) (hl : l.length ≤ 268435456) (hd : ∀ e ∈ l,e.deeds.length ≤ 268435456 ∧ ∀ d ∈ e.deeds,d.Sm) :
  FnOk Tryz.prog 29 [.d (encEntries l),.d (encEntries r)] (.one (dbool (allB sameEnt l r))) := by
 refine fnOk_of tbl_ok mixed_ok Tryz.func29 rfl (by kernel_rfl) rfl rfl fun w0 own0 => ?_
 by_cases hlen : l.length = r.length
 ·
  try refine wk ?_
  refine CW.loop (fun k => [(.s 0,.av (.d (encEntries l))),(.s 1,.av (.d (encEntries r))),(.s 12,.av (.d (dint l.length))),(.s 13,.av (.d (dint k))),(.nx,.num 0)]) (agree sameEnt l r) ?_ fun k hk => ?_
  ·
   exact by_less
  ·
   rcases agree_case hlen hk with ⟨h1,h1',a,b,h2,h3,h4⟩ | ⟨h1,h2⟩ | ⟨h1,h2,a,b,h3,h4,h5⟩
   ·
    have hda := hd a (List.mem_of_getElem? h2)
    have hc := ok_sameDeeds a.deeds b.deeds hda.1 hda.2
    unfold sameEnt at h4
    simp only [Bool.and_eq_true,decide_eq_true_eq] at h4
    obtain ⟨h6,h7⟩ := h4
    rw [h7] at hc
    try refine wk ?_
    refine q_loop h1 ?_
    exact by_less
   ·
    try refine wk ?_
    exact .one (.tmp rfl (.one (.d (dle_bool h2.symm))))
   ·
    have hda := hd a (List.mem_of_getElem? h3)
    have hc := ok_sameDeeds a.deeds b.deeds hda.1 hda.2
    unfold sameEnt at h5
    by_cases h6 : a.number = b.number
    ·
     rw [decide_eq_true h6,Bool.true_and] at h5
     rw [h5] at hc
     try refine wk ?_
     exact .one (.tmp rfl (.one (.d (dle_bool h2.symm))))
    ·
     try refine wk ?_
     exact .one (.tmp rfl (.one (.d (dle_bool h2.symm))))
 ·
  try refine wk ?_
  refine .one (.tmp rfl (.one (.d (dle_bool ?_))))
  cases hb : allB sameEnt l r
  ·
   rfl
  ·
   exact absurd (allB_len hb) hlen
structure Replica.Sm (r : Replica) : Prop where
 e : r.engine.Sm
 l : r.early.length ≤ 134217728
 d : ∀ e ∈ r.early,e.deeds.length ≤ 134217728 ∧ ∀ d ∈ e.deeds,d.Sm
theorem sameEnt_refl (e : Entry) : sameEnt e e = true := by simp [sameEnt,allB_refl]
end Go.Proofs.YtmnociojijpdmaaGreatDoor
namespace Go.Proofs
open Go.Shelf Go.RowKit
set_option maxRecDepth 100000
noncomputable def Tryz.lays160_ren : Go.Shelf.Ren := ⟨fun | 119 => 219 | 120 => 213 | 137 => 218 | 151 => 200 | 152 => 212 | 160 => 143 | 197 => 148 | 217 => 181 | 224 => 183 | 225 => 182 | 227 => 169 | 228 => 199 | 231 => 167 | 232 => 168 | 233 => 170 | 234 => 171 | 235 => 172 | 236 => 173 | 260 => 180 | 266 => 206 | 271 => 201 | n => n, fun | 0 => 0 | 3 => 3 | 4 => 4 | 5 => 5 | 9 => 9 | 21 => 21 | 46 => 102 | 105 => 183 | 116 => 201 | 117 => 202 | 119 => 233 | 124 => 205 | 138 => 235 | 139 => 236 | n => n, fun | 3 => (Tryz.prog.globals.findIdx? (·.name == "unicode/utf8.first")).getD 0 | 4 => (Tryz.prog.globals.findIdx? (·.name == "unicode/utf8.acceptRanges")).getD 0 | n => n⟩
theorem Tryz.lays160 : Go.Proofs.Lays.n160 Tryz.prog Tryz.lays160_ren := {
 mixed := by kernel_rfl
 f119 := Tryz.func219.trans (congrArg some (by kernel_rfl))
 f120 := Tryz.func213.trans (congrArg some (by kernel_rfl))
 f137 := Tryz.func218.trans (congrArg some (by kernel_rfl))
 f151 := Tryz.func200.trans (congrArg some (by kernel_rfl))
 f152 := Tryz.func212.trans (congrArg some (by kernel_rfl))
 f160 := Tryz.func143.trans (congrArg some (by kernel_rfl))
 f197 := Tryz.func148.trans (congrArg some (by kernel_rfl))
 f217 := Tryz.func181.trans (congrArg some (by kernel_rfl))
 f224 := Tryz.func183.trans (congrArg some (by kernel_rfl))
 f225 := Tryz.func182.trans (congrArg some (by kernel_rfl))
 f227 := Tryz.func169.trans (congrArg some (by kernel_rfl))
 f228 := Tryz.func199.trans (congrArg some (by kernel_rfl))
 f231 := Tryz.func167.trans (congrArg some (by kernel_rfl))
 f232 := Tryz.func168.trans (congrArg some (by kernel_rfl))
 f233 := Tryz.func170.trans (congrArg some (by kernel_rfl))
 f234 := Tryz.func171.trans (congrArg some (by kernel_rfl))
 f235 := Tryz.func172.trans (congrArg some (by kernel_rfl))
 f236 := Tryz.func173.trans (congrArg some (by kernel_rfl))
 f260 := Tryz.func180.trans (congrArg some (by kernel_rfl))
 f266 := Tryz.func206.trans (congrArg some (by kernel_rfl))
 f271 := Tryz.func201.trans (congrArg some (by kernel_rfl))
 t0 := Tryz.underlying0
 a0 := Tryz.isAgg0
 z0 := Tryz.sizeOf0
 v0 := Tryz.zeroValue0
 t3 := Tryz.underlying3
 a3 := Tryz.isAgg3
 z3 := Tryz.sizeOf3
 v3 := Tryz.zeroValue3
 t4 := Tryz.underlying4
 a4 := Tryz.isAgg4
 z4 := Tryz.sizeOf4
 v4 := Tryz.zeroValue4
 t5 := Tryz.underlying5
 a5 := Tryz.isAgg5
 z5 := Tryz.sizeOf5
 v5 := Tryz.zeroValue5
 t9 := Tryz.underlying9
 a9 := Tryz.isAgg9
 z9 := Tryz.sizeOf9
 v9 := Tryz.zeroValue9
 t21 := Tryz.underlying21
 a21 := Tryz.isAgg21
 z21 := Tryz.sizeOf21
 v21 := Tryz.zeroValue21
 t46 := Tryz.underlying102
 a46 := Tryz.isAgg102
 z46 := Tryz.sizeOf102
 v46 := Tryz.zeroValue102
 t105 := Tryz.underlying183
 a105 := Tryz.isAgg183
 z105 := Tryz.sizeOf183
 v105 := Tryz.zeroValue183
 t116 := Tryz.underlying201
 a116 := Tryz.isAgg201
 z116 := Tryz.sizeOf201
 t117 := Tryz.underlying202
 a117 := Tryz.isAgg202
 z117 := Tryz.sizeOf202
 v117 := Tryz.zeroValue202
 t119 := Tryz.underlying233
 a119 := Tryz.isAgg233
 z119 := Tryz.sizeOf233
 t124 := Tryz.underlying205
 a124 := Tryz.isAgg205
 z124 := Tryz.sizeOf205
 v124 := Tryz.zeroValue205
 t138 := Tryz.underlying235
 a138 := Tryz.isAgg235
 z138 := Tryz.sizeOf235
 v138 := Tryz.zeroValue235
 t139 := Tryz.underlying236
 a139 := Tryz.isAgg236
 z139 := Tryz.sizeOf236
 v139 := Tryz.zeroValue236
 g3 := by kernel_rfl
 g4 := by kernel_rfl
 }
end Go.Proofs
namespace Go.Proofs.YtmnociojijpdmaaGreatDoor
open Go.AX Go.RF Go.RowKit
set_option maxRecDepth 100000
set_option maxHeartbeats 8000000
theorem ok_trim (s : Str) (hs : s.length ≤ 1073741824) : FnOk Tryz.prog 143 [.d (dstr s),.d (dstr alpha)] (.one (dstr (Lib.trimS s alpha))) := by
 refine ⟨⟨_,Tryz.func143,by kernel_rfl,by kernel_rfl⟩,fun w own vs hown ha => ?_⟩
 match vs,ha with
 | [x,y],⟨h1,h2,_⟩ =>
  obtain rfl : x = str s := rd_v h1
  obtain rfl : y = str alpha := rd_v h2
  refine (Any.strings_Trim_laid Tryz.lays160 (by kernel_rfl) ⟨s.toArray⟩ ⟨alpha.toArray⟩ w (by show s.toArray.size ≤ _;simp;omega) (by decide) (ascii_of_all (by decide))).mono fun e w' he => ?_
  obtain ⟨rfl,hb⟩ := he
  exact ⟨_,rfl,hb,Rd.v _⟩
theorem ok_pkey (s : Str) (hs : s.length ≤ 1073741824) : FnOk Tryz.prog 119 [.d (dstr s)] (.one (dbool (key s))) := by
 refine fnOk_of tbl_ok mixed_ok Tryz.func119 rfl (by kernel_rfl) rfl rfl fun w0 own0 => ?_
 have ht := ok_trim s hs
 rw [key_trim]
 by_cases h1 : 1 ≤ s.length
 ·
  by_cases h2 : s.length ≤ 6
  ·
   try refine wk ?_
   exact .one (.tmp rfl (.one (.d (dle_bool (by simp [h1,h2])))))
  ·
   try refine wk ?_
   exact .one (.tmp rfl (.one (.d (dle_bool (by simp [h2])))))
 ·
  try refine wk ?_
  exact .one (.tmp rfl (.one (.d (dle_bool (by simp [h1])))))
end Go.Proofs.YtmnociojijpdmaaGreatDoor
namespace Go.Proofs.YtmnociojijpdmaaGreatDoor
open Go.AX Go.RF
set_option maxRecDepth 100000
set_option maxHeartbeats 8000000
def regsN (k : Int) : Int := if k = 3 ∨ k = 4 ∨ k = 5 then 2 else if k = 7 then 0 else 1
def keyedB (k : Int) : Bool := decide (k = 1 ∨ k = 6 ∨ k = 7)
def loI (k : Int) : Int := if k = 2 then -1073741824 else if k = 8 then 1 else 0
def hiI (k m : Int) : Int := if k = 2 then 1073741824 else if k = 8 then m else 0
def outI (n lo hi a b x : Int) : Bool := decide (a < 0 ∨ 4 ≤ a ∨ (n < 1 ∧ a ≠ 0) ∨ b < 0 ∨ 4 ≤ b ∨ (n < 2 ∧ b ≠ 0) ∨ x < lo ∨ hi < x)
def pwrongIns (d : Deed) (m : Int) (i : Ins) : Int :=
 if i.kind < 1 ∨ 9 < i.kind then 1
 else if outI (regsN i.kind) (loI i.kind) (hiI i.kind m) i.a i.b i.n = true then 3
 else if keyedB i.kind = false ∧ i.key ≠ [] then 2
 else if (i.kind = 1 ∧ isIn d.reads i.key = false) ∨ (keyedB i.kind = true ∧ i.kind ≠ 1 ∧ isIn d.writes i.key = false) then 9 else 0
theorem pwrong_eq (d : Deed) (m : Int) (i : Ins) : pwrongIns d m i = wrongIns d m i := by
 unfold pwrongIns wrongIns
 by_cases h : i.kind < 1 ∨ 9 < i.kind
 ·
  rw [if_pos h,if_pos h]
 rw [if_neg h,if_neg h]
 obtain ⟨kd,a,b,n,key⟩ := i
 dsimp only at h ⊢
 have hout : outI (regsN kd) (loI kd) (hiI kd m) a b n = insOut kd.toNat a b n m := by
  have hkd : kd = 1 ∨ kd = 2 ∨ kd = 3 ∨ kd = 4 ∨ kd = 5 ∨ kd = 6 ∨ kd = 7 ∨ kd = 8 ∨ kd = 9 := by omega
  unfold outI insOut
  rw [Bool.eq_iff_iff]
  simp only [Bool.or_eq_true,decide_eq_true_eq]
  rcases hkd with rfl | rfl | rfl | rfl | rfl | rfl | rfl | rfl | rfl
  ·
   rw [show regsN 1 = 1 from rfl,show loI 1 = 0 from rfl,show hiI 1 m = 0 from rfl,show insA (Int.toNat 1) = 3 from rfl,show insB (Int.toNat 1) = 0 from rfl,show insLow (Int.toNat 1) = 0 from rfl,show insHigh (Int.toNat 1) m = 0 from rfl]
   omega
  ·
   rw [show regsN 2 = 1 from rfl,show loI 2 = -1073741824 from rfl,show hiI 2 m = 1073741824 from rfl,show insA (Int.toNat 2) = 3 from rfl,show insB (Int.toNat 2) = 0 from rfl,show insLow (Int.toNat 2) = -1073741824 from rfl,show insHigh (Int.toNat 2) m = 1073741824 from rfl]
   omega
  ·
   rw [show regsN 3 = 2 from rfl,show loI 3 = 0 from rfl,show hiI 3 m = 0 from rfl,show insA (Int.toNat 3) = 3 from rfl,show insB (Int.toNat 3) = 3 from rfl,show insLow (Int.toNat 3) = 0 from rfl,show insHigh (Int.toNat 3) m = 0 from rfl]
   omega
  ·
   rw [show regsN 4 = 2 from rfl,show loI 4 = 0 from rfl,show hiI 4 m = 0 from rfl,show insA (Int.toNat 4) = 3 from rfl,show insB (Int.toNat 4) = 3 from rfl,show insLow (Int.toNat 4) = 0 from rfl,show insHigh (Int.toNat 4) m = 0 from rfl]
   omega
  ·
   rw [show regsN 5 = 2 from rfl,show loI 5 = 0 from rfl,show hiI 5 m = 0 from rfl,show insA (Int.toNat 5) = 3 from rfl,show insB (Int.toNat 5) = 3 from rfl,show insLow (Int.toNat 5) = 0 from rfl,show insHigh (Int.toNat 5) m = 0 from rfl]
   omega
  ·
   rw [show regsN 6 = 1 from rfl,show loI 6 = 0 from rfl,show hiI 6 m = 0 from rfl,show insA (Int.toNat 6) = 3 from rfl,show insB (Int.toNat 6) = 0 from rfl,show insLow (Int.toNat 6) = 0 from rfl,show insHigh (Int.toNat 6) m = 0 from rfl]
   omega
  ·
   rw [show regsN 7 = 0 from rfl,show loI 7 = 0 from rfl,show hiI 7 m = 0 from rfl,show insA (Int.toNat 7) = 0 from rfl,show insB (Int.toNat 7) = 0 from rfl,show insLow (Int.toNat 7) = 0 from rfl,show insHigh (Int.toNat 7) m = 0 from rfl]
   omega
  ·
   rw [show regsN 8 = 1 from rfl,show loI 8 = 1 from rfl,show hiI 8 m = m from rfl,show insA (Int.toNat 8) = 3 from rfl,show insB (Int.toNat 8) = 0 from rfl,show insLow (Int.toNat 8) = 1 from rfl,show insHigh (Int.toNat 8) m = m from rfl]
   omega
  ·
   rw [show regsN 9 = 1 from rfl,show loI 9 = 0 from rfl,show hiI 9 m = 0 from rfl,show insA (Int.toNat 9) = 3 from rfl,show insB (Int.toNat 9) = 0 from rfl,show insLow (Int.toNat 9) = 0 from rfl,show insHigh (Int.toNat 9) m = 0 from rfl]
   omega
 rw [hout]
 split
 ·
  rfl
 have hkd : kd = 1 ∨ kd = 2 ∨ kd = 3 ∨ kd = 4 ∨ kd = 5 ∨ kd = 6 ∨ kd = 7 ∨ kd = 8 ∨ kd = 9 := by omega
 have hk9 : has kd.toNat 107 = keyedB kd := by rcases hkd with rfl | rfl | rfl | rfl | rfl | rfl | rfl | rfl | rfl <;> decide
 rw [hk9]
 cases hkb : keyedB kd with
 | false =>
  have h1 : ¬ kd = 1 := fun e => by subst e;cases hkb
  by_cases hk0 : key = []
  ·
   simp [hk0,h1]
  ·
   simp [hk0]
 | true =>
  simp only [Bool.true_eq_false,false_and,if_false,true_and]
  by_cases h1 : kd = 1
  ·
   simp only [h1,if_true,ne_eq,not_true_eq_false,false_and,or_false,true_and]
   cases isIn d.reads key <;> rfl
  ·
   simp only [h1,if_false,false_and,ne_eq,not_false_eq_true,true_and,false_or]
   cases isIn d.writes key <;> rfl
theorem ok_regs (k : Int) : FnOk Tryz.prog 121 [.d (dint k)] (.one (dint (regsN k))) := by
 refine fnOk_of tbl_ok mixed_ok Tryz.func121 rfl (by kernel_rfl) rfl rfl fun w0 own0 => ?_
 unfold regsN
 by_cases h3 : k = 3
 ·
  rw [if_pos (.inl h3)]
  try refine wk ?_
  exact .one (.tmp rfl (.one (.d (.refl _))))
 by_cases h4 : k = 4
 ·
  rw [if_pos (.inr (.inl h4))]
  try refine wk ?_
  exact .one (.tmp rfl (.one (.d (.refl _))))
 by_cases h5 : k = 5
 ·
  rw [if_pos (.inr (.inr h5))]
  try refine wk ?_
  exact .one (.tmp rfl (.one (.d (.refl _))))
 rw [if_neg (by omega)]
 by_cases h7 : k = 7
 ·
  rw [if_pos h7]
  try refine wk ?_
  exact .one (.tmp rfl (.one (.d (.refl _))))
 ·
  rw [if_neg h7]
  try refine wk ?_
  exact .one (.tmp rfl (.one (.d (.refl _))))
theorem ok_instr (d : Deed) (i : Ins) (m : Int) (hr : d.reads.length ≤ 268435456) (hw : d.writes.length ≤ 268435456) :
  FnOk Tryz.prog 95 [.pd d.enc,.d (.agg i.enc),.d (dint m)] (.one (dint (wrongIns d m i))) := by
 refine fnOk_of tbl_ok mixed_ok Tryz.func95 rfl (by kernel_rfl) rfl rfl fun w0 own0 => ?_
 rw [← pwrong_eq]
 have cr := ok_regs i.kind
 have c1 := ok_containsS d.reads i.key (by omega)
 have c2 := ok_containsS d.writes i.key (by omega)
 have hst0 : StopR 1 := ⟨rfl⟩
 try refine wkS ?_
 clear hst0
 refine Stop.cutk [sd 7 (dbool (keyedB i.kind))] [.s 0,.s 2,.s 4,.o 0,.nx] ?_ ?_
 ·
  by_cases h1 : i.kind = 1
  ·
   rw [show keyedB i.kind = true from decide_eq_true (.inl h1)]
   try refine wk ?_
   refine q_cut ?_
   exact by_less
  by_cases h6 : i.kind = 6
  ·
   rw [show keyedB i.kind = true from decide_eq_true (.inr (.inl h6))]
   try refine wk ?_
   refine q_cut ?_
   exact by_less
  by_cases h7 : i.kind = 7
  ·
   rw [show keyedB i.kind = true from decide_eq_true (.inr (.inr h7))]
   try refine wk ?_
   refine q_cut ?_
   exact by_less
  ·
   rw [show keyedB i.kind = false from decide_eq_false (by omega)]
   try refine wk ?_
   refine q_cut ?_
   exact by_less
 have hst0 : StopA 3 := ⟨rfl⟩
 try refine wkS ?_
 clear hst0
 refine Stop.cutk [sd 8 (dint (loI i.kind)),sd 9 (dint (hiI i.kind m))] [.s 0,.s 4,.s 7,.o 0,.nx] ?_ ?_
 ·
  by_cases h2 : i.kind = 2
  ·
   rw [show loI i.kind = -1073741824 from if_pos h2,show hiI i.kind m = 1073741824 from if_pos h2]
   try refine wk ?_
   refine q_cut ?_
   exact by_less
  by_cases h8 : i.kind = 8
  ·
   rw [show loI i.kind = 1 by unfold loI;rw [if_neg h2,if_pos h8],show hiI i.kind m = m by unfold hiI;rw [if_neg h2,if_pos h8]]
   try refine wk ?_
   refine q_cut ?_
   exact by_less
  ·
   rw [show loI i.kind = 0 by unfold loI;rw [if_neg h2,if_neg h8],show hiI i.kind m = 0 by unfold hiI;rw [if_neg h2,if_neg h8]]
   try refine wk ?_
   refine q_cut ?_
   exact by_less
 unfold pwrongIns
 generalize regsN i.kind = n at cr ⊢
 generalize loI i.kind = lo
 generalize hiI i.kind m = hi
 by_cases hk0 : i.kind < 1
 ·
  rw [if_pos (.inl hk0)]
  try refine wk ?_
  exact .one (.tmp rfl (.one (.d (.refl _))))
 by_cases hk9 : 9 < i.kind
 ·
  rw [if_pos (.inr hk9)]
  try refine wk ?_
  exact .one (.tmp rfl (.one (.d (.refl _))))
 rw [if_neg (by omega)]
 have hst0 : StopA 11 := ⟨rfl⟩
 try refine wkS ?_
 clear hst0
 refine Stop.cutk [sd 43 (dbool (outI n lo hi i.a i.b i.n))] [.s 0,.s 4,.s 7,.o 0,.nx] ?_ ?_
 ·
  have T : (i.a < 0 ∨ 4 ≤ i.a ∨ (n < 1 ∧ i.a ≠ 0) ∨ i.b < 0 ∨ 4 ≤ i.b ∨ (n < 2 ∧ i.b ≠ 0) ∨ i.n < lo ∨ hi < i.n) → outI n lo hi i.a i.b i.n = true := fun h => decide_eq_true h
  have F : ¬ (i.a < 0 ∨ 4 ≤ i.a ∨ (n < 1 ∧ i.a ≠ 0) ∨ i.b < 0 ∨ 4 ≤ i.b ∨ (n < 2 ∧ i.b ≠ 0) ∨ i.n < lo ∨ hi < i.n) → outI n lo hi i.a i.b i.n = false := fun h => decide_eq_false h
  by_cases ha0 : i.a < 0
  ·
   rw [T (by omega)]
   try refine wk ?_
   refine q_cut ?_
   exact by_less
  by_cases ha4 : 4 ≤ i.a
  ·
   rw [T (by omega)]
   try refine wk ?_
   refine q_cut ?_
   exact by_less
  by_cases hn1 : n < 1
  ·
   by_cases ha : i.a = 0
   ·
    skip
    by_cases hb0 : i.b < 0
    ·
     rw [T (by omega)]
     try refine wk ?_
     refine q_cut ?_
     exact by_less
    by_cases hb4 : 4 ≤ i.b
    ·
     rw [T (by omega)]
     try refine wk ?_
     refine q_cut ?_
     exact by_less
    by_cases hn2 : n < 2
    ·
     by_cases hb : i.b = 0
     ·
      skip
      by_cases hx0 : i.n < lo
      ·
       rw [T (by omega)]
       try refine wk ?_
       refine q_cut ?_
       exact by_less
      by_cases hx1 : hi < i.n
      ·
       rw [T (by omega)]
       try refine wk ?_
       refine q_cut ?_
       exact by_less
      rw [F (by omega)]
      try refine wk ?_
      refine q_cut ?_
      exact by_less
     ·
      rw [T (by omega)]
      try refine wk ?_
      refine q_cut ?_
      exact by_less
    by_cases hx0 : i.n < lo
    ·
     rw [T (by omega)]
     try refine wk ?_
     refine q_cut ?_
     exact by_less
    by_cases hx1 : hi < i.n
    ·
     rw [T (by omega)]
     try refine wk ?_
     refine q_cut ?_
     exact by_less
    rw [F (by omega)]
    try refine wk ?_
    refine q_cut ?_
    exact by_less
   ·
    rw [T (by omega)]
    try refine wk ?_
    refine q_cut ?_
    exact by_less
  by_cases hb0 : i.b < 0
  ·
   rw [T (by omega)]
   try refine wk ?_
   refine q_cut ?_
   exact by_less
  by_cases hb4 : 4 ≤ i.b
  ·
   rw [T (by omega)]
   try refine wk ?_
   refine q_cut ?_
   exact by_less
  by_cases hn2 : n < 2
  ·
   by_cases hb : i.b = 0
   ·
    skip
    by_cases hx0 : i.n < lo
    ·
     rw [T (by omega)]
     try refine wk ?_
     refine q_cut ?_
     exact by_less
    by_cases hx1 : hi < i.n
    ·
     rw [T (by omega)]
     try refine wk ?_
     refine q_cut ?_
     exact by_less
    rw [F (by omega)]
    try refine wk ?_
    refine q_cut ?_
    exact by_less
   ·
    rw [T (by omega)]
    try refine wk ?_
    refine q_cut ?_
    exact by_less
  by_cases hx0 : i.n < lo
  ·
   rw [T (by omega)]
   try refine wk ?_
   refine q_cut ?_
   exact by_less
  by_cases hx1 : hi < i.n
  ·
   rw [T (by omega)]
   try refine wk ?_
   refine q_cut ?_
   exact by_less
  rw [F (by omega)]
  try refine wk ?_
  refine q_cut ?_
  exact by_less
 cases ho : outI n lo hi i.a i.b i.n with
 | true =>
  rw [if_pos rfl]
  try refine wk ?_
  exact .one (.tmp rfl (.one (.d (.refl _))))
 | false =>
  rw [if_neg (by simp)]
  by_cases hkey : i.key = []
  ·
   rw [if_neg (fun h => h.2 hkey)]
   by_cases h1 : i.kind = 1
   ·
    have hk1 : keyedB i.kind = true := decide_eq_true (.inl h1)
    rw [hk1]
    cases hin : isIn d.reads i.key with
    | false =>
     rw [if_pos (.inl ⟨h1,rfl⟩)]
     rw [hin] at c1
     repeat (first|refine wa ?_|((with_reducible apply s5);(first|exact a_call c1 rfl by_sub|((with_reducible apply a_nilpd);(iterate 2 exact rfl))|exact by_oa|exact by_ca);exact by_g)|refine wb ?_)
     exact .one (.tmp rfl (.one (.d (.refl _))))
    | true =>
     rw [if_neg (by simp [h1])]
     rw [hin] at c1
     repeat (first|refine wa ?_|((with_reducible apply s5);(first|exact a_call c1 rfl by_sub|((with_reducible apply a_nilpd);(iterate 2 exact rfl))|exact by_oa|exact by_ca);exact by_g)|refine wb ?_)
     exact .one (.tmp rfl (.one (.d (.refl _))))
   ·
    cases hkb : keyedB i.kind with
    | false =>
     rw [if_neg (by simp [h1])]
     try refine wk ?_
     exact .one (.tmp rfl (.one (.d (.refl _))))
    | true =>
     cases hin : isIn d.writes i.key with
     | false =>
      rw [if_pos (.inr ⟨rfl,h1,rfl⟩)]
      rw [hin] at c2
      repeat (first|refine wa ?_|((with_reducible apply s5);(first|exact a_call c2 rfl by_sub|((with_reducible apply a_nilpd);(iterate 2 exact rfl))|exact by_oa|exact by_ca);exact by_g)|refine wb ?_)
      exact .one (.tmp rfl (.one (.d (.refl _))))
     | true =>
      rw [if_neg (by simp [h1])]
      rw [hin] at c2
      repeat (first|refine wa ?_|((with_reducible apply s5);(first|exact a_call c2 rfl by_sub|((with_reducible apply a_nilpd);(iterate 2 exact rfl))|exact by_oa|exact by_ca);exact by_g)|refine wb ?_)
      exact .one (.tmp rfl (.one (.d (.refl _))))
  ·
   by_cases h1 : i.kind = 1
   ·
    have hk1 : keyedB i.kind = true := decide_eq_true (.inl h1)
    rw [hk1,if_neg (by simp)]
    cases hin : isIn d.reads i.key with
    | false =>
     rw [if_pos (.inl ⟨h1,rfl⟩)]
     rw [hin] at c1
     repeat (first|refine wa ?_|((with_reducible apply s5);(first|exact a_call c1 rfl by_sub|((with_reducible apply a_nilpd);(iterate 2 exact rfl))|exact by_oa|exact by_ca);exact by_g)|refine wb ?_)
     exact .one (.tmp rfl (.one (.d (.refl _))))
    | true =>
     rw [if_neg (by simp [h1])]
     rw [hin] at c1
     repeat (first|refine wa ?_|((with_reducible apply s5);(first|exact a_call c1 rfl by_sub|((with_reducible apply a_nilpd);(iterate 2 exact rfl))|exact by_oa|exact by_ca);exact by_g)|refine wb ?_)
     exact .one (.tmp rfl (.one (.d (.refl _))))
   ·
    cases hkb : keyedB i.kind with
    | false =>
     rw [if_pos ⟨rfl,hkey⟩]
     try refine wk ?_
     exact .one (.tmp rfl (.one (.d (.refl _))))
    | true =>
     rw [if_neg (by simp)]
     cases hin : isIn d.writes i.key with
     | false =>
      rw [if_pos (.inr ⟨rfl,h1,rfl⟩)]
      rw [hin] at c2
      repeat (first|refine wa ?_|((with_reducible apply s5);(first|exact a_call c2 rfl by_sub|((with_reducible apply a_nilpd);(iterate 2 exact rfl))|exact by_oa|exact by_ca);exact by_g)|refine wb ?_)
      exact .one (.tmp rfl (.one (.d (.refl _))))
     | true =>
      rw [if_neg (by simp [h1])]
      rw [hin] at c2
      repeat (first|refine wa ?_|((with_reducible apply s5);(first|exact a_call c2 rfl by_sub|((with_reducible apply a_nilpd);(iterate 2 exact rfl))|exact by_oa|exact by_ca);exact by_g)|refine wb ?_)
      exact .one (.tmp rfl (.one (.d (.refl _))))
theorem ok_dkeys (l : List Str) (hl : l.length ≤ 268435456) (hk : ∀ s ∈ l,s.length ≤ 1073741824) : FnOk Tryz.prog 94 [.d (encStrs l)] (.one (dint (keysWrong l))) := by
 refine fnOk_of tbl_ok mixed_ok Tryz.func94 rfl (by kernel_rfl) rfl rfl fun w0 own0 => ?_
 unfold keysWrong
 by_cases h4 : 5 < l.length
 ·
  rw [if_pos h4]
  try refine wk ?_
  exact .one (.tmp rfl (.one (.d (.refl _))))
 ·
  rw [if_neg h4]
  try refine wk ?_
  refine CW.loopT (fun t : Nat => [sd 0 (encStrs l),sd 2 (dint 0),sd 8 (encStrs l),sd 9 (dint l.length),sd 10 (dint t),nxt 0])
   (fun t => t ≤ l.length ∧ keysGo l t (l.drop t) = keysGo l 0 l) (fun t => l.length - t) 0 ⟨by omega,rfl⟩ ?_ ?_
  ·
   exact by_less
  ·
   rintro i ⟨hi,hJ⟩
   rcases drop_case hi with ⟨h5,h6⟩ | ⟨k,h5,h6,h7⟩
   ·
    rw [h5,keysGo] at hJ
    try refine wk ?_
    rw [← hJ]
    exact .one (.tmp rfl (.one (.d (.refl _))))
   ·
    rw [h5,keysGo] at hJ
    have hck := ok_pkey k (hk k (List.mem_of_getElem? h6))
    have hin : FnOk Tryz.prog 120 [.d (.sl 1 ((l.map encStr1).take i)),.d (dstr k)] (.one (dbool (isIn (l.take i) k))) := by
     rw [← List.map_take]
     exact ok_containsS (l.take i) k (by rw [List.length_take];omega)
    cases h8 : key k with
    | false =>
     rw [h8] at hck
     rw [if_pos h8] at hJ
     try refine wk ?_
     rw [← hJ]
     exact .one (.tmp rfl (.one (.d (.refl _))))
    | true =>
     rw [h8] at hck
     rw [if_neg (by simp [h8])] at hJ
     cases h9 : isIn (l.take i) k with
     | false =>
      rw [h9] at hin
      rw [if_neg (by simp [h9])] at hJ
      repeat (first|refine wa ?_|((with_reducible apply s5);(first|exact a_call hin rfl by_sub|exact by_oa|exact by_ca);exact by_g)|refine wb ?_)
      refine q_loopT (i + 1) ⟨by omega,hJ⟩ (by omega) ?_
      exact by_less
     | true =>
      rw [h9] at hin
      rw [if_pos h9] at hJ
      repeat (first|refine wa ?_|((with_reducible apply s5);(first|exact a_call hin rfl by_sub|exact by_oa|exact by_ca);exact by_g)|refine wb ?_)
      rw [← hJ]
      exact .one (.tmp rfl (.one (.d (.refl _))))
end Go.Proofs.YtmnociojijpdmaaGreatDoor
