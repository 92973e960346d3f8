/-
  Part 3 of what the claim leans on: P15 AxPin2 AxFam2 AxPin4 AxPin5 AxFnD AxMap Rn G1 G3 R2 P1 P4 P5 P16 P17 P18 P20 P3 R5 G15 P6 G5 G6 G17 P7 P9 P10 P11 P21 AxGen AxS2b Lg AxStr H1 P23 ShNum ShNum2 AxErr H6 ShTxt AxGen2 H9 H12 J1 ShTrim R3 G20 G21 J8.
-/
import Derived.Test.YtmnociojijpdmaaGreatDoorK2
import Derived.Lib.Split
import Derived.Lib.Join
import Derived.MapKept
import Derived.Lib.SlTrimSet
import Derived.RangeFuncNested
import Derived.RangeFuncLeaves
import Derived.Shelf.Abstract
import Derived.WalkKit
import Derived.OwnWalkIn
import Derived.TacticsInMore
import Derived.LoopNIn
import Derived.LoopIn
import Derived.Shelf.Strconv.AtoiAll
import Derived.Shelf.Strconv.Itoa3
import Derived.Test.YtmnociojijpdmaaGreatDoorProg
import Derived.Shelf.Strconv.ErrVarAll
import Derived.Shelf.Strings.Split
import Derived.Shelf.Small.Wraps
import Derived.Shelf.Strings.OnBuilder
import Derived.Shelf.Strings.SlTrimAscii
set_option linter.all false

namespace Go.Proofs.YtmnociojijpdmaaGreatDoor
open Go.AX Go.RF
def hdS (cur : Str) : List Str → List Str
 | [] => []
 | h :: t => (cur ++ h) :: t
def libS (sep r : Str) : List Str := Lib.splitK sep 0 (Lib.count r sep) r
theorem libS_miss {sep r : Str} (h : Lib.index r sep = -1) : libS sep r = [r] := by
 unfold libS
 rw [Lib.count_miss h]
 rfl
theorem libS_hit {sep r : Str} {i : Nat} (hs : sep ≠ []) (h : Lib.index r sep = i) : libS sep r = r.take i :: libS sep (r.drop (i + sep.length)) := by
 unfold libS
 rw [Lib.count_hit hs h,Nat.add_comm]
 simp only [Lib.splitK]
 have h1 : ¬ (Lib.index r sep == -1) = true := fun e => by have := beq_iff_eq.1 e;omega
 rw [if_neg h1,h,Int.toNat_natCast,Nat.add_zero]
theorem index_cons (b : UInt8) (l sub : Str) : Lib.index (b :: l) sub = if sub.isPrefixOf (b :: l) then 0 else if Lib.index l sub == -1 then -1 else Lib.index l sub + 1 := rfl
theorem prefix_take {sep r : Str} (h : sep.length ≤ r.length) : sep.isPrefixOf r = true ↔ r.take sep.length = sep := by
 rw [List.isPrefixOf_iff_prefix,List.prefix_iff_eq_take]
 exact ⟨fun h => h.symm,fun h => h.symm⟩
theorem splitF_lib {sep : Str} (hs : sep ≠ []) : ∀ (n : Nat) (cur r : Str),r.length ≤ n → splitF sep n cur r = hdS cur (libS sep r)
 | 0,cur,r,h => by
  obtain rfl := List.eq_nil_of_length_eq_zero (show r.length = 0 by omega)
  have : Lib.index [] sep = -1 := by
   cases sep with
   | nil => exact absurd rfl hs
   | cons => rfl
  rw [libS_miss this]
  rfl
 | n + 1,cur,r,h => by
  have hsl : 0 < sep.length := List.length_pos_iff.2 hs
  by_cases h1 : r.length < sep.length
  ·
   have hm : Lib.index r sep = -1 := by
    have h2 := Lib.index_ge r sep
    rcases Int.lt_or_le (Lib.index r sep) 0 with h3 | h3
    ·
     omega
    ·
     have := Lib.index_room r sep h3;omega
   rw [libS_miss hm]
   simp only [splitF]
   rw [if_pos h1]
   rfl
  ·
   match r,h,h1 with
   | [],_,h1 => exact absurd hsl (by simpa using h1)
   | c :: t,h,h1 =>
    simp only [splitF]
    rw [if_neg h1]
    by_cases h2 : (c :: t).take sep.length = sep
    ·
     rw [if_pos h2]
     have hi : Lib.index (c :: t) sep = ((0 : Nat) : Int) := by
      rw [index_cons,if_pos ((prefix_take (by omega)).2 h2)];rfl
     rw [libS_hit hs hi,splitF_lib hs n [] _ (by simp at h ⊢;omega),Nat.zero_add]
     simp only [List.take_zero,hdS,List.append_nil]
     cases libS sep ((c :: t).drop sep.length) with
     | nil => rfl
     | cons x y => rfl
    ·
     rw [if_neg h2]
     have hp : ¬ sep.isPrefixOf (c :: t) = true := fun e => h2 ((prefix_take (by omega)).1 e)
     have hx := index_cons c t sep
     rw [if_neg hp] at hx
     rw [splitF_lib hs n (cur ++ [c]) t (by simpa using h)]
     rcases Int.lt_or_le (Lib.index t sep) 0 with h3 | h3
     ·
      have h4 : Lib.index t sep = -1 := by have := Lib.index_ge t sep;omega
      rw [h4] at hx
      rw [libS_miss h4,libS_miss (by rw [hx];rfl)]
      simp [hdS]
     ·
      obtain ⟨i,hi⟩ := Int.eq_ofNat_of_zero_le h3
      rw [hi] at hx
      have hne : ¬ ((i : Int) == -1) = true := fun e => by have := beq_iff_eq.1 e;omega
      rw [if_neg hne] at hx
      rw [libS_hit hs hi,libS_hit hs (show Lib.index (c :: t) sep = ((i + 1 : Nat) : Int) by rw [hx];omega)]
      simp only [hdS,List.take_succ_cons,List.append_assoc,List.singleton_append]
      rw [show i + 1 + sep.length = (i + sep.length) + 1 by omega,List.drop_succ_cons]
theorem split_lib {s sep : Str} (hs : sep ≠ []) : split s sep = Lib.split s sep := by
 unfold split
 rw [splitF_lib hs s.length [] s (Nat.le_refl _)]
 show hdS [] (libS sep s) = libS sep s
 cases libS sep s with
 | nil => rfl
 | cons x y => rfl
theorem join_lib (sep : Str) : ∀ ws : List Str,Lib.join ws sep = joinS sep ws
 | [] => rfl
 | [w] => by simp [Lib.join,joinS,List.intercalate]
 | w :: x :: r => by
  have := join_lib sep (x :: r)
  unfold Lib.join at this ⊢
  simp only [joinS]
  rw [← this]
  simp [List.intercalate,List.intersperse]
end Go.Proofs.YtmnociojijpdmaaGreatDoor
namespace Go.AX
open Go.RowKit
variable {cx : Cx} {g : Nat → Value} {σ σ' : St} {a : Act} {w w' : World} {nx : Nat} {c : Code} {Q : Exit → St → Prop}
variable {ty : TypeId} {pos : String} {af : Array Edge} {gd : Option (Nat × Bool)} {d : Nat}
theorem SimG.reob (hs : SimG cx σ a w g nx) {id : Nat} {o o' : Ob} (ho : get σ (.o id) = .ob o) (hle : ObLe g g id o o') (hr : ObOk cx g σ w id o') (hb : o'.bd nx) :
  SimG cx ((.o id,.ob o') :: σ) a w g nx := by
 have hback : ∀ j o1,get ((.o id,.ob o') :: σ) (.o j) = .ob o1 → ∃ o0,get σ (.o j) = .ob o0 ∧ ObLe g g j o0 o1 := by
  intro j o1 hj
  by_cases he : id = j
  ·
   subst he
   rw [get_cons_same] at hj
   cases hj
   exact ⟨_,ho,hle⟩
  ·
   rw [get_cons_ne (by simpa using he)] at hj
   exact ⟨o1,hj,by cases o1 <;> simp [ObLe]⟩
 have hl : Later cx g g σ ((.o id,.ob o') :: σ) w w nx := by
  refine ⟨Ext.refl _ _,Below.refl _ _,fun b hb => ?_,fun j o1 _ h => hback j o1 h⟩
  rcases hb with hb | ⟨j,o1,h1,h2⟩
  ·
   exact .inl (.inl hb)
  ·
   obtain ⟨o0,h3,_⟩ := hback j o1 h1
   exact .inl (.inr ⟨j,o0,h3,h2⟩)
 refine hs.next hl ((get_cons_ne (by simp)).trans hs.hnx) (Nat.le_refl _) hs.size hs.defers (Below.refl _ _) (fun i av hi => .inl ⟨(get_cons_ne (by simp)).symm.trans hi,rfl⟩) (fun j o1 hj => ?_) (fun j j' o1 o2 b h1 h2 => ?_)
 ·
  by_cases he : id = j
  ·
   subst he
   rw [get_cons_same] at hj
   cases hj
   exact .inr ⟨(hs.objs id _ ho).1,hr.step hl rfl (fun _ _ => rfl) hb,hb⟩
  ·
   rw [get_cons_ne (by simpa using he)] at hj
   exact .inl ⟨hj,rfl,fun _ _ => rfl⟩
 ·
  obtain ⟨o3,h3,_⟩ := hback j o1 h1
  obtain ⟨o4,h4,_⟩ := hback j' o2 h2
  exact hs.sep j j' o3 o4 b h3 h4
theorem CW.pin (i id n e k : Nat) (rows : List (List D)) (hi : get σ (.s i) = .av (.own id n)) (ho : get σ (.o id) = .ob (.arr e k rows)) (hn : n = rows.length)
  (h : ∀ x,CW cx c Q ((.s i,.av (.d (.v x))) :: (.o id,.ob (.pin e k rows x)) :: σ)) : CW cx c Q σ := by
 rintro a w ⟨g,nx,hs⟩
 have hv : a.tmps.getD i undef = g id := ((hs.slots i _ hi).1.2 e k rows ho).2 hn
 have hG := hs.reob ho (o' := .pin e k rows (g id)) trivial ⟨rfl,(hs.objs id _ ho).2.1⟩ trivial
 refine h (g id) a w (Sim.retell hG (av := .d (.v (g id))) ?_ trivial)
 rw [hv];exact Rd.v _
def SW (cx : Cx) (ops : Array Oper) (Q : Exit → St → Prop) (l : List Oper) (σ : St) : Prop :=
 ∀ a w,Sim cx σ a w → wpList cx.P ops (fun e a' w' => ∃ σ',Sim cx σ' a' w' ∧ Q e σ') l a w
variable {ops : Array Oper} {rest : List Oper} {o : Oper}
theorem SW.rw (h : RW cx ops (fun _ σ' => Q .normal σ') [] rest σ) : SW cx ops Q rest σ := by
 obtain ⟨ts,σ',h1,h2⟩ := h
 exact fun a w hs => wpList_of_steps h1 hs fun a' w' hs' => ⟨σ',hs',h2⟩
theorem SW.step {t : Tr} (hg : o.guard = none) (ho : OA cx σ o t) (h : SW cx ops Q rest (t.wr ++ σ)) : SW cx ops Q (o :: rest) σ := fun a w hs =>
 wpList_plain hg fun K hK => ho.1 σ a w K _ hs ho.2 fun a' w' hs' => hK a' w' (h a' w' hs')
inductive View (σ : St) (id e k : Nat) (rows : List (List D)) : D → List (Key × Val) → Prop
 | plain (h : get σ (.o id) = .ob (.arr e k rows)) : View σ id e k rows (.sl k rows) [(.o id,.ob (.arr e k rows))]
 | pin {i j id2 e2 k2 : Nat} {r : List D} {x : Value} {rows2 : List (List D)} (h : get σ (.o id) = .ob (.arr e k rows)) (hi : rows[i]? = some r) (hj : r[j]? = some (.v x))
   (h2 : get σ (.o id2) = .ob (.pin e2 k2 rows2 x)) : View σ id e k rows (.sl k (rows.set i (r.set j (.sl k2 rows2)))) [(.o id,.ob (.arr e k rows)),(.o id2,.ob (.pin e2 k2 rows2 x))]
def plainR : Res → Bool
 | .one (.v _) => true
 | .tup l => l.all fun x => match x with
  | .v _ => true
  | _ => false
 | _ => false
theorem rd_plain {own own' : Nat → Prop} {v x : Value} (h : Rd w own v (.v x)) : Rd w own' v (.v x) := by
 rw [rd_v h];exact Rd.v _
theorem plainR_ok {r : Res} (h : plainR r = true) {own own' : Nat → Prop} {v : Value} (hr : ResOk w own v r) : ResOk w own' v r := by
 cases r with
 | one x =>
  cases x with
  | v x => exact rd_plain hr
  | x p => cases h
  | sl k rows => cases h
  | agg c => cases h
 | tup xs =>
  obtain ⟨vs,rfl,h1,h2⟩ := hr
  refine ⟨vs,rfl,h1,fun j c x hx hc => ?_⟩
  have h3 := List.all_eq_true.1 h x (List.mem_of_getElem? hx)
  cases x with
  | v x => exact rd_plain (h2 j c _ hx hc)
  | x p => cases h3
  | sl k rows => cases h3
  | agg c => cases h3
theorem ArgsOk.less {own own' : Nat → Prop} (ho : ∀ b,own' b → own b) : ∀ {vs : List Value} {xs : List Arg},ArgsOk w own vs xs → ArgsOk w own' vs xs
 | [],[],_ => trivial
 | v :: vs,x :: xs,h => by
  refine ⟨?_,ArgsOk.less ho h.2⟩
  cases x with
  | d y => exact Rd.less ho h.1
  | pd cells =>
   obtain ⟨ad,h1,h2,h3⟩ := h.1
   exact ⟨ad,h1,h2,fun j z hz => by obtain ⟨u,h4,h5,h6⟩ := h3 j z hz;exact ⟨u,h4,h5,h6.less ho⟩⟩
theorem a_lend {f : FuncId} {x : Operand} {xs : List Operand} {avs : List AV} {ys : List Arg} {l lv : List (Key × Val)} {r : Res} {ats : Array TypeId} {id n e k : Nat} {rows : List (List D)} {dd : D}
  (hc : FnOk cx.P f (.d dd :: ys) r) (hx : ev σ x = some (.own id n)) (hv : View σ id e k rows dd lv) (hn : n = rows.length) (hp : plainR r = true) (hd : Nat.blt d cx.n = true) (hsub : SubsE σ xs avs ys l) :
  OA cx σ ⟨some d,.call { callee := .value (.func f),args := ⟨x :: xs⟩,argTypes := ats },ty,pos,af,gd⟩ ⟨rdOf x (.own id n) ++ (l ++ lv),[(.s d,.av r.av)]⟩ := by
 refine ⟨?_,(ev_out hx).2.append (hsub.out.2.append ?_)⟩
 ·
  rintro σ1 a w K Q ⟨g,nx,hs⟩ hr hK
  have hxv := hs.ev (ev_out hx).1 hr.left
  have hargs := hsub.out.1.ok hs hr.right.left
  have hlv := hr.right.right
  -- the first argument,read by whoever keeps all but that
  have key : ∃ own' : Nat → Prop,(∀ b,own' b → cx.own g σ1 b) ∧ Rd w own' (a.eval x) dd := by
   cases hv with
   | plain h =>
    have ho : get σ1 (.o id) = .ob (.arr e k rows) := hlv.1
    have hval : a.eval x = g id := (hxv.1.2 e k rows ho).2 hn
    refine ⟨fun b => cx.own g σ1 b ∧ blk (g id) ≠ some b,fun b hb => hb.1,?_⟩
    rw [hval]
    exact (objRows hs ho).rd fun b hb => hb
   | @pin i j id2 e2 k2 r x0 rows2 h hi hj h2 =>
    have ho : get σ1 (.o id) = .ob (.arr e k rows) := hlv.1
    have ho2 : get σ1 (.o id2) = .ob (.pin e2 k2 rows2 x0) := hlv.2.1
    have hval : a.eval x = g id := (hxv.1.2 e k rows ho).2 hn
    obtain ⟨_,⟨hgx,hp2⟩,_⟩ := hs.objs id2 _ ho2
    have hp2' : RowsAt w cx.w0.heap.size (cx.own g σ1) e2 k2 (g id2) rows2 := hp2
    rw [hgx] at hp2'
    refine ⟨fun b => (cx.own g σ1 b ∧ blk x0 ≠ some b) ∧ blk (g id) ≠ some b,fun b hb => hb.1.1,?_⟩
    rw [hval]
    have h3 : RowsAt w cx.w0.heap.size (fun b => cx.own g σ1 b ∧ blk x0 ≠ some b) e k (g id) rows := (objRows hs ho).re (fun b hb => ((objRows hs ho).lt hb).1) fun b hb => hb.1
    exact (h3.at hi hj (hp2'.rd fun b hb => hb)).rd fun b hb => hb
  obtain ⟨own',hsub',hrd⟩ := key
  have hcall := hc.calls w own' (a.eval x :: xs.map a.eval) ⟨fun b hb => own_lt hs (hsub' b hb),hs.gl⟩ ⟨hrd,hargs.less hsub'⟩
  unfold Oper.wp
  rw [call_run hc.run]
  refine hcall.mono fun z w' he => ?_
  obtain ⟨v,rfl,hb,hres⟩ := he
  obtain ⟨h1,h2⟩ := Res.rep (nx := nx) (plainR_ok hp (own' := cx.own g σ1) hres)
  exact hK _ _ (Sim.put hs (lt_of_blt hd) hb h1 h2)
 ·
  cases hv with
  | plain h => exact ⟨h,trivial⟩
  | pin h hi hj h2 => exact ⟨h,h2,trivial⟩
end Go.AX
namespace Go.AX
open Go.RowKit
variable {cx : Cx} {σ σ' : St} {a a' : Act} {w w' : World} {ops : Array Oper} {Q : Exit → St → Prop}
variable {ty : TypeId} {pos : String} {af : Array Edge} {gd : Option (Nat × Bool)} {d nx : Nat} {g : Nat → Value}
theorem Run.append : ∀ {t1 t2 : List Tr} {σ : St},Run t1 σ → Run t2 (fin t1 σ) → Run (t1 ++ t2) σ ∧ fin (t1 ++ t2) σ = fin t2 (fin t1 σ)
 | [],t2,σ,_,h => ⟨h,rfl⟩
 | t :: t1,t2,σ,h1,h2 => by
  obtain ⟨h3,h4⟩ := Run.append h1.2 h2
  exact ⟨⟨h1.1,h3⟩,h4⟩
end Go.AX
namespace Go.AX
open Go.RowKit
variable {cx : Cx} {g : Nat → Value} {σ σ' : St} {a : Act} {w w' : World} {nx : Nat} {c : Code} {Q : Exit → St → Prop}
variable {ty : TypeId} {pos : String} {af : Array Edge} {gd : Option (Nat × Bool)} {d : Nat}
variable {ops : Array Oper} {rest : List Oper} {o : Oper}
theorem SW.s1 {rd wr : List (Key × Val)} (ha : autA cx σ o = some ⟨rd,wr⟩) (h : SW cx ops Q rest (wr ++ σ)) : SW cx ops Q (o :: rest) σ := by
 obtain ⟨dst,op,ty,pos,af,gd⟩ := o
 cases gd with
 | some p => cases ha
 | none =>
  simp only [autA] at ha
  split at ha
  ·
   next hd =>
   obtain ⟨h1,h2⟩ := trA_ok (cx := cx) (ty := ty) (pos := pos) (af := af) (gd := none) hd ha
   exact SW.step rfl ⟨h1,h2⟩ h
  ·
   cases ha
theorem SW.s5 {rd wr : List (Key × Val)} (ho : OA cx σ o ⟨rd,wr⟩) (hg : o.guard = none) (h : SW cx ops Q rest (wr ++ σ)) : SW cx ops Q (o :: rest) σ := SW.step hg ho h
theorem SW.nil (h : Q .normal σ) : SW cx ops Q [] σ := fun a w hs => wpList_nil ⟨σ,hs,h⟩
theorem SW.stut {t : Tr} {l : List Oper} (hs : Stut cx t) (ha : App σ t.rd) (h : SW cx ops Q l (t.wr ++ σ)) : SW cx ops Q l σ := fun a w hsim => h a w (hs σ a w hsim ha)
end Go.AX
namespace Go.AX
open Go.RowKit
variable {cx : Cx} {g : Nat → Value} {σ σ' : St} {a : Act} {w w' : World} {nx : Nat} {c : Code} {Q : Exit → St → Prop}
variable {ty : TypeId} {pos : String} {af : Array Edge} {gd : Option (Nat × Bool)} {d : Nat}
theorem SimG.drop (hG : SimG cx σ a w g nx) (id : Nat) : SimG cx ((.o id,.none) :: σ) a w g nx := by
 have hl := Less.drop ⟨g,nx,hG⟩ id
 have hlat : Later cx g g σ ((.o id,.none) :: σ) w w nx := by
  refine ⟨Ext.refl _ _,Below.refl _ _,fun b hb => ?_,fun j o' _ h => ⟨o',hl.o _ _ h,?_⟩⟩
  ·
   rcases hb with hb | ⟨j,o,h5,h6⟩
   ·
    exact .inl (.inl hb)
   ·
    exact .inl (.inr ⟨j,o,hl.o _ _ h5,h6⟩)
  ·
   cases o' <;> simp [ObLe]
 exact hG.next hlat ((get_cons_ne (by simp)).trans hG.hnx) (Nat.le_refl _) hG.size hG.defers (Below.refl _ _) (fun j av hj => .inl ⟨hl.s _ _ hj,rfl⟩) (fun j o hj => .inl ⟨hl.o _ _ hj,rfl,fun _ _ => rfl⟩)
  (fun j j' o o' b h1 h2 => hG.sep j j' o o' b (hl.o _ _ h1) (hl.o _ _ h2))
end Go.AX
namespace Go.AX
open Go.RowKit
variable {cx : Cx} {g : Nat → Value} {σ σ' : St} {a : Act} {w w' : World} {nx : Nat}
variable {ty : TypeId} {pos : String} {af : Array Edge} {gd : Option (Nat × Bool)} {d : Nat}
def refP (ds : List D) (w : World) (own : Nat → Prop) (v : Value) : Prop := ∃ ad : Addr,v = .pointer (some ad) ∧ ¬ own ad.block ∧ ad.block < w.heap.size ∧ RdCells w own ad ds
def refD (ds : List D) : D := .x (refP ds)
def mapP (M : List (List UInt8 × Value)) (w : World) (own : Nat → Prop) (v : Value) : Prop := ∃ b es clock,v = .map (some b) ∧ ¬ own b ∧ b < w.heap.size ∧ w.heap[b]? = some (.map es clock) ∧ MapIs es M
def mapD (M : List (List UInt8 × Value)) : D := .x (mapP M)
theorem rd_x {own : Nat → Prop} {v : Value} {p : World → (Nat → Prop) → Value → Prop} (h : Rd w own v (.x p)) : p w own v := by
 generalize hD : D.x p = D0 at h
 cases h with
 | v => cases hD
 | sl => cases hD
 | agg => cases hD
 | nil => cases hD
 | x p v h1 hst hp => cases hD;exact hp
inductive Caps : List D → List Arg → Prop
 | nil : Caps [] []
 | ref {cs ds : List D} {zs : List Arg} (h : Caps ds zs) : Caps (refD cs :: ds) (.pd cs :: zs)
 | d {x : D} {ds : List D} {zs : List Arg} (h : Caps ds zs) : Caps (x :: ds) (.d x :: zs)
theorem Caps.ok {own : Nat → Prop} {ds : List D} {zs : List Arg} (h : Caps ds zs) : ∀ {vs : List Value},vs.length = ds.length → (∀ (j : Nat) (x : D) (c : Value),ds[j]? = some x → vs[j]? = some c → Rd w own c x) → ArgsOk w own vs zs := by
 induction h with
 | nil =>
  intro vs hl _
  obtain rfl : vs = [] := List.eq_nil_of_length_eq_zero hl
  trivial
 | @ref cs ds zs h ih =>
  intro vs hl hr
  cases vs with
  | nil => simp at hl
  | cons v vs =>
   obtain ⟨ad,h1,_,h2,h3⟩ := rd_x (hr 0 _ v rfl rfl)
   exact ⟨⟨ad,h1,h2,h3⟩,ih (by simpa using hl) fun j x c hj hc => hr (j + 1) x c (by simpa using hj) (by simpa using hc)⟩
 | @d x ds zs h ih =>
  intro vs hl hr
  cases vs with
  | nil => simp at hl
  | cons v vs => exact ⟨hr 0 _ v rfl rfl,ih (by simpa using hl) fun j x c hj hc => hr (j + 1) x c (by simpa using hj) (by simpa using hc)⟩
inductive CapsM (x0 : Value) (M : List (List UInt8 × Value)) : List D → List Arg → Prop
 | nil : CapsM x0 M [] []
 | map {ds : List D} {zs : List Arg} (h : CapsM x0 M ds zs) : CapsM x0 M (refD [.v x0] :: ds) (.pd [mapD M] :: zs)
 | ref {cs ds : List D} {zs : List Arg} (h : CapsM x0 M ds zs) : CapsM x0 M (refD cs :: ds) (.pd cs :: zs)
theorem CapsM.ok {own own' : Nat → Prop} {x0 : Value} {M : List (List UInt8 × Value)} (ho : ∀ b,own' b → own b) (hm : Rd w own' x0 (mapD M)) {ds : List D} {zs : List Arg} (h : CapsM x0 M ds zs) :
  ∀ {vs : List Value},vs.length = ds.length → (∀ (j : Nat) (x : D) (c : Value),ds[j]? = some x → vs[j]? = some c → Rd w own c x) → ArgsOk w own' vs zs := by
 induction h with
 | nil =>
  intro vs hl _
  obtain rfl : vs = [] := List.eq_nil_of_length_eq_zero hl
  trivial
 | @map ds zs h ih =>
  intro vs hl hr
  cases vs with
  | nil => simp at hl
  | cons v vs =>
   obtain ⟨ad,h1,_,h2,h3⟩ := rd_x (hr 0 _ v rfl rfl)
   refine ⟨⟨ad,h1,h2,fun j z hz => ?_⟩,ih (by simpa using hl) fun j x c hj hc => hr (j + 1) x c (by simpa using hj) (by simpa using hc)⟩
   cases j with
   | zero =>
    simp at hz;subst hz
    obtain ⟨u,h4,h5,h6⟩ := h3 0 _ rfl
    rw [rd_v h6] at h4 h5
    exact ⟨x0,h4,h5,hm⟩
   | succ j => simp at hz
 | @ref cs ds zs h ih =>
  intro vs hl hr
  cases vs with
  | nil => simp at hl
  | cons v vs =>
   obtain ⟨ad,h1,_,h2,h3⟩ := rd_x (hr 0 _ v rfl rfl)
   exact ⟨⟨ad,h1,h2,fun j z hz => by obtain ⟨u,h4,h5,h6⟩ := h3 j z hz;exact ⟨u,h4,h5,h6.less ho⟩⟩,ih (by simpa using hl) fun j x c hj hc => hr (j + 1) x c (by simpa using hj) (by simpa using hc)⟩
end Go.AX
namespace Go.AX
open Go.RowKit
variable {cx : Cx} {g : Nat → Value} {σ σ' : St} {a : Act} {w w' : World} {nx : Nat}
variable {ty : TypeId} {pos : String} {af : Array Edge} {gd : Option (Nat × Bool)} {d : Nat}
structure MapTy (cx : Cx) (t te : TypeId) (zv : Value) : Prop where
 u : ∃ tk,cx.P.underlying t = some (.map tk te) ∧ cx.P.underlying tk = some .string
 z : ∀ w,(zeroValue te).run cx.P w = .ok zv w
theorem MapTy.st {t te : TypeId} {ti : TI} (hu : ∃ tk,cx.P.underlying t = some (.map tk te) ∧ cx.P.underlying tk = some .string) (he : tget cx.T te = some ti) (h2 : ti.zero.length ≠ 1) : MapTy cx t te (.agg ti.zero.toArray) := by
 refine ⟨hu,fun w => ?_⟩
 obtain ⟨i,hi,_,_,z,hz,hc⟩ := (cx.hT te ti he).info
 have hag : z = .agg ti.zero.toArray := by
  cases z with
  | agg cs =>
   have : cs.toList = ti.zero := hc
   rw [← this]
  | _ => exact absurd (by rw [← hc];rfl) h2
 subst hag
 simp [zeroValue,typeInfo,hi,hz]
end Go.AX
namespace Go.RF
open Go.AX
abbrev Mk := List (Str × (Bool × Int))
def mG : Mk → Str → Option (Bool × Int)
 | [],_ => none
 | (s,c) :: r,k => if s = k then some c else mG r k
def mS : Mk → Str → Bool × Int → Mk
 | [],k,c => [(k,c)]
 | (s,u) :: r,k,c => if s = k then (s,c) :: r else (s,u) :: mS r k c
theorem mG_mS (m : Mk) (k k' : Str) (c : Bool × Int) : mG (mS m k c) k' = if k = k' then some c else mG m k' := by
 induction m with
 | nil => simp [mS,mG]
 | cons p m ih =>
  obtain ⟨s,u⟩ := p
  simp only [mS]
  by_cases hs : s = k
  ·
   rw [if_pos hs]
   simp only [mG]
   by_cases h : k = k'
   ·
    simp [hs,h]
   ·
    rw [if_neg (by rw [hs];exact h),if_neg h,if_neg (by rw [hs];exact h)]
  ·
   rw [if_neg hs]
   simp only [mG,ih]
   by_cases h : s = k'
   ·
    rw [if_pos h,if_neg (fun e => hs (by rw [h,e])),if_pos h]
   ·
    rw [if_neg h,if_neg h]
def seeM (view : Str → Int × Bool) (m : Mk) (k : Str) : Int := match mG m k with
 | some c => c.2
 | none => (view k).1
def runGo (view : Str → Int × Bool) : Int → Mk → Done → List Ins → Mk × Done
 | _,m,e,[] => (m,e)
 | sk,m,e,i :: r =>
  if 0 < sk then runGo view (sk - 1) m e r
  else if i.kind = 1 then runGo view sk m (rset e i.a.toNat (seeM view m i.key)) r
  else if i.kind = 2 then runGo view sk m (rset e i.a.toNat i.n) r
  else if i.kind = 3 then runGo view sk m (rset e i.a.toNat (round (rget e i.a.toNat + rget e i.b.toNat))) r
  else if i.kind = 4 then runGo view sk m (rset e i.a.toNat (round (rget e i.a.toNat - rget e i.b.toNat))) r
  else if i.kind = 5 then runGo view sk m (rset e i.a.toNat (round (rget e i.a.toNat * rget e i.b.toNat))) r
  else if i.kind = 6 then runGo view sk (mS m i.key (true,rget e i.a.toNat)) e r
  else if i.kind = 7 then runGo view sk (mS m i.key (false,0)) e r
  else if i.kind = 8 then runGo view (if rget e i.a.toNat < 1 then i.n else sk) m e r
  else if rget e i.a.toNat < 0 then (m,bustE e) else runGo view sk m e r
def chg (m : Mk) : List Str → List (Str × (Bool × Int))
 | [] => []
 | k :: r => match mG m k with
  | some c => (k,c) :: chg m r
  | none => chg m r
def runM (view : Str → Int × Bool) (d : Deed) : Mk × Done := runGo view 0 [] done0 d.code
def runC (view : Str → Int × Bool) (d : Deed) : List (Str × (Bool × Int)) := if (runM view d).2.failed = true then [] else chg (runM view d).1 d.writes
end Go.RF
namespace Go.Proofs.YtmnociojijpdmaaGreatDoor
open Go.AX Go.RF
set_option maxRecDepth 100000
set_option maxHeartbeats 4000000
theorem new_clone_str (rows : List (List D)) (hl : rows.length ≤ 536870912) : FnNew Tryz.prog 101 [.d (.sl 1 rows)] 9 1 rows := by
 refine fnNew_of tbl_ok mixed_ok Tryz.func101 rfl (by kernel_rfl) rfl rfl fun w0 own0 => ?_
 cases rows with
 | nil =>
  refine CW.empty 0 rfl fun p cp => ?_
  cases p with
  | none =>
   try refine wk ?_
   exact RetNew.nil rfl rfl
  | some ad =>
   have hst0 : StopR 3 := ⟨rfl⟩
   try refine wkS ?_
   clear hst0
   refine Stop.go (CW.stut (stut_nilv (i := 0) (k := 1)) ⟨rfl,trivial⟩ ?_)
   try refine wk ?_
   exact RetNew.own rfl rfl rfl
 | cons r rows =>
  have hl2 : rows.length ≤ 536870911 := by simp at hl;omega
  try refine wk ?_
  exact RetNew.own rfl rfl (by simp)
theorem ok_clone_str (rows : List (List D)) (hl : rows.length ≤ 536870912) : FnOk Tryz.prog 101 [.d (.sl 1 rows)] (.one (.sl 1 rows)) := (new_clone_str rows hl).ok
theorem new_clone_ins (rows : List (List D)) (hl : rows.length ≤ 536870912) : FnNew Tryz.prog 102 [.d (.sl 5 rows)] 118 5 rows := by
 refine fnNew_of tbl_ok mixed_ok Tryz.func102 rfl (by kernel_rfl) rfl rfl fun w0 own0 => ?_
 cases rows with
 | nil =>
  refine CW.empty 0 rfl fun p cp => ?_
  cases p with
  | none =>
   try refine wk ?_
   exact RetNew.nil rfl rfl
  | some ad =>
   have hst0 : StopR 3 := ⟨rfl⟩
   try refine wkS ?_
   clear hst0
   refine Stop.go (CW.stut (stut_nilv (i := 0) (k := 5)) ⟨rfl,trivial⟩ ?_)
   try refine wk ?_
   exact RetNew.own rfl rfl rfl
 | cons r rows =>
  have hl2 : rows.length ≤ 536870911 := by simp at hl;omega
  try refine wk ?_
  exact RetNew.own rfl rfl (by simp)
theorem ok_clone_ins (rows : List (List D)) (hl : rows.length ≤ 536870912) : FnOk Tryz.prog 102 [.d (.sl 5 rows)] (.one (.sl 5 rows)) := (new_clone_ins rows hl).ok
theorem ok_deedOwn (d : Deed) (hs : d.Sm) : FnOk Tryz.prog 65 [.d (.agg d.enc)] (.one (.agg d.enc)) := by
 refine fnOk_of tbl_ok mixed_ok Tryz.func65 rfl (by kernel_rfl) rfl rfl fun w0 own0 => ?_
 have h1 := hs.r
 have h2 := hs.w
 have h3 := hs.c
 have c1 := ok_clone_str (d.reads.map encStr1) (by simp;omega)
 have c2 := ok_clone_str (d.writes.map encStr1) (by simp;omega)
 have c3 := ok_clone_ins (d.code.map Ins.enc) (by simp;omega)
 repeat (first|refine wa ?_|((with_reducible apply s5);(first|exact a_call c1 rfl by_sub|exact a_call c2 rfl by_sub|exact by_oa|exact by_ca);exact by_g)|refine wb ?_)
 exact .one (.cell rfl rfl rfl rfl (.aggd (ds := d.enc) rfl (.refl _)))
end Go.Proofs.YtmnociojijpdmaaGreatDoor
namespace Go.Proofs.YtmnociojijpdmaaGreatDoor
open Go.AX Go.RF Go.RowKit
set_option maxRecDepth 100000
set_option maxHeartbeats 8000000
def putS (k : Str) (n : Int) : List Pair → List Pair
 | [] => [⟨k,n⟩]
 | p :: r => if p.key = k then ⟨k,n⟩ :: r else if slt p.key k = true then p :: putS k n r else ⟨k,n⟩ :: p :: r
def dropS (k : Str) : List Pair → List Pair
 | [] => []
 | p :: r => if p.key = k then r else p :: dropS k r
theorem dropS_none {k : Str} : ∀ {l : List Pair},(∀ p ∈ l,p.key ≠ k) → dropS k l = l
 | [],_ => rfl
 | d :: l,h => by
  simp only [dropS]
  rw [if_neg (h d (List.mem_cons_self ..)),dropS_none fun p hp => h p (List.mem_cons_of_mem _ hp)]
theorem putGo_done {k : Str} {n : Int} {h : Bool} : ∀ {l out : List Pair},(∀ p ∈ l,p.key ≠ k) → putGo k n h true out l = out ++ l
 | [],out,_ => by simp [putGo]
 | p :: l,out,hl => by
  simp only [putGo]
  rw [if_neg (hl p (List.mem_cons_self ..))]
  simp only [Bool.true_or,Bool.not_true,Bool.false_and,Bool.false_eq_true,if_false]
  rw [putGo_done fun q hq => hl q (List.mem_cons_of_mem _ hq)]
  simp
theorem putGo_srt {k : Str} {n : Int} {h : Bool} : ∀ {l out : List Pair},Srt Pair.key l → putGo k n h false out l = out ++ (if h = true then putS k n l else dropS k l)
 | [],out,_ => by cases h <;> simp [putGo,putS,dropS]
 | p :: l,out,hs => by
  obtain ⟨h1,h2⟩ := List.pairwise_cons.1 hs
  cases hl : slt p.key k with
  | true =>
   have hk : p.key ≠ k := slt_ne hl
   simp only [putGo,hl]
   rw [if_neg hk]
   simp only [Bool.not_true,Bool.or_false,Bool.not_false,Bool.and_false,Bool.false_and,Bool.false_eq_true,if_false]
   rw [putGo_srt h2]
   cases h <;> simp [putS,dropS,hk,hl]
  | false =>
   have hne : ∀ q ∈ l,q.key ≠ k := fun q hq e => by
    have h3 := h1 q hq
    rw [e] at h3
    rw [h3] at hl;cases hl
   simp only [putGo,hl]
   simp only [Bool.not_false,Bool.or_true,Bool.true_and,Bool.and_true]
   rw [putGo_done hne]
   by_cases hk : p.key = k
   ·
    cases h <;> simp [putS,dropS,hk]
   ·
    cases h <;> simp [putS,dropS,hk,hl,dropS_none hne]
theorem put_true {l : List Pair} (hs : Srt Pair.key l) (k : Str) (n : Int) : put l k n true = putS k n l := by
 unfold put;rw [putGo_srt hs];rfl
theorem put_false {l : List Pair} (hs : Srt Pair.key l) (k : Str) (n : Int) : put l k n false = dropS k l := by
 unfold put;rw [putGo_srt hs];rfl
theorem putS_mem {k : Str} {n : Int} : ∀ {l : List Pair} {p : Pair},p ∈ putS k n l → p ∈ l ∨ p = ⟨k,n⟩
 | [],p,h => by simp [putS] at h;exact .inr h
 | q :: l,p,h => by
  simp only [putS] at h
  split at h
  ·
   rcases List.mem_cons.1 h with h | h
   ·
    exact .inr h
   ·
    exact .inl (List.mem_cons_of_mem _ h)
  ·
   split at h
   ·
    rcases List.mem_cons.1 h with h | h
    ·
     exact .inl (h ▸ List.mem_cons_self ..)
    ·
     rcases putS_mem h with h | h
     ·
      exact .inl (List.mem_cons_of_mem _ h)
     ·
      exact .inr h
   ·
    rcases List.mem_cons.1 h with h | h
    ·
     exact .inr h
    ·
     exact .inl h
theorem dropS_sub {k : Str} : ∀ l : List Pair,(dropS k l).Sublist l
 | [] => List.Sublist.slnil
 | p :: l => by
  simp only [dropS]
  split
  ·
   exact List.sublist_cons_self ..
  ·
   exact (dropS_sub l).cons_cons _
theorem putS_srt {k : Str} {n : Int} : ∀ {l : List Pair},Srt Pair.key l → Srt Pair.key (putS k n l)
 | [],_ => List.pairwise_singleton ..
 | c :: l,hs => by
  obtain ⟨h1,h2⟩ := List.pairwise_cons.1 hs
  simp only [putS]
  by_cases hk : c.key = k
  ·
   rw [if_pos hk]
   exact List.pairwise_cons.2 ⟨fun d hd => by show slt k d.key = true;rw [← hk];exact h1 d hd,h2⟩
  ·
   rw [if_neg hk]
   split
   ·
    next h3 =>
    refine List.pairwise_cons.2 ⟨fun d hd => ?_,putS_srt h2⟩
    rcases putS_mem hd with h | rfl
    ·
     exact h1 d h
    ·
     exact h3
   ·
    next h3 =>
    have h4 : slt k c.key = true := by
     rcases slt_tri c.key k with h | h | h
     ·
      exact absurd h h3
     ·
      exact absurd h hk
     ·
      exact h
    refine List.pairwise_cons.2 ⟨fun d hd => ?_,hs⟩
    rcases List.mem_cons.1 hd with rfl | hd
    ·
     exact h4
    ·
     exact slt_trans h4 (h1 d hd)
theorem dropS_srt {k : Str} {l : List Pair} (hs : Srt Pair.key l) : Srt Pair.key (dropS k l) := hs.sublist (dropS_sub l)
end Go.Proofs.YtmnociojijpdmaaGreatDoor
namespace Go.Proofs.YtmnociojijpdmaaGreatDoor
open Go.AX Go.RF
def VSrt (l : List Version) : Prop := l.Pairwise fun a b => a.by_ < b.by_
theorem VSrt.cons {v : Version} {l : List Version} : VSrt (v :: l) ↔ (∀ w ∈ l,v.by_ < w.by_) ∧ VSrt l := List.pairwise_cons
structure SInv (e : Engine) : Prop where
 k : Srt Chain.key e.chains
 v : ∀ c ∈ e.chains,VSrt c.vs
 b : ∀ c ∈ e.chains,∀ v ∈ c.vs,v.by_ < e.base + e.deeds.length
theorem set_srt {l : List Chain} {k : Str} {v : Version} {N : Int} (hs : Srt Chain.key l) (hv : ∀ c ∈ l,VSrt c.vs ∧ ∀ w ∈ c.vs,w.by_ < N) :
  Srt Chain.key (setChains l k v) ∧ ∀ c ∈ setChains l k v,VSrt c.vs ∧ ∀ w ∈ c.vs,w.by_ < N := by
 have hb : ∀ (h : Bool) (w : Version),(setV h v w).by_ = w.by_ := fun h w => by
  unfold setV
  split
  ·
   next hh => exact hh.2.symm
  ·
   rfl
 refine ⟨List.pairwise_map.2 hs,fun c hc => ?_⟩
 obtain ⟨c0,h0,rfl⟩ := List.mem_map.1 hc
 obtain ⟨h1,h2⟩ := hv c0 h0
 refine ⟨List.pairwise_map.2 (h1.imp fun hab => by rw [hb,hb];exact hab),fun w hw => ?_⟩
 obtain ⟨w0,hw0,rfl⟩ := List.mem_map.1 hw
 rw [hb];exact h2 w0 hw0
theorem goSets_srt {r : List Pair} {b N : Int} : ∀ {ks : List Str} {l : List Chain},Srt Chain.key l → (∀ c ∈ l,VSrt c.vs ∧ ∀ w ∈ c.vs,w.by_ < N) →
  Srt Chain.key (goSets r b l ks) ∧ ∀ c ∈ goSets r b l ks,VSrt c.vs ∧ ∀ w ∈ c.vs,w.by_ < N
 | [],l,hs,hv => ⟨hs,hv⟩
 | k :: ks,l,hs,hv => by
  simp only [goSets]
  have := set_srt (k := k) (v := ⟨b,true,(RF.get r k).2,(RF.get r k).1⟩) hs hv
  exact goSets_srt this.1 this.2
theorem SInv.goNew {e : Engine} (h : SInv e) (A : Nat) (d : Deed) : SInv (goNew e A d) := by
 have := goSets_srt (r := (goDone e A d).1) (b := e.base + A) (ks := d.writes) (N := e.base + e.deeds.length) h.k fun c hc => ⟨h.v c hc,h.b c hc⟩
 exact ⟨this.1,fun c hc => (this.2 c hc).1,fun c hc => (this.2 c hc).2⟩
theorem SInv.goE {e : Engine} (h : SInv e) (at_ : Int) : SInv (goE e at_).1 := by
 unfold Proofs.YtmnociojijpdmaaGreatDoor.goE
 split
 ·
  exact h
 unfold goAt
 cases hA : e.deeds[at_.toNat]? with
 | none => exact h
 | some d =>
  dsimp only
  split
  ·
   exact h
  split
  ·
   exact h.goNew _ _
  ·
   exact h
theorem clrV_sublist {b : Int} : ∀ l : List Version,(clrV b l).Sublist l
 | [] => List.Sublist.slnil
 | v :: l => by
  simp only [clrV]
  split
  ·
   exact (clrV_sublist l).cons _
  ·
   exact (clrV_sublist l).cons_cons _
theorem clear_srt {b : Int} : ∀ {l : List Chain},Srt Chain.key l → Srt Chain.key (clear b l)
 | [],_ => List.Pairwise.nil
 | c :: l,hs => by
  obtain ⟨h1,h2⟩ := List.pairwise_cons.1 hs
  simp only [clear]
  split
  ·
   exact clear_srt h2
  ·
   refine List.pairwise_cons.2 ⟨fun d hd => ?_,clear_srt h2⟩
   obtain ⟨c0,h0,rfl⟩ := clear_mem hd
   exact h1 c0 h0
theorem SInv.clearE {e : Engine} (h : SInv e) : SInv (clearE e) := by
 have hm := markN_le e.state
 refine ⟨clear_srt h.k,fun c hc => ?_,fun c hc v hv => ?_⟩
 ·
  obtain ⟨c0,h0,rfl⟩ := clear_mem hc
  exact List.Pairwise.sublist (clrV_sublist _) (h.v c0 h0)
 ·
  obtain ⟨c0,h0,rfl⟩ := clear_mem hc
  have := h.b c0 h0 v (clrV_sub hv)
  simp only [RF.clearE,List.length_drop]
  omega
theorem get_put {k k' : Str} {n : Int} : ∀ {l : List Pair},RF.get (putS k n l) k' = if k = k' then (n,true) else RF.get l k'
 | [] => by simp [putS,RF.get]
 | p :: l => by
  simp only [putS]
  by_cases hk : p.key = k
  ·
   rw [if_pos hk]
   simp only [RF.get]
   by_cases h : k = k'
   ·
    simp [h]
   ·
    rw [if_neg h,if_neg h,if_neg (by rw [hk];exact h)]
  ·
   rw [if_neg hk]
   split
   ·
    simp only [RF.get]
    rw [get_put]
    by_cases h : p.key = k'
    ·
     rw [if_pos h,if_neg (fun e => hk (by rw [h,e])),if_pos h]
    ·
     rw [if_neg h,if_neg h]
   ·
    simp only [RF.get]
theorem get_absent {k : Str} : ∀ {l : List Pair},(∀ p ∈ l,p.key ≠ k) → RF.get l k = (0,false)
 | [],_ => rfl
 | p :: l,h => by
  simp only [RF.get]
  rw [if_neg (h p (List.mem_cons_self ..)),get_absent fun q hq => h q (List.mem_cons_of_mem _ hq)]
theorem srt_absent {p : Pair} {l : List Pair} (hs : Srt Pair.key (p :: l)) : ∀ q ∈ l,q.key ≠ p.key := fun q hq e => by
 have := (List.pairwise_cons.1 hs).1 q hq
 rw [e,slt_irrefl] at this;cases this
theorem get_drop {k k' : Str} : ∀ {l : List Pair},Srt Pair.key l → RF.get (dropS k l) k' = if k = k' then (0,false) else RF.get l k'
 | [],_ => by simp [dropS,RF.get]
 | p :: l,hs => by
  simp only [dropS]
  by_cases hk : p.key = k
  ·
   rw [if_pos hk]
   by_cases h : k = k'
   ·
    rw [if_pos h]
    exact get_absent fun q hq => by rw [← h,← hk];exact srt_absent hs q hq
   ·
    rw [if_neg h]
    simp only [RF.get]
    rw [if_neg (by rw [hk];exact h)]
  ·
   rw [if_neg hk]
   simp only [RF.get]
   rw [get_drop (List.pairwise_cons.1 hs).2]
   by_cases h : p.key = k'
   ·
    rw [if_pos h,if_neg (fun e => hk (by rw [h,e])),if_pos h]
   ·
    rw [if_neg h,if_neg h]
theorem srt_ext : ∀ {l r : List Pair},Srt Pair.key l → Srt Pair.key r → (∀ p,p ∈ l ↔ p ∈ r) → l = r
 | [],[],_,_,_ => rfl
 | [],q :: r,_,_,h => by have := (h q).2 (List.mem_cons_self ..);simp at this
 | p :: l,[],_,_,h => by have := (h p).1 (List.mem_cons_self ..);simp at this
 | p :: l,q :: r,hl,hr,h => by
  obtain ⟨l1,l2⟩ := List.pairwise_cons.1 hl
  obtain ⟨r1,r2⟩ := List.pairwise_cons.1 hr
  have hpq : p = q := by
   rcases List.mem_cons.1 ((h p).1 (List.mem_cons_self ..)) with e | e
   ·
    exact e
   ·
    rcases List.mem_cons.1 ((h q).2 (List.mem_cons_self ..)) with e' | e'
    ·
     exact e'.symm
    ·
     have := slt_trans (l1 q e') (r1 p e)
     rw [slt_irrefl] at this;cases this
  subst hpq
  congr 1
  refine srt_ext l2 r2 fun x => ⟨fun hx => ?_,fun hx => ?_⟩
  ·
   rcases List.mem_cons.1 ((h x).1 (List.mem_cons_of_mem _ hx)) with e | e
   ·
    subst e;have := l1 x hx;rw [slt_irrefl] at this;cases this
   ·
    exact e
  ·
   rcases List.mem_cons.1 ((h x).2 (List.mem_cons_of_mem _ hx)) with e | e
   ·
    subst e;have := r1 x hx;rw [slt_irrefl] at this;cases this
   ·
    exact e
def alpha : List UInt8 := [97,98,99,100,101,102,103,104,105,106,107,108,109,110,111,112,113,114,115,116,117,118,119,120,121,122]
theorem alpha_bad (c : UInt8) : alpha.contains c = !bad c := by
 have h : ∀ n : Fin 256,alpha.contains (UInt8.ofFin n) = !bad (UInt8.ofFin n) := by decide +kernel
 have := h c.toFin
 rwa [UInt8.ofFin_toFin] at this
theorem dropWhile_nil {p : UInt8 → Bool} : ∀ {l : List UInt8},l.dropWhile p = [] ↔ ∀ x ∈ l,p x = true
 | [] => by simp
 | x :: l => by
  cases h : p x with
  | true => rw [List.dropWhile_cons_of_pos h,dropWhile_nil];simp [h]
  | false => rw [List.dropWhile_cons_of_neg (by simp [h])];simp [h]
theorem dropWhile_head {p : UInt8 → Bool} : ∀ {l r : List UInt8} {x : UInt8},l.dropWhile p = x :: r → p x = false
 | [],r,x,h => by simp at h
 | y :: l,r,x,h => by
  cases hy : p y with
  | true => rw [List.dropWhile_cons_of_pos hy] at h;exact dropWhile_head h
  | false => rw [List.dropWhile_cons_of_neg (by simp [hy])] at h;cases h;exact hy
theorem trim_nil {l cs : List UInt8} : Lib.trimS l cs = [] ↔ ∀ x ∈ l,cs.contains x = true := by
 unfold Lib.trimS Lib.trimLeftS Lib.trimRightS
 rw [dropWhile_nil]
 constructor
 ·
  intro h
  have h1 : l.reverse.dropWhile (cs.contains ·) = [] := by
   cases h2 : l.reverse.dropWhile (cs.contains ·) with
   | nil => rfl
   | cons x r =>
    have h3 := dropWhile_head h2
    have h4 := h x (by rw [h2];simp)
    rw [h3] at h4;cases h4
  intro x hx
  exact dropWhile_nil.1 h1 x (by simpa using hx)
 ·
  intro h x hx
  have h1 : l.reverse.dropWhile (cs.contains ·) = [] := dropWhile_nil.2 fun x hx => h x (by simpa using hx)
  rw [h1] at hx;simp at hx
theorem keyGo_eq {s : Str} : ∀ {r : Str},keyGo s r = ((r.all fun c => !bad c) && (decide (0 < s.length) && decide (s.length < 7)))
 | [] => by simp [keyGo]
 | c :: r => by
  simp only [keyGo,List.all_cons]
  rw [keyGo_eq]
  cases bad c <;> simp
theorem key_trim (s : Str) : key s = (decide (1 ≤ s.length) && (decide (s.length ≤ 6) && decide (Lib.trimS s alpha = []))) := by
 unfold key
 rw [keyGo_eq]
 have h1 : (s.all fun c => !bad c) = decide (Lib.trimS s alpha = []) := by
  rw [Bool.eq_iff_iff,decide_eq_true_eq,trim_nil,List.all_eq_true]
  simp only [alpha_bad]
 rw [h1]
 have h2 : decide (0 < s.length) = decide (1 ≤ s.length) := by congr 1
 have h3 : decide (s.length < 7) = decide (s.length ≤ 6) := by congr 1;exact propext ⟨fun h => by omega,fun h => by omega⟩
 rw [h2,h3]
 cases decide (Lib.trimS s alpha = []) <;> cases decide (1 ≤ s.length) <;> cases decide (s.length ≤ 6) <;> rfl
theorem get_mem_some {k : Str} : ∀ {l : List Pair} {n : Int},RF.get l k = (n,true) → (⟨k,n⟩ : Pair) ∈ l
 | [],n,h => by simp [RF.get] at h
 | p :: l,n,h => by
  simp only [RF.get] at h
  by_cases hk : p.key = k
  ·
   rw [if_pos hk] at h
   cases h
   rw [← hk]
   exact List.mem_cons_self ..
  ·
   rw [if_neg hk] at h
   exact List.mem_cons_of_mem _ (get_mem_some h)
theorem get_of_mem {p : Pair} : ∀ {l : List Pair},Srt Pair.key l → p ∈ l → RF.get l p.key = (p.n,true)
 | q :: l,hs,h => by
  simp only [RF.get]
  rcases List.mem_cons.1 h with rfl | h
  ·
   rw [if_pos rfl]
  ·
   have := srt_absent hs p h
   rw [if_neg (fun e => this e.symm),get_of_mem (List.pairwise_cons.1 hs).2 h]
theorem get_ext {l r : List Pair} (hl : Srt Pair.key l) (hr : Srt Pair.key r) (h : ∀ k,RF.get l k = RF.get r k) : l = r :=
 srt_ext hl hr fun p => ⟨fun hp => get_mem_some (by rw [← h,get_of_mem hl hp]),fun hp => get_mem_some (by rw [h,get_of_mem hr hp])⟩
def chOf (c : Bool × Int) : Int × Bool := if c.1 = true then (c.2,true) else (0,false)
def chAt (r : List Pair) (m : Mk) (k : Str) : Int × Bool := match mG m k with
 | some c => chOf c
 | none => RF.get r k
def app1 (out : List Pair) (k : Str) (c : Bool × Int) : List Pair := if c.1 = true then putS k c.2 out else dropS k out
def appC : List Pair → List (Str × (Bool × Int)) → List Pair
 | out,[] => out
 | out,x :: r => appC (app1 out x.1 x.2) r
theorem app1_srt {out : List Pair} (h : Srt Pair.key out) (k : Str) (c : Bool × Int) : Srt Pair.key (app1 out k c) := by
 unfold app1;split
 ·
  exact putS_srt h
 ·
  exact dropS_srt h
theorem app1_get {out : List Pair} (h : Srt Pair.key out) (k k' : Str) (c : Bool × Int) : RF.get (app1 out k c) k' = if k = k' then chOf c else RF.get out k' := by
 unfold app1 chOf;split
 ·
  exact get_put
 ·
  exact get_drop h
theorem appC_srt : ∀ {l : List (Str × (Bool × Int))} {out : List Pair},Srt Pair.key out → Srt Pair.key (appC out l)
 | [],out,h => h
 | x :: l,out,h => appC_srt (l := l) (app1_srt h _ _)
theorem appC_get {m : Mk} {k : Str} : ∀ {l : List Str} {out : List Pair},Srt Pair.key out → RF.get (appC out (chg m l)) k = if k ∈ l then chAt out m k else RF.get out k
 | [],out,h => by simp [chg,appC]
 | x :: l,out,h => by
  simp only [chg]
  cases hx : mG m x with
  | none =>
   simp only
   rw [appC_get h]
   by_cases hk : k ∈ l
   ·
    rw [if_pos hk,if_pos (List.mem_cons_of_mem _ hk)]
   ·
    rw [if_neg hk]
    by_cases he : k = x
    ·
     subst he
     rw [if_pos (List.mem_cons_self ..),chAt,hx]
    ·
     rw [if_neg (by simp [he,hk])]
  | some c =>
   simp only [appC]
   rw [appC_get (app1_srt h _ _)]
   by_cases he : x = k
   ·
    subst he
    rw [if_pos (List.mem_cons_self ..),app1_get h,if_pos rfl]
    simp only [chAt,hx,ite_self]
   ·
    have hne : ¬ k = x := fun e => he e.symm
    by_cases hk : k ∈ l
    ·
     rw [if_pos hk,if_pos (List.mem_cons_of_mem _ hk)]
     unfold chAt
     rw [app1_get h,if_neg he]
    ·
     rw [if_neg hk,if_neg (by simp [hne,hk]),app1_get h,if_neg he]
def plainD (r : List Pair) (d : Deed) : List Pair × Done := (appC r (runC (RF.get r) d),(runM (RF.get r) d).2)
theorem see_at {r now : List Pair} {m : Mk} (h : ∀ k,RF.get now k = chAt r m k) (hf : ∀ k c,mG m k = some c → c.1 = false → c.2 = 0) (k : Str) : seeM (RF.get r) m k = (RF.get now k).1 := by
 rw [h k]
 unfold seeM chAt chOf
 cases hm : mG m k with
 | none => rfl
 | some c =>
  dsimp only
  by_cases hc : c.1 = true
  ·
   rw [if_pos hc]
  ·
   rw [if_neg hc]
   exact hf k c hm (by simpa using hc)
structure MInv (r : List Pair) (W : List Str) (m : Mk) (now : List Pair) : Prop where
 s : Srt Pair.key now
 a : ∀ k,RF.get now k = chAt r m k
 f : ∀ k c,mG m k = some c → c.1 = false → c.2 = 0
 w : ∀ k c,mG m k = some c → k ∈ W
theorem MInv.set {r now : List Pair} {W : List Str} {m : Mk} (h : MInv r W m now) {k : Str} (hk : k ∈ W) (c : Bool × Int) (hc : c.1 = false → c.2 = 0) : MInv r W (mS m k c) (app1 now k c) := by
 refine ⟨app1_srt h.s k c,fun k' => ?_,fun k' c' hm => ?_,fun k' c' hm => ?_⟩
 ·
  rw [app1_get h.s]
  unfold chAt
  rw [mG_mS]
  by_cases he : k = k'
  ·
   rw [if_pos he,if_pos he]
  ·
   rw [if_neg he,if_neg he]
   exact h.a k'
 ·
  rw [mG_mS] at hm
  split at hm
  ·
   cases hm;exact hc
  ·
   exact h.f k' c' hm
 ·
  rw [mG_mS] at hm
  split at hm
  ·
   next he => rw [← he];exact hk
  ·
   exact h.w k' c' hm
theorem run_do {r : List Pair} {W : List Str} : ∀ {l : List Ins} {sk : Int} {m : Mk} {e : Done} {now : List Pair},MInv r W m now → e.failed = false → (∀ i ∈ l,(i.kind = 6 ∨ i.kind = 7) → i.key ∈ W) →
  (runGo (RF.get r) sk m e l).2 = (doGo r sk now e l).2 ∧ ((doGo r sk now e l).2.failed = true → (doGo r sk now e l).1 = r) ∧ ((doGo r sk now e l).2.failed = false → MInv r W (runGo (RF.get r) sk m e l).1 (doGo r sk now e l).1)
 | [],sk,m,e,now,h,he,hw => by
  simp only [runGo,doGo]
  exact ⟨trivial,fun hf => by rw [he] at hf;exact absurd hf (by simp),fun _ => h⟩
 | i :: l,sk,m,e,now,h,he,hw => by
  have hl : ∀ i ∈ l,(i.kind = 6 ∨ i.kind = 7) → i.key ∈ W := fun j hj => hw j (List.mem_cons_of_mem _ hj)
  simp only [runGo,doGo]
  rw [see_at h.a h.f]
  by_cases h0 : 0 < sk
  ·
   rw [if_pos h0,if_pos h0];exact run_do h he hl
  rw [if_neg h0,if_neg h0]
  have hr : ∀ k x,(rset e k x).failed = false := fun k x => by rw [rset_failed];exact he
  by_cases h1 : i.kind = 1
  ·
   rw [if_pos h1,if_pos h1];exact run_do h (hr _ _) hl
  rw [if_neg h1,if_neg h1]
  by_cases h2 : i.kind = 2
  ·
   rw [if_pos h2,if_pos h2];exact run_do h (hr _ _) hl
  rw [if_neg h2,if_neg h2]
  by_cases h3 : i.kind = 3
  ·
   rw [if_pos h3,if_pos h3];exact run_do h (hr _ _) hl
  rw [if_neg h3,if_neg h3]
  by_cases h4 : i.kind = 4
  ·
   rw [if_pos h4,if_pos h4];exact run_do h (hr _ _) hl
  rw [if_neg h4,if_neg h4]
  by_cases h5 : i.kind = 5
  ·
   rw [if_pos h5,if_pos h5];exact run_do h (hr _ _) hl
  rw [if_neg h5,if_neg h5]
  by_cases h6 : i.kind = 6
  ·
   rw [if_pos h6,if_pos h6,put_true h.s]
   have := h.set (hw i (List.mem_cons_self ..) (.inl h6)) (true,rget e i.a.toNat) (by simp)
   exact run_do this he hl
  rw [if_neg h6,if_neg h6]
  by_cases h7 : i.kind = 7
  ·
   rw [if_pos h7,if_pos h7,put_false h.s]
   have := h.set (hw i (List.mem_cons_self ..) (.inr h7)) (false,0) (by simp)
   exact run_do this he hl
  rw [if_neg h7,if_neg h7]
  by_cases h8 : i.kind = 8
  ·
   rw [if_pos h8,if_pos h8];exact run_do h he hl
  rw [if_neg h8,if_neg h8]
  by_cases h9 : rget e i.a.toNat < 0
  ·
   rw [if_pos h9,if_pos h9]
   exact ⟨rfl,fun _ => rfl,fun hf => by simp [bustE] at hf⟩
  ·
   rw [if_neg h9,if_neg h9];exact run_do h he hl
theorem plain_do {r : List Pair} {d : Deed} (hs : Srt Pair.key r) (hw : ∀ i ∈ d.code,(i.kind = 6 ∨ i.kind = 7) → i.key ∈ d.writes) : plainD r d = doD r d := by
 obtain ⟨h1,h2,h3⟩ := run_do (r := r) (W := d.writes) (l := d.code) (sk := 0) (m := []) (e := done0) (now := r) ⟨hs,fun k => rfl,fun k c h => by simp [mG] at h,fun k c h => by simp [mG] at h⟩ rfl hw
 unfold plainD doD
 refine Prod.ext ?_ h1
 dsimp only
 unfold runC
 by_cases hf : (runM (RF.get r) d).2.failed = true
 ·
  rw [if_pos hf]
  have hf' : (doGo r 0 r done0 d.code).2.failed = true := by rw [← h1];exact hf
  rw [h2 hf'];rfl
 ·
  rw [if_neg hf]
  have hf' : (doGo r 0 r done0 d.code).2.failed = false := by rw [← h1];exact Bool.eq_false_iff.2 hf
  have h := h3 hf'
  refine get_ext (appC_srt hs) h.s fun k => ?_
  rw [appC_get hs,h.a k]
  by_cases hk : k ∈ d.writes
  ·
   rw [if_pos hk];rfl
  ·
   rw [if_neg hk]
   unfold chAt
   cases hm : mG (runGo (RF.get r) 0 [] done0 d.code).1 k with
   | none => rfl
   | some c => exact absurd (h.w k c hm) hk
theorem doD_srt {r : List Pair} {d : Deed} (hs : Srt Pair.key r) (hw : ∀ i ∈ d.code,(i.kind = 6 ∨ i.kind = 7) → i.key ∈ d.writes) : Srt Pair.key (doD r d).1 := by
 rw [← plain_do hs hw];exact appC_srt hs
theorem isIn_true {s : Str} : ∀ {l : List Str},isIn l s = true → s ∈ l
 | [],h => by cases h
 | x :: l,h => by
  simp only [isIn] at h
  by_cases hx : x = s
  ·
   rw [hx];exact List.mem_cons_self ..
  ·
   rw [if_neg hx] at h
   exact List.mem_cons_of_mem _ (isIn_true h)
theorem wrongIns_keyed {d : Deed} {m : Int} {i : Ins} (h : wrongIns d m i = 0) (hk : i.kind = 6 ∨ i.kind = 7) : i.key ∈ d.writes := by
 unfold wrongIns at h
 have hkk : ¬ (i.kind < 1 ∨ 9 < i.kind) := by omega
 rw [if_neg hkk] at h
 have hh : has i.kind.toNat 107 = true := by rcases hk with e | e <;> rw [e] <;> decide
 split at h
 ·
  simp at h
 ·
  rw [if_neg (by rw [hh];simp),if_neg (show ¬ i.kind = 1 by omega)] at h
  split at h
  ·
   next hi => exact isIn_true hi
  ·
   simp at h
theorem wrong_keyed {d : Deed} (h : wrongDeed d = 0) : ∀ i ∈ d.code,(i.kind = 6 ∨ i.kind = 7) → i.key ∈ d.writes := by
 intro i hi
 unfold wrongDeed at h
 by_cases h0 : lsGo [d.reads,d.writes] = 0
 ·
  rw [if_pos h0] at h
  by_cases hc : 12 < d.code.length
  ·
   rw [if_pos hc] at h;simp at h
  ·
   rw [if_neg hc] at h
   obtain ⟨j,hj⟩ := List.getElem?_of_mem hi
   exact wrongIns_keyed (codeGo_mem h j i hj)
 ·
  rw [if_neg h0] at h;exact absurd h h0
theorem runGo_congr {v v' : Str → Int × Bool} : ∀ {l : List Ins} {sk : Int} {m : Mk} {e : Done},(∀ i ∈ l,i.kind = 1 → (v i.key).1 = (v' i.key).1) → runGo v sk m e l = runGo v' sk m e l
 | [],sk,m,e,_ => rfl
 | i :: l,sk,m,e,h => by
  have ih := fun {sk : Int} {m : Mk} {e : Done} => runGo_congr (v := v) (v' := v') (l := l) (sk := sk) (m := m) (e := e) fun j hj => h j (List.mem_cons_of_mem _ hj)
  have hs : i.kind = 1 → seeM v m i.key = seeM v' m i.key := fun hk => by
   unfold seeM
   split
   ·
    rfl
   ·
    exact h i (List.mem_cons_self ..) hk
  simp only [runGo,ih]
  by_cases hk : i.kind = 1
  ·
   rw [hs hk]
  ·
   simp only [if_neg hk]
theorem keysGo_key {l : List Str} : ∀ {r : List Str} {i : Nat},keysGo l i r = 0 → ∀ k ∈ r,key k = true
 | [],_,_,k,hk => by cases hk
 | x :: r,i,h,k,hk => by
  simp only [keysGo] at h
  split at h
  ·
   cases h
  ·
   next hx =>
   split at h
   ·
    cases h
   ·
    rcases List.mem_cons.1 hk with rfl | hk
    ·
     simpa using hx
    ·
     exact keysGo_key h k hk
theorem wrong_key {d : Deed} (h : wrongDeed d = 0) : (∀ k ∈ d.reads,key k = true) ∧ ∀ k ∈ d.writes,key k = true := by
 unfold wrongDeed at h
 split at h
 ·
  next h0 =>
  simp only [lsGo] at h0
  split at h0
  ·
   next h1 =>
   split at h0
   ·
    next h2 =>
    unfold keysWrong at h1 h2
    split at h1
    ·
     cases h1
    split at h2
    ·
     cases h2
    exact ⟨keysGo_key h1,keysGo_key h2⟩
   ·
    next h2 => exact absurd h0 h2
  ·
   next h1 => exact absurd h0 h1
 ·
  next h0 => exact absurd h h0
theorem nDigits_le : ∀ (k u : Nat),u < 10 ^ (k + 1) → Lib.nDigits u ≤ k + 1
 | 0,u,h => by unfold Lib.nDigits;rw [dif_pos (by simpa using h)];exact Nat.le_refl _
 | k + 1,u,h => by
  unfold Lib.nDigits
  split
  ·
   omega
  ·
   have := nDigits_le k (u / 10) (by rw [Nat.pow_succ] at h;omega)
   omega
theorem itoa_small {n : Int} (h0 : 0 ≤ n) (h1 : n ≤ 3) : (Lib.itoa n).length ≤ 1 := by
 unfold Lib.itoa
 rw [if_neg (by omega),Lib.decDigits_length]
 exact nDigits_le 0 _ (by omega)
theorem itoa_mid {n : Int} (h0 : -1073741824 ≤ n) (h1 : n ≤ 1073741824) : (Lib.itoa n).length ≤ 11 := by
 unfold Lib.itoa
 split
 ·
  rw [List.length_cons,Lib.decDigits_length]
  have := nDigits_le 9 n.natAbs (by omega)
  omega
 ·
  rw [Lib.decDigits_length]
  have := nDigits_le 9 n.toNat (by omega)
  omega
theorem tailS_le {sep : Str} {m : Nat} : ∀ {l : List Str},(∀ w ∈ l,w.length ≤ m) → (tailS sep l).length ≤ l.length * (sep.length + m)
 | [],_ => by simp [tailS]
 | w :: l,h => by
  have h1 := h w (List.mem_cons_self ..)
  have h2 := tailS_le (sep := sep) (l := l) fun x hx => h x (List.mem_cons_of_mem _ hx)
  simp only [tailS,List.length_append,List.length_cons]
  rw [Nat.add_mul,Nat.one_mul]
  omega
theorem wrongIns_key {d : Deed} {m : Int} {i : Ins} (h : wrongIns d m i = 0) : i.key = [] ∨ i.key ∈ d.reads ∨ i.key ∈ d.writes := by
 unfold wrongIns at h
 split at h
 ·
  cases h
 split at h
 ·
  cases h
 split at h
 ·
  split at h
  ·
   next h1 => exact .inl h1
  ·
   cases h
 ·
  by_cases hx : isIn (if i.kind = 1 then d.reads else d.writes) i.key = true
  ·
   have := isIn_true hx
   split at this
   ·
    exact .inr (.inl this)
   ·
    exact .inr (.inr this)
  ·
   rw [if_neg hx] at h;cases h
theorem insW_len {d : Deed} (h : wrongDeed d = 0) {i : Ins} (hi : i ∈ d.code) : (joinS [32] (insW i)).length ≤ 20 := by
 have hok := (wrongDeed_ok h).i i hi
 have hn := wrong_n h i hi
 have hkey : i.key.length ≤ 6 := by
  have hw : ∃ m,wrongIns d m i = 0 := by
   unfold wrongDeed at h
   split at h
   ·
    split at h
    ·
     cases h
    ·
     obtain ⟨j,hj⟩ := List.getElem?_of_mem hi
     exact ⟨_,codeGo_mem h j i hj⟩
   ·
    next h1 => exact absurd h h1
  obtain ⟨m,hm⟩ := hw
  obtain ⟨h1,h2⟩ := wrong_key h
  rcases wrongIns_key hm with h3 | h3 | h3
  ·
   rw [h3];simp
  ·
   exact key_len (h1 _ h3)
  ·
   exact key_len (h2 _ h3)
 have ha := itoa_small hok.a.1 hok.a.2
 have hb := itoa_small hok.b.1 hok.b.2
 have hnn := itoa_mid hn.1 hn.2
 have hk := hok.k
 rw [insW_eq]
 obtain ⟨k,a,b,n,key⟩ := i
 dsimp only at hk hkey ha hb hnn
 obtain ⟨K,rfl⟩ := Int.eq_ofNat_of_zero_le (show 0 ≤ k by omega)
 rw [Int.toNat_natCast]
 match K,hk with
 | 0,hk => omega
 | 1,_ => simp [words,form,forms,tailS,fieldW];omega
 | 2,_ => simp [words,form,forms,tailS,fieldW];omega
 | 3,_ => simp [words,form,forms,tailS,fieldW];omega
 | 4,_ => simp [words,form,forms,tailS,fieldW];omega
 | 5,_ => simp [words,form,forms,tailS,fieldW];omega
 | 6,_ => simp [words,form,forms,tailS,fieldW];omega
 | 7,_ => simp [words,form,forms,tailS,fieldW];omega
 | 8,_ => simp [words,form,forms,tailS,fieldW];omega
 | 9,_ => simp [words,form,forms,tailS,fieldW];omega
 | K + 10,hk => omega
theorem printD_len {d : Deed} (h : wrongDeed d = 0) : (printD d).length ≤ 400 := by
 have hok := wrongDeed_ok h
 obtain ⟨h1,h2⟩ := wrong_key h
 have hr := tailS_le (sep := [32]) (m := 6) fun w hw => key_len (h1 w hw)
 have hw := tailS_le (sep := [32]) (m := 6) fun w hw => key_len (h2 w hw)
 have hc := tailS_le (sep := [59,32]) (m := 20) (l := d.code.map fun i => joinS [32] (insW i)) fun w hw => by
  obtain ⟨i,hi,rfl⟩ := List.mem_map.1 hw
  exact insW_len h hi
 have l1 := hok.r
 have l2 := hok.w
 have l3 := hok.c
 rw [printD_eq]
 simp only [List.length_append,List.length_map,List.length_cons,List.length_nil] at *
 have e1 : wReads.length = 5 := rfl
 have e2 : wWrites.length = 6 := rfl
 omega
theorem splitF_scan {c : UInt8} {st : Str} : ∀ (w : Str) (n : Nat) (cur rest : Str),c ∉ w → splitF (c :: st) (n + w.length) cur (w ++ rest) = splitF (c :: st) n (cur ++ w) rest
 | [],n,cur,rest,_ => by simp
 | x :: w,n,cur,rest,h => by
  have hx : x ≠ c := fun e => h (by rw [e];exact List.mem_cons_self ..)
  have hw : c ∉ w := fun e => h (List.mem_cons_of_mem _ e)
  rw [List.length_cons,show n + (w.length + 1) = (n + w.length) + 1 by omega,List.cons_append]
  simp only [splitF]
  by_cases hl : (x :: (w ++ rest)).length < (c :: st).length
  ·
   rw [if_pos hl]
   have hl2 : rest.length < (c :: st).length := by simp at hl ⊢;omega
   cases n with
   | zero => simp [splitF]
   | succ n => simp only [splitF];rw [if_pos hl2];simp
  ·
   rw [if_neg hl,if_neg (by simp [hx])]
   rw [splitF_scan w n (cur ++ [x]) rest hw]
   simp
theorem libS_word {c : UInt8} {st w rest : Str} (h : c ∉ w) : libS (c :: st) (w ++ rest) = hdS w (libS (c :: st) rest) := by
 have h1 := splitF_lib (sep := c :: st) (by simp) (rest.length + w.length) [] (w ++ rest) (by simp;omega)
 have h2 := splitF_lib (sep := c :: st) (by simp) rest.length ([] ++ w) rest (Nat.le_refl _)
 rw [splitF_scan w rest.length [] rest h,h2] at h1
 have h3 : ∀ l : List Str,hdS [] l = l := fun l => by cases l <;> rfl
 rw [h3] at h1
 exact h1.symm
theorem libS_sep {c : UInt8} {st rest : Str} : libS (c :: st) ((c :: st) ++ rest) = [] :: libS (c :: st) rest := by
 have hi : Lib.index ((c :: st) ++ rest) (c :: st) = ((0 : Nat) : Int) := by
  rw [List.cons_append,index_cons,if_pos (by rw [List.isPrefixOf_iff_prefix];exact ⟨rest,by simp⟩)];rfl
 rw [libS_hit (by simp) hi]
 simp
theorem libS_nil {c : UInt8} {st : Str} : libS (c :: st) [] = [[]] := libS_miss rfl
theorem join_split_id {c : UInt8} {st : Str} : ∀ {ws : List Str},ws ≠ [] → (∀ w ∈ ws,c ∉ w) → split (joinS (c :: st) ws) (c :: st) = ws := by
 have key : ∀ (ws : List Str) (w : Str),(∀ x ∈ w :: ws,c ∉ x) → libS (c :: st) (w ++ tailS (c :: st) ws) = w :: ws := by
  intro ws
  induction ws with
  | nil =>
   intro w h
   rw [libS_word (h w (List.mem_cons_self ..))]
   show hdS w (libS (c :: st) []) = _
   rw [libS_nil];simp [hdS]
  | cons x r ih =>
   intro w h
   rw [libS_word (h w (List.mem_cons_self ..))]
   simp only [tailS]
   rw [libS_sep,ih x fun y hy => h y (List.mem_cons_of_mem _ hy)]
   simp [hdS]
 intro ws h0 h
 match ws,h0 with
 | w :: r,_ =>
  rw [joinS_cons,split_lib (by simp)]
  exact key r w h
theorem parseU_append : ∀ (l r : Str) (acc : Nat),Lib.parseUint10 acc (l ++ r) = match Lib.parseUint10 acc l with
  | .ok v => Lib.parseUint10 v r
  | x => x
 | [],r,acc => rfl
 | c :: l,r,acc => by
  simp only [List.cons_append,Lib.parseUint10]
  split
  ·
   split
   ·
    rfl
   ·
    split
    ·
     rfl
    ·
     exact parseU_append l r _
  ·
   rfl
theorem digit_byte {k : Nat} (h : k < 10) : (UInt8.ofNat (48 + k)).toNat = 48 + k := by
 simp [UInt8.toNat_ofNat];omega
theorem parseU_dec : ∀ (u : Nat),u < 18446744073709551616 → Lib.parseUint10 0 (Lib.decDigits u) = .ok u := by
 intro u
 induction u using Nat.strongRecOn with
 | ind u ih =>
  intro h
  unfold Lib.decDigits
  by_cases h1 : u < 10
  ·
   rw [dif_pos h1]
   simp only [Lib.parseUint10]
   rw [digit_byte h1,if_pos (by omega),if_neg (by omega),if_neg (by omega)]
   congr 1;omega
  ·
   rw [dif_neg h1,parseU_append,ih (u / 10) (by omega) (by omega)]
   simp only [Lib.parseUint10]
   rw [digit_byte (show u % 10 < 10 by omega),if_pos (by omega),if_neg (by omega),if_neg (by omega)]
   congr 1;omega
theorem dec_ne (u : Nat) : Lib.decDigits u ≠ [] := by
 unfold Lib.decDigits
 split <;> simp
theorem dec_clean : ∀ (u : Nat),∀ c ∈ Lib.decDigits u,48 ≤ c.toNat ∧ c.toNat ≤ 57 := by
 intro u
 induction u using Nat.strongRecOn with
 | ind u ih =>
  intro c hc
  unfold Lib.decDigits at hc
  by_cases h1 : u < 10
  ·
   rw [dif_pos h1] at hc
   rw [List.mem_singleton.1 hc,digit_byte h1];omega
  ·
   rw [dif_neg h1] at hc
   rcases List.mem_append.1 hc with hc | hc
   ·
    exact ih (u / 10) (by omega) c hc
   ·
    rw [List.mem_singleton.1 hc,digit_byte (show u % 10 < 10 by omega)];omega
theorem atoi_itoa {n : Int} (h0 : -1073741824 ≤ n) (h1 : n ≤ 1073741824) : Lib.atoiAll (Lib.itoa n) = .ok n := by
 unfold Lib.itoa
 by_cases hn : n < 0
 ·
  rw [if_pos hn]
  have hp := parseU_dec n.natAbs (by omega)
  unfold Lib.atoiAll Lib.parseMag
  simp only
  rw [if_pos (Or.inr (by decide)),if_neg (dec_ne _),hp]
  have h45 : (45 : UInt8).toNat = 45 := rfl
  simp only [h45]
  rw [if_neg (by simp),if_neg (by omega),if_pos trivial]
  congr 1;omega
 ·
  rw [if_neg hn]
  have hp := parseU_dec n.toNat (by omega)
  have hne := dec_ne n.toNat
  have hcl := dec_clean n.toNat
  cases hd : Lib.decDigits n.toNat with
  | nil => exact absurd hd hne
  | cons c r =>
   have hc := hcl c (by rw [hd];exact List.mem_cons_self ..)
   rw [hd] at hp
   unfold Lib.atoiAll Lib.parseMag
   simp only
   rw [if_neg (show ¬ (c.toNat = 43 ∨ c.toNat = 45) by omega),if_neg (by simp),hp]
   have h45 : ¬ c.toNat = 45 := by omega
   simp only
   rw [if_neg (by omega),if_neg (by omega),if_neg h45]
   congr 1;omega
theorem numV_itoa {n : Int} (h0 : -1073741824 ≤ n) (h1 : n ≤ 1073741824) : numV (Lib.itoa n) = some n := by
 unfold numV
 rw [atoi_itoa h0 h1]
 simp
theorem itoa_clean {n : Int} : ∀ c ∈ Lib.itoa n,c ≠ 32 ∧ c ≠ 59 := by
 intro c hc
 have key : ∀ u : Nat,c ∈ Lib.decDigits u → c ≠ 32 ∧ c ≠ 59 := fun u h => by
  have := dec_clean u c h
  exact ⟨fun e => by subst e;revert this;decide,fun e => by subst e;revert this;decide⟩
 unfold Lib.itoa at hc
 split at hc
 ·
  rcases List.mem_cons.1 hc with rfl | hc
  ·
   decide
  ·
   exact key _ hc
 ·
  exact key _ hc
def clean (w : Str) : Prop := ∀ c ∈ w,c ≠ 32 ∧ c ≠ 59
theorem key_clean {k : Str} (h : key k = true) : clean k := by
 have : ∀ r : Str,keyGo k r = true → clean r := by
  intro r
  induction r with
  | nil => intro _ c hc;cases hc
  | cons x r ih =>
   intro h
   simp only [keyGo] at h
   split at h
   ·
    cases h
   ·
    next hx =>
    intro c hc
    rcases List.mem_cons.1 hc with rfl | hc
    ·
     simp only [bad,Bool.or_eq_true,decide_eq_true_eq,not_or] at hx
     refine ⟨fun e => ?_,fun e => ?_⟩ <;> subst e <;> revert hx <;> decide
    ·
     exact ih h c hc
 exact this k h
theorem words_clean : ∀ k : Nat,clean (words.getD k []) := by
 intro k
 rcases Nat.lt_or_ge k 10 with h | h
 ·
  have : ∀ k : Fin 10,∀ c ∈ words.getD k.val [],c ≠ 32 ∧ c ≠ 59 := by decide
  exact this ⟨k,h⟩
 ·
  rw [List.getD_eq_getElem?_getD,List.getElem?_eq_none (show words.length ≤ k from h)]
  intro c hc;cases hc
theorem reg_clean (n : Int) : clean (114 :: Lib.itoa n) := by
 intro c hc
 rcases List.mem_cons.1 hc with rfl | hc
 ·
  decide
 ·
  exact itoa_clean c hc
theorem regV_itoa {n : Int} (h0 : -1073741824 ≤ n) (h1 : n ≤ 1073741824) : regV (114 :: Lib.itoa n) = some n := numV_itoa h0 h1
theorem insE_insW {d : Deed} {m : Int} {i : Ins} (h : wrongIns d m i = 0) (hm : m ≤ 1073741824) : insE (insW i) = .ok i := by
 have hn := wrongIns_n h hm
 obtain ⟨k,a,b,n,key⟩ := i
 unfold wrongIns at h
 dsimp only at h hn
 by_cases hk : k < 1 ∨ 9 < k
 ·
  rw [if_pos hk] at h;cases h
 rw [if_neg hk] at h
 by_cases ho : insOut k.toNat a b n m = true
 ·
  rw [if_pos ho] at h;cases h
 rw [if_neg ho] at h
 obtain ⟨K,rfl⟩ := Int.eq_ofNat_of_zero_le (show 0 ≤ k by omega)
 simp only [Int.toNat_natCast] at h ho
 simp only [insOut,Bool.or_eq_true,decide_eq_true_eq,not_or] at ho
 obtain ⟨o1,o2,o3,o4,o5,o6⟩ := ho
 have hb2 : b ≤ 1073741824 := by unfold insB at o4;split at o4 <;> omega
 have ha2 : a ≤ 1073741824 := by unfold insA at o2;split at o2 <;> omega
 have ra := regV_itoa (n := a) (by omega) ha2
 have rb := regV_itoa (n := b) (by omega) hb2
 have rn := numV_itoa hn.1 hn.2
 match K,hk with
 | 0,hk => omega
 | 1,_ =>
  simp only [show has 1 114 = true from rfl,show has 1 115 = false from rfl,insA,insB,insLow,insHigh] at o2 o4 o5 o6
  obtain ⟨rfl,rfl⟩ : b = 0 ∧ n = 0 := by constructor <;> simp at o2 o4 o5 o6 <;> omega
  simp [insE,insW,words,form,forms,kindOf,kindGo,fieldW,fillI,ra]
 | 2,_ =>
  simp only [show has 2 114 = true from rfl,show has 2 115 = false from rfl,show has 2 107 = false from rfl,insA,insB] at o2 o4 h
  have hkey : key = [] := Classical.byContradiction fun e => by simp [e] at h
  obtain rfl : b = 0 := by simp at o4;omega
  subst hkey
  simp [insE,insW,words,form,forms,kindOf,kindGo,fieldW,fillI,ra,rn]
 | 3,_ =>
  simp only [show has 3 107 = false from rfl,insLow,insHigh] at o5 o6 h
  have hkey : key = [] := Classical.byContradiction fun e => by simp [e] at h
  obtain rfl : n = 0 := by simp at o5 o6;omega
  subst hkey
  simp [insE,insW,words,form,forms,kindOf,kindGo,fieldW,fillI,ra,rb]
 | 4,_ =>
  simp only [show has 4 107 = false from rfl,insLow,insHigh] at o5 o6 h
  have hkey : key = [] := Classical.byContradiction fun e => by simp [e] at h
  obtain rfl : n = 0 := by simp at o5 o6;omega
  subst hkey
  simp [insE,insW,words,form,forms,kindOf,kindGo,fieldW,fillI,ra,rb]
 | 5,_ =>
  simp only [show has 5 107 = false from rfl,insLow,insHigh] at o5 o6 h
  have hkey : key = [] := Classical.byContradiction fun e => by simp [e] at h
  obtain rfl : n = 0 := by simp at o5 o6;omega
  subst hkey
  simp [insE,insW,words,form,forms,kindOf,kindGo,fieldW,fillI,ra,rb]
 | 6,_ =>
  simp only [show has 6 114 = true from rfl,show has 6 115 = false from rfl,insA,insB,insLow,insHigh] at o2 o4 o5 o6
  obtain ⟨rfl,rfl⟩ : b = 0 ∧ n = 0 := by constructor <;> simp at o2 o4 o5 o6 <;> omega
  simp [insE,insW,words,form,forms,kindOf,kindGo,fieldW,fillI,ra]
 | 7,_ =>
  simp only [show has 7 114 = false from rfl,show has 7 115 = false from rfl,insA,insB,insLow,insHigh] at o2 o4 o5 o6
  obtain ⟨rfl,rfl,rfl⟩ : a = 0 ∧ b = 0 ∧ n = 0 := by refine ⟨?_,?_,?_⟩ <;> simp at o2 o4 o5 o6 <;> omega
  simp [insE,insW,words,form,forms,kindOf,kindGo,fieldW,fillI]
 | 8,_ =>
  simp only [show has 8 114 = true from rfl,show has 8 115 = false from rfl,show has 8 107 = false from rfl,insA,insB] at o2 o4 h
  have hkey : key = [] := Classical.byContradiction fun e => by simp [e] at h
  obtain rfl : b = 0 := by simp at o4;omega
  subst hkey
  simp [insE,insW,words,form,forms,kindOf,kindGo,fieldW,fillI,ra,rn]
 | 9,_ =>
  simp only [show has 9 114 = true from rfl,show has 9 115 = false from rfl,show has 9 107 = false from rfl,insA,insB,insLow,insHigh] at o2 o4 o5 o6 h
  have hkey : key = [] := Classical.byContradiction fun e => by simp [e] at h
  obtain ⟨rfl,rfl⟩ : b = 0 ∧ n = 0 := by constructor <;> simp at o2 o4 o5 o6 <;> omega
  subst hkey
  simp [insE,insW,words,form,forms,kindOf,kindGo,fieldW,fillI,ra]
 | K + 10,hk => omega
theorem field_clean {i : Ins} {c : UInt8} (hk : clean i.key) : clean (fieldW i c) := by
 unfold fieldW
 split
 ·
  exact reg_clean _
 split
 ·
  exact reg_clean _
 split
 ·
  exact fun c hc => itoa_clean c hc
 ·
  exact hk
theorem join_no59 {ws : List Str} (h : ∀ w ∈ ws,clean w) : (59 : UInt8) ∉ joinS [32] ws := by
 cases ws with
 | nil => simp [joinS]
 | cons w r =>
  rw [joinS_cons]
  have ht : ∀ r : List Str,(∀ w ∈ r,clean w) → (59 : UInt8) ∉ tailS [32] r := by
   intro r
   induction r with
   | nil => intro _;simp [tailS]
   | cons x r ih =>
    intro h hm
    simp only [tailS,List.mem_append] at hm
    rcases hm with hm | hm | hm
    ·
     simp at hm
    ·
     exact (h x (List.mem_cons_self ..) _ hm).2 rfl
    ·
     exact ih (fun y hy => h y (List.mem_cons_of_mem _ hy)) hm
  intro hm
  rcases List.mem_append.1 hm with hm | hm
  ·
   exact (h w (List.mem_cons_self ..) _ hm).2 rfl
  ·
   exact ht r (fun y hy => h y (List.mem_cons_of_mem _ hy)) hm
theorem split_words {ws : List Str} (h0 : ws ≠ []) (h : ∀ w ∈ ws,clean w) : split (joinS [32] ws) [32] = ws :=
 join_split_id h0 fun w hw hm => (h w hw _ hm).1 rfl
theorem ins_wrong {d : Deed} (h : wrongDeed d = 0) {i : Ins} (hi : i ∈ d.code) : ∃ m,m ≤ 1073741824 ∧ wrongIns d m i = 0 := by
 have hok := (wrongDeed_ok h).c
 unfold wrongDeed at h
 split at h
 ·
  split at h
  ·
   cases h
  ·
   obtain ⟨j,hj⟩ := List.getElem?_of_mem hi
   exact ⟨_,by omega,codeGo_mem h j i hj⟩
 ·
  next h1 => exact absurd h h1
theorem insW_clean {d : Deed} (h : wrongDeed d = 0) {i : Ins} (hi : i ∈ d.code) : ∀ w ∈ insW i,clean w := by
 obtain ⟨m,_,hm⟩ := ins_wrong h hi
 obtain ⟨h1,h2⟩ := wrong_key h
 have hk : clean i.key := by
  rcases wrongIns_key hm with h3 | h3 | h3
  ·
   rw [h3];intro c hc;cases hc
  ·
   exact key_clean (h1 _ h3)
  ·
   exact key_clean (h2 _ h3)
 intro w hw
 unfold insW at hw
 rcases List.mem_cons.1 hw with rfl | hw
 ·
  exact words_clean _
 ·
  obtain ⟨c,_,rfl⟩ := List.mem_map.1 hw
  exact field_clean hk
theorem codeE_of {l : List Ins} (h : ∀ i ∈ l,insE (insW i) = .ok i ∧ ∀ w ∈ insW i,clean w) : codeE (l.map fun i => joinS [32] (insW i)) = .ok l := by
 induction l with
 | nil => rfl
 | cons i l ih =>
  obtain ⟨h1,h2⟩ := h i (List.mem_cons_self ..)
  simp only [List.map_cons,codeE]
  rw [split_words (by simp [insW]) h2,h1,ih fun x hx => h x (List.mem_cons_of_mem _ hx)]
theorem parse_print {d : Deed} (h : wrongDeed d = 0) : parseE (printD d) = .ok d := by
 obtain ⟨h1,h2⟩ := wrong_key h
 have hl := printD_len h
 have c0 : clean wReads := by intro c hc;revert c;decide
 have c1 : clean wWrites := by intro c hc;revert c;decide
 have hr : ∀ w ∈ wReads :: d.reads,clean w := fun w hw => by
  rcases List.mem_cons.1 hw with rfl | hw
  ·
   exact c0
  ·
   exact key_clean (h1 w hw)
 have hw : ∀ w ∈ wWrites :: d.writes,clean w := fun w hw => by
  rcases List.mem_cons.1 hw with rfl | hw
  ·
   exact c1
  ·
   exact key_clean (h2 w hw)
 have hs : split (printD d) [59,32] = partsD d := join_split_id (by simp [partsD]) fun w hm => by
  unfold partsD at hm
  rcases List.mem_cons.1 hm with rfl | hm
  ·
   exact join_no59 hr
  rcases List.mem_cons.1 hm with rfl | hm
  ·
   exact join_no59 hw
  obtain ⟨i,hi,rfl⟩ := List.mem_map.1 hm
  exact join_no59 (insW_clean h hi)
 have hf := parseE_fin (s := printD d) hl hs (split_words (by simp) hr) (split_words (by simp) hw)
 rw [hf,if_pos rfl,if_pos rfl]
 unfold finE
 rw [codeE_of fun i hi => ⟨by obtain ⟨m,h3,h4⟩ := ins_wrong h hi;exact insE_insW h4 h3,insW_clean h hi⟩]
 simp only [List.nil_append]
 rw [if_pos h]
theorem wrong_sm {d : Deed} (h : wrongDeed d = 0) : d.Sm := by
 have hok := wrongDeed_ok h
 obtain ⟨h1,h2⟩ := wrong_key h
 have := hok.r;have := hok.w;have := hok.c
 exact ⟨by omega,by omega,by omega,fun s hs => by have := key_len (h1 s hs);omega,fun s hs => by have := key_len (h2 s hs);omega⟩
theorem insE_err {l : List Str} {e : Int} (h : insE l = .error e) : e ≠ 0 := by
 unfold insE at h
 split at h
 ·
  cases h;decide
 ·
  split at h
  ·
   cases h;decide
  ·
   split at h
   ·
    split at h
    ·
     cases h
    ·
     cases h;decide
   ·
    cases h;decide
theorem codeE_err : ∀ {l : List Str} {e : Int},codeE l = .error e → e ≠ 0
 | [],e,h => by cases h
 | p :: r,e,h => by
  simp only [codeE] at h
  split at h
  ·
   next e' he => cases h;exact insE_err he
  ·
   split at h
   ·
    next e' he => cases h;exact codeE_err he
   ·
    cases h
theorem parseE_err {s : Str} {e : Int} (h : parseE s = .error e) : e ≠ 0 := by
 unfold parseE at h
 split at h
 ·
  cases h;decide
 split at h
 ·
  split at h
  ·
   split at h
   ·
    split at h
    ·
     next e' he => cases h;exact codeE_err he
    ·
     split at h
     ·
      cases h
     ·
      next h1 => cases h;exact h1
   ·
    cases h;decide
  ·
   cases h;decide
 ·
  cases h;decide
theorem parseE_right {s : Str} {d : Deed} (h : parseE s = .ok d) : wrongDeed d = 0 := by
 unfold parseE at h
 split at h
 ·
  cases h
 split at h
 ·
  split at h
  ·
   split at h
   ·
    split at h
    ·
     cases h
    ·
     split at h
     ·
      next h1 => cases h;exact h1
     ·
      cases h
   ·
    cases h
  ·
   cases h
 ·
  cases h
theorem parseR_ok {s : Str} {d : Deed} (h : parseE s = .ok d) : parseR s = (d,0) := by unfold parseR;rw [h];rfl
theorem parseR_err {s : Str} {e : Int} (h : parseE s = .error e) : parseR s = (noDeed,e) := by unfold parseR;rw [h];rfl
theorem ne_tail {c : Chain} {l : List Chain} (hs : Srt Chain.key (c :: l)) {k : Str} (h : slt k c.key = true ∨ c.key = k) : ∀ d ∈ l,d.key ≠ k := by
 intro d hd e
 have h1 := (List.pairwise_cons.1 hs).1 d hd
 rw [e] at h1
 rcases h with h | h
 ·
  have := slt_trans h h1;rw [slt_irrefl] at this;cases this
 ·
  rw [h,slt_irrefl] at h1;cases h1
theorem clrV_ge {b : Int} : ∀ {l : List Version},(∀ v ∈ l,b ≤ v.by_) → clrV b l = l
 | [],_ => rfl
 | v :: l,h => by
  have := h v (List.mem_cons_self ..)
  have h1 : decide (v.by_ < b) = false := by simp;omega
  simp only [clrV]
  rw [if_neg (by simp [old,h1]),clrV_ge fun w hw => h w (List.mem_cons_of_mem _ hw)]
theorem seen_clr2 {b at_ : Int} (hba : b ≤ at_) : ∀ {l : List Version} {out : Version},VSrt l →
  bvs true at_ out (clrV b l) = bvs true at_ out l ∨ ((bvs true at_ out l).made = true ∧ (bvs true at_ out l).has = false ∧ bvs true at_ out (clrV b l) = out ∧ (bvs true at_ out l).by_ < b)
 | [],out,_ => .inl rfl
 | v :: l,out,hs => by
  obtain ⟨h1,h2⟩ := VSrt.cons.1 hs
  by_cases hva : v.by_ < at_
  ·
   have hge : b ≤ v.by_ → clrV b l = l := fun h => clrV_ge fun w hw => by have := h1 w hw;omega
   by_cases hlt : later b l = true
   ·
    cases l with
    | nil => simp [later] at hlt
    | cons w l' =>
     have hw : w.by_ < b := by simpa [later] using hlt
     have hvb : v.by_ < b := by have := h1 w (List.mem_cons_self ..);omega
     have hold : old b (w :: l') v = true := by simp [old,later,hw,hvb]
     have ih := seen_clr2 hba (out := out) h2
     have hsame : bvs true at_ v (w :: l') = bvs true at_ out (w :: l') := by
      simp only [bvs]
      rw [if_pos (by simp;omega),if_pos (by simp;omega)]
     have h5 : clrV b (v :: w :: l') = clrV b (w :: l') := by rw [clrV,if_pos hold]
     rw [h5]
     have h4 : bvs true at_ out (v :: w :: l') = bvs true at_ (if (true && decide (v.by_ < at_)) = true then v else out) (w :: l') := rfl
     rw [if_pos (by simp;omega)] at h4
     rw [h4,hsame]
     exact ih
   ·
    have hl : ∀ w ∈ l,b ≤ w.by_ := by
     cases l with
     | nil => simp
     | cons w l' =>
      have hw : ¬ w.by_ < b := by simpa [later] using hlt
      intro x hx
      rcases List.mem_cons.1 hx with rfl | hx
      ·
       omega
      ·
       have := (VSrt.cons.1 h2).1 x hx;omega
    have hl0 : later b l = false := by simpa using hlt
    have hc := clrV_ge hl
    simp only [clrV]
    rw [hc]
    by_cases hold : old b l v = true
    ·
     rw [if_pos hold]
     have h3 : v.made = true ∧ v.has = false ∧ v.by_ < b := by
      simp [old,hl0] at hold
      exact ⟨hold.2.1,hold.2.2,hold.1⟩
     have h4 : bvs true at_ out (v :: l) = bvs true at_ v l := by simp only [bvs];rw [if_pos (by simp;omega)]
     rw [h4]
     cases l with
     | nil => exact .inr ⟨h3.1,h3.2.1,rfl,h3.2.2⟩
     | cons w l' =>
      by_cases hw : w.by_ < at_
      ·
       left
       simp only [bvs]
       rw [if_pos (by simp;omega),if_pos (by simp;omega)]
      ·
       have h5 : ∀ x ∈ w :: l',at_ ≤ x.by_ := fun x hx => by
        rcases List.mem_cons.1 hx with rfl | hx
        ·
         omega
        ·
         have := (VSrt.cons.1 h2).1 x hx;omega
       rw [bvs_ge h5,bvs_ge h5]
       exact .inr ⟨h3.1,h3.2.1,rfl,h3.2.2⟩
    ·
     rw [if_neg hold]
     exact .inl rfl
  ·
   have h3 : ∀ x ∈ v :: l,at_ ≤ x.by_ := fun x hx => by
    rcases List.mem_cons.1 hx with rfl | hx
    ·
     omega
    ·
     have := h1 x hx;omega
   rw [clrV_ge fun x hx => by have := h3 x hx;omega]
   exact .inl rfl
theorem seen_clear2 {b at_ : Int} {k : Str} (hba : b ≤ at_) : ∀ {l : List Chain} {out : Version},Srt Chain.key l → (∀ c ∈ l,VSrt c.vs) →
  beforeGo k at_ out (clear b l) = beforeGo k at_ out l ∨ ((beforeGo k at_ out l).made = true ∧ (beforeGo k at_ out l).has = false ∧ beforeGo k at_ out (clear b l) = out ∧ (beforeGo k at_ out l).by_ < b)
 | [],out,_,_ => .inl rfl
 | c :: l,out,hs,hv => by
  have h2 := (List.pairwise_cons.1 hs).2
  by_cases hk : c.key = k
  ·
   have hn := ne_tail hs (.inr hk)
   have n1 : ∀ o,beforeGo k at_ o l = o := fun o => beforeGo_none hn
   have n2 : ∀ o,beforeGo k at_ o (clear b l) = o := fun o => beforeGo_none fun d hd => by
    obtain ⟨d0,h0,rfl⟩ := clear_mem hd
    exact hn d0 h0
   have h3 : beforeGo k at_ out (c :: l) = bvs true at_ out c.vs := by
    simp only [beforeGo];rw [n1];simp [hk]
   have h4 : beforeGo k at_ out (clear b (c :: l)) = bvs true at_ out (clrV b c.vs) := by
    simp only [clear]
    split
    ·
     next h => rw [n2,h];rfl
    ·
     simp only [beforeGo];rw [n2];simp [hk]
   rw [h3,h4]
   exact seen_clr2 hba (hv c (List.mem_cons_self ..))
  ·
   have h3 : beforeGo k at_ out (c :: l) = beforeGo k at_ out l := by
    simp only [beforeGo];simp [hk,bvs_false]
   have h4 : beforeGo k at_ out (clear b (c :: l)) = beforeGo k at_ out (clear b l) := by
    simp only [clear]
    split
    ·
     rfl
    ·
     simp only [beforeGo];simp [hk,bvs_false]
   rw [h3,h4]
   exact seen_clear2 hba h2 fun d hd => hv d (List.mem_cons_of_mem _ hd)
end Go.Proofs.YtmnociojijpdmaaGreatDoor
namespace Go.Proofs.YtmnociojijpdmaaGreatDoor
open Go.AX Go.RF Go.RowKit
set_option maxRecDepth 100000
set_option maxHeartbeats 8000000
theorem wrong_reads {d : Deed} (h : wrongDeed d = 0) : ∀ i ∈ d.code,i.kind = 1 → i.key ∈ d.reads := by
 intro i hi hk
 unfold wrongDeed at h
 by_cases h0 : lsGo [d.reads,d.writes] = 0
 ·
  rw [if_pos h0] at h
  by_cases hc : 12 < d.code.length
  ·
   rw [if_pos hc] at h;simp at h
  ·
   rw [if_neg hc] at h
   obtain ⟨j,hj⟩ := List.getElem?_of_mem hi
   have h := codeGo_mem h j i hj
   unfold wrongIns at h
   rw [if_neg (show ¬ (i.kind < 1 ∨ 9 < i.kind) by omega)] at h
   have hh : has i.kind.toNat 107 = true := by rw [hk];decide
   split at h
   ·
    simp at h
   ·
    simp only [hh,hk,Bool.true_eq_false,if_false,if_true] at h
    rw [if_neg (show ¬ has (Int.toNat 1) 107 = false by decide)] at h
    by_cases hi : isIn d.reads i.key = true
    ·
     exact isIn_true hi
    ·
     rw [if_neg hi] at h;simp at h
 ·
  rw [if_neg h0] at h;exact absurd h h0
end Go.Proofs.YtmnociojijpdmaaGreatDoor
namespace Go.Proofs.YtmnociojijpdmaaGreatDoor
open Go.AX Go.RF
set_option maxRecDepth 100000
set_option maxHeartbeats 8000000
def idxS : Nat → List Str → Str → Int
 | _,[],_ => -1
 | i,x :: l,s => if x = s then (i : Int) else idxS (i + 1) l s
theorem idxS_in : ∀ {l : List Str} {i : Nat} {s : Str},decide (0 ≤ idxS i l s) = isIn l s
 | [],i,s => rfl
 | x :: l,i,s => by
  by_cases h : x = s
  ·
   simp only [idxS,isIn,if_pos h];exact decide_eq_true (by omega)
  ·
   simp only [idxS,isIn,if_neg h];exact idxS_in
theorem ok_indexS (l : List Str) (s : Str) (hl : l.length ≤ 1073741824) : FnOk Tryz.prog 130 [.d (encStrs l),.d (dstr s)] (.one (dint (idxS 0 l s))) := by
 refine fnOk_of tbl_ok mixed_ok Tryz.func130 rfl (by kernel_rfl) rfl rfl fun w0 own0 => ?_
 try refine wk ?_
 refine CW.loopT (fun t : Nat => [sd 0 (encStrs l),sd 1 (dstr s),sd 6 (encStrs l),sd 7 (dint l.length),sd 8 (dint t),nxt 0])
  (fun t => t ≤ l.length ∧ idxS t (l.drop t) s = idxS 0 l s) (fun t => l.length - t) 0 ⟨by omega,rfl⟩ ?_ ?_
 ·
  exact by_less
 ·
  rintro t ⟨ht,hI⟩
  rcases drop_case ht with ⟨h1,h2⟩ | ⟨x,h1,h2,h3⟩
  ·
   rw [h1,idxS] at hI
   try refine wk ?_
   rw [← hI]
   exact .one (.tmp rfl (.one (.d (.refl _))))
  ·
   rw [h1,idxS] at hI
   by_cases h : x = s
   ·
    rw [if_pos h] at hI
    have h' : s = x := h.symm
    try refine wk ?_
    rw [← hI]
    exact .one (.tmp rfl (.one (.d (.refl _))))
   ·
    rw [if_neg h] at hI
    have h' : ¬ s = x := fun e => h e.symm
    try refine wk ?_
    refine q_loopT (t + 1) ⟨by omega,hI⟩ (by omega) ?_
    exact by_less
theorem ok_containsS (l : List Str) (s : Str) (hl : l.length ≤ 1073741824) : FnOk Tryz.prog 120 [.d (encStrs l),.d (dstr s)] (.one (dbool (isIn l s))) := by
 refine fnOk_of tbl_ok mixed_ok Tryz.func120 rfl (by kernel_rfl) rfl rfl fun w0 own0 => ?_
 have c1 := ok_indexS l s hl
 try refine wk ?_
 rw [← idxS_in (i := 0)]
 exact .one (.tmp rfl (.one (.d (.refl _))))
theorem anyHit_iff {cs : List Chain} {b want : Int} : ∀ {ks : List Str},anyHit cs b want ks = true ↔ ∃ k ∈ ks,(before cs k b).made = false ∧ (before cs k b).by_ = want
 | [] => by simp [anyHit]
 | k :: ks => by
  simp only [anyHit]
  by_cases h : hit cs b want k = true
  ·
   rw [if_pos h]
   simp only [hit,Bool.and_eq_true,Bool.not_eq_true',decide_eq_true_eq] at h
   exact ⟨fun _ => ⟨k,List.mem_cons_self ..,h⟩,fun _ => rfl⟩
  ·
   rw [if_neg h,anyHit_iff]
   simp only [hit,Bool.and_eq_true,Bool.not_eq_true',decide_eq_true_eq] at h
   constructor
   ·
    rintro ⟨k',h1,h2⟩;exact ⟨k',List.mem_cons_of_mem _ h1,h2⟩
   ·
    rintro ⟨k',h1,h2⟩
    rcases List.mem_cons.1 h1 with rfl | h1
    ·
     exact absurd h2 h
    ·
     exact ⟨k',h1,h2⟩
theorem needsGo_mem {cs : List Chain} {base b x : Int} {ks : List Str} : ∀ {l : List Nat} {j : Nat},x ∈ needsGo cs base b ks j l ↔ ∃ k ∈ l,x = (k : Int) ∧ anyHit cs b (base + k) ks = true
 | [],j => by simp [needsGo]
 | k :: l,j => by
  simp only [needsGo]
  by_cases h : anyHit cs b (base + k) ks = true
  ·
   rw [if_pos h,List.mem_cons,needsGo_mem]
   constructor
   ·
    rintro (h1 | ⟨k',h1,h2⟩)
    ·
     exact ⟨k,List.mem_cons_self ..,h1,h⟩
    ·
     exact ⟨k',List.mem_cons_of_mem _ h1,h2⟩
   ·
    rintro ⟨k',h1,h2⟩
    rcases List.mem_cons.1 h1 with rfl | h1
    ·
     exact .inl h2.1
    ·
     exact .inr ⟨k',h1,h2⟩
  ·
   rw [if_neg h,needsGo_mem]
   constructor
   ·
    rintro ⟨k',h1,h2⟩;exact ⟨k',List.mem_cons_of_mem _ h1,h2⟩
   ·
    rintro ⟨k',h1,h2⟩
    rcases List.mem_cons.1 h1 with rfl | h1
    ·
     exact absurd h2.2 h
    ·
     exact ⟨k',h1,h2⟩
end Go.Proofs.YtmnociojijpdmaaGreatDoor
namespace Go.Proofs.YtmnociojijpdmaaGreatDoor
open Go.AX Go.RF Go.RowKit Go.Shelf
attribute [local go_sem] Oper.semAt_some
def verC (v : Version) (j : Nat) : Value := match j with
 | 0 => .int .i64 v.by_
 | 1 => .bool v.made
 | 2 => .bool v.has
 | _ => .int .i64 v.n
def back (vs : List Version) (k : Nat) : List (Nat × Version) := (List.range k).map fun j => (vs.length - 1 - j,vs[vs.length - 1 - j]?.getD ⟨0,false,false,0⟩)
def VerAt (n₀ : Nat) (W : World) (ad : Addr) (vs : List Version) : Prop := ad.block < n₀ ∧ ∀ (i j : Nat) (v : Version),vs[i]? = some v → j < 4 → W.cell? (ad.add (i * 4 + j)) = some (verC v j)
theorem VerAt.below {n₀ : Nat} {A B : World} {ad : Addr} {vs : List Version} (h : VerAt n₀ A ad vs) (hb : Below n₀ A B) : VerAt n₀ B ad vs :=
 ⟨h.1,fun i j v hi hj => (hb.cell (by rw [add_block];exact h.1)).trans (h.2 i j v hi hj)⟩
def Vers (n₀ : Nat) (W : World) (sv : Value) (vs : List Version) : Prop :=
 ∃ p cap,sv = .slice p vs.length cap ∧ (vs = [] ∨ ∃ ad,p = some ad ∧ VerAt n₀ W ad vs)
theorem Vers.below {n₀ : Nat} {A B : World} (h : Below n₀ A B) {sv : Value} {vs : List Version} : Vers n₀ A sv vs → Vers n₀ B sv vs
 | ⟨p,cap,e,.inl h0⟩ => ⟨p,cap,e,.inl h0⟩
 | ⟨p,cap,e,.inr ⟨ad,h1,h2⟩⟩ => ⟨p,cap,e,.inr ⟨ad,h1,h2.below h⟩⟩
theorem Vers.mono {n₀ n₁ : Nat} {A : World} (h : n₀ ≤ n₁) {sv : Value} {vs : List Version} : Vers n₀ A sv vs → Vers n₁ A sv vs
 | ⟨p,cap,e,.inl h0⟩ => ⟨p,cap,e,.inl h0⟩
 | ⟨p,cap,e,.inr ⟨ad,h1,h2⟩⟩ => ⟨p,cap,e,.inr ⟨ad,h1,⟨Nat.lt_of_lt_of_le h2.1 h,h2.2⟩⟩⟩
attribute [local go_sem] Oper.semAt_some
def Box4 (W : World) (B : Nat) (v : Version) : Prop := W.heap[B]? = some (.cells #[.int .i64 v.by_,.bool v.made,.bool v.has,.int .i64 v.n] 83 (0,0))
theorem Box4.lt {W : World} {B : Nat} {v : Version} (h : Box4 W B v) : B < W.heap.size := (Array.getElem?_eq_some_iff.1 h).1
theorem Box4.cells {W : World} {B : Nat} {v : Version} (h : Box4 W B v) : W.cell? ⟨B,0,none⟩ = some (.int .i64 v.by_) ∧ W.cell? ⟨B,1,none⟩ = some (.bool v.made) ∧ W.cell? ⟨B,2,none⟩ = some (.bool v.has) ∧ W.cell? ⟨B,3,none⟩ = some (.int .i64 v.n) := by
 have h' : W.heap[B]? = _ := h
 refine ⟨?_,?_,?_,?_⟩ <;> simp [World.cell?,h']
theorem Box4.kept {W W' : World} {row : Option Nat} {B : Nat} {v : Version} (h : Box4 W B v) (hg : W.grownBy W' row) (hne : some B ≠ row) : Box4 W' B v := (hg.block B h.lt hne).trans h
theorem Box4.alloc {W : World} {B : Nat} {v : Version} (h : Box4 W B v) (o : Obj) : Box4 (W.alloc o) B v := h.kept (World.grownBy_alloc W o none) (by simp)
theorem Box4.below {n : Nat} {W W' : World} {B : Nat} {v : Version} (h : Box4 W B v) (hb : Below n W W') (hB : B < n) : Box4 W' B v := (hb.block B hB).trans h
end Go.Proofs.YtmnociojijpdmaaGreatDoor
namespace Go.Proofs.YtmnociojijpdmaaGreatDoor
open Go.AX Go.RF
set_option maxRecDepth 100000
set_option maxHeartbeats 8000000
def NB (e : Engine) : Prop := ∀ (at_ : Nat) (k : Str),(before e.chains k (e.base + at_)).made = false → e.base ≤ (before e.chains k (e.base + at_)).by_ ∧ (before e.chains k (e.base + at_)).by_ < e.base + at_
structure WInv (e : Engine) : Prop where
 d : ∀ d ∈ e.deeds,wrongDeed d = 0
 n : ∀ c ∈ e.chains,∀ v ∈ c.vs,v.made = false → ∃ (k : Nat) (x : Deed),v.by_ = e.base + k ∧ e.state[k]? = some 0 ∧ e.deeds[k]? = some x ∧ c.key ∈ x.writes
 h : ∀ c ∈ e.chains,∀ v ∈ c.vs,v.has = false → v.n = 0
 l : e.state.length = e.deeds.length
theorem get_none0 {k : Str} : ∀ {r : List Pair},(RF.get r k).2 = false → (RF.get r k).1 = 0
 | [],_ => rfl
 | p :: r,h => by
  simp only [RF.get] at h ⊢
  by_cases hp : p.key = k
  ·
   rw [if_pos hp] at h;cases h
  ·
   rw [if_neg hp] at h ⊢;exact get_none0 h
theorem goSets_mem {r : List Pair} {b : Int} : ∀ {ks : List Str} {l : List Chain},∀ c ∈ goSets r b l ks,∀ v ∈ c.vs,
  (∃ c0 ∈ l,c0.key = c.key ∧ v ∈ c0.vs ∧ (v.by_ = b → c.key ∉ ks)) ∨ (v.made = true ∧ (v.has = false → v.n = 0))
 | [],l,c,hc,v,hv => .inl ⟨c,hc,rfl,hv,fun _ => by simp⟩
 | k :: ks,l,c,hc,v,hv => by
  simp only [goSets] at hc
  rcases goSets_mem c hc v hv with ⟨c0,h0,h1,h2,h3⟩ | h1
  ·
   obtain ⟨c1,h4,rfl⟩ := List.mem_map.1 h0
   obtain ⟨w,h5,rfl⟩ := List.mem_map.1 h2
   by_cases hh : decide (c1.key = k) = true ∧ w.by_ = b
   ·
    refine .inr ?_
    have e : setV (decide (c1.key = k)) ⟨b,true,(RF.get r k).2,(RF.get r k).1⟩ w = ⟨b,true,(RF.get r k).2,(RF.get r k).1⟩ := by unfold setV;rw [if_pos hh]
    rw [e]
    exact ⟨rfl,get_none0⟩
   ·
    have e : setV (decide (c1.key = k)) ⟨b,true,(RF.get r k).2,(RF.get r k).1⟩ w = w := by unfold setV;rw [if_neg hh]
    rw [e] at h3 ⊢
    refine .inl ⟨c1,h4,h1,h5,fun hb => ?_⟩
    have h6 := h3 hb
    intro hm
    rcases List.mem_cons.1 hm with hm | hm
    ·
     exact hh ⟨by simp [show c1.key = c.key from h1,hm],hb⟩
    ·
     exact h6 hm
  ·
   exact .inr h1
theorem WInv.goNew {e : Engine} (h : WInv e) (A : Nat) (d : Deed) (hd : e.deeds[A]? = some d) : WInv (goNew e A d) := by
 refine ⟨h.d,fun c hc v hv hm => ?_,fun c hc v hv hm => ?_,?_⟩
 ·
  rcases goSets_mem c hc v hv with ⟨c0,h0,h1,h2,h3⟩ | h1
  ·
   obtain ⟨k,x,h4,h5,h6,h7⟩ := h.n c0 h0 v h2 hm
   by_cases hk : k = A
   ·
    subst hk
    rw [hd] at h6
    cases h6
    exact absurd (h1 ▸ h7) (h3 h4)
   ·
    refine ⟨k,x,h4,?_,h6,by rw [← h1];exact h7⟩
    show (e.state.set A 1)[k]? = _
    rw [List.getElem?_set_ne (fun e => hk e.symm)];exact h5
  ·
   rw [h1.1] at hm;cases hm
 ·
  rcases goSets_mem c hc v hv with ⟨c0,h0,h1,h2,h3⟩ | h1
  ·
   exact h.h c0 h0 v h2 hm
  ·
   exact h1.2 hm
 ·
  show (e.state.set A 1).length = _
  rw [List.length_set];exact h.l
theorem WInv.goE {e : Engine} (h : WInv e) (at_ : Int) : WInv (goE e at_).1 := by
 unfold Proofs.YtmnociojijpdmaaGreatDoor.goE
 split
 ·
  exact h
 unfold goAt
 cases hA : e.deeds[at_.toNat]? with
 | none => exact h
 | some d =>
  dsimp only
  split
  ·
   exact h
  split
  ·
   exact h.goNew _ _ hA
  ·
   exact h
theorem markN_one : ∀ {s : List Int} {j : Nat},j < markN s → s[j]? = some 1
 | [],j,h => by simp [markN] at h
 | x :: s,j,h => by
  simp only [markN] at h
  by_cases hx : x = 1
  ·
   rw [if_pos hx] at h
   cases j with
   | zero => simp [hx]
   | succ j => simpa using markN_one (s := s) (j := j) (by omega)
  ·
   rw [if_neg hx] at h;omega
theorem WInv.clearE {e : Engine} (h : WInv e) : WInv (clearE e) := by
 refine ⟨fun d hd => h.d d (List.mem_of_mem_drop hd),fun c hc v hv hm => ?_,fun c hc v hv hm => ?_,?_⟩
 ·
  obtain ⟨c0,h0,rfl⟩ := clear_mem hc
  obtain ⟨k,x,h1,h2,h3,h4⟩ := h.n c0 h0 v (clrV_sub hv) hm
  have hk : markN e.state ≤ k := by
   rcases Nat.lt_or_ge k (markN e.state) with hlt | hge
   ·
    have := markN_one hlt
    rw [h2] at this;cases this
   ·
    exact hge
  refine ⟨k - markN e.state,x,?_,?_,?_,h4⟩
  ·
   show v.by_ = e.base + markN e.state + ((k - markN e.state : Nat) : Int)
   omega
  ·
   show (e.state.drop (markN e.state))[k - markN e.state]? = _
   rw [List.getElem?_drop,show markN e.state + (k - markN e.state) = k by omega];exact h2
  ·
   show (e.deeds.drop (markN e.state))[k - markN e.state]? = _
   rw [List.getElem?_drop,show markN e.state + (k - markN e.state) = k by omega];exact h3
 ·
  obtain ⟨c0,h0,rfl⟩ := clear_mem hc
  exact h.h c0 h0 v (clrV_sub hv) hm
 ·
  show (e.state.drop _).length = (e.deeds.drop _).length
  simp [h.l]
theorem bvs_mem {h : Bool} {b : Int} : ∀ {l : List Version} {out : Version},bvs h b out l = out ∨ (h = true ∧ bvs h b out l ∈ l ∧ (bvs h b out l).by_ < b)
 | [],out => .inl rfl
 | v :: l,out => by
  simp only [bvs]
  rcases bvs_mem (h := h) (b := b) (l := l) (out := if h && decide (v.by_ < b) then v else out) with e | ⟨h1,h2,h3⟩
  ·
   rw [e]
   by_cases hc : (h && decide (v.by_ < b)) = true
   ·
    rw [if_pos hc]
    simp only [Bool.and_eq_true,decide_eq_true_eq] at hc
    exact .inr ⟨hc.1,List.mem_cons_self ..,hc.2⟩
   ·
    rw [if_neg hc];exact .inl rfl
  ·
   exact .inr ⟨h1,List.mem_cons_of_mem _ h2,h3⟩
theorem beforeGo_mem {k : Str} {b : Int} : ∀ {l : List Chain} {out : Version},beforeGo k b out l = out ∨ ∃ c ∈ l,c.key = k ∧ beforeGo k b out l ∈ c.vs ∧ (beforeGo k b out l).by_ < b
 | [],out => .inl rfl
 | c :: l,out => by
  simp only [beforeGo]
  rcases beforeGo_mem (k := k) (b := b) (l := l) (out := bvs (decide (c.key = k)) b out c.vs) with e | ⟨c',h1,h2⟩
  ·
   rw [e]
   rcases bvs_mem (h := decide (c.key = k)) (b := b) (l := c.vs) (out := out) with e2 | ⟨h1,h2,h3⟩
   ·
    exact .inl e2
   ·
    exact .inr ⟨c,List.mem_cons_self ..,by simpa using h1,h2,h3⟩
  ·
   exact .inr ⟨c',List.mem_cons_of_mem _ h1,h2⟩
theorem before_mem (l : List Chain) (k : Str) (b : Int) : before l k b = noV ∨ ∃ c ∈ l,c.key = k ∧ before l k b ∈ c.vs ∧ (before l k b).by_ < b := beforeGo_mem
theorem WInv.nb {e : Engine} (h : WInv e) : NB e := by
 intro at_ k hm
 rcases before_mem e.chains k (e.base + at_) with h1 | ⟨c,h1,h2,h3,h4⟩
 ·
  rw [h1] at hm;cases hm
 ·
  obtain ⟨j,x,h5,_⟩ := h.n c h1 _ h3 hm
  exact ⟨by omega,h4⟩
theorem WInv.bh {e : Engine} (h : WInv e) (k : Str) (b : Int) : (before e.chains k b).has = false → (before e.chains k b).n = 0 := by
 intro hm
 rcases before_mem e.chains k b with h1 | ⟨c,h1,h2,h3,h4⟩
 ·
  rw [h1];rfl
 ·
  exact h.h c h1 _ h3 hm
theorem keysGo'_mem {k : Str} : ∀ {l out : List Str},k ∈ keysGo' out l ↔ k ∈ out ∨ k ∈ l
 | [],out => by simp [keysGo']
 | x :: l,out => by
  simp only [keysGo']
  rw [keysGo'_mem]
  by_cases h : isIn out x = true
  ·
   rw [if_pos h]
   have := isIn_true h
   constructor
   ·
    rintro (h1 | h1)
    ·
     exact .inl h1
    ·
     exact .inr (List.mem_cons_of_mem _ h1)
   ·
    rintro (h1 | h1)
    ·
     exact .inl h1
    ·
     rcases List.mem_cons.1 h1 with rfl | h1
     ·
      exact .inl this
     ·
      exact .inr h1
  ·
   rw [if_neg h]
   simp [or_assoc]
theorem goRows_get {cs : List Chain} {b : Int} : ∀ {ks : List Str} {r : List Pair},Srt Pair.key r → Srt Pair.key (goRows cs b r ks) ∧ ∀ k,RF.get (goRows cs b r ks) k = if k ∈ ks ∧ (before cs k b).has = true then ((before cs k b).n,true) else RF.get r k
 | [],r,h => ⟨h,fun k => by simp [goRows]⟩
 | x :: ks,r,h => by
  simp only [goRows]
  by_cases hx : (before cs x b).has = true
  ·
   rw [if_pos hx,put_true h]
   obtain ⟨h1,h2⟩ := goRows_get (cs := cs) (b := b) (ks := ks) (putS_srt (k := x) (n := (before cs x b).n) h)
   refine ⟨h1,fun k => ?_⟩
   rw [h2 k,get_put]
   by_cases hk : k ∈ ks ∧ (before cs k b).has = true
   ·
    rw [if_pos hk,if_pos ⟨List.mem_cons_of_mem _ hk.1,hk.2⟩]
   ·
    rw [if_neg hk]
    by_cases he : x = k
    ·
     subst he
     rw [if_pos rfl,if_pos ⟨List.mem_cons_self ..,hx⟩]
    ·
     rw [if_neg he,if_neg]
     rintro ⟨h3,h4⟩
     rcases List.mem_cons.1 h3 with h3 | h3
     ·
      exact he h3.symm
     ·
      exact hk ⟨h3,h4⟩
  ·
   rw [if_neg hx]
   obtain ⟨h1,h2⟩ := goRows_get (cs := cs) (b := b) (ks := ks) h
   refine ⟨h1,fun k => ?_⟩
   rw [h2 k]
   by_cases hk : k ∈ ks ∧ (before cs k b).has = true
   ·
    rw [if_pos hk,if_pos ⟨List.mem_cons_of_mem _ hk.1,hk.2⟩]
   ·
    rw [if_neg hk,if_neg]
    rintro ⟨h3,h4⟩
    rcases List.mem_cons.1 h3 with h3 | h3
    ·
     subst h3;exact hx h4
    ·
     exact hk ⟨h3,h4⟩
theorem do_get {r : List Pair} {d : Deed} (hs : Srt Pair.key r) (hw : wrongDeed d = 0) (k : Str) :
  RF.get (doD r d).1 k = if (runM (RF.get r) d).2.failed = true then RF.get r k else if k ∈ d.writes then chAt r (runM (RF.get r) d).1 k else RF.get r k := by
 rw [← plain_do hs (wrong_keyed hw)]
 unfold plainD runC
 dsimp only
 by_cases hf : (runM (RF.get r) d).2.failed = true
 ·
  rw [if_pos hf,if_pos hf];rfl
 ·
  rw [if_neg hf,if_neg hf,appC_get hs]
theorem do_end {r : List Pair} {d : Deed} (hs : Srt Pair.key r) (hw : wrongDeed d = 0) : (doD r d).2 = (runM (RF.get r) d).2 := by
 rw [← plain_do hs (wrong_keyed hw)];rfl
theorem do_same {r : List Pair} {d : Deed} (hs : Srt Pair.key r) (hw : wrongDeed d = 0) {k : Str} (hk : k ∉ d.writes) : RF.get (doD r d).1 k = RF.get r k := by
 rw [do_get hs hw,if_neg hk,ite_self]
theorem setV_by (h : Bool) (v w : Version) : (setV h v w).by_ = w.by_ := by
 unfold setV
 split
 ·
  next hh => exact hh.2.symm
 ·
  rfl
theorem bvs_map {h hit : Bool} {x : Int} {v : Version} : ∀ {l : List Version} {out : Version},bvs h x (setV hit v out) (l.map (setV hit v)) = setV hit v (bvs h x out l)
 | [],out => rfl
 | w :: l,out => by
  simp only [List.map_cons,bvs,setV_by]
  have e : (if (h && decide (w.by_ < x)) = true then setV hit v w else setV hit v out) = setV hit v (if (h && decide (w.by_ < x)) = true then w else out) := by split <;> rfl
  rw [e]
  exact bvs_map
theorem beforeGo_set {k : Str} {x : Int} {v : Version} : ∀ {l : List Chain} {out : Version},beforeGo k x (setV true v out) (setChains l k v) = setV true v (beforeGo k x out l)
 | [],out => rfl
 | c :: l,out => by
  simp only [setChains,List.map_cons,beforeGo,setC]
  by_cases hk : c.key = k
  ·
   rw [decide_eq_true hk,bvs_map]
   exact beforeGo_set (l := l)
  ·
   rw [decide_eq_false hk,bvs_false,bvs_false]
   exact beforeGo_set (l := l)
theorem beforeGo_set_ne {k k' : Str} {x : Int} {v : Version} (hne : k ≠ k') : ∀ {l : List Chain} {out : Version},beforeGo k x out (setChains l k' v) = beforeGo k x out l
 | [],out => rfl
 | c :: l,out => by
  simp only [setChains,List.map_cons,beforeGo,setC]
  by_cases hk : c.key = k
  ·
   have hk' : ¬ c.key = k' := fun e => hne (hk.symm.trans e)
   have hid : c.vs.map (setV (decide (c.key = k')) v) = c.vs := by
    rw [decide_eq_false hk']
    exact (List.map_congr_left fun w _ => show setV false v w = w by unfold setV;simp).trans (List.map_id _)
   rw [hid]
   exact beforeGo_set_ne hne (l := l)
  ·
   rw [decide_eq_false hk,bvs_false,bvs_false]
   exact beforeGo_set_ne hne (l := l)
theorem before_setG {l : List Chain} {k k' : Str} {x : Int} {v : Version} (hv : v.by_ ≠ -1) : before (setChains l k' v) k x = if k' = k then setV true v (before l k x) else before l k x := by
 unfold before
 by_cases h : k' = k
 ·
  subst h
  rw [if_pos rfl,← beforeGo_set]
  congr 1
  unfold setV
  rw [if_neg (fun e => hv e.2.symm)]
 ·
  rw [if_neg h]
  exact beforeGo_set_ne (fun e => h e.symm)
def doneV (r : List Pair) (b : Int) (k : Str) : Version := ⟨b,true,(RF.get r k).2,(RF.get r k).1⟩
theorem before_goSets {r : List Pair} {b : Int} (hb : b ≠ -1) {k : Str} {x : Int} : ∀ {ks : List Str} {l : List Chain},before (goSets r b l ks) k x = if k ∈ ks ∧ (before l k x).by_ = b then doneV r b k else before l k x
 | [],l => by simp [goSets]
 | k' :: ks,l => by
  simp only [goSets]
  rw [before_goSets hb,before_setG hb]
  by_cases h : k' = k
  ·
   subst h
   rw [if_pos rfl,setV_by]
   by_cases hx : (before l k' x).by_ = b
   ·
    have e : setV true (⟨b,true,(RF.get r k').2,(RF.get r k').1⟩ : Version) (before l k' x) = doneV r b k' := by unfold setV;rw [if_pos ⟨rfl,hx⟩];rfl
    rw [e,ite_self,if_pos ⟨List.mem_cons_self ..,hx⟩]
   ·
    rw [if_neg (fun e => hx e.2),if_neg (fun e => hx e.2)]
    unfold setV
    rw [if_neg (fun e => hx e.2)]
  ·
   rw [if_neg h]
   by_cases hk : k ∈ ks ∧ (before l k x).by_ = b
   ·
    rw [if_pos hk,if_pos ⟨List.mem_cons_of_mem _ hk.1,hk.2⟩]
   ·
    rw [if_neg hk,if_neg]
    rintro ⟨h1,h2⟩
    rcases List.mem_cons.1 h1 with h1 | h1
    ·
     exact h h1.symm
    ·
     exact hk ⟨h1,h2⟩
def sq (r : List Pair) (l : List Deed) (i : Nat) : List Pair := (allD r (l.take i)).1
theorem allD_snoc : ∀ {l : List Deed} {r : List Pair} {d : Deed},allD r (l ++ [d]) = ((doD (allD r l).1 d).1,(allD r l).2 ++ [(doD (allD r l).1 d).2])
 | [],r,d => rfl
 | x :: l,r,d => by simp only [List.cons_append,allD];rw [allD_snoc]
theorem sq_succ {r : List Pair} {l : List Deed} {i : Nat} {d : Deed} (h : l[i]? = some d) : sq r l (i + 1) = (doD (sq r l i) d).1 := by
 unfold sq
 rw [List.take_add_one,h]
 show (allD r (l.take i ++ [d])).1 = _
 rw [allD_snoc]
theorem sq_srt {r : List Pair} {l : List Deed} (hs : Srt Pair.key r) (hw : ∀ d ∈ l,wrongDeed d = 0) : ∀ (i : Nat),Srt Pair.key (sq r l i)
 | 0 => hs
 | i + 1 => by
  cases h : l[i]? with
  | none =>
   have hle := List.getElem?_eq_none_iff.1 h
   have : sq r l (i + 1) = sq r l i := by unfold sq;rw [List.take_of_length_le (by omega),List.take_of_length_le hle]
   rw [this];exact sq_srt hs hw i
  | some d =>
   rw [sq_succ h]
   exact doD_srt (sq_srt hs hw i) (wrong_keyed (hw d (List.mem_of_getElem? h)))
structure QInv (e : Engine) (r : List Pair) : Prop where
 s : Srt Pair.key r
 z : ∀ k,(before e.chains k e.base).made = true
 m : ∀ (k : Str) (i : Nat),i ≤ e.deeds.length → (before e.chains k (e.base + i)).made = true → RF.get (sq r e.deeds i) k = ((before e.chains k (e.base + i)).n,(before e.chains k (e.base + i)).has)
 p : ∀ (k : Str) (i : Nat) (d : Deed),e.deeds[i]? = some d → k ∈ d.writes → (before e.chains k (e.base + (i + 1 : Nat))).by_ = e.base + i ∧ (e.state[i]? = some 1 → (before e.chains k (e.base + (i + 1 : Nat))).made = true)
 q : ∀ (k : Str) (i : Nat) (d : Deed),e.deeds[i]? = some d → k ∉ d.writes → before e.chains k (e.base + (i + 1 : Nat)) = before e.chains k (e.base + i)
 w : ∀ (i : Nat) (d : Deed),e.deeds[i]? = some d → e.state[i]? = some 1 → e.ends[i]? = some (doD (sq r e.deeds i) d).2
 b : 0 ≤ e.base
theorem before_lt {l : List Chain} {k : Str} {b : Int} (h : (before l k b).by_ ≠ -1) : (before l k b).by_ < b := by
 rcases before_mem l k b with e | ⟨c,_,_,_,h4⟩
 ·
  rw [e] at h;exact absurd rfl h
 ·
  exact h4
theorem QInv.stay {e : Engine} {r : List Pair} (h : QInv e r) (hW : WInv e) (k : Str) (A : Nat) : ∀ (i : Nat),A < i → i ≤ e.deeds.length → (before e.chains k (e.base + i)).by_ = e.base + A → RF.get (sq r e.deeds i) k = RF.get (sq r e.deeds (A + 1)) k
 | 0,hA,_,_ => by omega
 | i + 1,hA,hi,hb => by
  by_cases he : i = A
  ·
   subst he;rfl
  ·
   obtain ⟨d,hd⟩ : ∃ d,e.deeds[i]? = some d := ⟨e.deeds[i]'(by omega),List.getElem?_eq_getElem (by omega)⟩
   by_cases hk : k ∈ d.writes
   ·
    have := (h.p k i d hd hk).1
    rw [hb] at this
    omega
   ·
    rw [h.q k i d hd hk] at hb
    rw [sq_succ hd,do_same (sq_srt h.s hW.d i) (hW.d d (List.mem_of_getElem? hd)) hk]
    exact h.stay hW k A i (by omega) (by omega) hb
theorem needs_made {e : Engine} (hW : WInv e) {A : Nat} {d : Deed} (hne : needs e A d = []) : ∀ k ∈ keysD d,(before e.chains k (e.base + A)).made = true := by
 intro k hk
 cases hm : (before e.chains k (e.base + A)).made with
 | true => rfl
 | false =>
  obtain ⟨h1,h2⟩ := hW.nb A k hm
  have : ((before e.chains k (e.base + A)).by_ - e.base) ∈ needs e A d := by
   unfold needs
   rw [needsGo_mem]
   exact ⟨((before e.chains k (e.base + A)).by_ - e.base).toNat,List.mem_range.2 (by omega),by omega,anyHit_iff.2 ⟨k,hk,hm,by omega⟩⟩
  rw [hne] at this
  simp at this
theorem go_done {e : Engine} {r : List Pair} (h : QInv e r) (hW : WInv e) {A : Nat} {d : Deed} (hd : e.deeds[A]? = some d) (hne : needs e A d = []) :
  (goDone e A d).2 = (doD (sq r e.deeds A) d).2 ∧ ∀ k ∈ d.writes,RF.get (goDone e A d).1 k = RF.get (sq r e.deeds (A + 1)) k := by
 have hA := (List.getElem?_eq_some_iff.1 hd).1
 have hw := hW.d d (List.mem_of_getElem? hd)
 have hmade := needs_made hW hne
 obtain ⟨hs0,hget⟩ := goRows_get (cs := e.chains) (b := e.base + A) (ks := keysD d) (r := []) List.Pairwise.nil
 have hsq := sq_srt h.s hW.d A
 have hsame : ∀ k,k ∈ d.reads ∨ k ∈ d.writes → RF.get (goRows e.chains (e.base + A) [] (keysD d)) k = RF.get (sq r e.deeds A) k := fun k hk => by
  have hm : k ∈ keysD d := by
   unfold keysD
   rw [keysGo'_mem]
   exact .inr (by simpa using hk)
  rw [h.m k A (by omega) (hmade k hm),hget k]
  cases hh : (before e.chains k (e.base + A)).has with
  | true => rw [if_pos ⟨hm,rfl⟩]
  | false =>
   rw [if_neg (by simp),hW.bh k _ hh]
   rfl
 have hrun : runM (RF.get (goRows e.chains (e.base + A) [] (keysD d))) d = runM (RF.get (sq r e.deeds A)) d :=
  runGo_congr fun i hi hk => by rw [hsame i.key (.inl (wrong_reads hw i hi hk))]
 unfold goDone
 refine ⟨by rw [do_end hs0 hw,do_end hsq hw,hrun],fun k hk => ?_⟩
 rw [sq_succ hd,do_get hs0 hw,do_get hsq hw,hrun,hsame k (.inr hk)]
 unfold chAt
 rw [hsame k (.inr hk)]
theorem QInv.goNew {e : Engine} {r : List Pair} (h : QInv e r) (hW : WInv e) (hn : e.ends.length = e.deeds.length) {A : Nat} {d : Deed} (hd : e.deeds[A]? = some d) (hne : needs e A d = []) : QInv (Proofs.YtmnociojijpdmaaGreatDoor.goNew e A d) r := by
 have hA := (List.getElem?_eq_some_iff.1 hd).1
 obtain ⟨hg1,hg2⟩ := go_done h hW hd hne
 have hb := h.b
 have hbf : ∀ k x,before (Proofs.YtmnociojijpdmaaGreatDoor.goNew e A d).chains k x = if k ∈ d.writes ∧ (before e.chains k x).by_ = e.base + A then doneV (goDone e A d).1 (e.base + A) k else before e.chains k x := fun k x => before_goSets (by omega)
 refine ⟨h.s,fun k => ?_,fun k i hi hm => ?_,fun k i x hx hk => ?_,fun k i x hx hk => ?_,fun i x hx h1 => ?_,h.b⟩
 ·
  show (before (Proofs.YtmnociojijpdmaaGreatDoor.goNew e A d).chains k e.base).made = true
  rw [hbf]
  split
  ·
   rfl
  ·
   exact h.z k
 ·
  have hi' : i ≤ e.deeds.length := hi
  show RF.get (sq r e.deeds i) k = ((before (Proofs.YtmnociojijpdmaaGreatDoor.goNew e A d).chains k (e.base + i)).n,(before (Proofs.YtmnociojijpdmaaGreatDoor.goNew e A d).chains k (e.base + i)).has)
  have hm' : (before (Proofs.YtmnociojijpdmaaGreatDoor.goNew e A d).chains k (e.base + i)).made = true := hm
  rw [hbf] at hm' ⊢
  by_cases hc : k ∈ d.writes ∧ (before e.chains k (e.base + i)).by_ = e.base + A
  ·
   rw [if_pos hc]
   have hlt := before_lt (l := e.chains) (k := k) (b := e.base + i) (by rw [hc.2];omega)
   rw [hc.2] at hlt
   rw [h.stay hW k A i (by omega) hi' hc.2,← hg2 k hc.1]
   rfl
  ·
   rw [if_neg hc] at hm' ⊢
   exact h.m k i hi' hm'
 ·
  have hx' : e.deeds[i]? = some x := hx
  have hp := h.p k i x hx' hk
  show (before (Proofs.YtmnociojijpdmaaGreatDoor.goNew e A d).chains k (e.base + (i + 1 : Nat))).by_ = e.base + i ∧ ((e.state.set A 1)[i]? = some 1 → (before (Proofs.YtmnociojijpdmaaGreatDoor.goNew e A d).chains k (e.base + (i + 1 : Nat))).made = true)
  rw [hbf]
  by_cases hc : k ∈ d.writes ∧ (before e.chains k (e.base + (i + 1 : Nat))).by_ = e.base + A
  ·
   rw [if_pos hc]
   refine ⟨?_,fun _ => rfl⟩
   show e.base + A = e.base + i
   rw [← hc.2];exact hp.1
  ·
   rw [if_neg hc]
   refine ⟨hp.1,fun h1 => ?_⟩
   by_cases he : i = A
   ·
    subst he
    rw [hd] at hx'
    cases hx'
    exact absurd ⟨hk,hp.1⟩ hc
   ·
    rw [List.getElem?_set_ne (fun e => he e.symm)] at h1
    exact hp.2 h1
 ·
  have hx' : e.deeds[i]? = some x := hx
  show before (Proofs.YtmnociojijpdmaaGreatDoor.goNew e A d).chains k (e.base + (i + 1 : Nat)) = before (Proofs.YtmnociojijpdmaaGreatDoor.goNew e A d).chains k (e.base + i)
  rw [hbf,hbf,h.q k i x hx' hk]
 ·
  have hx' : e.deeds[i]? = some x := hx
  show (e.ends.set A (goDone e A d).2)[i]? = some (doD (sq r e.deeds i) x).2
  have h1' : (e.state.set A 1)[i]? = some 1 := h1
  by_cases he : i = A
  ·
   subst he
   rw [hd] at hx'
   cases hx'
   rw [List.getElem?_set_self (by omega),hg1]
  ·
   rw [List.getElem?_set_ne (fun e => he e.symm)] at h1' ⊢
   exact h.w i x hx' h1'
theorem sq_drop {r : List Pair} {l : List Deed} {m : Nat} : ∀ (i : Nat),m + i ≤ l.length → sq (sq r l m) (l.drop m) i = sq r l (m + i)
 | 0,_ => rfl
 | i + 1,h => by
  obtain ⟨d,hd⟩ : ∃ d,l[m + i]? = some d := ⟨l[m + i]'(by omega),List.getElem?_eq_getElem (by omega)⟩
  have hd' : (l.drop m)[i]? = some d := by rw [List.getElem?_drop];exact hd
  rw [sq_succ hd',sq_drop i (by omega),← Nat.add_assoc,sq_succ hd]
theorem clrV_keep {b : Int} {w : Version} : ∀ {l : List Version},w ∈ clrV b l → ¬ (w.by_ < b ∧ w.made = true ∧ w.has = false)
 | [],h => by simp [clrV] at h
 | v :: l,h => by
  simp only [clrV] at h
  split at h
  ·
   exact clrV_keep h
  ·
   next ho =>
   rcases List.mem_cons.1 h with rfl | h
   ·
    rintro ⟨h1,h2,h3⟩
    exact ho (by simp [old,h1,h2,h3])
   ·
    exact clrV_keep h
theorem before_clear {l : List Chain} (hs : Srt Chain.key l) (hv : ∀ c ∈ l,VSrt c.vs) {b x : Int} (hx : b ≤ x) (k : Str) :
  before (clear b l) k x = if (before l k x).by_ < b ∧ (before l k x).made = true ∧ (before l k x).has = false then noV else before l k x := by
 have h := seen_clear2 (k := k) (out := noV) hx hs hv
 by_cases hc : (before l k x).by_ < b ∧ (before l k x).made = true ∧ (before l k x).has = false
 ·
  rw [if_pos hc]
  rcases h with h | h
  ·
   have h' : before (clear b l) k x = before l k x := h
   rcases before_mem (clear b l) k x with h1 | ⟨c,h1,h2,h3,h4⟩
   ·
    exact h1
   ·
    obtain ⟨c0,h5,rfl⟩ := clear_mem h1
    rw [h'] at h3
    exact absurd hc (clrV_keep h3)
  ·
   exact h.2.2.1
 ·
  rw [if_neg hc]
  rcases h with h | h
  ·
   exact h
  ·
   exact absurd ⟨h.2.2.2,h.1,h.2.1⟩ hc
theorem QInv.clearE {e : Engine} {r : List Pair} (h : QInv e r) (hS : SInv e) (hW : WInv e) : QInv (clearE e) (sq r e.deeds (markN e.state)) := by
 have hml : markN e.state ≤ e.deeds.length := by rw [← hW.l];exact markN_le e.state
 have hb := h.b
 obtain ⟨M,hM⟩ : ∃ M,markN e.state = M := ⟨_,rfl⟩
 have hform : ∀ k x,e.base + M ≤ x → before (clear (e.base + M) e.chains) k x = if (before e.chains k x).by_ < e.base + M ∧ (before e.chains k x).made = true ∧ (before e.chains k x).has = false then noV else before e.chains k x := fun k x hx => before_clear hS.k hS.v hx k
 unfold RF.clearE
 rw [hM] at hml ⊢
 have hmade : ∀ k,(before e.chains k (e.base + M)).made = true := fun k => by
  cases hm : (before e.chains k (e.base + M)).made with
  | true => rfl
  | false =>
   rcases before_mem e.chains k (e.base + M) with h1 | ⟨c,h1,h2,h3,h4⟩
   ·
    rw [h1] at hm;cases hm
   ·
    obtain ⟨j,x,h5,h6,_⟩ := hW.n c h1 _ h3 hm
    have : j < markN e.state := by omega
    have := markN_one this
    rw [h6] at this;cases this
 refine ⟨sq_srt h.s hW.d M,fun k => ?_,fun k i hi hm => ?_,fun k i x hx hk => ?_,fun k i x hx hk => ?_,fun i x hx h1 => ?_,by show 0 ≤ e.base + (M : Int);omega⟩
 ·
  show (before (clear (e.base + M) e.chains) k (e.base + M)).made = true
  rw [hform k _ (Int.le_refl _)]
  split
  ·
   rfl
  ·
   exact hmade k
 ·
  have hi' : i ≤ e.deeds.length - M := by simpa using hi
  show RF.get (sq (sq r e.deeds M) (e.deeds.drop M) i) k = ((before (clear (e.base + M) e.chains) k (e.base + M + i)).n,(before (clear (e.base + M) e.chains) k (e.base + M + i)).has)
  have hm' : (before (clear (e.base + M) e.chains) k (e.base + M + i)).made = true := hm
  have hx : e.base + (M : Int) + (i : Int) = e.base + ((M + i : Nat) : Int) := by omega
  rw [sq_drop i (by omega)]
  rw [hx] at hm' ⊢
  rw [hform k _ (by omega)] at hm' ⊢
  by_cases hc : (before e.chains k (e.base + ((M + i : Nat) : Int))).by_ < e.base + M ∧ (before e.chains k (e.base + ((M + i : Nat) : Int))).made = true ∧ (before e.chains k (e.base + ((M + i : Nat) : Int))).has = false
  ·
   rw [if_pos hc,h.m k (M + i) (by omega) hc.2.1,hc.2.2,hW.bh k _ hc.2.2]
   rfl
  ·
   rw [if_neg hc] at hm' ⊢
   exact h.m k (M + i) (by omega) hm'
 ·
  have hx' : e.deeds[M + i]? = some x := by
   have : (e.deeds.drop M)[i]? = some x := hx
   rwa [List.getElem?_drop] at this
  obtain ⟨h1,h2⟩ := h.p k (M + i) x hx' hk
  show (before (clear (e.base + M) e.chains) k (e.base + M + (i + 1 : Nat))).by_ = e.base + M + i ∧ ((e.state.drop M)[i]? = some 1 → (before (clear (e.base + M) e.chains) k (e.base + M + (i + 1 : Nat))).made = true)
  have hxx : e.base + (M : Int) + ((i + 1 : Nat) : Int) = e.base + ((M + i + 1 : Nat) : Int) := by omega
  rw [hxx,List.getElem?_drop]
  rw [hform k _ (by omega),if_neg (by rw [h1];omega)]
  exact ⟨by rw [h1];omega,h2⟩
 ·
  have hx' : e.deeds[M + i]? = some x := by
   have : (e.deeds.drop M)[i]? = some x := hx
   rwa [List.getElem?_drop] at this
  have hq := h.q k (M + i) x hx' hk
  show before (clear (e.base + M) e.chains) k (e.base + M + (i + 1 : Nat)) = before (clear (e.base + M) e.chains) k (e.base + M + i)
  have hxx : e.base + (M : Int) + ((i + 1 : Nat) : Int) = e.base + ((M + i + 1 : Nat) : Int) := by omega
  have hxy : e.base + (M : Int) + (i : Int) = e.base + ((M + i : Nat) : Int) := by omega
  rw [hxx,hxy]
  rw [hform k _ (by omega),hform k _ (by omega),hq]
 ·
  have hx' : e.deeds[M + i]? = some x := by
   have : (e.deeds.drop M)[i]? = some x := hx
   rwa [List.getElem?_drop] at this
  have h1' : (e.state.drop M)[i]? = some 1 := h1
  rw [List.getElem?_drop] at h1'
  show (e.ends.drop M)[i]? = some (doD (sq (sq r e.deeds M) (e.deeds.drop M) i) x).2
  have hlt := (List.getElem?_eq_some_iff.1 hx').1
  rw [List.getElem?_drop,sq_drop i (by omega)]
  exact h.w (M + i) x hx' h1'
structure BInv (e : Engine) (r : List Pair) : Prop where
 S : SInv e
 W : WInv e
 Q : QInv e r
 n : e.ends.length = e.deeds.length
 t : ∀ s ∈ e.state,s = 0 ∨ s = 1
 u : ∀ (k : Str) (i : Nat) (d : Deed),e.deeds[i]? = some d → k ∈ d.writes → e.state[i]? = some 0 → (before e.chains k (e.base + (i + 1 : Nat))).made = false
theorem BInv.goNew {e : Engine} {r : List Pair} (h : BInv e r) {A : Nat} {d : Deed} (hd : e.deeds[A]? = some d) (hne : needs e A d = []) : BInv (Proofs.YtmnociojijpdmaaGreatDoor.goNew e A d) r := by
 have hb := h.Q.b
 refine ⟨h.S.goNew A d,h.W.goNew A d hd,h.Q.goNew h.W h.n hd hne,?_,fun s hs => ?_,fun k i x hx hk h0 => ?_⟩
 ·
  show (e.ends.set A _).length = e.deeds.length
  rw [List.length_set];exact h.n
 ·
  rcases List.mem_or_eq_of_mem_set (show s ∈ e.state.set A 1 from hs) with hs | hs
  ·
   exact h.t s hs
  ·
   exact .inr hs
 ·
  have hx' : e.deeds[i]? = some x := hx
  have h0' : (e.state.set A 1)[i]? = some 0 := h0
  have hiA : i ≠ A := fun e1 => by
   subst e1
   rw [List.getElem?_set_self (by rw [h.W.l];exact (List.getElem?_eq_some_iff.1 hd).1)] at h0'
   simp at h0'
  rw [List.getElem?_set_ne (fun e1 => hiA e1.symm)] at h0'
  have hp := (h.Q.p k i x hx' hk).1
  show (before (goSets (goDone e A d).1 (e.base + A) e.chains d.writes) k (e.base + (i + 1 : Nat))).made = false
  rw [before_goSets (by omega),if_neg (fun e1 => by have := e1.2;rw [hp] at this;omega)]
  exact h.u k i x hx' hk h0'
theorem BInv.goE {e : Engine} {r : List Pair} (h : BInv e r) (x : Int) : BInv (Proofs.YtmnociojijpdmaaGreatDoor.goE e x).1 r := by
 unfold Proofs.YtmnociojijpdmaaGreatDoor.goE
 split
 ·
  exact h
 unfold goAt
 cases hA : e.deeds[x.toNat]? with
 | none => exact h
 | some d =>
  dsimp only
  split
  ·
   exact h
  split
  ·
   next hn => exact h.goNew hA hn
  ·
   exact h
theorem BInv.clearE {e : Engine} {r : List Pair} (h : BInv e r) : BInv (RF.clearE e) (sq r e.deeds (markN e.state)) := by
 refine ⟨h.S.clearE,h.W.clearE,h.Q.clearE h.S h.W,?_,fun s hs => h.t s (List.mem_of_mem_drop hs),fun k i x hx hk h0 => ?_⟩
 ·
  show (e.ends.drop _).length = (e.deeds.drop _).length
  simp [h.n]
 ·
  have hx' : e.deeds[markN e.state + i]? = some x := by
   have : (e.deeds.drop (markN e.state))[i]? = some x := hx
   rwa [List.getElem?_drop] at this
  have h0' : e.state[markN e.state + i]? = some 0 := by
   have : (e.state.drop (markN e.state))[i]? = some 0 := h0
   rwa [List.getElem?_drop] at this
  show (before (clear (e.base + markN e.state) e.chains) k (e.base + markN e.state + (i + 1 : Nat))).made = false
  have hp := (h.Q.p k _ x hx' hk).1
  have hu := h.u k _ x hx' hk h0'
  rw [before_clear h.S.k h.S.v (by omega)]
  rw [show e.base + (markN e.state : Int) + ((i + 1 : Nat) : Int) = e.base + ((markN e.state + i + 1 : Nat) : Int) by omega]
  rw [if_neg (by rw [hp];omega)]
  exact hu
def seenP (cs : List Chain) (b : Int) (c : Chain) : Option Pair := if (before cs c.key b).has = true then some ⟨c.key,(before cs c.key b).n⟩ else none
theorem rowsAtGo_made {cs : List Chain} {b : Int} : ∀ {l : List Chain} {out : List Pair},(∀ c ∈ l,(before cs c.key b).made = true) → rowsAtGo cs b out l = (out ++ l.filterMap (seenP cs b),true)
 | [],out,_ => by simp [rowsAtGo]
 | c :: l,out,h => by
  have h1 := h c (List.mem_cons_self ..)
  have h2 : ∀ c ∈ l,(before cs c.key b).made = true := fun x hx => h x (List.mem_cons_of_mem _ hx)
  simp only [rowsAtGo]
  rw [if_neg (by rw [h1];simp)]
  by_cases hh : (before cs c.key b).has = true
  ·
   rw [if_pos hh,rowsAtGo_made h2,List.filterMap_cons_some (show seenP cs b c = some _ from if_pos hh)]
   simp
  ·
   rw [if_neg hh,rowsAtGo_made h2,List.filterMap_cons_none (show seenP cs b c = none from if_neg hh)]
theorem rowsAt_made {cs : List Chain} {b : Int} (hs : Srt Chain.key cs) (hb : ∀ k,(before cs k b).has = false → (before cs k b).n = 0) (h : ∀ k,(before cs k b).made = true) :
  (rowsAt cs b).2 = true ∧ Srt Pair.key (rowsAt cs b).1 ∧ ∀ k,RF.get (rowsAt cs b).1 k = ((before cs k b).n,(before cs k b).has) := by
 have he : rowsAt cs b = (cs.filterMap (seenP cs b),true) := rowsAtGo_made fun c _ => h c.key
 have hsr : Srt Pair.key (cs.filterMap (seenP cs b)) := by
  refine List.pairwise_filterMap.2 (List.Pairwise.imp (fun {x y} hxy p hp q hq => ?_) hs)
  unfold seenP at hp hq
  split at hp
  ·
   split at hq
   ·
    cases hp;cases hq;exact hxy
   ·
    cases hq
  ·
   cases hp
 rw [he]
 refine ⟨rfl,hsr,fun k => ?_⟩
 show RF.get (cs.filterMap (seenP cs b)) k = _
 cases hh : (before cs k b).has with
 | true =>
  rcases before_mem cs k b with h1 | ⟨c,h1,rfl,_,_⟩
  ·
   rw [h1] at hh;cases hh
  ·
   have hm : (⟨c.key,(before cs c.key b).n⟩ : Pair) ∈ cs.filterMap (seenP cs b) := List.mem_filterMap.2 ⟨c,h1,if_pos hh⟩
   exact get_of_mem hsr hm
 | false =>
  rw [hb k hh]
  refine get_absent fun p hp e => ?_
  obtain ⟨c,h1,h2⟩ := List.mem_filterMap.1 hp
  unfold seenP at h2
  split at h2
  ·
   next hc =>
   cases h2
   have e' : c.key = k := e
   rw [e',hh] at hc
   cases hc
  ·
   cases h2
theorem BInv.rows {e : Engine} {r : List Pair} (h : BInv e r) {i : Nat} (hi : i ≤ e.deeds.length) (hm : ∀ k,(before e.chains k (e.base + i)).made = true) : rowsAt e.chains (e.base + i) = (sq r e.deeds i,true) := by
 obtain ⟨h1,h2,h3⟩ := rowsAt_made h.S.k (fun k => h.W.bh k _) hm
 exact Prod.ext (get_ext h2 (sq_srt h.Q.s h.W.d i) fun k => by rw [h3,h.Q.m k i hi (hm k)]) h1
theorem wrongEntry_out {e : Entry} (h : wrongEntry e = 0) : (0 ≤ e.number ∧ e.number ≤ 11) ∧ e.deeds.length ≤ 6 ∧ wrongs e.deeds = 0 ∧ ∀ d ∈ e.deeds,wrongDeed d = 0 := by
 unfold wrongEntry at h
 split at h
 ·
  cases h
 split at h
 ·
  cases h
 exact ⟨by omega,by omega,h,wrongs_mem h⟩
structure RInv (r : Replica) : Prop where
 e : EInv r.engine (1 + 30 * r.next.toNat)
 b : ∃ q,BInv r.engine q
 n : 0 ≤ r.next ∧ r.next ≤ 12
 l : r.early.length ≤ 4
 w : ∀ x ∈ r.early,wrongEntry x = 0
 g : ∀ x ∈ r.early,r.next < x.number
 d : (r.early.map Entry.number).Nodup
structure DInv (r : Replica) : Prop where
 e : EInv r.engine (1 + 30 * r.next.toNat)
 b : ∃ q,BInv r.engine q
 n : 0 ≤ r.next ∧ r.next ≤ 12
 l : r.early.length ≤ 5
 w : ∀ x ∈ r.early,wrongEntry x = 0
 g : ∀ x ∈ r.early,r.next ≤ x.number
 d : (r.early.map Entry.number).Nodup
theorem RInv.D {r : Replica} (h : RInv r) : DInv r := ⟨h.e,h.b,h.n,by have := h.l;omega,h.w,fun x hx => by have := h.g x hx;omega,h.d⟩
theorem DInv.R {r : Replica} (h : DInv r) (hl : r.early.length ≤ 4) (hg : ∀ x ∈ r.early,r.next < x.number) : RInv r := ⟨h.e,h.b,h.n,hl,h.w,hg,h.d⟩
end Go.Proofs.YtmnociojijpdmaaGreatDoor
namespace Go.AX
open Go.RowKit
variable {cx : Cx} {g : Nat → Value} {σ σ' : St} {a : Act} {w w' : World} {nx : Nat}
variable {ty : TypeId} {pos : String} {af : Array Edge} {gd : Option (Nat × Bool)} {d : Nat}
theorem ok_gennew {op : Op} {l : List (Key × Val)} {n0 : Nat} (p : Value → Obj → Prop) (hd : d < cx.n)
  (hex : ∀ σ a w g nx,SimG cx σ a w g nx → App σ l → ∃ v o,(execOp a.eval ⟨some d,op,ty,pos,af,gd⟩).run cx.P w = .ok (.value v) (w.alloc o) ∧ blk v = some w.heap.size ∧ p v o) :
  OpOk cx ⟨some d,op,ty,pos,af,gd⟩ ⟨(.nx,.num n0) :: l,[(.s d,.av (.h n0)),(.o n0,.ob (.gen p)),(.nx,.num (n0 + 1))]⟩ := by
 rintro σ a w K Q ⟨g,nx,hs⟩ hr hK
 obtain ⟨hn,hl⟩ := hr
 have hnx : nx = n0 := by
  have h2 := hs.hnx
  rw [hn] at h2
  simpa using h2.symm
 subst hnx
 obtain ⟨v,o,hrun,hbv,hp⟩ := hex σ a w g nx hs hl
 have hb : Below w.heap.size w (w.alloc o) := (Below.refl _ _).alloc (Nat.le_refl _) _
 have hst : ObjStep cx σ g nx (nx + 1) w (w.alloc o) nx (.gen p) v :=
  ⟨.inl ⟨rfl,rfl⟩,hb.mono hs.below.size,fun c hc _ => hb.block c hc,fun c hc => .inr (by rw [hbv] at hc;cases hc;exact Nat.le_refl _)⟩
 have hG := SimG.obj hs hst (fun _ => ⟨w.heap.size,o,by rw [upd_same];exact hbv,hs.below.size,heap_alloc_new w _,by rw [upd_same];exact hp⟩) trivial
 refine wp_val rfl hrun (hK _ _ ?_)
 refine Sim.eqv (Sim.put hG hd (Below.refl _ _) (av := .h nx) ⟨.of get_cons_same,fun p' _ _ => (upd_same _ _ _).symm⟩ (Nat.lt_succ_self nx)) fun q => ?_
 cases q with
 | s i =>
  by_cases hi : i = d
  ·
   subst hi;rw [get_cons_same];exact get_cons_same.symm
  ·
   rw [get_cons_ne (by simpa using fun e => hi e.symm),objSt_s]
   exact ((get_cons_ne (by simpa using fun e => hi e.symm)).trans ((get_cons_ne (by simp)).trans (get_cons_ne (by simp)))).symm
 | o i =>
  rw [get_cons_ne (by simp)]
  by_cases hi : i = nx
  ·
   subst hi;rw [get_cons_same];exact ((get_cons_ne (by simp)).trans get_cons_same).symm
  ·
   rw [objSt_o hi]
   exact ((get_cons_ne (by simp)).trans ((get_cons_ne (by simpa using fun e => hi e.symm)).trans (get_cons_ne (by simp)))).symm
 | nx =>
  rw [get_cons_ne (by simp),objSt_nx]
  exact ((get_cons_ne (by simp)).trans ((get_cons_ne (by simp)).trans get_cons_same)).symm
theorem gen_set (hs : SimG cx σ a w g nx) {id b : Nat} {p p' : Value → Obj → Prop} {o' : Obj} (ho : get σ (.o id) = .ob (.gen p)) (hb : blk (g id) = some b) (hlt : b < w.heap.size) (hp : p' (g id) o') :
  SimG cx (objSt σ nx id (.gen p')) a { w with heap := w.heap.setIfInBounds b o' } (upd g id (g id)) nx := by
 have hoth : ∀ c,c ≠ b → ({ w with heap := w.heap.setIfInBounds b o' } : World).heap[c]? = w.heap[c]? := fun c hc => by
  show (w.heap.setIfInBounds b _)[c]? = _
  rw [Array.getElem?_setIfInBounds,if_neg (fun e => hc e.symm)]
 obtain ⟨hid,⟨b1,o1,h1,h2,h3,h4⟩,_⟩ := hs.objs id _ ho
 obtain rfl : b1 = b := Option.some.inj (h1.symm.trans hb)
 have hst : ObjStep cx σ g nx nx w { w with heap := w.heap.setIfInBounds b1 o' } id (.gen p') (g id) :=
  ⟨.inr ⟨rfl,_,ho,by simp [ObLe,upd_same]⟩,⟨rfl,rfl,rfl,by simp,fun c hc => hoth c (by omega)⟩,fun c hc hn => hoth c fun e => hn _ ho (by rw [hb,e]),fun c hc => .inl ⟨_,ho,hc⟩⟩
 exact SimG.obj hs hst (fun _ => ⟨b1,o',by rw [upd_same];exact hb,h2,by show (w.heap.setIfInBounds b1 _)[b1]? = _;rw [Array.getElem?_setIfInBounds,if_pos rfl,if_pos hlt],by rw [upd_same];exact hp⟩) trivial
theorem gen_at (hs : SimG cx σ a w g nx) {id : Nat} {p : Value → Obj → Prop} {x : Value} (ho : get σ (.o id) = .ob (.gen p)) (hr : Rep cx g σ w x (.h id)) :
  ∃ b o,blk x = some b ∧ blk (g id) = some b ∧ b < w.heap.size ∧ w.heap[b]? = some o ∧ p x o ∧ x = g id := by
 obtain ⟨_,⟨b,o,h1,h2,h3,h4⟩,_⟩ := hs.objs id _ ho
 have hx : x = g id := hr.2 _ ho rfl
 refine ⟨b,o,by rw [hx];exact h1,h1,?_,h3,by rw [hx];exact h4,hx⟩
 rcases Nat.lt_or_ge b w.heap.size with h | h
 ·
  exact h
 ·
  rw [Array.getElem?_eq_none h] at h3;cases h3
def ItP (s : List UInt8) (k : Nat) : Value → Obj → Prop := fun v o => (∃ b,v = .pointer (some ⟨b,0,none⟩)) ∧ o = .stringIter ⟨s.toArray⟩ k
theorem a_range {t : TypeId} {x : Operand} {s : List UInt8} {n0 : Nat} (hn : get σ .nx = .num n0) (hx : ev σ x = some (.d (.v (str s)))) (ht : cx.P.underlying t = some .string) (hd : Nat.blt d cx.n = true) :
  OA cx σ ⟨some d,.range t x,ty,pos,af,gd⟩ ⟨(.nx,.num n0) :: rdOf x (.d (.v (str s))),[(.s d,.av (.h n0)),(.o n0,.ob (.gen (ItP s 0))),(.nx,.num (n0 + 1))]⟩ := by
 refine ⟨ok_gennew (ItP s 0) (lt_of_blt hd) fun σ a w g nx hs hl => ⟨.pointer (some ⟨w.heap.size,0,none⟩),.stringIter ⟨s.toArray⟩ 0,?_,rfl,⟨_,rfl⟩,rfl⟩,hn,(ev_out hx).2⟩
 have hv := rep_v (hs.ev (ev_out hx).1 hl).1
 simp [execOp,hv,Instr.range,run_underlying ht,newObj,Result.andThen]
 rfl
theorem decode_ascii {s : List UInt8} {k : Nat} {c : UInt8} (h : s[k]? = some c) (hc : c.toNat < 128) : Utf8.decode ⟨s.toArray⟩ k = (c.toNat,1) := by
 have hg : (⟨s.toArray⟩ : ByteArray).get! (k + 0) = c := by
  show s.toArray[k + 0]! = c
  rw [Nat.add_zero,Array.getElem!_eq_getD,Array.getD_eq_getD_getElem?]
  simp [h]
 unfold Utf8.decode
 simp only [hg]
 rw [if_pos hc]
theorem a_next {x : Operand} {s : List UInt8} {k : Nat} {c : UInt8} (id : Nat) (hx : ev σ x = some (.h id)) (ho : get σ (.o id) = .ob (.gen (ItP s k))) (hk : s[k]? = some c) (hc : c.toNat < 128) (hd : Nat.blt d cx.n = true) :
  OA cx σ ⟨some d,.next x true,ty,pos,af,gd⟩ ⟨rdOf x (.h id) ++ [(.o id,.ob (.gen (ItP s k)))],
   [(.s d,.av (.tup [.d (.v (.bool true)),.d (.v (.int .i64 k)),.d (.v (.int .i32 c.toNat))])),(.o id,.ob (.gen (ItP s (k + 1))))]⟩ := by
 refine ⟨?_,(ev_out hx).2.append ⟨ho,trivial⟩⟩
 rintro σ a w K Q ⟨g,nx,hs⟩ hr hK
 have ho := hr.right.1
 obtain ⟨b,o,h1,h2,h3,h4,⟨⟨b',h7⟩,h5⟩,h6⟩ := gen_at hs ho (hs.ev (ev_out hx).1 hr.left).1
 subst h5
 obtain rfl : b' = b := by rw [h7] at h1;simpa [blk] using h1
 have hkl := (List.getElem?_eq_some_iff.1 hk).1
 have hdec := decode_ascii hk hc
 have hG := gen_set hs (p' := ItP s (k + 1)) (o' := .stringIter ⟨s.toArray⟩ (k + 1)) ho h2 h3 ⟨⟨b',by rw [← h6];exact h7⟩,rfl⟩
 have hrun : (execOp a.eval ⟨some d,.next x true,ty,pos,af,gd⟩).run cx.P w = .ok (.value (.tuple #[.bool true,.int .i64 k,.int .i32 c.toNat])) { w with heap := w.heap.setIfInBounds b' (.stringIter ⟨s.toArray⟩ (k + 1)) } := by
  have hsz : k < (⟨s.toArray⟩ : ByteArray).size := by show k < s.toArray.size;simpa using hkl
  have hget : (getObj b').run cx.P w = .ok (.stringIter ⟨s.toArray⟩ k) w := by simp [getObj,Sem.run,h4]
  have hset : ∀ o,(setObj b' o).run cx.P w = .ok () { w with heap := w.heap.setIfInBounds b' o } := fun o => by simp [setObj,Sem.run,h4]
  simp [execOp,h7,Instr.next,hget,hset,hsz,hdec,goInt,Result.andThen]
 refine wp_val rfl hrun (hK _ _ (Sim.eqv (Sim.put hG (lt_of_blt hd) (Below.refl _ _) (av := .tup [.d (.v (.bool true)),.d (.v (.int .i64 k)),.d (.v (.int .i32 c.toNat))]) ⟨_,rfl,rfl,fun j x av hj hc => ?_⟩ (by intro av hav;simp at hav;rcases hav with rfl | rfl | rfl <;> trivial)) fun q => ?_))
 ·
  match j,hj,hc with
  | 0,hj,hc => simp at hj hc;subst hj hc;exact Rd.v _
  | 1,hj,hc => simp at hj hc;subst hj hc;exact Rd.v _
  | 2,hj,hc => simp at hj hc;subst hj hc;exact Rd.v _
  | j + 3,hj,hc => simp at hj
 cases q with
 | s i =>
  by_cases hi : i = d
  ·
   subst hi;rw [get_cons_same];exact get_cons_same.symm
  ·
   rw [get_cons_ne (by simpa using fun e => hi e.symm),objSt_s]
   exact ((get_cons_ne (by simpa using fun e => hi e.symm)).trans (get_cons_ne (by simp))).symm
 | o i =>
  rw [get_cons_ne (by simp)]
  by_cases hi : i = id
  ·
   subst hi;rw [get_cons_same];exact ((get_cons_ne (by simp)).trans get_cons_same).symm
  ·
   rw [objSt_o hi]
   exact ((get_cons_ne (by simp)).trans (get_cons_ne (by simpa using fun e => hi e.symm))).symm
 | nx =>
  rw [get_cons_ne (by simp),objSt_nx]
  exact (((get_cons_ne (by simp)).trans (get_cons_ne (by simp))).trans hs.hnx).symm
theorem a_nextE {x : Operand} {s : List UInt8} {k : Nat} (id : Nat) (hx : ev σ x = some (.h id)) (ho : get σ (.o id) = .ob (.gen (ItP s k))) (hk : s.length ≤ k) (hd : Nat.blt d cx.n = true) :
  OA cx σ ⟨some d,.next x true,ty,pos,af,gd⟩ ⟨rdOf x (.h id) ++ [(.o id,.ob (.gen (ItP s k)))],[(.s d,.av (.tup [.d (.v (.bool false))]))]⟩ := by
 refine ⟨?_,(ev_out hx).2.append ⟨ho,trivial⟩⟩
 rintro σ a w K Q ⟨g,nx,hs⟩ hr hK
 have ho := hr.right.1
 obtain ⟨b,o,h1,h2,h3,h4,⟨⟨b',h7⟩,h5⟩,h6⟩ := gen_at hs ho (hs.ev (ev_out hx).1 hr.left).1
 subst h5
 obtain rfl : b' = b := by rw [h7] at h1;simpa [blk] using h1
 have hrun : (execOp a.eval ⟨some d,.next x true,ty,pos,af,gd⟩).run cx.P w = .ok (.value (.tuple #[.bool false])) w := by
  have hsz : ¬ k < (⟨s.toArray⟩ : ByteArray).size := by show ¬ k < s.toArray.size;simp;omega
  have hget : (getObj b').run cx.P w = .ok (.stringIter ⟨s.toArray⟩ k) w := by simp [getObj,Sem.run,h4]
  simp [execOp,h7,Instr.next,hget,hsz,Result.andThen]
 refine wp_val rfl hrun (hK _ _ (Sim.put hs (lt_of_blt hd) (Below.refl _ _) (av := .tup [.d (.v (.bool false))]) ⟨_,rfl,rfl,fun j x av hj hc => ?_⟩ (by intro av hav;simp at hav;subst hav;trivial)))
 match j,hj,hc with
 | 0,hj,hc => simp at hj hc;subst hj hc;exact Rd.v _
 | j + 1,hj,hc => simp at hj
end Go.AX
namespace Go.AX
open Go.RowKit Go.Lib
variable {cx : Cx} {g : Nat → Value} {σ σ' : St} {a : Act} {w w' : World} {nx : Nat}
variable {ty : TypeId} {pos : String} {af : Array Edge} {gd : Option (Nat × Bool)} {d : Nat}
theorem a_ft {t : TypeId} {x lo hi : Operand} {kd ke : IntKind} {m q : Int} {k : Nat} {rows out : List (List D)} {ti : TI} (hx : ev σ x = some (.d (.sl k rows))) (hlo : ev σ lo = some (.d (.v (.int kd m)))) (hhi : ev σ hi = some (.d (.v (.int ke q)))) (ht : tget cx.T t = some ti) (hk : slK ti = some k)
  (hd : Nat.blt d cx.n = true) (hc : cutI rows (some m) (some q) = some out) : OA cx σ ⟨some d,.slice t x (some lo) (some hi) none,ty,pos,af,gd⟩ ⟨rdOf x (.d (.sl k rows)) ++ (rdOf lo (.d (.v (.int kd m))) ++ rdOf hi (.d (.v (.int ke q)))),[(.s d,.av (.d (.sl k out)))]⟩ :=
 ⟨ok_slice (lt_of_blt hd) (ev_out hx).1 (.at_ (ev_out hlo).1) (.at_ (ev_out hhi).1) ht hk hc,(ev_out hx).2.append ((ev_out hlo).2.append (ev_out hhi).2)⟩
theorem cut_ft {rows : List (List D)} {m n : Nat} (h : m ≤ n) (hn : n ≤ rows.length) : cutI rows (some (m : Int)) (some (n : Int)) = some ((rows.take n).drop m) := by
 unfold cutI
 dsimp only [Option.getD]
 rw [if_pos (by omega)]
 simp
theorem bin_remI {P : Program} {t : TypeId} {a b r : Int} (hb : b ≠ 0) (h : a.tmod b = r) : BinR P .rem t (.int .i64 a) (.int .i64 b) (.int .i64 r) := by
 subst h;exact bin_rem hb
theorem tmod_sum {s c : Nat} : ((s : Int) * 257 + (c : Int) + 1).tmod 65521 = (((s * 257 + c + 1) % 65521 : Nat) : Int) := by
 rw [Int.tmod_eq_emod_of_nonneg (by omega)];omega
theorem bin_shrJ {P : Program} {t : TypeId} {k : IntKind} {a c r : Int} (hc : c = 8) (h : a / 256 = r) : BinR P .shr t (.int .i64 a) (.int k c) (.int .i64 r) := by
 subst hc h;exact bin_shr8
theorem bin_shlJ {P : Program} {t : TypeId} {k : IntKind} {n : Nat} {c : Int} (hc : c = 8) (h : n < 256) : BinR P .shl t (.int .i64 n) (.int k c) (.int .i64 ((n : Int) * 256)) := by
 subst hc;exact bin_shl8 h
theorem div_256 {s : Nat} : (s : Int) / 256 = ((s / 256 : Nat) : Int) := by omega
theorem wrap_u8_n {s : Nat} : IntKind.u8.wrap (s : Int) = ((s % 256 : Nat) : Int) := by
 rw [IntKind.wrap_u8];omega
theorem a_convW {s t : TypeId} {x : Operand} {ks kt : IntKind} {n m : Int} {si ti : TI} (hx : ev σ x = some (.d (.v (.int ks n)))) (hs' : tget cx.T s = some si) (hks : inK si = some ks) (ht : tget cx.T t = some ti) (hkt : inK ti = some kt) (hd : Nat.blt d cx.n = true) (hw : kt.wrap n = m) :
  OA cx σ ⟨some d,.convert s t x,ty,pos,af,gd⟩ ⟨rdOf x (.d (.v (.int ks n))),[(.s d,.av (.d (.v (.int kt m))))]⟩ := by
 refine ⟨ok_val rfl (lt_of_blt hd) fun σ a w g nx hs hr => ⟨.int kt m,w,?_,Below.refl _ _,Rd.v _,trivial⟩,(ev_out hx).2⟩
 have hv := rep_v (hs.ev (ev_out hx).1 hr).1
 have h1 := int_of (cx := cx) hs' hks
 have h2 := int_of (cx := cx) ht hkt
 have h3 : cx.P.intKind t = kt := by simp [Program.intKind,h2]
 have := run_convert_int (P := cx.P) w s t ks n (by simp [h1]) (by rw [h3];exact h2)
 rw [h3,hw] at this
 simp [execOp,hv,this]
theorem byte_row {s : Nat} (h : s < 256) : [D.v (.int .u8 (s : Int))] = byteD (UInt8.ofNat s) := by
 unfold byteD
 rw [UInt8.toNat_ofNat',Nat.mod_eq_of_lt h]
end Go.AX
namespace Go.RF
open Go.AX
def sumN : Nat → Str → Nat
 | s,[] => s
 | s,c :: r => sumN ((s * 257 + c.toNat + 1) % 65521) r
def linesD (l : List Deed) : Str := l.flatMap fun d => printD d ++ [10]
def headE (e : Entry) : Str := UInt8.ofNat e.number.toNat :: linesD e.deeds
def sum2 (s : Nat) : Str := [UInt8.ofNat (s / 256),UInt8.ofNat (s % 256)]
def bytesE (e : Entry) : Str := headE e ++ sum2 (sumN 1 (headE e))
def parseL : List Str → Except Int (List Deed)
 | [] => .ok []
 | s :: r => match parseE s with
  | .error e => .error e
  | .ok d => match parseL r with
   | .error e => .error e
   | .ok l => .ok (d :: l)
def bodyB (b : Str) : Str := (b.take (b.length - 2)).drop 1
def byteN (b : Str) (k : Nat) : Nat := (b.getD k 0).toNat
def parseB (b : Str) : Except Int Entry :=
 if b.length < 3 then .error 8
 else if sumN 1 (b.take (b.length - 2)) = byteN b (b.length - 2) * 256 + byteN b (b.length - 1) then
  (if (split (bodyB b) [10]).getLast? = some [] then match parseL (split (bodyB b) [10]).dropLast with
   | .error e => .error e
   | .ok ds => if wrongEntry ⟨byteN b 0,ds⟩ = 0 then .ok ⟨byteN b 0,ds⟩ else .error (wrongEntry ⟨byteN b 0,ds⟩)
  else .error 2)
 else .error 2
def noEntry : Entry := ⟨0,[]⟩
def resB : Except Int Entry → Entry × Int
 | .ok e => (e,0)
 | .error w => (noEntry,w)
abbrev encBytes (b : Str) : D := .sl 1 (b.map byteD)
end Go.RF
namespace Go.AX
open Go.RowKit Go.RF
variable {cx : Cx} {g : Nat → Value} {σ : St} {a : Act} {w w' : World} {nx : Nat}
variable {ty : TypeId} {pos : String} {af : Array Edge} {gd : Option (Nat × Bool)} {d : Nat}
theorem extract_str (s : List UInt8) (l h : Nat) : Value.string ((⟨s.toArray⟩ : ByteArray).extract l h) = str ((s.drop l).take (h - l)) := by
 have : (⟨s.toArray⟩ : ByteArray).extract l h = ⟨((s.drop l).take (h - l)).toArray⟩ := by
  apply ByteArray.ext
  rw [ByteArray.data_extract]
  simp
 rw [this];rfl
theorem a_sub {t : TypeId} {x lo hi : Operand} {kd ke : IntKind} {s : List UInt8} {l h : Nat} {ti : TI} (hx : ev σ x = some (.d (.v (str s)))) (hlo : ev σ lo = some (.d (.v (.int kd (l : Int))))) (hhi : ev σ hi = some (.d (.v (.int ke (h : Int)))))
  (ht : tget cx.T t = some ti) (hk : ti.kind = .str) (hd : Nat.blt d cx.n = true) (hlh : l ≤ h) (hh : h ≤ s.length) :
  OA cx σ ⟨some d,.slice t x (some lo) (some hi) none,ty,pos,af,gd⟩ ⟨rdOf x (.d (.v (str s))) ++ (rdOf lo (.d (.v (.int kd (l : Int)))) ++ rdOf hi (.d (.v (.int ke (h : Int))))),[(.s d,.av (.d (.v (str ((s.drop l).take (h - l))))))]⟩ := by
 refine ⟨ok_val rfl (lt_of_blt hd) fun σ1 a w g nx hs hr => ?_,(ev_out hx).2.append ((ev_out hlo).2.append (ev_out hhi).2)⟩
 have hv := rep_v (hs.ev (ev_out hx).1 hr.left).1
 have h1 := rep_v (hs.ev (ev_out hlo).1 hr.right.left).1
 have h2 := rep_v (hs.ev (ev_out hhi).1 hr.right.right).1
 have hu : cx.P.underlying t = some .string := by have := (cx.hT t ti ht).kind;rw [hk] at this;exact this.1
 refine ⟨_,w,?_,Below.refl _ _,Rd.v _,trivial⟩
 have hsz : (⟨s.toArray⟩ : ByteArray).size = s.length := rfl
 have e1 : ¬ ((h : Int) < 0) := by omega
 have e2 : ¬ ((l : Int) < 0) := by omega
 rw [← extract_str]
 simp [execOp,hv,h1,h2,str,Instr.sliceAt,Instr.slice,run_underlying hu,Instr.sliceBounds,Instr.sliceBound,asIntOf,hsz,hlh,hh,e1,e2]
theorem a_subF {t : TypeId} {x lo : Operand} {kd : IntKind} {s : List UInt8} {l : Nat} {ti : TI} (hx : ev σ x = some (.d (.v (str s)))) (hlo : ev σ lo = some (.d (.v (.int kd (l : Int)))))
  (ht : tget cx.T t = some ti) (hk : ti.kind = .str) (hd : Nat.blt d cx.n = true) (hh : l ≤ s.length) :
  OA cx σ ⟨some d,.slice t x (some lo) none none,ty,pos,af,gd⟩ ⟨rdOf x (.d (.v (str s))) ++ rdOf lo (.d (.v (.int kd (l : Int)))),[(.s d,.av (.d (.v (str (s.drop l)))))]⟩ := by
 refine ⟨ok_val rfl (lt_of_blt hd) fun σ1 a w g nx hs hr => ?_,(ev_out hx).2.append (ev_out hlo).2⟩
 have hv := rep_v (hs.ev (ev_out hx).1 hr.left).1
 have h1 := rep_v (hs.ev (ev_out hlo).1 hr.right).1
 have hu : cx.P.underlying t = some .string := by have := (cx.hT t ti ht).kind;rw [hk] at this;exact this.1
 refine ⟨_,w,?_,Below.refl _ _,Rd.v _,trivial⟩
 have hsz : (⟨s.toArray⟩ : ByteArray).size = s.length := rfl
 have e2 : ¬ ((l : Int) < 0) := by omega
 have he := extract_str s l s.length
 rw [List.take_of_length_le (by simp)] at he
 rw [← he]
 simp [execOp,hv,h1,str,Instr.sliceAt,Instr.slice,run_underlying hu,Instr.sliceBounds,Instr.sliceBound,asIntOf,hsz,hh,e2]
theorem a_noerr {t t' : TypeId} {x : Operand} {ms : Array (String × TypeId)} (hx : ev σ x = some (.d (.v .nilIface))) (ht : cx.P.underlying t = some (.interface ms)) (hd : Nat.blt d cx.n = true) :
  OA cx σ ⟨some d,.binOp .eql t x (.const .nilIface) t',ty,pos,af,gd⟩ ⟨rdOf x (.d (.v .nilIface)),[(.s d,.av (.d (.v (.bool true))))]⟩ := by
 refine ⟨ok_val rfl (lt_of_blt hd) fun σ1 a w g nx hs hr => ?_,(ev_out hx).2⟩
 have hv := rep_v (hs.ev (ev_out hx).1 hr).1
 refine ⟨.bool true,w,?_,Below.refl _ _,Rd.v _,trivial⟩
 have h : ∀ d : Nat,(Op.equalIn (d + 1) t .nilIface .nilIface).run cx.P w = .ok true w := fun d => by
  simp [Op.equalIn,run_underlying ht]
 have hg : eqGuard .eql t x (.const .nilIface) .nilIface .nilIface = pure () := by cases x <;> rfl
 have hc : a.eval (.const .nilIface) = .nilIface := rfl
 simp [execOp,hv,hc,hg,binOp,Op.equal,Op.maxDepth,h 9999]
end Go.AX
namespace Go.Proofs.YtmnociojijpdmaaGreatDoor
open Go.AX Go.RF
set_option maxRecDepth 100000
set_option maxHeartbeats 4000000
theorem splitF_len (sep : Str) : ∀ (n : Nat) (cur r : Str),(splitF sep n cur r).length ≤ n + 1
 | 0,cur,r => by simp [splitF]
 | n + 1,cur,r => by
  simp only [splitF]
  split
  ·
   simp
  split
  ·
   have := splitF_len sep n [] (r.drop sep.length);simp;omega
  cases r with
  | nil => simp
  | cons c t => have := splitF_len sep n (cur ++ [c]) t;simp;omega
theorem splitF_succ (sep : Str) (n : Nat) (cur r : Str) : splitF sep (n + 1) cur r = if r.length < sep.length then [cur ++ r]
  else if r.take sep.length = sep then cur :: splitF sep n [] (r.drop sep.length)
  else match r with
   | [] => [cur]
   | c :: t => splitF sep n (cur ++ [c]) t := by cases r <;> rfl
theorem ok_split (s sep : Str) (hs : s.length ≤ 1073741000) (hp : sep ≠ []) (hp2 : sep.length ≤ 1000) : FnOk Tryz.prog 108 [.d (dstr s),.d (dstr sep)] (.one (encStrs (split s sep))) := by
 refine fnOk_of tbl_ok mixed_ok Tryz.func108 rfl (by kernel_rfl) rfl rfl fun w0 own0 => ?_
 have hp0 : 0 < sep.length := List.length_pos_iff.2 hp
 have hst0 : StopA 3 := ⟨rfl⟩
 try refine wkS ?_
 clear hst0
 refine Stop.go (CW.stut (stut_promote (i := 5) 9 1) ⟨rfl,rfl,trivial⟩ ?_)
 try refine wk ?_
 refine CW.loopT (fun t : Nat × Nat × List Str => [sd 0 (dstr s),sd 1 (dstr sep),sd 4 (.v nilS),so 5 0 t.2.2.length,oa 0 9 1 (t.2.2.map encStr1),sd 6 (dint t.1),sd 7 (dint t.2.1),nxt 1])
  (fun t => t.1 ≤ t.2.1 ∧ t.2.1 ≤ s.length ∧ t.2.2.length ≤ t.2.1 ∧ ∃ n,s.length ≤ n + t.2.1 ∧ t.2.2 ++ splitF sep n ((s.drop t.1).take (t.2.1 - t.1)) (s.drop t.2.1) = split s sep) (fun t => s.length - t.2.1) (0,0,[]) ⟨by dsimp only;omega,by dsimp only;omega,by dsimp only;simp,s.length,by dsimp only;omega,rfl⟩ ?_ ?_
 ·
  exact by_less
 ·
  rintro ⟨f,i,out⟩ ⟨hf,hi,ho,n,hn,hI⟩
  dsimp only at hf hi ho hn hI ⊢
  have hcr : (s.drop f).take (i - f) ++ s.drop i = s.drop f := by
   have := List.take_append_drop (i - f) (s.drop f)
   rw [List.drop_drop,show f + (i - f) = i by omega] at this
   exact this
  have hrl : (s.drop i).length = s.length - i := by simp
  by_cases h1 : i + sep.length ≤ s.length
  ·
   obtain ⟨n,rfl⟩ : ∃ m,n = m + 1 := ⟨n - 1,by omega⟩
   rw [splitF_succ,if_neg (by omega)] at hI
   have hcut : ((s.drop i).take (i + sep.length - i)) = (s.drop i).take sep.length := by congr 1;omega
   by_cases h2 : (s.drop i).take sep.length = sep
   ·
    rw [if_pos h2] at hI
    have h2' : (s.drop i).take (i + sep.length - i) = sep := hcut.trans h2
    repeat (first|((with_reducible apply s5);((with_reducible apply a_bs [[dstr ((s.drop f).take (i - f))]]);(iterate 9 exact rfl);(repeat (first | exact PartsE.nil | (apply PartsE.cons;exact rfl;exact rfl))));exact by_g)|refine wa1 ?_|((with_reducible apply s5);(first|((with_reducible apply (a_sub (l := i) (h := i + sep.length)));(iterate 6 exact rfl);omega;omega)|((with_reducible apply (a_sub (l := f) (h := i)));(iterate 6 exact rfl);omega;omega)|exact by_oa|exact by_ca);exact by_g)|refine wb ?_)
    refine q_loopT (i + sep.length,i + sep.length,out ++ [(s.drop f).take (i - f)]) ⟨by dsimp only;omega,by dsimp only;omega,by dsimp only;simp;omega,n,by dsimp only;omega,?_⟩ (by dsimp only;omega) ?_
    ·
     dsimp only
     rw [← hI,List.append_assoc,List.drop_drop,Nat.sub_self,List.take_zero]
     rfl
    exact by_less
   ·
    rw [if_neg h2] at hI
    have h2' : ¬ (s.drop i).take (i + sep.length - i) = sep := fun h => h2 (hcut.symm.trans h)
    have hlt : i < s.length := by omega
    rw [List.drop_eq_getElem_cons hlt] at hI
    dsimp only at hI
    repeat (first|refine wa ?_|((with_reducible apply s5);(first|((with_reducible apply (a_sub (l := i) (h := i + sep.length)));(iterate 6 exact rfl);omega;omega)|exact by_oa|exact by_ca);exact by_g)|refine wb ?_)
    refine q_loopT (f,i + 1,out) ⟨by dsimp only;omega,by dsimp only;omega,by dsimp only;omega,n,by dsimp only;omega,?_⟩ (by dsimp only;omega) ?_
    ·
     dsimp only
     rw [← hI,show i + 1 - f = (i - f) + 1 by omega,List.take_add_one,List.getElem?_drop,show f + (i - f) = i by omega,List.getElem?_eq_getElem hlt]
     rfl
    exact by_less
  ·
   have hfin : out ++ [s.drop f] = split s sep := by
    rw [← hI]
    cases n with
    | zero => rw [splitF,hcr]
    | succ n => rw [splitF_succ,if_pos (by omega),hcr]
   repeat (first|((with_reducible apply s5);((with_reducible apply a_bs [[dstr (s.drop f)]]);(iterate 9 exact rfl);(repeat (first | exact PartsE.nil | (apply PartsE.cons;exact rfl;exact rfl))));exact by_g)|refine wa1 ?_|((with_reducible apply s5);(first|((with_reducible apply (a_subF (l := f)));(iterate 5 exact rfl);omega)|exact by_oa|exact by_ca);exact by_g)|refine wb ?_)
   rw [← hfin,show encStrs (out ++ [s.drop f]) = .sl 1 (out.map encStr1 ++ [[dstr (s.drop f)]]) by simp [encStrs,encStr1]]
   exact .one (.tmp rfl (.one (.own rfl (by simp) (.refl _))))
theorem ok_words : FnOk Tryz.prog 103 [] (.one (encStrs words)) := by
 refine fnOk_of tbl_ok mixed_ok Tryz.func103 rfl (by kernel_rfl) rfl rfl fun w0 own0 => ?_
 repeat (first|((with_reducible apply s5);((with_reducible apply a_bs (words.map encStr1));(iterate 9 exact rfl);(repeat (first | exact PartsE.nil | (apply PartsE.cons;exact rfl;exact rfl))));exact by_g)|refine wa1 ?_|((with_reducible apply s5);(first|exact by_oa|exact by_ca);exact by_g)|refine wb ?_)
 exact .one (.tmp rfl (.one (.d (.refl _))))
theorem sumN_lt : ∀ {l : Str} {s : Nat},s < 65521 → sumN s l < 65521
 | [],s,h => h
 | c :: r,s,h => by simp only [sumN];exact sumN_lt (Nat.mod_lt _ (by omega))
theorem sumN_app : ∀ {l m : Str} {s : Nat},sumN s (l ++ m) = sumN (sumN s l) m
 | [],m,s => rfl
 | c :: l,m,s => by simp only [List.cons_append,sumN];exact sumN_app
theorem inv257 {x : Nat} (hx : x < 65521) : ((x * 257) % 65521 * 51499) % 65521 = x := by
 have h1 := Nat.mul_mod (x * 257) 51499 65521
 rw [show 51499 % 65521 = 51499 from rfl] at h1
 rw [← h1,show x * 257 * 51499 = x + 65521 * (x * 202) by omega,Nat.add_mul_mod_self_left,Nat.mod_eq_of_lt hx]
theorem mul257 {a b : Nat} (ha : a < 65521) (hb : b < 65521) (h : (a * 257) % 65521 = (b * 257) % 65521) : a = b := by
 rw [← inv257 ha,← inv257 hb,h]
theorem step_inj {a b : Nat} {c : UInt8} (ha : a < 65521) (hb : b < 65521) (h : (a * 257 + c.toNat + 1) % 65521 = (b * 257 + c.toNat + 1) % 65521) : a = b := by
 refine mul257 ha hb ?_
 omega
theorem sumN_inj : ∀ {l : Str} {a b : Nat},a < 65521 → b < 65521 → sumN a l = sumN b l → a = b
 | [],a,b,_,_,h => h
 | c :: r,a,b,ha,hb,h => by
  simp only [sumN] at h
  exact step_inj ha hb (sumN_inj (Nat.mod_lt _ (by omega)) (Nat.mod_lt _ (by omega)) h)
theorem sumN_turn {l m : Str} {c d : UInt8} (h : c ≠ d) : sumN 1 (l ++ c :: m) ≠ sumN 1 (l ++ d :: m) := by
 intro he
 rw [sumN_app,sumN_app] at he
 simp only [sumN] at he
 have hs := sumN_lt (l := l) (s := 1) (by omega)
 have h1 := sumN_inj (Nat.mod_lt _ (by omega)) (Nat.mod_lt _ (by omega)) he
 have hc := c.toNat_lt
 have hd := d.toNat_lt
 exact h (UInt8.toNat_inj.1 (by omega))
theorem toNat_ofNat {n : Nat} (h : n < 256) : (UInt8.ofNat n).toNat = n := by
 rw [UInt8.toNat_ofNat'];omega
def hiS (w : Str) : Prop := ∀ c ∈ w,32 ≤ c.toNat
theorem hiS_app {a b : Str} (ha : hiS a) (hb : hiS b) : hiS (a ++ b) := fun c hc => by
 rcases List.mem_append.1 hc with h | h
 ·
  exact ha c h
 ·
  exact hb c h
theorem key_hi {k : Str} (h : key k = true) : hiS k := by
 have : ∀ r : Str,keyGo k r = true → hiS r := by
  intro r
  induction r with
  | nil => intro _ c hc;cases hc
  | cons x r ih =>
   intro h
   simp only [keyGo] at h
   split at h
   ·
    cases h
   ·
    next hx =>
    intro c hc
    rcases List.mem_cons.1 hc with rfl | hc
    ·
     simp only [bad,Bool.or_eq_true,decide_eq_true_eq,not_or] at hx
     omega
    ·
     exact ih h c hc
 exact this k h
theorem words_hi : ∀ k : Nat,hiS (words.getD k []) := by
 intro k
 rcases Nat.lt_or_ge k 10 with h | h
 ·
  have : ∀ k : Fin 10,∀ c ∈ words.getD k.val [],32 ≤ c.toNat := by decide
  exact this ⟨k,h⟩
 ·
  rw [List.getD_eq_getElem?_getD,List.getElem?_eq_none (show words.length ≤ k from h)]
  intro c hc;cases hc
theorem itoa_hi (n : Int) : hiS (Lib.itoa n) := fun c hc => by
 have key : ∀ u : Nat,c ∈ Lib.decDigits u → 32 ≤ c.toNat := fun u h => by have := dec_clean u c h;omega
 unfold Lib.itoa at hc
 split at hc
 ·
  rcases List.mem_cons.1 hc with rfl | hc
  ·
   decide
  ·
   exact key _ hc
 ·
  exact key _ hc
theorem reg_hi (n : Int) : hiS (114 :: Lib.itoa n) := fun c hc => by
 rcases List.mem_cons.1 hc with rfl | hc
 ·
  decide
 ·
  exact itoa_hi n c hc
theorem field_hi {i : Ins} {c : UInt8} (hk : hiS i.key) : hiS (fieldW i c) := by
 unfold fieldW
 split
 ·
  exact reg_hi _
 split
 ·
  exact reg_hi _
 split
 ·
  exact itoa_hi _
 ·
  exact hk
theorem join_hi {sep : Str} (hs : hiS sep) : ∀ {ws : List Str},(∀ w ∈ ws,hiS w) → hiS (joinS sep ws)
 | [],_ => fun c hc => by cases hc
 | [w],h => h w (List.mem_cons_self ..)
 | w :: x :: r,h => by
  simp only [joinS]
  exact hiS_app (h w (List.mem_cons_self ..)) (hiS_app hs (join_hi hs fun y hy => h y (List.mem_cons_of_mem _ hy)))
theorem insW_hi {d : Deed} (h : wrongDeed d = 0) {i : Ins} (hi : i ∈ d.code) : ∀ w ∈ insW i,hiS w := by
 obtain ⟨m,_,hm⟩ := ins_wrong h hi
 obtain ⟨h1,h2⟩ := wrong_key h
 have hk : hiS i.key := by
  rcases wrongIns_key hm with h3 | h3 | h3
  ·
   rw [h3];intro c hc;cases hc
  ·
   exact key_hi (h1 _ h3)
  ·
   exact key_hi (h2 _ h3)
 intro w hw
 unfold insW at hw
 rcases List.mem_cons.1 hw with rfl | hw
 ·
  exact words_hi _
 ·
  obtain ⟨c,_,rfl⟩ := List.mem_map.1 hw
  exact field_hi hk
theorem printD_hi {d : Deed} (h : wrongDeed d = 0) : hiS (printD d) := by
 obtain ⟨h1,h2⟩ := wrong_key h
 have c0 : hiS wReads := by intro c hc;revert c;decide
 have c1 : hiS wWrites := by intro c hc;revert c;decide
 have s1 : hiS [32] := by intro c hc;revert c;decide
 have s2 : hiS [59,32] := by intro c hc;revert c;decide
 refine join_hi s2 fun w hm => ?_
 unfold partsD at hm
 rcases List.mem_cons.1 hm with rfl | hm
 ·
  refine join_hi s1 fun w hw => ?_
  rcases List.mem_cons.1 hw with rfl | hw
  ·
   exact c0
  ·
   exact key_hi (h1 w hw)
 rcases List.mem_cons.1 hm with rfl | hm
 ·
  refine join_hi s1 fun w hw => ?_
  rcases List.mem_cons.1 hw with rfl | hw
  ·
   exact c1
  ·
   exact key_hi (h2 w hw)
 obtain ⟨i,hi,rfl⟩ := List.mem_map.1 hm
 exact join_hi s1 (insW_hi h hi)
theorem printD_no10 {d : Deed} (h : wrongDeed d = 0) : (10 : UInt8) ∉ printD d := fun hm => absurd (printD_hi h 10 hm) (by decide)
theorem split_lines : ∀ {l : List Str},(∀ s ∈ l,(10 : UInt8) ∉ s) → split (l.flatMap fun s => s ++ [10]) [10] = l ++ [[]] := by
 intro l h
 have key : (l.flatMap fun s => s ++ [10]) = joinS [10] (l ++ [[]]) := by
  induction l with
  | nil => rfl
  | cons s l ih =>
   rw [List.flatMap_cons,ih fun x hx => h x (List.mem_cons_of_mem _ hx),List.cons_append,joinS_cons]
   cases l with
   | nil => simp [joinS,tailS]
   | cons x l => rw [List.cons_append,joinS_cons];simp [tailS]
 rw [key]
 exact join_split_id (by simp) fun w hw => by
  rcases List.mem_append.1 hw with hw | hw
  ·
   exact h w hw
  ·
   rw [List.mem_singleton.1 hw];simp
theorem linesD_eq (l : List Deed) : linesD l = (l.map printD).flatMap fun s => s ++ [10] := by
 unfold linesD
 rw [List.flatMap_map]
theorem parseL_of : ∀ {l : List Deed},(∀ d ∈ l,wrongDeed d = 0) → parseL (l.map printD) = .ok l
 | [],_ => rfl
 | d :: l,h => by
  simp only [List.map_cons,parseL]
  rw [parse_print (h d (List.mem_cons_self ..)),parseL_of fun x hx => h x (List.mem_cons_of_mem _ hx)]
def accL (acc : List Deed) : Except Int (List Deed) → Except Int (List Deed)
 | .error e => .error e
 | .ok l => .ok (acc ++ l)
theorem parseB_app (h0 : UInt8) (L : Str) (u v : UInt8) : parseB (h0 :: (L ++ [u,v])) =
  if sumN 1 (h0 :: L) = u.toNat * 256 + v.toNat then
   (if (split L [10]).getLast? = some [] then match parseL (split L [10]).dropLast with
    | .error e => .error e
    | .ok ds => if wrongEntry ⟨h0.toNat,ds⟩ = 0 then .ok ⟨h0.toNat,ds⟩ else .error (wrongEntry ⟨h0.toNat,ds⟩)
   else .error 2)
  else .error 2 := by
 have hl : (h0 :: (L ++ [u,v])).length = L.length + 3 := by simp
 have h1 : (h0 :: (L ++ [u,v])).take (L.length + 1) = h0 :: L := by simp
 have h2 : byteN (h0 :: (L ++ [u,v])) (L.length + 1) = u.toNat := by simp [byteN]
 have h3 : byteN (h0 :: (L ++ [u,v])) (L.length + 2) = v.toNat := by simp [byteN,List.getElem?_append_right]
 have h4 : byteN (h0 :: (L ++ [u,v])) 0 = h0.toNat := by simp [byteN]
 have h5 : bodyB (h0 :: (L ++ [u,v])) = L := by
  unfold bodyB
  rw [hl,show L.length + 3 - 2 = L.length + 1 by omega,h1]
  rfl
 unfold parseB
 rw [hl,if_neg (by omega),show L.length + 3 - 2 = L.length + 1 by omega,show L.length + 3 - 1 = L.length + 2 by omega,h1,h2,h3,h4,h5]
 all_goals rfl
theorem bytes_form {b : Str} (h : 3 ≤ b.length) : ∃ h0 L u v,b = h0 :: (L ++ [u,v]) := by
 match b,h with
 | c :: r,h =>
  have hl : r.length = (r.length - 2) + 2 := by simp at h;omega
  have h1 : r = r.take (r.length - 2) ++ r.drop (r.length - 2) := (List.take_append_drop _ _).symm
  have h2 : (r.drop (r.length - 2)).length = 2 := by rw [List.length_drop];omega
  match hd : r.drop (r.length - 2),h2 with
  | [u,v],_ => exact ⟨c,r.take (r.length - 2),u,v,by rw [hd] at h1;rw [← h1]⟩
theorem sum2_eq {s : Nat} (h : s < 65521) : (UInt8.ofNat (s / 256)).toNat * 256 + (UInt8.ofNat (s % 256)).toNat = s := by
 rw [toNat_ofNat (by omega),toNat_ofNat (by omega)];omega
theorem bytesE_eq (e : Entry) : bytesE e = UInt8.ofNat e.number.toNat :: (linesD e.deeds ++ [UInt8.ofNat (sumN 1 (headE e) / 256),UInt8.ofNat (sumN 1 (headE e) % 256)]) := rfl
theorem parse_bytes {e : Entry} (h : wrongEntry e = 0) : parseB (bytesE e) = .ok e := by
 obtain ⟨h1,h2,h3,h4⟩ := wrongEntry_out h
 have hs := sumN_lt (l := headE e) (s := 1) (by omega)
 have hsp : split (linesD e.deeds) [10] = e.deeds.map printD ++ [[]] := by
  rw [linesD_eq]
  exact split_lines fun s hs => by
   obtain ⟨d,hd,rfl⟩ := List.mem_map.1 hs
   exact printD_no10 (h4 d hd)
 have hhd : UInt8.ofNat e.number.toNat :: linesD e.deeds = headE e := rfl
 rw [bytesE_eq,parseB_app,hhd,if_pos (sum2_eq hs).symm,hsp,if_pos (by simp),List.dropLast_concat,parseL_of h4]
 have hn : ((UInt8.ofNat e.number.toNat).toNat : Int) = e.number := by rw [toNat_ofNat (by omega)];omega
 dsimp only
 rw [hn,if_pos h]
theorem byte_turned {e : Entry} {k : Nat} {c : UInt8} (hk : k < (bytesE e).length) (hc : (bytesE e)[k]? ≠ some c) : parseB ((bytesE e).set k c) = .error 2 := by
 have hs := sumN_lt (l := headE e) (s := 1) (by omega)
 have hsum := sum2_eq hs
 rw [bytesE_eq] at hk hc ⊢
 have hhd : headE e = UInt8.ofNat e.number.toNat :: linesD e.deeds := rfl
 rw [hhd] at hs hsum hk hc ⊢
 generalize UInt8.ofNat e.number.toNat = h0 at *
 generalize linesD e.deeds = L at *
 generalize UInt8.ofNat (sumN 1 (h0 :: L) / 256) = u at *
 generalize UInt8.ofNat (sumN 1 (h0 :: L) % 256) = v at *
 cases k with
 | zero =>
  rw [List.set_cons_zero,parseB_app,if_neg]
  intro he
  rw [hsum] at he
  have hne : c ≠ h0 := fun h => hc (by simp [h])
  exact sumN_turn (l := []) hne he
 | succ k =>
  rw [List.set_cons_succ]
  have hk' : k < L.length + 2 := by simpa using hk
  have hc' : (L ++ [u,v])[k]? ≠ some c := by simpa using hc
  rcases Nat.lt_or_ge k L.length with hlt | hge
  ·
   rw [List.set_append_left _ _ hlt,parseB_app,if_neg]
   intro he
   rw [hsum] at he
   rw [List.getElem?_append_left hlt,List.getElem?_eq_getElem hlt] at hc'
   have hne : c ≠ L[k] := fun h => hc' (by rw [h])
   have h1 : L.set k c = L.take k ++ c :: L.drop (k + 1) := by rw [List.set_eq_take_append_cons_drop,if_pos hlt]
   have h2 : L = L.take k ++ L[k] :: L.drop (k + 1) := by rw [← List.drop_eq_getElem_cons hlt,List.take_append_drop]
   have h3 := sumN_turn (l := h0 :: L.take k) (m := L.drop (k + 1)) hne
   rw [List.cons_append,List.cons_append,← h1,← h2] at h3
   exact h3 he
  ·
   rw [List.set_append_right _ _ hge]
   rw [List.getElem?_append_right hge] at hc'
   have hcl := c.toNat_lt
   have hul := u.toNat_lt
   have hvl := v.toNat_lt
   obtain ⟨j,hj⟩ : ∃ j,k - L.length = j := ⟨_,rfl⟩
   rw [hj] at hc' ⊢
   match j,hj with
   | 0,hj =>
    rw [List.set_cons_zero,parseB_app,if_neg]
    intro he
    have hne : c ≠ u := fun h => hc' (by simp [h])
    have : c.toNat ≠ u.toNat := fun h => hne (UInt8.toNat_inj.1 h)
    omega
   | 1,hj =>
    rw [List.set_cons_succ,List.set_cons_zero,parseB_app,if_neg]
    intro he
    have hne : c ≠ v := fun h => hc' (by simp [h])
    have : c.toNat ≠ v.toNat := fun h => hne (UInt8.toNat_inj.1 h)
    omega
   | j + 2,hj => omega
end Go.Proofs.YtmnociojijpdmaaGreatDoor
namespace Go.Proofs
open Go.Shelf Go.RowKit
noncomputable def Tryz.laysC172_ren : Go.Shelf.Ren := ⟨fun | 129 => 166 | 171 => 99 | 172 => 133 | 205 => 210 | 243 => 125 | 244 => 152 | 245 => 153 | 246 => 146 | 247 => 186 | 279 => 187 | 280 => 188 | 281 => 189 | 282 => 190 | 283 => 176 | 284 => 177 | 285 => 178 | 286 => 179 | 287 => 208 | 316 => 209 | 317 => 202 | 318 => 203 | 319 => 204 | 320 => 205 | 321 => 216 | 322 => 217 | 337 => 214 | 338 => 215 | n => n, fun | 0 => 0 | 2 => 2 | 3 => 3 | 4 => 4 | 5 => 5 | 9 => 9 | 20 => 20 | 21 => 21 | 37 => 54 | 46 => 102 | 51 => 196 | 53 => 198 | 75 => 163 | 76 => 164 | 85 => 215 | 127 => 181 | 143 => 250 | 145 => 252 | 167 => 214 | 168 => 217 | 171 => 209 | 173 => 211 | 175 => 239 | 210 => 243 | 212 => 231 | 213 => 232 | 232 => 254 | 233 => 255 | 80 => 166 | n => n, fun | 15 => (Tryz.prog.globals.findIdx? (·.name == "strconv.ErrSyntax")).getD 0 | 16 => (Tryz.prog.globals.findIdx? (·.name == "strconv.ErrRange")).getD 0 | 17 => (Tryz.prog.globals.findIdx? (·.name == "internal/strconv.uint64pow10")).getD 0 | 18 => (Tryz.prog.globals.findIdx? (·.name == "math/bits.deBruijn32tab")).getD 0 | 19 => (Tryz.prog.globals.findIdx? (·.name == "math/bits.deBruijn64tab")).getD 0 | n => n⟩
theorem Tryz.laysC172 : Go.Proofs.LaysC.n172 Tryz.prog Tryz.laysC172_ren := {
 mixed := by kernel_rfl
 f129 := Tryz.func166.trans (congrArg some (by kernel_rfl))
 f171 := Tryz.func99.trans (congrArg some (by kernel_rfl))
 f172 := Tryz.func133.trans (congrArg some (by kernel_rfl))
 f205 := Tryz.func210.trans (congrArg some (by kernel_rfl))
 f243 := Tryz.func125.trans (congrArg some (by kernel_rfl))
 f244 := Tryz.func152.trans (congrArg some (by kernel_rfl))
 f245 := Tryz.func153.trans (congrArg some (by kernel_rfl))
 f246 := Tryz.func146.trans (congrArg some (by kernel_rfl))
 f247 := Tryz.func186.trans (congrArg some (by kernel_rfl))
 f279 := Tryz.func187.trans (congrArg some (by kernel_rfl))
 f280 := Tryz.func188.trans (congrArg some (by kernel_rfl))
 f281 := Tryz.func189.trans (congrArg some (by kernel_rfl))
 f282 := Tryz.func190.trans (congrArg some (by kernel_rfl))
 f283 := Tryz.func176.trans (congrArg some (by kernel_rfl))
 f284 := Tryz.func177.trans (congrArg some (by kernel_rfl))
 f285 := Tryz.func178.trans (congrArg some (by kernel_rfl))
 f286 := Tryz.func179.trans (congrArg some (by kernel_rfl))
 f287 := Tryz.func208.trans (congrArg some (by kernel_rfl))
 f316 := Tryz.func209.trans (congrArg some (by kernel_rfl))
 f317 := Tryz.func202.trans (congrArg some (by kernel_rfl))
 f318 := Tryz.func203.trans (congrArg some (by kernel_rfl))
 f319 := Tryz.func204.trans (congrArg some (by kernel_rfl))
 f320 := Tryz.func205.trans (congrArg some (by kernel_rfl))
 f321 := Tryz.func216.trans (congrArg some (by kernel_rfl))
 f322 := Tryz.func217.trans (congrArg some (by kernel_rfl))
 f337 := Tryz.func214.trans (congrArg some (by kernel_rfl))
 f338 := Tryz.func215.trans (congrArg some (by kernel_rfl))
 t0 := Tryz.underlying0
 a0 := Tryz.isAgg0
 z0 := Tryz.sizeOf0
 v0 := Tryz.zeroValue0
 t2 := Tryz.underlying2
 a2 := Tryz.isAgg2
 z2 := Tryz.sizeOf2
 v2 := Tryz.zeroValue2
 t3 := Tryz.underlying3
 a3 := Tryz.isAgg3
 z3 := Tryz.sizeOf3
 v3 := Tryz.zeroValue3
 t4 := Tryz.underlying4
 a4 := Tryz.isAgg4
 z4 := Tryz.sizeOf4
 v4 := Tryz.zeroValue4
 t5 := Tryz.underlying5
 a5 := Tryz.isAgg5
 z5 := Tryz.sizeOf5
 v5 := Tryz.zeroValue5
 t9 := Tryz.underlying9
 a9 := Tryz.isAgg9
 z9 := Tryz.sizeOf9
 v9 := Tryz.zeroValue9
 t20 := Tryz.underlying20
 a20 := Tryz.isAgg20
 z20 := Tryz.sizeOf20
 v20 := Tryz.zeroValue20
 t21 := Tryz.underlying21
 a21 := Tryz.isAgg21
 z21 := Tryz.sizeOf21
 v21 := Tryz.zeroValue21
 t37 := Tryz.underlying54
 a37 := Tryz.isAgg54
 z37 := Tryz.sizeOf54
 v37 := Tryz.zeroValue54
 t46 := Tryz.underlying102
 a46 := Tryz.isAgg102
 z46 := Tryz.sizeOf102
 v46 := Tryz.zeroValue102
 t51 := Tryz.underlying196
 a51 := Tryz.isAgg196
 z51 := Tryz.sizeOf196
 v51 := Tryz.zeroValue196
 t53 := Tryz.underlying198
 a53 := Tryz.isAgg198
 z53 := Tryz.sizeOf198
 v53 := Tryz.zeroValue198
 t75 := Tryz.underlying163
 a75 := Tryz.isAgg163
 z75 := Tryz.sizeOf163
 v75 := Tryz.zeroValue163
 t76 := Tryz.underlying164
 a76 := Tryz.isAgg164
 z76 := Tryz.sizeOf164
 v76 := Tryz.zeroValue164
 t85 := Tryz.underlying215
 a85 := Tryz.isAgg215
 z85 := Tryz.sizeOf215
 v85 := Tryz.zeroValue215
 t127 := Tryz.underlying181
 a127 := Tryz.isAgg181
 z127 := Tryz.sizeOf181
 v127 := Tryz.zeroValue181
 t143 := Tryz.underlying250
 a143 := Tryz.isAgg250
 z143 := Tryz.sizeOf250
 v143 := Tryz.zeroValue250
 t145 := Tryz.underlying252
 a145 := Tryz.isAgg252
 z145 := Tryz.sizeOf252
 v145 := Tryz.zeroValue252
 t167 := Tryz.underlying214
 a167 := Tryz.isAgg214
 z167 := Tryz.sizeOf214
 v167 := Tryz.zeroValue214
 t168 := Tryz.underlying217
 a168 := Tryz.isAgg217
 z168 := Tryz.sizeOf217
 v168 := Tryz.zeroValue217
 t171 := Tryz.underlying209
 a171 := Tryz.isAgg209
 z171 := Tryz.sizeOf209
 v171 := Tryz.zeroValue209
 t173 := Tryz.underlying211
 a173 := Tryz.isAgg211
 z173 := Tryz.sizeOf211
 v173 := Tryz.zeroValue211
 t175 := Tryz.underlying239
 a175 := Tryz.isAgg239
 z175 := Tryz.sizeOf239
 v175 := Tryz.zeroValue239
 t210 := Tryz.underlying243
 a210 := Tryz.isAgg243
 z210 := Tryz.sizeOf243
 v210 := Tryz.zeroValue243
 t212 := Tryz.underlying231
 a212 := Tryz.isAgg231
 z212 := Tryz.sizeOf231
 v212 := Tryz.zeroValue231
 t213 := Tryz.underlying232
 a213 := Tryz.isAgg232
 z213 := Tryz.sizeOf232
 t232 := Tryz.underlying254
 a232 := Tryz.isAgg254
 z232 := Tryz.sizeOf254
 v232 := Tryz.zeroValue254
 t233 := Tryz.underlying255
 a233 := Tryz.isAgg255
 z233 := Tryz.sizeOf255
 v233 := Tryz.zeroValue255
 g15 := by kernel_rfl
 g16 := by kernel_rfl
 g17 := by kernel_rfl
 g18 := by kernel_rfl
 g19 := by kernel_rfl
 t80 := Tryz.underlying166
 a80 := Tryz.isAgg166
 z80 := Tryz.sizeOf166
 v80 := Tryz.zeroValue166
 i0 := by kernel_rfl
 i2 := by kernel_rfl
 i3 := by kernel_rfl
 i4 := by kernel_rfl
 i5 := by kernel_rfl
 i9 := by kernel_rfl
 i20 := by kernel_rfl
 i21 := by kernel_rfl
 i37 := by kernel_rfl
 i46 := by kernel_rfl
 i51 := by kernel_rfl
 i53 := by kernel_rfl
 i75 := by kernel_rfl
 i76 := by kernel_rfl
 i80 := by kernel_rfl
 i85 := by kernel_rfl
 i127 := by kernel_rfl
 i143 := by kernel_rfl
 i145 := by kernel_rfl
 i167 := by kernel_rfl
 i168 := by kernel_rfl
 i171 := by kernel_rfl
 i173 := by kernel_rfl
 i175 := by kernel_rfl
 i210 := by kernel_rfl
 i212 := by kernel_rfl
 i232 := by kernel_rfl
 i233 := by kernel_rfl
 m15 := by kernel_rfl
 m16 := by kernel_rfl
 m17 := by kernel_rfl
 m18 := by kernel_rfl
 m19 := by kernel_rfl
 c0 := by kernel_rfl
 c2 := by kernel_rfl
 c3 := by kernel_rfl
 c4 := by kernel_rfl
 c5 := by kernel_rfl
 c9 := by kernel_rfl
 c20 := by kernel_rfl
 c21 := by kernel_rfl
 c37 := by kernel_rfl
 c46 := by kernel_rfl
 c51 := by kernel_rfl
 c53 := by kernel_rfl
 c75 := by kernel_rfl
 c76 := by kernel_rfl
 c80 := by kernel_rfl
 c85 := by kernel_rfl
 c127 := by kernel_rfl
 c143 := by kernel_rfl
 c145 := by kernel_rfl
 c167 := by kernel_rfl
 c168 := by kernel_rfl
 c171 := by kernel_rfl
 c173 := by kernel_rfl
 c175 := by kernel_rfl
 c210 := by kernel_rfl
 c212 := by kernel_rfl
 c213 := by kernel_rfl
 c232 := by kernel_rfl
 c233 := by kernel_rfl
 }
noncomputable def Tryz.lays171_ren : Go.Shelf.Ren := ⟨fun | 129 => 166 | 171 => 99 | 243 => 125 | 246 => 146 | 283 => 176 | 284 => 177 | 285 => 178 | 286 => 179 | 317 => 202 | 318 => 203 | 319 => 204 | 320 => 205 | 337 => 214 | 338 => 215 | n => n, fun | 0 => 0 | 2 => 2 | 3 => 3 | 4 => 4 | 5 => 5 | 9 => 9 | 20 => 20 | 37 => 54 | 46 => 102 | 51 => 196 | 53 => 198 | 171 => 209 | 173 => 211 | 212 => 231 | 213 => 232 | 232 => 254 | 233 => 255 | n => n, fun | 17 => (Tryz.prog.globals.findIdx? (·.name == "internal/strconv.uint64pow10")).getD 0 | 18 => (Tryz.prog.globals.findIdx? (·.name == "math/bits.deBruijn32tab")).getD 0 | 19 => (Tryz.prog.globals.findIdx? (·.name == "math/bits.deBruijn64tab")).getD 0 | n => n⟩
theorem Tryz.lays171 : Go.Proofs.Lays.n171 Tryz.prog Tryz.lays171_ren := {
 mixed := by kernel_rfl
 f129 := Tryz.func166.trans (congrArg some (by kernel_rfl))
 f171 := Tryz.func99.trans (congrArg some (by kernel_rfl))
 f243 := Tryz.func125.trans (congrArg some (by kernel_rfl))
 f246 := Tryz.func146.trans (congrArg some (by kernel_rfl))
 f283 := Tryz.func176.trans (congrArg some (by kernel_rfl))
 f284 := Tryz.func177.trans (congrArg some (by kernel_rfl))
 f285 := Tryz.func178.trans (congrArg some (by kernel_rfl))
 f286 := Tryz.func179.trans (congrArg some (by kernel_rfl))
 f317 := Tryz.func202.trans (congrArg some (by kernel_rfl))
 f318 := Tryz.func203.trans (congrArg some (by kernel_rfl))
 f319 := Tryz.func204.trans (congrArg some (by kernel_rfl))
 f320 := Tryz.func205.trans (congrArg some (by kernel_rfl))
 f337 := Tryz.func214.trans (congrArg some (by kernel_rfl))
 f338 := Tryz.func215.trans (congrArg some (by kernel_rfl))
 t0 := Tryz.underlying0
 a0 := Tryz.isAgg0
 z0 := Tryz.sizeOf0
 v0 := Tryz.zeroValue0
 t2 := Tryz.underlying2
 a2 := Tryz.isAgg2
 z2 := Tryz.sizeOf2
 v2 := Tryz.zeroValue2
 t3 := Tryz.underlying3
 a3 := Tryz.isAgg3
 z3 := Tryz.sizeOf3
 v3 := Tryz.zeroValue3
 t4 := Tryz.underlying4
 a4 := Tryz.isAgg4
 z4 := Tryz.sizeOf4
 v4 := Tryz.zeroValue4
 t5 := Tryz.underlying5
 a5 := Tryz.isAgg5
 z5 := Tryz.sizeOf5
 v5 := Tryz.zeroValue5
 t9 := Tryz.underlying9
 a9 := Tryz.isAgg9
 z9 := Tryz.sizeOf9
 v9 := Tryz.zeroValue9
 t20 := Tryz.underlying20
 a20 := Tryz.isAgg20
 z20 := Tryz.sizeOf20
 v20 := Tryz.zeroValue20
 t37 := Tryz.underlying54
 a37 := Tryz.isAgg54
 z37 := Tryz.sizeOf54
 v37 := Tryz.zeroValue54
 t46 := Tryz.underlying102
 a46 := Tryz.isAgg102
 z46 := Tryz.sizeOf102
 v46 := Tryz.zeroValue102
 t51 := Tryz.underlying196
 a51 := Tryz.isAgg196
 z51 := Tryz.sizeOf196
 v51 := Tryz.zeroValue196
 t53 := Tryz.underlying198
 a53 := Tryz.isAgg198
 z53 := Tryz.sizeOf198
 v53 := Tryz.zeroValue198
 t171 := Tryz.underlying209
 a171 := Tryz.isAgg209
 z171 := Tryz.sizeOf209
 v171 := Tryz.zeroValue209
 t173 := Tryz.underlying211
 a173 := Tryz.isAgg211
 z173 := Tryz.sizeOf211
 v173 := Tryz.zeroValue211
 t212 := Tryz.underlying231
 a212 := Tryz.isAgg231
 z212 := Tryz.sizeOf231
 v212 := Tryz.zeroValue231
 t213 := Tryz.underlying232
 a213 := Tryz.isAgg232
 z213 := Tryz.sizeOf232
 t232 := Tryz.underlying254
 a232 := Tryz.isAgg254
 z232 := Tryz.sizeOf254
 v232 := Tryz.zeroValue254
 t233 := Tryz.underlying255
 a233 := Tryz.isAgg255
 z233 := Tryz.sizeOf255
 v233 := Tryz.zeroValue255
 g17 := by kernel_rfl
 g18 := by kernel_rfl
 g19 := by kernel_rfl
 }
noncomputable def Tryz.laysM171_ren : Go.Shelf.Ren := ⟨fun | 129 => 166 | 171 => 99 | 243 => 125 | 246 => 146 | 283 => 176 | 284 => 177 | 285 => 178 | 286 => 179 | 317 => 202 | 318 => 203 | 319 => 204 | 320 => 205 | 337 => 214 | 338 => 215 | n => n, fun | 0 => 0 | 2 => 2 | 3 => 3 | 4 => 4 | 5 => 5 | 9 => 9 | 20 => 20 | 37 => 54 | 46 => 102 | 51 => 196 | 53 => 198 | 171 => 209 | 173 => 211 | 212 => 231 | 213 => 232 | 232 => 254 | 233 => 255 | n => n, fun | 17 => (Tryz.prog.globals.findIdx? (·.name == "internal/strconv.uint64pow10")).getD 0 | 18 => (Tryz.prog.globals.findIdx? (·.name == "math/bits.deBruijn32tab")).getD 0 | 19 => (Tryz.prog.globals.findIdx? (·.name == "math/bits.deBruijn64tab")).getD 0 | n => n⟩
theorem Tryz.laysM171 : Go.Proofs.LaysM.n171 Tryz.prog Tryz.laysM171_ren := {
 mixed := by kernel_rfl
 f129 := Tryz.func166.trans (congrArg some (by kernel_rfl))
 f171 := Tryz.func99.trans (congrArg some (by kernel_rfl))
 f243 := Tryz.func125.trans (congrArg some (by kernel_rfl))
 f246 := Tryz.func146.trans (congrArg some (by kernel_rfl))
 f283 := Tryz.func176.trans (congrArg some (by kernel_rfl))
 f284 := Tryz.func177.trans (congrArg some (by kernel_rfl))
 f285 := Tryz.func178.trans (congrArg some (by kernel_rfl))
 f286 := Tryz.func179.trans (congrArg some (by kernel_rfl))
 f317 := Tryz.func202.trans (congrArg some (by kernel_rfl))
 f318 := Tryz.func203.trans (congrArg some (by kernel_rfl))
 f319 := Tryz.func204.trans (congrArg some (by kernel_rfl))
 f320 := Tryz.func205.trans (congrArg some (by kernel_rfl))
 f337 := Tryz.func214.trans (congrArg some (by kernel_rfl))
 f338 := Tryz.func215.trans (congrArg some (by kernel_rfl))
 t0 := Tryz.underlying0
 a0 := Tryz.isAgg0
 z0 := Tryz.sizeOf0
 v0 := Tryz.zeroValue0
 t2 := Tryz.underlying2
 a2 := Tryz.isAgg2
 z2 := Tryz.sizeOf2
 v2 := Tryz.zeroValue2
 t3 := Tryz.underlying3
 a3 := Tryz.isAgg3
 z3 := Tryz.sizeOf3
 v3 := Tryz.zeroValue3
 t4 := Tryz.underlying4
 a4 := Tryz.isAgg4
 z4 := Tryz.sizeOf4
 v4 := Tryz.zeroValue4
 t5 := Tryz.underlying5
 a5 := Tryz.isAgg5
 z5 := Tryz.sizeOf5
 v5 := Tryz.zeroValue5
 t9 := Tryz.underlying9
 a9 := Tryz.isAgg9
 z9 := Tryz.sizeOf9
 v9 := Tryz.zeroValue9
 t20 := Tryz.underlying20
 a20 := Tryz.isAgg20
 z20 := Tryz.sizeOf20
 v20 := Tryz.zeroValue20
 t37 := Tryz.underlying54
 a37 := Tryz.isAgg54
 z37 := Tryz.sizeOf54
 v37 := Tryz.zeroValue54
 t46 := Tryz.underlying102
 a46 := Tryz.isAgg102
 z46 := Tryz.sizeOf102
 v46 := Tryz.zeroValue102
 t51 := Tryz.underlying196
 a51 := Tryz.isAgg196
 z51 := Tryz.sizeOf196
 v51 := Tryz.zeroValue196
 t53 := Tryz.underlying198
 a53 := Tryz.isAgg198
 z53 := Tryz.sizeOf198
 v53 := Tryz.zeroValue198
 t171 := Tryz.underlying209
 a171 := Tryz.isAgg209
 z171 := Tryz.sizeOf209
 v171 := Tryz.zeroValue209
 t173 := Tryz.underlying211
 a173 := Tryz.isAgg211
 z173 := Tryz.sizeOf211
 v173 := Tryz.zeroValue211
 t212 := Tryz.underlying231
 a212 := Tryz.isAgg231
 z212 := Tryz.sizeOf231
 v212 := Tryz.zeroValue231
 t213 := Tryz.underlying232
 a213 := Tryz.isAgg232
 z213 := Tryz.sizeOf232
 t232 := Tryz.underlying254
 a232 := Tryz.isAgg254
 z232 := Tryz.sizeOf254
 v232 := Tryz.zeroValue254
 t233 := Tryz.underlying255
 a233 := Tryz.isAgg255
 z233 := Tryz.sizeOf255
 v233 := Tryz.zeroValue255
 g17 := by kernel_rfl
 g18 := by kernel_rfl
 g19 := by kernel_rfl
 i0 := by kernel_rfl
 i2 := by kernel_rfl
 i3 := by kernel_rfl
 i4 := by kernel_rfl
 i5 := by kernel_rfl
 i9 := by kernel_rfl
 i20 := by kernel_rfl
 i37 := by kernel_rfl
 i46 := by kernel_rfl
 i51 := by kernel_rfl
 i53 := by kernel_rfl
 i171 := by kernel_rfl
 i173 := by kernel_rfl
 i212 := by kernel_rfl
 i232 := by kernel_rfl
 i233 := by kernel_rfl
 m17 := by kernel_rfl
 m18 := by kernel_rfl
 m19 := by kernel_rfl
 }
end Go.Proofs
namespace Go.AX
open Go.RowKit
variable {cx : Cx} {g : Nat → Value} {σ σ' : St} {a : Act} {w w' : World} {nx : Nat}
variable {ty : TypeId} {pos : String} {af : Array Edge} {gd : Option (Nat × Bool)} {d : Nat}
def errP (_w : World) (_own : Nat → Prop) (v : Value) : Prop := ∃ t p,v = .iface t p
def errD : D := .x errP
theorem err_stable : Stable errP := fun _ _ _ _ _ _ _ h => h
theorem rd_err {own : Nat → Prop} {t : TypeId} {p : Value} : Rd w own (.iface t p) errD := .x errP _ rfl err_stable ⟨t,p,rfl⟩
theorem a_err {t t' : TypeId} {x : Operand} {ms : Array (String × TypeId)} (hx : ev σ x = some (.d errD)) (ht : cx.P.underlying t = some (.interface ms)) (hd : Nat.blt d cx.n = true) :
  OA cx σ ⟨some d,.binOp .eql t x (.const .nilIface) t',ty,pos,af,gd⟩ ⟨rdOf x (.d errD),[(.s d,.av (.d (.v (.bool false))))]⟩ := by
 refine ⟨ok_val rfl (lt_of_blt hd) fun σ1 a w g nx hs hr => ?_,(ev_out hx).2⟩
 obtain ⟨t1,p1,hv⟩ := rd_x (hs.ev (ev_out hx).1 hr).1
 refine ⟨.bool false,w,?_,Below.refl _ _,Rd.v _,trivial⟩
 have h : ∀ d : Nat,(Op.equalIn (d + 1) t (.iface t1 p1) .nilIface).run cx.P w = .ok false w := fun d => by
  simp [Op.equalIn,run_underlying ht]
 have hg : eqGuard .eql t x (.const .nilIface) (.iface t1 p1) .nilIface = pure () := by cases x <;> rfl
 have hc : a.eval (.const .nilIface) = .nilIface := rfl
 simp [execOp,hv,hc,hg,binOp,Op.equal,Op.maxDepth,h 9999]
end Go.AX
namespace Go.Proofs.YtmnociojijpdmaaGreatDoor
open Go.AX Go.RF Go.RowKit
set_option maxRecDepth 100000
set_option maxHeartbeats 4000000
def atoiV (s : Str) : Int := match Lib.atoiAll s with
 | .ok v => v
 | .range => Lib.atoiSat s
 | _ => 0
def atoiE (s : Str) : D := match Lib.atoiAll s with
 | .ok _ => .v .nilIface
 | _ => errD
theorem tup2 {w : World} {own : Nat → Prop} {u v : Value} {x y : D} (h1 : Rd w own u x) (h2 : Rd w own v y) : ResOk w own (.tuple #[u,v]) (.tup [x,y]) := by
 refine ⟨_,rfl,rfl,fun j c z hj hc => ?_⟩
 match j,hj,hc with
 | 0,hj,hc => simp at hj hc;subst hj hc;exact h1
 | 1,hj,hc => simp at hj hc;subst hj hc;exact h2
 | j + 2,hj,hc => simp at hj
theorem ok_atoiG (s : Str) (hs : s.length ≤ 1073741824) : FnOk Tryz.prog 133 [.d (dstr s)] (.tup [dint (atoiV s),atoiE s]) := by
 refine ⟨⟨_,Tryz.func133,by kernel_rfl,by kernel_rfl⟩,fun w own vs hown ha => ?_⟩
 match vs,ha with
 | [x],⟨h1,_⟩ =>
  obtain rfl : x = str s := rd_v h1
  have hsz : (⟨s.toArray⟩ : ByteArray).size = s.length := by show s.toArray.size = _;simp
  cases hc : Lib.atoiAll s with
  | ok v =>
   refine (Any.strconv_Atoi_ok Tryz.laysC172 ⟨s.toArray⟩ (by rw [hsz];omega) v (by simpa using hc) w).mono fun e w' he => ?_
   obtain ⟨rfl,hw⟩ := he
   refine ⟨_,rfl,?_,?_⟩
   ·
    rcases hw with rfl | ⟨t,rfl⟩
    ·
     exact Below.refl _ _
    ·
     exact Lib.bytesWorld_below _ _ _
   ·
    unfold atoiV atoiE;rw [hc];exact tup2 (Rd.v _) (Rd.v _)
  | range =>
   obtain ⟨cs,hv,tp,p,rfl⟩ := hown.2.er _ Tryz.laysC172.m16
   refine (Any.strconv_Atoi_range_var Tryz.laysC172 ⟨s.toArray⟩ (by rw [hsz];omega) (by simpa using hc) tp p w hv).mono fun e w' he => ?_
   obtain ⟨N,rfl,_,_,hb⟩ := he
   refine ⟨_,rfl,hb,?_⟩
   unfold atoiV atoiE;rw [hc];exact tup2 (Rd.v _) rd_err
  | _ =>
   obtain ⟨cs,hv,tp,p,rfl⟩ := hown.2.es _ Tryz.laysC172.m15
   refine (Any.strconv_Atoi_syntax_var Tryz.laysC172 ⟨s.toArray⟩ (by rw [hsz];omega) (by simpa using hc) tp p w hv).mono fun e w' he => ?_
   obtain ⟨N,rfl,_,_,hb⟩ := he
   refine ⟨_,rfl,hb,?_⟩
   unfold atoiV atoiE;rw [hc];exact tup2 (Rd.v _) rd_err
theorem ok_itoaG (n : Int) (h0 : -9223372036854775808 ≤ n) (h1 : n ≤ 9223372036854775807) : FnOk Tryz.prog 99 [.d (dint n)] (.one (dstr (Lib.itoa n))) := by
 refine ⟨⟨_,Tryz.func99,by kernel_rfl,by kernel_rfl⟩,fun w own vs hown ha => ?_⟩
 match vs,ha with
 | [x],⟨h2,_⟩ =>
  obtain rfl : x = i64 n := rd_v h2
  have htab : Lib.TabIs Tryz.prog w "internal/strconv.uint64pow10" .u64 Lib.pow10Tab := by
   obtain ⟨cs,hv,rfl⟩ := hown.2.pow _ Tryz.laysM171.m17
   exact hv
  refine (Any.strconv_Itoa Tryz.laysM171 n h0 h1 w htab).mono fun e w' he => ?_
  obtain ⟨rfl,k,os,rfl⟩ := he
  refine ⟨_,rfl,?_,Rd.v _⟩
  exact ⟨rfl,rfl,rfl,(by show w.heap.size ≤ (w.heap ++ os).size;simp),fun k hk => (by show (w.heap ++ os)[k]? = w.heap[k]?;exact Array.getElem?_append_left hk)⟩
theorem atoi_in {s : Str} {v : Int} (h : Lib.atoiAll s = .ok v) : -9223372036854775808 ≤ v ∧ v ≤ 9223372036854775807 := Lib.atoiAll_bounds h
end Go.Proofs.YtmnociojijpdmaaGreatDoor
namespace Go.Proofs
open Go.Shelf Go.RowKit
noncomputable def Tryz.lays146_ren : Go.Shelf.Ren := ⟨fun | 138 => 128 | 143 => 129 | 146 => 67 | 195 => 147 | 197 => 148 | 217 => 181 | 218 => 149 | 219 => 150 | 221 => 105 | 224 => 183 | 225 => 182 | 260 => 180 | 266 => 206 | 267 => 184 | 268 => 127 | 314 => 207 | n => n, fun | 0 => 0 | 3 => 3 | 4 => 4 | 5 => 5 | 9 => 9 | 21 => 21 | 31 => 69 | 46 => 102 | 51 => 196 | 105 => 183 | 119 => 233 | 138 => 235 | 139 => 236 | 146 => 237 | n => n, fun | 1 => (Tryz.prog.globals.findIdx? (·.name == "internal/bytealg.MaxLen")).getD 0 | 3 => (Tryz.prog.globals.findIdx? (·.name == "unicode/utf8.first")).getD 0 | 4 => (Tryz.prog.globals.findIdx? (·.name == "unicode/utf8.acceptRanges")).getD 0 | n => n⟩
theorem Tryz.lays146 : Go.Proofs.Lays.n146 Tryz.prog Tryz.lays146_ren := {
 mixed := by kernel_rfl
 f138 := Tryz.func128.trans (congrArg some (by kernel_rfl))
 f143 := Tryz.func129.trans (congrArg some (by kernel_rfl))
 f146 := Tryz.func67.trans (congrArg some (by kernel_rfl))
 f195 := Tryz.func147.trans (congrArg some (by kernel_rfl))
 f197 := Tryz.func148.trans (congrArg some (by kernel_rfl))
 f217 := Tryz.func181.trans (congrArg some (by kernel_rfl))
 f218 := Tryz.func149.trans (congrArg some (by kernel_rfl))
 f219 := Tryz.func150.trans (congrArg some (by kernel_rfl))
 f221 := Tryz.func105.trans (congrArg some (by kernel_rfl))
 f224 := Tryz.func183.trans (congrArg some (by kernel_rfl))
 f225 := Tryz.func182.trans (congrArg some (by kernel_rfl))
 f260 := Tryz.func180.trans (congrArg some (by kernel_rfl))
 f266 := Tryz.func206.trans (congrArg some (by kernel_rfl))
 f267 := Tryz.func184.trans (congrArg some (by kernel_rfl))
 f268 := Tryz.func127.trans (congrArg some (by kernel_rfl))
 f314 := Tryz.func207.trans (congrArg some (by kernel_rfl))
 t0 := Tryz.underlying0
 a0 := Tryz.isAgg0
 z0 := Tryz.sizeOf0
 v0 := Tryz.zeroValue0
 t3 := Tryz.underlying3
 a3 := Tryz.isAgg3
 z3 := Tryz.sizeOf3
 v3 := Tryz.zeroValue3
 t4 := Tryz.underlying4
 a4 := Tryz.isAgg4
 z4 := Tryz.sizeOf4
 v4 := Tryz.zeroValue4
 t5 := Tryz.underlying5
 a5 := Tryz.isAgg5
 z5 := Tryz.sizeOf5
 v5 := Tryz.zeroValue5
 t9 := Tryz.underlying9
 a9 := Tryz.isAgg9
 z9 := Tryz.sizeOf9
 v9 := Tryz.zeroValue9
 t21 := Tryz.underlying21
 a21 := Tryz.isAgg21
 z21 := Tryz.sizeOf21
 v21 := Tryz.zeroValue21
 t31 := Tryz.underlying69
 a31 := Tryz.isAgg69
 z31 := Tryz.sizeOf69
 v31 := Tryz.zeroValue69
 t46 := Tryz.underlying102
 a46 := Tryz.isAgg102
 z46 := Tryz.sizeOf102
 v46 := Tryz.zeroValue102
 t51 := Tryz.underlying196
 a51 := Tryz.isAgg196
 z51 := Tryz.sizeOf196
 v51 := Tryz.zeroValue196
 t105 := Tryz.underlying183
 a105 := Tryz.isAgg183
 z105 := Tryz.sizeOf183
 v105 := Tryz.zeroValue183
 t119 := Tryz.underlying233
 a119 := Tryz.isAgg233
 z119 := Tryz.sizeOf233
 t138 := Tryz.underlying235
 a138 := Tryz.isAgg235
 z138 := Tryz.sizeOf235
 v138 := Tryz.zeroValue235
 t139 := Tryz.underlying236
 a139 := Tryz.isAgg236
 z139 := Tryz.sizeOf236
 v139 := Tryz.zeroValue236
 t146 := Tryz.underlying237
 a146 := Tryz.isAgg237
 z146 := Tryz.sizeOf237
 v146 := Tryz.zeroValue237
 g1 := by kernel_rfl
 g3 := by kernel_rfl
 g4 := by kernel_rfl
 }
noncomputable def Tryz.lays103_ren : Go.Shelf.Ren := ⟨fun | 103 => 131 | 206 => 185 | 210 => 151 | n => n,fun | 3 => 3 | 4 => 4 | 9 => 9 | 24 => 171 | n => n,fun | n => n⟩
theorem Tryz.lays103 : Go.Proofs.Lays.n103 Tryz.prog Tryz.lays103_ren := {
 mixed := by kernel_rfl
 f103 := Tryz.func131.trans (congrArg some (by kernel_rfl))
 f206 := Tryz.func185.trans (congrArg some (by kernel_rfl))
 f210 := Tryz.func151.trans (congrArg some (by kernel_rfl))
 t3 := Tryz.underlying3
 a3 := Tryz.isAgg3
 z3 := Tryz.sizeOf3
 v3 := Tryz.zeroValue3
 t4 := Tryz.underlying4
 a4 := Tryz.isAgg4
 z4 := Tryz.sizeOf4
 v4 := Tryz.zeroValue4
 t9 := Tryz.underlying9
 a9 := Tryz.isAgg9
 z9 := Tryz.sizeOf9
 v9 := Tryz.zeroValue9
 t24 := Tryz.underlying171
 a24 := Tryz.isAgg171
 z24 := Tryz.sizeOf171
 v24 := Tryz.zeroValue171
 }
noncomputable def Tryz.lays156_ren : Go.Shelf.Ren := ⟨fun | 156 => 96 | 165 => 122 | 166 => 123 | 169 => 124 | 240 => 144 | 241 => 145 | 276 => 174 | 277 => 175 | n => n,fun | 0 => 0 | 3 => 3 | 4 => 4 | 5 => 5 | 9 => 9 | 20 => 20 | 31 => 69 | 37 => 54 | 70 => 158 | 72 => 160 | 75 => 163 | 76 => 164 | 80 => 166 | 127 => 181 | 164 => 206 | n => n,fun | n => n⟩
theorem Tryz.lays156 : Go.Proofs.Lays.n156 Tryz.prog Tryz.lays156_ren := {
 mixed := by kernel_rfl
 f156 := Tryz.func96.trans (congrArg some (by kernel_rfl))
 f165 := Tryz.func122.trans (congrArg some (by kernel_rfl))
 f166 := Tryz.func123.trans (congrArg some (by kernel_rfl))
 f169 := Tryz.func124.trans (congrArg some (by kernel_rfl))
 f240 := Tryz.func144.trans (congrArg some (by kernel_rfl))
 f241 := Tryz.func145.trans (congrArg some (by kernel_rfl))
 f276 := Tryz.func174.trans (congrArg some (by kernel_rfl))
 f277 := Tryz.func175.trans (congrArg some (by kernel_rfl))
 t0 := Tryz.underlying0
 a0 := Tryz.isAgg0
 z0 := Tryz.sizeOf0
 v0 := Tryz.zeroValue0
 t3 := Tryz.underlying3
 a3 := Tryz.isAgg3
 z3 := Tryz.sizeOf3
 v3 := Tryz.zeroValue3
 t4 := Tryz.underlying4
 a4 := Tryz.isAgg4
 z4 := Tryz.sizeOf4
 v4 := Tryz.zeroValue4
 t9 := Tryz.underlying9
 a9 := Tryz.isAgg9
 z9 := Tryz.sizeOf9
 v9 := Tryz.zeroValue9
 t20 := Tryz.underlying20
 a20 := Tryz.isAgg20
 z20 := Tryz.sizeOf20
 v20 := Tryz.zeroValue20
 t31 := Tryz.underlying69
 a31 := Tryz.isAgg69
 z31 := Tryz.sizeOf69
 v31 := Tryz.zeroValue69
 t37 := Tryz.underlying54
 a37 := Tryz.isAgg54
 z37 := Tryz.sizeOf54
 v37 := Tryz.zeroValue54
 t70 := Tryz.underlying158
 a70 := Tryz.isAgg158
 z70 := Tryz.sizeOf158
 v70 := Tryz.zeroValue158
 t72 := Tryz.underlying160
 a72 := Tryz.isAgg160
 z72 := Tryz.sizeOf160
 v72 := Tryz.zeroValue160
 t75 := Tryz.underlying163
 a75 := Tryz.isAgg163
 z75 := Tryz.sizeOf163
 v75 := Tryz.zeroValue163
 t76 := Tryz.underlying164
 a76 := Tryz.isAgg164
 z76 := Tryz.sizeOf164
 v76 := Tryz.zeroValue164
 t127 := Tryz.underlying181
 a127 := Tryz.isAgg181
 z127 := Tryz.sizeOf181
 v127 := Tryz.zeroValue181
 t164 := Tryz.underlying206
 a164 := Tryz.isAgg206
 z164 := Tryz.sizeOf206
 v164 := Tryz.zeroValue206
 }
theorem Tryz.bld156 : Go.Proofs.Builder.Extra Tryz.prog Tryz.lays156_ren := {
 sizeBuilder := by kernel_rfl
 liesBuilder := by kernel_rfl
 t5 := Tryz.underlying5
 a5 := Tryz.isAgg5
 z5 := Tryz.sizeOf5
 v5 := Tryz.zeroValue5
 infoByte := by kernel_rfl
 cellsByte := by kernel_rfl
 sizeByte := by kernel_rfl
 neB5 := by decide
 }
end Go.Proofs
namespace Go.AX
open Go.RowKit
variable {cx : Cx} {g : Nat → Value} {σ σ' : St} {a : Act} {w w' : World} {nx : Nat} {kk : IntKind}
variable {ty : TypeId} {pos : String} {af : Array Edge} {gd : Option (Nat × Bool)} {d : Nat}
theorem bytes_append (a b : List UInt8) : (⟨a.toArray⟩ : ByteArray) ++ ⟨b.toArray⟩ = ⟨(a ++ b).toArray⟩ := by
 apply ByteArray.ext
 simp
theorem bin_sadd {P : Program} {t : TypeId} {a b : List UInt8} (h : a.length + b.length ≤ 4611686018427387904) : BinR P .add t (str a) (str b) (str (a ++ b)) := by
 intro w x y
 have h1 : (⟨a.toArray⟩ : ByteArray).size = a.length := by show a.toArray.size = _;simp
 have h2 : (⟨b.toArray⟩ : ByteArray).size = b.length := by show b.toArray.size = _;simp
 have h3 : ¬ (((⟨a.toArray⟩ : ByteArray).size + (⟨b.toArray⟩ : ByteArray).size : Nat) : Int) > IntKind.i64.max := by
  rw [h1,h2]
  show ¬ ((a.length + b.length : Nat) : Int) > 9223372036854775807
  omega
 simp only [str,Sem.run_bind,eqGuard,Sem.run_pure,Result.andThen_ok,binOp,Op.stringOp]
 rw [if_neg h3,bytes_append]
 rfl
end Go.AX
namespace Go.Proofs.YtmnociojijpdmaaGreatDoor
open Go.AX Go.RF Go.RowKit
set_option maxRecDepth 100000
set_option maxHeartbeats 8000000
theorem ok_lsplit (s sep : Str) (hs : s.length ≤ 1000000000) (hp : sep ≠ []) : FnOk Tryz.prog 67 [.d (dstr s),.d (dstr sep)] (.one (encStrs (split s sep))) := by
 refine ⟨⟨_,Tryz.func67,by kernel_rfl,by kernel_rfl⟩,fun w own vs hown ha => ?_⟩
 match vs,ha with
 | [x,y],⟨h1,h2,_⟩ =>
  obtain rfl : x = str s := rd_v h1
  obtain rfl : y = str sep := rd_v h2
  obtain ⟨cs, hv, m, hm⟩ := hown.2.mx _ (show Tryz.prog.globalNamed "internal/bytealg.MaxLen" = some (Tryz.lays146_ren.g 1) by kernel_rfl)
  have hm' : w.cell? ⟨Tryz.lays146_ren.g 1,0,none⟩ = some (.int .i64 m) := by rw [World.var?_cell (by kernel_rfl) hv 0];exact hm
  have hl : 1 ≤ (⟨sep.toArray⟩ : ByteArray).size := by
   show 1 ≤ sep.toArray.size
   have := List.length_pos_iff.2 hp
   rw [List.size_toArray];omega
  refine (Any.strings_Split Tryz.lays146 (by kernel_rfl) ⟨s.toArray⟩ ⟨sep.toArray⟩ m w (by show s.toArray.size < _;simp;omega) hm' hl).mono fun e w' he => ?_
  obtain ⟨rfl,rfl⟩ := he
  have hmap := Lib.splitB_data ⟨sep.toArray⟩ 0 (Lib.countB ⟨s.toArray⟩ ⟨sep.toArray⟩) ⟨s.toArray⟩
  have hlen := Lib.splitB_all ⟨sep.toArray⟩ hl 0 _ ⟨s.toArray⟩ rfl
  have hsp : (Lib.splitB ⟨sep.toArray⟩ 0 (Lib.countB ⟨s.toArray⟩ ⟨sep.toArray⟩) ⟨s.toArray⟩).map (·.data.toList) = split s sep := by
   rw [hmap,split_lib hp];rfl
  generalize Lib.splitB ⟨sep.toArray⟩ 0 (Lib.countB ⟨s.toArray⟩ ⟨sep.toArray⟩) ⟨s.toArray⟩ = L at hsp hlen
  refine ⟨_,rfl,(Below.refl _ _).alloc (Nat.le_refl _) _,?_⟩
  rw [← hlen]
  refine rd_new hown.1 ?_ (fun r hr => ?_) L.length ?_
  ·
   have hfl : ((split s sep).map encStr1).flatten = (split s sep).map dstr := by
    induction split s sep with
    | nil => rfl
    | cons x l ih => simp [encStr1,ih]
   rw [hfl,← hsp]
   refine ⟨by simp,fun c hc => ?_,fun j c x hj hc => ?_⟩
   ·
    simp at hc
    obtain ⟨b,_,rfl⟩ := hc
    rfl
   ·
    simp only [List.map_map,List.getElem?_map,Option.map_eq_some_iff] at hj hc
    obtain ⟨b,hb,rfl⟩ := hj
    obtain ⟨b',hb',rfl⟩ := hc
    rw [hb] at hb'
    cases hb'
    exact Rd.v _
  ·
   obtain ⟨q,_,rfl⟩ := List.mem_map.1 hr
   rfl
  ·
   rw [List.length_map,← hsp,List.length_map]
theorem ok_join (l : List Str) (sep : Str) (hl : l.length ≤ 1000000) (hj : (joinS sep l).length ≤ 1000000) : FnOk Tryz.prog 96 [.d (encStrs l),.d (dstr sep)] (.one (dstr (joinS sep l))) := by
 refine ⟨⟨_,Tryz.func96,by kernel_rfl,by kernel_rfl⟩,fun w own vs hown ha => ?_⟩
 match vs,ha with
 | [x,y],⟨h1,h2,_⟩ =>
  obtain rfl : y = str sep := rd_v h2
  have h1' : Rd w own x (.sl 1 (l.map encStr1)) := h1
  generalize hr : l.map encStr1 = rows at h1'
  generalize hd : D.sl 1 rows = dd at h1'
  cases h1' with
  | v => cases hd
  | x => cases hd
  | agg => cases hd
  | nil a cap k =>
   cases hd
   have : l = [] := by simpa using hr
   subst this
   refine (Any.strings_Join_none Tryz.lays156 Tryz.bld156 a cap ⟨sep.toArray⟩ w).mono fun e w' he => ?_
   obtain ⟨rfl,rfl⟩ := he
   exact ⟨_,rfl,Below.refl _ _,Rd.v _⟩
  | sl ad cap k rows' f hb hs hcap hk hc h3 hrd =>
   cases hd
   have hrl : rows.length = l.length := by rw [← hr,List.length_map]
   by_cases h0 : l = []
   ·
    subst h0
    rw [show rows.length = 0 by rw [hrl];rfl]
    refine (Any.strings_Join_none Tryz.lays156 Tryz.bld156 (some ad) cap ⟨sep.toArray⟩ w).mono fun e w' he => ?_
    obtain ⟨rfl,rfl⟩ := he
    exact ⟨_,rfl,Below.refl _ _,Rd.v _⟩
   have hcell : ∀ (j : Nat) (u : Str),l[j]? = some u → w.cell? (ad.add j) = some (str u) := fun j u hj => by
    have h4 : rows[j]? = some [dstr u] := by rw [← hr,List.getElem?_map,hj];rfl
    have h5 := hc j 0 _ _ h4 rfl
    rw [Nat.mul_one,Nat.add_zero] at h5
    rw [h5,rd_v (hrd j 0 _ _ h4 rfl)]
   obtain ⟨u0,hu0⟩ : ∃ u,l[0]? = some u := by
    cases l with
    | nil => exact absurd rfl h0
    | cons u l => exact ⟨u,rfl⟩
   obtain ⟨bk,o,sp⟩ := ad
   have hsp : sp = none := by
    have h6 := hcell 0 u0 hu0
    rw [add_zero] at h6
    unfold World.cell? at h6
    split at h6
    ·
     cases sp with
     | none => rfl
     | some q => simp at h6
    ·
     cases h6
   subst hsp
   rw [hrl] at hcap ⊢
   have hjl : Lib.join ((l.map fun u : Str => (⟨u.toArray⟩ : ByteArray)).map (·.data.toList)) (⟨sep.toArray⟩ : ByteArray).data.toList = joinS sep l := by
    have hml : (l.map fun u : Str => (⟨u.toArray⟩ : ByteArray)).map (·.data.toList) = l := by rw [List.map_map];exact (List.map_congr_left (fun u _ => rfl)).trans (List.map_id l)
    rw [hml,← join_lib]
   have key := Any.strings_Join Tryz.lays156 Tryz.bld156 bk o cap (l.map fun u => ⟨u.toArray⟩) ⟨sep.toArray⟩ w (fun j b hj => by
    rw [List.getElem?_map] at hj
    cases hlj : l[j]? with
    | none => rw [hlj] at hj;cases hj
    | some u =>
     rw [hlj] at hj
     obtain rfl : (⟨u.toArray⟩ : ByteArray) = b := by simpa using hj
     have := hcell j u hlj
     rw [add_lit] at this
     exact this) hs (by simp;omega) (by simpa using hcap) (by rw [hjl];omega)
   rw [hjl,List.length_map] at key
   refine key.mono fun e w' he => ?_
   obtain ⟨rfl,hb'⟩ := he
   exact ⟨_,rfl,hb',Rd.v _⟩
theorem ok_cutp (s p : Str) : FnOk Tryz.prog 131 [.d (dstr s),.d (dstr p)] (.tup [dstr (Lib.trimPrefix s p),dbool (Lib.hasPrefix s p)]) := by
 refine ⟨⟨_,Tryz.func131,by kernel_rfl,by kernel_rfl⟩,fun w own vs hown ha => ?_⟩
 match vs,ha with
 | [x,y],⟨h1,h2,_⟩ =>
  obtain rfl : x = str s := rd_v h1
  obtain rfl : y = str p := rd_v h2
  refine (Any.strings_CutPrefix Tryz.lays103 ⟨s.toArray⟩ ⟨p.toArray⟩ w).mono fun e w' he => ?_
  obtain ⟨rfl,rfl⟩ := he
  exact ⟨_,rfl,Below.refl _ _,tup2 (Rd.v _) (Rd.v _)⟩
theorem ok_number (s : Str) (hs : s.length ≤ 1073741824) : FnOk Tryz.prog 132 [.d (dstr s)] (.tup [dint (atoiV s),dbool (numV s).isSome]) := by
 refine fnOk_of tbl_ok mixed_ok Tryz.func132 rfl (by kernel_rfl) rfl rfl fun w0 own0 => ?_
 have c1 := ok_atoiG s hs
 unfold atoiV atoiE at c1
 unfold atoiV numV
 cases hc : Lib.atoiAll s with
 | ok v =>
  rw [hc] at c1
  have hb := atoi_in hc
  have c2 := ok_itoaG v hb.1 hb.2
  dsimp only at c1 ⊢
  generalize Lib.itoa v = t at c2 ⊢
  by_cases hv : t = s
  ·
   rw [if_pos hv]
   repeat (first|refine wa ?_|((with_reducible apply s5);(first|((with_reducible apply a_noerr);exact rfl;exact Tryz.underlying163;exact rfl)|exact by_oa|exact by_ca);exact by_g)|refine wb ?_)
   exact .two (.tmp rfl (.one (.d (.refl _)))) (.tmp rfl (.one (.d (dle_bool (by simp [hv])))))
  ·
   rw [if_neg hv]
   repeat (first|refine wa ?_|((with_reducible apply s5);(first|((with_reducible apply a_noerr);exact rfl;exact Tryz.underlying163;exact rfl)|exact by_oa|exact by_ca);exact by_g)|refine wb ?_)
   exact .two (.tmp rfl (.one (.d (.refl _)))) (.tmp rfl (.one (.d (dle_bool (by simp [hv])))))
 | range =>
  rw [hc] at c1
  dsimp only at c1 ⊢
  generalize Lib.atoiSat s = q at c1 ⊢
  repeat (first|refine wa ?_|((with_reducible apply s5);(first|((with_reducible apply a_err);exact rfl;exact Tryz.underlying163;exact rfl)|exact by_oa|exact by_ca);exact by_g)|refine wb ?_)
  exact .two (.tmp rfl (.one (.d (.refl _)))) (.tmp rfl (.one (.d (.refl _))))
 | _ =>
  rw [hc] at c1
  dsimp only at c1 ⊢
  repeat (first|refine wa ?_|((with_reducible apply s5);(first|((with_reducible apply a_err);exact rfl;exact Tryz.underlying163;exact rfl)|exact by_oa|exact by_ca);exact by_g)|refine wb ?_)
  exact .two (.tmp rfl (.one (.d (.refl _)))) (.tmp rfl (.one (.d (.refl _))))
theorem ok_twords : FnOk Tryz.prog 97 [] (.one (encStrs words.tail)) := by
 refine fnOk_of tbl_ok mixed_ok Tryz.func97 rfl (by kernel_rfl) rfl rfl fun w0 own0 => ?_
 repeat (first|((with_reducible apply s5);((with_reducible apply a_bs (words.tail.map encStr1));(iterate 9 exact rfl);(repeat (first | exact PartsE.nil | (apply PartsE.cons;exact rfl;exact rfl))));exact by_g)|refine wa1 ?_|((with_reducible apply s5);(first|exact by_oa|exact by_ca);exact by_g)|refine wb ?_)
 exact .one (.tmp rfl (.one (.d (.refl _))))
theorem fields_at {k : Nat} (h : k < 9) : forms.tail[k]? = some (form (k + 1)) := by
 have : ∀ k : Fin 9,forms.tail[k.val]? = some (form (k.val + 1)) := by decide
 exact this ⟨k,h⟩
theorem ok_fields (k : Nat) (h1 : 1 ≤ k) (h9 : k ≤ 9) : FnOk Tryz.prog 98 [.d (dint k)] (.one (dstr (form k))) := by
 refine fnOk_of tbl_ok mixed_ok Tryz.func98 rfl (by kernel_rfl) rfl rfl fun w0 own0 => ?_
 obtain ⟨j,rfl⟩ : ∃ j,k = j + 1 := ⟨k - 1,by omega⟩
 have h := fields_at (k := j) (by omega)
 have hx : ((j + 1 : Nat) : Int) - 1 = (j : Int) := by omega
 repeat (first|((with_reducible apply s5);((with_reducible apply a_bs (forms.tail.map encStr1));(iterate 9 exact rfl);(repeat (first | exact PartsE.nil | (apply PartsE.cons;exact rfl;exact rfl))));exact by_g)|refine wa1 ?_|((with_reducible apply s5);(first|((with_reducible apply a_ia);(iterate 5 exact rfl);rw [hx];exact idx_map h)|exact by_oa|exact by_ca);exact by_g)|refine wb ?_)
 exact .one (.tmp rfl (.one (.d (.refl _))))
set_option maxHeartbeats 16000000
theorem tailS_len {sep w : Str} {l : List Str} (h : w ∈ l) : w.length ≤ (tailS sep l).length := by
 induction l with
 | nil => cases h
 | cons x l ih =>
  simp only [tailS,List.length_append]
  rcases List.mem_cons.1 h with rfl | h
  ·
   omega
  ·
   have := ih h;omega
theorem joinS_part {sep w : Str} {l : List Str} (h : w ∈ l) : w.length ≤ (joinS sep l).length := by
 cases l with
 | nil => cases h
 | cons x l =>
  rw [joinS_cons]
  simp only [List.length_append]
  rcases List.mem_cons.1 h with rfl | h
  ·
   omega
  ·
   have := tailS_len (sep := sep) h;omega
theorem words_tail {K : Nat} (h1 : 1 ≤ K) (h9 : K ≤ 9) : words.tail[K - 1]? = some (words.getD K []) := by
 have : ∀ k : Fin 9,words.tail[k.val]? = some (words.getD (k.val + 1) []) := by decide
 have := this ⟨K - 1,by omega⟩
 rwa [show K - 1 + 1 = K by omega] at this
theorem take_snoc {α : Type} {l : List α} {n : Nat} {x : α} (h : l[n]? = some x) : l.take n ++ [x] = l.take (n + 1) := by
 rw [List.take_add_one,h];rfl
theorem ok_tprint (d : Deed) (hw : wrongDeed d = 0) (hd : d.Sm) (hF : (printD d).length ≤ 1000000) : FnOk Tryz.prog 63 [.d (.agg d.enc)] (.one (dstr (printD d))) := by
 refine fnOk_of tbl_ok mixed_ok Tryz.func63 rfl (by kernel_rfl) rfl rfl fun w0 own0 => ?_
 have hok := wrongDeed_ok hw
 have hnn := wrong_n hw
 have hr := hok.r
 have hwl := hok.w
 have hcl := hok.c
 have cj := fun (l : List Str) (hl : l.length ≤ 1000000) (h : joinS [32] l ∈ partsD d) => ok_join l [32] hl (Nat.le_trans (joinS_part (sep := [59,32]) h) hF)
 have cJ := ok_join (partsD d) [59,32] (by simp [partsD];omega) hF
 have hpl : (partsD d).length = 2 + d.code.length := by simp [partsD];omega
 have hp0 : (partsD d)[0]? = some (joinS [32] (wReads :: d.reads)) := rfl
 have hp1 : (partsD d)[1]? = some (joinS [32] (wWrites :: d.writes)) := rfl
 have hp2 : ∀ z i,d.code[z]? = some i → (partsD d)[2 + z]? = some (joinS [32] (insW i)) := fun z i h => by
  rw [Nat.add_comm]
  simp [partsD,h]
 have cw := ok_twords
 rw [show printD d = joinS [59,32] (partsD d) from rfl]
 rw [show printD d = joinS [59,32] (partsD d) from rfl] at hF
 generalize hPD : partsD d = PD at *
 have hst0 : StopA 2 := ⟨rfl⟩
 repeat (first|((with_reducible apply s5);((with_reducible apply a_bs ([d.reads,d.writes].map fun l => [encStrs l]));(iterate 9 exact rfl);(repeat (first | exact PartsE.nil | (apply PartsE.cons;exact rfl;exact rfl))));exact by_g)|refine wa1S ?_|((with_reducible apply s5);(first|exact by_oa|exact by_ca);exact by_g)|refine wb ?_)
 clear hst0
 refine Stop.go (CW.stut (stut_promote (i := 3) 9 1) ⟨rfl,rfl,trivial⟩ ?_)
 repeat (first|((with_reducible apply s5);((with_reducible apply a_bs ([d.reads,d.writes].map fun l => [encStrs l]));(iterate 9 exact rfl);(repeat (first | exact PartsE.nil | (apply PartsE.cons;exact rfl;exact rfl))));exact by_g)|refine wa1 ?_|((with_reducible apply s5);(first|exact by_oa|exact by_ca);exact by_g)|refine wb ?_)
 refine CW.loopT (fun t : Nat => [sp 1 0,ob 0 d.enc,so 3 1 (PD.take t).length,oa 1 9 1 ((PD.take t).map encStr1),sd 15 (.sl 1 ([d.reads,d.writes].map fun l => [encStrs l])),sd 16 (dint 2),sd 17 (dint t),nxt 2])
  (fun t => t ≤ 2) (fun t => 2 - t) 0 (by omega) ?_ ?_
 ·
  exact by_less
 ·
  intro t ht
  have hn0 : ([wReads,wWrites] : List Str)[0]? = some wReads := rfl
  have hn1 : ([wReads,wWrites] : List Str)[1]? = some wWrites := rfl
  have hd0 : ([d.reads,d.writes] : List (List Str))[0]? = some d.reads := rfl
  have hd1 : ([d.reads,d.writes] : List (List Str))[1]? = some d.writes := rfl
  match t,ht with
  | 0,_ =>
   have c1 := cj (wReads :: d.reads) (by simp;omega) (List.mem_of_getElem? hp0)
   have hts := take_snoc hp0
   generalize joinS [32] (wReads :: d.reads) = J at c1 hts
   repeat (first|((with_reducible apply s5);((with_reducible apply a_bs (([wReads,wWrites] : List Str).map encStr1));(iterate 9 exact rfl);(repeat (first | exact PartsE.nil | (apply PartsE.cons;exact rfl;exact rfl))));exact by_g)|((with_reducible apply s5);(with_reducible apply (a_bsO [encStr1 wReads]));(iterate 10 exact rfl);(repeat (first | exact PartsE.nil | (apply PartsE.cons;exact rfl;exact rfl)));exact by_g)|refine wa1 ?_|((with_reducible apply s5);(first|((with_reducible apply a_ia);(iterate 5 exact rfl);exact idx_map (k := 0) hd0)|((with_reducible apply a_ia);(iterate 5 exact rfl);exact idx_map (k := 0) hn0)|(focus ((with_reducible apply a_lend);exact c1;exact rfl;exact .plain rfl;(focus first | exact rfl | (simp;done) | (simp;omega));(iterate 2 exact rfl);exact by_sub))|exact by_oa|exact by_ca);exact by_g)|refine wb ?_)
   refine q_loopT 1 (by omega) (by omega) ?_
   rw [← hts]
   exact by_less
  | 1,_ =>
   have c1 := cj (wWrites :: d.writes) (by simp;omega) (List.mem_of_getElem? hp1)
   have hts := take_snoc hp1
   have htl : (PD.take 1).length = 1 := by rw [List.length_take];omega
   generalize joinS [32] (wWrites :: d.writes) = J at c1 hts
   generalize PD.take 1 = P1 at *
   repeat (first|((with_reducible apply s5);((with_reducible apply a_bs (([wReads,wWrites] : List Str).map encStr1));(iterate 9 exact rfl);(repeat (first | exact PartsE.nil | (apply PartsE.cons;exact rfl;exact rfl))));exact by_g)|((with_reducible apply s5);(with_reducible apply (a_bsO [encStr1 wWrites]));(iterate 10 exact rfl);(repeat (first | exact PartsE.nil | (apply PartsE.cons;exact rfl;exact rfl)));exact by_g)|refine wa1 ?_|((with_reducible apply s5);(first|((with_reducible apply a_ia);(iterate 5 exact rfl);exact idx_map (k := 1) hd1)|((with_reducible apply a_ia);(iterate 5 exact rfl);exact idx_map (k := 1) hn1)|(focus ((with_reducible apply a_lend);exact c1;exact rfl;exact .plain rfl;(focus first | exact rfl | (simp;done) | (simp;omega));(iterate 2 exact rfl);exact by_sub))|exact by_oa|exact by_ca);exact by_g)|refine wb ?_)
   refine q_loopT 2 (by omega) (by omega) ?_
   rw [← hts]
   exact by_less
  | 2,_ =>
   try refine wk ?_
   refine CW.loopT (fun z : Nat => [sp 1 0,ob 0 d.enc,so 3 1 (PD.take (2 + z)).length,oa 1 9 1 ((PD.take (2 + z)).map encStr1),sd 35 (encCode d.code),sd 36 (dint d.code.length),sd 37 (dint z),nxt 2])
    (fun z => z ≤ d.code.length) (fun z => d.code.length - z) 0 (by omega) ?_ ?_
   ·
    exact by_less
   ·
    intro z hz
    have htl : (PD.take (2 + z)).length = 2 + z := by rw [List.length_take];omega
    rcases drop_case hz with ⟨h1,h2⟩ | ⟨i,h1,h2,h3⟩
    ·
     rw [show PD.take (2 + z) = PD by rw [List.take_of_length_le (by omega)]]
     repeat (first|refine wa ?_|((with_reducible apply s5);(first|(focus ((with_reducible apply a_lend);exact cJ;exact rfl;exact .plain rfl;(focus first | exact rfl | (simp;done) | (simp;omega));(iterate 2 exact rfl);exact by_sub))|exact by_oa|exact by_ca);exact by_g)|refine wb ?_)
     exact .one (.tmp rfl (.one (.d (.refl _))))
    ·
     have him := List.mem_of_getElem? h2
     have hi := hok.i i him
     have hin := hnn i him
     have hik := hi.k
     have hia := hi.a
     have hib := hi.b
     have ca := ok_itoaG i.a (by omega) (by omega)
     have cb := ok_itoaG i.b (by omega) (by omega)
     have cn := ok_itoaG i.n (by omega) (by omega)
     have la := itoa_len i.a (by omega) (by omega)
     have lb := itoa_len i.b (by omega) (by omega)
     have hp := hp2 z i h2
     have hts := take_snoc hp
     have cJ1 := cj (insW i) (by simp [insW];have := form_len i.kind.toNat;omega) (List.mem_of_getElem? hp)
     generalize joinS [32] (insW i) = J at cJ1 hts hp
     have hk0 : 0 ≤ i.kind := by omega
     obtain ⟨K,hK⟩ := Int.eq_ofNat_of_zero_le hk0
     unfold insW at cJ1
     have cf := ok_fields K (by omega) (by omega)
     have hwk := words_tail (K := K) (by omega) (by omega)
     have hfl := form_len K
     have hlet : ∀ c ∈ form K,c = 114 ∨ c = 115 ∨ c = 110 ∨ c = 107 := fun c hc => form_let hc
     rw [hK,Int.toNat_natCast] at cJ1
     generalize words.getD K [] = wd at hwk cJ1
     generalize form K = f at *
     obtain ⟨ik,ia,ib,inn,ikey⟩ := i
     dsimp only at hK ca cb cn la lb hik
     subst hK
     have hix : idx (words.tail.map encStr1) ((K : Int) - 1) = some (encStr1 wd) := by
      have := idx_map (f := encStr1) hwk
      rwa [show ((K - 1 : Nat) : Int) = (K : Int) - 1 by omega] at this
     generalize hPe : PD.take (2 + z) = P at *
     repeat (first|((with_reducible apply s5);(with_reducible apply (a_bsO [encStr1 wd]));(iterate 10 exact rfl);(repeat (first | exact PartsE.nil | (apply PartsE.cons;exact rfl;exact rfl)));exact by_g)|refine wa1 ?_|((with_reducible apply s5);(first|((with_reducible apply a_ia);(iterate 5 exact rfl);exact hix)|((with_reducible apply a_range);exact rfl;exact rfl;exact Tryz.underlying9;exact rfl)|exact by_oa|exact by_ca);exact by_g)|refine wb ?_)
     refine CW.loopT (fun j : Nat => [sp 1 0,ob 0 d.enc,so 3 1 P.length,oa 1 9 1 (P.map encStr1),sd 35 (encCode d.code),sd 36 (dint d.code.length),sd 37 (dint z),sp 7 2,ob 2 (Ins.enc ⟨K,ia,ib,inn,ikey⟩),so 8 3 (wd :: (f.take j).map (fieldW ⟨K,ia,ib,inn,ikey⟩)).length,oa 3 9 1 ((wd :: (f.take j).map (fieldW ⟨K,ia,ib,inn,ikey⟩)).map encStr1),(.s 51,.av (.h 4)),(.o 4,.ob (.gen (ItP f j))),nxt 5])
      (fun j => j ≤ f.length) (fun j => f.length - j) 0 (by omega) ?_ ?_
     ·
      exact by_less
     ·
      intro j hj
      have hjl : (wd :: (f.take j).map (fieldW ⟨K,ia,ib,inn,ikey⟩)).length = j + 1 := by simp;omega
      rcases drop_case hj with ⟨b1,b2⟩ | ⟨c,b1,b2,b3⟩
      ·
       rw [b2,List.take_length] at *
       generalize wd :: f.map (fieldW ⟨K,ia,ib,inn,ikey⟩) = L at *
       repeat (first|refine wa ?_|((with_reducible apply s5);(first|(focus ((with_reducible apply a_lend);exact cJ1;exact rfl;exact .plain rfl;(focus first | exact rfl | (simp;done) | (simp;omega));(iterate 2 exact rfl);exact by_sub))|((with_reducible apply (a_nextE (k := f.length) 4));exact rfl;exact rfl;exact Nat.le_refl _;exact rfl)|exact by_oa|exact by_ca);exact by_g)|refine wb ?_)
       refine q_loopT (z + 1) (by omega) (by omega) ?_
       rw [show 2 + (z + 1) = 2 + z + 1 by omega,← hts]
       exact by_less
      ·
       have hc := hlet c (List.mem_of_getElem? b2)
       have hc1 : c.toNat < 128 := by rcases hc with rfl | rfl | rfl | rfl <;> decide
       have hsn : (wd :: (f.take j).map (fieldW ⟨K,ia,ib,inn,ikey⟩)) ++ [fieldW ⟨K,ia,ib,inn,ikey⟩ c] = wd :: (f.take (j + 1)).map (fieldW ⟨K,ia,ib,inn,ikey⟩) := by
        rw [← take_snoc b2];simp
       have hql : ∀ x : Str,x = fieldW ⟨K,ia,ib,inn,ikey⟩ c → ((wd :: (f.take j).map (fieldW ⟨K,ia,ib,inn,ikey⟩)) ++ [x]) = wd :: (f.take (j + 1)).map (fieldW ⟨K,ia,ib,inn,ikey⟩) := fun x hx => by rw [hx];exact hsn
       rcases hc with rfl | rfl | rfl | rfl
       ·
        have hq := hql (114 :: Lib.itoa ia) rfl
        generalize wd :: (f.take j).map (fieldW ⟨K,ia,ib,inn,ikey⟩) = L at *
        repeat (first|refine wa ?_|((with_reducible apply s5);(first|exact a_call ca rfl by_sub|((with_reducible apply a_bin);exact rfl;exact rfl;exact bin_sadd (by simp;omega);exact rfl)|((with_reducible apply (a_next (k := j) 4));exact rfl;exact rfl;exact b2;exact hc1;exact rfl)|exact by_oa|exact by_ca);exact by_g)|refine wb ?_)
        refine q_loopT (j + 1) (by omega) (by omega) ?_
        rw [← hq]
        exact by_less
       ·
        have hq := hql (114 :: Lib.itoa ib) rfl
        generalize wd :: (f.take j).map (fieldW ⟨K,ia,ib,inn,ikey⟩) = L at *
        repeat (first|refine wa ?_|((with_reducible apply s5);(first|exact a_call cb rfl by_sub|((with_reducible apply a_bin);exact rfl;exact rfl;exact bin_sadd (by simp;omega);exact rfl)|((with_reducible apply (a_next (k := j) 4));exact rfl;exact rfl;exact b2;exact hc1;exact rfl)|exact by_oa|exact by_ca);exact by_g)|refine wb ?_)
        refine q_loopT (j + 1) (by omega) (by omega) ?_
        rw [← hq]
        exact by_less
       ·
        have hq := hql (Lib.itoa inn) rfl
        generalize wd :: (f.take j).map (fieldW ⟨K,ia,ib,inn,ikey⟩) = L at *
        repeat (first|refine wa ?_|((with_reducible apply s5);(first|exact a_call cn rfl by_sub|((with_reducible apply (a_next (k := j) 4));exact rfl;exact rfl;exact b2;exact hc1;exact rfl)|exact by_oa|exact by_ca);exact by_g)|refine wb ?_)
        refine q_loopT (j + 1) (by omega) (by omega) ?_
        rw [← hq]
        exact by_less
       ·
        have hq := hql ikey rfl
        generalize wd :: (f.take j).map (fieldW ⟨K,ia,ib,inn,ikey⟩) = L at *
        repeat (first|refine wa ?_|((with_reducible apply s5);(first|((with_reducible apply (a_next (k := j) 4));exact rfl;exact rfl;exact b2;exact hc1;exact rfl)|exact by_oa|exact by_ca);exact by_g)|refine wb ?_)
        refine q_loopT (j + 1) (by omega) (by omega) ?_
        rw [← hq]
        exact by_less
end Go.Proofs.YtmnociojijpdmaaGreatDoor
namespace Go.Proofs.YtmnociojijpdmaaGreatDoor
open Go.AX Go.RF
set_option maxRecDepth 100000
set_option maxHeartbeats 4000000
theorem ok_rwrongEntry (e : Entry) (hd : ∀ d ∈ e.deeds,d.Sm) (hl : e.deeds.length ≤ 1000000000) : FnOk Tryz.prog 14 [.d (.agg e.enc)] (.one (dint (wrongEntry e))) := by
 refine fnOk_of tbl_ok mixed_ok Tryz.func14 rfl (by kernel_rfl) rfl rfl fun w0 own0 => ?_
 unfold wrongEntry
 by_cases h0 : e.number < 0
 ·
  rw [if_pos (.inl h0)]
  try refine wk ?_
  exact .one (.tmp rfl (.one (.d (.refl _))))
 by_cases h1 : 11 < e.number
 ·
  rw [if_pos (.inr h1)]
  try refine wk ?_
  exact .one (.tmp rfl (.one (.d (.refl _))))
 rw [if_neg (by omega)]
 by_cases h2 : 6 < e.deeds.length
 ·
  rw [if_pos h2]
  try refine wk ?_
  exact .one (.tmp rfl (.one (.d (.refl _))))
 rw [if_neg h2]
 try refine wk ?_
 refine CW.loopT (fun t : Nat => [sp 1 0,ob 0 e.enc,sd 19 (encDeeds e.deeds),sd 20 (dint e.deeds.length),sd 21 (dint t),nxt 1])
  (fun t => t ≤ e.deeds.length ∧ wrongs (e.deeds.drop t) = wrongs e.deeds) (fun t => e.deeds.length - t) 0 ⟨by omega,rfl⟩ ?_ ?_
 ·
  exact by_less
 ·
  rintro i ⟨hi,hI⟩
  rcases drop_case hi with ⟨h3,h4⟩ | ⟨d,h3,h4,h5⟩
  ·
   rw [h3,wrongs] at hI
   try refine wk ?_
   exact .one (.tmp rfl (.one (.d (dle_int hI))))
  ·
   rw [h3] at hI
   simp only [wrongs] at hI
   have hds := hd d (List.mem_of_getElem? h4)
   have hc := ok_wrongDeed d hds.r hds.w hds.c hds.rk hds.wk
   by_cases h6 : wrongDeed d = 0
   ·
    rw [if_pos h6] at hI
    try refine wk ?_
    refine q_loopT (i + 1) ⟨by omega,hI⟩ (by omega) ?_
    exact by_less
   ·
    rw [if_neg h6] at hI
    try refine wk ?_
    exact .one (.tmp rfl (.one (.d (dle_int hI))))
structure Replica.Sm (r : Replica) : Prop where
 e : r.engine.Sm
 l : r.early.length ≤ 134217728
 d : ∀ e ∈ r.early,e.deeds.length ≤ 134217728 ∧ ∀ d ∈ e.deeds,d.Sm
end Go.Proofs.YtmnociojijpdmaaGreatDoor
namespace Go.Proofs
open Go.Shelf Go.RowKit
set_option maxRecDepth 100000
noncomputable def Tryz.lays160_ren : Go.Shelf.Ren := ⟨fun | 119 => 219 | 120 => 213 | 137 => 218 | 151 => 200 | 152 => 212 | 160 => 143 | 197 => 148 | 217 => 181 | 224 => 183 | 225 => 182 | 227 => 169 | 228 => 199 | 231 => 167 | 232 => 168 | 233 => 170 | 234 => 171 | 235 => 172 | 236 => 173 | 260 => 180 | 266 => 206 | 271 => 201 | n => n, fun | 0 => 0 | 3 => 3 | 4 => 4 | 5 => 5 | 9 => 9 | 21 => 21 | 46 => 102 | 105 => 183 | 116 => 201 | 117 => 202 | 119 => 233 | 124 => 205 | 138 => 235 | 139 => 236 | n => n, fun | 3 => (Tryz.prog.globals.findIdx? (·.name == "unicode/utf8.first")).getD 0 | 4 => (Tryz.prog.globals.findIdx? (·.name == "unicode/utf8.acceptRanges")).getD 0 | n => n⟩
theorem Tryz.lays160 : Go.Proofs.Lays.n160 Tryz.prog Tryz.lays160_ren := {
 mixed := by kernel_rfl
 f119 := Tryz.func219.trans (congrArg some (by kernel_rfl))
 f120 := Tryz.func213.trans (congrArg some (by kernel_rfl))
 f137 := Tryz.func218.trans (congrArg some (by kernel_rfl))
 f151 := Tryz.func200.trans (congrArg some (by kernel_rfl))
 f152 := Tryz.func212.trans (congrArg some (by kernel_rfl))
 f160 := Tryz.func143.trans (congrArg some (by kernel_rfl))
 f197 := Tryz.func148.trans (congrArg some (by kernel_rfl))
 f217 := Tryz.func181.trans (congrArg some (by kernel_rfl))
 f224 := Tryz.func183.trans (congrArg some (by kernel_rfl))
 f225 := Tryz.func182.trans (congrArg some (by kernel_rfl))
 f227 := Tryz.func169.trans (congrArg some (by kernel_rfl))
 f228 := Tryz.func199.trans (congrArg some (by kernel_rfl))
 f231 := Tryz.func167.trans (congrArg some (by kernel_rfl))
 f232 := Tryz.func168.trans (congrArg some (by kernel_rfl))
 f233 := Tryz.func170.trans (congrArg some (by kernel_rfl))
 f234 := Tryz.func171.trans (congrArg some (by kernel_rfl))
 f235 := Tryz.func172.trans (congrArg some (by kernel_rfl))
 f236 := Tryz.func173.trans (congrArg some (by kernel_rfl))
 f260 := Tryz.func180.trans (congrArg some (by kernel_rfl))
 f266 := Tryz.func206.trans (congrArg some (by kernel_rfl))
 f271 := Tryz.func201.trans (congrArg some (by kernel_rfl))
 t0 := Tryz.underlying0
 a0 := Tryz.isAgg0
 z0 := Tryz.sizeOf0
 v0 := Tryz.zeroValue0
 t3 := Tryz.underlying3
 a3 := Tryz.isAgg3
 z3 := Tryz.sizeOf3
 v3 := Tryz.zeroValue3
 t4 := Tryz.underlying4
 a4 := Tryz.isAgg4
 z4 := Tryz.sizeOf4
 v4 := Tryz.zeroValue4
 t5 := Tryz.underlying5
 a5 := Tryz.isAgg5
 z5 := Tryz.sizeOf5
 v5 := Tryz.zeroValue5
 t9 := Tryz.underlying9
 a9 := Tryz.isAgg9
 z9 := Tryz.sizeOf9
 v9 := Tryz.zeroValue9
 t21 := Tryz.underlying21
 a21 := Tryz.isAgg21
 z21 := Tryz.sizeOf21
 v21 := Tryz.zeroValue21
 t46 := Tryz.underlying102
 a46 := Tryz.isAgg102
 z46 := Tryz.sizeOf102
 v46 := Tryz.zeroValue102
 t105 := Tryz.underlying183
 a105 := Tryz.isAgg183
 z105 := Tryz.sizeOf183
 v105 := Tryz.zeroValue183
 t116 := Tryz.underlying201
 a116 := Tryz.isAgg201
 z116 := Tryz.sizeOf201
 t117 := Tryz.underlying202
 a117 := Tryz.isAgg202
 z117 := Tryz.sizeOf202
 v117 := Tryz.zeroValue202
 t119 := Tryz.underlying233
 a119 := Tryz.isAgg233
 z119 := Tryz.sizeOf233
 t124 := Tryz.underlying205
 a124 := Tryz.isAgg205
 z124 := Tryz.sizeOf205
 v124 := Tryz.zeroValue205
 t138 := Tryz.underlying235
 a138 := Tryz.isAgg235
 z138 := Tryz.sizeOf235
 v138 := Tryz.zeroValue235
 t139 := Tryz.underlying236
 a139 := Tryz.isAgg236
 z139 := Tryz.sizeOf236
 v139 := Tryz.zeroValue236
 g3 := by kernel_rfl
 g4 := by kernel_rfl
 }
end Go.Proofs
namespace Go.Proofs.YtmnociojijpdmaaGreatDoor
open Go.AX Go.RF Go.RowKit
set_option maxRecDepth 100000
set_option maxHeartbeats 8000000
theorem ok_trim (s : Str) (hs : s.length ≤ 1073741824) : FnOk Tryz.prog 143 [.d (dstr s),.d (dstr alpha)] (.one (dstr (Lib.trimS s alpha))) := by
 refine ⟨⟨_,Tryz.func143,by kernel_rfl,by kernel_rfl⟩,fun w own vs hown ha => ?_⟩
 match vs,ha with
 | [x,y],⟨h1,h2,_⟩ =>
  obtain rfl : x = str s := rd_v h1
  obtain rfl : y = str alpha := rd_v h2
  refine (Any.strings_Trim_laid Tryz.lays160 (by kernel_rfl) ⟨s.toArray⟩ ⟨alpha.toArray⟩ w (by show s.toArray.size ≤ _;simp;omega) (by decide) (ascii_of_all (by decide))).mono fun e w' he => ?_
  obtain ⟨rfl,hb⟩ := he
  exact ⟨_,rfl,hb,Rd.v _⟩
theorem ok_pkey (s : Str) (hs : s.length ≤ 1073741824) : FnOk Tryz.prog 119 [.d (dstr s)] (.one (dbool (key s))) := by
 refine fnOk_of tbl_ok mixed_ok Tryz.func119 rfl (by kernel_rfl) rfl rfl fun w0 own0 => ?_
 have ht := ok_trim s hs
 rw [key_trim]
 by_cases h1 : 1 ≤ s.length
 ·
  by_cases h2 : s.length ≤ 6
  ·
   try refine wk ?_
   exact .one (.tmp rfl (.one (.d (dle_bool (by simp [h1,h2])))))
  ·
   try refine wk ?_
   exact .one (.tmp rfl (.one (.d (dle_bool (by simp [h2])))))
 ·
  try refine wk ?_
  exact .one (.tmp rfl (.one (.d (dle_bool (by simp [h1])))))
end Go.Proofs.YtmnociojijpdmaaGreatDoor
namespace Go.Proofs.YtmnociojijpdmaaGreatDoor
open Go.AX Go.RF
set_option maxRecDepth 100000
set_option maxHeartbeats 8000000
def regsN (k : Int) : Int := if k = 3 ∨ k = 4 ∨ k = 5 then 2 else if k = 7 then 0 else 1
def keyedB (k : Int) : Bool := decide (k = 1 ∨ k = 6 ∨ k = 7)
def loI (k : Int) : Int := if k = 2 then -1073741824 else if k = 8 then 1 else 0
def hiI (k m : Int) : Int := if k = 2 then 1073741824 else if k = 8 then m else 0
def outI (n lo hi a b x : Int) : Bool := decide (a < 0 ∨ 4 ≤ a ∨ (n < 1 ∧ a ≠ 0) ∨ b < 0 ∨ 4 ≤ b ∨ (n < 2 ∧ b ≠ 0) ∨ x < lo ∨ hi < x)
def pwrongIns (d : Deed) (m : Int) (i : Ins) : Int :=
 if i.kind < 1 ∨ 9 < i.kind then 1
 else if outI (regsN i.kind) (loI i.kind) (hiI i.kind m) i.a i.b i.n = true then 3
 else if keyedB i.kind = false ∧ i.key ≠ [] then 2
 else if (i.kind = 1 ∧ isIn d.reads i.key = false) ∨ (keyedB i.kind = true ∧ i.kind ≠ 1 ∧ isIn d.writes i.key = false) then 9 else 0
theorem pwrong_eq (d : Deed) (m : Int) (i : Ins) : pwrongIns d m i = wrongIns d m i := by
 unfold pwrongIns wrongIns
 by_cases h : i.kind < 1 ∨ 9 < i.kind
 ·
  rw [if_pos h,if_pos h]
 rw [if_neg h,if_neg h]
 obtain ⟨kd,a,b,n,key⟩ := i
 dsimp only at h ⊢
 have hout : outI (regsN kd) (loI kd) (hiI kd m) a b n = insOut kd.toNat a b n m := by
  have hkd : kd = 1 ∨ kd = 2 ∨ kd = 3 ∨ kd = 4 ∨ kd = 5 ∨ kd = 6 ∨ kd = 7 ∨ kd = 8 ∨ kd = 9 := by omega
  unfold outI insOut
  rw [Bool.eq_iff_iff]
  simp only [Bool.or_eq_true,decide_eq_true_eq]
  rcases hkd with rfl | rfl | rfl | rfl | rfl | rfl | rfl | rfl | rfl
  ·
   rw [show regsN 1 = 1 from rfl,show loI 1 = 0 from rfl,show hiI 1 m = 0 from rfl,show insA (Int.toNat 1) = 3 from rfl,show insB (Int.toNat 1) = 0 from rfl,show insLow (Int.toNat 1) = 0 from rfl,show insHigh (Int.toNat 1) m = 0 from rfl]
   omega
  ·
   rw [show regsN 2 = 1 from rfl,show loI 2 = -1073741824 from rfl,show hiI 2 m = 1073741824 from rfl,show insA (Int.toNat 2) = 3 from rfl,show insB (Int.toNat 2) = 0 from rfl,show insLow (Int.toNat 2) = -1073741824 from rfl,show insHigh (Int.toNat 2) m = 1073741824 from rfl]
   omega
  ·
   rw [show regsN 3 = 2 from rfl,show loI 3 = 0 from rfl,show hiI 3 m = 0 from rfl,show insA (Int.toNat 3) = 3 from rfl,show insB (Int.toNat 3) = 3 from rfl,show insLow (Int.toNat 3) = 0 from rfl,show insHigh (Int.toNat 3) m = 0 from rfl]
   omega
  ·
   rw [show regsN 4 = 2 from rfl,show loI 4 = 0 from rfl,show hiI 4 m = 0 from rfl,show insA (Int.toNat 4) = 3 from rfl,show insB (Int.toNat 4) = 3 from rfl,show insLow (Int.toNat 4) = 0 from rfl,show insHigh (Int.toNat 4) m = 0 from rfl]
   omega
  ·
   rw [show regsN 5 = 2 from rfl,show loI 5 = 0 from rfl,show hiI 5 m = 0 from rfl,show insA (Int.toNat 5) = 3 from rfl,show insB (Int.toNat 5) = 3 from rfl,show insLow (Int.toNat 5) = 0 from rfl,show insHigh (Int.toNat 5) m = 0 from rfl]
   omega
  ·
   rw [show regsN 6 = 1 from rfl,show loI 6 = 0 from rfl,show hiI 6 m = 0 from rfl,show insA (Int.toNat 6) = 3 from rfl,show insB (Int.toNat 6) = 0 from rfl,show insLow (Int.toNat 6) = 0 from rfl,show insHigh (Int.toNat 6) m = 0 from rfl]
   omega
  ·
   rw [show regsN 7 = 0 from rfl,show loI 7 = 0 from rfl,show hiI 7 m = 0 from rfl,show insA (Int.toNat 7) = 0 from rfl,show insB (Int.toNat 7) = 0 from rfl,show insLow (Int.toNat 7) = 0 from rfl,show insHigh (Int.toNat 7) m = 0 from rfl]
   omega
  ·
   rw [show regsN 8 = 1 from rfl,show loI 8 = 1 from rfl,show hiI 8 m = m from rfl,show insA (Int.toNat 8) = 3 from rfl,show insB (Int.toNat 8) = 0 from rfl,show insLow (Int.toNat 8) = 1 from rfl,show insHigh (Int.toNat 8) m = m from rfl]
   omega
  ·
   rw [show regsN 9 = 1 from rfl,show loI 9 = 0 from rfl,show hiI 9 m = 0 from rfl,show insA (Int.toNat 9) = 3 from rfl,show insB (Int.toNat 9) = 0 from rfl,show insLow (Int.toNat 9) = 0 from rfl,show insHigh (Int.toNat 9) m = 0 from rfl]
   omega
 rw [hout]
 split
 ·
  rfl
 have hkd : kd = 1 ∨ kd = 2 ∨ kd = 3 ∨ kd = 4 ∨ kd = 5 ∨ kd = 6 ∨ kd = 7 ∨ kd = 8 ∨ kd = 9 := by omega
 have hk9 : has kd.toNat 107 = keyedB kd := by rcases hkd with rfl | rfl | rfl | rfl | rfl | rfl | rfl | rfl | rfl <;> decide
 rw [hk9]
 cases hkb : keyedB kd with
 | false =>
  have h1 : ¬ kd = 1 := fun e => by subst e;cases hkb
  by_cases hk0 : key = []
  ·
   simp [hk0,h1]
  ·
   simp [hk0]
 | true =>
  simp only [Bool.true_eq_false,false_and,if_false,true_and]
  by_cases h1 : kd = 1
  ·
   simp only [h1,if_true,ne_eq,not_true_eq_false,false_and,or_false,true_and]
   cases isIn d.reads key <;> rfl
  ·
   simp only [h1,if_false,false_and,ne_eq,not_false_eq_true,true_and,false_or]
   cases isIn d.writes key <;> rfl
theorem ok_regs (k : Int) : FnOk Tryz.prog 121 [.d (dint k)] (.one (dint (regsN k))) := by
 refine fnOk_of tbl_ok mixed_ok Tryz.func121 rfl (by kernel_rfl) rfl rfl fun w0 own0 => ?_
 unfold regsN
 by_cases h3 : k = 3
 ·
  rw [if_pos (.inl h3)]
  try refine wk ?_
  exact .one (.tmp rfl (.one (.d (.refl _))))
 by_cases h4 : k = 4
 ·
  rw [if_pos (.inr (.inl h4))]
  try refine wk ?_
  exact .one (.tmp rfl (.one (.d (.refl _))))
 by_cases h5 : k = 5
 ·
  rw [if_pos (.inr (.inr h5))]
  try refine wk ?_
  exact .one (.tmp rfl (.one (.d (.refl _))))
 rw [if_neg (by omega)]
 by_cases h7 : k = 7
 ·
  rw [if_pos h7]
  try refine wk ?_
  exact .one (.tmp rfl (.one (.d (.refl _))))
 ·
  rw [if_neg h7]
  try refine wk ?_
  exact .one (.tmp rfl (.one (.d (.refl _))))
theorem ok_instr (d : Deed) (i : Ins) (m : Int) (hr : d.reads.length ≤ 268435456) (hw : d.writes.length ≤ 268435456) :
  FnOk Tryz.prog 95 [.pd d.enc,.d (.agg i.enc),.d (dint m)] (.one (dint (wrongIns d m i))) := by
 refine fnOk_of tbl_ok mixed_ok Tryz.func95 rfl (by kernel_rfl) rfl rfl fun w0 own0 => ?_
 rw [← pwrong_eq]
 have cr := ok_regs i.kind
 have c1 := ok_containsS d.reads i.key (by omega)
 have c2 := ok_containsS d.writes i.key (by omega)
 have hst0 : StopR 1 := ⟨rfl⟩
 try refine wkS ?_
 clear hst0
 refine Stop.cutk [sd 7 (dbool (keyedB i.kind))] [.s 0,.s 2,.s 4,.o 0,.nx] ?_ ?_
 ·
  by_cases h1 : i.kind = 1
  ·
   rw [show keyedB i.kind = true from decide_eq_true (.inl h1)]
   try refine wk ?_
   refine q_cut ?_
   exact by_less
  by_cases h6 : i.kind = 6
  ·
   rw [show keyedB i.kind = true from decide_eq_true (.inr (.inl h6))]
   try refine wk ?_
   refine q_cut ?_
   exact by_less
  by_cases h7 : i.kind = 7
  ·
   rw [show keyedB i.kind = true from decide_eq_true (.inr (.inr h7))]
   try refine wk ?_
   refine q_cut ?_
   exact by_less
  ·
   rw [show keyedB i.kind = false from decide_eq_false (by omega)]
   try refine wk ?_
   refine q_cut ?_
   exact by_less
 have hst0 : StopA 3 := ⟨rfl⟩
 try refine wkS ?_
 clear hst0
 refine Stop.cutk [sd 8 (dint (loI i.kind)),sd 9 (dint (hiI i.kind m))] [.s 0,.s 4,.s 7,.o 0,.nx] ?_ ?_
 ·
  by_cases h2 : i.kind = 2
  ·
   rw [show loI i.kind = -1073741824 from if_pos h2,show hiI i.kind m = 1073741824 from if_pos h2]
   try refine wk ?_
   refine q_cut ?_
   exact by_less
  by_cases h8 : i.kind = 8
  ·
   rw [show loI i.kind = 1 by unfold loI;rw [if_neg h2,if_pos h8],show hiI i.kind m = m by unfold hiI;rw [if_neg h2,if_pos h8]]
   try refine wk ?_
   refine q_cut ?_
   exact by_less
  ·
   rw [show loI i.kind = 0 by unfold loI;rw [if_neg h2,if_neg h8],show hiI i.kind m = 0 by unfold hiI;rw [if_neg h2,if_neg h8]]
   try refine wk ?_
   refine q_cut ?_
   exact by_less
 unfold pwrongIns
 generalize regsN i.kind = n at cr ⊢
 generalize loI i.kind = lo
 generalize hiI i.kind m = hi
 by_cases hk0 : i.kind < 1
 ·
  rw [if_pos (.inl hk0)]
  try refine wk ?_
  exact .one (.tmp rfl (.one (.d (.refl _))))
 by_cases hk9 : 9 < i.kind
 ·
  rw [if_pos (.inr hk9)]
  try refine wk ?_
  exact .one (.tmp rfl (.one (.d (.refl _))))
 rw [if_neg (by omega)]
 have hst0 : StopA 11 := ⟨rfl⟩
 try refine wkS ?_
 clear hst0
 refine Stop.cutk [sd 43 (dbool (outI n lo hi i.a i.b i.n))] [.s 0,.s 4,.s 7,.o 0,.nx] ?_ ?_
 ·
  have T : (i.a < 0 ∨ 4 ≤ i.a ∨ (n < 1 ∧ i.a ≠ 0) ∨ i.b < 0 ∨ 4 ≤ i.b ∨ (n < 2 ∧ i.b ≠ 0) ∨ i.n < lo ∨ hi < i.n) → outI n lo hi i.a i.b i.n = true := fun h => decide_eq_true h
  have F : ¬ (i.a < 0 ∨ 4 ≤ i.a ∨ (n < 1 ∧ i.a ≠ 0) ∨ i.b < 0 ∨ 4 ≤ i.b ∨ (n < 2 ∧ i.b ≠ 0) ∨ i.n < lo ∨ hi < i.n) → outI n lo hi i.a i.b i.n = false := fun h => decide_eq_false h
  by_cases ha0 : i.a < 0
  ·
   rw [T (by omega)]
   try refine wk ?_
   refine q_cut ?_
   exact by_less
  by_cases ha4 : 4 ≤ i.a
  ·
   rw [T (by omega)]
   try refine wk ?_
   refine q_cut ?_
   exact by_less
  by_cases hn1 : n < 1
  ·
   by_cases ha : i.a = 0
   ·
    skip
    by_cases hb0 : i.b < 0
    ·
     rw [T (by omega)]
     try refine wk ?_
     refine q_cut ?_
     exact by_less
    by_cases hb4 : 4 ≤ i.b
    ·
     rw [T (by omega)]
     try refine wk ?_
     refine q_cut ?_
     exact by_less
    by_cases hn2 : n < 2
    ·
     by_cases hb : i.b = 0
     ·
      skip
      by_cases hx0 : i.n < lo
      ·
       rw [T (by omega)]
       try refine wk ?_
       refine q_cut ?_
       exact by_less
      by_cases hx1 : hi < i.n
      ·
       rw [T (by omega)]
       try refine wk ?_
       refine q_cut ?_
       exact by_less
      rw [F (by omega)]
      try refine wk ?_
      refine q_cut ?_
      exact by_less
     ·
      rw [T (by omega)]
      try refine wk ?_
      refine q_cut ?_
      exact by_less
    by_cases hx0 : i.n < lo
    ·
     rw [T (by omega)]
     try refine wk ?_
     refine q_cut ?_
     exact by_less
    by_cases hx1 : hi < i.n
    ·
     rw [T (by omega)]
     try refine wk ?_
     refine q_cut ?_
     exact by_less
    rw [F (by omega)]
    try refine wk ?_
    refine q_cut ?_
    exact by_less
   ·
    rw [T (by omega)]
    try refine wk ?_
    refine q_cut ?_
    exact by_less
  by_cases hb0 : i.b < 0
  ·
   rw [T (by omega)]
   try refine wk ?_
   refine q_cut ?_
   exact by_less
  by_cases hb4 : 4 ≤ i.b
  ·
   rw [T (by omega)]
   try refine wk ?_
   refine q_cut ?_
   exact by_less
  by_cases hn2 : n < 2
  ·
   by_cases hb : i.b = 0
   ·
    skip
    by_cases hx0 : i.n < lo
    ·
     rw [T (by omega)]
     try refine wk ?_
     refine q_cut ?_
     exact by_less
    by_cases hx1 : hi < i.n
    ·
     rw [T (by omega)]
     try refine wk ?_
     refine q_cut ?_
     exact by_less
    rw [F (by omega)]
    try refine wk ?_
    refine q_cut ?_
    exact by_less
   ·
    rw [T (by omega)]
    try refine wk ?_
    refine q_cut ?_
    exact by_less
  by_cases hx0 : i.n < lo
  ·
   rw [T (by omega)]
   try refine wk ?_
   refine q_cut ?_
   exact by_less
  by_cases hx1 : hi < i.n
  ·
   rw [T (by omega)]
   try refine wk ?_
   refine q_cut ?_
   exact by_less
  rw [F (by omega)]
  try refine wk ?_
  refine q_cut ?_
  exact by_less
 cases ho : outI n lo hi i.a i.b i.n with
 | true =>
  rw [if_pos rfl]
  try refine wk ?_
  exact .one (.tmp rfl (.one (.d (.refl _))))
 | false =>
  rw [if_neg (by simp)]
  by_cases hkey : i.key = []
  ·
   rw [if_neg (fun h => h.2 hkey)]
   by_cases h1 : i.kind = 1
   ·
    have hk1 : keyedB i.kind = true := decide_eq_true (.inl h1)
    rw [hk1]
    cases hin : isIn d.reads i.key with
    | false =>
     rw [if_pos (.inl ⟨h1,rfl⟩)]
     rw [hin] at c1
     repeat (first|refine wa ?_|((with_reducible apply s5);(first|exact a_call c1 rfl by_sub|((with_reducible apply a_nilpd);(iterate 2 exact rfl))|exact by_oa|exact by_ca);exact by_g)|refine wb ?_)
     exact .one (.tmp rfl (.one (.d (.refl _))))
    | true =>
     rw [if_neg (by simp [h1])]
     rw [hin] at c1
     repeat (first|refine wa ?_|((with_reducible apply s5);(first|exact a_call c1 rfl by_sub|((with_reducible apply a_nilpd);(iterate 2 exact rfl))|exact by_oa|exact by_ca);exact by_g)|refine wb ?_)
     exact .one (.tmp rfl (.one (.d (.refl _))))
   ·
    cases hkb : keyedB i.kind with
    | false =>
     rw [if_neg (by simp [h1])]
     try refine wk ?_
     exact .one (.tmp rfl (.one (.d (.refl _))))
    | true =>
     cases hin : isIn d.writes i.key with
     | false =>
      rw [if_pos (.inr ⟨rfl,h1,rfl⟩)]
      rw [hin] at c2
      repeat (first|refine wa ?_|((with_reducible apply s5);(first|exact a_call c2 rfl by_sub|((with_reducible apply a_nilpd);(iterate 2 exact rfl))|exact by_oa|exact by_ca);exact by_g)|refine wb ?_)
      exact .one (.tmp rfl (.one (.d (.refl _))))
     | true =>
      rw [if_neg (by simp [h1])]
      rw [hin] at c2
      repeat (first|refine wa ?_|((with_reducible apply s5);(first|exact a_call c2 rfl by_sub|((with_reducible apply a_nilpd);(iterate 2 exact rfl))|exact by_oa|exact by_ca);exact by_g)|refine wb ?_)
      exact .one (.tmp rfl (.one (.d (.refl _))))
  ·
   by_cases h1 : i.kind = 1
   ·
    have hk1 : keyedB i.kind = true := decide_eq_true (.inl h1)
    rw [hk1,if_neg (by simp)]
    cases hin : isIn d.reads i.key with
    | false =>
     rw [if_pos (.inl ⟨h1,rfl⟩)]
     rw [hin] at c1
     repeat (first|refine wa ?_|((with_reducible apply s5);(first|exact a_call c1 rfl by_sub|((with_reducible apply a_nilpd);(iterate 2 exact rfl))|exact by_oa|exact by_ca);exact by_g)|refine wb ?_)
     exact .one (.tmp rfl (.one (.d (.refl _))))
    | true =>
     rw [if_neg (by simp [h1])]
     rw [hin] at c1
     repeat (first|refine wa ?_|((with_reducible apply s5);(first|exact a_call c1 rfl by_sub|((with_reducible apply a_nilpd);(iterate 2 exact rfl))|exact by_oa|exact by_ca);exact by_g)|refine wb ?_)
     exact .one (.tmp rfl (.one (.d (.refl _))))
   ·
    cases hkb : keyedB i.kind with
    | false =>
     rw [if_pos ⟨rfl,hkey⟩]
     try refine wk ?_
     exact .one (.tmp rfl (.one (.d (.refl _))))
    | true =>
     rw [if_neg (by simp)]
     cases hin : isIn d.writes i.key with
     | false =>
      rw [if_pos (.inr ⟨rfl,h1,rfl⟩)]
      rw [hin] at c2
      repeat (first|refine wa ?_|((with_reducible apply s5);(first|exact a_call c2 rfl by_sub|((with_reducible apply a_nilpd);(iterate 2 exact rfl))|exact by_oa|exact by_ca);exact by_g)|refine wb ?_)
      exact .one (.tmp rfl (.one (.d (.refl _))))
     | true =>
      rw [if_neg (by simp [h1])]
      rw [hin] at c2
      repeat (first|refine wa ?_|((with_reducible apply s5);(first|exact a_call c2 rfl by_sub|((with_reducible apply a_nilpd);(iterate 2 exact rfl))|exact by_oa|exact by_ca);exact by_g)|refine wb ?_)
      exact .one (.tmp rfl (.one (.d (.refl _))))
theorem ok_dkeys (l : List Str) (hl : l.length ≤ 268435456) (hk : ∀ s ∈ l,s.length ≤ 1073741824) : FnOk Tryz.prog 94 [.d (encStrs l)] (.one (dint (keysWrong l))) := by
 refine fnOk_of tbl_ok mixed_ok Tryz.func94 rfl (by kernel_rfl) rfl rfl fun w0 own0 => ?_
 unfold keysWrong
 by_cases h4 : 5 < l.length
 ·
  rw [if_pos h4]
  try refine wk ?_
  exact .one (.tmp rfl (.one (.d (.refl _))))
 ·
  rw [if_neg h4]
  try refine wk ?_
  refine CW.loopT (fun t : Nat => [sd 0 (encStrs l),sd 2 (dint 0),sd 8 (encStrs l),sd 9 (dint l.length),sd 10 (dint t),nxt 0])
   (fun t => t ≤ l.length ∧ keysGo l t (l.drop t) = keysGo l 0 l) (fun t => l.length - t) 0 ⟨by omega,rfl⟩ ?_ ?_
  ·
   exact by_less
  ·
   rintro i ⟨hi,hJ⟩
   rcases drop_case hi with ⟨h5,h6⟩ | ⟨k,h5,h6,h7⟩
   ·
    rw [h5,keysGo] at hJ
    try refine wk ?_
    rw [← hJ]
    exact .one (.tmp rfl (.one (.d (.refl _))))
   ·
    rw [h5,keysGo] at hJ
    have hck := ok_pkey k (hk k (List.mem_of_getElem? h6))
    have hin : FnOk Tryz.prog 120 [.d (.sl 1 ((l.map encStr1).take i)),.d (dstr k)] (.one (dbool (isIn (l.take i) k))) := by
     rw [← List.map_take]
     exact ok_containsS (l.take i) k (by rw [List.length_take];omega)
    cases h8 : key k with
    | false =>
     rw [h8] at hck
     rw [if_pos h8] at hJ
     try refine wk ?_
     rw [← hJ]
     exact .one (.tmp rfl (.one (.d (.refl _))))
    | true =>
     rw [h8] at hck
     rw [if_neg (by simp [h8])] at hJ
     cases h9 : isIn (l.take i) k with
     | false =>
      rw [h9] at hin
      rw [if_neg (by simp [h9])] at hJ
      repeat (first|refine wa ?_|((with_reducible apply s5);(first|exact a_call hin rfl by_sub|exact by_oa|exact by_ca);exact by_g)|refine wb ?_)
      refine q_loopT (i + 1) ⟨by omega,hJ⟩ (by omega) ?_
      exact by_less
     | true =>
      rw [h9] at hin
      rw [if_pos h9] at hJ
      repeat (first|refine wa ?_|((with_reducible apply s5);(first|exact a_call hin rfl by_sub|exact by_oa|exact by_ca);exact by_g)|refine wb ?_)
      rw [← hJ]
      exact .one (.tmp rfl (.one (.d (.refl _))))
theorem ok_pwrongDeed (d : Deed) (hs : d.Sm) : FnOk Tryz.prog 62 [.d (.agg d.enc)] (.one (dint (wrongDeed d))) := by
 refine fnOk_of tbl_ok mixed_ok Tryz.func62 rfl (by kernel_rfl) rfl rfl fun w0 own0 => ?_
 have hc := hs.c
 repeat (first|((with_reducible apply s5);((with_reducible apply a_bs ([d.reads,d.writes].map fun l => [encStrs l]));(iterate 9 exact rfl);(repeat (first | exact PartsE.nil | (apply PartsE.cons;exact rfl;exact rfl))));exact by_g)|refine wa1 ?_|((with_reducible apply s5);(first|exact by_oa|exact by_ca);exact by_g)|refine wb ?_)
 refine CW.loopT (fun j : Nat => [sp 1 0,ob 0 d.enc,sd 2 (dint 0),sd 13 (.sl 1 ([d.reads,d.writes].map fun l => [encStrs l])),sd 14 (dint 2),sd 15 (dint j),nxt 1])
  (fun j => j ≤ [d.reads,d.writes].length ∧ lsGo ([d.reads,d.writes].drop j) = lsGo [d.reads,d.writes]) (fun j => 2 - j) 0 ⟨by simp,rfl⟩ ?_ ?_
 ·
  exact by_less
 ·
  rintro j ⟨hj,hI⟩
  have hj2 : j ≤ 2 := hj
  rcases drop_case hj with ⟨h1,h2⟩ | ⟨l,h1,h2,h3⟩
  ·
   have h2' : j = 2 := h2
   rw [h1] at hI
   have hI' : lsGo [d.reads,d.writes] = 0 := hI.symm
   unfold wrongDeed
   rw [if_pos hI']
   by_cases h4 : 12 < d.code.length
   ·
    rw [if_pos h4]
    try refine wk ?_
    exact .one (.tmp rfl (.one (.d (.refl _))))
   ·
    rw [if_neg h4]
    try refine wk ?_
    refine CW.loopT (fun k : Nat => [sp 1 0,ob 0 d.enc,sd 2 (dint 0),sd 30 (encCode d.code),sd 31 (dint d.code.length),sd 32 (dint k),nxt 1])
     (fun k => k ≤ d.code.length ∧ codeGo d k (d.code.drop k) = codeGo d 0 d.code) (fun k => d.code.length - k) 0 ⟨by omega,rfl⟩ ?_ ?_
    ·
     exact by_less
    ·
     rintro k ⟨hk,hJ⟩
     rcases drop_case hk with ⟨h5,h6⟩ | ⟨i,h5,h6,h7⟩
     ·
      rw [h5,codeGo] at hJ
      try refine wk ?_
      rw [← hJ]
      exact .one (.tmp rfl (.one (.d (.refl _))))
     ·
      rw [h5,codeGo] at hJ
      have ci : FnOk Tryz.prog 95 [.pd d.enc,.d (.agg i.enc),.d (dint (((d.code.map Ins.enc).length : Int) - 1 - k))] (.one (dint (wrongIns d ((d.code.length : Int) - 1 - k) i))) := by
       rw [List.length_map];exact ok_instr d i ((d.code.length : Int) - 1 - k) hs.r hs.w
      by_cases h8 : wrongIns d ((d.code.length : Int) - 1 - k) i = 0
      ·
       rw [if_pos h8] at hJ
       rw [h8] at ci
       repeat (first|refine wa ?_|((with_reducible apply s5);(first|exact a_call ci rfl by_sub|exact by_oa|exact by_ca);exact by_g)|refine wb ?_)
       refine q_loopT (k + 1) ⟨by omega,hJ⟩ (by omega) ?_
       exact by_less
      ·
       rw [if_neg h8] at hJ
       repeat (first|refine wa ?_|((with_reducible apply s5);(first|exact a_call ci rfl by_sub|exact by_oa|exact by_ca);exact by_g)|refine wb ?_)
       rw [← hJ]
       exact .one (.tmp rfl (.one (.d (.refl _))))
  ·
   rw [h1,lsGo] at hI
   have h3' : j < 2 := h3
   have hl : l.length ≤ 268435456 ∧ ∀ s ∈ l,s.length ≤ 1073741824 := by
    have := List.mem_of_getElem? h2
    simp at this
    rcases this with rfl | rfl
    ·
     exact ⟨hs.r,hs.rk⟩
    ·
     exact ⟨hs.w,hs.wk⟩
   have ck := ok_dkeys l hl.1 hl.2
   by_cases h8 : keysWrong l = 0
   ·
    rw [if_pos h8] at hI
    rw [h8] at ck
    try refine wk ?_
    refine q_loopT (j + 1) ⟨by simp;omega,hI⟩ (by omega) ?_
    exact by_less
   ·
    rw [if_neg h8] at hI
    unfold wrongDeed
    rw [if_neg (by rw [← hI];exact h8)]
    try refine wk ?_
    rw [← hI]
    exact .one (.tmp rfl (.one (.d (.refl _))))
theorem ok_lsum (b : Str) (hl : b.length ≤ 1000000000) : FnOk Tryz.prog 27 [.d (encBytes b)] (.one (dint (sumN 1 b))) := by
 refine fnOk_of tbl_ok mixed_ok Tryz.func27 rfl (by kernel_rfl) rfl rfl fun w0 own0 => ?_
 try refine wk ?_
 refine CW.loopT (fun t : Nat × Nat => [sd 3 (dint t.2),sd 6 (encBytes b),sd 7 (dint b.length),sd 8 (dint t.1),nxt 0])
  (fun t => t.1 ≤ b.length ∧ t.2 < 65521 ∧ sumN t.2 (b.drop t.1) = sumN 1 b) (fun t => b.length - t.1) (0,1) ⟨by dsimp only;omega,by dsimp only;omega,rfl⟩ ?_ ?_
 ·
  exact by_less
 ·
  rintro ⟨i,s⟩ ⟨hi,hs,hI⟩
  dsimp only at hi hs hI ⊢
  rcases drop_case hi with ⟨h1,h2⟩ | ⟨c,h1,h2,h3⟩
  ·
   rw [h1,sumN] at hI
   subst hI
   try refine wk ?_
   exact .one (.tmp rfl (.one (.d (.refl _))))
  ·
   rw [h1,sumN] at hI
   have hc := c.toNat_lt
   have hb := tmod_sum (s := s) (c := c.toNat)
   have hs2 : (s * 257 + c.toNat + 1) % 65521 < 65521 := Nat.mod_lt _ (by omega)
   generalize (s * 257 + c.toNat + 1) % 65521 = s2 at *
   repeat (first|refine wa ?_|((with_reducible apply s5);(first|((with_reducible apply a_bin);exact rfl;exact rfl;(with_reducible apply bin_mul);omega;exact rfl)|((with_reducible apply a_bin);exact rfl;exact rfl;(with_reducible apply bin_remI);(exact by decide);exact hb;exact rfl)|exact by_oa|exact by_ca);exact by_g)|refine wb ?_)
   refine q_loopT (i + 1,s2) ⟨by dsimp only;omega,hs2,hI⟩ (by dsimp only;omega) ?_
   exact by_less
theorem ok_lwrong (e : Entry) (hd : ∀ d ∈ e.deeds,d.Sm) (hl : e.deeds.length ≤ 1000000000) : FnOk Tryz.prog 26 [.d (.agg e.enc)] (.one (dint (wrongEntry e))) := by
 refine fnOk_of tbl_ok mixed_ok Tryz.func26 rfl (by kernel_rfl) rfl rfl fun w0 own0 => ?_
 unfold wrongEntry
 by_cases h0 : e.number < 0
 ·
  rw [if_pos (.inl h0)]
  try refine wk ?_
  exact .one (.tmp rfl (.one (.d (.refl _))))
 by_cases h1 : 11 < e.number
 ·
  rw [if_pos (.inr h1)]
  try refine wk ?_
  exact .one (.tmp rfl (.one (.d (.refl _))))
 rw [if_neg (by omega)]
 by_cases h2 : 6 < e.deeds.length
 ·
  rw [if_pos h2]
  try refine wk ?_
  exact .one (.tmp rfl (.one (.d (.refl _))))
 rw [if_neg h2]
 try refine wk ?_
 refine CW.loopT (fun t : Nat => [sp 1 0,ob 0 e.enc,sd 19 (encDeeds e.deeds),sd 20 (dint e.deeds.length),sd 21 (dint t),nxt 1])
  (fun t => t ≤ e.deeds.length ∧ wrongs (e.deeds.drop t) = wrongs e.deeds) (fun t => e.deeds.length - t) 0 ⟨by omega,rfl⟩ ?_ ?_
 ·
  exact by_less
 ·
  rintro i ⟨hi,hI⟩
  rcases drop_case hi with ⟨h3,h4⟩ | ⟨d,h3,h4,h5⟩
  ·
   rw [h3,wrongs] at hI
   try refine wk ?_
   exact .one (.tmp rfl (.one (.d (dle_int hI))))
  ·
   rw [h3] at hI
   simp only [wrongs] at hI
   have hds := hd d (List.mem_of_getElem? h4)
   have hc := ok_pwrongDeed d hds
   by_cases h6 : wrongDeed d = 0
   ·
    rw [if_pos h6] at hI
    have hp := printD_len h6
    have hc2 := ok_tprint d h6 hds (by omega)
    rw [h6] at hc
    try refine wk ?_
    refine q_loopT (i + 1) ⟨by omega,hI⟩ (by omega) ?_
    exact by_less
   ·
    rw [if_neg h6] at hI
    try refine wk ?_
    exact .one (.tmp rfl (.one (.d (dle_int hI))))
end Go.Proofs.YtmnociojijpdmaaGreatDoor
