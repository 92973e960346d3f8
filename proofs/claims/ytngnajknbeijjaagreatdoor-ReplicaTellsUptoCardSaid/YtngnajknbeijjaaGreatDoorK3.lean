/-
  Part 3 of what the claim leans on: AxFnD AxMap Rn Sh G2 G8 G11 AxIns G12 G14 R2 F1 F6 F7 F8 F10 F12 F14 F18 F9 F15 F3 F16 F19 F20 F21 G4 P1 P2 P4 P5.
-/
import Derived.Test.YtngnajknbeijjaaGreatDoorK2
import Derived.MapKept
import Derived.Shelf.Small.Strs
import Derived.Test.YtngnajknbeijjaaGreatDoorProg
import Derived.Shelf.Spec.SlicesInsertGrow
import Derived.Maps.AppendAt
import Derived.Lib.SlTrimSet
set_option linter.all false

namespace Go.AX
open Go.RowKit
variable {cx:Cx}{g:Nat→Value}{σ σ':St}{a:Act}{w w':World}{nx:Nat}
variable {ty:TypeId}{pos:String}{af:Array Edge}{gd:Option (Nat×Bool)}{d:Nat}
def refP (ds:List D) (w:World) (own:Nat→Prop) (v:Value):Prop:=∃ ad:Addr,v = .pointer (some ad)∧¬ own ad.block∧ad.block < w.heap.size∧RdCells w own ad ds
def refD (ds:List D):D := .x (refP ds)
def mapP (M:List (List UInt8×Value)) (w:World) (own:Nat→Prop) (v:Value):Prop:=∃ b es clock,v = .map (some b)∧¬ own b∧b < w.heap.size∧w.heap[b]? = some (.map es clock)∧MapIs es M
def mapD (M:List (List UInt8×Value)):D := .x (mapP M)
def fnP (f:FuncId) (ds:List D) (w:World) (own:Nat→Prop) (v:Value):Prop:=∃ cs:Array Value,v = .func (.func f) #[] cs∧cs.size=ds.length∧∀ (j:Nat) (x:D) (c:Value),ds[j]? = some x→cs[j]? = some c→Rd w own c x
def fnD (f:FuncId) (ds:List D):D := .x (fnP f ds)
theorem ref_stable (ds:List D):Stable (refP ds):=by
 rintro own own' w w' v hx ho ⟨ad,rfl,h1,h2,h3⟩
 refine⟨ad,rfl,fun h=>?_,Nat.lt_of_lt_of_le h2 hx.size,h3.step hx ho fun j=>hx.cell (by rw[add_block];exact h2) (by rw[add_block];exact h1)⟩
 rcases ho _ h with h|h
 ·
  exact h1 h
 ·
  omega
theorem map_stable (M:List (List UInt8×Value)):Stable (mapP M):=by
 rintro own own' w w' v hx ho ⟨b,es,clock,rfl,h1,h2,h3,h4⟩
 refine⟨b,es,clock,rfl,fun h=>?_,Nat.lt_of_lt_of_le h2 hx.size,(hx.block b h2 h1).trans h3,h4⟩
 rcases ho _ h with h|h
 ·
  exact h1 h
 ·
  omega
theorem fn_stable (f:FuncId) (ds:List D):Stable (fnP f ds):=by
 rintro own own' w w' v hx ho ⟨cs,rfl,h1,h2⟩
 exact⟨cs,rfl,h1,fun j x c hj hc=>(h2 j x c hj hc).step hx ho⟩
theorem rd_x {own:Nat→Prop}{v:Value}{p:World→(Nat→Prop)→Value→Prop}(h:Rd w own v (.x p)):p w own v:=by
 generalize hD:D.x p=D0 at h
 cases h with
 |v=>cases hD
 |sl=>cases hD
 |agg=>cases hD
 |nil=>cases hD
 |x p v h1 hst hp=>cases hD;exact hp
theorem rd_ref {own:Nat→Prop}{v:Value}{ds:List D}(h:refP ds w own v):Rd w own v (refD ds):=by
 obtain⟨ad,rfl,_⟩:=id h
 exact .x _ _ rfl (ref_stable ds) h
theorem rd_map {own:Nat→Prop}{v:Value}{M:List (List UInt8×Value)}(h:mapP M w own v):Rd w own v (mapD M):=by
 obtain⟨b,es,clock,rfl,_⟩:=id h
 exact .x _ _ rfl (map_stable M) h
theorem rd_fn {own:Nat→Prop}{v:Value}{f:FuncId}{ds:List D}(h:fnP f ds w own v):Rd w own v (fnD f ds):=by
 obtain⟨cs,rfl,_⟩:=id h
 exact .x _ _ rfl (fn_stable f ds) h
theorem stut_refpd {i:Nat}{ds:List D}:Stut cx ⟨[(.s i,.av (.d (refD ds)))],[(.s i,.av (.pd ds))]⟩:=by
 rintro σ a w ⟨g,nx,hG⟩ hr
 obtain⟨ad,h1,h2,h3,h4⟩:=rd_x (hG.slots i _ hr.1).1
 exact Sim.retell hG (av := .pd ds) ⟨ad,h1,.inr h2,h3,h4⟩ trivial
theorem own_drop (hs:SimG cx σ a w g nx) {id:Nat}{o:Ob}(ho:get σ (.o id) = .ob o) {b:Nat}(hb:cx.own g ((.o id,.none)::σ) b):cx.own g σ b∧blk (g id)≠some b:=by
 rcases hb with h|⟨j,o1,h1,h2⟩
 ·
  refine⟨.inl h,fun hb=>?_⟩
  have h3:=obj_ge hs ho hb
  have h4:=hs.own0.1 b h
  omega
 ·
  by_cases hj:id=j
  ·
   subst hj;rw[get_cons_same]at h1;cases h1
  ·
   rw[get_cons_ne (by simpa using hj)]at h1
   exact⟨.inr ⟨j,o1,h1,h2⟩,fun hb=>hj (hs.sep id j _ o1 b ho h1 hb h2)⟩
theorem stut_freezebox {i id:Nat}{cells:List AV}{ds:List D}(hc:cells=ds.map AV.d):Stut cx ⟨[(.s i,.av (.ptr id 0)),(.o id,.ob (.box cells))],[(.s i,.av (.d (refD ds))),(.o id,.none)]⟩:=by
 subst hc
 rintro σ a w hs hr
 have hs0:=hs
 obtain⟨g,nx,hG⟩:=hs0
 have ho:get σ (.o id) = .ob (.box (ds.map AV.d)):=hr.2.1
 obtain⟨b0,hg0,hv⟩:=(hG.slots i _ hr.1).1.2 _ ho
 obtain⟨_,⟨b,cs,t,h0,h1,h2,h3,h4,h5⟩,_⟩:=hG.objs id _ ho
 obtain rfl:b0=b:=by rw[hg0]at h0;simpa using h0
 have hl:=Less.drop hs id
 have hlat:Later cx g g σ ((.o id,.none)::σ) w w nx:=by
  refine⟨Ext.refl _ _,Below.refl _ _,fun b hb => .inl (own_drop hG ho hb).1,fun j o' _ h=>⟨o',hl.o _ _ h,?_⟩⟩
  cases o' <;> simp[ObLe]
 have hG2:SimG cx ((.o id,.none)::σ) a w g nx :=
  hG.next hlat ((get_cons_ne (by simp)).trans hG.hnx) (Nat.le_refl _) hG.size hG.defers (Below.refl _ _) (fun j av hj => .inl ⟨hl.s _ _ hj,rfl⟩) (fun j o hj => .inl ⟨hl.o _ _ hj,rfl,fun _ _=>rfl⟩)
   (fun j j' o o' b h1 h2=>hG.sep j j' o o' b (hl.o _ _ h1) (hl.o _ _ h2))
 have hlt:b0 < w.heap.size:=by
  rcases Nat.lt_or_ge b0 w.heap.size with h|h
  ·
   exact h
  ·
   rw[Array.getElem?_eq_none h]at h2;cases h2
 refine Sim.retell hG2 (av := .d (refD ds)) (rd_ref ⟨_,hv,fun h=>(own_drop hG ho h).2 (by rw[hg0];rfl),hlt,fun j z hz=>?_⟩) trivial
 have hjl:j < cs.size:=by rw[h3];simpa using(List.getElem?_eq_some_iff.1 hz).1
 have hcs:cs[j]? = some cs[j]:=Array.getElem?_eq_getElem hjl
 refine⟨cs[j],by rw[add_lit];simp[World.cell?,h2,hcs],h4 _ _ hcs,?_⟩
 exact Rd.less (fun b hb=>(own_drop hG ho hb).1) (h5 j _ (.d z) (by rw[List.getElem?_map,hz];rfl) hcs)
theorem argsOk_get {own:Nat→Prop}:∀ {vs:List Value}{ds:List D},ArgsOk w own vs (ds.map Arg.d)→vs.length=ds.length∧∀ (j:Nat) (x:D) (c:Value),ds[j]? = some x→vs[j]? = some c→Rd w own c x
 | [],[],_=>⟨rfl,by simp⟩
 |v::vs,y::ds,h=>by
  obtain⟨h1,h2⟩:=argsOk_get h.2
  refine⟨by simp[h1],fun j x c hj hc=>?_⟩
  cases j with
  |zero=>simp at hj hc;subst hj;subst hc;exact h.1
  |succ j=>exact h2 j x c (by simpa using hj) (by simpa using hc)
 | [],y::ds,h=>h.elim
 |v::vs,[],h=>h.elim
theorem argsOk_append {own:Nat→Prop}:∀ {vs us:List Value}{xs ys:List Arg},ArgsOk w own vs xs→ArgsOk w own us ys→ArgsOk w own (vs++us) (xs++ys)
 | [],us,[],ys,_,h=>h
 |v::vs,us,x::xs,ys,h,h'=>⟨h.1,argsOk_append h.2 h'⟩
 | [],us,x::xs,ys,h,_=>h.elim
 |v::vs,us,[],ys,h,_=>h.elim
theorem a_mkfn {f:FuncId}{xs:List Operand}{avs:List AV}{ds:List D}{l:List (Key×Val)}(hd:Nat.blt d cx.n=true) (hsub:SubsE σ xs avs (ds.map Arg.d) l) :
  OA cx σ ⟨some d,.makeFunc (.func f) #[] ⟨xs⟩,ty,pos,af,gd⟩ ⟨l,[(.s d,.av (.d (fnD f ds)))]⟩:=by
 refine⟨ok_val rfl (lt_of_blt hd) fun σ1 a w g nx hs hr=>⟨.func (.func f) #[] (xs.map a.eval).toArray,w,?_,Below.refl _ _,?_,trivial⟩,hsub.out.2⟩
 ·
  simp[execOp,Instr.makeFunc]
 ·
  obtain⟨h1,h2⟩:=argsOk_get (hsub.out.1.ok hs hr)
  exact rd_fn ⟨_,rfl,by simpa using h1,fun j x c hj hc=>h2 j x c hj (by simpa using hc)⟩
inductive Caps:List D→List Arg→Prop
 |nil:Caps [] []
 |ref {cs ds:List D} {zs:List Arg} (h:Caps ds zs):Caps (refD cs::ds) (.pd cs::zs)
 |d {x:D} {ds:List D} {zs:List Arg} (h:Caps ds zs):Caps (x::ds) (.d x::zs)
theorem Caps.ok {own:Nat→Prop}{ds:List D}{zs:List Arg}(h:Caps ds zs):∀ {vs:List Value},vs.length=ds.length→(∀ (j:Nat) (x:D) (c:Value),ds[j]? = some x→vs[j]? = some c→Rd w own c x)→ArgsOk w own vs zs:=by
 induction h with
 |nil =>
  intro vs hl _
  obtain rfl:vs=[]:=List.eq_nil_of_length_eq_zero hl
  trivial
 |@ref cs ds zs h ih =>
  intro vs hl hr
  cases vs with
  |nil=>simp at hl
  |cons v vs =>
   obtain⟨ad,h1,_,h2,h3⟩:=rd_x (hr 0 _ v rfl rfl)
   exact⟨⟨ad,h1,h2,h3⟩,ih (by simpa using hl) fun j x c hj hc=>hr (j+1) x c (by simpa using hj) (by simpa using hc)⟩
 |@d x ds zs h ih =>
  intro vs hl hr
  cases vs with
  |nil=>simp at hl
  |cons v vs=>exact⟨hr 0 _ v rfl rfl,ih (by simpa using hl) fun j x c hj hc=>hr (j+1) x c (by simpa using hj) (by simpa using hc)⟩
theorem callfn_run {P:Program}{f:FuncId}{ys:List Arg}{r:Res}(hc:FnOk P f ys r) {ev:Operand→Value}{z:Operand}{xs:List Operand}{ats:Array TypeId}{dd:Option Nat}{cs:Array Value}(hv:ev z = .func (.func f) #[] cs) :
  (execOp ev ⟨dd,.call { callee := .value z,args:=⟨xs⟩,argTypes:=ats },ty,pos,af,gd⟩).run P w = .ok (.enter f (xs.map ev++cs.toList).toArray) w:=by
 obtain⟨fn,h1,h2,h3⟩:=hc.run
 simp only[execOp,resolve,Deferred.ofValue,hv,invoke,callFunc,Sem.run_bind,Sem.run_pure,Result.andThen_ok,run_program,h1,h2,h3,Bool.false_eq_true,if_false]
 simp
theorem a_callfn {f:FuncId}{z:Operand}{xs:List Operand}{avs:List AV}{ys zs:List Arg}{l:List (Key×Val)}{r:Res}{ats:Array TypeId}{ds:List D}(hc:FnOk cx.P f (ys++zs) r) (hcap:Caps ds zs)
  (hz:ev σ z=some (.d (fnD f ds))) (hd:Nat.blt d cx.n=true) (hsub:SubsE σ xs avs ys l) :
  OA cx σ ⟨some d,.call { callee := .value z,args:=⟨xs⟩,argTypes:=ats },ty,pos,af,gd⟩ ⟨rdOf z (.d (fnD f ds))++l,[(.s d,.av r.av)]⟩:=by
 refine⟨?_,(ev_out hz).2.append hsub.out.2⟩
 rintro σ1 a w K Q ⟨g,nx,hs⟩ hr hK
 obtain⟨cs,hv,h1,h2⟩:=rd_x (hs.ev (ev_out hz).1 hr.left).1
 have hcall:=hc.calls w (cx.own g σ1) (xs.map a.eval++cs.toList) ⟨fun b hb=>own_lt hs hb,hs.gl⟩ (argsOk_append (hsub.out.1.ok hs hr.right) (hcap.ok (by simpa using h1) fun j x c hj hc=>h2 j x c hj (by simpa using hc)))
 unfold Oper.wp
 rw[callfn_run hc hv]
 refine hcall.mono fun e w' he=>?_
 obtain⟨v,rfl,hb,hres⟩:=he
 obtain⟨h1,h2⟩:=Res.rep (nx:=nx) hres
 exact hK _ _ (Sim.put hs (lt_of_blt hd) hb h1 h2)
inductive CapsM (x0:Value) (M:List (List UInt8×Value)):List D→List Arg→Prop
 |nil:CapsM x0 M [] []
 |map {ds:List D} {zs:List Arg} (h:CapsM x0 M ds zs):CapsM x0 M (refD [.v x0]::ds) (.pd [mapD M]::zs)
 |ref {cs ds:List D} {zs:List Arg} (h:CapsM x0 M ds zs):CapsM x0 M (refD cs::ds) (.pd cs::zs)
theorem CapsM.ok {own own':Nat→Prop}{x0:Value}{M:List (List UInt8×Value)}(ho:∀ b,own' b→own b) (hm:Rd w own' x0 (mapD M)) {ds:List D}{zs:List Arg}(h:CapsM x0 M ds zs) :
  ∀ {vs:List Value},vs.length=ds.length→(∀ (j:Nat) (x:D) (c:Value),ds[j]? = some x→vs[j]? = some c→Rd w own c x)→ArgsOk w own' vs zs:=by
 induction h with
 |nil =>
  intro vs hl _
  obtain rfl:vs=[]:=List.eq_nil_of_length_eq_zero hl
  trivial
 |@map ds zs h ih =>
  intro vs hl hr
  cases vs with
  |nil=>simp at hl
  |cons v vs =>
   obtain⟨ad,h1,_,h2,h3⟩:=rd_x (hr 0 _ v rfl rfl)
   refine⟨⟨ad,h1,h2,fun j z hz=>?_⟩,ih (by simpa using hl) fun j x c hj hc=>hr (j+1) x c (by simpa using hj) (by simpa using hc)⟩
   cases j with
   |zero =>
    simp at hz;subst hz
    obtain⟨u,h4,h5,h6⟩:=h3 0 _ rfl
    rw[rd_v h6]at h4 h5
    exact⟨x0,h4,h5,hm⟩
   |succ j=>simp at hz
 |@ref cs ds zs h ih =>
  intro vs hl hr
  cases vs with
  |nil=>simp at hl
  |cons v vs =>
   obtain⟨ad,h1,_,h2,h3⟩:=rd_x (hr 0 _ v rfl rfl)
   exact⟨⟨ad,h1,h2,fun j z hz=>by obtain⟨u,h4,h5,h6⟩:=h3 j z hz;exact⟨u,h4,h5,h6.less ho⟩⟩,ih (by simpa using hl) fun j x c hj hc=>hr (j+1) x c (by simpa using hj) (by simpa using hc)⟩
theorem a_callfnM {f:FuncId}{z:Operand}{xs:List Operand}{avs:List AV}{ys zs:List Arg}{l:List (Key×Val)}{r:Res}{ats:Array TypeId}{ds:List D}{id:Nat}{x0:Value}{M:List (List UInt8×Value)}
  (hc:FnOk cx.P f (ys++zs) r) (hcap:CapsM x0 M ds zs) (hp:plainR r=true) (ho:get σ (.o id) = .ob (.mp M x0)) (hz:ev σ z=some (.d (fnD f ds))) (hd:Nat.blt d cx.n=true) (hsub:SubsE σ xs avs ys l) :
  OA cx σ ⟨some d,.call { callee := .value z,args:=⟨xs⟩,argTypes:=ats },ty,pos,af,gd⟩ ⟨rdOf z (.d (fnD f ds))++(l++[(.o id,.ob (.mp M x0))]),[(.s d,.av r.av)]⟩:=by
 refine⟨?_,(ev_out hz).2.append (hsub.out.2.append ⟨ho,trivial⟩)⟩
 rintro σ1 a w K Q ⟨g,nx,hs⟩ hr hK
 have ho1:get σ1 (.o id) = .ob (.mp M x0):=hr.right.right.1
 obtain⟨cs,hv,h1,h2⟩:=rd_x (hs.ev (ev_out hz).1 hr.left).1
 obtain⟨_,⟨hgx,b,es,clock,hx0,hge,hh,hmi⟩,_⟩:=hs.objs id _ ho1
 have hblt:b < w.heap.size:=by
  rcases Nat.lt_or_ge b w.heap.size with h|h
  ·
   exact h
  ·
   rw[Array.getElem?_eq_none h]at hh;cases hh
 have hm:Rd w (fun c=>cx.own g σ1 c∧blk x0≠some c) x0 (mapD M):=rd_map ⟨b,es,clock,hx0,fun h=>h.2 (by rw[hx0];rfl),hblt,hh,hmi⟩
 have hcall:=hc.calls w (fun c=>cx.own g σ1 c∧blk x0≠some c) (xs.map a.eval++cs.toList) ⟨fun b hb=>own_lt hs hb.1,hs.gl⟩
  (argsOk_append ((hsub.out.1.ok hs hr.right.left).less fun b hb=>hb.1) (hcap.ok (fun b hb=>hb.1) hm (by simpa using h1) fun j x c hj hc=>h2 j x c hj (by simpa using hc)))
 unfold Oper.wp
 rw[callfn_run hc hv]
 refine hcall.mono fun e w' he=>?_
 obtain⟨v,rfl,hb,hres⟩:=he
 obtain⟨h1,h2⟩:=Res.rep (nx:=nx) (plainR_ok hp (own':=cx.own g σ1) hres)
 exact hK _ _ (Sim.put hs (lt_of_blt hd) hb h1 h2)
def mget (M:List (List UInt8×Value)) (k:List UInt8):Option Value:=match M with
 | []=>none
 |(s,v)::r=>if s=k then some v else mget r k
def mset (M:List (List UInt8×Value)) (k:List UInt8) (v:Value):List (List UInt8×Value):=match M with
 | []=>[(k,v)]
 |(s,u)::r=>if s=k then (s,v)::r else (s,u)::mset r k v
def mfind (k:List UInt8):List (List UInt8×Value)→Nat→Option (Nat×Value)
 | [],_=>none
 |(s,v)::r,i=>if s=k then some (i,v) else mfind k r (i+1)
theorem findNow_eq (k:List UInt8):∀ {es:List MapEntry}{M:List (List UInt8×Value)}(i:Nat),es.map (fun e=>(e.key,e.val))=M.map (fun p=>(Value.string ⟨p.1.toArray⟩,p.2)) →
  Instr.findNow .string (.string ⟨k.toArray⟩) es i=some ((mfind k M i).map fun p=>(p.1,p.2))
 | [],[],i,_=>rfl
 | [],p::M,i,h=>by simp at h
 |e::es,[],i,h=>by simp at h
 |e::es,(s,v)::M,i,h=>by
  simp only[List.map_cons,List.cons.injEq,Prod.mk.injEq]at h
  obtain⟨⟨h1,h2⟩,h3⟩:=h
  obtain⟨r,hr,hiff⟩:=MapKept.sameNow_of_keys (d := .string) (a := .string ⟨k.toArray⟩) (b := .string ⟨s.toArray⟩) (by simp[MapKept.IsKey]) (by simp[MapKept.IsKey])
  rw[← h1]at hr
  have hs':r=true↔s=k:=by
   rw[hiff]
   simp only[Value.string.injEq,ByteArray.mk.injEq]
   constructor
   ·
    intro h
    have:=congrArg Array.toList h
    simpa using this.symm
   ·
    rintro rfl;rfl
  simp only[Instr.findNow,hr,mfind]
  by_cases hs:s=k
  ·
   rw[if_pos hs]
   have hrt:=hs'.2 hs
   subst hrt
   simp[h2]
  ·
   rw[if_neg hs]
   have hrf:r=false:=by
    cases r with
    |false=>rfl
    |true=>exact absurd (hs'.1 rfl) hs
   subst hrf
   exact findNow_eq k (i+1) h3
theorem mfind_get (k:List UInt8):∀ (M:List (List UInt8×Value)) (i:Nat),(mfind k M i).map (·.2)=mget M k
 | [],_=>rfl
 |(s,v)::M,i=>by
  simp only[mfind,mget]
  split
  ·
   rfl
  ·
   exact mfind_get k M (i+1)
end Go.AX
namespace Go.AX
open Go.RowKit
variable {cx:Cx}{g:Nat→Value}{σ σ':St}{a:Act}{w w':World}{nx:Nat}
variable {ty:TypeId}{pos:String}{af:Array Edge}{gd:Option (Nat×Bool)}{d:Nat}
def flat:Value→Prop
 |.agg cs=>∀ c∈cs.toList,Value.oneCell' c=true
 |_=>True
def dv:Value→D
 |.agg cs => .agg (cs.toList.map D.v)
 |v => .v v
theorem rd_dv {own:Nat→Prop}{v:Value}(h:flat v):Rd w own v (dv v):=by
 cases v with
 |agg cs =>
  refine .agg _ _ (by simp) (fun j c hc=>h c (List.mem_of_getElem? (by simpa using hc))) fun j x c hx hc=>?_
  rw[List.getElem?_map]at hx
  have hc':cs.toList[j]? = some c:=by simpa using hc
  rw[hc']at hx
  simp at hx;subst hx
  exact Rd.v _
 |_=>exact Rd.v _
structure MapTy (cx:Cx) (t te:TypeId) (zv:Value):Prop where
 u:∃ tk,cx.P.underlying t=some (.map tk te)∧cx.P.underlying tk=some .string
 z:∀ w,(zeroValue te).run cx.P w = .ok zv w
theorem MapTy.st {t te:TypeId}{ti:TI}(hu:∃ tk,cx.P.underlying t=some (.map tk te)∧cx.P.underlying tk=some .string) (he:tget cx.T te=some ti) (h2:ti.zero.length≠1):MapTy cx t te (.agg ti.zero.toArray):=by
 refine⟨hu,fun w=>?_⟩
 obtain⟨i,hi,_,_,z,hz,hc⟩:=(cx.hT te ti he).info
 have hag:z = .agg ti.zero.toArray:=by
  cases z with
  |agg cs =>
   have:cs.toList=ti.zero:=hc
   rw[← this]
  |_=>exact absurd (by rw[← hc];rfl) h2
 subst hag
 simp[zeroValue,typeInfo,hi,hz]
def mlook (zv:Value) (M:List (List UInt8×Value)) (k:List UInt8):Value:=(mget M k).getD zv
theorem run_mlook {t te:TypeId}{zv:Value}(h:MapTy cx t te zv) {b:Nat}{es:Array MapEntry}{clock:Nat}{M:List (List UInt8×Value)}(hb:w.heap[b]? = some (.map es clock)) (hm:MapIs es M) (k:List UInt8) (ok:Bool) :
  (Instr.lookup t (.map (some b)) (.string ⟨k.toArray⟩) ok).run cx.P w = .ok (if ok then .tuple #[mlook zv M k,.bool (mget M k).isSome] else mlook zv M k) w:=by
 obtain⟨tk,h1,h2⟩:=h.u
 have hf:=findNow_eq k 0 hm
 have hg:=mfind_get k M 0
 have hck:(Instr.checkKey es.isEmpty 10000 tk (.string ⟨k.toArray⟩)).run cx.P w = .ok () w:=MapKept.run_checkKey h2 (by simp[MapKept.IsKey]) _ 9999
 have hz:=h.z w
 cases hfd:mfind k M 0 with
 |none =>
  rw[hfd]at hf hg
  simp only[Option.map_none]at hf hg
  cases ok <;> simp[Instr.lookup,run_underlying h1,MapKept.run_getObj_map hb,hck,Instr.findKey,run_underlying h2,hf,hz,mlook,← hg,Result.andThen]
 |some p =>
  rw[hfd]at hf hg
  simp only[Option.map_some]at hf hg
  cases ok <;> simp[Instr.lookup,run_underlying h1,MapKept.run_getObj_map hb,hck,Instr.findKey,run_underlying h2,hf,mlook,← hg,Result.andThen]
theorem tup_rep {v:Value}{r:Bool}(h1:flat v):Rep cx g σ w (.tuple #[v,.bool r]) (.tup [.d (dv v),.d (.v (.bool r))]):=by
 refine⟨_,rfl,rfl,fun j c av hj hc=>?_⟩
 match j,hj,hc with
 |0,hj,hc =>
  simp at hj hc;subst hj;subst hc
  exact rd_dv h1
 |1,hj,hc=>simp at hj hc;subst hj;subst hc;exact Rd.v _
theorem mget_mem {M:List (List UInt8×Value)}{k:List UInt8}{us:Value}(h:mget M k=some us):∃ p∈M,p.2=us:=by
 induction M with
 |nil=>cases h
 |cons q M ih =>
  obtain⟨s,v⟩:=q
  simp only[mget]at h
  split at h
  ·
   cases h;exact⟨_,List.mem_cons_self ..,rfl⟩
  ·
   obtain⟨p,h1,h2⟩:=ih h
   exact⟨p,List.mem_cons_of_mem _ h1,h2⟩
theorem mlook_flat {zv:Value}{M:List (List UInt8×Value)}{k:List UInt8}(hz:flat zv) (hM:∀ p∈M,flat p.2):flat (mlook zv M k):=by
 unfold mlook
 cases hg:mget M k with
 |none=>exact hz
 |some us =>
  obtain⟨p,h1,rfl⟩:=mget_mem hg
  exact hM p h1
theorem tup_bd {x y:D}:(AV.tup [.d x,.d y]).bd nx:=by
 intro av hav
 simp at hav
 rcases hav with rfl|rfl <;> trivial
theorem a_mlook {t te:TypeId}{zv:Value}{x y:Operand}{x0:Value}{k:List UInt8}{M:List (List UInt8×Value)}(id:Nat) (h:MapTy cx t te zv) (hz:flat zv) (hM:∀ p∈M,flat p.2)
  (hx:ev σ x=some (.d (.v x0))) (hy:ev σ y=some (.d (.v (.string ⟨k.toArray⟩)))) (ho:get σ (.o id) = .ob (.mp M x0)) (hd:Nat.blt d cx.n=true) :
  OA cx σ ⟨some d,.lookup t x y true,ty,pos,af,gd⟩ ⟨rdOf x (.d (.v x0))++(rdOf y (.d (.v (.string ⟨k.toArray⟩)))++[(.o id,.ob (.mp M x0))]),[(.s d,.av (.tup [.d (dv (mlook zv M k)),.d (.v (.bool (mget M k).isSome))]))]⟩:=by
 refine⟨ok_val rfl (lt_of_blt hd) fun σ1 a w g nx hs hr=>?_,(ev_out hx).2.append ((ev_out hy).2.append ⟨ho,trivial⟩)⟩
 have hv:=rep_v (hs.ev (ev_out hx).1 hr.left).1
 have hk:=rep_v (hs.ev (ev_out hy).1 hr.right.left).1
 obtain⟨_,⟨hgx,b,es,clock,hx0,hge,hh,hmi⟩,_⟩:=hs.objs id _ hr.right.right.1
 refine⟨_,w,?_,Below.refl _ _,tup_rep (mlook_flat hz hM),tup_bd⟩
 have:=run_mlook (w:=w) h hh hmi k true
 simp[execOp,hv,hk,hx0,this]
theorem a_mlookd {t te:TypeId}{zv:Value}{x y:Operand}{k:List UInt8}{M:List (List UInt8×Value)}(h:MapTy cx t te zv) (hz:flat zv) (hM:∀ p∈M,flat p.2)
  (hx:ev σ x=some (.d (mapD M))) (hy:ev σ y=some (.d (.v (.string ⟨k.toArray⟩)))) (hd:Nat.blt d cx.n=true) :
  OA cx σ ⟨some d,.lookup t x y true,ty,pos,af,gd⟩ ⟨rdOf x (.d (mapD M))++rdOf y (.d (.v (.string ⟨k.toArray⟩))),[(.s d,.av (.tup [.d (dv (mlook zv M k)),.d (.v (.bool (mget M k).isSome))]))]⟩:=by
 refine⟨ok_val rfl (lt_of_blt hd) fun σ1 a w g nx hs hr=>?_,(ev_out hx).2.append (ev_out hy).2⟩
 obtain⟨b,es,clock,hx0,_,_,hh,hmi⟩:=rd_x (hs.ev (ev_out hx).1 hr.left).1
 have hk:=rep_v (hs.ev (ev_out hy).1 hr.right).1
 refine⟨_,w,?_,Below.refl _ _,tup_rep (mlook_flat hz hM),tup_bd⟩
 have:=run_mlook (w:=w) h hh hmi k true
 simp[execOp,hx0,hk,this]
theorem mfind_some {k:List UInt8}{us v:Value}:∀ {M:List (List UInt8×Value)}{j i:Nat},mfind k M j=some (i,v)→∃ n,i=j+n∧M[n]? = some (k,v)∧mset M k us=M.set n (k,us)
 | [],j,i,h=>by cases h
 |(s,u)::M,j,i,h=>by
  simp only[mfind]at h
  by_cases hs:s=k
  ·
   rw[if_pos hs]at h
   cases h
   exact⟨0,rfl,by simp[hs],by simp[mset,hs]⟩
  ·
   rw[if_neg hs]at h
   obtain⟨n,h1,h2,h3⟩:=mfind_some (us:=us) h
   exact⟨n+1,by omega,by simpa using h2,by simp[mset,hs,h3]⟩
theorem mfind_none {k:List UInt8}{us:Value}:∀ {M:List (List UInt8×Value)}{j:Nat},mfind k M j=none→mset M k us=M++[(k,us)]
 | [],j,_=>rfl
 |(s,u)::M,j,h=>by
  simp only[mfind]at h
  by_cases hs:s=k
  ·
   rw[if_pos hs]at h;cases h
  ·
   rw[if_neg hs]at h
   simp[mset,hs,mfind_none h]
theorem run_mset {t te:TypeId}{zv:Value}(h:MapTy cx t te zv) {b:Nat}{es:Array MapEntry}{clock:Nat}{M:List (List UInt8×Value)}(hb:w.heap[b]? = some (.map es clock)) (hm:MapIs es M) (k:List UInt8) (us:Value) :
  ∃ es' clock',(Instr.mapUpdate t (.map (some b)) (.string ⟨k.toArray⟩) us).run cx.P w = .ok () { w with heap:=w.heap.setIfInBounds b (.map es' clock') }∧MapIs es' (mset M k us):=by
 obtain⟨tk,h1,h2⟩:=h.u
 have hf:=findNow_eq k 0 hm
 have hck:(Instr.checkKey false 10000 tk (.string ⟨k.toArray⟩)).run cx.P w = .ok () w:=MapKept.run_checkKey h2 (by simp[MapKept.IsKey]) _ 9999
 have hset:∀ o,(setObj b o).run cx.P w = .ok () { w with heap:=w.heap.setIfInBounds b o }:=fun o=>MapKept.run_setObj_map o hb
 cases hfd:mfind k M 0 with
 |none =>
  rw[hfd]at hf
  simp only[Option.map_none]at hf
  refine⟨es.push ⟨.string ⟨k.toArray⟩,us,clock⟩,clock+1,?_,?_⟩
  ·
   simp[Instr.mapUpdate,run_underlying h1,MapKept.run_getObj_map hb,hck,Instr.findKey,run_underlying h2,hf,hset,Result.andThen]
  ·
   rw[mfind_none hfd]
   unfold MapIs at hm ⊢
   simp[hm]
 |some p =>
  obtain⟨i,v⟩:=p
  rw[hfd]at hf
  simp only[Option.map_some]at hf
  obtain⟨n,hn,h3,h4⟩:=mfind_some (us:=us) hfd
  obtain rfl:i=n:=by omega
  have hes:(es.toList.map fun e=>(e.key,e.val))[i]? = some (Value.string ⟨k.toArray⟩,v):=by
   unfold MapIs at hm
   rw[hm,List.getElem?_map,h3];rfl
  obtain⟨e,he,hek⟩:∃ e,es[i]? = some e∧e.key=Value.string ⟨k.toArray⟩:=by
   rw[List.getElem?_map]at hes
   cases hx:es.toList[i]? with
   |none=>rw[hx]at hes;cases hes
   |some e =>
    rw[hx]at hes
    simp at hes
    exact⟨e,by simpa using hx,hes.1⟩
  refine⟨es.modify i fun e=>{ e with key := .string ⟨k.toArray⟩,val:=us },clock,?_,?_⟩
  ·
   have hst:(Instr.keyThatStays (((es[i]?).map (·.key)).getD (.string ⟨k.toArray⟩)) (.string ⟨k.toArray⟩)).run cx.P w = .ok (.string ⟨k.toArray⟩) w:=by
    rw[he]
    simp only[Option.map_some,Option.getD_some,hek]
    have hbb:((⟨k.toArray⟩:ByteArray)==⟨k.toArray⟩)=true:=(MapKept.bytes_beq _ _).2 rfl
    simp[Instr.keyThatStays,Instr.sameBits,hbb]
   simp[Instr.mapUpdate,run_underlying h1,MapKept.run_getObj_map hb,hck,Instr.findKey,run_underlying h2,hf,hst,hset,Result.andThen]
  ·
   rw[h4]
   unfold MapIs at hm ⊢
   rw[List.map_set,← hm]
   apply List.ext_getElem?
   intro j
   rw[List.getElem?_map,Array.getElem?_toList,Array.getElem?_modify]
   by_cases hj:i=j
   ·
    subst hj
    have hlt:=(Array.getElem?_eq_some_iff.1 he).1
    rw[if_pos rfl,List.getElem?_set_self (by simpa using hlt),he]
    rfl
   ·
    rw[if_neg hj,List.getElem?_set_ne hj,List.getElem?_map,Array.getElem?_toList]
inductive ValV:AV→Value→Prop
 |v {u:Value}:ValV (.d (.v u)) u
 |agg {av:AV} {us:List Value} (h:AggV av us):ValV av (.agg us.toArray)
theorem rep_valv {v u:Value}{av:AV}(h:ValV av u) (hr:Rep cx g σ w v av):v=u:=by
 cases h with
 |v=>exact rep_v hr
 |agg h=>exact rep_aggv h hr
theorem a_mset {t te:TypeId}{zv:Value}{x y z:Operand}{x0:Value}{av:AV}{k:List UInt8}{us:Value}{M:List (List UInt8×Value)}(id:Nat) (h:MapTy cx t te zv)
  (hx:ev σ x=some (.d (.v x0))) (hy:ev σ y=some (.d (.v (.string ⟨k.toArray⟩)))) (hz:ev σ z=some av) (hu:ValV av us) (ho:get σ (.o id) = .ob (.mp M x0)) :
  OA cx σ ⟨none,.mapUpdate t x y z,ty,pos,af,gd⟩ ⟨rdOf x (.d (.v x0))++(rdOf y (.d (.v (.string ⟨k.toArray⟩)))++(rdOf z av++[(.o id,.ob (.mp M x0))])),[(.o id,.ob (.mp (mset M k us) x0))]⟩:=by
 refine⟨?_,(ev_out hx).2.append ((ev_out hy).2.append ((ev_out hz).2.append ⟨ho,trivial⟩))⟩
 rintro σ1 a w K Q ⟨g,nx,hs⟩ hr hK
 have hv:=rep_v (hs.ev (ev_out hx).1 hr.left).1
 have hk:=rep_v (hs.ev (ev_out hy).1 hr.right.left).1
 have hzv:=rep_valv hu (hs.ev (ev_out hz).1 hr.right.right.left).1
 have ho1:get σ1 (.o id) = .ob (.mp M x0):=hr.right.right.right.1
 obtain⟨hid,⟨hgx,b,es,clock,hx0,hge,hh,hmi⟩,_⟩:=hs.objs id _ ho1
 obtain⟨es',clock',hrun,hmi'⟩:=run_mset (w:=w) h hh hmi k us
 have hblt:b < w.heap.size:=by
  rcases Nat.lt_or_ge b w.heap.size with h|h
  ·
   exact h
  ·
   rw[Array.getElem?_eq_none h]at hh;cases hh
 have hgb:blk (g id)=some b:=by rw[hgx,hx0];rfl
 have hoth:∀ c,c≠b→({ w with heap:=w.heap.setIfInBounds b (.map es' clock') }:World).heap[c]? = w.heap[c]? := fun c hc=>by
  show(w.heap.setIfInBounds b _)[c]? = _
  rw[Array.getElem?_setIfInBounds,if_neg (fun e=>hc e.symm)]
 have hst:ObjStep cx σ1 g nx nx w { w with heap:=w.heap.setIfInBounds b (.map es' clock') } id (.mp (mset M k us) x0) (g id):=by
  refine⟨.inr ⟨rfl,_,ho1,trivial⟩,⟨rfl,rfl,rfl,by simp,fun c hc=>hoth c (by have:=hs.below.size;omega)⟩,fun c hc hn=>hoth c fun e=>hn _ ho1 (by rw[hgb,e]),fun c hc => .inl ⟨_,ho1,hc⟩⟩
 have hG:=SimG.obj hs hst (fun _=>⟨by rw[upd_same];exact hgx,b,es',clock',hx0,hge,by show(w.heap.setIfInBounds b _)[b]? = _;rw[Array.getElem?_setIfInBounds,if_pos rfl,if_pos hblt],hmi'⟩) trivial
 unfold Oper.wp
 have hex:(execOp a.eval ⟨none,.mapUpdate t x y z,ty,pos,af,gd⟩).run cx.P w = .ok .skip { w with heap:=w.heap.setIfInBounds b (.map es' clock') }:=by
  simp[execOp,hv,hk,hzv,hx0,hrun]
 rw[hex]
 refine hK _ _ (Sim.eqv ⟨_,_,hG⟩ fun q=>?_)
 cases q with
 |s i=>rw[objSt_s];exact(get_cons_ne (by simp)).symm
 |o i =>
  by_cases hi:i=id
  ·
   subst hi;rw[get_cons_same];exact get_cons_same.symm
  ·
   rw[objSt_o hi];exact(get_cons_ne (by simpa using fun e=>hi e.symm)).symm
 |nx=>rw[objSt_nx];exact hs.hnx.symm.trans (get_cons_ne (by simp)).symm
theorem fam_mkmap {t:TypeId}{n0:Nat}(hn:get σ .nx = .num n0) (hd:Nat.blt d cx.n=true) (a:Act) (w:World) (K:Act→World→Prop) (Q:Exit→Act→World→Prop) (hs:Sim cx σ a w)
  (hK:∀ (x:Value) a' w',Sim cx ([(.s d,.av (.d (.v x))),(.o n0,.ob (.mp [] x)),(.nx,.num (n0+1))]++σ) a' w'→K a' w') :
  (⟨some d,.makeMap t none,ty,pos,af,gd⟩:Oper).wp cx.P a w K Q:=by
 obtain⟨g,nx,hs⟩:=hs
 have hnx:nx=n0:=by
  have h2:=hs.hnx
  rw[hn]at h2
  simpa using h2.symm
 subst hnx
 have hex:(execOp a.eval ⟨some d,.makeMap t none,ty,pos,af,gd⟩).run cx.P w = .ok (.value (.map (some w.heap.size))) (w.alloc (.map #[] 0)):=by
  simp[execOp,Instr.makeMap,newObj]
  rfl
 have hb:Below w.heap.size w (w.alloc (.map #[] 0)):=(Below.refl _ _).alloc (Nat.le_refl _) _
 have hst:ObjStep cx σ g nx (nx+1) w (w.alloc (.map #[] 0)) nx (.mp [] (.map (some w.heap.size))) (.map (some w.heap.size)) :=
  ⟨.inl ⟨rfl,rfl⟩,hb.mono hs.below.size,fun c hc _=>hb.block c hc,fun c hc => .inr (by cases hc;exact Nat.le_refl _)⟩
 have hG:=SimG.obj hs hst (fun _=>⟨upd_same _ _ _,w.heap.size,#[],0,rfl,hs.below.size,heap_alloc_new w _,rfl⟩) trivial
 refine wp_val rfl hex (hK (.map (some w.heap.size)) _ _ ?_)
 refine Sim.eqv (Sim.put hG (lt_of_blt hd) (Below.refl _ _) (av := .d (.v (.map (some w.heap.size)))) (Rd.v _) trivial) fun q=>?_
 cases q with
 |s i =>
  by_cases hi:i=d
  ·
   subst hi;rw[get_cons_same];exact get_cons_same.symm
  ·
   rw[get_cons_ne (by simpa using fun e=>hi e.symm),objSt_s]
   exact((get_cons_ne (by simpa using fun e=>hi e.symm)).trans ((get_cons_ne (by simp)).trans (get_cons_ne (by simp)))).symm
 |o i =>
  rw[get_cons_ne (by simp)]
  by_cases hi:i=nx
  ·
   subst hi;rw[get_cons_same];exact((get_cons_ne (by simp)).trans get_cons_same).symm
  ·
   rw[objSt_o hi]
   exact((get_cons_ne (by simp)).trans ((get_cons_ne (by simpa using fun e=>hi e.symm)).trans (get_cons_ne (by simp)))).symm
 |nx =>
  rw[get_cons_ne (by simp),objSt_nx]
  exact((get_cons_ne (by simp)).trans ((get_cons_ne (by simp)).trans get_cons_same)).symm
theorem map_known {id:Nat}{M:List (List UInt8×Value)}{x:Value}(ho:get σ (.o id) = .ob (.mp M x)) (a:Act) (w:World) (hs:Sim cx σ a w):∃ b,x = .map (some b):=by
 obtain⟨g,nx,hs⟩:=hs
 obtain⟨_,⟨_,b,_,_,h,_⟩,_⟩:=hs.objs id _ ho
 exact⟨b,h⟩
theorem a_nilp {x:Operand}{id off:Nat}{cells:List AV}(hx:ev σ x=some (.ptr id off)) (ho:get σ (.o id) = .ob (.box cells)) (hd:Nat.blt d cx.n=true) :
  OA cx σ ⟨some d,.nilCheck x,ty,pos,af,gd⟩ ⟨rdOf x (.ptr id off)++[(.o id,.ob (.box cells))],[(.s d,.av (.ptr id off))]⟩ :=
 ⟨ok_nilCheck_ptr (lt_of_blt hd) (ev_out hx).1,(ev_out hx).2.append ⟨ho,trivial⟩⟩
end Go.AX
namespace Go.RF
open Go.AX
abbrev Mk:=List (Str×(Bool×Int))
def mG:Mk→Str→Option (Bool×Int)
 | [],_=>none
 |(s,c)::r,k=>if s=k then some c else mG r k
def mS:Mk→Str→Bool×Int→Mk
 | [],k,c=>[(k,c)]
 |(s,u)::r,k,c=>if s=k then (s,c)::r else (s,u)::mS r k c
def chV (c:Bool×Int):List Value:=[.bool c.1,.int .i64 c.2]
def chA (c:Bool×Int):Value := .agg (chV c).toArray
def encM (m:Mk):List (Str×Value):=m.map fun p=>(p.1,chA p.2)
theorem mget_enc (m:Mk) (k:Str):mget (encM m) k=(mG m k).map chA:=by
 induction m with
 |nil=>rfl
 |cons p m ih =>
  obtain⟨s,c⟩:=p
  simp only[encM,List.map_cons,mget,mG]
  by_cases h:s=k
  ·
   rw[if_pos h,if_pos h];rfl
  ·
   rw[if_neg h,if_neg h];exact ih
theorem mset_enc (m:Mk) (k:Str) (c:Bool×Int):mset (encM m) k (chA c)=encM (mS m k c):=by
 induction m with
 |nil=>rfl
 |cons p m ih =>
  obtain⟨s,u⟩:=p
  simp only[encM,List.map_cons,mset,mS]
  by_cases h:s=k
  ·
   rw[if_pos h,if_pos h];rfl
  ·
   rw[if_neg h,if_neg h]
   show(s,chA u)::mset (encM m) k (chA c)=_
   rw[ih];rfl
theorem encM_one (m:Mk):∀ p∈encM m,flat p.2:=by
 intro p hp
 obtain⟨q,_,rfl⟩:=List.mem_map.1 hp
 intro u hu
 simp[chV]at hu
 rcases hu with rfl|rfl <;> rfl
theorem mG_mS (m:Mk) (k k':Str) (c:Bool×Int):mG (mS m k c) k'=if k=k' then some c else mG m k':=by
 induction m with
 |nil=>simp[mS,mG]
 |cons p m ih =>
  obtain⟨s,u⟩:=p
  simp only[mS]
  by_cases hs:s=k
  ·
   rw[if_pos hs]
   simp only[mG]
   by_cases h:k=k'
   ·
    simp[hs,h]
   ·
    rw[if_neg (by rw[hs];exact h),if_neg h,if_neg (by rw[hs];exact h)]
  ·
   rw[if_neg hs]
   simp only[mG,ih]
   by_cases h:s=k'
   ·
    rw[if_pos h,if_neg (fun e=>hs (by rw[h,e])),if_pos h]
   ·
    rw[if_neg h,if_neg h]
def seeM (view:Str→Int×Bool) (m:Mk) (k:Str):Int:=match mG m k with
 |some c=>c.2
 |none=>(view k).1
def runGo (view:Str→Int×Bool):Int→Mk→Done→List Ins→Mk×Done
 |_,m,e,[]=>(m,e)
 |sk,m,e,i::r =>
  if 0 < sk then runGo view (sk - 1) m e r
  else if i.kind=1 then runGo view sk m (rset e i.a.toNat (seeM view m i.key)) r
  else if i.kind=2 then runGo view sk m (rset e i.a.toNat i.n) r
  else if i.kind=3 then runGo view sk m (rset e i.a.toNat (round (rget e i.a.toNat+rget e i.b.toNat))) r
  else if i.kind=4 then runGo view sk m (rset e i.a.toNat (round (rget e i.a.toNat - rget e i.b.toNat))) r
  else if i.kind=5 then runGo view sk m (rset e i.a.toNat (round (rget e i.a.toNat*rget e i.b.toNat))) r
  else if i.kind=6 then runGo view sk (mS m i.key (true,rget e i.a.toNat)) e r
  else if i.kind=7 then runGo view sk (mS m i.key (false,0)) e r
  else if i.kind=8 then runGo view (if rget e i.a.toNat < 1 then i.n else sk) m e r
  else if rget e i.a.toNat < 0 then (m,bustE e) else runGo view sk m e r
theorem runGo_skip (view:Str→Int×Bool) (m:Mk) (e:Done):∀ (n:Nat) (l:List Ins),runGo view n m e l=runGo view 0 m e (l.drop n)
 |0,l=>rfl
 |n+1,[]=>by simp[runGo]
 |n+1,i::l=>by
  simp only[runGo]
  rw[if_pos (by omega),show(((n+1:Nat):Int) - 1)=(n:Int) by omega,runGo_skip view m e n l,List.drop_succ_cons]
def chg (m:Mk):List Str→List (Str×(Bool×Int))
 | []=>[]
 |k::r=>match mG m k with
  |some c=>(k,c)::chg m r
  |none=>chg m r
def runM (view:Str→Int×Bool) (d:Deed):Mk×Done:=runGo view 0 [] done0 d.code
def runC (view:Str→Int×Bool) (d:Deed):List (Str×(Bool×Int)):=if (runM view d).2.failed=true then [] else chg (runM view d).1 d.writes
def chVer (c:Str×(Bool×Int)):Version:=⟨0,true,c.2.1,c.2.2⟩
def runRes (view:Str→Int×Bool) (d:Deed):List D:=[.agg (runM view d).2.enc,encVs ((runC view d).map chVer),encStrs ((runC view d).map (·.1))]
theorem chg_len (m:Mk):∀ l:List Str,(chg m l).length≤l.length
 | []=>by simp[chg]
 |k::r=>by
  have:=chg_len m r
  simp only[chg]
  split <;> simp <;> omega
def mOk (m:Mk):Prop:=∀ k c,mG m k=some c→nOk c.2
theorem mOk_nil:mOk []:=by intro k c h;cases h
theorem mOk_set {m:Mk}(h:mOk m) (k:Str) {c:Bool×Int}(hc:nOk c.2):mOk (mS m k c):=by
 intro k' c' h'
 rw[mG_mS]at h'
 split at h'
 ·
  cases h';exact hc
 ·
  exact h k' c' h'
theorem see_ok {view:Str→Int×Bool}{m:Mk}{k:Str}(hv:nOk (view k).1) (hm:mOk m):nOk (seeM view m k):=by
 unfold seeM
 split
 ·
  next c h=>exact hm k c h
 ·
  exact hv
end Go.RF
namespace Go.Proofs
open Go.Shelf Go.RowKit
def Tryz.lays106_ren:Go.Shelf.Ren:=⟨fun|106=>97|213=>116|265=>131|n=>n,fun|9=>9|3=>3|n=>n,fun|n=>n⟩
theorem Tryz.lays106:Go.Proofs.Lays.n106 Tryz.prog Tryz.lays106_ren:={
 mixed:=by kernel_rfl
 f106:=Tryz.func97.trans (congrArg some (by kernel_rfl))
 f213:=Tryz.func116.trans (congrArg some (by kernel_rfl))
 f265:=Tryz.func131.trans (congrArg some (by kernel_rfl))
 t3:=Tryz.underlying3
 a3:=Tryz.isAgg3
 z3:=Tryz.sizeOf3
 v3:=Tryz.zeroValue3
 t9:=Tryz.underlying9
 a9:=Tryz.isAgg9
 z9:=Tryz.sizeOf9
 v9:=Tryz.zeroValue9 }
theorem Tryz.strings_Compare (a b:ByteArray) (w:World) :
  Calls Tryz.prog 97 #[.string a,.string b] w fun e w'=>e = .returned (.int .i64 (Lib.compareBytes a.data.toList b.data.toList))∧w'=w:=Any.strings_Compare Tryz.lays106 a b w
end Go.Proofs
namespace Go.Proofs.YtngnajknbeijjaaGreatDoor
open Go.AX Go.RF Go.RowKit
set_option maxRecDepth 100000
set_option maxHeartbeats 4000000
def cmpT (a b:Str):Int:=if slt a b=true then -1 else if a=b then 0 else 1
theorem compare_eq:∀ (a b:Str),Lib.compareBytes a b=cmpT a b
 | [],[]=>by simp[Lib.compareBytes,cmpT,bl_nil]
 | [],b::r=>by simp[Lib.compareBytes,cmpT,bl_nil_cons]
 |a::l,[]=>by simp[Lib.compareBytes,cmpT,bl_nil]
 |a::l,b::r=>by
  simp only[Lib.compareBytes,cmpT,bl_cons]
  by_cases h1:a < b
  ·
   simp[h1]
  ·
   by_cases h2:b < a
   ·
    have h3:¬ a=b:=fun h=>by subst h;exact h1 h2
    simp[h1,h2,h3]
   ·
    have h3:a=b:=UInt8.le_antisymm (UInt8.not_lt.1 h2) (UInt8.not_lt.1 h1)
    subst h3
    rw[compare_eq l r]
    simp[h1,cmpT]
theorem cmpT_lt {a b:Str}:cmpT a b < 0↔slt a b=true:=by
 unfold cmpT
 split
 ·
  next h=>simp[h]
 ·
  next h=>split <;> simp[h]
theorem cmpT_zero {a b:Str}:cmpT a b=0↔a=b:=by
 unfold cmpT
 split
 ·
  next h =>
  constructor
  ·
   intro h0;simp at h0
  ·
   intro h0;subst h0;rw[slt_irrefl]at h;cases h
 ·
  split <;> simp_all
theorem ok_compare (a b:Str):FnOk Tryz.prog 97 [.d (dstr a),.d (dstr b)] (.one (dint (cmpT a b))):=by
 refine⟨⟨_,Tryz.func97,rfl,rfl⟩,fun w own vs hown ha=>?_⟩
 match vs,ha with
 | [x,y],⟨h1,h2,_⟩ =>
  obtain rfl:x=str a:=rd_v h1
  obtain rfl:y=str b:=rd_v h2
  refine(Tryz.strings_Compare ⟨a.toArray⟩ ⟨b.toArray⟩ w).mono fun e w' he=>?_
  obtain⟨rfl,rfl⟩:=he
  exact⟨_,rfl,Below.refl _ _,by rw[← compare_eq];exact Rd.v _⟩
theorem ok_find1 (c:Chain) (k:Str):FnOk Tryz.prog 96 [.d (.agg c.enc),.d (dstr k)] (.one (dint (cmpT c.key k))):=by
 refine fnOk_of tbl_ok mixed_ok Tryz.func96 rfl (by kernel_rfl) rfl rfl fun w0 own0=>?_
 have hc:=ok_compare c.key k
 try refine wk ?_
 exact .one (.tmp rfl (.one (.d (.refl _))))
abbrev At (l:List Chain) (k:Str) (m:Nat):Prop:=AtK Chain.key l k m
abbrev isAt (l:List Chain) (k:Str) (m:Nat):Bool:=isAtK Chain.key l k m
theorem ok_bsearch (l:List Chain) (k:Str) (m:Nat) (hl:l.length≤268435456) (hm:At l k m) :
  FnOk Tryz.prog 95 [.d (encChains l),.d (dstr k),.d (.v (.func (.func 96) #[] #[]))] (.tup [dint m,dbool (isAt l k m)]):=by
 refine fnOk_of tbl_ok mixed_ok Tryz.func95 rfl (by kernel_rfl) rfl rfl fun w0 own0=>?_
 have hml:=hm.le
 try refine wk ?_
 refine CW.loopT (fun t:Nat×Nat=>[sd 0 (encChains l),sd 1 (dstr k),sd 2 (.v (.func (.func 96) #[] #[])),sd 8 (dint l.length),sd 9 (dint t.1),sd 10 (dint t.2),nxt 0])
  (fun t=>t.1≤m∧m≤t.2∧t.2≤l.length) (fun t=>t.2 - t.1) (0,l.length) ⟨by omega,hm.le,by omega⟩ ?_ ?_
 ·
  exact by_less
 ·
  rintro ⟨i,j⟩ ⟨h1,h2,h3⟩
  dsimp only at h1 h2 h3 ⊢
  by_cases h4:i < j
  ·
   obtain⟨c,hc⟩:∃ c,l[(i+j) / 2]? = some c:=⟨l[(i+j) / 2]'(by omega),List.getElem?_eq_getElem (by omega)⟩
   have hcall:=ok_find1 c k
   have hst0:StopR 4:=⟨rfl⟩
   try refine wkS ?_
   clear hst0
   refine Stop.cutk [sd 11 (dint ((i+j) / 2:Nat))] [.s 0,.s 1,.s 2,.s 8,.s 9,.s 10,.nx] ?_ ?_
   ·
    repeat(first|refine wa ?_|((with_reducible apply s5);(first|((with_reducible apply a_bin);(iterate 2 exact rfl);exact bin_half;exact rfl)|exact by_oa|exact by_ca);exact by_g)|refine wb ?_)
    refine q_cut ?_
    exact by_less
   have hcz:=@cmpT_lt c.key k
   by_cases h5:cmpT c.key k < 0
   ·
    have h6:(i+j) / 2 < m:=by
     rcases Nat.lt_or_ge ((i+j) / 2) m with h|h
     ·
      exact h
     ·
      have:=hm.ge _ c hc h
      rw[hcz.1 h5]at this;cases this
    repeat(first|refine wa ?_|((with_reducible apply s5);(first|exact a_callv hcall rfl rfl by_sub|exact by_oa|exact by_ca);exact by_g)|refine wb ?_)
    refine q_loopT ((i+j) / 2+1,j) ⟨by dsimp only;omega,h2,h3⟩ (by dsimp only;omega) ?_
    exact by_less
   ·
    have h6:m≤(i+j) / 2:=by
     rcases Nat.lt_or_ge ((i+j) / 2) m with h|h
     ·
      exact absurd (hcz.2 (hm.lt _ c hc h)) h5
     ·
      exact h
    repeat(first|refine wa ?_|((with_reducible apply s5);(first|exact a_callv hcall rfl rfl by_sub|exact by_oa|exact by_ca);exact by_g)|refine wb ?_)
    refine q_loopT (i,(i+j) / 2) ⟨h1,h6,by dsimp only;omega⟩ (by dsimp only;omega) ?_
    exact by_less
  ·
   obtain rfl:i=m:=by omega
   cases hc:l[i]? with
   |none =>
    have h5:l.length≤i:=by
     rcases Nat.lt_or_ge i l.length with h|h
     ·
      rw[List.getElem?_eq_getElem h]at hc;cases hc
     ·
      exact h
    try refine wk ?_
    exact .two (.tmp rfl (.one (.d (.refl _)))) (.tmp rfl (.one (.d (dle_bool (by simp[isAtK,hc])))))
   |some c =>
    have h5:i < l.length:=(List.getElem?_eq_some_iff.1 hc).1
    have hcall:=ok_find1 c k
    repeat(first|refine wa ?_|((with_reducible apply s5);(first|exact a_callv hcall rfl rfl by_sub|exact by_oa|exact by_ca);exact by_g)|refine wb ?_)
    refine .two (.tmp rfl (.one (.d (.refl _)))) (.tmp rfl (.one (.d (dle_bool ?_))))
    rw[show isAt l k i=decide (c.key=k) by simp[isAt,isAtK,hc]]
    show decide (cmpT c.key k=0)=decide (c.key=k)
    rw[decide_eq_decide]
    exact cmpT_zero
theorem ok_find (l:List Chain) (k:Str) (m:Nat) (hl:l.length≤268435456) (hm:At l k m):FnOk Tryz.prog 74 [.d (encChains l),.d (dstr k)] (.tup [dint m,dbool (isAt l k m)]):=by
 refine fnOk_of tbl_ok mixed_ok Tryz.func74 rfl (by kernel_rfl) rfl rfl fun w0 own0=>?_
 have hc:=ok_bsearch l k m hl hm
 try refine wk ?_
 exact .two (.tmp rfl (.one (.d (.refl _)))) (.tmp rfl (.one (.d (.refl _))))
end Go.Proofs.YtngnajknbeijjaaGreatDoor
namespace Go.Proofs.YtngnajknbeijjaaGreatDoor
open Go.AX Go.RF
set_option maxRecDepth 100000
set_option maxHeartbeats 8000000
theorem new_chainOwn (l:List Chain) (hl:l.length≤268435456) (hv:∀ c∈l,c.vs.length≤268435456):FnNew Tryz.prog 45 [.d (encChains l)] 80 2 (l.map Chain.enc):=by
 refine fnNew_of tbl_ok mixed_ok Tryz.func45 rfl (by kernel_rfl) rfl rfl fun w0 own0=>?_
 try refine wk ?_
 refine CW.stut (stut_promote (i:=3) 80 2) ⟨rfl,rfl,trivial⟩ ?_
 refine CW.loopT (fun i:Nat=>[sd 6 (encChains l),sd 7 (dint l.length),sd 8 (dint i),so 3 0 i,oa 0 80 2 ((l.take i).map Chain.enc),nxt 1]) (fun i=>i≤l.length) (fun i=>l.length - i) 0 (by omega) ?_ ?_
 ·
  exact by_less
 ·
  rintro i hi
  rcases drop_case hi with ⟨h1,h2⟩|⟨c,h1,h2,h3⟩
  ·
   subst h2
   rw[List.take_length]
   try refine wk ?_
   exact RetNew.own rfl rfl (by simp)
  ·
   have h4:(l.take i).map Chain.enc++[c.enc]=(l.take (i+1)).map Chain.enc:=by rw[List.take_add_one,h2];simp
   have hcv:=hv c (List.mem_of_getElem? h2)
   have hc:=ok_clone_version (c.vs.map Version.enc) (by simp;omega)
   try refine wk ?_
   refine q_loopT (i+1) (by omega) (by omega) ?_
   exact by_less
def keptRows (l:List Chain) (m:Nat) (c:Chain) (x:Value):List (List D):=(l.map Chain.enc).set m [dstr c.key,.v x]
theorem own2_chain (l:List Chain) (m:Nat) (c0:Chain) (h0:l[m]? = some c0) (hl:l.length≤268435456) (hv:∀ c∈l,c.vs.length≤268435456) :
  FnOwn2 Tryz.prog 45 [.d (encChains l)] 80 2 (keptRows l m c0) 77 4 (c0.vs.map Version.enc):=by
 refine fnOwn2_of tbl_ok mixed_ok Tryz.func45 rfl (by kernel_rfl) rfl rfl fun w0 own0=>?_
 have hml:m < l.length:=(List.getElem?_eq_some_iff.1 h0).1
 try refine wk ?_
 refine CW.stut (stut_promote (i:=3) 80 2) ⟨rfl,rfl,trivial⟩ ?_
 refine CW.loopT (fun t:Nat×Option Value=>match t.2 with
   |none=>[sd 6 (encChains l),sd 7 (dint l.length),sd 8 (dint t.1),so 3 0 t.1,oa 0 80 2 ((l.take t.1).map Chain.enc),nxt 1]
   |some x=>[sd 6 (encChains l),sd 7 (dint l.length),sd 8 (dint t.1),so 3 0 t.1,oa 0 80 2 ((keptRows l m c0 x).take t.1),(.o 2,.ob (.pin 77 4 (c0.vs.map Version.enc) x)),nxt 3])
  (fun t=>t.1≤l.length∧(t.2=none→t.1≤m)∧(t.2≠none→m < t.1)) (fun t=>l.length - t.1) (0,none) ⟨by omega,fun _=>Nat.zero_le _,fun h=>absurd rfl h⟩ ?_ ?_
 ·
  exact by_less
 ·
  rintro ⟨i,o⟩ ⟨hi,hn,hs⟩
  dsimp only at hi hn hs ⊢
  have hkl:∀ x,(keptRows l m c0 x).length=l.length:=fun x=>by simp[keptRows]
  cases o with
  |none =>
   have him:=hn rfl
   dsimp only
   rcases drop_case hi with ⟨h1,h2⟩|⟨c,h1,h2,h3⟩
   ·
    omega
   ·
    have hcv:=hv c (List.mem_of_getElem? h2)
    rcases Nat.lt_or_ge i m with hlt|hge
    ·
     have h4:(l.take i).map Chain.enc++[c.enc]=(l.take (i+1)).map Chain.enc:=by rw[List.take_add_one,h2];simp
     have hc:=ok_clone_version (c.vs.map Version.enc) (by simp;omega)
     try refine wk ?_
     refine q_loopT (i+1,none) ⟨by dsimp only;omega,fun _=>by dsimp only;omega,fun h=>absurd rfl h⟩ (by dsimp only;omega) ?_
     exact by_less
    ·
     obtain rfl:i=m:=by omega
     obtain rfl:c0=c:=by rw[h0]at h2;exact Option.some.inj h2
     have h4:∀ x,(l.take i).map Chain.enc++[[dstr c0.key,.v x]]=(keptRows l i c0 x).take (i+1):=fun x=>by
      rw[keptRows,List.take_add_one,List.getElem?_set_self (by simpa using hml),List.take_set_of_le (Nat.le_refl _),List.map_take];rfl
     have hc:=new_clone_version (c0.vs.map Version.enc) (by simp;omega)
     have hst0:StopX 5:=⟨rfl⟩
     try refine wkS ?_
     clear hst0
     refine Stop.go ?_
     apply CW.drawF (x0:=((none,0,0):Option Addr×Nat×Nat)) (l1:=[_,_,_,_,_]) (l2:=[_,_,_,_]) (tS:=fun x=>⟨(rdOf (.tmp 16) (.d (encVs c0.vs))++([]++[]))++[(.nx,.num 2)],[(.s 17,.av (.d (.v (.slice x.1 x.2.1 x.2.2)))),(.o 2,.ob (.pin 77 4 (c0.vs.map Version.enc) (.slice x.1 x.2.1 x.2.2))),(.nx,.num 3)]⟩)
      (rs:=(rdOf (.tmp 16) (.d (encVs c0.vs))++([]++[]))++[(.nx,.num 2)])
     ·
      rfl
     ·
      rfl
     ·
      exact fun _=>rfl
     ·
      exact fam_newpin rfl hc (.cons (x := .tmp 16) (av := .d (encVs c0.vs)) trivial (.d (.refl _)) .nil)
     ·
      rfl
     try refine wk ?_
     refine And.intro ⟨rfl,rfl,trivial⟩ fun x=>?_
     obtain⟨p,n,cp⟩:=x
     have h4':=h4 (.slice p n cp)
     have hk:=hkl (.slice p n cp)
     dsimp only
     try refine wk ?_
     refine q_loopT (i+1,some (.slice p n cp)) ⟨by dsimp only;omega,fun h=>(by cases h),fun _=>by dsimp only;omega⟩ (by dsimp only;omega) ?_
     exact by_less
  |some x =>
   have him:=hs (by simp)
   have hk:=hkl x
   dsimp only
   rcases drop_case hi with ⟨h1,h2⟩|⟨c,h1,h2,h3⟩
   ·
    subst h2
    rw[List.take_of_length_le (by rw[hkl];exact Nat.le_refl _)]
    try refine wk ?_
    exact own2_ret (id2:=2) rfl rfl (hkl x).symm rfl
   ·
    have hcv:=hv c (List.mem_of_getElem? h2)
    have h4:(keptRows l m c0 x).take i++[c.enc]=(keptRows l m c0 x).take (i+1):=by
     rw[List.take_add_one,keptRows,List.getElem?_set_ne (by omega)];simp[h2]
    have hc:=ok_clone_version (c.vs.map Version.enc) (by simp;omega)
    try refine wk ?_
    refine q_loopT (i+1,some x) ⟨by dsimp only;omega,fun h=>(by cases h),fun _=>by dsimp only;omega⟩ (by dsimp only;omega) ?_
    exact by_less
end Go.Proofs.YtngnajknbeijjaaGreatDoor
namespace Go.Proofs.YtngnajknbeijjaaGreatDoor
open Go.AX Go.RF Go.RowKit Go.Shelf Go.Lib
theorem run_copy_k {P:Program}(w:World) (dT sT ty elem:TypeId) (k g o dLen dCap:Nat) (a:Addr) (sLen sCap q:Nat) (cur:Array Value) (t:TypeId) (cs:List Value)
  (hu:P.underlying dT=some (.slice elem)) (hs:(P.info? elem).map (·.size)=some k)
  (hg:w.heap[g]? = some (.cells cur t (0,0))) (hq:Nat.min sLen dLen=q) (hn:cs.length=q*k)
  (hsrc:∀ j v,cs[j]? = some v→w.cell? (a.add j)=some v) (hfit:o+cs.length≤cur.size) (h1:∀ v∈cs,v.oneCell'=true) :
  (Builtin.copy_ #[dT,sT] ty #[.slice (some ⟨g,o,none⟩) dLen dCap,.slice (some a) sLen sCap]).run P w =
   .ok (goInt q) (w.setRow g (cur.toList.take o++cs++cur.toList.drop (o+cs.length)).toArray):=by
 have hl:=run_loadCells_list (P:=P) w a cs hsrc
 have hst:=run_storeCells_at P g o t cs 0 cur w hg (by simpa using hfit) h1
 cases hq':P.info? elem with
 |none=>simp[hq']at hs
 |some i =>
  have hi:i.size=k:=by simpa[hq'] using hs
  simp[Builtin.copy_,run_underlying hu,Builtin.lenOf,Builtin.firstCells,sizeOf,typeInfo,hq',hi,hq,← hn,hl,hst]
theorem overlaps_arm {motive:Array Value→Type}{a b:Option Addr}{la ca lb cb:Nat}{h1:∀ (a:Option Addr) (la c:Nat) (b:Option Addr) (lb d:Nat),motive #[.slice a la c,.slice b lb d]}{h2:∀ x,motive x} :
  Extern.SlicesOverlaps.overlaps.match_4 motive #[.slice a la ca,.slice b lb cb] h1 h2=h1 a la ca b lb cb:=rfl
theorem run_overlaps_b {P:Program}(w:World) (tS tR e:TypeId) (ht:P.underlying tS=some (.slice e)) (size:Nat) (hz:∀ w,(Go.sizeOf e).run P w = .ok size w)
  (a b:Addr) (la ca lb cb:Nat) (hne:a.block≠b.block) (tA tB:TypeId) (kA kB:Nat)
  (hsa:w.shape? a.block=some (tA,kA+1)) (hsb:w.shape? b.block=some (tB,kB+1)) (hfb:w.frozen? b=false) (hfe:w.frozen? { block:=b.block,off:=kB+1 }=false) :
  (Extern.SlicesOverlaps.overlaps #[tS,tS] #[tR] #[.slice (some a) la ca,.slice (some b) lb cb]).run P w = .ok (.bool false) w:=by
 have hnb:(a.block != b.block)=true:=by simpa using hne
 have hnb':(a.block==b.block)=false:=by simpa using hne
 delta Extern.SlicesOverlaps.overlaps
 dsimp only
 rw[overlaps_arm]
 by_cases h0:la=0∨lb=0∨size=0
 ·
  simp[run_underlying ht,hz,h0]
 ·
  cases hfa:w.frozen? a <;> cases hfa2:w.frozen? { block:=a.block,off:=kA+1 } <;>
   simp[run_underlying ht,hz,h0,hnb,hnb',frozen,noView,viewAt,mayBeOne,stringish,shape,Sem.run,hsa,hsb,hfb,hfe,hfa,hfa2]
theorem alloc_new_at (w:World) (o:Obj):(w.alloc o).heap[w.heap.size]? = some o:=heap_alloc_new w o
theorem append_ty {P:Program}(ts:Array TypeId) (ty:TypeId) (args:Array Value) (w:World):(Builtin.append_ ts ty args).run P w=(Builtin.append_ ts 0 args).run P w:=rfl
theorem append_types {P:Program}{t u e e':TypeId}(ht:P.underlying t=some (.slice e)) (hu:P.underlying u=some (.slice e')) (ty:TypeId) (args:Array Value) (w:World) :
  (Builtin.append_ #[t,u] ty args).run P w=(Builtin.append_ #[t,t] ty args).run P w:=by
 cases h0:args[0]? with
 |none=>simp[Builtin.append_,h0]
 |some s =>
  cases h1:args[1]? with
  |none=>simp[Builtin.append_,h0,h1]
  |some x=>cases s <;> simp[Builtin.append_,h0,h1,run_underlying ht,run_underlying hu]
theorem room_cells {cur:List Value}{n i:Nat}{c0 c1:Value}(hi:i < n) (hl:(n+1)*2≤cur.length) :
  let mid:=cur.take ((i+1)*2)++(cur.drop (i*2)).take ((n - i)*2)++cur.drop ((i+1)*2+(n - i)*2)
  (mid.take (i*2)++[c0,c1]++mid.drop (i*2+2)).take ((n+1)*2)=(cur.take (n*2)).take (i*2)++[c0,c1]++(cur.take (n*2)).drop (i*2):=by
 intro mid
 have hm:mid=cur.take ((i+1)*2)++(cur.drop (i*2)).take ((n - i)*2)++cur.drop ((i+1)*2+(n - i)*2):=rfl
 have hml:mid.length=cur.length:=by rw[hm];simp;omega
 have h1:(cur.take ((i+1)*2)).length=(i+1)*2:=by simp;omega
 have h2:((cur.drop (i*2)).take ((n - i)*2)).length=(n - i)*2:=by simp;omega
 have e1:mid.take (i*2)=cur.take (i*2):=by
  rw[hm,List.append_assoc,List.take_append_of_le_length (by rw[h1];omega),List.take_take,Nat.min_eq_left (by omega)]
 have e2:mid.drop (i*2+2)=(cur.drop (i*2)).take ((n - i)*2)++cur.drop ((i+1)*2+(n - i)*2):=by
  rw[hm,List.append_assoc,List.drop_append_of_le_length (by rw[h1];omega),List.drop_eq_nil_of_le (by rw[h1];omega),List.nil_append]
 rw[e1,e2,List.take_take,Nat.min_eq_left (show i*2≤n*2 by omega),List.drop_take]
 have h3:(cur.take (i*2)).length=i*2:=by simp;omega
 rw[List.take_append,List.take_of_length_le (by simp;omega)]
 congr 1
 rw[List.take_append_of_le_length (by simp;omega),List.take_of_length_le (by simp;omega)]
 congr 1
 omega
theorem shape_of {w:World}{ad:Addr}{c:Value}(h:w.cell? (ad.add 0)=some c):∃ t k,w.shape? ad.block=some (t,k+1):=by
 rw[AX.add_zero]at h
 unfold World.cell? at h
 unfold World.shape?
 split at h
 ·
  next cs e fr hh =>
  split at h
  ·
   cases h
  ·
   have:=(Array.getElem?_eq_some_iff.1 h).1
   exact⟨e,cs.size - 1,by simp;omega⟩
 ·
  cases h
set_option maxHeartbeats 4000000 in
set_option maxRecDepth 100000 in
theorem insert_room (g n cap i:Nat) (ad:Addr) (cp:Nat) (w:World) (cur:Array Value) (c0 c1:Value) (hg:w.heap[g]? = some (.cells cur 80 (0,0))) (hsz:cur.size=cap*2) (hi:i < n) (hn:n≤268435456) (hc:n+1≤cap) (hcm:cap≤maxLen)
  (had:ad.block≠g) (h0:w.cell? (ad.add 0)=some c0) (h1:w.cell? (ad.add 1)=some c1) (hone:∀ v∈cur.toList.take (n*2),v.oneCell'=true) (hc0:c0.oneCell'=true) (hc1:c1.oneCell'=true) :
  Calls Tryz.prog 75 #[.slice (some ⟨g,0,none⟩) n cap,.int .i64 (i:Int),.slice (some ad) 1 cp] w fun e w' =>
   e = .returned (.slice (some ⟨g,0,none⟩) (n+1) cap)∧∃ m1 cs',w'=(w.drew.setRow g m1).setRow g cs'∧cs'.size=cap*2∧cs'.toList.take ((n+1)*2)=(cur.toList.take (n*2)).take (i*2)++[c0,c1]++(cur.toList.take (n*2)).drop (i*2):=by
 have mixed:=mixed_ok
 have hz1:¬ ((1:Int)=0):=by omega
 have hz2:¬ ((i:Int)=(n:Int)):=by omega
 have hz3:¬ ((cap:Int) < (n:Int)+1):=by omega
 have hb2:¬ (cap=i+1):=by omega
 have hb4:¬ (cap=i):=by omega
 have hin:i≤n:=by omega
 have hw1:IntKind.i64.wrap ((i:Int)+1)=(i:Int)+1:=by rw[IntKind.wrap_i64];omega
 have hb1:(0:Int)≤(i:Int)+1:=by omega
 have htn:((i:Int)+1).toNat=i+1:=by omega
 have hb3:(i:Int)≤(n:Int)+1:=by omega
 have hov:∀ lb cb,(callFunc 98 #[.slice (some ad) 1 cp,.slice (some ⟨g,(i+1)*2,none⟩) lb cb]).run Tryz.prog w = .ok (.value (.bool false)) w:=fun lb cb=>by
  obtain⟨tA,kA,hsa⟩:=shape_of h0
  have hsb:w.shape? g=some (80,(cap*2 - 1)+1):=by
   simp[World.shape?,hg,hsz];omega
  rw[run_callFunc_extern Tryz.func98 (by kernel_rfl) (by kernel_rfl) (by kernel_rfl) (e:=Extern.SlicesOverlaps.overlaps #[30,30] #[4]) (by kernel_rfl),
   run_overlaps_b w 30 4 80 Tryz.underlying30 2 Tryz.sizeOf80 ad ⟨g,(i+1)*2,none⟩ 1 cp lb cb had tA 80 kA (cap*2 - 1) hsa hsb (by simp[World.frozen?,hg]) (by simp[World.frozen?,hg])]
  rfl
 have hin2:(Tryz.prog.info? 80).map (·.size)=some 2:=by kernel_rfl
 have hT:Tryz.prog.underlying 30=some (.slice 80):=Tryz.underlying30
 have hcl:(n+1)*2≤cur.size:=by rw[hsz];exact Nat.mul_le_mul_right 2 hc
 have hgd:w.drew.heap[g]? = some (.cells cur 80 (0,0)):=hg
 have htl:((cur.toList.drop (i*2)).take ((n - i)*2)).length=(n - i)*2:=by simp;omega
 have hcp1:∀ ty dc sc,(Builtin.copy_ #[30,30] ty #[.slice (some ⟨g,(i+1)*2,none⟩) (n - i) dc,.slice (some ⟨g,i*2,none⟩) (n+1 - i) sc]).run Tryz.prog w.drew =
   .ok (goInt (n - i:Nat)) (w.drew.setRow g (cur.toList.take ((i+1)*2)++(cur.toList.drop (i*2)).take ((n - i)*2)++cur.toList.drop ((i+1)*2+(n - i)*2)).toArray):=fun ty dc sc=>by
  have h:=run_copy_k (P:=Tryz.prog) w.drew 30 30 ty 80 2 g ((i+1)*2) (n - i) dc ⟨g,i*2,none⟩ (n+1 - i) sc (n - i) cur 80 ((cur.toList.drop (i*2)).take ((n - i)*2)) hT hin2 hgd
   (Nat.min_eq_right (by omega)) htl (fun j v hj=>by
    rw[List.getElem?_take]at hj
    split at hj
    ·
     rw[List.getElem?_drop]at hj
     rw[Addr.add_lit]
     simp[World.cell?,hgd]
     simpa using hj
    ·
     cases hj) (by rw[htl];omega) (fun v hv=>?_)
  ·
   rw[htl]at h
   exact h
  ·
   obtain⟨j,hj⟩:=List.getElem?_of_mem hv
   rw[List.getElem?_take]at hj
   split at hj
   ·
    rw[List.getElem?_drop]at hj
    refine hone v (List.mem_of_getElem? (i:=i*2+j) ?_)
    rw[List.getElem?_take,if_pos (by omega)];exact hj
   ·
    cases hj
 generalize hmid:cur.toList.take ((i+1)*2)++(cur.toList.drop (i*2)).take ((n - i)*2)++cur.toList.drop ((i+1)*2+(n - i)*2)=mid at hcp1
 have hml:mid.length=cur.size:=by rw[← hmid];simp;omega
 have hg1:(w.drew.setRow g mid.toArray).heap[g]? = some (.cells mid.toArray 80 (0,0)):=setRow_heap _ _ _ _ _ _ hgd
 have hadc:∀ j v,[c0,c1][j]? = some v→(w.drew.setRow g mid.toArray).cell? (ad.add j)=some v:=fun j v hj=>by
  have hk:∀ q,(w.drew.setRow g mid.toArray).cell? (ad.add q)=w.cell? (ad.add q):=fun q=>by
   have hb:(ad.add q).block=ad.block:=add_block ad q
   simp only[World.cell?,hb]
   rw[setRow_other _ _ _ _ had]
   rfl
  match j,hj with
  |0,hj=>simp at hj;subst hj;rw[hk];exact h0
  |1,hj=>simp at hj;subst hj;rw[hk];exact h1
 have hcp2:∀ ty dc,(Builtin.copy_ #[30,30] ty #[.slice (some ⟨g,i*2,none⟩) (n+1 - i) dc,.slice (some ad) 1 cp]).run Tryz.prog (w.drew.setRow g mid.toArray) =
   .ok (goInt (1:Nat)) ((w.drew.setRow g mid.toArray).setRow g (mid.take (i*2)++[c0,c1]++mid.drop (i*2+2)).toArray):=fun ty dc=>by
  have h:=run_copy_k (P:=Tryz.prog) (w.drew.setRow g mid.toArray) 30 30 ty 80 2 g (i*2) (n+1 - i) dc ad 1 cp 1 mid.toArray 80 [c0,c1] hT hin2 hg1
   (Nat.min_eq_left (by omega)) rfl hadc (by simp;omega) (by simp[hc0,hc1])
  simpa using h
 go_enter Tryz.func75,Tryz.ntmps75
 go_wp2_with (simp only[hov])
 go_region_law_o (refine step_copy_runI rfl _ _ 30 30 rfl _ _ (by simp[Act.eval,Act.put]) (by simp[Act.eval,Act.put]) (hcp1 _ _ _) ?_)
 go_wp2_with (at_builtin;refine wpList_copy_runI _ rfl _ _ 30 30 rfl _ _ rfl rfl (hcp2 _ _) ?_)
 go_ret
 refine⟨rfl,_,_,rfl,by simp;omega,?_⟩
 have:=room_cells (cur:=cur.toList) (n:=n) (i:=i) (c0:=c0) (c1:=c1) hi (by simpa using hcl)
 rw[hmid]at this
 simpa using this
theorem grow_cells {xs zs:List Value}{n i:Nat}{c0 c1:Value}(hi:i < n) (hl:xs.length=n*2) (hz:(n+1 - i)*2≤zs.length) :
  let row:=xs.take (i*2)++zs
  let mid:=row.take (i*2)++[c0,c1]++row.drop (i*2+2)
  (mid.take ((i+1)*2)++xs.drop (i*2)++mid.drop ((i+1)*2+(n - i)*2)).take ((n+1)*2)=xs.take (i*2)++[c0,c1]++xs.drop (i*2):=by
 intro row mid
 have h3:(xs.take (i*2)).length=i*2:=by simp;omega
 have hr:row.take (i*2)=xs.take (i*2):=by
  show(xs.take (i*2)++zs).take (i*2)=_
  rw[List.take_append_of_le_length (by omega),List.take_of_length_le (by omega)]
 have hm:mid.take ((i+1)*2)=xs.take (i*2)++[c0,c1]:=by
  show(row.take (i*2)++[c0,c1]++row.drop (i*2+2)).take ((i+1)*2)=_
  rw[hr,List.take_append_of_le_length (by simp;omega),List.take_of_length_le (by simp;omega)]
 rw[hm,List.take_append_of_le_length (by simp;omega),List.take_of_length_le (by simp;omega)]
set_option maxHeartbeats 4000000 in
set_option maxRecDepth 100000 in
theorem insert_grow (g n cap i:Nat) (ad:Addr) (cp:Nat) (w:World) (cur:Array Value) (c0 c1:Value) (hg:w.heap[g]? = some (.cells cur 80 (0,0))) (hsz:cur.size=cap*2) (hi:i < n) (hn:n≤268435456) (hnc:n≤cap) (hc:cap < n+1) (hcm:cap≤maxLen)
  (hadw:ad.block < w.heap.size) (h0:w.cell? (ad.add 0)=some c0) (h1:w.cell? (ad.add 1)=some c1) (hone:∀ v∈cur.toList.take (n*2),v.oneCell'=true) (hc0:c0.oneCell'=true) (hc1:c1.oneCell'=true) :
  Calls Tryz.prog 75 #[.slice (some ⟨g,0,none⟩) n cap,.int .i64 (i:Int),.slice (some ad) 1 cp] w fun e w' =>
   ∃ G,e = .returned (.slice (some ⟨w.heap.size,0,none⟩) (n+1) G)∧n+1≤G∧G≤maxLen∧Below w.heap.size w w'∧∃ cs',w'.heap[w.heap.size]? = some (.cells cs' 80 (0,0))∧cs'.size=G*2 ∧
    cs'.toList.take ((n+1)*2)=(cur.toList.take (n*2)).take (i*2)++[c0,c1]++(cur.toList.take (n*2)).drop (i*2):=by
 have mixed:=mixed_ok
 have hz1:¬ ((1:Int)=0):=by omega
 have hz2:¬ ((i:Int)=(n:Int)):=by omega
 have hz3:(cap:Int) < (n:Int)+1:=by omega
 have hin:i≤n:=by omega
 have hw1:IntKind.i64.wrap ((i:Int)+1)=(i:Int)+1:=by rw[IntKind.wrap_i64];omega
 have hb1:(0:Int)≤(i:Int)+1:=by omega
 have htn:((i:Int)+1).toNat=i+1:=by omega
 have hb3:(i:Int)≤(n:Int):=by omega
 have hci:¬ (cap=i):=by omega
 have hin2:(Tryz.prog.info? 80).map (·.size)=some 2:=by kernel_rfl
 have hT:Tryz.prog.underlying 30=some (.slice 80):=Tryz.underlying30
 have hcl:n*2≤cur.size:=by rw[hsz];exact Nat.mul_le_mul_right 2 hnc
 have hgw:g < w.heap.size:=by
  rcases Nat.lt_or_ge g w.heap.size with h|h
  ·
   exact h
  ·
   rw[Array.getElem?_eq_none h]at hg;cases hg
 generalize hxs:cur.toList.take (n*2)=xs at hone
 have hxl:xs.length=n*2:=by rw[← hxs];simp;omega
 have hcell:∀ (W:World),W.heap[g]? = w.heap[g]? → ∀ j v,xs[j]? = some v→W.cell? ⟨g,j,none⟩=some v:=fun W hW j v hj=>by
  rw[← hxs,List.getElem?_take]at hj
  split at hj
  ·
   simp[World.cell?,hW,hg]
   simpa using hj
  ·
   cases hj
 have htb:∃ ti,tget tbl 80=some ti∧ti.n=2∧ti.bytes=40∧ti.zero=[.string ⟨#[]⟩,.slice none 0 0]:=⟨_,rfl,rfl,rfl,rfl⟩
 obtain⟨ti,ht1,ht2,ht3,ht4⟩:=htb
 obtain⟨i0,hi0,hzs,hzb,z,hz0,hzc⟩:=(tbl_ok _ _ ht1).info
 rw[ht2]at hzs
 rw[ht3]at hzb
 rw[ht4]at hzc
 have hzz:z.cells.size=2:=by rw[← Array.length_toList,hzc];rfl
 have hold:(Builtin.firstCells i0.size i (.slice (some ⟨g,0,none⟩) i cap)).run Tryz.prog w.drew = .ok (xs.take (i*2)).toArray w.drew:=by
  rw[hzs]
  exact run_firstCells_some w.drew 2 i ⟨g,0,none⟩ i cap (xs.take (i*2)) (by rw[List.length_take];omega) (fun j v hj=>by
   rw[Addr.add_lit,Nat.zero_add]
   rw[List.getElem?_take]at hj
   split at hj
   ·
    exact hcell w.drew rfl j v hj
   ·
    cases hj)
 obtain⟨G,hG⟩:∃ G,G=grownCap w (n+1) cap 80:=⟨_,rfl⟩
 have hGn:n+1≤G:=by rw[hG];exact grownCap_ge w _ _ _
 have hGm:G≤maxLen:=by rw[hG];exact grownCap_le_maxLen w (n+1) cap 80 (by unfold maxLen;omega)
 have hG63:G≤9223372036854775807:=by unfold maxLen at hGm;omega
 obtain⟨zs,hzs2⟩:∃ zs:Array Value,zs=Builtin.zeroCells z.cells (n+1 - i)++Builtin.zeroCells z.cells (G - (n+1)):=⟨_,rfl⟩
 have hzl:zs.size=(G - i)*2:=by rw[hzs2];simp[size_zeroCells,hzz];omega
 obtain⟨ROW,hROW⟩:∃ ROW:Array Value,ROW=(xs.take (i*2)).toArray++zs:=⟨_,rfl⟩
 have hRl:ROW.size=G*2:=by rw[hROW];simp[hzl];omega
 have hrz:∀ ty,(Builtin.append_ #[30,3] ty #[.slice (some ⟨g,0,none⟩) i cap,.int .i64 ((n:Int)+1 - (i:Int))]).run Tryz.prog w =
   .ok (.slice (some ⟨w.heap.size,0,none⟩) (n+1) G) (w.drew.alloc (.cells ROW 80)):=fun ty=>by
  have h:=Lib.run_append_grow_zeros (P:=Tryz.prog) w 30 3 ty 80 i0 z .i64 .i64 hT Tryz.underlying3 hi0 hz0 (some ⟨g,0,none⟩) i cap (xs.take (i*2)) hold (n+1 - i) (by omega) (by omega) (by omega) (by omega) (by rw[hzb];omega)
   (by rw[hzb,show i+(n+1 - i)=n+1 by omega];exact growslice_fits hc (by omega))
  rw[show i+(n+1 - i)=n+1 by omega,← hG,Array.append_assoc,← hzs2,← hROW]at h
  rw[show(n:Int)+1 - (i:Int)=((n+1 - i:Nat):Int) by omega]
  exact h
 have hGi:¬ (G=i):=by omega
 have hGim:¬ (G=i+1):=by omega
 have hgs:¬ w.heap.size=g:=by omega
 obtain⟨mid,hmid⟩:∃ mid:List Value,mid=ROW.toList.take (i*2)++[c0,c1]++ROW.toList.drop (i*2+2):=⟨_,rfl⟩
 have hml:mid.length=G*2:=by rw[hmid];simp;omega
 obtain⟨fin,hfin⟩:∃ fin:List Value,fin=mid.take ((i+1)*2)++xs.drop (i*2)++mid.drop ((i+1)*2+(n - i)*2):=⟨_,rfl⟩
 have hfl:fin.length=G*2:=by rw[hfin];simp;omega
 have hN:(w.alloc (.cells ROW 80)).heap[w.heap.size]? = some (.cells ROW 80 (0,0)):=alloc_new_at w _
 have hadc:∀ (W:World),W.heap=(w.alloc (.cells ROW 80)).heap→∀ j v,[c0,c1][j]? = some v→W.cell? (ad.add j)=some v:=fun W hW j v hj=>by
  have hk:∀ q,W.cell? (ad.add q)=w.cell? (ad.add q):=fun q=>by
   have hb:(ad.add q).block=ad.block:=add_block ad q
   simp only[World.cell?,hb,hW]
   rw[Below.heap_alloc w _ _ hadw]
  match j,hj with
  |0,hj=>simp at hj;subst hj;rw[hk];exact h0
  |1,hj=>simp at hj;subst hj;rw[hk];exact h1
 have hcpA:∀ (W:World),W.heap=(w.alloc (.cells ROW 80)).heap→∀ ty dc,(Builtin.copy_ #[30,30] ty #[.slice (some ⟨w.heap.size,i*2,none⟩) (n+1 - i) dc,.slice (some ad) 1 cp]).run Tryz.prog W =
   .ok (goInt (1:Nat)) (W.setRow w.heap.size mid.toArray):=fun W hW ty dc=>by
  have h:=run_copy_k (P:=Tryz.prog) W 30 30 ty 80 2 w.heap.size (i*2) (n+1 - i) dc ad 1 cp 1 ROW 80 [c0,c1] hT hin2 (by rw[hW];exact hN)
   (Nat.min_eq_left (by omega)) rfl (hadc W hW) (by simp;omega) (by simp[hc0,hc1])
  rw[hmid]
  simpa using h
 have hdl:(xs.drop (i*2)).length=(n - i)*2:=by rw[List.length_drop,hxl];omega
 have hcpB:∀ (W:World),W.heap[w.heap.size]? = some (.cells mid.toArray 80 (0,0))→W.heap[g]? = w.heap[g]? → ∀ ty dc sc,(Builtin.copy_ #[30,30] ty #[.slice (some ⟨w.heap.size,(i+1)*2,none⟩) (n - i) dc,.slice (some ⟨g,i*2,none⟩) (n - i) sc]).run Tryz.prog W =
   .ok (goInt (n - i:Nat)) (W.setRow w.heap.size fin.toArray):=fun W hW hWg ty dc sc=>by
  have h:=run_copy_k (P:=Tryz.prog) W 30 30 ty 80 2 w.heap.size ((i+1)*2) (n - i) dc ⟨g,i*2,none⟩ (n - i) sc (n - i) mid.toArray 80 (xs.drop (i*2)) hT hin2 hW
   (Nat.min_self _) hdl (fun j v hj=>by
    rw[Addr.add_lit]
    rw[List.getElem?_drop]at hj
    exact hcell W hWg _ v hj) (by rw[hdl];simp;omega) (fun v hv=>hone v (List.mem_of_mem_drop hv))
  rw[hdl]at h
  rw[hfin]
  simpa using h
 have hE:((w.alloc (.cells ROW 80)).drew).heap=(w.alloc (.cells ROW 80)).heap:=rfl
 have hB1:∀ (W:World),W.heap=(w.alloc (.cells ROW 80)).heap→(W.setRow w.heap.size mid.toArray).drew.heap[w.heap.size]? = some (.cells mid.toArray 80 (0,0)):=fun W hW=>setRow_heap W _ _ _ _ _ (by rw[hW];exact hN)
 have hB2:∀ (W:World),W.heap=(w.alloc (.cells ROW 80)).heap→(W.setRow w.heap.size mid.toArray).drew.heap[g]? = w.heap[g]? := fun W hW=>by
  show(W.setRow w.heap.size mid.toArray).heap[g]? = _
  rw[setRow_other _ _ _ _ (by omega),hW]
  exact Below.heap_alloc w _ _ hgw
 have hlast:fin.take ((n+1)*2)=xs.take (i*2)++[c0,c1]++xs.drop (i*2):=by
  have h:=grow_cells (xs:=xs) (zs:=zs.toList) (n:=n) (i:=i) (c0:=c0) (c1:=c1) hi hxl (by rw[Array.length_toList,hzl];exact Nat.mul_le_mul_right 2 (by omega))
  rw[hfin,hmid,hROW]
  simpa using h
 clear hzs2 hROW hmid hfin hG
 go_enter Tryz.func75,Tryz.ntmps75
 go_wp2_with (first
  |(at_builtin;refine Lib.wpList_append_run _ rfl _ _ _ _ rfl _ _ rfl rfl _ _ (hrz _) ?_)
  |(at_builtin;refine wpList_copy_runI _ rfl _ _ 30 30 rfl _ _ rfl rfl (hcpA _ rfl _ _) ?_))
 go_region_law_o (refine step_copy_runI rfl _ _ 30 30 rfl (.slice (some ⟨w.heap.size,(i+1)*2,none⟩) (n - i) (G - (i+1))) (.slice (some ⟨g,i*2,none⟩) (n - i) (cap - i)) (by simp[Act.eval,Act.put]) (by simp[Act.eval,Act.put]) (hcpB ((w.alloc (.cells ROW 80)).drew.setRow w.heap.size mid.toArray).drew (hB1 _ hE) (hB2 _ hE) _ _ _) ?_)
 go_wp2
 go_ret
 refine⟨G,rfl,hGn,hGm,⟨rfl,rfl,rfl,by simp[setRow_size],fun k hk=>?_⟩,fin.toArray,setRow_heap _ _ _ _ _ _ (hB1 _ hE),by simp[hfl],by simpa using hlast⟩
 rw[setRow_other _ _ _ _ (by omega)]
 show((w.alloc (.cells ROW 80)).drew.setRow w.heap.size mid.toArray).heap[k]? = _
 rw[setRow_other _ _ _ _ (by omega)]
 exact Below.heap_alloc w _ _ hk
set_option maxHeartbeats 4000000 in
set_option maxRecDepth 100000 in
theorem insert_end (v:Value) (n:Nat) (xs:List Value) (ad:Addr) (cp:Nat) (w:World) (c0 c1:Value) (hown:w.ownsRow 0 80 2 v n xs) (hn:n≤268435456)
  (h0:w.cell? (ad.add 0)=some c0) (h1:w.cell? (ad.add 1)=some c1) (hc0:c0.oneCell'=true) (hc1:c1.oneCell'=true) :
  Calls Tryz.prog 75 #[v,.int .i64 (n:Int),.slice (some ad) 1 cp] w fun e w' =>
   ∃ v',e = .returned v'∧w'.ownsRow 0 80 2 v' (n+1) (xs++[c0,c1])∧w.grownBy w' v.ownBlock∧(v'.ownBlock=v.ownBlock∨v'.ownBlock=some w.heap.size):=by
 have mixed:=mixed_ok
 have hz1:¬ ((1:Int)=0):=by omega
 have hT:Tryz.prog.underlying 30=some (.slice 80):=Tryz.underlying30
 have htb:∃ ti,tget tbl 80=some ti∧ti.n=2∧ti.bytes=40∧ti.zero=[.string ⟨#[]⟩,.slice none 0 0]:=⟨_,rfl,rfl,rfl,rfl⟩
 obtain⟨ti,ht1,ht2,ht3,ht4⟩:=htb
 obtain⟨i0,hi0,hzs,hzb,z,hz0,hzc⟩:=(tbl_ok _ _ ht1).info
 rw[ht2]at hzs
 rw[ht3]at hzb
 rw[ht4]at hzc
 have hzz:z.cells.size=2:=by rw[← Array.length_toList,hzc];rfl
 have hnews:∀ j u,[c0,c1][j]? = some u→w.cell? (ad.add j)=some u:=fun j u hj=>by
  match j,hj with
  |0,hj=>simp at hj;subst hj;exact h0
  |1,hj=>simp at hj;subst hj;exact h1
 have hone:∀ u∈[c0,c1],u.oneCell'=true:=by simp[hc0,hc1]
 obtain⟨R,hR⟩:∃ R:Value→World→Prop,R=fun v' w'=>w'.ownsRow 0 80 2 v' (n+1) (xs++[c0,c1])∧w.grownBy w' v.ownBlock∧(v'.ownBlock=v.ownBlock∨v'.ownBlock=some w.heap.size):=⟨_,rfl⟩
 have hmk:∀ v' w',w'.ownsRow 0 80 2 v' (n+1) (xs++[c0,c1])→w.grownBy w' v.ownBlock→(v'.ownBlock=v.ownBlock∨v'.ownBlock=some w.heap.size)→R v' w':=fun v' w' a b c=>by rw[hR];exact⟨a,b,c⟩
 suffices h:Calls Tryz.prog 75 #[v,.int .i64 (n:Int),.slice (some ad) 1 cp] w fun e w'=>∃ v',e = .returned v'∧R v' w' by
  refine h.mono fun e w'=>?_
  rintro ⟨v',a,b⟩
  rw[hR]at b
  exact⟨v',a,b⟩
 clear hR
 have hb:n+1≤maxLen:=by unfold maxLen;omega
 have hv:(v = .slice none 0 0∧n=0)∨∃ g cap,v = .slice (some ⟨g,0,none⟩) n cap∧n≤cap:=by
  rcases hown.2 with h|⟨g,cap,cur,e,_,_,h,_⟩
  ·
   exact .inl h
  ·
   exact .inr ⟨g,cap,e,h⟩
 obtain⟨v',w',hr,q1,q2,_,q4⟩:=run_append_own_at (P:=Tryz.prog) w 0 30 0 80 i0 z 2 40 hT hi0 hz0 hzs hzb hzz (by decide) v n xs hown ad 1 cp [c0,c1] rfl hnews hone hb (by omega) (Nat.zero_le _)
 have hR:=hmk v' w' q1 q2 q4
 have hap:∀ ty,(Builtin.append_ #[30,30] ty #[v,.slice (some ad) 1 cp]).run Tryz.prog w = .ok v' w':=fun ty=>(append_types hT Tryz.underlying30 ty _ w).trans ((append_ty _ _ _ w).trans hr)
 clear hmk q1 q2 q4 hr hown hnews
 rcases hv with ⟨rfl,rfl⟩|⟨g,cap,rfl,hnc⟩
 ·
  go_enter Tryz.func75,Tryz.ntmps75
  go_wp2_with (at_builtin;refine Lib.wpList_append_run _ rfl _ _ 30 30 rfl _ _ rfl rfl _ _ (hap _) ?_)
  go_ret
  exact⟨_,rfl,hR⟩
 ·
  go_enter Tryz.func75,Tryz.ntmps75
  go_wp2_with (at_builtin;refine Lib.wpList_append_run _ rfl _ _ 30 30 rfl _ _ rfl rfl _ _ (hap _) ?_)
  all_goals
   go_ret
   exact⟨_,rfl,hR⟩
end Go.Proofs.YtngnajknbeijjaaGreatDoor
namespace Go.AX
open Go.RowKit
theorem getElem?_ins {α:Type}{l:List α}{m:Nat}{x:α}(hm:m≤l.length) (i:Nat) :
  (l.take m++x::l.drop m)[i]? = if i < m then l[i]? else if i=m then some x else l[i - 1]? := by
 have hl:(l.take m).length=m:=by simp;omega
 by_cases h1:i < m
 ·
  rw[if_pos h1,List.getElem?_append_left (by omega),List.getElem?_take,if_pos h1]
 ·
  rw[if_neg h1,List.getElem?_append_right (by omega),hl]
  by_cases h2:i=m
  ·
   subst h2;simp
  ·
   rw[if_neg h2]
   obtain⟨j,rfl⟩:∃ j,i=m+(j+1):=⟨i - m - 1,by omega⟩
   rw[show m+(j+1) - m=j+1 by omega,List.getElem?_cons_succ,List.getElem?_drop]
   congr 1
theorem getElem?_ins2 {α:Type}{l:List α}{m n:Nat}{a b:α}(hl:l.length=n*2) (hm:m≤n) (i j:Nat) (hj:j < 2) :
  (l.take (m*2)++[a,b]++l.drop (m*2))[i*2+j]? = if i < m then l[i*2+j]? else if i=m then [a,b][j]? else l[(i - 1)*2+j]? := by
 have hm2:m*2≤n*2:=Nat.mul_le_mul_right 2 hm
 have h1:(l.take (m*2)).length=m*2:=by simp;omega
 rw[List.append_assoc]
 by_cases hi:i < m
 ·
  have:(i+1)*2≤m*2:=Nat.mul_le_mul_right 2 hi
  rw[if_pos hi,List.getElem?_append_left (by omega),List.getElem?_take,if_pos (by omega)]
 ·
  rw[if_neg hi,List.getElem?_append_right (by omega),h1]
  by_cases he:i=m
  ·
   subst he
   rw[if_pos rfl,show i*2+j - i*2=j by omega,List.getElem?_append_left (by simpa using hj)]
  ·
   rw[if_neg he]
   have:(m+1)*2≤i*2:=Nat.mul_le_mul_right 2 (by omega)
   rw[List.getElem?_append_right (by simp;omega),List.getElem?_drop]
   congr 1
   simp;omega
theorem rows_ins {w w':World}{own:Nat→Prop}{v v':Value}{e m:Nat}{rows:List (List D)}{xs:List Value}{c0 c1:Value}{d0 d1:D}
  (hm:m≤rows.length) (hb:BelowBut v w w') (hp:∀ b,blk v'=some b→blk v=some b∨w.heap.size≤b)
  (hlen:xs.length=rows.length*2) (hone:∀ x∈xs,Value.oneCell' x=true) (hrl:∀ r∈rows,r.length=2)
  (hrd:∀ (i j:Nat) (r:List D) (d:D) (x:Value),rows[i]? = some r→r[j]? = some d→xs[i*2+j]? = some x→Rd w (with1 own v) x d)
  (h0:Rd w (with1 own v) c0 d0) (h1:Rd w (with1 own v) c1 d1) (o0:c0.oneCell'=true) (o1:c1.oneCell'=true)
  (hown:w'.ownsRow 0 e 2 v' (rows.length+1) (xs.take (m*2)++[c0,c1]++xs.drop (m*2))) :
  RowsAt w' 0 (with1 own v') e 2 v' (rows.take m++[d0,d1]::rows.drop m):=by
 have hext:Ext (with1 own v) w w':=⟨hb.size,fun b h1 h2=>hb.block b h1 fun h=>h2 (.inr h)⟩
 have ho:∀ b,with1 own v' b→with1 own v b∨w.heap.size≤b:=by
  rintro b (h|h)
  ·
   exact .inl (.inl h)
  ·
   rcases hp b h with h|h
   ·
    exact .inl (.inr h)
   ·
    exact .inr h
 refine⟨xs.take (m*2)++[c0,c1]++xs.drop (m*2),?_,fun x hx=>?_,fun r hr=>?_,fun i j r d x hi hj hx=>?_⟩
 ·
  have:(rows.take m++[d0,d1]::rows.drop m).length=rows.length+1:=by simp;omega
  rw[this];exact hown
 ·
  rcases List.mem_append.1 hx with hx|hx
  ·
   rcases List.mem_append.1 hx with hx|hx
   ·
    exact hone x (List.mem_of_mem_take hx)
   ·
    simp at hx;rcases hx with rfl|rfl
    ·
     exact o0
    ·
     exact o1
  ·
   exact hone x (List.mem_of_mem_drop hx)
 ·
  rcases List.mem_append.1 hr with h|h
  ·
   exact hrl r (List.mem_of_mem_take h)
  ·
   rcases List.mem_cons.1 h with rfl|h
   ·
    rfl
   ·
    exact hrl r (List.mem_of_mem_drop h)
 ·
  refine Rd.step hext ho ?_
  rw[getElem?_ins hm]at hi
  have hj2:j < 2:=by
   have hjl:=(List.getElem?_eq_some_iff.1 hj).1
   split at hi
   ·
    rw[hrl r (List.mem_of_getElem? hi)]at hjl;exact hjl
   ·
    split at hi
    ·
     cases hi;simpa using hjl
    ·
     rw[hrl r (List.mem_of_getElem? hi)]at hjl;exact hjl
  rw[getElem?_ins2 hlen hm i j hj2]at hx
  split at hi
  ·
   next h=>rw[if_pos h]at hx;exact hrd i j r d x hi hj hx
  ·
   next h =>
   rw[if_neg h]at hx
   split at hi
   ·
    next h' =>
    rw[if_pos h']at hx
    cases hi
    match j,hj2,hj,hx with
    |0,_,hj,hx=>simp at hj hx;subst hj;subst hx;exact h0
    |1,_,hj,hx=>simp at hj hx;subst hj;subst hx;exact h1
   ·
    next h'=>rw[if_neg h']at hx;exact hrd (i - 1) j r d x hi hj hx
theorem getElem?_del {α:Type}{l:List α}{m:Nat}(hm:m < l.length) (i:Nat):(l.take m++l.drop (m+1))[i]? = if i < m then l[i]? else l[i+1]? := by
 have hl:(l.take m).length=m:=by simp;omega
 by_cases h1:i < m
 ·
  rw[if_pos h1,List.getElem?_append_left (by omega),List.getElem?_take,if_pos h1]
 ·
  rw[if_neg h1,List.getElem?_append_right (by omega),hl,List.getElem?_drop]
  congr 1;omega
theorem getElem?_del2 {α:Type}{l:List α}{m n:Nat}(hl:l.length=n*2) (hm:m < n) (i j:Nat) (hj:j < 2) :
  (l.take (m*2)++l.drop ((m+1)*2))[i*2+j]? = if i < m then l[i*2+j]? else l[(i+1)*2+j]? := by
 have hm2:m*2≤n*2:=Nat.mul_le_mul_right 2 (by omega)
 have h1:(l.take (m*2)).length=m*2:=by simp;omega
 by_cases hi:i < m
 ·
  have:(i+1)*2≤m*2:=Nat.mul_le_mul_right 2 hi
  rw[if_pos hi,List.getElem?_append_left (by omega),List.getElem?_take,if_pos (by omega)]
 ·
  rw[if_neg hi,List.getElem?_append_right (by omega),h1,List.getElem?_drop]
  congr 1;omega
theorem rows_del {w w':World}{own:Nat→Prop}{v v':Value}{e m:Nat}{rows:List (List D)}{xs:List Value}
  (hm:m < rows.length) (hb:BelowBut v w w') (hp:∀ b,blk v'=some b→blk v=some b∨w.heap.size≤b)
  (hlen:xs.length=rows.length*2) (hone:∀ x∈xs,Value.oneCell' x=true) (hrl:∀ r∈rows,r.length=2)
  (hrd:∀ (i j:Nat) (r:List D) (d:D) (x:Value),rows[i]? = some r→r[j]? = some d→xs[i*2+j]? = some x→Rd w (with1 own v) x d)
  (hown:w'.ownsRow 0 e 2 v' (rows.length - 1) (xs.take (m*2)++xs.drop ((m+1)*2))) :
  RowsAt w' 0 (with1 own v') e 2 v' (rows.take m++rows.drop (m+1)):=by
 have hext:Ext (with1 own v) w w':=⟨hb.size,fun b h1 h2=>hb.block b h1 fun h=>h2 (.inr h)⟩
 have ho:∀ b,with1 own v' b→with1 own v b∨w.heap.size≤b:=by
  rintro b (h|h)
  ·
   exact .inl (.inl h)
  ·
   rcases hp b h with h|h
   ·
    exact .inl (.inr h)
   ·
    exact .inr h
 refine⟨xs.take (m*2)++xs.drop ((m+1)*2),?_,fun x hx=>?_,fun r hr=>?_,fun i j r d x hi hj hx=>?_⟩
 ·
  have:(rows.take m++rows.drop (m+1)).length=rows.length - 1:=by simp;omega
  rw[this];exact hown
 ·
  rcases List.mem_append.1 hx with hx|hx
  ·
   exact hone x (List.mem_of_mem_take hx)
  ·
   exact hone x (List.mem_of_mem_drop hx)
 ·
  rcases List.mem_append.1 hr with h|h
  ·
   exact hrl r (List.mem_of_mem_take h)
  ·
   exact hrl r (List.mem_of_mem_drop h)
 ·
  refine Rd.step hext ho ?_
  rw[getElem?_del hm]at hi
  have hj2:j < 2:=by
   have hjl:=(List.getElem?_eq_some_iff.1 hj).1
   split at hi <;> (rw[hrl r (List.mem_of_getElem? hi)]at hjl;exact hjl)
  rw[getElem?_del2 hlen hm i j hj2]at hx
  split at hi
  ·
   next h=>rw[if_pos h]at hx;exact hrd i j r d x hi hj hx
  ·
   next h=>rw[if_neg h]at hx;exact hrd (i+1) j r d x hi hj hx
theorem rd_pair {w:World}{own:Nat→Prop}{v:Value}{d0 d1:D}(h:Rd w own v (.sl 2 [[d0,d1]])) :
  ∃ ad cp c0 c1,v = .slice (some ad) 1 cp∧¬ own ad.block∧ad.block < w.heap.size∧w.cell? (ad.add 0)=some c0∧w.cell? (ad.add 1)=some c1 ∧
   c0.oneCell'=true∧c1.oneCell'=true∧Rd w own c0 d0∧Rd w own c1 d1:=by
 cases h with
 |sl ad cap k rows f hb hs hcap hk hc h1 hr =>
  exact⟨ad,cap,f 0 0,f 0 1,rfl,hb,hs,by simpa using hc 0 0 _ d0 rfl rfl,by simpa using hc 0 1 _ d1 rfl rfl,h1 0 0 _ d0 rfl rfl,h1 0 1 _ d1 rfl rfl,hr 0 0 _ d0 rfl rfl,hr 0 1 _ d1 rfl rfl⟩
end Go.AX
namespace Go.Proofs.YtngnajknbeijjaaGreatDoor
open Go.AX Go.RF
theorem upd_insert (rows:List (List D)) (m:Nat) (d0 d1:D) (hm:m≤rows.length) (hl:rows.length≤268435456) :
  FnUpd Tryz.prog 75 80 2 rows [.d (dint m),.d (.sl 2 [[d0,d1]])] (rows.take m++[d0,d1]::rows.drop m):=by
 refine⟨⟨_,Tryz.func75,by kernel_rfl,by kernel_rfl⟩,fun w own v vs hown hR hsep ha=>?_⟩
 match vs,ha with
 | [v1,v2],⟨h1,h2,_⟩ =>
  have e1:=rd_v h1
  subst e1
  obtain⟨ad,cp,c0,c1,rfl,hnb,hadw,hc0,hc1,o0,o1,r0,r1⟩:=rd_pair h2
  obtain⟨xs,hrow,hone,hrl,hrd⟩:=hR
  have hbv:blk v=v.ownBlock:=blk_own hrow
  have hxl:=hrow.1
  by_cases hmn:m=rows.length
  ·
   subst hmn
   refine(insert_end v rows.length xs ad cp w c0 c1 hrow hl hc0 hc1 o0 o1).mono fun e w'=>?_
   rintro ⟨v',rfl,q1,q2,q3⟩
   have hp:∀ b,blk v'=some b→blk v=some b∨w.heap.size≤b:=fun b hb=>by
    rw[blk_own q1]at hb
    rw[hbv]
    rcases q3 with h|h
    ·
     rw[h]at hb;exact .inl hb
    ·
     rw[h]at hb;cases hb;exact .inr (Nat.le_refl _)
   have hbb:BelowBut v w w':=⟨q2.os,q2.tape,q2.output,q2.size,fun b hb hn=>q2.block b hb fun h=>hn (by rw[hbv,h])⟩
   refine⟨v',rfl,hbb,hp,rows_ins (Nat.le_refl _) hbb hp hxl hone hrl hrd r0 r1 o0 o1 ?_⟩
   rw[List.take_of_length_le (by omega),List.drop_eq_nil_of_le (by omega),List.append_nil]
   exact q1
  ·
   rcases hrow.2 with ⟨_,h0⟩|⟨g,cap,cur,rfl,_,hg,hnc,hcm,hsz,htk⟩
   ·
    omega
   ·
    have hadg:ad.block≠g:=fun h=>hnb (.inr (by rw[h];rfl))
    by_cases hroom:rows.length+1≤cap
    ·
     refine(insert_room g rows.length cap m ad cp w cur c0 c1 hg hsz (by omega) hl hroom hcm hadg hc0 hc1 (by rw[htk];exact hone) o0 o1).mono fun e w'=>?_
     rintro ⟨rfl,m1,cs',rfl,q1,q2⟩
     have hp:∀ b,blk (.slice (some ⟨g,0,none⟩) (rows.length+1) cap)=some b→blk (.slice (some ⟨g,0,none⟩) rows.length cap)=some b∨w.heap.size≤b:=fun b hb => .inl hb
     have hbb:BelowBut (.slice (some ⟨g,0,none⟩) rows.length cap) w ((w.drew.setRow g m1).setRow g cs'):=⟨rfl,rfl,rfl,by simp[setRow_size],fun b hb hn=>by
      have hbg:b≠g:=fun h=>hn (by rw[h];rfl)
      rw[setRow_other _ _ _ _ hbg,setRow_other _ _ _ _ hbg];rfl⟩
     refine⟨_,rfl,hbb,hp,rows_ins hm hbb hp hxl hone hrl hrd r0 r1 o0 o1 ⟨by simp;omega,.inr ⟨g,cap,cs',rfl,Nat.zero_le _,setRow_heap _ _ _ _ _ _ (setRow_heap _ _ _ _ _ _ hg),hroom,hcm,q1,?_⟩⟩⟩
     rw[q2,htk]
    ·
     refine(insert_grow g rows.length cap m ad cp w cur c0 c1 hg hsz (by omega) hl hnc (by omega) hcm hadw hc0 hc1 (by rw[htk];exact hone) o0 o1).mono fun e w'=>?_
     rintro ⟨G,rfl,q1,q2,hB,cs',q3,q4,q5⟩
     have hp:∀ b,blk (.slice (some ⟨w.heap.size,0,none⟩) (rows.length+1) G)=some b→blk (.slice (some ⟨g,0,none⟩) rows.length cap)=some b∨w.heap.size≤b:=fun b hb => .inr (by cases hb;exact Nat.le_refl _)
     have hbb:BelowBut (.slice (some ⟨g,0,none⟩) rows.length cap) w w':=⟨hB.os,hB.tape,hB.output,hB.size,fun b hb _=>hB.block b hb⟩
     refine⟨_,rfl,hbb,hp,rows_ins hm hbb hp hxl hone hrl hrd r0 r1 o0 o1 ⟨by simp;omega,.inr ⟨_,G,cs',rfl,Nat.zero_le _,q3,q1,q2,q4,?_⟩⟩⟩
     rw[q5,htk]
end Go.Proofs.YtngnajknbeijjaaGreatDoor
namespace Go.Proofs.YtngnajknbeijjaaGreatDoor
open Go.AX Go.RF Go.RowKit Go.Shelf Go.Lib
theorem step_append_runI {P:Program}{ops:Array Oper}{o:Oper}{a:Act}{w:World}{K:Act→World→Prop}{Q:Exit→Act→World→Prop}{E:Prop}
  (hg:o.guard=none) (d x:Operand) (dT sT:TypeId) (hop:o.op=Op.call { callee:=Callee.builtin Builtin.append,args := #[d,x],argTypes := #[dT,sT] })
  (v u:Value) (hd:a.eval d=v) (hx:a.eval x=u) {v':Value} {w':World} (hr:(Builtin.append_ #[dT,sT] o.type #[v,u]).run P w = .ok v' w') (hK:K (a.put o.dst v') w') :
  if Region.wanted o (yielded ops a.tmps)=true then Oper.wp P o a w K Q else E:=by
 have hw:Region.wanted o (yielded ops a.tmps)=true:=by simp[Region.wanted,hg]
 rw[if_pos hw]
 unfold Oper.wp
 simp[execOp,hop,resolve,invoke,builtin,hd,hx,hr,Result.andThen]
 exact hK
theorem wpList_clear_runI {P:Program}{ops:Array Oper}{rest:List Oper}{o:Oper}{a:Act}{w:World}{Q:Exit→Act→World→Prop}(hgd:o.guard=none) (x:Operand) (t:TypeId)
  (ho:o.op = .call { callee := .builtin .clear,args := #[x],argTypes := #[t] }) (u:Value) (hx:a.eval x=u) {v':Value} {w':World}
  (hr:(Builtin.clear_ #[t] o.type #[u]).run P w = .ok v' w') (h:wpList P ops Q rest (a.put o.dst v') w'):wpList P ops Q (o::rest) a w:=by
 refine wpList_plain hgd fun K hK=>?_
 unfold Oper.wp
 simp[execOp,ho,resolve,invoke,builtin,hx,hr,Result.andThen]
 exact hK _ _ h
theorem del_cells {cur zs:List Value}{n m:Nat}(hm:m < n) (hl:n*2≤cur.length) :
  let news:=(cur.drop ((m+1)*2)).take ((n - (m+1))*2)
  let m1:=cur.take (m*2)++news++cur.drop (m*2+news.length)
  (m1.take ((m+(n - (m+1)))*2)++zs++m1.drop ((m+(n - (m+1)))*2+zs.length)).take ((n - 1)*2)=(cur.take (n*2)).take (m*2)++(cur.take (n*2)).drop ((m+1)*2):=by
 intro news m1
 have h1:(cur.take (m*2)).length=m*2:=by simp;omega
 have h2:news.length=(n - (m+1))*2:=by simp[news];omega
 have hk:(m+(n - (m+1)))*2=(n - 1)*2:=by congr 1;omega
 have h3:m1.take ((n - 1)*2)=cur.take (m*2)++news:=by
  show(cur.take (m*2)++news++cur.drop (m*2+news.length)).take ((n - 1)*2)=_
  rw[List.take_append_of_le_length (by rw[List.length_append,h1,h2];omega),List.take_of_length_le (by rw[List.length_append,h1,h2];omega)]
 rw[hk,h3,List.append_assoc,List.take_append_of_le_length (by rw[List.length_append,h1,h2];omega),List.take_of_length_le (by rw[List.length_append,h1,h2];omega)]
 rw[List.take_take,Nat.min_eq_left (by omega),List.drop_take,show n*2 - (m+1)*2=(n - (m+1))*2 by omega]
end Go.Proofs.YtngnajknbeijjaaGreatDoor
namespace Go.Proofs.YtngnajknbeijjaaGreatDoor
open Go.AX Go.RF Go.RowKit
set_option maxRecDepth 100000
set_option maxHeartbeats 8000000
def putS (k:Str) (n:Int):List Pair→List Pair
 | []=>[⟨k,n⟩]
 |p::r=>if p.key=k then ⟨k,n⟩::r else if slt p.key k=true then p::putS k n r else ⟨k,n⟩::p::r
def dropS (k:Str):List Pair→List Pair
 | []=>[]
 |p::r=>if p.key=k then r else p::dropS k r
theorem dropS_none {k:Str}:∀ {l:List Pair},(∀ p∈l,p.key≠k)→dropS k l=l
 | [],_=>rfl
 |d::l,h=>by
  simp only[dropS]
  rw[if_neg (h d (List.mem_cons_self ..)),dropS_none fun p hp=>h p (List.mem_cons_of_mem _ hp)]
theorem putGo_done {k:Str}{n:Int}{h:Bool}:∀ {l out:List Pair},(∀ p∈l,p.key≠k)→putGo k n h true out l=out++l
 | [],out,_=>by simp[putGo]
 |p::l,out,hl=>by
  simp only[putGo]
  rw[if_neg (hl p (List.mem_cons_self ..))]
  simp only[Bool.true_or,Bool.not_true,Bool.false_and,Bool.false_eq_true,if_false]
  rw[putGo_done fun q hq=>hl q (List.mem_cons_of_mem _ hq)]
  simp
theorem putGo_srt {k:Str}{n:Int}{h:Bool}:∀ {l out:List Pair},Srt Pair.key l→putGo k n h false out l=out++(if h=true then putS k n l else dropS k l)
 | [],out,_=>by cases h <;> simp[putGo,putS,dropS]
 |p::l,out,hs=>by
  obtain⟨h1,h2⟩:=List.pairwise_cons.1 hs
  cases hl:slt p.key k with
  |true =>
   have hk:p.key≠k:=slt_ne hl
   simp only[putGo,hl]
   rw[if_neg hk]
   simp only[Bool.not_true,Bool.or_false,Bool.not_false,Bool.and_false,Bool.false_and,Bool.false_eq_true,if_false]
   rw[putGo_srt h2]
   cases h <;> simp[putS,dropS,hk,hl]
  |false =>
   have hne:∀ q∈l,q.key≠k:=fun q hq e=>by
    have h3:=h1 q hq
    rw[e]at h3
    rw[h3]at hl;cases hl
   simp only[putGo,hl]
   simp only[Bool.not_false,Bool.or_true,Bool.true_and,Bool.and_true]
   rw[putGo_done hne]
   by_cases hk:p.key=k
   ·
    cases h <;> simp[putS,dropS,hk]
   ·
    cases h <;> simp[putS,dropS,hk,hl,dropS_none hne]
theorem put_true {l:List Pair}(hs:Srt Pair.key l) (k:Str) (n:Int):put l k n true=putS k n l:=by
 unfold put;rw[putGo_srt hs];rfl
theorem put_false {l:List Pair}(hs:Srt Pair.key l) (k:Str) (n:Int):put l k n false=dropS k l:=by
 unfold put;rw[putGo_srt hs];rfl
theorem putS_mem {k:Str}{n:Int}:∀ {l:List Pair}{p:Pair},p∈putS k n l→p∈l∨p=⟨k,n⟩
 | [],p,h=>by simp[putS]at h;exact .inr h
 |q::l,p,h=>by
  simp only[putS]at h
  split at h
  ·
   rcases List.mem_cons.1 h with h|h
   ·
    exact .inr h
   ·
    exact .inl (List.mem_cons_of_mem _ h)
  ·
   split at h
   ·
    rcases List.mem_cons.1 h with h|h
    ·
     exact .inl (h▸List.mem_cons_self ..)
    ·
     rcases putS_mem h with h|h
     ·
      exact .inl (List.mem_cons_of_mem _ h)
     ·
      exact .inr h
   ·
    rcases List.mem_cons.1 h with h|h
    ·
     exact .inr h
    ·
     exact .inl h
theorem dropS_sub {k:Str}:∀ l:List Pair,(dropS k l).Sublist l
 | []=>List.Sublist.slnil
 |p::l=>by
  simp only[dropS]
  split
  ·
   exact List.sublist_cons_self ..
  ·
   exact(dropS_sub l).cons_cons _
theorem putS_srt {k:Str}{n:Int}:∀ {l:List Pair},Srt Pair.key l→Srt Pair.key (putS k n l)
 | [],_=>List.pairwise_singleton ..
 |c::l,hs=>by
  obtain⟨h1,h2⟩:=List.pairwise_cons.1 hs
  simp only[putS]
  by_cases hk:c.key=k
  ·
   rw[if_pos hk]
   exact List.pairwise_cons.2 ⟨fun d hd=>by show slt k d.key=true;rw[← hk];exact h1 d hd,h2⟩
  ·
   rw[if_neg hk]
   split
   ·
    next h3 =>
    refine List.pairwise_cons.2 ⟨fun d hd=>?_,putS_srt h2⟩
    rcases putS_mem hd with h|rfl
    ·
     exact h1 d h
    ·
     exact h3
   ·
    next h3 =>
    have h4:slt k c.key=true:=by
     rcases slt_tri c.key k with h|h|h
     ·
      exact absurd h h3
     ·
      exact absurd h hk
     ·
      exact h
    refine List.pairwise_cons.2 ⟨fun d hd=>?_,hs⟩
    rcases List.mem_cons.1 hd with rfl|hd
    ·
     exact h4
    ·
     exact slt_trans h4 (h1 d hd)
theorem dropS_srt {k:Str}{l:List Pair}(hs:Srt Pair.key l):Srt Pair.key (dropS k l):=hs.sublist (dropS_sub l)
theorem ok_pround (n:Int) (hn:inI n):FnOk Tryz.prog 114 [.d (dint n)] (.one (dint (round n))):=by
 refine fnOk_of tbl_ok mixed_ok Tryz.func114 rfl (by kernel_rfl) rfl rfl fun w0 own0=>?_
 repeat(first|refine wa ?_|((with_reducible apply s5);(first|((with_reducible apply a_bin);(iterate 2 exact rfl);exact bin_rem (by omega);exact rfl)|exact by_oa|exact by_ca);exact by_g)|refine wb ?_)
 refine .one (.tmp rfl (.one (.d (dle_eq ?_))))
 have h1:n.tdiv 1073741825*1073741825+n.tmod 1073741825=n:=Int.tdiv_mul_add_tmod n 1073741825
 show dint _=dint _
 congr 1
 unfold round
 omega
end Go.Proofs.YtngnajknbeijjaaGreatDoor
namespace Go.Proofs.YtngnajknbeijjaaGreatDoor
open Go.AX Go.RF
set_option maxRecDepth 100000
theorem ok_SameInts (l r:List Int) (hl:l.length≤1073741824):FnOk Tryz.prog 13 [.d (encInts l),.d (encInts r)] (.one (dbool (allB (fun a b=>decide (a=b)) l r))):=by
 refine fnOk_of tbl_ok mixed_ok Tryz.func13 rfl (by kernel_rfl) rfl rfl fun w0 own0=>?_
 by_cases hlen:l.length=r.length
 ·
  try refine wk ?_
  refine CW.loop (fun k=>[(.s 0,.av (.d (encInts l))),(.s 1,.av (.d (encInts r))),(.s 11,.av (.d (encInts l))),(.s 12,.av (.d (dint l.length))),(.s 13,.av (.d (dint k))),(.nx,.num 0)]) (agree (fun a b=>decide (a=b)) l r) ?_ fun k hk=>?_
  ·
   exact by_less
  ·
   rcases agree_case hlen hk with ⟨h1,h1',a,b,h2,h3,h4⟩|⟨h1,h2⟩|⟨h1,h2,a,b,h3,h4,h5⟩
   ·
    replace h4:a=b:=by simpa using h4
    try refine wk ?_
    refine q_loop h1 ?_
    exact by_less
   ·
    try refine wk ?_
    exact .one (.tmp rfl (.one (.d (dle_bool h2.symm))))
   ·
    replace h5:¬ a=b:=by simpa using h5
    try refine wk ?_
    exact .one (.tmp rfl (.one (.d (dle_bool h2.symm))))
 ·
  try refine wk ?_
  refine .one (.tmp rfl (.one (.d (dle_bool ?_))))
  cases hb:allB (fun a b=>decide (a=b)) l r
  ·
   rfl
  ·
   exact absurd (allB_len hb) hlen
theorem ok_SameRows (l r:List Pair) (hl:l.length≤1073741824):FnOk Tryz.prog 33 [.d (encRows l),.d (encRows r)] (.one (dbool (allB (fun a b=>decide (a=b)) l r))):=by
 refine fnOk_of tbl_ok mixed_ok Tryz.func33 rfl (by kernel_rfl) rfl rfl fun w0 own0=>?_
 by_cases hlen:l.length=r.length
 ·
  try refine wk ?_
  refine CW.loop (fun k=>[(.s 0,.av (.d (encRows l))),(.s 1,.av (.d (encRows r))),(.s 11,.av (.d (encRows l))),(.s 12,.av (.d (dint l.length))),(.s 13,.av (.d (dint k))),(.nx,.num 0)]) (agree (fun a b=>decide (a=b)) l r) ?_ fun k hk=>?_
  ·
   exact by_less
  ·
   rcases agree_case hlen hk with ⟨h1,h1',a,b,h2,h3,h4⟩|⟨h1,h2⟩|⟨h1,h2,a,b,h3,h4,h5⟩
   ·
    replace h4:a=b:=by simpa using h4
    repeat(first|refine wa ?_|((with_reducible apply s5);(first|((with_reducible apply a_agg);exact neq_pair a b;(iterate 5 exact rfl))|exact by_oa|exact by_ca);exact by_g)|refine wb ?_)
    refine q_loop h1 ?_
    exact by_less
   ·
    try refine wk ?_
    exact .one (.tmp rfl (.one (.d (dle_bool h2.symm))))
   ·
    replace h5:¬ a=b:=by simpa using h5
    repeat(first|refine wa ?_|((with_reducible apply s5);(first|((with_reducible apply a_agg);exact neq_pair a b;(iterate 5 exact rfl))|exact by_oa|exact by_ca);exact by_g)|refine wb ?_)
    exact .one (.tmp rfl (.one (.d (dle_bool h2.symm))))
 ·
  try refine wk ?_
  refine .one (.tmp rfl (.one (.d (dle_bool ?_))))
  cases hb:allB (fun a b=>decide (a=b)) l r
  ·
   rfl
  ·
   exact absurd (allB_len hb) hlen
theorem ok_SameTexts (l r:List Str) (hl:l.length≤1073741824):FnOk Tryz.prog 16 [.d (encStrs l),.d (encStrs r)] (.one (dbool (allB (fun a b=>decide (a=b)) l r))):=by
 refine fnOk_of tbl_ok mixed_ok Tryz.func16 rfl (by kernel_rfl) rfl rfl fun w0 own0=>?_
 by_cases hlen:l.length=r.length
 ·
  try refine wk ?_
  refine CW.loop (fun k=>[(.s 0,.av (.d (encStrs l))),(.s 1,.av (.d (encStrs r))),(.s 11,.av (.d (encStrs l))),(.s 12,.av (.d (dint l.length))),(.s 13,.av (.d (dint k))),(.nx,.num 0)]) (agree (fun a b=>decide (a=b)) l r) ?_ fun k hk=>?_
  ·
   exact by_less
  ·
   rcases agree_case hlen hk with ⟨h1,h1',a,b,h2,h3,h4⟩|⟨h1,h2⟩|⟨h1,h2,a,b,h3,h4,h5⟩
   ·
    replace h4:a=b:=by simpa using h4
    try refine wk ?_
    refine q_loop h1 ?_
    exact by_less
   ·
    try refine wk ?_
    exact .one (.tmp rfl (.one (.d (dle_bool h2.symm))))
   ·
    replace h5:¬ a=b:=by simpa using h5
    try refine wk ?_
    exact .one (.tmp rfl (.one (.d (dle_bool h2.symm))))
 ·
  try refine wk ?_
  refine .one (.tmp rfl (.one (.d (dle_bool ?_))))
  cases hb:allB (fun a b=>decide (a=b)) l r
  ·
   rfl
  ·
   exact absurd (allB_len hb) hlen
set_option maxHeartbeats 4000000
theorem ok_sameEnds (l r:List Done) (hl:l.length≤268435456):FnOk Tryz.prog 38 [.d (encEnds l),.d (encEnds r)] (.one (dbool (allB (fun a b=>decide (a=b)) l r))):=by
 refine fnOk_of tbl_ok mixed_ok Tryz.func38 rfl (by kernel_rfl) rfl rfl fun w0 own0=>?_
 by_cases hlen:l.length=r.length
 ·
  try refine wk ?_
  refine CW.loop (fun k=>[(.s 0,.av (.d (encEnds l))),(.s 1,.av (.d (encEnds r))),(.s 11,.av (.d (encEnds l))),(.s 12,.av (.d (dint l.length))),(.s 13,.av (.d (dint k))),(.nx,.num 0)]) (agree (fun a b=>decide (a=b)) l r) ?_ fun k hk=>?_
  ·
   exact by_less
  ·
   rcases agree_case hlen hk with ⟨h1,h1',a,b,h2,h3,h4⟩|⟨h1,h2⟩|⟨h1,h2,a,b,h3,h4,h5⟩
   ·
    replace h4:a=b:=by simpa using h4
    repeat(first|refine wa ?_|((with_reducible apply s5);(first|((with_reducible apply a_agg);exact neq_done a b;(iterate 5 exact rfl))|exact by_oa|exact by_ca);exact by_g)|refine wb ?_)
    refine q_loop h1 ?_
    exact by_less
   ·
    try refine wk ?_
    exact .one (.tmp rfl (.one (.d (dle_bool h2.symm))))
   ·
    replace h5:¬ a=b:=by simpa using h5
    repeat(first|refine wa ?_|((with_reducible apply s5);(first|((with_reducible apply a_agg);exact neq_done a b;(iterate 5 exact rfl))|exact by_oa|exact by_ca);exact by_g)|refine wb ?_)
    exact .one (.tmp rfl (.one (.d (dle_bool h2.symm))))
 ·
  try refine wk ?_
  refine .one (.tmp rfl (.one (.d (dle_bool ?_))))
  cases hb:allB (fun a b=>decide (a=b)) l r
  ·
   rfl
  ·
   exact absurd (allB_len hb) hlen
theorem ok_sameDeed (d e:Deed) (hr:d.reads.length≤268435456) (hw:d.writes.length≤268435456) (hc:d.code.length≤268435456) :
  FnOk Tryz.prog 71 [.d (.agg d.enc),.d (.agg e.enc)] (.one (dbool (decide (d=e)))):=by
 refine fnOk_of tbl_ok mixed_ok Tryz.func71 rfl (by kernel_rfl) rfl rfl fun w0 own0=>?_
 have c1:=ok_SameTexts d.reads e.reads (by omega)
 have c2:=ok_SameTexts d.writes e.writes (by omega)
 rw[allB_eq (fun a b=>rfl)]at c1 c2
 obtain⟨dr,dw,dc⟩:=d
 obtain⟨er,ew,ec⟩:=e
 dsimp only at hr hw hc c1 c2
 by_cases e1:dr=er
 ·
  by_cases e2:dw=ew
  ·
   by_cases hlen:dc.length=ec.length
   ·
    repeat(first|refine wa ?_|((with_reducible apply s5);(first|exact a_call c1 rfl by_sub|exact a_call c2 rfl by_sub|exact by_oa|exact by_ca);exact by_g)|refine wb ?_)
    refine CW.loop (fun k=>[(.s 2,.av (.ptr 0 0)),(.o 0,.ob (.box ((Deed.enc ⟨dr,dw,dc⟩).map AV.d))),(.s 3,.av (.ptr 1 0)),(.o 1,.ob (.box ((Deed.enc ⟨er,ew,ec⟩).map AV.d))),(.s 31,.av (.d (dint dc.length))),(.s 32,.av (.d (dint k))),(.nx,.num 2)]) (agree (fun a b=>decide (a=b)) dc ec) ?_ fun k hk=>?_
    ·
     exact by_less
    ·
     rcases agree_case hlen hk with ⟨h1,h1',a,b,h2,h3,h4⟩|⟨h1,h2⟩|⟨h1,h2,a,b,h3,h4,h5⟩
     ·
      replace h4:a=b:=by simpa using h4
      repeat(first|refine wa ?_|((with_reducible apply s5);(first|((with_reducible apply a_agg);exact neq_ins a b;(iterate 5 exact rfl))|exact by_oa|exact by_ca);exact by_g)|refine wb ?_)
      refine q_loop h1 ?_
      exact by_less
     ·
      try refine wk ?_
      rw[allB_eq (fun a b=>rfl)]at h2
      exact .one (.tmp rfl (.one (.d (dle_bool (by simp at h2;simp[e1,e2,h2])))))
     ·
      replace h5:¬ a=b:=by simpa using h5
      repeat(first|refine wa ?_|((with_reducible apply s5);(first|((with_reducible apply a_agg);exact neq_ins a b;(iterate 5 exact rfl))|exact by_oa|exact by_ca);exact by_g)|refine wb ?_)
      rw[allB_eq (fun a b=>rfl)]at h2
      exact .one (.tmp rfl (.one (.d (dle_bool (by simp at h2;simp[h2])))))
   ·
    repeat(first|refine wa ?_|((with_reducible apply s5);(first|exact a_call c1 rfl by_sub|exact a_call c2 rfl by_sub|exact by_oa|exact by_ca);exact by_g)|refine wb ?_)
    exact .one (.tmp rfl (.one (.d (dle_bool (by have:dc≠ec:=fun h=>hlen (by rw[h]);simp[this])))))
  ·
   repeat(first|refine wa ?_|((with_reducible apply s5);(first|exact a_call c1 rfl by_sub|exact a_call c2 rfl by_sub|exact by_oa|exact by_ca);exact by_g)|refine wb ?_)
   exact .one (.tmp rfl (.one (.d (dle_bool (by simp[e2])))))
 ·
  repeat(first|refine wa ?_|((with_reducible apply s5);(first|exact a_call c1 rfl by_sub|exact a_call c2 rfl by_sub|exact by_oa|exact by_ca);exact by_g)|refine wb ?_)
  exact .one (.tmp rfl (.one (.d (dle_bool (by simp[e1])))))
theorem ok_sameDeeds (l r:List Deed) (hl:l.length≤268435456) (hd:∀ d∈l,d.Sm):FnOk Tryz.prog 37 [.d (encDeeds l),.d (encDeeds r)] (.one (dbool (allB (fun a b=>decide (a=b)) l r))):=by
 refine fnOk_of tbl_ok mixed_ok Tryz.func37 rfl (by kernel_rfl) rfl rfl fun w0 own0=>?_
 by_cases hlen:l.length=r.length
 ·
  try refine wk ?_
  refine CW.loop (fun k=>[(.s 0,.av (.d (encDeeds l))),(.s 1,.av (.d (encDeeds r))),(.s 12,.av (.d (dint l.length))),(.s 13,.av (.d (dint k))),(.nx,.num 0)]) (agree (fun a b=>decide (a=b)) l r) ?_ fun k hk=>?_
  ·
   exact by_less
  ·
   rcases agree_case hlen hk with ⟨h1,h1',a,b,h2,h3,h4⟩|⟨h1,h2⟩|⟨h1,h2,a,b,h3,h4,h5⟩
   ·
    have hc:=ok_sameDeed a b (hd a (List.mem_of_getElem? h2)).r (hd a (List.mem_of_getElem? h2)).w (hd a (List.mem_of_getElem? h2)).c
    rw[show decide (a=b)=true from h4]at hc
    try refine wk ?_
    refine q_loop h1 ?_
    exact by_less
   ·
    try refine wk ?_
    exact .one (.tmp rfl (.one (.d (dle_bool h2.symm))))
   ·
    have hc:=ok_sameDeed a b (hd a (List.mem_of_getElem? h3)).r (hd a (List.mem_of_getElem? h3)).w (hd a (List.mem_of_getElem? h3)).c
    rw[show decide (a=b)=false from h5]at hc
    try refine wk ?_
    exact .one (.tmp rfl (.one (.d (dle_bool h2.symm))))
 ·
  try refine wk ?_
  refine .one (.tmp rfl (.one (.d (dle_bool ?_))))
  cases hb:allB (fun a b=>decide (a=b)) l r
  ·
   rfl
  ·
   exact absurd (allB_len hb) hlen
theorem ok_before (l:List Chain) (k:Str) (b:Int) (hl:l.length≤268435456) (hv:∀ c∈l,c.vs.length≤268435456):FnOk Tryz.prog 51 [.d (encChains l),.d (dstr k),.d (dint b)] (.one (.agg (before l k b).enc)):=by
 refine fnOk_of tbl_ok mixed_ok Tryz.func51 rfl (by kernel_rfl) rfl rfl fun w0 own0=>?_
 try refine wk ?_
 refine CW.loopT (fun t:Nat×Version=>[(.s 1,.av (.d (dstr k))),(.s 2,.av (.d (dint b))),(.s 6,.av (.ptr 0 0)),(.o 0,.ob (.box ((Version.enc ⟨0,false,false,0⟩).map AV.d))),(.s 7,.av (.ptr 1 0)),(.o 1,.ob (.box (t.2.enc.map AV.d))),(.s 13,.av (.d (encChains l))),(.s 14,.av (.d (dint l.length))),(.s 15,.av (.d (dint t.1))),(.nx,.num 2)])
  (fun t=>t.1≤l.length∧beforeGo k b t.2 (l.drop t.1)=before l k b) (fun t=>l.length - t.1) (0,⟨-1,true,false,0⟩) ⟨by omega,rfl⟩ ?_ ?_
 ·
  exact by_less
 ·
  rintro ⟨i,out⟩ ⟨hi,hI⟩
  dsimp only at hi hI ⊢
  rcases drop_case hi with ⟨h1,h2⟩|⟨c,h1,h2,h3⟩
  ·
   rw[h1]at hI
   simp only[beforeGo]at hI
   try refine wk ?_
   rw[← hI]
   exact .one (.cell rfl rfl rfl rfl (.aggd rfl (.refl _)))
  ·
   rw[h1]at hI
   simp only[beforeGo]at hI
   have hcv:=hv c (List.mem_of_getElem? h2)
   try refine wk ?_
   refine CW.loopT (fun t:Nat×Version=>[(.s 1,.av (.d (dstr k))),(.s 2,.av (.d (dint b))),(.s 6,.av (.ptr 0 0)),(.o 0,.ob (.box ((Version.enc ⟨0,false,false,0⟩).map AV.d))),(.s 7,.av (.ptr 1 0)),(.o 1,.ob (.box (t.2.enc.map AV.d))),(.s 13,.av (.d (encChains l))),(.s 14,.av (.d (dint l.length))),(.s 15,.av (.d (dint i))),
     (.s 9,.av (.ptr 2 0)),(.o 2,.ob (.box (c.enc.map AV.d))),(.s 20,.av (.d (encVs c.vs))),(.s 21,.av (.d (dint c.vs.length))),(.s 22,.av (.d (dint t.1))),(.nx,.num 3)])
    (fun t=>t.1≤c.vs.length∧bvs (decide (c.key=k)) b t.2 (c.vs.drop t.1)=bvs (decide (c.key=k)) b out c.vs) (fun t=>c.vs.length - t.1) (0,out) ⟨by omega,rfl⟩ ?_ ?_
   ·
    exact by_less
   ·
    rintro ⟨j,o2⟩ ⟨hj,hJ⟩
    dsimp only at hj hJ ⊢
    rcases drop_case hj with ⟨h5,h6⟩|⟨v,h5,h6,h7⟩
    ·
     rw[h5]at hJ
     simp only[bvs]at hJ
     try refine wk ?_
     refine q_loopT (i+1,o2) ⟨by dsimp only;omega,by rw[hJ];exact hI⟩ (by dsimp only;omega) ?_
     exact by_less
    ·
     rw[h5]at hJ
     simp only[bvs]at hJ
     by_cases h8:c.key=k
     ·
      by_cases h9:v.by_ < b
      ·
       rw[if_pos (by simp[h8,h9])]at hJ
       try refine wk ?_
       refine q_loopT (j+1,v) ⟨by dsimp only;omega,hJ⟩ (by dsimp only;omega) ?_
       exact by_less
      ·
       rw[if_neg (by simp[h9])]at hJ
       try refine wk ?_
       refine q_loopT (j+1,o2) ⟨by dsimp only;omega,hJ⟩ (by dsimp only;omega) ?_
       exact by_less
     ·
      rw[if_neg (by simp[h8])]at hJ
      try refine wk ?_
      refine q_loopT (j+1,o2) ⟨by dsimp only;omega,hJ⟩ (by dsimp only;omega) ?_
      exact by_less
theorem ok_rowsAt (l:List Chain) (b:Int) (hl:l.length≤268435456) (hv:∀ c∈l,c.vs.length≤268435456):FnOk Tryz.prog 67 [.d (encChains l),.d (dint b)] (.tup [encRows (rowsAt l b).1,dbool (rowsAt l b).2]):=by
 refine fnOk_of tbl_ok mixed_ok Tryz.func67 rfl (by kernel_rfl) rfl rfl fun w0 own0=>?_
 try refine wk ?_
 refine CW.stut (stut_promote (i:=6) 70 2) ⟨rfl,rfl,trivial⟩ ?_
 refine CW.loopT (fun t:Nat×List Pair=>[(.s 0,.av (.d (encChains l))),(.s 1,.av (.d (dint b))),(.s 6,.av (.own 0 t.2.length)),(.o 0,.ob (.arr 70 2 (t.2.map Pair.enc))),(.s 10,.av (.d (encChains l))),(.s 11,.av (.d (dint l.length))),(.s 12,.av (.d (dint t.1))),(.nx,.num 1)])
  (fun t=>t.1≤l.length∧t.2.length≤t.1∧rowsAtGo l b t.2 (l.drop t.1)=rowsAt l b) (fun t=>l.length - t.1) (0,[]) ⟨by omega,by simp,rfl⟩ ?_ ?_
 ·
  exact by_less
 ·
  rintro ⟨i,out⟩ ⟨hi,ho,hI⟩
  dsimp only at hi ho hI ⊢
  rcases drop_case hi with ⟨h1,h2⟩|⟨c,h1,h2,h3⟩
  ·
   rw[h1]at hI
   simp only[rowsAtGo]at hI
   try refine wk ?_
   rw[← hI]
   exact .two (.tmp rfl (.one (.own rfl (by simp) (.refl _)))) (.tmp rfl (.one (.d (.refl _))))
  ·
   rw[h1]at hI
   simp only[rowsAtGo]at hI
   have hc:=ok_before l c.key b hl hv
   generalize before l c.key b=v at hc hI
   obtain⟨vb,vm,vh,vn⟩:=v
   dsimp only at hI
   cases vm
   ·
    rw[if_pos rfl]at hI
    try refine wk ?_
    rw[← hI]
    exact .two (.tmp rfl (.one (.d (.nil 2)))) (.tmp rfl (.one (.d (.refl _))))
   ·
    rw[if_neg (by simp)]at hI
    cases vh
    ·
     rw[if_neg (by simp)]at hI
     try refine wk ?_
     refine q_loopT (i+1,out) ⟨by dsimp only;omega,by dsimp only;omega,hI⟩ (by dsimp only;omega) ?_
     exact by_less
    ·
     rw[if_pos rfl]at hI
     try refine wk ?_
     refine q_loopT (i+1,_) ⟨by dsimp only;omega,by dsimp only;simp;omega,hI⟩ (by dsimp only;omega) ?_
     exact by_less
theorem ok_clear (l:List Chain) (b:Int) (hl:l.length≤268435456) (hv:∀ c∈l,c.vs.length≤268435456):FnOk Tryz.prog 66 [.d (encChains l),.d (dint b)] (.one (encChains (clear b l))):=by
 refine fnOk_of tbl_ok mixed_ok Tryz.func66 rfl (by kernel_rfl) rfl rfl fun w0 own0=>?_
 try refine wk ?_
 refine CW.stut (stut_promote (i:=5) 80 2) ⟨rfl,rfl,trivial⟩ ?_
 refine CW.loopT (fun t:Nat×List Chain=>[(.s 1,.av (.d (dint b))),(.s 5,.av (.own 0 t.2.length)),(.o 0,.ob (.arr 80 2 (t.2.map Chain.enc))),(.s 12,.av (.d (encChains l))),(.s 13,.av (.d (dint l.length))),(.s 14,.av (.d (dint t.1))),(.nx,.num 1)])
  (fun t=>t.1≤l.length∧t.2.length≤t.1∧t.2++clear b (l.drop t.1)=clear b l) (fun t=>l.length - t.1) (0,[]) ⟨by omega,by simp,rfl⟩ ?_ ?_
 ·
  exact by_less
 ·
  rintro ⟨i,out⟩ ⟨hi,ho,hI⟩
  dsimp only at hi ho hI ⊢
  rcases drop_case hi with ⟨h1,h2⟩|⟨c,h1,h2,h3⟩
  ·
   rw[h1,clear,List.append_nil]at hI
   try refine wk ?_
   rw[← hI]
   exact .one (.tmp rfl (.one (.own rfl (by simp) (.refl _))))
  ·
   rw[h1,clear]at hI
   have hcv:=hv c (List.mem_of_getElem? h2)
   try refine wk ?_
   refine CW.stut (stut_promote_cell (id:=2) (j:=1) 77 4 rfl) ⟨rfl,rfl,trivial⟩ ?_
   refine CW.loopT (fun t:Nat×List Version=>[(.s 1,.av (.d (dint b))),(.s 5,.av (.own 0 out.length)),(.o 0,.ob (.arr 80 2 (out.map Chain.enc))),(.s 12,.av (.d (encChains l))),(.s 13,.av (.d (dint l.length))),(.s 14,.av (.d (dint i))),
     (.s 7,.av (.ptr 1 0)),(.o 1,.ob (.box (c.enc.map AV.d))),(.s 8,.av (.ptr 2 0)),(.o 2,.ob (.box [.d (dstr c.key),.own 3 t.2.length])),(.o 3,.ob (.arr 77 4 (t.2.map Version.enc))),
     (.s 22,.av (.d (encVs c.vs))),(.s 23,.av (.d (dint c.vs.length))),(.s 24,.av (.d (dint t.1))),(.nx,.num 4)])
    (fun t=>t.1≤c.vs.length∧t.2.length≤t.1∧t.2++clrV b (c.vs.drop t.1)=clrV b c.vs) (fun t=>c.vs.length - t.1) (0,[]) ⟨by omega,by simp,rfl⟩ ?_ ?_
   ·
    exact by_less
   ·
    rintro ⟨j,vs⟩ ⟨hj,hvs,hJ⟩
    dsimp only at hj hvs hJ ⊢
    rcases drop_case hj with ⟨h5,h6⟩|⟨x,h5,h6,h7⟩
    ·
     rw[h5,clrV,List.append_nil]at hJ
     rw[← hJ]at hI
     have hst0:StopX 13:=⟨rfl⟩
     try refine wkS ?_
     clear hst0
     refine Stop.go (CW.stut (stut_freeze_cell (id:=2) (j:=1) (i:=3) rfl (by simp)) ⟨rfl,rfl,trivial⟩ ?_)
     cases vs with
     |nil =>
      rw[if_pos rfl]at hI
      try refine wk ?_
      refine q_loopT (i+1,out) ⟨by dsimp only;omega,by dsimp only;omega,hI⟩ (by dsimp only;omega) ?_
      exact by_less
     |cons v0 vs =>
      rw[if_neg (by simp)]at hI
      try refine wk ?_
      refine q_loopT (i+1,out++[⟨c.key,v0::vs⟩]) ⟨by dsimp only;omega,by dsimp only;simp;omega,by rw[← hI];simp⟩ (by dsimp only;omega) ?_
      exact by_less
    ·
     rw[h5,clrV]at hJ
     have hlast:(later b (c.vs.drop (j+1))=false∧(c.vs.length≤j+1∨∃ y,c.vs[j+1]? = some y∧j+1 < c.vs.length∧¬ y.by_ < b)) ∨
       (later b (c.vs.drop (j+1))=true∧∃ y,c.vs[j+1]? = some y∧j+1 < c.vs.length∧y.by_ < b):=by
      rcases drop_case (show j+1≤c.vs.length by omega) with ⟨e1,e2⟩|⟨y,e1,e2,e3⟩
      ·
       exact .inl ⟨by rw[e1];rfl,.inl (by omega)⟩
      ·
       by_cases e4:y.by_ < b
       ·
        exact .inr ⟨by rw[e1];simp[later,e4],y,e2,e3,e4⟩
       ·
        exact .inl ⟨by rw[e1];simp[later,e4],.inr ⟨y,e2,e3,e4⟩⟩
     have hst0:StopR 9:=⟨rfl⟩
     try refine wkS ?_
     clear hst0
     refine Stop.cutk [(.s 11,.av (.d (dbool (later b (c.vs.drop (j+1))))))] [.s 1,.s 5,.o 0,.s 12,.s 13,.s 14,.s 7,.o 1,.s 8,.o 2,.o 3,.s 22,.s 23,.s 24,.s 10,.o 4,.nx] ?_ ?_
     ·
      rcases hlast with ⟨e0,e1|⟨y,e1,e2,e3⟩⟩|⟨e0,y,e1,e2,e3⟩
      ·
       rw[e0]
       try refine wk ?_
       refine q_cut ?_
       exact by_less
      ·
       rw[e0]
       try refine wk ?_
       refine q_cut ?_
       exact by_less
      ·
       rw[e0]
       try refine wk ?_
       refine q_cut ?_
       exact by_less
     generalize hL:later b (c.vs.drop (j+1))=L at hJ ⊢
     have hold:old b (c.vs.drop (j+1)) x=((L&&decide (x.by_ < b)) || (decide (x.by_ < b)&&(x.made && !x.has))):=by rw[old,hL]
     clear hlast hL h5
     obtain⟨xb,xm,xh,xn⟩:=x
     dsimp only at hold
     have hkeep:old b (c.vs.drop (j+1)) ⟨xb,xm,xh,xn⟩=false→(vs++[⟨xb,xm,xh,xn⟩])++clrV b (c.vs.drop (j+1))=clrV b c.vs:=fun e=>by
      rw[if_neg (by rw[e];simp)]at hJ
      rw[← hJ];simp
     have hgone:old b (c.vs.drop (j+1)) ⟨xb,xm,xh,xn⟩=true→vs++clrV b (c.vs.drop (j+1))=clrV b c.vs:=fun e=>by
      rw[if_pos e]at hJ
      exact hJ
     clear hJ
     by_cases e1:xb < b
     ·
      cases L
      ·
       cases xm
       ·
        try refine wk ?_
        refine q_loopT (j+1,vs++[⟨xb,false,xh,xn⟩]) ⟨by dsimp only;omega,by dsimp only;simp;omega,hkeep (by simp[hold])⟩ (by dsimp only;omega) ?_
        exact by_less
       ·
        cases xh
        ·
         try refine wk ?_
         refine q_loopT (j+1,vs) ⟨by dsimp only;omega,by dsimp only;omega,hgone (by simp[hold,e1])⟩ (by dsimp only;omega) ?_
         exact by_less
        ·
         try refine wk ?_
         refine q_loopT (j+1,vs++[⟨xb,true,true,xn⟩]) ⟨by dsimp only;omega,by dsimp only;simp;omega,hkeep (by simp[hold])⟩ (by dsimp only;omega) ?_
         exact by_less
      ·
       try refine wk ?_
       refine q_loopT (j+1,vs) ⟨by dsimp only;omega,by dsimp only;omega,hgone (by simp[hold,e1])⟩ (by dsimp only;omega) ?_
       exact by_less
     ·
      cases L
      ·
       try refine wk ?_
       refine q_loopT (j+1,vs++[⟨xb,xm,xh,xn⟩]) ⟨by dsimp only;omega,by dsimp only;simp;omega,hkeep (by simp[hold,e1])⟩ (by dsimp only;omega) ?_
       exact by_less
      ·
       try refine wk ?_
       refine q_loopT (j+1,vs++[⟨xb,xm,xh,xn⟩]) ⟨by dsimp only;omega,by dsimp only;simp;omega,hkeep (by simp[hold,e1])⟩ (by dsimp only;omega) ?_
       exact by_less
theorem ok_sameChains (l r:List Chain) (hl:l.length≤268435456) (hs:∀ c∈l,c.vs.length≤268435456):FnOk Tryz.prog 36 [.d (encChains l),.d (encChains r)] (.one (dbool (allB sameC l r))):=by
 refine fnOk_of tbl_ok mixed_ok Tryz.func36 rfl (by kernel_rfl) rfl rfl fun w0 own0=>?_
 by_cases hlen:l.length=r.length
 ·
  try refine wk ?_
  refine CW.loop (fun k=>[sd 0 (encChains l),sd 1 (encChains r),sd 13 (dint l.length),sd 14 (dint k),nxt 0]) (agree sameC l r) ?_ fun k hk=>?_
  ·
   exact by_less
  ·
   rcases agree_case hlen hk with ⟨h1,h1',a,b,h2,h3,h4⟩|⟨h1,h2⟩|⟨h1,h2,a,b,h3,h4,h5⟩
   ·
    simp only[sameC,Bool.and_eq_true,decide_eq_true_eq]at h4
    obtain⟨h4,h6⟩:=h4
    have hvl:=allB_len h6
    have hav:=hs a (List.mem_of_getElem? h2)
    try refine wk ?_
    refine CW.loop (fun j=>[sd 0 (encChains l),sd 1 (encChains r),sd 13 (dint l.length),sd 14 (dint k),sd 5 (dint k),sd 48 (dint a.vs.length),sd 49 (dint j),nxt 0]) (agree (fun x y=>decide (x=y)) a.vs b.vs) ?_ fun j hj=>?_
    ·
     exact by_less
    ·
     rcases agree_case hvl hj with ⟨g1,g1',x,y,g2,g3,g4⟩|⟨g1,g2⟩|⟨g1,g2,x,y,g3,g4,g5⟩
     ·
      replace g4:x=y:=by simpa using g4
      repeat(first|refine wa ?_|((with_reducible apply s5);(first|((with_reducible apply a_agg);exact neq_version x y;(iterate 5 exact rfl))|exact by_oa|exact by_ca);exact by_g)|refine wb ?_)
      refine q_loop g1 ?_
      exact by_less
     ·
      try refine wk ?_
      refine q_loop h1 ?_
      exact by_less
     ·
      rw[g2]at h6;cases h6
   ·
    try refine wk ?_
    exact .one (.tmp rfl (.one (.d (dle_bool h2.symm))))
   ·
    by_cases g1:a.key=b.key
    ·
     by_cases g2:a.vs.length=b.vs.length
     ·
      have h6:allB (fun x y=>decide (x=y)) a.vs b.vs=false:=by simpa[sameC,g1] using h5
      have hav:=hs a (List.mem_of_getElem? h3)
      try refine wk ?_
      refine CW.loop (fun j=>[sd 0 (encChains l),sd 1 (encChains r),sd 13 (dint l.length),sd 14 (dint k),sd 5 (dint k),sd 48 (dint a.vs.length),sd 49 (dint j),nxt 0]) (agree (fun x y=>decide (x=y)) a.vs b.vs) ?_ fun j hj=>?_
      ·
       exact by_less
      ·
       rcases agree_case g2 hj with ⟨e1,e1',x,y,e2,e3,e4⟩|⟨e1,e2⟩|⟨e1,e2,x,y,e3,e4,e5⟩
       ·
        replace e4:x=y:=by simpa using e4
        repeat(first|refine wa ?_|((with_reducible apply s5);(first|((with_reducible apply a_agg);exact neq_version x y;(iterate 5 exact rfl))|exact by_oa|exact by_ca);exact by_g)|refine wb ?_)
        refine q_loop e1 ?_
        exact by_less
       ·
        rw[h6]at e2;cases e2
       ·
        replace e5:¬ x=y:=by simpa using e5
        repeat(first|refine wa ?_|((with_reducible apply s5);(first|((with_reducible apply a_agg);exact neq_version x y;(iterate 5 exact rfl))|exact by_oa|exact by_ca);exact by_g)|refine wb ?_)
        exact .one (.tmp rfl (.one (.d (dle_bool h2.symm))))
     ·
      try refine wk ?_
      exact .one (.tmp rfl (.one (.d (dle_bool h2.symm))))
    ·
     try refine wk ?_
     exact .one (.tmp rfl (.one (.d (dle_bool h2.symm))))
 ·
  try refine wk ?_
  refine .one (.tmp rfl (.one (.d (dle_bool ?_))))
  cases hb:allB sameC l r
  ·
   rfl
  ·
   exact absurd (allB_len hb) hlen
theorem ok_new (l:List Pair) (hl:l.length≤134217728):FnOk Tryz.prog 8 [.d (encRows l)] (.one (.agg (newE l).enc)):=by
 refine fnOk_of tbl_ok mixed_ok Tryz.func8 rfl (by kernel_rfl) rfl rfl fun w0 own0=>?_
 try refine wk ?_
 refine CW.stut (stut_promote_cell (id:=1) (j:=0) 80 2 rfl) ⟨rfl,rfl,trivial⟩ ?_
 refine CW.loopT (fun i:Nat=>[sd 7 (encRows l),sd 8 (dint l.length),sd 9 (dint i),sp 2 0,ob 0 noE.enc0,sp 3 1,(.o 1,.ob (.box [.own 2 i,.d (.v nilS),.d (.v nilS),.d (.v nilS),.d (dint 0)])),
   oa 2 80 2 ((l.take i).map fun p=>(rowChain p).enc),nxt 3]) (fun i=>i≤l.length) (fun i=>l.length - i) 0 (by omega) ?_ ?_
 ·
  exact by_less
 ·
  rintro i hi
  rcases drop_case hi with ⟨h1,h2⟩|⟨p,h1,h2,h3⟩
  ·
   have h4:(l.take i).map (fun p=>(rowChain p).enc)=(l.map rowChain).map Chain.enc:=by rw[h2,List.take_length];simp
   have hst0:StopR 7:=⟨rfl⟩
   try refine wkS ?_
   clear hst0
   refine Stop.go (CW.stut (stut_freeze_cell (id:=1) (j:=0) (i:=2) rfl (by simp;omega)) ⟨rfl,rfl,trivial⟩ ?_)
   try refine wk ?_
   exact .one (.cell rfl rfl rfl rfl (.aggd (ds:=[.sl 2 ((l.take i).map fun p=>(rowChain p).enc),.v nilS,.v nilS,.v nilS,dint 0]) rfl
    (DLes.agg (.cons (dle_eq (by rw[h4];rfl)) (.cons (dle_nil 3) (.cons (dle_nil 1) (.cons (dle_nil 5) (.cons (.refl _) .nil))))))))
  ·
   have h4:(l.take i).map (fun p=>(rowChain p).enc)++[(rowChain p).enc]=(l.take (i+1)).map fun p=>(rowChain p).enc:=by rw[List.take_add_one,h2];simp
   try refine wk ?_
   refine q_loopT (i+1) (by omega) (by omega) ?_
   exact by_less
theorem ok_mark (e:Engine) (hs:e.state.length≤134217728):FnOk Tryz.prog 31 [.d (.agg e.enc)] (.one (dint (markN e.state))):=by
 refine fnOk_of tbl_ok mixed_ok Tryz.func31 rfl (by kernel_rfl) rfl rfl fun w0 own0=>?_
 try refine wk ?_
 refine CW.loopT (fun i:Nat=>[sp 1 0,ob 0 e.enc,sd 3 (dint i),nxt 1]) (fun i=>i≤e.state.length∧i+markN (e.state.drop i)=markN e.state) (fun i=>e.state.length - i) 0 ⟨by omega,by simp⟩ ?_ ?_
 ·
  exact by_less
 ·
  rintro i ⟨hi,hI⟩
  rcases drop_case hi with ⟨h1,h2⟩|⟨s,h1,h2,h3⟩
  ·
   rw[h1]at hI
   simp only[markN]at hI
   try refine wk ?_
   exact .one (.tmp rfl (.one (.d (dle_int (by omega)))))
  ·
   rw[h1]at hI
   simp only[markN]at hI
   by_cases h4:s=1
   ·
    rw[if_pos h4]at hI
    try refine wk ?_
    refine q_loopT (i+1) ⟨by omega,by omega⟩ (by omega) ?_
    exact by_less
   ·
    rw[if_neg h4]at hI
    try refine wk ?_
    exact .one (.tmp rfl (.one (.d (dle_int (by omega)))))
theorem markN_le:∀ l:List Int,markN l≤l.length
 | []=>by simp[markN]
 |s::r=>by
  have:=markN_le r
  simp only[markN]
  split <;> simp <;> omega
theorem ok_clearE (e:Engine) (hs:e.Sm) (h1:e.state.length=e.deeds.length) (h2:e.ends.length=e.deeds.length):FnOk Tryz.prog 29 [.d (.agg e.enc)] (.one (.agg (clearE e).enc)):=by
 refine fnOk_of tbl_ok mixed_ok Tryz.func29 rfl (by kernel_rfl) rfl rfl fun w0 own0=>?_
 have hm:=ok_mark e hs.s
 have hml:=markN_le e.state
 have hd:=hs.d
 have hb:=hs.b
 have hc:=ok_clear e.chains (e.base+markN e.state) (by have:=hs.c;omega) (fun c h=>by have:=hs.v c h;omega)
 try refine wk ?_
 exact .one (.cell rfl rfl rfl rfl (.aggd (ds:=[encChains (clear (e.base+markN e.state) e.chains),.sl 3 ((e.deeds.map Deed.enc).drop (markN e.state)),.sl 1 ((e.state.map encInt1).drop (markN e.state)),.sl 5 ((e.ends.map Done.enc).drop (markN e.state)),dint (e.base+markN e.state)]) rfl
  (dle_eq (by simp[clearE,Engine.enc,encDeeds,encInts,encEnds]))))
theorem ok_seen (e:Engine) (at_:Int) (hs:e.Sm):FnOk Tryz.prog 30 [.d (.agg e.enc),.d (dint at_)] (.tup [encRows (seenE e at_).1,dint (seenE e at_).2]):=by
 refine fnOk_of tbl_ok mixed_ok Tryz.func30 rfl (by kernel_rfl) rfl rfl fun w0 own0=>?_
 have hd:=hs.d
 have hb:=hs.b
 have hc:=ok_rowsAt e.chains (e.base+at_) (by have:=hs.c;omega) (fun c h=>by have:=hs.v c h;omega)
 unfold seenE
 by_cases h1:at_ < 0
 ·
  rw[if_pos (.inl h1)]
  try refine wk ?_
  exact .two (.tmp rfl (.one (.d (.nil 2)))) (.tmp rfl (.one (.d (.refl _))))
 ·
  by_cases h2:(e.deeds.length:Int) < at_
  ·
   rw[if_pos (.inr h2)]
   try refine wk ?_
   exact .two (.tmp rfl (.one (.d (.nil 2)))) (.tmp rfl (.one (.d (.refl _))))
  ·
   rw[if_neg (by omega)]
   cases h3:(rowsAt e.chains (e.base+at_)).2
   ·
    rw[if_neg (by simp)]
    rw[h3]at hc
    try refine wk ?_
    exact .two (.tmp rfl (.one (.d (.nil 2)))) (.tmp rfl (.one (.d (.refl _))))
   ·
    rw[if_pos rfl]
    rw[h3]at hc
    try refine wk ?_
    exact .two (.tmp rfl (.one (.d (.refl _)))) (.tmp rfl (.one (.d (.refl _))))
theorem ok_sameE (a b:Engine) (hs:a.Sm):FnOk Tryz.prog 6 [.d (.agg a.enc),.d (.agg b.enc)] (.one (dbool (sameE a b))):=by
 refine fnOk_of tbl_ok mixed_ok Tryz.func6 rfl (by kernel_rfl) rfl rfl fun w0 own0=>?_
 have c1:=ok_sameChains a.chains b.chains (by have:=hs.c;omega) (fun c h=>by have:=hs.v c h;omega)
 have c2:=ok_sameDeeds a.deeds b.deeds (by have:=hs.d;omega) hs.dd
 have c3:=ok_SameInts a.state b.state (by have:=hs.s;omega)
 have c4:=ok_sameEnds a.ends b.ends (by have:=hs.n;omega)
 unfold sameE
 cases h1:allB sameC a.chains b.chains
 ·
  rw[h1]at c1
  try refine wk ?_
  exact .one (.tmp rfl (.one (.d (.refl _))))
 ·
  rw[h1]at c1
  cases h2:allB (fun x y=>decide (x=y)) a.deeds b.deeds
  ·
   rw[h2]at c2
   try refine wk ?_
   exact .one (.tmp rfl (.one (.d (.refl _))))
  ·
   rw[h2]at c2
   cases h3:allB (fun x y=>decide (x=y)) a.state b.state
   ·
    rw[h3]at c3
    try refine wk ?_
    exact .one (.tmp rfl (.one (.d (.refl _))))
   ·
    rw[h3]at c3
    cases h4:allB (fun x y=>decide (x=y)) a.ends b.ends
    ·
     rw[h4]at c4
     try refine wk ?_
     exact .one (.tmp rfl (.one (.d (.refl _))))
    ·
     rw[h4]at c4
     try refine wk ?_
     exact .one (.tmp rfl (.one (.d (.refl _))))
set_option maxHeartbeats 8000000
theorem ok_addE (e:Engine) (l:List Deed) (N:Nat) (hz:Engine.Sz e N) (hd:∀ d∈l,d.Sm) (hl:l.length≤10000000) (hN:N+5*l.length≤100000000) :
  FnOk Tryz.prog 11 [.d (.agg e.enc),.d (encDeeds l)] (.tup [.agg (addE e l).1.enc,dint (addE e l).2]):=by
 refine fnOk_of tbl_ok mixed_ok Tryz.func11 rfl (by kernel_rfl) rfl rfl fun w0 own0=>?_
 try refine wk ?_
 refine CW.loopT (fun i:Nat=>[sd 1 (encDeeds l),sp 2 0,ob 0 e.enc,sp 4 1,ob 1 noE.enc0,sd 5 (dint 0),sd 13 (encDeeds l),sd 14 (dint l.length),sd 15 (dint i),nxt 2])
  (fun i=>i≤l.length∧wrongs (l.drop i)=wrongs l) (fun i=>l.length - i) 0 ⟨by omega,rfl⟩ ?_ ?_
 ·
  exact by_less
 ·
  rintro i ⟨hi,hI⟩
  rcases drop_case hi with ⟨h1,h2⟩|⟨d,h1,h2,h3⟩
  ·
   rw[h1]at hI
   have hw0:wrongs l=0:=hI.symm
   have hres:addE e l=(addAll e l,0):=by rw[addE,if_pos hw0]
   clear h1 hI
   rw[hres]
   try refine wk ?_
   refine CW.loopT (fun t:Nat×Engine=>[sp 2 0,ob 0 t.2.enc,sp 4 1,ob 1 noE.enc0,sd 5 (dint 0),sd 26 (encDeeds l),sd 27 (dint l.length),sd 28 (dint t.1),nxt 2])
    (fun t=>t.1≤l.length∧Engine.Sz t.2 (N+5*t.1)∧addAll t.2 (l.drop t.1)=addAll e l) (fun t=>l.length - t.1) (0,e) ⟨by omega,hz,rfl⟩ ?_ ?_
   ·
    exact by_less
   ·
    rintro ⟨i,e'⟩ ⟨hi,hz',hI⟩
    dsimp only at hi hz' hI ⊢
    rcases drop_case hi with ⟨h1,h2⟩|⟨d,h1,h2,h3⟩
    ·
     rw[h1]at hI
     simp only[addAll]at hI
     try refine wk ?_
     rw[← hI]
     exact .two (.cell rfl rfl rfl rfl (.aggd (ds:=e'.enc) rfl (.refl _))) (.tmp rfl (.one (.d (.refl _))))
    ·
     rw[h1]at hI
     simp only[addAll]at hI
     have hdm:=List.mem_of_getElem? h2
     have hds:=hd d hdm
     have hww:=(wrong_writes (wrongs_mem hw0 d hdm)).2.1
     have hz2:=add1_sz hz' hds hww
     obtain⟨chs,dds,sts,ens,bs⟩:=e'
     have hzc:=hz'.c
     have hzv:=hz'.v
     have hzd:=hz'.d
     have hzs:=hz'.s
     have hzn:=hz'.n
     have hzb:=hz'.b
     dsimp only at hzc hzv hzd hzs hzn hzb
     try refine wk ?_
     refine CW.loopT (fun t:Nat×List Chain=>[sp 2 0,ob 0 (Engine.enc ⟨t.2,dds,sts,ens,bs⟩),sp 4 1,ob 1 noE.enc0,sd 5 (dint 0),sd 26 (encDeeds l),sd 27 (dint l.length),sd 28 (dint i),sp 10 2,ob 2 d.enc,sd 33 (encStrs d.writes),sd 34 (dint d.writes.length),sd 35 (dint t.1),nxt 3])
      (fun t=>t.1≤d.writes.length∧(t.2.length≤N+5*i+t.1∧∀ c∈t.2,c.vs.length≤N+5*i+t.1)∧addKeys (bs+dds.length) t.2 (d.writes.drop t.1)=addKeys (bs+dds.length) chs d.writes) (fun t=>d.writes.length - t.1) (0,chs) ⟨by omega,⟨hzc,hzv⟩,rfl⟩ ?_ ?_
     ·
      exact by_less
     ·
      rintro ⟨j,cs⟩ ⟨hj,⟨hcl,hcv⟩,hJ⟩
      dsimp only at hj hcl hcv hJ ⊢
      rcases drop_case hj with ⟨g1,g2⟩|⟨k,g1,g2,g3⟩
      ·
       rw[g1]at hJ
       simp only[addKeys]at hJ
       subst hJ
       have hst0:StopR 17:=⟨rfl⟩
       try refine wkS ?_
       clear hst0
       refine Stop.go (CW.stut (stut_freeze_cell (id:=0) (j:=1) (i:=3) rfl (by simp)) ⟨rfl,rfl,trivial⟩ ?_)
       have hst0:StopX 18:=⟨rfl⟩
       try refine wkS ?_
       clear hst0
       refine Stop.go (CW.stut (stut_freeze_cell (id:=0) (j:=2) (i:=4) rfl (by simp)) ⟨rfl,rfl,trivial⟩ ?_)
       have hst0:StopX 19:=⟨rfl⟩
       try refine wkS ?_
       clear hst0
       refine Stop.go (CW.stut (stut_freeze_cell (id:=0) (j:=3) (i:=5) rfl (by simp)) ⟨rfl,rfl,trivial⟩ ?_)
       have hbox:[AV.d (encChains (addKeys (bs+dds.length) chs d.writes)),AV.d (.sl 3 (([]++dds.map Deed.enc)++[d.enc])),AV.d (.sl 1 (([]++sts.map encInt1)++[[dint 0]])),AV.d (.sl 5 (([]++ens.map Done.enc)++[done0.enc])),AV.d (dint bs)]
         = (add1 ⟨chs,dds,sts,ens,bs⟩ d).enc.map AV.d:=by
        simp[Engine.enc,add1,encDeeds,encInts,encEnds,encInt1]
       try refine wk ?_
       refine q_loopT (i+1,add1 ⟨chs,dds,sts,ens,bs⟩ d) ⟨by dsimp only;omega,by dsimp only;rw[show N+5*(i+1)=N+5*i+5 by omega];exact hz2,hI⟩ (by dsimp only;omega) ?_
       exact by_less
      ·
       rw[g1]at hJ
       simp only[addKeys]at hJ
       have hlen:((dds.map Deed.enc).length:Int)=dds.length:=by simp
       have ca:FnOk Tryz.prog 44 [.d (encChains cs),.d (dstr k),.d (dint (bs+((dds.map Deed.enc).length:Int)))] (.one (encChains (addC cs k (bs+dds.length)))):=by
        rw[hlen]
        exact ok_add cs k _ (by omega) (fun c hc=>by have:=hcv c hc;omega)
       repeat(first|refine wa ?_|((with_reducible apply s5);(first|exact a_call ca rfl by_sub|exact by_oa|exact by_ca);exact by_g)|refine wb ?_)
       refine q_loopT (j+1,addC cs k (bs+dds.length)) ⟨by dsimp only;omega,⟨by have:=addC_len cs k (bs+dds.length);dsimp only;omega,fun c hc=>by have:=addC_vs hcv c hc;dsimp only;omega⟩,hJ⟩ (by dsimp only;omega) ?_
       exact by_less
  ·
   rw[h1]at hI
   simp only[wrongs]at hI
   have hds:=hd d (List.mem_of_getElem? h2)
   have hc:=ok_wrongDeed d hds.r hds.w hds.c hds.rk hds.wk
   by_cases h4:wrongDeed d=0
   ·
    rw[if_pos h4]at hI
    try refine wk ?_
    refine q_loopT (i+1) ⟨by omega,hI⟩ (by omega) ?_
    exact by_less
   ·
    rw[if_neg h4]at hI
    have hres:addE e l=(noE,wrongs l):=by rw[addE,if_neg (by rw[← hI];exact h4)]
    rw[hres]
    try refine wk ?_
    exact .two (.cell rfl rfl rfl rfl (.aggd (ds:=noE.enc0) rfl (DLes.agg (.cons (dle_nil 2) (.cons (dle_nil 3) (.cons (dle_nil 1) (.cons (dle_nil 5) (.cons (.refl _) .nil)))))))) (.tmp rfl (.one (.d (dle_int hI))))
set_option maxHeartbeats 4000000
theorem ok_set (l:List Chain) (k:Str) (v:Version) (hl:l.length≤268435456) (hv:∀ c∈l,c.vs.length≤268435456):FnOk Tryz.prog 65 [.d (encChains l),.d (dstr k),.d (.agg v.enc)] (.one (encChains (setChains l k v))):=by
 refine fnOk_of tbl_ok mixed_ok Tryz.func65 rfl (by kernel_rfl) rfl rfl fun w0 own0=>?_
 try refine wk ?_
 refine CW.stut (stut_promote (i:=7) 80 2) ⟨rfl,rfl,trivial⟩ ?_
 refine CW.loopT (fun t:Nat×List Chain=>[(.s 1,.av (.d (dstr k))),(.s 5,.av (.ptr 0 0)),(.o 0,.ob (.box (v.enc.map AV.d))),(.s 7,.av (.own 1 t.2.length)),(.o 1,.ob (.arr 80 2 (t.2.map Chain.enc))),(.s 13,.av (.d (encChains l))),(.s 14,.av (.d (dint l.length))),(.s 15,.av (.d (dint t.1))),(.nx,.num 2)])
  (fun t=>t.1≤l.length∧t.2.length≤t.1∧t.2++(l.drop t.1).map (setC k v)=setChains l k v) (fun t=>l.length - t.1) (0,[]) ⟨by omega,by simp,rfl⟩ ?_ ?_
 ·
  exact by_less
 ·
  rintro ⟨i,out⟩ ⟨hi,ho,hI⟩
  dsimp only at hi ho hI ⊢
  rcases drop_case hi with ⟨h1,h2⟩|⟨c,h1,h2,h3⟩
  ·
   rw[h1,List.map_nil,List.append_nil]at hI
   try refine wk ?_
   rw[← hI]
   exact .one (.tmp rfl (.one (.own rfl (by simp) (.refl _))))
  ·
   rw[h1,List.map_cons]at hI
   have hcv:=hv c (List.mem_of_getElem? h2)
   try refine wk ?_
   refine CW.stut (stut_promote_cell (id:=3) (j:=1) 77 4 rfl) ⟨rfl,rfl,trivial⟩ ?_
   refine CW.loopT (fun t:Nat×List Version=>[(.s 1,.av (.d (dstr k))),(.s 5,.av (.ptr 0 0)),(.o 0,.ob (.box (v.enc.map AV.d))),(.s 7,.av (.own 1 out.length)),(.o 1,.ob (.arr 80 2 (out.map Chain.enc))),(.s 13,.av (.d (encChains l))),(.s 14,.av (.d (dint l.length))),(.s 15,.av (.d (dint i))),
     (.s 9,.av (.ptr 2 0)),(.o 2,.ob (.box (c.enc.map AV.d))),(.s 10,.av (.ptr 3 0)),(.o 3,.ob (.box [.d (dstr c.key),.own 4 t.2.length])),(.o 4,.ob (.arr 77 4 (t.2.map Version.enc))),
     (.s 23,.av (.d (encVs c.vs))),(.s 24,.av (.d (dint c.vs.length))),(.s 25,.av (.d (dint t.1))),(.nx,.num 5)])
    (fun t=>t.1≤c.vs.length∧t.2.length≤t.1∧t.2++(c.vs.drop t.1).map (setV (decide (c.key=k)) v)=c.vs.map (setV (decide (c.key=k)) v)) (fun t=>c.vs.length - t.1) (0,[]) ⟨by omega,by simp,rfl⟩ ?_ ?_
   ·
    exact by_less
   ·
    rintro ⟨j,vs⟩ ⟨hj,hvs,hJ⟩
    dsimp only at hj hvs hJ ⊢
    rcases drop_case hj with ⟨h5,h6⟩|⟨x,h5,h6,h7⟩
    ·
     rw[h5,List.map_nil,List.append_nil]at hJ
     have hst0:StopX 13:=⟨rfl⟩
     try refine wkS ?_
     clear hst0
     refine Stop.go (CW.stut (stut_freeze_cell (id:=3) (j:=1) (i:=4) rfl (by simp)) ⟨rfl,rfl,trivial⟩ ?_)
     try refine wk ?_
     refine q_loopT (i+1,out++[setC k v c]) ⟨by dsimp only;omega,by dsimp only;simp;omega,by rw[← hI];simp⟩ (by dsimp only;omega) ?_
     rw[show setC k v c=⟨c.key,vs⟩ by rw[setC,hJ]]
     exact by_less
    ·
     rw[h5,List.map_cons]at hJ
     by_cases h8:c.key=k
     ·
      by_cases h9:x.by_=v.by_
      ·
       rw[setV,if_pos ⟨by simp[h8],h9⟩]at hJ
       try refine wk ?_
       refine q_loopT (j+1,vs++[v]) ⟨by dsimp only;omega,by dsimp only;simp;omega,by rw[← hJ];simp⟩ (by dsimp only;omega) ?_
       exact by_less
      ·
       rw[setV,if_neg (fun h=>h9 h.2)]at hJ
       try refine wk ?_
       refine q_loopT (j+1,vs++[x]) ⟨by dsimp only;omega,by dsimp only;simp;omega,by rw[← hJ];simp⟩ (by dsimp only;omega) ?_
       exact by_less
     ·
      rw[setV,if_neg (fun h=>h8 (by simpa using h.1))]at hJ
      try refine wk ?_
      refine q_loopT (j+1,vs++[x]) ⟨by dsimp only;omega,by dsimp only;simp;omega,by rw[← hJ];simp⟩ (by dsimp only;omega) ?_
      exact by_less
def orIn (h:Bool) (l:List Str) (s:Str):Bool:=match l with
 | []=>h
 |x::l=>orIn (h || decide (x=s)) l s
theorem orIn_eq:∀ {l:List Str}{h:Bool}{s:Str},orIn h l s=(h || isIn l s)
 | [],h,s=>by simp[orIn,isIn]
 |x::l,h,s=>by
  simp only[orIn,orIn_eq (l:=l),isIn]
  by_cases e:x=s <;> simp[e]
theorem ok_keys (d:Deed) (h1:d.reads.length≤268435456) (h2:d.writes.length≤268435456):FnOk Tryz.prog 18 [.d (.agg d.enc)] (.one (encStrs (keysD d))):=by
 refine fnOk_of tbl_ok mixed_ok Tryz.func18 rfl (by kernel_rfl) rfl rfl fun w0 own0=>?_
 have hsum:(d.reads++d.writes).length≤536870912:=by simp;omega
 try refine wk ?_
 refine CW.stut (stut_freeze (i:=15) (id:=1) (n:=(0+(d.reads.map encStr1).length)+(d.writes.map encStr1).length) (e:=9) (k:=1) (rows:=([]++d.reads.map encStr1)++d.writes.map encStr1) (by simp)) ⟨rfl,rfl,trivial⟩ ?_
 refine CW.stut (stut_promote (i:=3) 9 1) ⟨rfl,rfl,trivial⟩ ?_
 refine CW.loopT (fun t:Nat×List Str=>[sd 15 (encStrs (d.reads++d.writes)),sd 16 (dint (d.reads++d.writes).length),sd 17 (dint t.1),so 3 2 t.2.length,oa 2 9 1 (t.2.map encStr1),nxt 3])
  (fun t=>t.1≤(d.reads++d.writes).length∧t.2.length≤t.1∧keysGo' t.2 ((d.reads++d.writes).drop t.1)=keysD d) (fun t=>(d.reads++d.writes).length - t.1) (0,[]) ⟨by omega,by simp,rfl⟩ ?_ ?_
 ·
  have e1:([]++d.reads.map encStr1)++d.writes.map encStr1=(d.reads++d.writes).map encStr1:=by simp
  exact by_less
 ·
  generalize d.reads++d.writes=l at hsum
  rintro ⟨i,out⟩ ⟨hi,ho,hI⟩
  dsimp only at hi ho hI ⊢
  rcases drop_case hi with ⟨e1,e2⟩|⟨k,e1,e2,e3⟩
  ·
   rw[e1]at hI
   simp only[keysGo']at hI
   try refine wk ?_
   exact .one (.tmp rfl (.one (.own rfl (by simp) (dle_eq (by rw[← hI];rfl)))))
  ·
   rw[e1]at hI
   simp only[keysGo']at hI
   try refine wk ?_
   refine CW.loopT (fun t:Nat×Bool=>[sd 15 (encStrs l),sd 16 (dint l.length),sd 17 (dint i),so 3 2 out.length,oa 2 9 1 (out.map encStr1),sd 5 (dstr k),sd 6 (dbool t.2),so 21 2 out.length,sd 22 (dint out.length),sd 23 (dint t.1),nxt 3])
    (fun t=>t.1≤out.length∧orIn t.2 (out.drop t.1) k=isIn out k) (fun t=>out.length - t.1) (0,false) ⟨by omega,by rw[orIn_eq];simp⟩ ?_ ?_
   ·
    exact by_less
   ·
    rintro ⟨j,h⟩ ⟨hj,hJ⟩
    dsimp only at hj hJ ⊢
    rcases drop_case hj with ⟨g1,g2⟩|⟨x,g1,g2,g3⟩
    ·
     rw[g1]at hJ
     simp only[orIn]at hJ
     rw[← hJ]at hI
     cases h
     ·
      rw[if_neg (by simp)]at hI
      try refine wk ?_
      refine q_loopT (i+1,out++[k]) ⟨by dsimp only;omega,by dsimp only;simp;omega,hI⟩ (by dsimp only;omega) ?_
      exact by_less
     ·
      rw[if_pos rfl]at hI
      try refine wk ?_
      refine q_loopT (i+1,out) ⟨by dsimp only;omega,by dsimp only;omega,hI⟩ (by dsimp only;omega) ?_
      exact by_less
    ·
     rw[g1]at hJ
     simp only[orIn]at hJ
     cases h
     ·
      rw[Bool.false_or]at hJ
      try refine wk ?_
      refine q_loopT (j+1,decide (x=k)) ⟨by dsimp only;omega,hJ⟩ (by dsimp only;omega) ?_
      exact by_less
     ·
      rw[Bool.true_or]at hJ
      try refine wk ?_
      refine q_loopT (j+1,true) ⟨by dsimp only;omega,hJ⟩ (by dsimp only;omega) ?_
      exact by_less
theorem keysGo_len:∀ (l out:List Str),(keysGo' out l).length≤out.length+l.length
 | [],out=>by simp[keysGo']
 |k::r,out=>by
  have:=keysGo_len r (if isIn out k=true then out else out++[k])
  simp only[keysGo']
  split at this <;> simp_all <;> omega
theorem keysD_len {d:Deed}(h:d.Sm):(keysD d).length≤536870912:=by
 have:=keysGo_len (d.reads++d.writes) []
 have h1:=h.r
 have h2:=h.w
 simp at this
 unfold keysD
 omega
theorem ok_needs (e:Engine) (at_:Nat) (d:Deed) (hs:e.Sm) (hd:e.deeds[at_]? = some d):FnOk Tryz.prog 15 [.d (.agg e.enc),.d (dint at_)] (.one (encInts (needs e at_ d))):=by
 refine fnOk_of tbl_ok mixed_ok Tryz.func15 rfl (by kernel_rfl) rfl rfl fun w0 own0=>?_
 have hdl:at_ < e.deeds.length:=(List.getElem?_eq_some_iff.1 hd).1
 have hd1:=hs.d
 have hb:=hs.b
 have hdd:=hs.dd d (List.mem_of_getElem? hd)
 have ck:=ok_keys d hdd.r hdd.w
 have hkl:=keysD_len hdd
 have cb:=fun k=>ok_before e.chains k (e.base+at_) (by have:=hs.c;omega) (fun c h=>by have:=hs.v c h;omega)
 try refine wk ?_
 refine CW.stut (stut_promote (i:=5) 3 1) ⟨rfl,rfl,trivial⟩ ?_
 refine CW.loopT (fun t:Nat×List Int=>[sd 1 (dint at_),sp 2 0,ob 0 e.enc,sd 10 (dint at_),sd 11 (dint t.1),so 5 1 t.2.length,oa 1 3 1 (t.2.map encInt1),nxt 2])
  (fun t=>t.1≤(List.range at_).length∧t.2.length≤t.1∧t.2++needsGo e.chains e.base (e.base+at_) (keysD d) 0 ((List.range at_).drop t.1)=needs e at_ d) (fun t=>(List.range at_).length - t.1) (0,[]) ⟨by omega,by simp,rfl⟩ ?_ ?_
 ·
  exact by_less
 ·
  rintro ⟨i,out⟩ ⟨hi,ho,hI⟩
  dsimp only at hi ho hI ⊢
  have hlr:(List.range at_).length=at_:=by simp
  rcases drop_case hi with ⟨h1,h2⟩|⟨i',h1,h2,h3⟩
  ·
   rw[h1]at hI
   simp only[needsGo,List.append_nil]at hI
   rw[hlr]at h2
   try refine wk ?_
   exact .one (.tmp rfl (.one (.own rfl (by simp) (dle_eq (by rw[← hI];rfl)))))
  ·
   obtain rfl:i'=i:=by
    rw[List.getElem?_range (by omega)]at h2
    simpa using h2.symm
   rw[h1]at hI
   simp only[needsGo]at hI
   rw[hlr]at h3
   try refine wk ?_
   refine CW.loopT (fun j:Nat=>[sd 1 (dint at_),sp 2 0,ob 0 e.enc,sd 10 (dint at_),sd 11 (dint i'),so 5 1 out.length,oa 1 3 1 (out.map encInt1),sd 6 (dint i'),sd 19 (encStrs (keysD d)),sd 20 (dint (keysD d).length),sd 21 (dint j),nxt 2])
    (fun j=>j≤(keysD d).length∧anyHit e.chains (e.base+at_) (e.base+i') ((keysD d).drop j)=anyHit e.chains (e.base+at_) (e.base+i') (keysD d)) (fun j=>(keysD d).length - j) 0 ⟨by omega,rfl⟩ ?_ ?_
   ·
    exact by_less
   ·
    rintro j ⟨hj,hJ⟩
    rcases drop_case hj with ⟨g1,g2⟩|⟨k,g1,g2,g3⟩
    ·
     rw[g1]at hJ
     simp only[anyHit]at hJ
     rw[if_neg (by rw[← hJ];simp)]at hI
     try refine wk ?_
     refine q_loopT (i'+1,out) ⟨by dsimp only;omega,by dsimp only;omega,hI⟩ (by dsimp only;omega) ?_
     exact by_less
    ·
     rw[g1]at hJ
     simp only[anyHit]at hJ
     have cbk:=cb k
     obtain⟨⟨vb,vm,vh,vn⟩,hv⟩:∃ v,before e.chains k (e.base+at_)=v:=⟨_,rfl⟩
     rw[hv]at cbk
     rw[show hit e.chains (e.base+at_) (e.base+i') k=(!vm&&decide (vb=e.base+i')) by rw[hit,hv]]at hJ
     cases vm
     ·
      by_cases g4:vb=e.base+i'
      ·
       rw[if_pos (by simp[g4])]at hJ
       rw[if_pos hJ.symm]at hI
       repeat(first|refine wa ?_|((with_reducible apply s5);(first|exact a_call cbk rfl by_sub|exact by_oa|exact by_ca);exact by_g)|refine wb ?_)
       refine q_loopT (i'+1,out++[(i':Int)]) ⟨by dsimp only;omega,by dsimp only;simp;omega,by rw[← hI];simp⟩ (by dsimp only;omega) ?_
       exact by_less
      ·
       rw[if_neg (by simp[g4])]at hJ
       repeat(first|refine wa ?_|((with_reducible apply s5);(first|exact a_call cbk rfl by_sub|exact by_oa|exact by_ca);exact by_g)|refine wb ?_)
       refine q_loopT (j+1) ⟨by omega,hJ⟩ (by omega) ?_
       exact by_less
     ·
      rw[if_neg (by simp)]at hJ
      repeat(first|refine wa ?_|((with_reducible apply s5);(first|exact a_call cbk rfl by_sub|exact by_oa|exact by_ca);exact by_g)|refine wb ?_)
      refine q_loopT (j+1) ⟨by omega,hJ⟩ (by omega) ?_
      exact by_less
def needsAt (e:Engine) (at_:Nat):List Int:=match e.deeds[at_]? with
 |some d=>needs e at_ d
 |none=>[]
def readyGo (e:Engine):Nat→List Int→List Int
 |_,[]=>[]
 |i,s::r=>if s=0∧needsAt e i=[] then (i:Int)::readyGo e (i+1) r else readyGo e (i+1) r
def ready (e:Engine):List Int:=readyGo e 0 e.state
theorem needs_len (cs:List Chain) (base b:Int) (ks:List Str):∀ (l:List Nat) (j:Nat),(needsGo cs base b ks j l).length≤l.length
 | [],_=>by simp[needsGo]
 |k::r,j=>by
  have:=needs_len cs base b ks r 0
  simp only[needsGo]
  split <;> simp <;> omega
theorem ok_ready (e:Engine) (hs:e.Sm) (hl:e.state.length=e.deeds.length):FnOk Tryz.prog 27 [.d (.agg e.enc)] (.one (encInts (ready e))):=by
 refine fnOk_of tbl_ok mixed_ok Tryz.func27 rfl (by kernel_rfl) rfl rfl fun w0 own0=>?_
 have hd1:=hs.d
 try refine wk ?_
 refine CW.stut (stut_promote (i:=3) 3 1) ⟨rfl,rfl,trivial⟩ ?_
 refine CW.loopT (fun t:Nat×List Int=>[sp 1 0,ob 0 e.enc,sd 7 (dint e.deeds.length),sd 8 (dint t.1),so 3 1 t.2.length,oa 1 3 1 (t.2.map encInt1),nxt 2])
  (fun t=>t.1≤e.state.length∧t.2.length≤t.1∧t.2++readyGo e t.1 (e.state.drop t.1)=ready e) (fun t=>e.state.length - t.1) (0,[]) ⟨by omega,by simp,rfl⟩ ?_ ?_
 ·
  exact by_less
 ·
  rintro ⟨i,out⟩ ⟨hi,ho,hI⟩
  dsimp only at hi ho hI ⊢
  rcases drop_case hi with ⟨h1,h2⟩|⟨s,h1,h2,h3⟩
  ·
   rw[h1]at hI
   simp only[readyGo,List.append_nil]at hI
   try refine wk ?_
   exact .one (.tmp rfl (.one (.own rfl (by simp) (dle_eq (by rw[← hI];rfl)))))
  ·
   rw[h1]at hI
   simp only[readyGo]at hI
   obtain⟨d,hd⟩:∃ d,e.deeds[i]? = some d:=⟨e.deeds[i]'(by omega),List.getElem?_eq_getElem (by omega)⟩
   have cn:=ok_needs e i d hs hd
   have hna:needsAt e i=needs e i d:=by rw[needsAt,hd]
   have hnl:(needs e i d).length≤i:=by have:=needs_len e.chains e.base (e.base+i) (keysD d) (List.range i) 0;simpa[needs] using this
   by_cases e1:s=0
   ·
    by_cases e2:needs e i d=[]
    ·
     rw[if_pos ⟨e1,by rw[hna];exact e2⟩]at hI
     have e3:(needs e i d).length=0:=by rw[e2];rfl
     try refine wk ?_
     refine q_loopT (i+1,out++[(i:Int)]) ⟨by dsimp only;omega,by dsimp only;simp;omega,by rw[← hI];simp⟩ (by dsimp only;omega) ?_
     exact by_less
    ·
     rw[if_neg (fun h=>e2 (by rw[← hna];exact h.2))]at hI
     have e3:¬ (needs e i d).length=0:=by simpa using e2
     try refine wk ?_
     refine q_loopT (i+1,out) ⟨by dsimp only;omega,by dsimp only;omega,hI⟩ (by dsimp only;omega) ?_
     exact by_less
   ·
    rw[if_neg (fun h=>e1 h.1)]at hI
    try refine wk ?_
    refine q_loopT (i+1,out) ⟨by dsimp only;omega,by dsimp only;omega,hI⟩ (by dsimp only;omega) ?_
    exact by_less
theorem ok_put (l:List Pair) (k:Str) (n:Int) (hs:Bool) (hl:l.length≤268435456):FnOk Tryz.prog 62 [.d (encRows l),.d (dstr k),.d (dint n),.d (dbool hs)] (.one (encRows (put l k n hs))):=by
 refine fnOk_of tbl_ok mixed_ok Tryz.func62 rfl (by kernel_rfl) rfl rfl fun w0 own0=>?_
 try refine wk ?_
 refine CW.stut (stut_promote (i:=9) 70 2) ⟨rfl,rfl,trivial⟩ ?_
 refine CW.loopT (fun t:Nat×Bool×List Pair=>[(.s 1,.av (.d (dstr k))),(.s 2,.av (.d (dint n))),(.s 3,.av (.d (dbool hs))),(.s 9,.av (.own 0 t.2.2.length)),(.s 10,.av (.d (dbool t.2.1))),(.s 13,.av (.d (encRows l))),(.s 14,.av (.d (dint l.length))),(.s 15,.av (.d (dint t.1))),(.o 0,.ob (.arr 70 2 (t.2.2.map Pair.enc))),(.nx,.num 1)])
  (fun t=>t.1≤l.length∧t.2.2.length≤2*t.1∧putGo k n hs t.2.1 t.2.2 (l.drop t.1)=put l k n hs) (fun t=>l.length - t.1) (0,false,[]) ⟨by omega,by simp,rfl⟩ ?_ ?_
 ·
  exact by_less
 ·
  rintro ⟨i,done,out⟩ ⟨hi,ho,hI⟩
  dsimp only at hi ho hI ⊢
  rcases drop_case hi with ⟨h1,h2⟩|⟨p,h1,h2,h3⟩
  ·
   rw[h1]at hI
   simp only[putGo]at hI
   cases done
   ·
    cases hs
    ·
     try refine wk ?_
     exact .one (.tmp rfl (.one (.own rfl (by simp) (dle_eq (by rw[← hI];rfl)))))
    ·
     try refine wk ?_
     exact .one (.tmp rfl (.one (.own rfl (by simp) (dle_eq (by rw[← hI];simp[encRows];rfl)))))
   ·
    try refine wk ?_
    exact .one (.tmp rfl (.one (.own rfl (by simp) (dle_eq (by rw[← hI];rfl)))))
  ·
   rw[h1]at hI
   simp only[putGo]at hI
   cases done <;> cases h5:slt p.key k <;> cases hs <;> simp[h5]at hI <;> by_cases h4:p.key=k <;> (first|rw[if_pos h4]at hI|rw[if_neg h4]at hI)
   all_goals
    try refine wk ?_
    refine q_loopT (i+1,_,_) ⟨by omega,?_,hI⟩ (by dsimp only;omega) ?_
    ·
     dsimp only;(first|omega|(simp;omega))
    ·
     exact by_less
set_option maxHeartbeats 8000000
theorem ld_reg (e:Done) {A:Nat}(h:A < 4) {ti:TI}(hk:ti.kind = .int .i64):ldA ti ((e.enc.map AV.d).drop (1+A*1))=some (.d (dint (rget e A))):=by
 have:A=0∨A=1∨A=2∨A=3:=by omega
 rcases this with rfl|rfl|rfl|rfl <;> simp[ldA,hk,Done.enc,rget]
theorem st_reg (e:Done) {A:Nat}(h:A < 4) (x:Int):putCells (e.enc.map AV.d) (1+A*1) [.d (dint x)]=(rset e A x).enc.map AV.d:=by
 have:A=0∨A=1∨A=2∨A=3:=by omega
 rcases this with rfl|rfl|rfl|rfl <;> rfl
theorem fit_reg (e:Done) {A:Nat}(h:A < 4):Nat.ble ((1+A*1)+1) (e.enc.map AV.d).length=true:=by
 simp[Done.enc];omega
theorem mul_bound {a b:Int}(ha : -1073741824≤a∧a≤1073741824) (hb : -1073741824≤b∧b≤1073741824) : -1152921504606846976≤a*b∧a*b≤1152921504606846976:=by
 have h1:(a*b).natAbs≤1073741824*1073741824:=by
  rw[Int.natAbs_mul]
  exact Nat.mul_le_mul (by omega) (by omega)
 omega
theorem ok_do (r:List Pair) (d:Deed) (hl:r.length≤134217728) (hr:rowsOk r) (hc:d.code.length≤134217728) (hi:∀ i∈d.code,i.Ok) :
  FnOk Tryz.prog 63 [.d (encRows r),.d (.agg d.enc)] (.tup [encRows (doD r d).1,.agg (doD r d).2.enc]):=by
 refine fnOk_of tbl_ok mixed_ok Tryz.func63 rfl (by kernel_rfl) rfl rfl fun w0 own0=>?_
 try refine wk ?_
 refine CW.loopT (fun t:Nat×Int×List Pair×Done=>[sd 0 (encRows r),sp 3 0,ob 0 d.enc,sp 5 1,ob 1 done0.enc,sd 6 (encRows t.2.2.1),sp 7 2,ob 2 t.2.2.2.enc,sd 8 (dint t.2.1),sd 16 (encCode d.code),sd 17 (dint d.code.length),sd 18 (dint t.1),nxt 3])
  (fun t=>t.1≤d.code.length∧t.2.2.1.length≤r.length+t.1∧rowsOk t.2.2.1∧t.2.2.2.Ok∧t.2.2.2.failed=false∧(0≤t.2.1∧t.2.1≤1073741824)∧doGo r t.2.1 t.2.2.1 t.2.2.2 (d.code.drop t.1)=doD r d)
  (fun t=>d.code.length - t.1) (0,0,r,done0) ⟨by omega,by simp,hr,⟨by simp[nOk,done0],by simp[nOk,done0],by simp[nOk,done0],by simp[nOk,done0]⟩,rfl,by simp,rfl⟩ ?_ ?_
 ·
  exact by_less
 ·
  rintro ⟨x,sk,now,e⟩ ⟨hx,hn,hrow,hreg,hf,hsk,hI⟩
  dsimp only at hx hn hrow hreg hf hsk hI ⊢
  rcases drop_case hx with ⟨h1,h2⟩|⟨i,h1,h2,h3⟩
  ·
   rw[h1]at hI
   simp only[doGo]at hI
   try refine wk ?_
   rw[← hI]
   exact .two (.tmp rfl (.one (.d (.refl _)))) (.cell rfl rfl rfl rfl (.aggd rfl (.refl _)))
  ·
   rw[h1]at hI
   simp only[doGo]at hI
   have hio:=hi i (List.mem_of_getElem? h2)
   by_cases h4:0 < sk
   ·
    rw[if_pos h4]at hI
    try refine wk ?_
    refine q_loopT (x+1,sk - 1,now,e) ⟨by dsimp only;omega,by dsimp only;omega,hrow,hreg,hf,by dsimp only;omega,hI⟩ (by dsimp only;omega) ?_
    exact by_less
   rw[if_neg h4]at hI
   obtain⟨kd,ia,ib,n,key⟩:=i
   obtain⟨A,rfl⟩:=Int.eq_ofNat_of_zero_le hio.a.1
   obtain⟨B,rfl⟩:=Int.eq_ofNat_of_zero_le hio.b.1
   have hA:A < 4:=by have:=hio.a.2;dsimp only at this;omega
   have hB:B < 4:=by have:=hio.b.2;dsimp only at this;omega
   have hga:=rget_ok hreg A
   have hgb:=rget_ok hreg B
   have hst:=fun y=>st_reg e hA y
   have hfit:=fit_reg e hA
   have hself:=rset_self e A
   have hk:=hio.k
   have hcn:=hio.c
   have hcs:=hio.s
   dsimp only[Int.toNat_natCast]at hI hk hcn hcs
   have hkd:kd=1∨kd=2∨kd=3∨kd=4∨kd=5∨kd=6∨kd=7∨kd=8∨kd=9:=by omega
   clear hk hio h1
   unfold nOk at hga hgb
   have cg:=ok_get now key (by omega)
   have hh:=fun(k:Nat) (h:k < 10)=>ok_has k 114 h
   rcases hkd with rfl|rfl|rfl|rfl|rfl|rfl|rfl|rfl|rfl
   ·
    rw[if_pos rfl]at hI
    have ch:=hh 1 (by omega)
    rw[show has 1 114=true from by decide]at ch
    have hs:=hst (RF.get now key).1
    repeat(first|refine wa ?_|((with_reducible apply s5);(first|exact a_call ch rfl by_sub|((with_reducible apply a_lptr);(iterate 4 exact rfl);exact ld_reg e hA rfl)|((with_reducible apply a_lptr);(iterate 4 exact rfl);exact ld_reg e hB rfl)|((with_reducible apply a_store);(iterate 6 exact rfl);exact hfit;exact⟨rfl,trivial⟩)|exact by_oa|exact by_ca);exact by_g)|refine wb ?_)
    refine q_loopT (x+1,sk,now,rset e A (RF.get now key).1) ⟨by dsimp only;omega,by dsimp only;omega,hrow,rset_ok hreg A (get_ok hrow key),by rw[rset_failed];exact hf,hsk,hI⟩ (by dsimp only;omega) ?_
    exact by_less
   ·
    rw[if_neg (show ¬ (2:Int)=1 by decide),if_pos rfl]at hI
    have ch:=hh 2 (by omega)
    rw[show has 2 114=true from by decide]at ch
    have hs:=hst n
    repeat(first|refine wa ?_|((with_reducible apply s5);(first|exact a_call ch rfl by_sub|((with_reducible apply a_lptr);(iterate 4 exact rfl);exact ld_reg e hA rfl)|((with_reducible apply a_lptr);(iterate 4 exact rfl);exact ld_reg e hB rfl)|((with_reducible apply a_store);(iterate 6 exact rfl);exact hfit;exact⟨rfl,trivial⟩)|exact by_oa|exact by_ca);exact by_g)|refine wb ?_)
    refine q_loopT (x+1,sk,now,rset e A n) ⟨by dsimp only;omega,by dsimp only;omega,hrow,rset_ok hreg A (hcn rfl),by rw[rset_failed];exact hf,hsk,hI⟩ (by dsimp only;omega) ?_
    exact by_less
   ·
    rw[if_neg (show ¬ (3:Int)=1 by decide),if_neg (show ¬ (3:Int)=2 by decide),if_pos rfl]at hI
    have ch:=hh 3 (by omega)
    rw[show has 3 114=true from by decide]at ch
    have hs:=hst (round (rget e A+rget e B))
    have cr:=ok_round (rget e A+rget e B) (by omega)
    repeat(first|refine wa ?_|((with_reducible apply s5);(first|exact a_call ch rfl by_sub|((with_reducible apply a_lptr);(iterate 4 exact rfl);exact ld_reg e hA rfl)|((with_reducible apply a_lptr);(iterate 4 exact rfl);exact ld_reg e hB rfl)|((with_reducible apply a_store);(iterate 6 exact rfl);exact hfit;exact⟨rfl,trivial⟩)|((with_reducible apply a_bin);(iterate 2 exact rfl);(apply bin_add;omega);exact rfl)|exact by_oa|exact by_ca);exact by_g)|refine wb ?_)
    refine q_loopT (x+1,sk,now,rset e A (round (rget e A+rget e B))) ⟨by dsimp only;omega,by dsimp only;omega,hrow,rset_ok hreg A (round_ok _),by rw[rset_failed];exact hf,hsk,hI⟩ (by dsimp only;omega) ?_
    exact by_less
   ·
    rw[if_neg (show ¬ (4:Int)=1 by decide),if_neg (show ¬ (4:Int)=2 by decide),if_neg (show ¬ (4:Int)=3 by decide),if_pos rfl]at hI
    have ch:=hh 4 (by omega)
    rw[show has 4 114=true from by decide]at ch
    have hs:=hst (round (rget e A - rget e B))
    have cr:=ok_round (rget e A - rget e B) (by omega)
    repeat(first|refine wa ?_|((with_reducible apply s5);(first|exact a_call ch rfl by_sub|((with_reducible apply a_lptr);(iterate 4 exact rfl);exact ld_reg e hA rfl)|((with_reducible apply a_lptr);(iterate 4 exact rfl);exact ld_reg e hB rfl)|((with_reducible apply a_store);(iterate 6 exact rfl);exact hfit;exact⟨rfl,trivial⟩)|((with_reducible apply a_bin);(iterate 2 exact rfl);(apply bin_sub;omega);exact rfl)|exact by_oa|exact by_ca);exact by_g)|refine wb ?_)
    refine q_loopT (x+1,sk,now,rset e A (round (rget e A - rget e B))) ⟨by dsimp only;omega,by dsimp only;omega,hrow,rset_ok hreg A (round_ok _),by rw[rset_failed];exact hf,hsk,hI⟩ (by dsimp only;omega) ?_
    exact by_less
   ·
    rw[if_neg (show ¬ (5:Int)=1 by decide),if_neg (show ¬ (5:Int)=2 by decide),if_neg (show ¬ (5:Int)=3 by decide),if_neg (show ¬ (5:Int)=4 by decide),if_pos rfl]at hI
    have ch:=hh 5 (by omega)
    rw[show has 5 114=true from by decide]at ch
    have hmul : -1152921504606846976≤rget e A*rget e B∧rget e A*rget e B≤1152921504606846976:=mul_bound hga hgb
    have hs:=hst (round (rget e A*rget e B))
    have cr:=ok_round (rget e A*rget e B) (by omega)
    repeat(first|refine wa ?_|((with_reducible apply s5);(first|exact a_call ch rfl by_sub|((with_reducible apply a_lptr);(iterate 4 exact rfl);exact ld_reg e hA rfl)|((with_reducible apply a_lptr);(iterate 4 exact rfl);exact ld_reg e hB rfl)|((with_reducible apply a_store);(iterate 6 exact rfl);exact hfit;exact⟨rfl,trivial⟩)|((with_reducible apply a_bin);(iterate 2 exact rfl);(apply bin_mul;omega);exact rfl)|exact by_oa|exact by_ca);exact by_g)|refine wb ?_)
    refine q_loopT (x+1,sk,now,rset e A (round (rget e A*rget e B))) ⟨by dsimp only;omega,by dsimp only;omega,hrow,rset_ok hreg A (round_ok _),by rw[rset_failed];exact hf,hsk,hI⟩ (by dsimp only;omega) ?_
    exact by_less
   ·
    rw[if_neg (show ¬ (6:Int)=1 by decide),if_neg (show ¬ (6:Int)=2 by decide),if_neg (show ¬ (6:Int)=3 by decide),if_neg (show ¬ (6:Int)=4 by decide),if_neg (show ¬ (6:Int)=5 by decide),if_pos rfl]at hI
    have ch:=hh 6 (by omega)
    rw[show has 6 114=true from by decide]at ch
    have hs:putCells (e.enc.map AV.d) (1+A*1) [.d (dint (rget e A))]=e.enc.map AV.d:=by rw[hst,hself]
    have cp:=ok_put now key (rget e A) true (by omega)
    have hpl:=put_len now key (rget e A) true
    repeat(first|refine wa ?_|((with_reducible apply s5);(first|exact a_call ch rfl by_sub|((with_reducible apply a_lptr);(iterate 4 exact rfl);exact ld_reg e hA rfl)|((with_reducible apply a_lptr);(iterate 4 exact rfl);exact ld_reg e hB rfl)|((with_reducible apply a_store);(iterate 6 exact rfl);exact hfit;exact⟨rfl,trivial⟩)|exact by_oa|exact by_ca);exact by_g)|refine wb ?_)
    refine q_loopT (x+1,sk,put now key (rget e A) true,e) ⟨by dsimp only;omega,by dsimp only;omega,put_ok hrow key (rget_ok hreg A) true,hreg,hf,hsk,hI⟩ (by dsimp only;omega) ?_
    exact by_less
   ·
    rw[if_neg (show ¬ (7:Int)=1 by decide),if_neg (show ¬ (7:Int)=2 by decide),if_neg (show ¬ (7:Int)=3 by decide),if_neg (show ¬ (7:Int)=4 by decide),if_neg (show ¬ (7:Int)=5 by decide),if_neg (show ¬ (7:Int)=6 by decide),if_pos rfl]at hI
    have ch:=hh 7 (by omega)
    rw[show has 7 114=false from by decide]at ch
    have cp:=ok_put now key 0 false (by omega)
    have hpl:=put_len now key 0 false
    repeat(first|refine wa ?_|((with_reducible apply s5);(first|exact a_call ch rfl by_sub|((with_reducible apply a_lptr);(iterate 4 exact rfl);exact ld_reg e hA rfl)|((with_reducible apply a_lptr);(iterate 4 exact rfl);exact ld_reg e hB rfl)|((with_reducible apply a_store);(iterate 6 exact rfl);exact hfit;exact⟨rfl,trivial⟩)|exact by_oa|exact by_ca);exact by_g)|refine wb ?_)
    refine q_loopT (x+1,sk,put now key 0 false,e) ⟨by dsimp only;omega,by dsimp only;omega,put_ok hrow key (by simp[nOk]) false,hreg,hf,hsk,hI⟩ (by dsimp only;omega) ?_
    exact by_less
   ·
    rw[if_neg (show ¬ (8:Int)=1 by decide),if_neg (show ¬ (8:Int)=2 by decide),if_neg (show ¬ (8:Int)=3 by decide),if_neg (show ¬ (8:Int)=4 by decide),if_neg (show ¬ (8:Int)=5 by decide),if_neg (show ¬ (8:Int)=6 by decide),if_neg (show ¬ (8:Int)=7 by decide),if_pos rfl]at hI
    have ch:=hh 8 (by omega)
    rw[show has 8 114=true from by decide]at ch
    have hs:putCells (e.enc.map AV.d) (1+A*1) [.d (dint (rget e A))]=e.enc.map AV.d:=by rw[hst,hself]
    by_cases h5:rget e A < 1
    ·
     rw[if_pos h5]at hI
     repeat(first|refine wa ?_|((with_reducible apply s5);(first|exact a_call ch rfl by_sub|((with_reducible apply a_lptr);(iterate 4 exact rfl);exact ld_reg e hA rfl)|((with_reducible apply a_lptr);(iterate 4 exact rfl);exact ld_reg e hB rfl)|((with_reducible apply a_store);(iterate 6 exact rfl);exact hfit;exact⟨rfl,trivial⟩)|exact by_oa|exact by_ca);exact by_g)|refine wb ?_)
     refine q_loopT (x+1,n,now,e) ⟨by dsimp only;omega,by dsimp only;omega,hrow,hreg,hf,hcs rfl,hI⟩ (by dsimp only;omega) ?_
     exact by_less
    ·
     rw[if_neg h5]at hI
     repeat(first|refine wa ?_|((with_reducible apply s5);(first|exact a_call ch rfl by_sub|((with_reducible apply a_lptr);(iterate 4 exact rfl);exact ld_reg e hA rfl)|((with_reducible apply a_lptr);(iterate 4 exact rfl);exact ld_reg e hB rfl)|((with_reducible apply a_store);(iterate 6 exact rfl);exact hfit;exact⟨rfl,trivial⟩)|exact by_oa|exact by_ca);exact by_g)|refine wb ?_)
     refine q_loopT (x+1,sk,now,e) ⟨by dsimp only;omega,by dsimp only;omega,hrow,hreg,hf,hsk,hI⟩ (by dsimp only;omega) ?_
     exact by_less
   ·
    rw[if_neg (show ¬ (9:Int)=1 by decide),if_neg (show ¬ (9:Int)=2 by decide),if_neg (show ¬ (9:Int)=3 by decide),if_neg (show ¬ (9:Int)=4 by decide),if_neg (show ¬ (9:Int)=5 by decide),if_neg (show ¬ (9:Int)=6 by decide),if_neg (show ¬ (9:Int)=7 by decide),if_neg (show ¬ (9:Int)=8 by decide)]at hI
    have ch:=hh 9 (by omega)
    rw[show has 9 114=true from by decide]at ch
    have hs:putCells (e.enc.map AV.d) (1+A*1) [.d (dint (rget e A))]=e.enc.map AV.d:=by rw[hst,hself]
    by_cases h5:rget e A < 0
    ·
     rw[if_pos h5]at hI
     repeat(first|refine wa ?_|((with_reducible apply s5);(first|exact a_call ch rfl by_sub|((with_reducible apply a_lptr);(iterate 4 exact rfl);exact ld_reg e hA rfl)|((with_reducible apply a_lptr);(iterate 4 exact rfl);exact ld_reg e hB rfl)|((with_reducible apply a_store);(iterate 6 exact rfl);exact hfit;exact⟨rfl,trivial⟩)|exact by_oa|exact by_ca);exact by_g)|refine wb ?_)
     rw[← hI]
     exact .two (.tmp rfl (.one (.d (.refl _)))) (.cell rfl rfl rfl rfl (.aggd rfl (.refl _)))
    ·
     rw[if_neg h5]at hI
     repeat(first|refine wa ?_|((with_reducible apply s5);(first|exact a_call ch rfl by_sub|((with_reducible apply a_lptr);(iterate 4 exact rfl);exact ld_reg e hA rfl)|((with_reducible apply a_lptr);(iterate 4 exact rfl);exact ld_reg e hB rfl)|((with_reducible apply a_store);(iterate 6 exact rfl);exact hfit;exact⟨rfl,trivial⟩)|exact by_oa|exact by_ca);exact by_g)|refine wb ?_)
     refine q_loopT (x+1,sk,now,e) ⟨by dsimp only;omega,by dsimp only;omega,hrow,hreg,hf,hsk,hI⟩ (by dsimp only;omega) ?_
     exact by_less
def goRows (cs:List Chain) (b:Int):List Pair→List Str→List Pair
 |r,[]=>r
 |r,k::ks=>goRows cs b (if (before cs k b).has=true then put r k (before cs k b).n true else r) ks
def goSets (r:List Pair) (b:Int):List Chain→List Str→List Chain
 |cs,[]=>cs
 |cs,k::ks=>goSets r b (setChains cs k ⟨b,true,(RF.get r k).2,(RF.get r k).1⟩) ks
def goDone (e:Engine) (at_:Nat) (d:Deed):List Pair×Done:=doD (goRows e.chains (e.base+at_) [] (keysD d)) d
def goNew (e:Engine) (at_:Nat) (d:Deed):Engine :=
 ⟨goSets (goDone e at_ d).1 (e.base+at_) e.chains d.writes,e.deeds,e.state.set at_ 1,e.ends.set at_ (goDone e at_ d).2,e.base⟩
def goAt (e:Engine) (at_:Nat):Engine×Int:=match e.deeds[at_]? with
 |some d=>if e.state[at_]? = some 1 then (e,11) else if needs e at_ d=[] then (goNew e at_ d,0) else (e,10)
 |none=>(e,6)
def goE (e:Engine) (at_:Int):Engine×Int:=if at_ < 0 then (e,6) else goAt e at_.toNat
structure Deed.Ok (d:Deed):Prop where
 i:∀ i∈d.code,i.Ok
 r:d.reads.length≤5
 w:d.writes.length≤5
 c:d.code.length≤12
theorem Deed.Ok.keys {d:Deed}(h:Deed.Ok d):(keysD d).length≤10:=by
 have:=keysGo_len (d.reads++d.writes) []
 have h1:=h.r
 have h2:=h.w
 simp at this
 unfold keysD
 omega
def chOk (l:List Chain):Prop:=∀ c∈l,∀ v∈c.vs,nOk v.n
theorem bvs_ok {h:Bool}{b:Int}:∀ {l:List Version}{out:Version},nOk out.n→(∀ v∈l,nOk v.n)→nOk (bvs h b out l).n
 | [],out,ho,_=>ho
 |v::l,out,ho,hl=>by
  simp only[bvs]
  refine bvs_ok ?_ fun w hw=>hl w (List.mem_cons_of_mem _ hw)
  split
  ·
   exact hl v (List.mem_cons_self ..)
  ·
   exact ho
theorem beforeGo_ok {k:Str}{b:Int}:∀ {l:List Chain}{out:Version},nOk out.n→chOk l→nOk (beforeGo k b out l).n
 | [],out,ho,_=>ho
 |c::l,out,ho,hl=>by
  simp only[beforeGo]
  exact beforeGo_ok (bvs_ok ho (hl c (List.mem_cons_self ..))) fun x hx=>hl x (List.mem_cons_of_mem _ hx)
theorem before_ok {l:List Chain}(h:chOk l) (k:Str) (b:Int):nOk (before l k b).n:=beforeGo_ok (by simp[nOk]) h
theorem goRows_ok {cs:List Chain}{b:Int}(h:chOk cs):∀ {ks:List Str}{r:List Pair},rowsOk r→rowsOk (goRows cs b r ks)∧(goRows cs b r ks).length≤r.length+ks.length
 | [],r,hr=>⟨hr,by simp[goRows]⟩
 |k::ks,r,hr=>by
  simp only[goRows]
  by_cases hh:(before cs k b).has=true
  ·
   rw[if_pos hh]
   have:=goRows_ok (b:=b) h (ks:=ks) (put_ok hr k (before_ok h k b) true)
   refine⟨this.1,?_⟩
   have h2:=put_len r k (before cs k b).n true
   have h3:=this.2
   simp;omega
  ·
   rw[if_neg hh]
   have:=goRows_ok (b:=b) h (ks:=ks) hr
   exact⟨this.1,by have h3:=this.2;simp;omega⟩
theorem doGo_len {r0:List Pair}:∀ (l:List Ins) (sk:Int) (now:List Pair) (e:Done),(doGo r0 sk now e l).1.length≤max r0.length (now.length+l.length)
 | [],sk,now,e=>by simp only[doGo];simp;omega
 |i::l,sk,now,e=>by
  have ih:=fun sk now e=>doGo_len (r0:=r0) l sk now e
  have h1:=put_len now i.key (rget e i.a.toNat) true
  have h2:=put_len now i.key 0 false
  simp only[doGo,List.length_cons]
  repeat' split
  all_goals first
   |(refine Nat.le_trans (ih _ _ _) ?_;omega)
   |(simp only[];omega)
theorem doD_len (r:List Pair) (d:Deed):(doD r d).1.length≤r.length+d.code.length:=by
 have:=doGo_len (r0:=r) d.code 0 r done0
 unfold doD
 omega
theorem setC_len {k:Str}{v:Version}{c:Chain}:(setC k v c).vs.length=c.vs.length:=by simp[setC]
theorem set_vs {l:List Chain}{k:Str}{v:Version}{M:Nat}(h:∀ c∈l,c.vs.length≤M):∀ c∈setChains l k v,c.vs.length≤M:=by
 intro c hc
 obtain⟨c0,h0,rfl⟩:=List.mem_map.1 hc
 rw[setC_len];exact h c0 h0
theorem ok_go (e:Engine) (at_:Int) (N:Nat) (hz:Engine.Sz e N) (hN:N≤100000000) (hd:∀ d∈e.deeds,Deed.Ok d) (hch:chOk e.chains) :
  FnOk Tryz.prog 28 [.d (.agg e.enc),.d (dint at_)] (.tup [.agg (goE e at_).1.enc,dint (goE e at_).2]):=by
 refine fnOk_of tbl_ok mixed_ok Tryz.func28 rfl (by kernel_rfl) rfl rfl fun w0 own0=>?_
 have hsm:=hz.sm (by omega)
 have hc:=hz.c
 have hv:=hz.v
 have hdl:=hz.d
 have hsl:=hz.s
 have hnl:=hz.n
 have hb:=hz.b
 unfold goE
 by_cases a1:at_ < 0
 ·
  rw[if_pos a1]
  try refine wk ?_
  exact .two (.cell rfl rfl rfl rfl (.aggd (ds:=e.enc) rfl (.refl _))) (.tmp rfl (.one (.d (.refl _))))
 rw[if_neg a1]
 obtain⟨A,rfl⟩:=Int.eq_ofNat_of_zero_le (show 0≤at_ by omega)
 rw[Int.toNat_natCast]
 unfold goAt
 by_cases a2:e.deeds.length≤A
 ·
  rw[List.getElem?_eq_none a2]
  try refine wk ?_
  exact .two (.cell rfl rfl rfl rfl (.aggd (ds:=e.enc) rfl (.refl _))) (.tmp rfl (.one (.d (.refl _))))
 have a3:A < e.deeds.length:=by omega
 obtain⟨d,hA⟩:∃ d,e.deeds[A]? = some d:=⟨e.deeds[A],List.getElem?_eq_getElem a3⟩
 obtain⟨s,hS⟩:∃ s,e.state[A]? = some s:=⟨e.state[A]'(by omega),List.getElem?_eq_getElem (by omega)⟩
 obtain⟨n0,hE⟩:∃ n0,e.ends[A]? = some n0:=⟨e.ends[A]'(by omega),List.getElem?_eq_getElem (by omega)⟩
 rw[hA,hS]
 dsimp only
 have cn:=ok_needs e A d hsm hA
 have hnl2:(needs e A d).length≤A:=by have:=needs_len e.chains e.base (e.base+A) (keysD d) (List.range A) 0;simpa[needs] using this
 by_cases a4:s=1
 ·
  rw[if_pos (by rw[a4])]
  try refine wk ?_
  exact .two (.cell rfl rfl rfl rfl (.aggd (ds:=e.enc) rfl (.refl _))) (.tmp rfl (.one (.d (.refl _))))
 rw[if_neg (by simpa using a4)]
 by_cases a5:needs e A d=[]
 ·
  rw[if_pos a5]
  have a6:(needs e A d).length=0:=by rw[a5];rfl
  have hdm:=List.mem_of_getElem? hA
  have hds:=hsm.dd d hdm
  have ck:=ok_keys d hds.r hds.w
  have hdo:=hd d hdm
  have hkl:=hdo.keys
  have hw5:=hdo.w
  try refine wk ?_
  refine CW.stut (stut_le (i:=6) (dle_nil 2)) ⟨rfl,trivial⟩ ?_
  refine CW.loopT (fun t:Nat×List Pair=>[sd 1 (dint A),sp 2 0,ob 0 e.enc,sp 4 1,ob 1 noE.enc0,sd 6 (encRows t.2),sd 43 (encStrs (keysD d)),sd 44 (dint (keysD d).length),sd 45 (dint t.1),nxt 2])
   (fun t=>t.1≤(keysD d).length∧t.2.length≤t.1∧rowsOk t.2∧goRows e.chains (e.base+A) t.2 ((keysD d).drop t.1)=goRows e.chains (e.base+A) [] (keysD d)) (fun t=>(keysD d).length - t.1) (0,[]) ⟨by omega,by simp,by simp[rowsOk],rfl⟩ ?_ ?_
  ·
   exact by_less
  ·
   rintro ⟨j,r⟩ ⟨hj,hrl,hrk,hJ⟩
   dsimp only at hj hrl hrk hJ ⊢
   rcases drop_case hj with ⟨g1,g2⟩|⟨k,g1,g2,g3⟩
   ·
    rw[g1]at hJ
    simp only[goRows]at hJ
    have cd:=ok_do r d (by omega) hrk (by have:=hdo.c;omega) hdo.i
    have hlw:∀ r:List Pair,r.length≤134217728→True:=fun _ _=>trivial
    have hout:=doD_len r d
    have hdone:goDone e A d=doD r d:=by rw[goDone,hJ]
    rw[show goNew e A d=⟨goSets (doD r d).1 (e.base+A) e.chains d.writes,e.deeds,e.state.set A 1,e.ends.set A (doD r d).2,e.base⟩ by rw[goNew,hdone]]
    have hc12:=hdo.c
    clear hlw hJ hdone hrk
    generalize doD r d=x at cd hout
    obtain⟨x,en⟩:=x
    dsimp only at cd hout ⊢
    obtain⟨chs,dds,sts,ens,bs⟩:=e
    dsimp only at hc hv hdl hsl hnl hb hA hS hE a3
    try refine wk ?_
    refine CW.loopT (fun t:Nat×List Chain=>[sd 1 (dint A),sp 2 0,ob 0 (Engine.enc ⟨t.2,dds,sts,ens,bs⟩),sp 4 1,ob 1 noE.enc0,sd 6 (encRows x),sp 10 2,ob 2 en.enc,sd 80 (encStrs d.writes),sd 81 (dint d.writes.length),sd 82 (dint t.1),nxt 3])
     (fun t=>t.1≤d.writes.length∧(t.2.length≤N∧∀ c∈t.2,c.vs.length≤N)∧goSets x (bs+A) t.2 (d.writes.drop t.1)=goSets x (bs+A) chs d.writes) (fun t=>d.writes.length - t.1) (0,chs) ⟨by omega,⟨hc,hv⟩,rfl⟩ ?_ ?_
    ·
     exact by_less
    ·
     rintro ⟨i,cs⟩ ⟨hi,⟨hcl,hcv⟩,hK⟩
     dsimp only at hi hcl hcv hK ⊢
     rcases drop_case hi with ⟨e1,e2⟩|⟨k,e1,e2,e3⟩
     ·
      rw[e1]at hK
      simp only[goSets]at hK
      rw[← hK]
      have hAs:A < sts.length:=by omega
      have hAn:A < ens.length:=by omega
      have hS':([]++sts.map encInt1)[A]? = some (encInt1 s):=by simp[hS]
      have hE':([]++ens.map Done.enc)[A]? = some n0.enc:=by simp[hE]
      have hst0:StopR 24:=⟨rfl⟩
      try refine wkS ?_
      clear hst0
      refine Stop.go (CW.stut (stut_freeze_cell (id:=0) (j:=2) (i:=3) rfl (by simp)) ⟨rfl,rfl,trivial⟩ ?_)
      have hst0:StopR 26:=⟨rfl⟩
      try refine wkS ?_
      clear hst0
      refine Stop.go (CW.stut (stut_freeze_cell (id:=0) (j:=3) (i:=4) rfl (by simp)) ⟨rfl,rfl,trivial⟩ ?_)
      try refine wk ?_
      exact .two (.cell rfl rfl rfl rfl (.aggd (ds:=[encChains cs,encDeeds dds,.sl 1 (([]++sts.map encInt1).set A [dint 1]),.sl 5 (([]++ens.map Done.enc).set A en.enc),dint bs]) rfl
       (dle_eq (by simp[Engine.enc,encInts,encEnds,encInt1,List.map_set])))) (.tmp rfl (.one (.d (.refl _))))
     ·
      rw[e1]at hK
      simp only[goSets]at hK
      have cg:=ok_get x k (by omega)
      obtain⟨⟨gn,gh⟩,hg⟩:∃ g,RF.get x k=g:=⟨_,rfl⟩
      rw[hg]at cg hK
      have cs':=ok_set cs k ⟨bs+A,true,gh,gn⟩ (by omega) (fun c h=>by have:=hcv c h;omega)
      repeat(first|refine wa ?_|((with_reducible apply s5);(first|exact a_call cs' rfl by_sub|exact by_oa|exact by_ca);exact by_g)|refine wb ?_)
      refine q_loopT (i+1,setChains cs k ⟨bs+A,true,gh,gn⟩) ⟨by dsimp only;omega,⟨by dsimp only;simp[setChains];exact hcl,set_vs hcv⟩,hK⟩ (by dsimp only;omega) ?_
      exact by_less
   ·
    rw[g1]at hJ
    simp only[goRows]at hJ
    have cb:=ok_before e.chains k (e.base+A) (by omega) (fun c h=>by have:=hv c h;omega)
    have hbn:=before_ok hch k (e.base+A)
    obtain⟨⟨vb,vm,vh,vn⟩,hbv⟩:∃ v,before e.chains k (e.base+A)=v:=⟨_,rfl⟩
    rw[hbv]at cb hbn
    have cp:=ok_put r k vn true (by omega)
    have hpl:=put_len r k vn true
    cases vh
    ·
     rw[if_neg (by rw[hbv];simp)]at hJ
     try refine wk ?_
     refine q_loopT (j+1,r) ⟨by dsimp only;omega,by dsimp only;omega,hrk,hJ⟩ (by dsimp only;omega) ?_
     exact by_less
    ·
     rw[if_pos (by rw[hbv]),hbv]at hJ
     try refine wk ?_
     refine q_loopT (j+1,put r k vn true) ⟨by dsimp only;omega,by dsimp only;omega,put_ok hrk k hbn true,hJ⟩ (by dsimp only;omega) ?_
     exact by_less
 ·
  rw[if_neg a5]
  have a6:¬ (needs e A d).length=0:=by simpa using a5
  try refine wk ?_
  exact .two (.cell rfl rfl rfl rfl (.aggd (ds:=e.enc) rfl (.refl _))) (.tmp rfl (.one (.d (.refl _))))
structure EInv (e:Engine) (N:Nat):Prop where
 z:Engine.Sz e N
 o:∀ d∈e.deeds,Deed.Ok d
 c:chOk e.chains
theorem EInv.mono {e:Engine}{N M:Nat}(h:EInv e N) (hm:N≤M):EInv e M:=by
 obtain⟨hz,ho,hc⟩:=h
 refine⟨⟨by have:=hz.c;omega,fun c hc=>by have:=hz.v c hc;omega,by have:=hz.d;omega,hz.s,hz.n,by have:=hz.b;omega,hz.dd⟩,ho,hc⟩
theorem codeGo_mem {d:Deed}:∀ {l:List Ins}{k:Nat},codeGo d k l=0→∀ j i,l[j]? = some i→wrongIns d ((d.code.length:Int) - 1 - ((k+j:Nat):Int)) i=0
 | [],k,_,j,i,hj=>by simp at hj
 |x::l,k,h,j,i,hj=>by
  simp only[codeGo]at h
  by_cases h0:wrongIns d ((d.code.length:Int) - 1 - k) x=0
  ·
   rw[if_pos h0]at h
   cases j with
   |zero=>simp at hj;subst hj;simpa using h0
   |succ j =>
    have:=codeGo_mem h j i (by simpa using hj)
    rw[show k+(j+1)=k+1+j by omega]
    exact this
  ·
   rw[if_neg h0]at h;exact absurd h h0
theorem has_ins {k:Int}(h:1≤k∧k≤9):insA k.toNat≤3∧insB k.toNat≤3:=by
 unfold insA insB
 constructor <;> split <;> omega
theorem wrongIns_ok {d:Deed}{m:Int}(hm:m≤11) {i:Ins}(h:wrongIns d m i=0):i.Ok:=by
 unfold wrongIns at h
 by_cases hk:i.kind < 1∨9 < i.kind
 ·
  rw[if_pos hk]at h;simp at h
 rw[if_neg hk]at h
 by_cases ho:insOut i.kind.toNat i.a i.b i.n m=true
 ·
  rw[if_pos ho]at h;simp at h
 have hkk:1≤i.kind∧i.kind≤9:=by omega
 have hs:=has_ins hkk
 simp only[insOut,Bool.or_eq_true,decide_eq_true_eq,not_or]at ho
 obtain⟨h1,h2,h3,h4,h5,h6⟩:=ho
 refine⟨hkk,by omega,by omega,fun hc=>?_,fun hc=>?_⟩
 ·
  rw[hc]at h5 h6
  simp[insLow,insHigh]at h5 h6
  unfold nOk;omega
 ·
  rw[hc]at h5 h6
  simp[insLow,insHigh]at h5 h6
  omega
theorem wrongDeed_ok {d:Deed}(h:wrongDeed d=0):Deed.Ok d:=by
 obtain⟨h1,h2,h3⟩:=wrong_writes h
 refine⟨fun i hi=>?_,h1,h2,h3⟩
 unfold wrongDeed at h
 by_cases h0:lsGo [d.reads,d.writes]=0
 ·
  rw[if_pos h0]at h
  by_cases hc:12 < d.code.length
  ·
   rw[if_pos hc]at h;simp at h
  ·
   rw[if_neg hc]at h
   obtain⟨j,hj⟩:=List.getElem?_of_mem hi
   exact wrongIns_ok (by omega) (codeGo_mem h j i hj)
 ·
  rw[if_neg h0]at h;exact absurd h h0
theorem addGo_ch {k:Str}{b:Int}{P:Version→Prop}(h0:P ⟨b,false,false,0⟩):∀ {l:List Chain}{dn:Bool}{out:List Chain},(∀ c∈l,∀ v∈c.vs,P v)→(∀ c∈out,∀ v∈c.vs,P v)→∀ c∈addGo k b dn out l,∀ v∈c.vs,P v
 | [],dn,out,_,ho,c,hc=>by
  simp only[addGo]at hc
  split at hc
  ·
   exact ho c hc
  ·
   rcases List.mem_append.1 hc with hc|hc
   ·
    exact ho c hc
   ·
    simp at hc;subst hc;simpa using h0
 |x::l,dn,out,hl,ho,c,hc=>by
  simp only[addGo]at hc
  have h1:∀ (g:Bool),∀ c∈(if g=true then out++[⟨k,[⟨b,false,false,0⟩]⟩] else out),∀ v∈c.vs,P v:=by
   intro g c hc
   split at hc
   ·
    rcases List.mem_append.1 hc with hc|hc
    ·
     exact ho c hc
    ·
     simp at hc;subst hc;simpa using h0
   ·
    exact ho c hc
  have hx:=hl x (List.mem_cons_self ..)
  split at hc
  ·
   refine addGo_ch h0 (fun c hc=>hl c (List.mem_cons_of_mem _ hc)) (fun c hc=>?_) c hc
   rcases List.mem_append.1 hc with hc|hc
   ·
    exact h1 _ c hc
   ·
    simp at hc;subst hc
    intro v hv
    rcases List.mem_append.1 hv with hv|hv
    ·
     exact hx v hv
    ·
     simp at hv;subst hv;exact h0
  ·
   refine addGo_ch h0 (fun c hc=>hl c (List.mem_cons_of_mem _ hc)) (fun c hc=>?_) c hc
   rcases List.mem_append.1 hc with hc|hc
   ·
    exact h1 _ c hc
   ·
    simp at hc;subst hc;exact hx
theorem addC_ok {l:List Chain}(h:chOk l) (k:Str) (b:Int):chOk (addC l k b):=addGo_ch (P:=fun v=>nOk v.n) (by simp[nOk]) h (by simp)
theorem addKeys_ok {b:Int}:∀ {ks:List Str}{l:List Chain},chOk l→chOk (addKeys b l ks)
 | [],l,h=>h
 |k::ks,l,h=>by simp only[addKeys];exact addKeys_ok (addC_ok h k b)
theorem EInv.add1 {e:Engine}{N:Nat}(h:EInv e N) {d:Deed}(hs:d.Sm) (ho:Deed.Ok d):EInv (add1 e d) (N+5):=by
 refine⟨add1_sz h.z hs ho.w,fun x hx=>?_,addKeys_ok h.c⟩
 rcases List.mem_append.1 hx with hx|hx
 ·
  exact h.o x hx
 ·
  simp at hx;subst hx;exact ho
theorem EInv.addAll:∀ {l:List Deed}{e:Engine}{N:Nat},EInv e N→(∀ d∈l,d.Sm∧Deed.Ok d)→EInv (addAll e l) (N+5*l.length)
 | [],e,N,h,_=>h
 |d::l,e,N,h,hl=>by
  have:=EInv.addAll (h.add1 (hl d (List.mem_cons_self ..)).1 (hl d (List.mem_cons_self ..)).2) fun x hx=>hl x (List.mem_cons_of_mem _ hx)
  simp only[RF.addAll,List.length_cons]
  rw[show N+5*(l.length+1)=N+5+5*l.length by omega]
  exact this
theorem EInv.addE {e:Engine}{N:Nat}(h:EInv e N) {l:List Deed}(hs:∀ d∈l,d.Sm) (hw:(addE e l).2=0):EInv (addE e l).1 (N+5*l.length):=by
 unfold RF.addE at hw ⊢
 by_cases h0:wrongs l=0
 ·
  rw[if_pos h0]
  exact h.addAll fun d hd=>⟨hs d hd,wrongDeed_ok (wrongs_mem h0 d hd)⟩
 ·
  rw[if_neg h0]at hw;exact absurd hw h0
theorem newE_inv {r:List Pair}(hr:rowsOk r):EInv (newE r) (r.length+1):=by
 refine⟨⟨by simp[newE],fun c hc=>?_,by simp[newE],by simp[newE],by simp[newE],by simp[newE];omega,by simp[newE]⟩,by simp[newE],fun c hc v hv=>?_⟩
 ·
  obtain⟨p,hp,rfl⟩:=List.mem_map.1 hc
  simp[rowChain]
 ·
  obtain⟨p,hp,rfl⟩:=List.mem_map.1 hc
  simp[rowChain]at hv
  subst hv
  exact hr p hp
theorem doGo_ok {r0:List Pair}(h0:rowsOk r0):∀ {l:List Ins}{sk:Int}{now:List Pair}{e:Done},(∀ i∈l,i.Ok)→rowsOk now→e.Ok→rowsOk (doGo r0 sk now e l).1∧(doGo r0 sk now e l).2.Ok
 | [],sk,now,e,_,hn,he=>⟨hn,he⟩
 |i::l,sk,now,e,hl,hn,he=>by
  have hio:=hl i (List.mem_cons_self ..)
  have ih:=fun(sk:Int) (now:List Pair) (e:Done) (h1:rowsOk now) (h2:e.Ok)=>doGo_ok h0 (l:=l) (sk:=sk) (now:=now) (e:=e) (fun j hj=>hl j (List.mem_cons_of_mem _ hj)) h1 h2
  simp only[doGo]
  split
  ·
   exact ih _ _ _ hn he
  split
  ·
   exact ih _ _ _ hn (rset_ok he _ (get_ok hn _))
  split
  ·
   next hk=>exact ih _ _ _ hn (rset_ok he _ (hio.c hk))
  split
  ·
   exact ih _ _ _ hn (rset_ok he _ (round_ok _))
  split
  ·
   exact ih _ _ _ hn (rset_ok he _ (round_ok _))
  split
  ·
   exact ih _ _ _ hn (rset_ok he _ (round_ok _))
  split
  ·
   exact ih _ _ _ (put_ok hn _ (rget_ok he _) _) he
  split
  ·
   exact ih _ _ _ (put_ok hn _ (by simp[nOk]) _) he
  split
  ·
   exact ih _ _ _ hn he
  split
  ·
   exact⟨h0,⟨he.a,he.b,he.c,he.d⟩⟩
  ·
   exact ih _ _ _ hn he
theorem done0_ok:done0.Ok:=⟨by simp[nOk,done0],by simp[nOk,done0],by simp[nOk,done0],by simp[nOk,done0]⟩
theorem doD_ok {r:List Pair}{d:Deed}(h0:rowsOk r) (hd:Deed.Ok d):rowsOk (doD r d).1:=(doGo_ok h0 hd.i h0 done0_ok).1
theorem set_ok {l:List Chain}(h:chOk l) (k:Str) {v:Version}(hv:nOk v.n):chOk (setChains l k v):=by
 intro c hc w hw
 obtain⟨c0,h0,rfl⟩:=List.mem_map.1 hc
 simp only[setC]at hw
 obtain⟨w0,hw0,rfl⟩:=List.mem_map.1 hw
 unfold setV
 split
 ·
  exact hv
 ·
  exact h c0 h0 w0 hw0
theorem goSets_ok {r:List Pair}(hr:rowsOk r) {b:Int}{M:Nat}:∀ {ks:List Str}{l:List Chain},chOk l→(∀ c∈l,c.vs.length≤M)→chOk (goSets r b l ks)∧(goSets r b l ks).length=l.length∧∀ c∈goSets r b l ks,c.vs.length≤M
 | [],l,h,hv=>⟨h,rfl,hv⟩
 |k::ks,l,h,hv=>by
  simp only[goSets]
  have:=goSets_ok hr (b:=b) (ks:=ks) (set_ok h k (v:=⟨b,true,(RF.get r k).2,(RF.get r k).1⟩) (get_ok hr k)) (set_vs hv)
  refine⟨this.1,by rw[this.2.1];simp[setChains],this.2.2⟩
theorem EInv.goNew {e:Engine}{N:Nat}(h:EInv e N) {A:Nat}{d:Deed}(hd:d∈e.deeds):EInv (goNew e A d) N:=by
 obtain⟨hz,ho,hc⟩:=h
 have hr:=doD_ok (goRows_ok (b:=e.base+A) hc (ks:=keysD d) (r:=[]) (by simp[rowsOk])).1 (ho d hd)
 have:=goSets_ok hr (b:=e.base+A) (ks:=d.writes) hc hz.v
 refine⟨⟨?_,this.2.2,hz.d,?_,?_,hz.b,hz.dd⟩,ho,this.1⟩
 ·
  show(goSets _ _ _ _).length≤N
  rw[goDone,this.2.1];exact hz.c
 ·
  simp[Proofs.YtngnajknbeijjaaGreatDoor.goNew];exact hz.s
 ·
  simp[Proofs.YtngnajknbeijjaaGreatDoor.goNew];exact hz.n
theorem EInv.goE {e:Engine}{N:Nat}(h:EInv e N) (at_:Int):EInv (goE e at_).1 N:=by
 unfold Proofs.YtngnajknbeijjaaGreatDoor.goE
 split
 ·
  exact h
 unfold goAt
 cases hA:e.deeds[at_.toNat]? with
 |none=>exact h
 |some d =>
  dsimp only
  split
  ·
   exact h
  split
  ·
   exact h.goNew (List.mem_of_getElem? hA)
  ·
   exact h
theorem clrV_sub {b:Int}:∀ {l:List Version}{v:Version},v∈clrV b l→v∈l
 | [],v,h=>by simp[clrV]at h
 |x::l,v,h=>by
  simp only[clrV]at h
  split at h
  ·
   exact List.mem_cons_of_mem _ (clrV_sub h)
  ·
   rcases List.mem_cons.1 h with rfl|h
   ·
    exact List.mem_cons_self ..
   ·
    exact List.mem_cons_of_mem _ (clrV_sub h)
theorem clrV_len {b:Int}:∀ (l:List Version),(clrV b l).length≤l.length
 | []=>by simp[clrV]
 |x::l=>by
  have:=clrV_len (b:=b) l
  simp only[clrV]
  split <;> simp <;> omega
theorem clear_mem {b:Int}:∀ {l:List Chain}{c:Chain},c∈clear b l→∃ c0∈l,c=⟨c0.key,clrV b c0.vs⟩
 | [],c,h=>by simp[clear]at h
 |x::l,c,h=>by
  simp only[clear]at h
  split at h
  ·
   obtain⟨c0,h0,h1⟩:=clear_mem h
   exact⟨c0,List.mem_cons_of_mem _ h0,h1⟩
  ·
   rcases List.mem_cons.1 h with rfl|h
   ·
    exact⟨x,List.mem_cons_self ..,rfl⟩
   ·
    obtain⟨c0,h0,h1⟩:=clear_mem h
    exact⟨c0,List.mem_cons_of_mem _ h0,h1⟩
theorem clear_len {b:Int}:∀ (l:List Chain),(clear b l).length≤l.length
 | []=>by simp[clear]
 |x::l=>by
  have:=clear_len (b:=b) l
  simp only[clear]
  split <;> simp <;> omega
theorem EInv.clearE {e:Engine}{N:Nat}(h:EInv e N):EInv (clearE e) N:=by
 obtain⟨hz,ho,hc⟩:=h
 have hm:=markN_le e.state
 have hsl:=hz.s
 have hnl:=hz.n
 have hd:=hz.d
 have hb:=hz.b
 refine⟨⟨?_,fun c hcc=>?_,?_,?_,?_,?_,fun d hd=>hz.dd d (List.mem_of_mem_drop hd)⟩,fun d hd=>ho d (List.mem_of_mem_drop hd),fun c hcc v hv=>?_⟩
 ·
  have:=clear_len (b:=e.base+markN e.state) e.chains
  have:=hz.c
  simp only[RF.clearE];omega
 ·
  obtain⟨c0,h0,rfl⟩:=clear_mem hcc
  have:=clrV_len (b:=e.base+markN e.state) c0.vs
  have:=hz.v c0 h0
  simp only[];omega
 ·
  simp only[RF.clearE,List.length_drop];omega
 ·
  simp only[RF.clearE,List.length_drop];omega
 ·
  simp only[RF.clearE,List.length_drop];omega
 ·
  simp only[RF.clearE,List.length_drop];omega
 ·
  obtain⟨c0,h0,rfl⟩:=clear_mem hcc
  exact hc c0 h0 v (clrV_sub hv)
def pickE (e:Engine) (n:Int):Engine:=if n=7 then clearE e else if n < 0 then e else match (ready e)[n.toNat]? with
 |some x=>(goE e x).1
 |none=>e
def pickGo:Nat→Engine→List Int→Engine×List Int
 |0,e,p=>(e,p)
 |_+1,e,[]=>(e,[])
 |k+1,e,n::p=>pickGo k (pickE e n) p
def batchE (e:Engine) (b:List Deed):Engine:=if (addE e b).2=0 then (addE e b).1 else e
def buildGo:Engine→List (List Deed)→List Int→Engine
 |e,[],_=>e
 |e,b::bs,p=>buildGo (pickGo 3 (batchE e b) p).1 bs (pickGo 3 (batchE e b) p).2
def buildE (r:List Pair) (bs:List (List Deed)) (p:List Int):Engine:=buildGo (newE r) bs p
def sumLen:List (List Deed)→Nat
 | []=>0
 |b::bs=>b.length+sumLen bs
theorem EInv.pickE {e:Engine}{N:Nat}(h:EInv e N) (n:Int):EInv (pickE e n) N:=by
 unfold Proofs.YtngnajknbeijjaaGreatDoor.pickE
 split
 ·
  exact h.clearE
 split
 ·
  exact h
 split
 ·
  exact h.goE _
 ·
  exact h
theorem EInv.batchE {e:Engine}{N:Nat}(h:EInv e N) {b:List Deed}(hs:∀ d∈b,d.Sm):EInv (batchE e b) (N+5*b.length):=by
 unfold Proofs.YtngnajknbeijjaaGreatDoor.batchE
 split
 ·
  next hw=>exact h.addE hs hw
 ·
  exact h.mono (by omega)
theorem EInv.pickGo:∀ {k:Nat}{e:Engine}{p:List Int}{N:Nat},EInv e N→EInv (pickGo k e p).1 N
 |0,e,p,N,h=>h
 |k+1,e,[],N,h=>h
 |k+1,e,n::p,N,h=>by
  simp only[Proofs.YtngnajknbeijjaaGreatDoor.pickGo]
  exact EInv.pickGo (h.pickE n)
theorem EInv.buildGo:∀ {bs:List (List Deed)}{e:Engine}{p:List Int}{N:Nat},EInv e N→(∀ b∈bs,∀ d∈b,d.Sm)→EInv (buildGo e bs p) (N+5*sumLen bs)
 | [],e,p,N,h,_=>h
 |b::bs,e,p,N,h,hb=>by
  simp only[Proofs.YtngnajknbeijjaaGreatDoor.buildGo,sumLen]
  have:=EInv.buildGo (p:=(Proofs.YtngnajknbeijjaaGreatDoor.pickGo 3 (Proofs.YtngnajknbeijjaaGreatDoor.batchE e b) p).2) ((h.batchE (hb b (List.mem_cons_self ..))).pickGo (k:=3) (p:=p)) fun x hx=>hb x (List.mem_cons_of_mem _ hx)
  rw[show N+5*(b.length+sumLen bs)=N+5*b.length+5*sumLen bs by omega]
  exact this
theorem sumLen_at:∀ {bs:List (List Deed)}{j:Nat}{b:List Deed},bs[j]? = some b→b.length+sumLen (bs.drop (j+1))=sumLen (bs.drop j)
 | [],j,b,h=>by simp at h
 |x::bs,0,b,h=>by simp at h;subst h;simp[sumLen]
 |x::bs,j+1,b,h=>by simpa using sumLen_at (bs:=bs) (j:=j) (by simpa using h)
theorem readyGo_len {e:Engine}:∀ (l:List Int) (i:Nat),(readyGo e i l).length≤l.length
 | [],i=>by simp[readyGo]
 |s::l,i=>by
  have:=readyGo_len (e:=e) l (i+1)
  simp only[readyGo]
  split <;> simp <;> omega
theorem ok_rBuild (r:List Pair) (bs:List (List Deed)) (p:List Int) (hr:rowsOk r) (hrl:r.length≤10000000) (hb:∀ b∈bs,b.length≤10000000∧∀ d∈b,d.Sm) (hbl:bs.length≤10000000) (hsum:sumLen bs≤10000000) (hp:p.length≤10000000) :
  FnOk Tryz.prog 9 [.d (encRows r),.d (encBatches bs),.d (encInts p)] (.one (.agg (buildE r bs p).enc)):=by
 refine fnOk_of tbl_ok mixed_ok Tryz.func9 rfl (by kernel_rfl) rfl rfl fun w0 own0=>?_
 have cn:=ok_new r (by omega)
 try refine wk ?_
 refine CW.loopT (fun t:Nat×Engine×List Int=>[sp 6 0,ob 0 noE.enc0,sp 7 1,ob 1 t.2.1.enc,sd 2 (encInts t.2.2),sd 17 (encBatches bs),sd 18 (dint bs.length),sd 19 (dint t.1),nxt 2])
  (fun t=>t.1≤bs.length∧t.2.2.length≤10000000∧(∃ M,M+5*sumLen (bs.drop t.1)≤90000000∧EInv t.2.1 M)∧buildGo t.2.1 (bs.drop t.1) t.2.2=buildE r bs p) (fun t=>bs.length - t.1) (0,newE r,p)
  ⟨by omega,hp,⟨r.length+1,by simp;omega,newE_inv hr⟩,rfl⟩ ?_ ?_
 ·
  exact by_less
 ·
  rintro ⟨i,e,q⟩ ⟨hi,hq,⟨M,hM,hE⟩,hI⟩
  dsimp only at hi hq hM hE hI ⊢
  rcases drop_case hi with ⟨h1,h2⟩|⟨b,h1,h2,h3⟩
  ·
   rw[h1]at hI
   simp only[buildGo]at hI
   try refine wk ?_
   exact .one (.cell rfl rfl rfl rfl (.aggd (ds:=e.enc) rfl (dle_eq (by rw[hI]))))
  ·
   have hsl:=sumLen_at h2
   rw[h1]at hI
   simp only[buildGo]at hI
   obtain⟨hbl1,hbs⟩:=hb b (List.mem_of_getElem? h2)
   have ca:=ok_addE e b M hE.z hbs (by omega) (by omega)
   have hE2:EInv (batchE e b) (M+5*b.length):=hE.batchE hbs
   have hM2:M+5*b.length+5*sumLen (bs.drop (i+1))≤90000000:=by omega
   have hst0:StopA 5:=⟨rfl⟩
   try refine wkS ?_
   clear hst0
   refine Stop.cutk [ob 1 (batchE e b).enc] [.s 6,.o 0,.s 7,.s 2,.s 17,.s 18,.s 19,.nx] ?_ ?_
   ·
    unfold batchE
    by_cases h0:(addE e b).2=0
    ·
     rw[if_pos h0]
     try refine wk ?_
     refine q_cut ?_
     exact by_less
    ·
     rw[if_neg h0]
     try refine wk ?_
     refine q_cut ?_
     exact by_less
   generalize M+5*b.length=M2 at hE2 hM2
   generalize batchE e b=e2 at hE2 hI
   clear ca hE hM h1
   try refine wk ?_
   refine CW.loopT (fun t:Nat×Engine×List Int=>[sp 6 0,ob 0 noE.enc0,sp 7 1,ob 1 t.2.1.enc,sd 2 (encInts t.2.2),sd 17 (encBatches bs),sd 18 (dint bs.length),sd 19 (dint i),sd 32 (dint t.1),nxt 2])
    (fun t=>t.1≤3∧t.2.2.length≤10000000∧EInv t.2.1 M2∧pickGo (3 - t.1) t.2.1 t.2.2=pickGo 3 e2 q) (fun t=>3 - t.1) (0,e2,q) ⟨by omega,hq,hE2,rfl⟩ ?_ ?_
   ·
    exact by_less
   ·
    rintro ⟨k,e,q'⟩ ⟨hk,hq',hE,hK⟩
    dsimp only at hk hq' hE hK ⊢
    by_cases k3:k=3
    ·
     subst k3
     simp only[Nat.sub_self,pickGo]at hK
     rw[← hK]at hI
     dsimp only at hI
     try refine wk ?_
     refine q_loopT (i+1,e,q') ⟨by dsimp only;omega,hq',⟨M2,hM2,hE⟩,hI⟩ (by dsimp only;omega) ?_
     exact by_less
    obtain⟨j,hj⟩:∃ j,3 - k=j+1:=⟨2 - k,by omega⟩
    rw[hj]at hK
    cases q' with
    |nil =>
     simp only[pickGo]at hK
     rw[← hK]at hI
     dsimp only at hI
     try refine wk ?_
     refine q_loopT (i+1,e,[]) ⟨by dsimp only;omega,by simp,⟨M2,hM2,hE⟩,hI⟩ (by dsimp only;omega) ?_
     exact by_less
    |cons n q' =>
     simp only[pickGo]at hK
     have hn0:¬ (n::q').length=0:=by simp
     have hp0:(n::q')[0]? = some n:=rfl
     have hsm:=hE.z.sm (by omega)
     have cr:=ok_ready e hsm hE.z.s
     have cc:=ok_clearE e hsm hE.z.s hE.z.n
     have hrl2:(ready e).length≤100000000:=by
      have:=readyGo_len (e:=e) e.state 0
      have h5:=hE.z.d
      have h6:=hE.z.s
      unfold ready;omega
     have hEn:=hE.pickE n
     have hql:q'.length≤10000000:=by simp at hq';omega
     have hjk:j=3 - (k+1):=by omega
     subst hjk
     by_cases n7:n=7
     ·
      rw[pickE,if_pos n7]at hK hEn
      repeat(first|refine wa ?_|((with_reducible apply s5);(first|((with_reducible apply a_ia);(iterate 5 exact rfl);exact idx_map (k:=0) hp0)|((with_reducible apply a_from);(iterate 5 exact rfl);exact cut_from (n:=1) (by simp))|exact by_oa|exact by_ca);exact by_g)|refine wb ?_)
      refine q_loopT (k+1,clearE e,q') ⟨by dsimp only;omega,hql,hEn,hK⟩ (by dsimp only;omega) ?_
      exact by_less
     rw[pickE,if_neg n7]at hK hEn
     by_cases n0:n < 0
     ·
      rw[if_pos n0]at hK hEn
      repeat(first|refine wa ?_|((with_reducible apply s5);(first|((with_reducible apply a_ia);(iterate 5 exact rfl);exact idx_map (k:=0) hp0)|((with_reducible apply a_from);(iterate 5 exact rfl);exact cut_from (n:=1) (by simp))|exact by_oa|exact by_ca);exact by_g)|refine wb ?_)
      refine q_loopT (k+1,e,q') ⟨by dsimp only;omega,hql,hEn,hK⟩ (by dsimp only;omega) ?_
      exact by_less
     rw[if_neg n0]at hK hEn
     obtain⟨m,rfl⟩:=Int.eq_ofNat_of_zero_le (show 0≤n by omega)
     rw[Int.toNat_natCast]at hK hEn
     by_cases hm:m < (ready e).length
     ·
      obtain⟨x,hx⟩:∃ x,(ready e)[m]? = some x:=⟨(ready e)[m],List.getElem?_eq_getElem hm⟩
      rw[hx]at hK hEn
      dsimp only at hK hEn
      have cg:=ok_go e x M2 hE.z (by omega) hE.o hE.c
      repeat(first|refine wa ?_|((with_reducible apply s5);(first|((with_reducible apply a_ia);(iterate 5 exact rfl);exact idx_map (k:=0) hp0)|((with_reducible apply a_from);(iterate 5 exact rfl);exact cut_from (n:=1) (by simp))|exact by_oa|exact by_ca);exact by_g)|refine wb ?_)
      refine q_loopT (k+1,(goE e x).1,q') ⟨by dsimp only;omega,hql,hEn,hK⟩ (by dsimp only;omega) ?_
      exact by_less
     ·
      rw[List.getElem?_eq_none (by omega)]at hK hEn
      dsimp only at hK hEn
      repeat(first|refine wa ?_|((with_reducible apply s5);(first|((with_reducible apply a_ia);(iterate 5 exact rfl);exact idx_map (k:=0) hp0)|((with_reducible apply a_from);(iterate 5 exact rfl);exact cut_from (n:=1) (by simp))|exact by_oa|exact by_ca);exact by_g)|refine wb ?_)
      refine q_loopT (k+1,e,q') ⟨by dsimp only;omega,hql,hEn,hK⟩ (by dsimp only;omega) ?_
      exact by_less
def lastGo (b:Int):Nat→Int→List Version→Int
 |_,la,[]=>la
 |k,la,v::r=>lastGo b (k+1) (if v.by_ < b then (k:Int) else la) r
def keepB (la:Int) (k:Nat) (v:Version):Bool:=decide (la≤k) && !(decide ((k:Int)=la)&&(v.made && !v.has))
def keepGo (la:Int):Nat→List Version→List Version
 |_,[]=>[]
 |k,v::r=>if keepB la k v=true then v::keepGo la (k+1) r else keepGo la (k+1) r
def pclrV (b:Int) (l:List Version):List Version:=keepGo (lastGo b 0 (-1) l) 0 l
def pclear (b:Int):List Chain→List Chain
 | []=>[]
 |c::r=>if pclrV b c.vs=[] then pclear b r else ⟨c.key,pclrV b c.vs⟩::pclear b r
theorem ok_pclear (l:List Chain) (b:Int) (hl:l.length≤268435456) (hv:∀ c∈l,c.vs.length≤268435456):FnOk Tryz.prog 91 [.d (encChains l),.d (dint b)] (.one (encChains (pclear b l))):=by
 refine fnOk_of tbl_ok mixed_ok Tryz.func91 rfl (by kernel_rfl) rfl rfl fun w0 own0=>?_
 try refine wk ?_
 refine CW.stut (stut_promote (i:=5) 80 2) ⟨rfl,rfl,trivial⟩ ?_
 refine CW.loopT (fun t:Nat×List Chain=>[sd 1 (dint b),so 5 0 t.2.length,oa 0 80 2 (t.2.map Chain.enc),sd 14 (encChains l),sd 15 (dint l.length),sd 16 (dint t.1),nxt 1])
  (fun t=>t.1≤l.length∧t.2.length≤t.1∧t.2++pclear b (l.drop t.1)=pclear b l) (fun t=>l.length - t.1) (0,[]) ⟨by omega,by simp,rfl⟩ ?_ ?_
 ·
  exact by_less
 ·
  rintro ⟨i,out⟩ ⟨hi,ho,hI⟩
  dsimp only at hi ho hI ⊢
  rcases drop_case hi with ⟨h1,h2⟩|⟨c,h1,h2,h3⟩
  ·
   rw[h1,pclear,List.append_nil]at hI
   try refine wk ?_
   rw[← hI]
   exact .one (.tmp rfl (.one (.own rfl (by simp) (.refl _))))
  ·
   rw[h1,pclear]at hI
   have hcv:=hv c (List.mem_of_getElem? h2)
   try refine wk ?_
   refine CW.loopT (fun t:Nat×Int=>[sd 1 (dint b),so 5 0 out.length,oa 0 80 2 (out.map Chain.enc),sd 14 (encChains l),sd 15 (dint l.length),sd 16 (dint i),sp 7 1,ob 1 c.enc,sd 8 (dint t.2),sd 21 (encVs c.vs),sd 22 (dint c.vs.length),sd 23 (dint t.1),nxt 2])
    (fun t=>t.1≤c.vs.length∧lastGo b t.1 t.2 (c.vs.drop t.1)=lastGo b 0 (-1) c.vs) (fun t=>c.vs.length - t.1) (0,-1) ⟨by omega,rfl⟩ ?_ ?_
   ·
    exact by_less
   ·
    rintro ⟨j,la⟩ ⟨hj,hJ⟩
    dsimp only at hj hJ ⊢
    rcases drop_case hj with ⟨h5,h6⟩|⟨x,h5,h6,h7⟩
    ·
     rw[h5,lastGo]at hJ
     rw[pclrV,← hJ]at hI
     clear hJ h5
     try refine wk ?_
     refine CW.stut (stut_promote (i:=11) 77 4) ⟨rfl,rfl,trivial⟩ ?_
     refine CW.loopT (fun t:Nat×List Version=>[sd 1 (dint b),so 5 0 out.length,oa 0 80 2 (out.map Chain.enc),sd 14 (encChains l),sd 15 (dint l.length),sd 16 (dint i),sp 7 1,ob 1 c.enc,sd 8 (dint la),so 11 2 t.2.length,oa 2 77 4 (t.2.map Version.enc),sd 35 (encVs c.vs),sd 36 (dint c.vs.length),sd 37 (dint t.1),nxt 3])
      (fun t=>t.1≤c.vs.length∧t.2.length≤t.1∧t.2++keepGo la t.1 (c.vs.drop t.1)=keepGo la 0 c.vs) (fun t=>c.vs.length - t.1) (0,[]) ⟨by omega,by simp,rfl⟩ ?_ ?_
     ·
      exact by_less
     ·
      rintro ⟨k,vs⟩ ⟨hk,hvs,hK⟩
      dsimp only at hk hvs hK ⊢
      rcases drop_case hk with ⟨g1,g2⟩|⟨x,g1,g2,g3⟩
      ·
       rw[g1,keepGo,List.append_nil]at hK
       rw[← hK]at hI
       have hst0:StopR 19:=⟨rfl⟩
       try refine wkS ?_
       clear hst0
       refine Stop.go (CW.stut (stut_freeze (i:=11) (id:=2) (by simp)) ⟨rfl,rfl,trivial⟩ ?_)
       cases vs with
       |nil =>
        rw[if_pos rfl]at hI
        try refine wk ?_
        refine q_loopT (i+1,out) ⟨by dsimp only;omega,by dsimp only;omega,hI⟩ (by dsimp only;omega) ?_
        exact by_less
       |cons v0 vs =>
        rw[if_neg (by simp)]at hI
        try refine wk ?_
        refine q_loopT (i+1,out++[⟨c.key,v0::vs⟩]) ⟨by dsimp only;omega,by dsimp only;simp;omega,by rw[← hI];simp⟩ (by dsimp only;omega) ?_
        exact by_less
      ·
       rw[g1,keepGo]at hK
       obtain⟨xb,xm,xh,xn⟩:=x
       have hyes:keepB la k ⟨xb,xm,xh,xn⟩=true→(vs++[⟨xb,xm,xh,xn⟩])++keepGo la (k+1) (c.vs.drop (k+1))=keepGo la 0 c.vs:=fun e=>by
        rw[if_pos e]at hK;rw[← hK];simp
       have hno:keepB la k ⟨xb,xm,xh,xn⟩=false→vs++keepGo la (k+1) (c.vs.drop (k+1))=keepGo la 0 c.vs:=fun e=>by
        rw[if_neg (by rw[e];simp)]at hK;exact hK
       clear hK
       by_cases e1:la≤(k:Int)
       ·
        by_cases e2:(k:Int)=la
        ·
         cases xm
         ·
          try refine wk ?_
          refine q_loopT (k+1,vs++[⟨xb,false,xh,xn⟩]) ⟨by dsimp only;omega,by dsimp only;simp;omega,hyes (by simp[keepB,e1])⟩ (by dsimp only;omega) ?_
          exact by_less
         ·
          cases xh
          ·
           try refine wk ?_
           refine q_loopT (k+1,vs) ⟨by dsimp only;omega,by dsimp only;omega,hno (by simp[keepB,e2])⟩ (by dsimp only;omega) ?_
           exact by_less
          ·
           try refine wk ?_
           refine q_loopT (k+1,vs++[⟨xb,true,true,xn⟩]) ⟨by dsimp only;omega,by dsimp only;simp;omega,hyes (by simp[keepB,e1])⟩ (by dsimp only;omega) ?_
           exact by_less
        ·
         try refine wk ?_
         refine q_loopT (k+1,vs++[⟨xb,xm,xh,xn⟩]) ⟨by dsimp only;omega,by dsimp only;simp;omega,hyes (by simp[keepB,e1,e2])⟩ (by dsimp only;omega) ?_
         exact by_less
       ·
        try refine wk ?_
        refine q_loopT (k+1,vs) ⟨by dsimp only;omega,by dsimp only;omega,hno (by simp[keepB,e1])⟩ (by dsimp only;omega) ?_
        exact by_less
    ·
     rw[h5,lastGo]at hJ
     by_cases h8:x.by_ < b
     ·
      rw[if_pos h8]at hJ
      try refine wk ?_
      refine q_loopT (j+1,(j:Int)) ⟨by dsimp only;omega,hJ⟩ (by dsimp only;omega) ?_
      exact by_less
     ·
      rw[if_neg h8]at hJ
      try refine wk ?_
      refine q_loopT (j+1,la) ⟨by dsimp only;omega,hJ⟩ (by dsimp only;omega) ?_
      exact by_less
theorem ok_of (l:List Pair) (hl:l.length≤134217728):FnOk Tryz.prog 39 [.d (encRows l)] (.one (encChains (l.map rowChain))):=by
 refine fnOk_of tbl_ok mixed_ok Tryz.func39 rfl (by kernel_rfl) rfl rfl fun w0 own0=>?_
 try refine wk ?_
 refine CW.stut (stut_promote (i:=3) 80 2) ⟨rfl,rfl,trivial⟩ ?_
 refine CW.loopT (fun i:Nat=>[sd 6 (encRows l),sd 7 (dint l.length),sd 8 (dint i),so 3 0 i,oa 0 80 2 ((l.take i).map fun p=>(rowChain p).enc),nxt 1]) (fun i=>i≤l.length) (fun i=>l.length - i) 0 (by omega) ?_ ?_
 ·
  exact by_less
 ·
  rintro i hi
  rcases drop_case hi with ⟨h1,h2⟩|⟨p,h1,h2,h3⟩
  ·
   try refine wk ?_
   exact .one (.tmp rfl (.one (.own rfl (by simp;omega) (dle_eq (by rw[h2,List.take_length];simp[encChains])))))
  ·
   have h4:(l.take i).map (fun p=>(rowChain p).enc)++[(rowChain p).enc]=(l.take (i+1)).map fun p=>(rowChain p).enc:=by rw[List.take_add_one,h2];simp
   try refine wk ?_
   refine q_loopT (i+1) (by omega) (by omega) ?_
   exact by_less
theorem ok_tmark (e:Engine) (hs:e.state.length≤134217728):FnOk Tryz.prog 70 [.d (.agg e.enc)] (.one (dint (markN e.state))):=by
 refine fnOk_of tbl_ok mixed_ok Tryz.func70 rfl (by kernel_rfl) rfl rfl fun w0 own0=>?_
 try refine wk ?_
 refine CW.loopT (fun i:Nat=>[sp 1 0,ob 0 e.enc,sd 6 (encInts e.state),sd 7 (dint e.state.length),sd 8 (dint i),nxt 1]) (fun i=>i≤e.state.length∧i+markN (e.state.drop i)=markN e.state) (fun i=>e.state.length - i) 0 ⟨by omega,by simp⟩ ?_ ?_
 ·
  exact by_less
 ·
  rintro i ⟨hi,hI⟩
  rcases drop_case hi with ⟨h1,h2⟩|⟨s,h1,h2,h3⟩
  ·
   rw[h1]at hI
   simp only[markN]at hI
   try refine wk ?_
   exact .one (.tmp rfl (.one (.d (dle_int (by simp;omega)))))
  ·
   rw[h1]at hI
   simp only[markN]at hI
   by_cases h4:s=1
   ·
    rw[if_pos h4]at hI
    try refine wk ?_
    refine q_loopT (i+1) ⟨by omega,by omega⟩ (by omega) ?_
    exact by_less
   ·
    rw[if_neg h4]at hI
    try refine wk ?_
    exact .one (.tmp rfl (.one (.d (dle_int (by omega)))))
def VSrt (l:List Version):Prop:=l.Pairwise fun a b=>a.by_ < b.by_
theorem VSrt.cons {v:Version}{l:List Version}:VSrt (v::l)↔(∀ w∈l,v.by_ < w.by_)∧VSrt l:=List.pairwise_cons
theorem lastGo_ge {b:Int}:∀ {l:List Version}{k:Nat}{la:Int},(∀ v∈l,b≤v.by_)→lastGo b k la l=la
 | [],k,la,_=>rfl
 |v::l,k,la,h=>by
  have:=h v (List.mem_cons_self ..)
  simp only[lastGo]
  rw[if_neg (by omega)]
  exact lastGo_ge fun w hw=>h w (List.mem_cons_of_mem _ hw)
theorem lastGo_le {b:Int}:∀ (l:List Version) {k:Nat}{la:Int},la < k→la≤lastGo b k la l
 | [],k,la,_=>Int.le_refl _
 |v::l,k,la,h=>by
  simp only[lastGo]
  split
  ·
   have:=lastGo_le (b:=b) l (k:=k+1) (la:=(k:Int)) (by omega);omega
  ·
   exact lastGo_le l (by omega)
theorem keepGo_all:∀ {l:List Version}{k:Nat}{la:Int},la < k→keepGo la k l=l
 | [],k,la,_=>rfl
 |v::l,k,la,h=>by
  simp only[keepGo]
  rw[if_pos (by simp[keepB];omega),keepGo_all (by omega)]
theorem clrV_all {b:Int}:∀ {l:List Version},(∀ v∈l,b≤v.by_)→clrV b l=l
 | [],_=>rfl
 |v::l,h=>by
  have:=h v (List.mem_cons_self ..)
  simp only[clrV]
  rw[if_neg (by simp[old];omega),clrV_all fun w hw=>h w (List.mem_cons_of_mem _ hw)]
theorem pclr_go {b:Int}:∀ {l:List Version}{k:Nat}{la:Int},VSrt l→la < k→keepGo (lastGo b k la l) k l=clrV b l
 | [],k,la,_,_=>rfl
 |v::l,k,la,hs,hk=>by
  obtain⟨h1,h2⟩:=VSrt.cons.1 hs
  by_cases hv:v.by_ < b
  ·
   cases l with
   |nil =>
    simp only[lastGo,if_pos hv,keepGo,clrV]
    cases hm:v.made <;> cases hh:v.has <;> simp[keepB,old,later,hv,hm,hh]
   |cons w l =>
    have ih:=pclr_go (b:=b) (l:=w::l) (k:=k+1) (la:=(k:Int)) h2 (by omega)
    have hl:lastGo b k la (v::w::l)=lastGo b (k+1) k (w::l):=by rw[lastGo,if_pos hv]
    rw[hl]
    by_cases hw:w.by_ < b
    ·
     have h3:(k:Int) < lastGo b (k+1) k (w::l):=by
      rw[lastGo,if_pos hw]
      have:=lastGo_le (b:=b) l (k:=k+1+1) (la:=((k+1:Nat):Int)) (by omega)
      omega
     rw[keepGo,if_neg (by simp[keepB];omega),ih,clrV.eq_2 b v (w::l),if_pos (by simp[old,later,hv,hw])]
    ·
     have hge:∀ x∈w::l,b≤x.by_:=fun x hx=>by
      rcases List.mem_cons.1 hx with rfl|hx
      ·
       omega
      ·
       have:=(VSrt.cons.1 h2).1 x hx;omega
     rw[lastGo_ge hge,keepGo,keepGo_all (by omega),clrV.eq_2 b v (w::l),clrV_all hge]
     cases hm:v.made <;> cases hh:v.has <;> simp[keepB,old,later,hv,hw,hm,hh]
  ·
   have hge:∀ x∈v::l,b≤x.by_:=fun x hx=>by
    rcases List.mem_cons.1 hx with rfl|hx
    ·
     omega
    ·
     have:=h1 x hx;omega
   rw[lastGo_ge hge,keepGo_all hk,clrV_all hge]
theorem pclrV_eq {b:Int}{l:List Version}(hs:VSrt l):pclrV b l=clrV b l:=pclr_go hs (by omega)
theorem pclear_eq {b:Int}:∀ {l:List Chain},(∀ c∈l,VSrt c.vs)→pclear b l=clear b l
 | [],_=>rfl
 |c::l,h=>by
  simp only[pclear,clear]
  rw[pclrV_eq (h c (List.mem_cons_self ..)),pclear_eq fun d hd=>h d (List.mem_cons_of_mem _ hd)]
theorem allB_refl {α:Type}{f:α→α→Bool}(hf:∀ a,f a a=true):∀ l:List α,allB f l l=true
 | []=>rfl
 |a::l=>by simp[allB,hf,allB_refl hf l]
theorem sameC_refl (c:Chain):sameC c c=true:=by simp[sameC,allB_refl]
theorem sameE_refl (e:Engine):sameE e e=true:=by
 simp[sameE,allB_refl,sameC_refl]
theorem wrongRowsGo_srt:∀ {l:List Pair}{i:Nat}{last:Str},wrongRowsGo (i+1) last l=0→(∀ p∈l,slt last p.key=true∧key p.key=true∧nOk p.n)∧Srt Pair.key l
 | [],i,last,_=>⟨by simp,List.Pairwise.nil⟩
 |p::l,i,last,h=>by
  simp only[wrongRowsGo]at h
  by_cases h1:key p.key=false
  ·
   rw[if_pos h1]at h;simp at h
  rw[if_neg h1]at h
  by_cases h2:0 < i+1∧sle p.key last=true
  ·
   rw[if_pos h2]at h;simp at h
  rw[if_neg h2]at h
  by_cases h3:1073741824 < p.n∨p.n < -1073741824
  ·
   rw[if_pos h3]at h;simp at h
  rw[if_neg h3]at h
  obtain⟨h4,h5⟩:=wrongRowsGo_srt h
  have h6:slt last p.key=true:=by
   have h7:¬ sle p.key last=true:=fun e=>h2 ⟨by omega,e⟩
   simp only[sle,Bool.or_eq_true,decide_eq_true_eq,not_or]at h7
   rcases slt_tri last p.key with h|h|h
   ·
    exact h
   ·
    exact absurd h.symm h7.2
   ·
    exact absurd h h7.1
  refine⟨fun q hq=>?_,List.pairwise_cons.2 ⟨fun q hq=>(h4 q hq).1,h5⟩⟩
  rcases List.mem_cons.1 hq with rfl|hq
  ·
   exact⟨h6,by simpa using h1,by unfold nOk;omega⟩
  ·
   exact⟨slt_trans h6 (h4 q hq).1,(h4 q hq).2⟩
theorem wrongRows_srt {l:List Pair}(h:wrongRows l=0):Srt Pair.key l∧(∀ p∈l,key p.key=true)∧rowsOk l:=by
 cases l with
 |nil=>exact⟨List.Pairwise.nil,by simp,by simp[rowsOk]⟩
 |cons p l =>
  simp only[wrongRows,wrongRowsGo]at h
  by_cases h1:key p.key=false
  ·
   rw[if_pos h1]at h;simp at h
  rw[if_neg h1,if_neg (by simp)]at h
  by_cases h3:1073741824 < p.n∨p.n < -1073741824
  ·
   rw[if_pos h3]at h;simp at h
  rw[if_neg h3]at h
  obtain⟨h4,h5⟩:=wrongRowsGo_srt h
  refine⟨List.pairwise_cons.2 ⟨fun q hq=>(h4 q hq).1,h5⟩,fun q hq=>?_,fun q hq=>?_⟩
  ·
   rcases List.mem_cons.1 hq with rfl|hq
   ·
    simpa using h1
   ·
    exact(h4 q hq).2.1
  ·
   rcases List.mem_cons.1 hq with rfl|hq
   ·
    unfold nOk;omega
   ·
    exact(h4 q hq).2.2
def newV (b:Int):Version:=⟨b,false,false,0⟩
def addS (k:Str) (b:Int):List Chain→List Chain
 | []=>[⟨k,[newV b]⟩]
 |c::r=>if c.key=k then ⟨c.key,c.vs++[newV b]⟩::r else if slt c.key k=true then c::addS k b r else ⟨k,[newV b]⟩::c::r
theorem addGo_done {k:Str}{b:Int}:∀ {l out:List Chain},(∀ c∈l,c.key≠k)→addGo k b true out l=out++l
 | [],out,_=>by simp[addGo]
 |c::l,out,h=>by
  simp only[addGo]
  rw[if_neg (h c (List.mem_cons_self ..))]
  simp only[Bool.not_true,Bool.false_and,Bool.true_or]
  rw[addGo_done fun d hd=>h d (List.mem_cons_of_mem _ hd)]
  simp
theorem addGo_srt {k:Str}{b:Int}:∀ {l out:List Chain},Srt Chain.key l→addGo k b false out l=out++addS k b l
 | [],out,_=>by simp[addGo,addS,newV]
 |c::l,out,hs=>by
  obtain⟨h1,h2⟩:=List.pairwise_cons.1 hs
  simp only[addGo,addS]
  by_cases hk:c.key=k
  ·
   rw[if_pos hk,if_pos hk]
   simp only[hk,slt_irrefl,decide_true,Bool.or_true,Bool.not_true,Bool.and_false]
   rw[addGo_done fun d hd=>?_]
   ·
    simp[newV]
   ·
    have:=h1 d hd
    rw[hk]at this
    exact fun e=>slt_ne this e.symm
  ·
   rw[if_neg hk,if_neg hk]
   cases hl:slt c.key k with
   |true =>
    simp only[Bool.true_or,Bool.not_true,Bool.and_false,Bool.or_false]
    rw[addGo_srt h2]
    simp
   |false =>
    simp only[hk,decide_false,Bool.or_false,Bool.not_false,Bool.and_true,Bool.false_or]
    rw[addGo_done fun d hd=>?_]
    ·
     simp[newV]
    ·
     have h3:=h1 d hd
     intro e
     rcases slt_tri c.key k with h|h|h
     ·
      rw[hl]at h;cases h
     ·
      exact hk h
     ·
      rw[e]at h3
      have:=slt_trans h h3
      rw[slt_irrefl]at this;cases this
theorem addC_srt {k:Str}{b:Int}{l:List Chain}(hs:Srt Chain.key l):addC l k b=addS k b l:=by
 unfold addC
 rw[addGo_srt hs]
 rfl
theorem addS_mem {k:Str}{b:Int}:∀ {l:List Chain}{c:Chain},c∈addS k b l→c∈l∨c=⟨k,[newV b]⟩∨∃ c0∈l,c0.key=k∧c=⟨k,c0.vs++[newV b]⟩
 | [],c,h=>by simp[addS]at h;exact .inr (.inl h)
 |x::l,c,h=>by
  simp only[addS]at h
  by_cases hk:x.key=k
  ·
   rw[if_pos hk]at h
   rcases List.mem_cons.1 h with rfl|h
   ·
    exact .inr (.inr ⟨x,List.mem_cons_self ..,hk,by rw[hk]⟩)
   ·
    exact .inl (List.mem_cons_of_mem _ h)
  ·
   rw[if_neg hk]at h
   split at h
   ·
    rcases List.mem_cons.1 h with rfl|h
    ·
     exact .inl (List.mem_cons_self ..)
    ·
     rcases addS_mem h with h|h|⟨c0,h0,h⟩
     ·
      exact .inl (List.mem_cons_of_mem _ h)
     ·
      exact .inr (.inl h)
     ·
      exact .inr (.inr ⟨c0,List.mem_cons_of_mem _ h0,h⟩)
   ·
    rcases List.mem_cons.1 h with rfl|h
    ·
     exact .inr (.inl rfl)
    ·
     exact .inl h
theorem addS_srt {k:Str}{b:Int}:∀ {l:List Chain},Srt Chain.key l→Srt Chain.key (addS k b l)
 | [],_=>List.pairwise_singleton ..
 |c::l,hs=>by
  obtain⟨h1,h2⟩:=List.pairwise_cons.1 hs
  simp only[addS]
  by_cases hk:c.key=k
  ·
   rw[if_pos hk];exact List.pairwise_cons.2 ⟨h1,h2⟩
  ·
   rw[if_neg hk]
   cases hl:slt c.key k with
   |true =>
    rw[if_pos rfl]
    refine List.pairwise_cons.2 ⟨fun d hd=>?_,addS_srt h2⟩
    rcases addS_mem hd with h|rfl|⟨c0,h0,h3,rfl⟩
    ·
     exact h1 d h
    ·
     exact hl
    ·
     exact hl
   |false =>
    rw[if_neg (by simp)]
    have hkc:slt k c.key=true:=by
     rcases slt_tri c.key k with h|h|h
     ·
      rw[hl]at h;cases h
     ·
      exact absurd h hk
     ·
      exact h
    refine List.pairwise_cons.2 ⟨fun d hd=>?_,hs⟩
    rcases List.mem_cons.1 hd with rfl|hd
    ·
     exact hkc
    ·
     exact slt_trans hkc (h1 d hd)
structure SInv (e:Engine):Prop where
 k:Srt Chain.key e.chains
 v:∀ c∈e.chains,VSrt c.vs
 b:∀ c∈e.chains,∀ v∈c.vs,v.by_ < e.base+e.deeds.length
theorem newE_srt {r:List Pair}(h:Srt Pair.key r):SInv (newE r):=by
 refine⟨List.pairwise_map.2 h,fun c hc=>?_,fun c hc v hv=>?_⟩
 ·
  obtain⟨p,_,rfl⟩:=List.mem_map.1 hc
  exact List.pairwise_singleton ..
 ·
  obtain⟨p,_,rfl⟩:=List.mem_map.1 hc
  simp[rowChain]at hv
  subst hv
  simp[newE]
theorem isIn_false {s:Str}:∀ {l:List Str},isIn l s=false→s∉l
 | [],_,h=>by simp at h
 |x::l,h,hm=>by
  simp only[isIn]at h
  by_cases hx:x=s
  ·
   rw[if_pos hx]at h;cases h
  ·
   rw[if_neg hx]at h
   rcases List.mem_cons.1 hm with rfl|hm
   ·
    exact hx rfl
   ·
    exact isIn_false h hm
theorem keysGo_nodup {l:List Str}:∀ {r:List Str}{i:Nat},l.drop i=r→(l.take i).Nodup→keysGo l i r=0→l.Nodup∧∀ k∈r,key k=true
 | [],i,hr,hn,_=>by
  have:l.length≤i:=by simpa using hr
  rw[List.take_of_length_le this]at hn
  exact⟨hn,by simp⟩
 |k::r,i,hr,hn,h=>by
  simp only[keysGo]at h
  by_cases h1:key k=false
  ·
   rw[if_pos h1]at h;simp at h
  rw[if_neg h1]at h
  by_cases h2:isIn (l.take i) k=true
  ·
   rw[if_pos h2]at h;simp at h
  rw[if_neg h2]at h
  have hk:l[i]? = some k:=by
   have:(l.drop i)[0]? = some k:=by rw[hr];rfl
   simpa using this
  have h3:l.take (i+1)=l.take i++[k]:=by rw[List.take_add_one,hk];rfl
  have hni:k∉l.take i:=isIn_false (by simpa using h2)
  have:=keysGo_nodup (l:=l) (r:=r) (i:=i+1) (by rw[← List.drop_drop,hr];rfl) (by
   rw[h3]
   refine List.nodup_append.2 ⟨hn,by simp,fun a ha b hb=>?_⟩
   simp at hb;subst hb
   exact fun e=>hni (e▸ha)) h
  exact⟨this.1,fun x hx=>by
   rcases List.mem_cons.1 hx with rfl|hx
   ·
    simpa using h1
   ·
    exact this.2 x hx⟩
theorem keysWrong_nodup {l:List Str}(h:keysWrong l=0):l.Nodup∧(∀ k∈l,key k=true)∧l.length≤5:=by
 unfold keysWrong at h
 by_cases h1:5 < l.length
 ·
  rw[if_pos h1]at h;simp at h
 ·
  rw[if_neg h1]at h
  have:=keysGo_nodup (l:=l) (r:=l) (i:=0) rfl (by simp) h
  exact⟨this.1,this.2,by omega⟩
theorem wrong_keys {d:Deed}(h:wrongDeed d=0):d.reads.Nodup∧d.writes.Nodup:=by
 unfold wrongDeed at h
 by_cases h0:lsGo [d.reads,d.writes]=0
 ·
  simp only[lsGo]at h0
  by_cases h1:keysWrong d.reads=0
  ·
   rw[if_pos h1]at h0
   by_cases h2:keysWrong d.writes=0
   ·
    exact⟨(keysWrong_nodup h1).1,(keysWrong_nodup h2).1⟩
   ·
    rw[if_neg h2]at h0;exact absurd h0 h2
  ·
   rw[if_neg h1]at h0;exact absurd h0 h1
 ·
  rw[if_neg h0]at h;exact absurd h h0
theorem addKeys_srt {b:Int}:∀ {ks:List Str}{l:List Chain},ks.Nodup→Srt Chain.key l→(∀ c∈l,VSrt c.vs∧(∀ v∈c.vs,v.by_≤b)∧(c.key∈ks→∀ v∈c.vs,v.by_ < b)) →
  Srt Chain.key (addKeys b l ks)∧∀ c∈addKeys b l ks,VSrt c.vs∧∀ v∈c.vs,v.by_≤b
 | [],l,_,hs,h=>⟨hs,fun c hc=>⟨(h c hc).1,(h c hc).2.1⟩⟩
 |k::ks,l,hn,hs,h=>by
  obtain⟨hk,hn⟩:=List.nodup_cons.1 hn
  simp only[addKeys]
  rw[addC_srt hs]
  refine addKeys_srt hn (addS_srt hs) fun c hc=>?_
  rcases addS_mem hc with h0|rfl|⟨c0,h0,h1,rfl⟩
  ·
   obtain⟨h1,h2,h3⟩:=h c h0
   exact⟨h1,h2,fun hm=>h3 (List.mem_cons_of_mem _ hm)⟩
  ·
   exact⟨List.pairwise_singleton ..,fun v hv=>by simp at hv;subst hv;exact Int.le_refl _,fun hm=>absurd hm hk⟩
  ·
   obtain⟨h2,h3,h4⟩:=h c0 h0
   have h5:=h4 (by rw[h1];exact List.mem_cons_self ..)
   refine⟨List.pairwise_append.2 ⟨h2,List.pairwise_singleton ..,fun a ha x hx=>?_⟩,fun v hv=>?_,fun hm=>absurd hm hk⟩
   ·
    simp at hx;subst hx;exact h5 a ha
   ·
    rcases List.mem_append.1 hv with hv|hv
    ·
     exact h3 v hv
    ·
     simp at hv;subst hv;exact Int.le_refl _
theorem SInv.add1 {e:Engine}(h:SInv e) {d:Deed}(hw:d.writes.Nodup):SInv (add1 e d):=by
 have:=addKeys_srt (b:=e.base+e.deeds.length) hw h.k fun c hc=>⟨h.v c hc,fun v hv=>by have:=h.b c hc v hv;omega,fun _ v hv=>h.b c hc v hv⟩
 refine⟨this.1,fun c hc=>(this.2 c hc).1,fun c hc v hv=>?_⟩
 have:=(this.2 c hc).2 v hv
 show v.by_ < e.base+((e.deeds++[d]).length:Nat)
 rw[List.length_append]
 simp only[List.length_singleton]
 omega
theorem SInv.addAll:∀ {l:List Deed}{e:Engine},SInv e→(∀ d∈l,d.writes.Nodup)→SInv (addAll e l)
 | [],e,h,_=>h
 |d::l,e,h,hl=>by
  simp only[RF.addAll]
  exact SInv.addAll (h.add1 (hl d (List.mem_cons_self ..))) fun x hx=>hl x (List.mem_cons_of_mem _ hx)
theorem SInv.addE {e:Engine}(h:SInv e) {l:List Deed}(hw:(addE e l).2=0):SInv (addE e l).1:=by
 unfold RF.addE at hw ⊢
 by_cases h0:wrongs l=0
 ·
  rw[if_pos h0]
  exact h.addAll fun d hd=>(wrong_keys (wrongs_mem h0 d hd)).2
 ·
  rw[if_neg h0]at hw;exact absurd hw h0
theorem set_srt {l:List Chain}{k:Str}{v:Version}{N:Int}(hs:Srt Chain.key l) (hv:∀ c∈l,VSrt c.vs∧∀ w∈c.vs,w.by_ < N) :
  Srt Chain.key (setChains l k v)∧∀ c∈setChains l k v,VSrt c.vs∧∀ w∈c.vs,w.by_ < N:=by
 have hb:∀ (h:Bool) (w:Version),(setV h v w).by_=w.by_:=fun h w=>by
  unfold setV
  split
  ·
   next hh=>exact hh.2.symm
  ·
   rfl
 refine⟨List.pairwise_map.2 hs,fun c hc=>?_⟩
 obtain⟨c0,h0,rfl⟩:=List.mem_map.1 hc
 obtain⟨h1,h2⟩:=hv c0 h0
 refine⟨List.pairwise_map.2 (h1.imp fun hab=>by rw[hb,hb];exact hab),fun w hw=>?_⟩
 obtain⟨w0,hw0,rfl⟩:=List.mem_map.1 hw
 rw[hb];exact h2 w0 hw0
theorem goSets_srt {r:List Pair}{b N:Int}:∀ {ks:List Str}{l:List Chain},Srt Chain.key l→(∀ c∈l,VSrt c.vs∧∀ w∈c.vs,w.by_ < N) →
  Srt Chain.key (goSets r b l ks)∧∀ c∈goSets r b l ks,VSrt c.vs∧∀ w∈c.vs,w.by_ < N
 | [],l,hs,hv=>⟨hs,hv⟩
 |k::ks,l,hs,hv=>by
  simp only[goSets]
  have:=set_srt (k:=k) (v:=⟨b,true,(RF.get r k).2,(RF.get r k).1⟩) hs hv
  exact goSets_srt this.1 this.2
theorem SInv.goNew {e:Engine}(h:SInv e) (A:Nat) (d:Deed):SInv (goNew e A d):=by
 have:=goSets_srt (r:=(goDone e A d).1) (b:=e.base+A) (ks:=d.writes) (N:=e.base+e.deeds.length) h.k fun c hc=>⟨h.v c hc,h.b c hc⟩
 exact⟨this.1,fun c hc=>(this.2 c hc).1,fun c hc=>(this.2 c hc).2⟩
theorem SInv.goE {e:Engine}(h:SInv e) (at_:Int):SInv (goE e at_).1:=by
 unfold Proofs.YtngnajknbeijjaaGreatDoor.goE
 split
 ·
  exact h
 unfold goAt
 cases hA:e.deeds[at_.toNat]? with
 |none=>exact h
 |some d =>
  dsimp only
  split
  ·
   exact h
  split
  ·
   exact h.goNew _ _
  ·
   exact h
theorem clrV_sublist {b:Int}:∀ l:List Version,(clrV b l).Sublist l
 | []=>List.Sublist.slnil
 |v::l=>by
  simp only[clrV]
  split
  ·
   exact(clrV_sublist l).cons _
  ·
   exact(clrV_sublist l).cons_cons _
theorem clear_srt {b:Int}:∀ {l:List Chain},Srt Chain.key l→Srt Chain.key (clear b l)
 | [],_=>List.Pairwise.nil
 |c::l,hs=>by
  obtain⟨h1,h2⟩:=List.pairwise_cons.1 hs
  simp only[clear]
  split
  ·
   exact clear_srt h2
  ·
   refine List.pairwise_cons.2 ⟨fun d hd=>?_,clear_srt h2⟩
   obtain⟨c0,h0,rfl⟩:=clear_mem hd
   exact h1 c0 h0
theorem SInv.clearE {e:Engine}(h:SInv e):SInv (clearE e):=by
 have hm:=markN_le e.state
 refine⟨clear_srt h.k,fun c hc=>?_,fun c hc v hv=>?_⟩
 ·
  obtain⟨c0,h0,rfl⟩:=clear_mem hc
  exact List.Pairwise.sublist (clrV_sublist _) (h.v c0 h0)
 ·
  obtain⟨c0,h0,rfl⟩:=clear_mem hc
  have:=h.b c0 h0 v (clrV_sub hv)
  simp only[RF.clearE,List.length_drop]
  omega
theorem SInv.pickE {e:Engine}(h:SInv e) (n:Int):SInv (pickE e n):=by
 unfold Proofs.YtngnajknbeijjaaGreatDoor.pickE
 split
 ·
  exact h.clearE
 split
 ·
  exact h
 split
 ·
  exact h.goE _
 ·
  exact h
theorem SInv.batchE {e:Engine}(h:SInv e) (b:List Deed):SInv (batchE e b):=by
 unfold Proofs.YtngnajknbeijjaaGreatDoor.batchE
 split
 ·
  next hw=>exact h.addE hw
 ·
  exact h
theorem SInv.pickGo:∀ {k:Nat}{e:Engine}{p:List Int},SInv e→SInv (pickGo k e p).1
 |0,e,p,h=>h
 |k+1,e,[],h=>h
 |k+1,e,n::p,h=>by
  simp only[Proofs.YtngnajknbeijjaaGreatDoor.pickGo]
  exact SInv.pickGo (h.pickE n)
theorem SInv.buildGo:∀ {bs:List (List Deed)}{e:Engine}{p:List Int},SInv e→SInv (buildGo e bs p)
 | [],e,p,h=>h
 |b::bs,e,p,h=>by
  simp only[Proofs.YtngnajknbeijjaaGreatDoor.buildGo]
  exact SInv.buildGo ((h.batchE b).pickGo)
theorem build_srt {r:List Pair}(h:wrongRows r=0) (bs:List (List Deed)) (p:List Int):SInv (buildE r bs p):=SInv.buildGo (newE_srt (wrongRows_srt h).1)
theorem before_row {r:List Pair}(h:Srt Pair.key r) {p:Pair}(hp:p∈r) {b:Int}(hb : -1 < b):before (r.map rowChain) p.key b=⟨-1,true,true,p.n⟩:=by
 obtain⟨i,hi⟩:=List.getElem?_of_mem hp
 unfold before
 have hil:=(List.getElem?_eq_some_iff.1 hi).1
 have hsp:r=r.take i++p::r.drop (i+1):=by
  have h1:=List.take_append_drop i r
  rw[List.drop_eq_getElem_cons hil,(List.getElem?_eq_some_iff.1 hi).2]at h1
  exact h1.symm
 have hne:∀ q∈r.take i++r.drop (i+1),q.key≠p.key:=by
  intro q hq
  rcases List.mem_append.1 hq with hq|hq
  ·
   obtain⟨j,hj⟩:=List.getElem?_of_mem hq
   rw[List.getElem?_take]at hj
   split at hj
   ·
    exact h.ne hj hi (by omega)
   ·
    cases hj
  ·
   obtain⟨j,hj⟩:=List.getElem?_of_mem hq
   rw[List.getElem?_drop]at hj
   exact h.ne hj hi (by omega)
 have n1:∀ out,beforeGo p.key b out ((r.take i).map rowChain)=out:=fun out=>beforeGo_none fun c hc=>by
  obtain⟨q,hq,rfl⟩:=List.mem_map.1 hc
  exact hne q (List.mem_append_left _ hq)
 have n2:∀ out,beforeGo p.key b out ((r.drop (i+1)).map rowChain)=out:=fun out=>beforeGo_none fun c hc=>by
  obtain⟨q,hq,rfl⟩:=List.mem_map.1 hc
  exact hne q (List.mem_append_right _ hq)
 rw[hsp,List.map_append,beforeGo_append,n1,List.map_cons]
 simp only[beforeGo]
 rw[n2]
 simp[rowChain,bvs,hb]
theorem rowsAtGo_len {l0:List Chain}{b:Int}:∀ (l:List Chain) (out:List Pair),(rowsAtGo l0 b out l).1.length≤out.length+l.length
 | [],out=>by simp[rowsAtGo]
 |c::l,out=>by
  simp only[rowsAtGo]
  split
  ·
   simp
  split
  ·
   have:=rowsAtGo_len (l0:=l0) (b:=b) l (out++[⟨c.key,(before l0 c.key b).n⟩]);simp at this ⊢;omega
  ·
   have:=rowsAtGo_len (l0:=l0) (b:=b) l out;simp at this ⊢;omega
theorem rowsAt_len (l:List Chain) (b:Int):(rowsAt l b).1.length≤l.length:=by
 have:=rowsAtGo_len (l0:=l) (b:=b) l []
 unfold rowsAt
 simpa using this
theorem addS_len {k:Str}{b:Int}:∀ l:List Chain,(addS k b l).length≤l.length+1
 | []=>by simp[addS]
 |c::l=>by
  have:=addS_len (k:=k) (b:=b) l
  simp only[addS]
  split
  ·
   simp
  ·
   split
   ·
    simp;omega
   ·
    simp
theorem addS_vs {k:Str}{b:Int}{l:List Chain}{N:Nat}(h:∀ c∈l,c.vs.length≤N):∀ c∈addS k b l,c.vs.length≤N+1:=by
 intro c hc
 rcases addS_mem hc with h0|rfl|⟨c0,h0,_,rfl⟩
 ·
  have:=h c h0;omega
 ·
  simp
 ·
  have:=h c0 h0;simp;omega
theorem set_len (l:List Chain) (k:Str) (v:Version):(setChains l k v).length=l.length:=by simp[setChains]
theorem get_put {k k':Str}{n:Int}:∀ {l:List Pair},RF.get (putS k n l) k'=if k=k' then (n,true) else RF.get l k'
 | []=>by simp[putS,RF.get]
 |p::l=>by
  simp only[putS]
  by_cases hk:p.key=k
  ·
   rw[if_pos hk]
   simp only[RF.get]
   by_cases h:k=k'
   ·
    simp[h]
   ·
    rw[if_neg h,if_neg h,if_neg (by rw[hk];exact h)]
  ·
   rw[if_neg hk]
   split
   ·
    simp only[RF.get]
    rw[get_put]
    by_cases h:p.key=k'
    ·
     rw[if_pos h,if_neg (fun e=>hk (by rw[h,e])),if_pos h]
    ·
     rw[if_neg h,if_neg h]
   ·
    simp only[RF.get]
theorem get_absent {k:Str}:∀ {l:List Pair},(∀ p∈l,p.key≠k)→RF.get l k=(0,false)
 | [],_=>rfl
 |p::l,h=>by
  simp only[RF.get]
  rw[if_neg (h p (List.mem_cons_self ..)),get_absent fun q hq=>h q (List.mem_cons_of_mem _ hq)]
theorem srt_absent {p:Pair}{l:List Pair}(hs:Srt Pair.key (p::l)):∀ q∈l,q.key≠p.key:=fun q hq e=>by
 have:=(List.pairwise_cons.1 hs).1 q hq
 rw[e,slt_irrefl]at this;cases this
theorem get_drop {k k':Str}:∀ {l:List Pair},Srt Pair.key l→RF.get (dropS k l) k'=if k=k' then (0,false) else RF.get l k'
 | [],_=>by simp[dropS,RF.get]
 |p::l,hs=>by
  simp only[dropS]
  by_cases hk:p.key=k
  ·
   rw[if_pos hk]
   by_cases h:k=k'
   ·
    rw[if_pos h]
    exact get_absent fun q hq=>by rw[← h,← hk];exact srt_absent hs q hq
   ·
    rw[if_neg h]
    simp only[RF.get]
    rw[if_neg (by rw[hk];exact h)]
  ·
   rw[if_neg hk]
   simp only[RF.get]
   rw[get_drop (List.pairwise_cons.1 hs).2]
   by_cases h:p.key=k'
   ·
    rw[if_pos h,if_neg (fun e=>hk (by rw[h,e])),if_pos h]
   ·
    rw[if_neg h,if_neg h]
theorem srt_ext:∀ {l r:List Pair},Srt Pair.key l→Srt Pair.key r→(∀ p,p∈l↔p∈r)→l=r
 | [],[],_,_,_=>rfl
 | [],q::r,_,_,h=>by have:=(h q).2 (List.mem_cons_self ..);simp at this
 |p::l,[],_,_,h=>by have:=(h p).1 (List.mem_cons_self ..);simp at this
 |p::l,q::r,hl,hr,h=>by
  obtain⟨l1,l2⟩:=List.pairwise_cons.1 hl
  obtain⟨r1,r2⟩:=List.pairwise_cons.1 hr
  have hpq:p=q:=by
   rcases List.mem_cons.1 ((h p).1 (List.mem_cons_self ..)) with e|e
   ·
    exact e
   ·
    rcases List.mem_cons.1 ((h q).2 (List.mem_cons_self ..)) with e'|e'
    ·
     exact e'.symm
    ·
     have:=slt_trans (l1 q e') (r1 p e)
     rw[slt_irrefl]at this;cases this
  subst hpq
  congr 1
  refine srt_ext l2 r2 fun x=>⟨fun hx=>?_,fun hx=>?_⟩
  ·
   rcases List.mem_cons.1 ((h x).1 (List.mem_cons_of_mem _ hx)) with e|e
   ·
    subst e;have:=l1 x hx;rw[slt_irrefl]at this;cases this
   ·
    exact e
  ·
   rcases List.mem_cons.1 ((h x).2 (List.mem_cons_of_mem _ hx)) with e|e
   ·
    subst e;have:=r1 x hx;rw[slt_irrefl]at this;cases this
   ·
    exact e
def alpha:List UInt8:=[97,98,99,100,101,102,103,104,105,106,107,108,109,110,111,112,113,114,115,116,117,118,119,120,121,122]
theorem alpha_bad (c:UInt8):alpha.contains c = !bad c:=by
 have h:∀ n:Fin 256,alpha.contains (UInt8.ofFin n) = !bad (UInt8.ofFin n):=by decide +kernel
 have:=h c.toFin
 rwa [UInt8.ofFin_toFin]at this
theorem dropWhile_nil {p:UInt8→Bool}:∀ {l:List UInt8},l.dropWhile p=[]↔∀ x∈l,p x=true
 | []=>by simp
 |x::l=>by
  cases h:p x with
  |true=>rw[List.dropWhile_cons_of_pos h,dropWhile_nil];simp[h]
  |false=>rw[List.dropWhile_cons_of_neg (by simp[h])];simp[h]
theorem dropWhile_head {p:UInt8→Bool}:∀ {l r:List UInt8}{x:UInt8},l.dropWhile p=x::r→p x=false
 | [],r,x,h=>by simp at h
 |y::l,r,x,h=>by
  cases hy:p y with
  |true=>rw[List.dropWhile_cons_of_pos hy]at h;exact dropWhile_head h
  |false=>rw[List.dropWhile_cons_of_neg (by simp[hy])]at h;cases h;exact hy
theorem trim_nil {l cs:List UInt8}:Lib.trimS l cs=[]↔∀ x∈l,cs.contains x=true:=by
 unfold Lib.trimS Lib.trimLeftS Lib.trimRightS
 rw[dropWhile_nil]
 constructor
 ·
  intro h
  have h1:l.reverse.dropWhile (cs.contains ·)=[]:=by
   cases h2:l.reverse.dropWhile (cs.contains ·) with
   |nil=>rfl
   |cons x r =>
    have h3:=dropWhile_head h2
    have h4:=h x (by rw[h2];simp)
    rw[h3]at h4;cases h4
  intro x hx
  exact dropWhile_nil.1 h1 x (by simpa using hx)
 ·
  intro h x hx
  have h1:l.reverse.dropWhile (cs.contains ·)=[]:=dropWhile_nil.2 fun x hx=>h x (by simpa using hx)
  rw[h1]at hx;simp at hx
theorem keyGo_eq {s:Str}:∀ {r:Str},keyGo s r=((r.all fun c => !bad c)&&(decide (0 < s.length)&&decide (s.length < 7)))
 | []=>by simp[keyGo]
 |c::r=>by
  simp only[keyGo,List.all_cons]
  rw[keyGo_eq]
  cases bad c <;> simp
theorem key_trim (s:Str):key s=(decide (1≤s.length)&&(decide (s.length≤6)&&decide (Lib.trimS s alpha=[]))):=by
 unfold key
 rw[keyGo_eq]
 have h1:(s.all fun c => !bad c)=decide (Lib.trimS s alpha=[]):=by
  rw[Bool.eq_iff_iff,decide_eq_true_eq,trim_nil,List.all_eq_true]
  simp only[alpha_bad]
 rw[h1]
 have h2:decide (0 < s.length)=decide (1≤s.length):=by congr 1
 have h3:decide (s.length < 7)=decide (s.length≤6):=by congr 1;exact propext ⟨fun h=>by omega,fun h=>by omega⟩
 rw[h2,h3]
 cases decide (Lib.trimS s alpha=[]) <;> cases decide (1≤s.length) <;> cases decide (s.length≤6) <;> rfl
theorem get_mem_some {k:Str}:∀ {l:List Pair}{n:Int},RF.get l k=(n,true)→(⟨k,n⟩:Pair)∈l
 | [],n,h=>by simp[RF.get]at h
 |p::l,n,h=>by
  simp only[RF.get]at h
  by_cases hk:p.key=k
  ·
   rw[if_pos hk]at h
   cases h
   rw[← hk]
   exact List.mem_cons_self ..
  ·
   rw[if_neg hk]at h
   exact List.mem_cons_of_mem _ (get_mem_some h)
theorem get_of_mem {p:Pair}:∀ {l:List Pair},Srt Pair.key l→p∈l→RF.get l p.key=(p.n,true)
 |q::l,hs,h=>by
  simp only[RF.get]
  rcases List.mem_cons.1 h with rfl|h
  ·
   rw[if_pos rfl]
  ·
   have:=srt_absent hs p h
   rw[if_neg (fun e=>this e.symm),get_of_mem (List.pairwise_cons.1 hs).2 h]
theorem get_ext {l r:List Pair}(hl:Srt Pair.key l) (hr:Srt Pair.key r) (h:∀ k,RF.get l k=RF.get r k):l=r :=
 srt_ext hl hr fun p=>⟨fun hp=>get_mem_some (by rw[← h,get_of_mem hl hp]),fun hp=>get_mem_some (by rw[h,get_of_mem hr hp])⟩
def chOf (c:Bool×Int):Int×Bool:=if c.1=true then (c.2,true) else (0,false)
def chAt (r:List Pair) (m:Mk) (k:Str):Int×Bool:=match mG m k with
 |some c=>chOf c
 |none=>RF.get r k
def app1 (out:List Pair) (k:Str) (c:Bool×Int):List Pair:=if c.1=true then putS k c.2 out else dropS k out
def appC:List Pair→List (Str×(Bool×Int))→List Pair
 |out,[]=>out
 |out,x::r=>appC (app1 out x.1 x.2) r
theorem app1_srt {out:List Pair}(h:Srt Pair.key out) (k:Str) (c:Bool×Int):Srt Pair.key (app1 out k c):=by
 unfold app1;split
 ·
  exact putS_srt h
 ·
  exact dropS_srt h
theorem app1_get {out:List Pair}(h:Srt Pair.key out) (k k':Str) (c:Bool×Int):RF.get (app1 out k c) k'=if k=k' then chOf c else RF.get out k':=by
 unfold app1 chOf;split
 ·
  exact get_put
 ·
  exact get_drop h
theorem appC_srt:∀ {l:List (Str×(Bool×Int))}{out:List Pair},Srt Pair.key out→Srt Pair.key (appC out l)
 | [],out,h=>h
 |x::l,out,h=>appC_srt (l:=l) (app1_srt h _ _)
theorem appC_get {m:Mk}{k:Str}:∀ {l:List Str}{out:List Pair},Srt Pair.key out→RF.get (appC out (chg m l)) k=if k∈l then chAt out m k else RF.get out k
 | [],out,h=>by simp[chg,appC]
 |x::l,out,h=>by
  simp only[chg]
  cases hx:mG m x with
  |none =>
   simp only
   rw[appC_get h]
   by_cases hk:k∈l
   ·
    rw[if_pos hk,if_pos (List.mem_cons_of_mem _ hk)]
   ·
    rw[if_neg hk]
    by_cases he:k=x
    ·
     subst he
     rw[if_pos (List.mem_cons_self ..),chAt,hx]
    ·
     rw[if_neg (by simp[he,hk])]
  |some c =>
   simp only[appC]
   rw[appC_get (app1_srt h _ _)]
   by_cases he:x=k
   ·
    subst he
    rw[if_pos (List.mem_cons_self ..),app1_get h,if_pos rfl]
    simp only[chAt,hx,ite_self]
   ·
    have hne:¬ k=x:=fun e=>he e.symm
    by_cases hk:k∈l
    ·
     rw[if_pos hk,if_pos (List.mem_cons_of_mem _ hk)]
     unfold chAt
     rw[app1_get h,if_neg he]
    ·
     rw[if_neg hk,if_neg (by simp[hne,hk]),app1_get h,if_neg he]
def plainD (r:List Pair) (d:Deed):List Pair×Done:=(appC r (runC (RF.get r) d),(runM (RF.get r) d).2)
theorem see_at {r now:List Pair}{m:Mk}(h:∀ k,RF.get now k=chAt r m k) (hf:∀ k c,mG m k=some c→c.1=false→c.2=0) (k:Str):seeM (RF.get r) m k=(RF.get now k).1:=by
 rw[h k]
 unfold seeM chAt chOf
 cases hm:mG m k with
 |none=>rfl
 |some c =>
  dsimp only
  by_cases hc:c.1=true
  ·
   rw[if_pos hc]
  ·
   rw[if_neg hc]
   exact hf k c hm (by simpa using hc)
structure MInv (r:List Pair) (W:List Str) (m:Mk) (now:List Pair):Prop where
 s:Srt Pair.key now
 a:∀ k,RF.get now k=chAt r m k
 f:∀ k c,mG m k=some c→c.1=false→c.2=0
 w:∀ k c,mG m k=some c→k∈W
theorem MInv.set {r now:List Pair}{W:List Str}{m:Mk}(h:MInv r W m now) {k:Str}(hk:k∈W) (c:Bool×Int) (hc:c.1=false→c.2=0):MInv r W (mS m k c) (app1 now k c):=by
 refine⟨app1_srt h.s k c,fun k'=>?_,fun k' c' hm=>?_,fun k' c' hm=>?_⟩
 ·
  rw[app1_get h.s]
  unfold chAt
  rw[mG_mS]
  by_cases he:k=k'
  ·
   rw[if_pos he,if_pos he]
  ·
   rw[if_neg he,if_neg he]
   exact h.a k'
 ·
  rw[mG_mS]at hm
  split at hm
  ·
   cases hm;exact hc
  ·
   exact h.f k' c' hm
 ·
  rw[mG_mS]at hm
  split at hm
  ·
   next he=>rw[← he];exact hk
  ·
   exact h.w k' c' hm
theorem run_do {r:List Pair}{W:List Str}:∀ {l:List Ins}{sk:Int}{m:Mk}{e:Done}{now:List Pair},MInv r W m now→e.failed=false→(∀ i∈l,(i.kind=6∨i.kind=7)→i.key∈W) →
  (runGo (RF.get r) sk m e l).2=(doGo r sk now e l).2∧((doGo r sk now e l).2.failed=true→(doGo r sk now e l).1=r)∧((doGo r sk now e l).2.failed=false→MInv r W (runGo (RF.get r) sk m e l).1 (doGo r sk now e l).1)
 | [],sk,m,e,now,h,he,hw=>by
  simp only[runGo,doGo]
  exact⟨trivial,fun hf=>by rw[he]at hf;exact absurd hf (by simp),fun _=>h⟩
 |i::l,sk,m,e,now,h,he,hw=>by
  have hl:∀ i∈l,(i.kind=6∨i.kind=7)→i.key∈W:=fun j hj=>hw j (List.mem_cons_of_mem _ hj)
  simp only[runGo,doGo]
  rw[see_at h.a h.f]
  by_cases h0:0 < sk
  ·
   rw[if_pos h0,if_pos h0];exact run_do h he hl
  rw[if_neg h0,if_neg h0]
  have hr:∀ k x,(rset e k x).failed=false:=fun k x=>by rw[rset_failed];exact he
  by_cases h1:i.kind=1
  ·
   rw[if_pos h1,if_pos h1];exact run_do h (hr _ _) hl
  rw[if_neg h1,if_neg h1]
  by_cases h2:i.kind=2
  ·
   rw[if_pos h2,if_pos h2];exact run_do h (hr _ _) hl
  rw[if_neg h2,if_neg h2]
  by_cases h3:i.kind=3
  ·
   rw[if_pos h3,if_pos h3];exact run_do h (hr _ _) hl
  rw[if_neg h3,if_neg h3]
  by_cases h4:i.kind=4
  ·
   rw[if_pos h4,if_pos h4];exact run_do h (hr _ _) hl
  rw[if_neg h4,if_neg h4]
  by_cases h5:i.kind=5
  ·
   rw[if_pos h5,if_pos h5];exact run_do h (hr _ _) hl
  rw[if_neg h5,if_neg h5]
  by_cases h6:i.kind=6
  ·
   rw[if_pos h6,if_pos h6,put_true h.s]
   have:=h.set (hw i (List.mem_cons_self ..) (.inl h6)) (true,rget e i.a.toNat) (by simp)
   exact run_do this he hl
  rw[if_neg h6,if_neg h6]
  by_cases h7:i.kind=7
  ·
   rw[if_pos h7,if_pos h7,put_false h.s]
   have:=h.set (hw i (List.mem_cons_self ..) (.inr h7)) (false,0) (by simp)
   exact run_do this he hl
  rw[if_neg h7,if_neg h7]
  by_cases h8:i.kind=8
  ·
   rw[if_pos h8,if_pos h8];exact run_do h he hl
  rw[if_neg h8,if_neg h8]
  by_cases h9:rget e i.a.toNat < 0
  ·
   rw[if_pos h9,if_pos h9]
   exact⟨rfl,fun _=>rfl,fun hf=>by simp[bustE]at hf⟩
  ·
   rw[if_neg h9,if_neg h9];exact run_do h he hl
theorem plain_do {r:List Pair}{d:Deed}(hs:Srt Pair.key r) (hw:∀ i∈d.code,(i.kind=6∨i.kind=7)→i.key∈d.writes):plainD r d=doD r d:=by
 obtain⟨h1,h2,h3⟩:=run_do (r:=r) (W:=d.writes) (l:=d.code) (sk:=0) (m:=[]) (e:=done0) (now:=r) ⟨hs,fun k=>rfl,fun k c h=>by simp[mG]at h,fun k c h=>by simp[mG]at h⟩ rfl hw
 unfold plainD doD
 refine Prod.ext ?_ h1
 dsimp only
 unfold runC
 by_cases hf:(runM (RF.get r) d).2.failed=true
 ·
  rw[if_pos hf]
  have hf':(doGo r 0 r done0 d.code).2.failed=true:=by rw[← h1];exact hf
  rw[h2 hf'];rfl
 ·
  rw[if_neg hf]
  have hf':(doGo r 0 r done0 d.code).2.failed=false:=by rw[← h1];exact Bool.eq_false_iff.2 hf
  have h:=h3 hf'
  refine get_ext (appC_srt hs) h.s fun k=>?_
  rw[appC_get hs,h.a k]
  by_cases hk:k∈d.writes
  ·
   rw[if_pos hk];rfl
  ·
   rw[if_neg hk]
   unfold chAt
   cases hm:mG (runGo (RF.get r) 0 [] done0 d.code).1 k with
   |none=>rfl
   |some c=>exact absurd (h.w k c hm) hk
theorem doD_srt {r:List Pair}{d:Deed}(hs:Srt Pair.key r) (hw:∀ i∈d.code,(i.kind=6∨i.kind=7)→i.key∈d.writes):Srt Pair.key (doD r d).1:=by
 rw[← plain_do hs hw];exact appC_srt hs
theorem isIn_true {s:Str}:∀ {l:List Str},isIn l s=true→s∈l
 | [],h=>by cases h
 |x::l,h=>by
  simp only[isIn]at h
  by_cases hx:x=s
  ·
   rw[hx];exact List.mem_cons_self ..
  ·
   rw[if_neg hx]at h
   exact List.mem_cons_of_mem _ (isIn_true h)
theorem wrongIns_keyed {d:Deed}{m:Int}{i:Ins}(h:wrongIns d m i=0) (hk:i.kind=6∨i.kind=7):i.key∈d.writes:=by
 unfold wrongIns at h
 have hkk:¬ (i.kind < 1∨9 < i.kind):=by omega
 rw[if_neg hkk]at h
 have hh:has i.kind.toNat 107=true:=by rcases hk with e|e <;> rw[e] <;> decide
 split at h
 ·
  simp at h
 ·
  rw[if_neg (by rw[hh];simp),if_neg (show ¬ i.kind=1 by omega)]at h
  split at h
  ·
   next hi=>exact isIn_true hi
  ·
   simp at h
theorem wrong_keyed {d:Deed}(h:wrongDeed d=0):∀ i∈d.code,(i.kind=6∨i.kind=7)→i.key∈d.writes:=by
 intro i hi
 unfold wrongDeed at h
 by_cases h0:lsGo [d.reads,d.writes]=0
 ·
  rw[if_pos h0]at h
  by_cases hc:12 < d.code.length
  ·
   rw[if_pos hc]at h;simp at h
  ·
   rw[if_neg hc]at h
   obtain⟨j,hj⟩:=List.getElem?_of_mem hi
   exact wrongIns_keyed (codeGo_mem h j i hj)
 ·
  rw[if_neg h0]at h;exact absurd h h0
theorem runGo_congr {v v':Str→Int×Bool}:∀ {l:List Ins}{sk:Int}{m:Mk}{e:Done},(∀ i∈l,i.kind=1→(v i.key).1=(v' i.key).1)→runGo v sk m e l=runGo v' sk m e l
 | [],sk,m,e,_=>rfl
 |i::l,sk,m,e,h=>by
  have ih:=fun {sk:Int} {m:Mk} {e:Done}=>runGo_congr (v:=v) (v':=v') (l:=l) (sk:=sk) (m:=m) (e:=e) fun j hj=>h j (List.mem_cons_of_mem _ hj)
  have hs:i.kind=1→seeM v m i.key=seeM v' m i.key:=fun hk=>by
   unfold seeM
   split
   ·
    rfl
   ·
    exact h i (List.mem_cons_self ..) hk
  simp only[runGo,ih]
  by_cases hk:i.kind=1
  ·
   rw[hs hk]
  ·
   simp only[if_neg hk]
end Go.Proofs.YtngnajknbeijjaaGreatDoor
