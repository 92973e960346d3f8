/-
  Part 3 of what the claim leans on: AxMap Rn Sh G2 R1 G1 Eq2 F17 G11 AxIns G13 G14 R2 F1 F16 F19 F20 P1 P4 P5 R4 R5 P9 F4 L10 AxLaid.
-/
import Derived.Test.YtfpkamiobdkcpaaDoorK2
import Derived.Shelf.Small.Strs
import Derived.Test.YtfpkamiobdkcpaaDoorProg
import Derived.Shelf.Spec.SlicesInsertGrow
import Derived.Maps.AppendAt
import Derived.Lib.SlTrimSet
import Derived.Shelf.Vars
import Derived.FnData
set_option linter.all false

namespace Go.AX
open Go.RowKit
variable {cx:Cx}{g:Nat→Value}{σ σ':St}{a:Act}{w w':World}{nx:Nat}
variable {ty:TypeId}{pos:String}{af:Array Edge}{gd:Option (Nat×Bool)}{d:Nat}
def flat:Value→Prop
 |.agg cs=>∀ c∈cs.toList,Value.oneCell' c=true
 |_=>True
def dv:Value→D
 |.agg cs => .agg (cs.toList.map D.v)
 |v => .v v
theorem rd_dv {own:Nat→Prop}{v:Value}(h:flat v):Rd w own v (dv v):=by
 cases v with
 |agg cs =>
  refine .agg _ _ (by simp) (fun j c hc=>h c (List.mem_of_getElem? (by simpa using hc))) fun j x c hx hc=>?_
  rw[List.getElem?_map]at hx
  have hc':cs.toList[j]? = some c:=by simpa using hc
  rw[hc']at hx
  simp at hx;subst hx
  exact Rd.v _
 |_=>exact Rd.v _
structure MapTy (cx:Cx) (t te:TypeId) (zv:Value):Prop where
 u:∃ tk,cx.P.underlying t=some (.map tk te)∧cx.P.underlying tk=some .string
 z:∀ w,(zeroValue te).run cx.P w = .ok zv w
theorem MapTy.st {t te:TypeId}{ti:TI}(hu:∃ tk,cx.P.underlying t=some (.map tk te)∧cx.P.underlying tk=some .string) (he:tget cx.T te=some ti) (h2:ti.zero.length≠1):MapTy cx t te (.agg ti.zero.toArray):=by
 refine⟨hu,fun w=>?_⟩
 obtain⟨i,hi,_,_,z,hz,hc⟩:=(cx.hT te ti he).info
 have hag:z = .agg ti.zero.toArray:=by
  cases z with
  |agg cs =>
   have:cs.toList=ti.zero:=hc
   rw[← this]
  |_=>exact absurd (by rw[← hc];rfl) h2
 subst hag
 simp[zeroValue,typeInfo,hi,hz]
def mlook (zv:Value) (M:List (List UInt8×Value)) (k:List UInt8):Value:=(mget M k).getD zv
theorem run_mlook {t te:TypeId}{zv:Value}(h:MapTy cx t te zv) {b:Nat}{es:Array MapEntry}{clock:Nat}{M:List (List UInt8×Value)}(hb:w.heap[b]? = some (.map es clock)) (hm:MapIs es M) (k:List UInt8) (ok:Bool) :
  (Instr.lookup t (.map (some b)) (.string ⟨k.toArray⟩) ok).run cx.P w = .ok (if ok then .tuple #[mlook zv M k,.bool (mget M k).isSome] else mlook zv M k) w:=by
 obtain⟨tk,h1,h2⟩:=h.u
 have hf:=findNow_eq k 0 hm
 have hg:=mfind_get k M 0
 have hck:(Instr.checkKey es.isEmpty 10000 tk (.string ⟨k.toArray⟩)).run cx.P w = .ok () w:=MapKept.run_checkKey h2 (by simp[MapKept.IsKey]) _ 9999
 have hz:=h.z w
 cases hfd:mfind k M 0 with
 |none =>
  rw[hfd]at hf hg
  simp only[Option.map_none]at hf hg
  cases ok <;> simp[Instr.lookup,run_underlying h1,MapKept.run_getObj_map hb,hck,Instr.findKey,run_underlying h2,hf,hz,mlook,← hg,Result.andThen]
 |some p =>
  rw[hfd]at hf hg
  simp only[Option.map_some]at hf hg
  cases ok <;> simp[Instr.lookup,run_underlying h1,MapKept.run_getObj_map hb,hck,Instr.findKey,run_underlying h2,hf,mlook,← hg,Result.andThen]
theorem tup_rep {v:Value}{r:Bool}(h1:flat v):Rep cx g σ w (.tuple #[v,.bool r]) (.tup [.d (dv v),.d (.v (.bool r))]):=by
 refine⟨_,rfl,rfl,fun j c av hj hc=>?_⟩
 match j,hj,hc with
 |0,hj,hc =>
  simp at hj hc;subst hj;subst hc
  exact rd_dv h1
 |1,hj,hc=>simp at hj hc;subst hj;subst hc;exact Rd.v _
theorem mget_mem {M:List (List UInt8×Value)}{k:List UInt8}{us:Value}(h:mget M k=some us):∃ p∈M,p.2=us:=by
 induction M with
 |nil=>cases h
 |cons q M ih =>
  obtain⟨s,v⟩:=q
  simp only[mget]at h
  split at h
  ·
   cases h;exact⟨_,List.mem_cons_self ..,rfl⟩
  ·
   obtain⟨p,h1,h2⟩:=ih h
   exact⟨p,List.mem_cons_of_mem _ h1,h2⟩
theorem mlook_flat {zv:Value}{M:List (List UInt8×Value)}{k:List UInt8}(hz:flat zv) (hM:∀ p∈M,flat p.2):flat (mlook zv M k):=by
 unfold mlook
 cases hg:mget M k with
 |none=>exact hz
 |some us =>
  obtain⟨p,h1,rfl⟩:=mget_mem hg
  exact hM p h1
theorem tup_bd {x y:D}:(AV.tup [.d x,.d y]).bd nx:=by
 intro av hav
 simp at hav
 rcases hav with rfl|rfl <;> trivial
theorem a_mlook {t te:TypeId}{zv:Value}{x y:Operand}{x0:Value}{k:List UInt8}{M:List (List UInt8×Value)}(id:Nat) (h:MapTy cx t te zv) (hz:flat zv) (hM:∀ p∈M,flat p.2)
  (hx:ev σ x=some (.d (.v x0))) (hy:ev σ y=some (.d (.v (.string ⟨k.toArray⟩)))) (ho:get σ (.o id) = .ob (.mp M x0)) (hd:Nat.blt d cx.n=true) :
  OA cx σ ⟨some d,.lookup t x y true,ty,pos,af,gd⟩ ⟨rdOf x (.d (.v x0))++(rdOf y (.d (.v (.string ⟨k.toArray⟩)))++[(.o id,.ob (.mp M x0))]),[(.s d,.av (.tup [.d (dv (mlook zv M k)),.d (.v (.bool (mget M k).isSome))]))]⟩:=by
 refine⟨ok_val rfl (lt_of_blt hd) fun σ1 a w g nx hs hr=>?_,(ev_out hx).2.append ((ev_out hy).2.append ⟨ho,trivial⟩)⟩
 have hv:=rep_v (hs.ev (ev_out hx).1 hr.left).1
 have hk:=rep_v (hs.ev (ev_out hy).1 hr.right.left).1
 obtain⟨_,⟨hgx,b,es,clock,hx0,hge,hh,hmi⟩,_⟩:=hs.objs id _ hr.right.right.1
 refine⟨_,w,?_,Below.refl _ _,tup_rep (mlook_flat hz hM),tup_bd⟩
 have:=run_mlook (w:=w) h hh hmi k true
 simp[execOp,hv,hk,hx0,this]
theorem a_mlookd {t te:TypeId}{zv:Value}{x y:Operand}{k:List UInt8}{M:List (List UInt8×Value)}(h:MapTy cx t te zv) (hz:flat zv) (hM:∀ p∈M,flat p.2)
  (hx:ev σ x=some (.d (mapD M))) (hy:ev σ y=some (.d (.v (.string ⟨k.toArray⟩)))) (hd:Nat.blt d cx.n=true) :
  OA cx σ ⟨some d,.lookup t x y true,ty,pos,af,gd⟩ ⟨rdOf x (.d (mapD M))++rdOf y (.d (.v (.string ⟨k.toArray⟩))),[(.s d,.av (.tup [.d (dv (mlook zv M k)),.d (.v (.bool (mget M k).isSome))]))]⟩:=by
 refine⟨ok_val rfl (lt_of_blt hd) fun σ1 a w g nx hs hr=>?_,(ev_out hx).2.append (ev_out hy).2⟩
 obtain⟨b,es,clock,hx0,_,_,hh,hmi⟩:=rd_x (hs.ev (ev_out hx).1 hr.left).1
 have hk:=rep_v (hs.ev (ev_out hy).1 hr.right).1
 refine⟨_,w,?_,Below.refl _ _,tup_rep (mlook_flat hz hM),tup_bd⟩
 have:=run_mlook (w:=w) h hh hmi k true
 simp[execOp,hx0,hk,this]
theorem mfind_some {k:List UInt8}{us v:Value}:∀ {M:List (List UInt8×Value)}{j i:Nat},mfind k M j=some (i,v)→∃ n,i=j+n∧M[n]? = some (k,v)∧mset M k us=M.set n (k,us)
 | [],j,i,h=>by cases h
 |(s,u)::M,j,i,h=>by
  simp only[mfind]at h
  by_cases hs:s=k
  ·
   rw[if_pos hs]at h
   cases h
   exact⟨0,rfl,by simp[hs],by simp[mset,hs]⟩
  ·
   rw[if_neg hs]at h
   obtain⟨n,h1,h2,h3⟩:=mfind_some (us:=us) h
   exact⟨n+1,by omega,by simpa using h2,by simp[mset,hs,h3]⟩
theorem mfind_none {k:List UInt8}{us:Value}:∀ {M:List (List UInt8×Value)}{j:Nat},mfind k M j=none→mset M k us=M++[(k,us)]
 | [],j,_=>rfl
 |(s,u)::M,j,h=>by
  simp only[mfind]at h
  by_cases hs:s=k
  ·
   rw[if_pos hs]at h;cases h
  ·
   rw[if_neg hs]at h
   simp[mset,hs,mfind_none h]
theorem run_mset {t te:TypeId}{zv:Value}(h:MapTy cx t te zv) {b:Nat}{es:Array MapEntry}{clock:Nat}{M:List (List UInt8×Value)}(hb:w.heap[b]? = some (.map es clock)) (hm:MapIs es M) (k:List UInt8) (us:Value) :
  ∃ es' clock',(Instr.mapUpdate t (.map (some b)) (.string ⟨k.toArray⟩) us).run cx.P w = .ok () { w with heap:=w.heap.setIfInBounds b (.map es' clock') }∧MapIs es' (mset M k us):=by
 obtain⟨tk,h1,h2⟩:=h.u
 have hf:=findNow_eq k 0 hm
 have hck:(Instr.checkKey false 10000 tk (.string ⟨k.toArray⟩)).run cx.P w = .ok () w:=MapKept.run_checkKey h2 (by simp[MapKept.IsKey]) _ 9999
 have hset:∀ o,(setObj b o).run cx.P w = .ok () { w with heap:=w.heap.setIfInBounds b o }:=fun o=>MapKept.run_setObj_map o hb
 cases hfd:mfind k M 0 with
 |none =>
  rw[hfd]at hf
  simp only[Option.map_none]at hf
  refine⟨es.push ⟨.string ⟨k.toArray⟩,us,clock⟩,clock+1,?_,?_⟩
  ·
   simp[Instr.mapUpdate,run_underlying h1,MapKept.run_getObj_map hb,hck,Instr.findKey,run_underlying h2,hf,hset,Result.andThen]
  ·
   rw[mfind_none hfd]
   unfold MapIs at hm ⊢
   simp[hm]
 |some p =>
  obtain⟨i,v⟩:=p
  rw[hfd]at hf
  simp only[Option.map_some]at hf
  obtain⟨n,hn,h3,h4⟩:=mfind_some (us:=us) hfd
  obtain rfl:i=n:=by omega
  have hes:(es.toList.map fun e=>(e.key,e.val))[i]? = some (Value.string ⟨k.toArray⟩,v):=by
   unfold MapIs at hm
   rw[hm,List.getElem?_map,h3];rfl
  obtain⟨e,he,hek⟩:∃ e,es[i]? = some e∧e.key=Value.string ⟨k.toArray⟩:=by
   rw[List.getElem?_map]at hes
   cases hx:es.toList[i]? with
   |none=>rw[hx]at hes;cases hes
   |some e =>
    rw[hx]at hes
    simp at hes
    exact⟨e,by simpa using hx,hes.1⟩
  refine⟨es.modify i fun e=>{ e with key := .string ⟨k.toArray⟩,val:=us },clock,?_,?_⟩
  ·
   have hst:(Instr.keyThatStays (((es[i]?).map (·.key)).getD (.string ⟨k.toArray⟩)) (.string ⟨k.toArray⟩)).run cx.P w = .ok (.string ⟨k.toArray⟩) w:=by
    rw[he]
    simp only[Option.map_some,Option.getD_some,hek]
    have hbb:((⟨k.toArray⟩:ByteArray)==⟨k.toArray⟩)=true:=(MapKept.bytes_beq _ _).2 rfl
    simp[Instr.keyThatStays,Instr.sameBits,hbb]
   simp[Instr.mapUpdate,run_underlying h1,MapKept.run_getObj_map hb,hck,Instr.findKey,run_underlying h2,hf,hst,hset,Result.andThen]
  ·
   rw[h4]
   unfold MapIs at hm ⊢
   rw[List.map_set,← hm]
   apply List.ext_getElem?
   intro j
   rw[List.getElem?_map,Array.getElem?_toList,Array.getElem?_modify]
   by_cases hj:i=j
   ·
    subst hj
    have hlt:=(Array.getElem?_eq_some_iff.1 he).1
    rw[if_pos rfl,List.getElem?_set_self (by simpa using hlt),he]
    rfl
   ·
    rw[if_neg hj,List.getElem?_set_ne hj,List.getElem?_map,Array.getElem?_toList]
inductive ValV:AV→Value→Prop
 |v {u:Value}:ValV (.d (.v u)) u
 |agg {av:AV} {us:List Value} (h:AggV av us):ValV av (.agg us.toArray)
theorem rep_valv {v u:Value}{av:AV}(h:ValV av u) (hr:Rep cx g σ w v av):v=u:=by
 cases h with
 |v=>exact rep_v hr
 |agg h=>exact rep_aggv h hr
theorem a_mset {t te:TypeId}{zv:Value}{x y z:Operand}{x0:Value}{av:AV}{k:List UInt8}{us:Value}{M:List (List UInt8×Value)}(id:Nat) (h:MapTy cx t te zv)
  (hx:ev σ x=some (.d (.v x0))) (hy:ev σ y=some (.d (.v (.string ⟨k.toArray⟩)))) (hz:ev σ z=some av) (hu:ValV av us) (ho:get σ (.o id) = .ob (.mp M x0)) :
  OA cx σ ⟨none,.mapUpdate t x y z,ty,pos,af,gd⟩ ⟨rdOf x (.d (.v x0))++(rdOf y (.d (.v (.string ⟨k.toArray⟩)))++(rdOf z av++[(.o id,.ob (.mp M x0))])),[(.o id,.ob (.mp (mset M k us) x0))]⟩:=by
 refine⟨?_,(ev_out hx).2.append ((ev_out hy).2.append ((ev_out hz).2.append ⟨ho,trivial⟩))⟩
 rintro σ1 a w K Q ⟨g,nx,hs⟩ hr hK
 have hv:=rep_v (hs.ev (ev_out hx).1 hr.left).1
 have hk:=rep_v (hs.ev (ev_out hy).1 hr.right.left).1
 have hzv:=rep_valv hu (hs.ev (ev_out hz).1 hr.right.right.left).1
 have ho1:get σ1 (.o id) = .ob (.mp M x0):=hr.right.right.right.1
 obtain⟨hid,⟨hgx,b,es,clock,hx0,hge,hh,hmi⟩,_⟩:=hs.objs id _ ho1
 obtain⟨es',clock',hrun,hmi'⟩:=run_mset (w:=w) h hh hmi k us
 have hblt:b < w.heap.size:=by
  rcases Nat.lt_or_ge b w.heap.size with h|h
  ·
   exact h
  ·
   rw[Array.getElem?_eq_none h]at hh;cases hh
 have hgb:blk (g id)=some b:=by rw[hgx,hx0];rfl
 have hoth:∀ c,c≠b→({ w with heap:=w.heap.setIfInBounds b (.map es' clock') }:World).heap[c]? = w.heap[c]? := fun c hc=>by
  show(w.heap.setIfInBounds b _)[c]? = _
  rw[Array.getElem?_setIfInBounds,if_neg (fun e=>hc e.symm)]
 have hst:ObjStep cx σ1 g nx nx w { w with heap:=w.heap.setIfInBounds b (.map es' clock') } id (.mp (mset M k us) x0) (g id):=by
  refine⟨.inr ⟨rfl,_,ho1,trivial⟩,⟨rfl,rfl,rfl,by simp,fun c hc=>hoth c (by have:=hs.below.size;omega)⟩,fun c hc hn=>hoth c fun e=>hn _ ho1 (by rw[hgb,e]),fun c hc => .inl ⟨_,ho1,hc⟩⟩
 have hG:=SimG.obj hs hst (fun _=>⟨by rw[upd_same];exact hgx,b,es',clock',hx0,hge,by show(w.heap.setIfInBounds b _)[b]? = _;rw[Array.getElem?_setIfInBounds,if_pos rfl,if_pos hblt],hmi'⟩) trivial
 unfold Oper.wp
 have hex:(execOp a.eval ⟨none,.mapUpdate t x y z,ty,pos,af,gd⟩).run cx.P w = .ok .skip { w with heap:=w.heap.setIfInBounds b (.map es' clock') }:=by
  simp[execOp,hv,hk,hzv,hx0,hrun]
 rw[hex]
 refine hK _ _ (Sim.eqv ⟨_,_,hG⟩ fun q=>?_)
 cases q with
 |s i=>rw[objSt_s];exact(get_cons_ne (by simp)).symm
 |o i =>
  by_cases hi:i=id
  ·
   subst hi;rw[get_cons_same];exact get_cons_same.symm
  ·
   rw[objSt_o hi];exact(get_cons_ne (by simpa using fun e=>hi e.symm)).symm
 |nx=>rw[objSt_nx];exact hs.hnx.symm.trans (get_cons_ne (by simp)).symm
theorem fam_mkmap {t:TypeId}{n0:Nat}(hn:get σ .nx = .num n0) (hd:Nat.blt d cx.n=true) (a:Act) (w:World) (K:Act→World→Prop) (Q:Exit→Act→World→Prop) (hs:Sim cx σ a w)
  (hK:∀ (x:Value) a' w',Sim cx ([(.s d,.av (.d (.v x))),(.o n0,.ob (.mp [] x)),(.nx,.num (n0+1))]++σ) a' w'→K a' w') :
  (⟨some d,.makeMap t none,ty,pos,af,gd⟩:Oper).wp cx.P a w K Q:=by
 obtain⟨g,nx,hs⟩:=hs
 have hnx:nx=n0:=by
  have h2:=hs.hnx
  rw[hn]at h2
  simpa using h2.symm
 subst hnx
 have hex:(execOp a.eval ⟨some d,.makeMap t none,ty,pos,af,gd⟩).run cx.P w = .ok (.value (.map (some w.heap.size))) (w.alloc (.map #[] 0)):=by
  simp[execOp,Instr.makeMap,newObj]
  rfl
 have hb:Below w.heap.size w (w.alloc (.map #[] 0)):=(Below.refl _ _).alloc (Nat.le_refl _) _
 have hst:ObjStep cx σ g nx (nx+1) w (w.alloc (.map #[] 0)) nx (.mp [] (.map (some w.heap.size))) (.map (some w.heap.size)) :=
  ⟨.inl ⟨rfl,rfl⟩,hb.mono hs.below.size,fun c hc _=>hb.block c hc,fun c hc => .inr (by cases hc;exact Nat.le_refl _)⟩
 have hG:=SimG.obj hs hst (fun _=>⟨upd_same _ _ _,w.heap.size,#[],0,rfl,hs.below.size,heap_alloc_new w _,rfl⟩) trivial
 refine wp_val rfl hex (hK (.map (some w.heap.size)) _ _ ?_)
 refine Sim.eqv (Sim.put hG (lt_of_blt hd) (Below.refl _ _) (av := .d (.v (.map (some w.heap.size)))) (Rd.v _) trivial) fun q=>?_
 cases q with
 |s i =>
  by_cases hi:i=d
  ·
   subst hi;rw[get_cons_same];exact get_cons_same.symm
  ·
   rw[get_cons_ne (by simpa using fun e=>hi e.symm),objSt_s]
   exact((get_cons_ne (by simpa using fun e=>hi e.symm)).trans ((get_cons_ne (by simp)).trans (get_cons_ne (by simp)))).symm
 |o i =>
  rw[get_cons_ne (by simp)]
  by_cases hi:i=nx
  ·
   subst hi;rw[get_cons_same];exact((get_cons_ne (by simp)).trans get_cons_same).symm
  ·
   rw[objSt_o hi]
   exact((get_cons_ne (by simp)).trans ((get_cons_ne (by simpa using fun e=>hi e.symm)).trans (get_cons_ne (by simp)))).symm
 |nx =>
  rw[get_cons_ne (by simp),objSt_nx]
  exact((get_cons_ne (by simp)).trans ((get_cons_ne (by simp)).trans get_cons_same)).symm
theorem map_known {id:Nat}{M:List (List UInt8×Value)}{x:Value}(ho:get σ (.o id) = .ob (.mp M x)) (a:Act) (w:World) (hs:Sim cx σ a w):∃ b,x = .map (some b):=by
 obtain⟨g,nx,hs⟩:=hs
 obtain⟨_,⟨_,b,_,_,h,_⟩,_⟩:=hs.objs id _ ho
 exact⟨b,h⟩
theorem a_nilp {x:Operand}{id off:Nat}{cells:List AV}(hx:ev σ x=some (.ptr id off)) (ho:get σ (.o id) = .ob (.box cells)) (hd:Nat.blt d cx.n=true) :
  OA cx σ ⟨some d,.nilCheck x,ty,pos,af,gd⟩ ⟨rdOf x (.ptr id off)++[(.o id,.ob (.box cells))],[(.s d,.av (.ptr id off))]⟩ :=
 ⟨ok_nilCheck_ptr (lt_of_blt hd) (ev_out hx).1,(ev_out hx).2.append ⟨ho,trivial⟩⟩
end Go.AX
namespace Go.RF
open Go.AX
abbrev Mk:=List (Str×(Bool×Int))
def mG:Mk→Str→Option (Bool×Int)
 | [],_=>none
 |(s,c)::r,k=>if s=k then some c else mG r k
def mS:Mk→Str→Bool×Int→Mk
 | [],k,c=>[(k,c)]
 |(s,u)::r,k,c=>if s=k then (s,c)::r else (s,u)::mS r k c
def chV (c:Bool×Int):List Value:=[.bool c.1,.int .i64 c.2]
def chA (c:Bool×Int):Value := .agg (chV c).toArray
def encM (m:Mk):List (Str×Value):=m.map fun p=>(p.1,chA p.2)
theorem mget_enc (m:Mk) (k:Str):mget (encM m) k=(mG m k).map chA:=by
 induction m with
 |nil=>rfl
 |cons p m ih =>
  obtain⟨s,c⟩:=p
  simp only[encM,List.map_cons,mget,mG]
  by_cases h:s=k
  ·
   rw[if_pos h,if_pos h];rfl
  ·
   rw[if_neg h,if_neg h];exact ih
theorem mset_enc (m:Mk) (k:Str) (c:Bool×Int):mset (encM m) k (chA c)=encM (mS m k c):=by
 induction m with
 |nil=>rfl
 |cons p m ih =>
  obtain⟨s,u⟩:=p
  simp only[encM,List.map_cons,mset,mS]
  by_cases h:s=k
  ·
   rw[if_pos h,if_pos h];rfl
  ·
   rw[if_neg h,if_neg h]
   show(s,chA u)::mset (encM m) k (chA c)=_
   rw[ih];rfl
theorem encM_one (m:Mk):∀ p∈encM m,flat p.2:=by
 intro p hp
 obtain⟨q,_,rfl⟩:=List.mem_map.1 hp
 intro u hu
 simp[chV]at hu
 rcases hu with rfl|rfl <;> rfl
theorem mG_mS (m:Mk) (k k':Str) (c:Bool×Int):mG (mS m k c) k'=if k=k' then some c else mG m k':=by
 induction m with
 |nil=>simp[mS,mG]
 |cons p m ih =>
  obtain⟨s,u⟩:=p
  simp only[mS]
  by_cases hs:s=k
  ·
   rw[if_pos hs]
   simp only[mG]
   by_cases h:k=k'
   ·
    simp[hs,h]
   ·
    rw[if_neg (by rw[hs];exact h),if_neg h,if_neg (by rw[hs];exact h)]
  ·
   rw[if_neg hs]
   simp only[mG,ih]
   by_cases h:s=k'
   ·
    rw[if_pos h,if_neg (fun e=>hs (by rw[h,e])),if_pos h]
   ·
    rw[if_neg h,if_neg h]
def seeM (view:Str→Int×Bool) (m:Mk) (k:Str):Int:=match mG m k with
 |some c=>c.2
 |none=>(view k).1
def runGo (view:Str→Int×Bool):Int→Mk→Done→List Ins→Mk×Done
 |_,m,e,[]=>(m,e)
 |sk,m,e,i::r =>
  if 0 < sk then runGo view (sk - 1) m e r
  else if i.kind=1 then runGo view sk m (rset e i.a.toNat (seeM view m i.key)) r
  else if i.kind=2 then runGo view sk m (rset e i.a.toNat i.n) r
  else if i.kind=3 then runGo view sk m (rset e i.a.toNat (round (rget e i.a.toNat+rget e i.b.toNat))) r
  else if i.kind=4 then runGo view sk m (rset e i.a.toNat (round (rget e i.a.toNat - rget e i.b.toNat))) r
  else if i.kind=5 then runGo view sk m (rset e i.a.toNat (round (rget e i.a.toNat*rget e i.b.toNat))) r
  else if i.kind=6 then runGo view sk (mS m i.key (true,rget e i.a.toNat)) e r
  else if i.kind=7 then runGo view sk (mS m i.key (false,0)) e r
  else if i.kind=8 then runGo view (if rget e i.a.toNat < 1 then i.n else sk) m e r
  else if rget e i.a.toNat < 0 then (m,bustE e) else runGo view sk m e r
theorem runGo_skip (view:Str→Int×Bool) (m:Mk) (e:Done):∀ (n:Nat) (l:List Ins),runGo view n m e l=runGo view 0 m e (l.drop n)
 |0,l=>rfl
 |n+1,[]=>by simp[runGo]
 |n+1,i::l=>by
  simp only[runGo]
  rw[if_pos (by omega),show(((n+1:Nat):Int) - 1)=(n:Int) by omega,runGo_skip view m e n l,List.drop_succ_cons]
def chg (m:Mk):List Str→List (Str×(Bool×Int))
 | []=>[]
 |k::r=>match mG m k with
  |some c=>(k,c)::chg m r
  |none=>chg m r
def runM (view:Str→Int×Bool) (d:Deed):Mk×Done:=runGo view 0 [] done0 d.code
def runC (view:Str→Int×Bool) (d:Deed):List (Str×(Bool×Int)):=if (runM view d).2.failed=true then [] else chg (runM view d).1 d.writes
def chVer (c:Str×(Bool×Int)):Version:=⟨0,true,c.2.1,c.2.2⟩
def runRes (view:Str→Int×Bool) (d:Deed):List D:=[.agg (runM view d).2.enc,encVs ((runC view d).map chVer),encStrs ((runC view d).map (·.1))]
theorem chg_len (m:Mk):∀ l:List Str,(chg m l).length≤l.length
 | []=>by simp[chg]
 |k::r=>by
  have:=chg_len m r
  simp only[chg]
  split <;> simp <;> omega
def mOk (m:Mk):Prop:=∀ k c,mG m k=some c→nOk c.2
theorem mOk_nil:mOk []:=by intro k c h;cases h
theorem mOk_set {m:Mk}(h:mOk m) (k:Str) {c:Bool×Int}(hc:nOk c.2):mOk (mS m k c):=by
 intro k' c' h'
 rw[mG_mS]at h'
 split at h'
 ·
  cases h';exact hc
 ·
  exact h k' c' h'
theorem see_ok {view:Str→Int×Bool}{m:Mk}{k:Str}(hv:nOk (view k).1) (hm:mOk m):nOk (seeM view m k):=by
 unfold seeM
 split
 ·
  next c h=>exact hm k c h
 ·
  exact hv
end Go.RF
namespace Go.Proofs
open Go.Shelf Go.RowKit
def Tryd.lays106_ren:Go.Shelf.Ren:=⟨fun|106=>45|213=>55|265=>64|n=>n,fun|9=>9|3=>3|n=>n,fun|n=>n⟩
theorem Tryd.lays106:Go.Proofs.Lays.n106 Tryd.prog Tryd.lays106_ren:={
 mixed:=by kernel_rfl
 f106:=Tryd.func45.trans (congrArg some (by kernel_rfl))
 f213:=Tryd.func55.trans (congrArg some (by kernel_rfl))
 f265:=Tryd.func64.trans (congrArg some (by kernel_rfl))
 t3:=Tryd.underlying3
 a3:=Tryd.isAgg3
 z3:=Tryd.sizeOf3
 v3:=Tryd.zeroValue3
 t9:=Tryd.underlying9
 a9:=Tryd.isAgg9
 z9:=Tryd.sizeOf9
 v9:=Tryd.zeroValue9 }
theorem Tryd.strings_Compare (a b:ByteArray) (w:World) :
  Calls Tryd.prog 45 #[.string a,.string b] w fun e w'=>e = .returned (.int .i64 (Lib.compareBytes a.data.toList b.data.toList))∧w'=w:=Any.strings_Compare Tryd.lays106 a b w
end Go.Proofs
namespace Go.Proofs.YtfpkamiobdkcpaaDoor
open Go.AX Go.RF Go.RowKit
set_option maxRecDepth 100000
set_option maxHeartbeats 4000000
def cmpT (a b:Str):Int:=if slt a b=true then -1 else if a=b then 0 else 1
theorem compare_eq:∀ (a b:Str),Lib.compareBytes a b=cmpT a b
 | [],[]=>by simp[Lib.compareBytes,cmpT,bl_nil]
 | [],b::r=>by simp[Lib.compareBytes,cmpT,bl_nil_cons]
 |a::l,[]=>by simp[Lib.compareBytes,cmpT,bl_nil]
 |a::l,b::r=>by
  simp only[Lib.compareBytes,cmpT,bl_cons]
  by_cases h1:a < b
  ·
   simp[h1]
  ·
   by_cases h2:b < a
   ·
    have h3:¬ a=b:=fun h=>by subst h;exact h1 h2
    simp[h1,h2,h3]
   ·
    have h3:a=b:=UInt8.le_antisymm (UInt8.not_lt.1 h2) (UInt8.not_lt.1 h1)
    subst h3
    rw[compare_eq l r]
    simp[h1,cmpT]
theorem cmpT_lt {a b:Str}:cmpT a b < 0↔slt a b=true:=by
 unfold cmpT
 split
 ·
  next h=>simp[h]
 ·
  next h=>split <;> simp[h]
theorem cmpT_zero {a b:Str}:cmpT a b=0↔a=b:=by
 unfold cmpT
 split
 ·
  next h =>
  constructor
  ·
   intro h0;simp at h0
  ·
   intro h0;subst h0;rw[slt_irrefl]at h;cases h
 ·
  split <;> simp_all
theorem ok_compare (a b:Str):FnOk Tryd.prog 45 [.d (dstr a),.d (dstr b)] (.one (dint (cmpT a b))):=by
 refine⟨⟨_,Tryd.func45,rfl,rfl⟩,fun w own vs hown ha=>?_⟩
 match vs,ha with
 | [x,y],⟨h1,h2,_⟩ =>
  obtain rfl:x=str a:=rd_v h1
  obtain rfl:y=str b:=rd_v h2
  refine(Tryd.strings_Compare ⟨a.toArray⟩ ⟨b.toArray⟩ w).mono fun e w' he=>?_
  obtain⟨rfl,rfl⟩:=he
  exact⟨_,rfl,Below.refl _ _,by rw[← compare_eq];exact Rd.v _⟩
theorem ok_rfind1 (c:Pair) (k:Str):FnOk Tryd.prog 44 [.d (.agg c.enc),.d (dstr k)] (.one (dint (cmpT c.key k))):=by
 refine fnOk_of tbl_ok mixed_ok Tryd.func44 rfl (by kernel_rfl) rfl rfl fun w0 own0=>?_
 have hc:=ok_compare c.key k
 try refine wk ?_
 exact .one (.tmp rfl (.one (.d (.refl _))))
abbrev AtR (l:List Pair) (k:Str) (m:Nat):Prop:=AtK Pair.key l k m
abbrev isAtR (l:List Pair) (k:Str) (m:Nat):Bool:=isAtK Pair.key l k m
theorem ok_rbsearch (l:List Pair) (k:Str) (m:Nat) (hl:l.length≤268435456) (hm:AtR l k m) :
  FnOk Tryd.prog 43 [.d (encRows l),.d (dstr k),.d (.v (.func (.func 44) #[] #[]))] (.tup [dint m,dbool (isAtR l k m)]):=by
 refine fnOk_of tbl_ok mixed_ok Tryd.func43 rfl (by kernel_rfl) rfl rfl fun w0 own0=>?_
 have hml:=hm.le
 try refine wk ?_
 refine CW.loopT (fun t:Nat×Nat=>[sd 0 (encRows l),sd 1 (dstr k),sd 2 (.v (.func (.func 44) #[] #[])),sd 8 (dint l.length),sd 9 (dint t.1),sd 10 (dint t.2),nxt 0])
  (fun t=>t.1≤m∧m≤t.2∧t.2≤l.length) (fun t=>t.2 - t.1) (0,l.length) ⟨by omega,hm.le,by omega⟩ ?_ ?_
 ·
  exact by_less
 ·
  rintro ⟨i,j⟩ ⟨h1,h2,h3⟩
  dsimp only at h1 h2 h3 ⊢
  by_cases h4:i < j
  ·
   obtain⟨c,hc⟩:∃ c,l[(i+j) / 2]? = some c:=⟨l[(i+j) / 2]'(by omega),List.getElem?_eq_getElem (by omega)⟩
   have hcall:=ok_rfind1 c k
   have hst0:StopR 4:=⟨rfl⟩
   try refine wkS ?_
   clear hst0
   refine Stop.cutk [sd 11 (dint ((i+j) / 2:Nat))] [.s 0,.s 1,.s 2,.s 8,.s 9,.s 10,.nx] ?_ ?_
   ·
    repeat(first|refine wa ?_|((with_reducible apply s5);(first|((with_reducible apply a_bin);(iterate 2 exact rfl);exact bin_half;exact rfl)|exact by_oa|exact by_ca);exact by_g)|refine wb ?_)
    refine q_cut ?_
    exact by_less
   have hcz:=@cmpT_lt c.key k
   by_cases h5:cmpT c.key k < 0
   ·
    have h6:(i+j) / 2 < m:=by
     rcases Nat.lt_or_ge ((i+j) / 2) m with h|h
     ·
      exact h
     ·
      have:=hm.ge _ c hc h
      rw[hcz.1 h5]at this;cases this
    repeat(first|refine wa ?_|((with_reducible apply s5);(first|exact a_callv hcall rfl rfl by_sub|exact by_oa|exact by_ca);exact by_g)|refine wb ?_)
    refine q_loopT ((i+j) / 2+1,j) ⟨by dsimp only;omega,h2,h3⟩ (by dsimp only;omega) ?_
    exact by_less
   ·
    have h6:m≤(i+j) / 2:=by
     rcases Nat.lt_or_ge ((i+j) / 2) m with h|h
     ·
      exact absurd (hcz.2 (hm.lt _ c hc h)) h5
     ·
      exact h
    repeat(first|refine wa ?_|((with_reducible apply s5);(first|exact a_callv hcall rfl rfl by_sub|exact by_oa|exact by_ca);exact by_g)|refine wb ?_)
    refine q_loopT (i,(i+j) / 2) ⟨h1,h6,by dsimp only;omega⟩ (by dsimp only;omega) ?_
    exact by_less
  ·
   obtain rfl:i=m:=by omega
   cases hc:l[i]? with
   |none =>
    have h5:l.length≤i:=by
     rcases Nat.lt_or_ge i l.length with h|h
     ·
      rw[List.getElem?_eq_getElem h]at hc;cases hc
     ·
      exact h
    try refine wk ?_
    exact .two (.tmp rfl (.one (.d (.refl _)))) (.tmp rfl (.one (.d (dle_bool (by simp[isAtK,hc])))))
   |some c =>
    have h5:i < l.length:=(List.getElem?_eq_some_iff.1 hc).1
    have hcall:=ok_rfind1 c k
    repeat(first|refine wa ?_|((with_reducible apply s5);(first|exact a_callv hcall rfl rfl by_sub|exact by_oa|exact by_ca);exact by_g)|refine wb ?_)
    refine .two (.tmp rfl (.one (.d (.refl _)))) (.tmp rfl (.one (.d (dle_bool ?_))))
    rw[show isAtR l k i=decide (c.key=k) by simp[isAtR,isAtK,hc]]
    show decide (cmpT c.key k=0)=decide (c.key=k)
    rw[decide_eq_decide]
    exact cmpT_zero
theorem ok_rfind (l:List Pair) (k:Str) (m:Nat) (hl:l.length≤268435456) (hm:AtR l k m):FnOk Tryd.prog 27 [.d (encRows l),.d (dstr k)] (.tup [dint m,dbool (isAtR l k m)]):=by
 refine fnOk_of tbl_ok mixed_ok Tryd.func27 rfl (by kernel_rfl) rfl rfl fun w0 own0=>?_
 have hc:=ok_rbsearch l k m hl hm
 try refine wk ?_
 exact .two (.tmp rfl (.one (.d (.refl _)))) (.tmp rfl (.one (.d (.refl _))))
end Go.Proofs.YtfpkamiobdkcpaaDoor
namespace Go.Proofs.YtfpkamiobdkcpaaDoor
open Go.AX Go.RF
set_option maxRecDepth 100000
set_option maxHeartbeats 4000000
theorem new_clone_pair (rows:List (List D)) (hl:rows.length≤536870912):FnNew Tryd.prog 28 [.d (.sl 2 rows)] 57 2 rows:=by
 refine fnNew_of tbl_ok mixed_ok Tryd.func28 rfl (by kernel_rfl) rfl rfl fun w0 own0=>?_
 cases rows with
 |nil =>
  refine CW.empty 0 rfl fun p cp=>?_
  cases p with
  |none =>
   try refine wk ?_
   exact RetNew.nil rfl rfl
  |some ad =>
   have hst0:StopR 3:=⟨rfl⟩
   try refine wkS ?_
   clear hst0
   refine Stop.go (CW.stut (stut_nilv (i:=0) (k:=2)) ⟨rfl,trivial⟩ ?_)
   try refine wk ?_
   exact RetNew.own rfl rfl rfl
 |cons r rows =>
  have hl2:rows.length≤536870911:=by simp at hl;omega
  try refine wk ?_
  exact RetNew.own rfl rfl (by simp)
theorem eq_regs (n:Nat) (a0 a1 a2 a3 b0 b1 b2 b3:Int) (w:World):(Op.equalIn (n+2) 43 (.agg #[i64 a0,i64 a1,i64 a2,i64 a3]) (.agg #[i64 b0,i64 b1,i64 b2,i64 b3])).run Tryd.prog w = .ok (decide (a0=b0∧a1=b1∧a2=b2∧a3=b3)) w:=by
 have hs:∀ w,(sizeOf 3).run Tryd.prog w = .ok 1 w:=by
  intro w
  obtain⟨i,h1,h2⟩:∃ i,Tryd.prog.info? 3=some i∧i.size=1:=by
   have:=tbl_ok 3 _ rfl
   obtain⟨i,h1,h2,_⟩:=this.info
   exact⟨i,h1,h2⟩
  simp[sizeOf,typeInfo,h1,h2]
 unfold Op.equalIn
 simp only[Sem.run_bind,run_underlying Tryd.underlying43,Result.andThen_ok,hs]
 simp[Std.Legacy.Range.forIn_eq_forIn_range',List.range',Std.Legacy.Range.size,part,Tryd.isAgg3,run_equalIn_int,Tryd.underlying3]
 by_cases h0:a0=b0 <;> by_cases h1:a1=b1 <;> by_cases h2:a2=b2 <;> by_cases h3:a3=b3 <;> simp[h0,h1,h2,h3]
def Done.vals (e:Done):List Value:=[.bool e.failed,i64 e.r0,i64 e.r1,i64 e.r2,i64 e.r3]
theorem eq_done (a b:Done) (w:World):(Op.equalIn 10000 45 (.agg (Done.vals a).toArray) (.agg (Done.vals b).toArray)).run Tryd.prog w = .ok (decide (a=b)) w:=by
 rw[run_equalIn_agg (P:=Tryd.prog) w 9999 45 _ _ (by kernel_rfl) (by kernel_rfl)]
 obtain⟨f,a0,a1,a2,a3⟩:=a
 obtain⟨g,b0,b1,b2,b3⟩:=b
 have hs:∀ w,(sizeOf 43).run Tryd.prog w = .ok 4 w:=by
  intro w
  obtain⟨i,h1,h2⟩:∃ i,Tryd.prog.info? 43=some i∧i.size=4:=by
   have:=tbl_ok 43 _ rfl
   obtain⟨i,h1,h2,_⟩:=this.info
   exact⟨i,h1,h2⟩
  simp[sizeOf,typeInfo,h1,h2]
 have hp:∀ (f:Bool) (a0 a1 a2 a3:Int) (w:World),(part 43 #[.bool f,i64 a0,i64 a1,i64 a2,i64 a3] 1).run Tryd.prog w = .ok (.agg #[i64 a0,i64 a1,i64 a2,i64 a3]) w:=by
  intro f a0 a1 a2 a3 w
  simp[part,Tryd.isAgg43,hs]
 have hb:∀ (f:Bool) (a0 a1 a2 a3:Int) (w:World),(part 4 #[.bool f,i64 a0,i64 a1,i64 a2,i64 a3] 0).run Tryd.prog w = .ok (.bool f) w:=by
  intro f a0 a1 a2 a3 w
  simp[part,Tryd.isAgg4]
 have he:=fun w=>eq_regs 9997 a0 a1 a2 a3 b0 b1 b2 b3 w
 simp only[Program.fieldsOf,Tryd.underlying45,Op.eqFields,Done.vals]
 simp[hb,hp,he,run_equalIn_bool',Tryd.underlying4]
 by_cases e1:f=g
 ·
  subst e1
  by_cases h0:a0=b0 <;> by_cases h1:a1=b1 <;> by_cases h2:a2=b2 <;> by_cases h3:a3=b3 <;> simp[h0,h1,h2,h3]
 ·
  simp[e1]
set_option maxHeartbeats 8000000
structure Engine.Sz (e:Engine) (N:Nat):Prop where
 c:e.chains.length≤N
 v:∀ c∈e.chains,c.vs.length≤N
 d:e.deeds.length≤N
 s:e.state.length=e.deeds.length
 n:e.ends.length=e.deeds.length
 b:0≤e.base∧e.base+e.deeds.length≤N
 dd:∀ d∈e.deeds,d.Sm
theorem Engine.Sz.sm {e:Engine}{N:Nat}(h:Engine.Sz e N) (hN:N≤134217728):e.Sm :=
 ⟨by have:=h.c;omega,fun c hc=>by have:=h.v c hc;omega,by have:=h.d;omega,by have:=h.d;have:=h.s;omega,by have:=h.d;have:=h.n;omega,by have:=h.b;omega,h.dd⟩
theorem wrong_writes {d:Deed}(h:wrongDeed d=0):d.reads.length≤5∧d.writes.length≤5∧d.code.length≤12:=by
 unfold wrongDeed at h
 by_cases h0:lsGo [d.reads,d.writes]=0
 ·
  rw[if_pos h0]at h
  simp only[lsGo]at h0
  have hc:d.code.length≤12:=by
   by_cases hc:12 < d.code.length
   ·
    rw[if_pos hc]at h;simp at h
   ·
    omega
  have key:∀ l:List Str,keysWrong l=0→l.length≤5:=by
   intro l hl
   unfold keysWrong at hl
   by_cases h5:5 < l.length
   ·
    rw[if_pos h5]at hl;simp at hl
   ·
    omega
  by_cases h1:keysWrong d.reads=0
  ·
   rw[if_pos h1]at h0
   by_cases h2:keysWrong d.writes=0
   ·
    exact⟨key _ h1,key _ h2,hc⟩
   ·
    rw[if_neg h2]at h0;exact absurd h0 h2
  ·
   rw[if_neg h1]at h0;exact absurd h0 h1
 ·
  rw[if_neg h0]at h;exact absurd h h0
end Go.Proofs.YtfpkamiobdkcpaaDoor
namespace Go.Proofs.YtfpkamiobdkcpaaDoor
open Go.AX Go.RF Go.RowKit Go.Shelf Go.Lib
theorem run_copy_k {P:Program}(w:World) (dT sT ty elem:TypeId) (k g o dLen dCap:Nat) (a:Addr) (sLen sCap q:Nat) (cur:Array Value) (t:TypeId) (cs:List Value)
  (hu:P.underlying dT=some (.slice elem)) (hs:(P.info? elem).map (·.size)=some k)
  (hg:w.heap[g]? = some (.cells cur t (0,0))) (hq:Nat.min sLen dLen=q) (hn:cs.length=q*k)
  (hsrc:∀ j v,cs[j]? = some v→w.cell? (a.add j)=some v) (hfit:o+cs.length≤cur.size) (h1:∀ v∈cs,v.oneCell'=true) :
  (Builtin.copy_ #[dT,sT] ty #[.slice (some ⟨g,o,none⟩) dLen dCap,.slice (some a) sLen sCap]).run P w =
   .ok (goInt q) (w.setRow g (cur.toList.take o++cs++cur.toList.drop (o+cs.length)).toArray):=by
 have hl:=run_loadCells_list (P:=P) w a cs hsrc
 have hst:=run_storeCells_at P g o t cs 0 cur w hg (by simpa using hfit) h1
 cases hq':P.info? elem with
 |none=>simp[hq']at hs
 |some i =>
  have hi:i.size=k:=by simpa[hq'] using hs
  simp[Builtin.copy_,run_underlying hu,Builtin.lenOf,Builtin.firstCells,sizeOf,typeInfo,hq',hi,hq,← hn,hl,hst]
theorem overlaps_arm {motive:Array Value→Type}{a b:Option Addr}{la ca lb cb:Nat}{h1:∀ (a:Option Addr) (la c:Nat) (b:Option Addr) (lb d:Nat),motive #[.slice a la c,.slice b lb d]}{h2:∀ x,motive x} :
  Extern.SlicesOverlaps.overlaps.match_4 motive #[.slice a la ca,.slice b lb cb] h1 h2=h1 a la ca b lb cb:=rfl
theorem run_overlaps_b {P:Program}(w:World) (tS tR e:TypeId) (ht:P.underlying tS=some (.slice e)) (size:Nat) (hz:∀ w,(Go.sizeOf e).run P w = .ok size w)
  (a b:Addr) (la ca lb cb:Nat) (hne:a.block≠b.block) (tA tB:TypeId) (kA kB:Nat)
  (hsa:w.shape? a.block=some (tA,kA+1)) (hsb:w.shape? b.block=some (tB,kB+1)) (hfb:w.frozen? b=false) (hfe:w.frozen? { block:=b.block,off:=kB+1 }=false) :
  (Extern.SlicesOverlaps.overlaps #[tS,tS] #[tR] #[.slice (some a) la ca,.slice (some b) lb cb]).run P w = .ok (.bool false) w:=by
 have hnb:(a.block != b.block)=true:=by simpa using hne
 have hnb':(a.block==b.block)=false:=by simpa using hne
 delta Extern.SlicesOverlaps.overlaps
 dsimp only
 rw[overlaps_arm]
 by_cases h0:la=0∨lb=0∨size=0
 ·
  simp[run_underlying ht,hz,h0]
 ·
  cases hfa:w.frozen? a <;> cases hfa2:w.frozen? { block:=a.block,off:=kA+1 } <;>
   simp[run_underlying ht,hz,h0,hnb,hnb',frozen,noView,viewAt,mayBeOne,stringish,shape,Sem.run,hsa,hsb,hfb,hfe,hfa,hfa2]
theorem alloc_new_at (w:World) (o:Obj):(w.alloc o).heap[w.heap.size]? = some o:=heap_alloc_new w o
theorem append_ty {P:Program}(ts:Array TypeId) (ty:TypeId) (args:Array Value) (w:World):(Builtin.append_ ts ty args).run P w=(Builtin.append_ ts 0 args).run P w:=rfl
theorem append_types {P:Program}{t u e e':TypeId}(ht:P.underlying t=some (.slice e)) (hu:P.underlying u=some (.slice e')) (ty:TypeId) (args:Array Value) (w:World) :
  (Builtin.append_ #[t,u] ty args).run P w=(Builtin.append_ #[t,t] ty args).run P w:=by
 cases h0:args[0]? with
 |none=>simp[Builtin.append_,h0]
 |some s =>
  cases h1:args[1]? with
  |none=>simp[Builtin.append_,h0,h1]
  |some x=>cases s <;> simp[Builtin.append_,h0,h1,run_underlying ht,run_underlying hu]
theorem room_cells {cur:List Value}{n i:Nat}{c0 c1:Value}(hi:i < n) (hl:(n+1)*2≤cur.length) :
  let mid:=cur.take ((i+1)*2)++(cur.drop (i*2)).take ((n - i)*2)++cur.drop ((i+1)*2+(n - i)*2)
  (mid.take (i*2)++[c0,c1]++mid.drop (i*2+2)).take ((n+1)*2)=(cur.take (n*2)).take (i*2)++[c0,c1]++(cur.take (n*2)).drop (i*2):=by
 intro mid
 have hm:mid=cur.take ((i+1)*2)++(cur.drop (i*2)).take ((n - i)*2)++cur.drop ((i+1)*2+(n - i)*2):=rfl
 have hml:mid.length=cur.length:=by rw[hm];simp;omega
 have h1:(cur.take ((i+1)*2)).length=(i+1)*2:=by simp;omega
 have h2:((cur.drop (i*2)).take ((n - i)*2)).length=(n - i)*2:=by simp;omega
 have e1:mid.take (i*2)=cur.take (i*2):=by
  rw[hm,List.append_assoc,List.take_append_of_le_length (by rw[h1];omega),List.take_take,Nat.min_eq_left (by omega)]
 have e2:mid.drop (i*2+2)=(cur.drop (i*2)).take ((n - i)*2)++cur.drop ((i+1)*2+(n - i)*2):=by
  rw[hm,List.append_assoc,List.drop_append_of_le_length (by rw[h1];omega),List.drop_eq_nil_of_le (by rw[h1];omega),List.nil_append]
 rw[e1,e2,List.take_take,Nat.min_eq_left (show i*2≤n*2 by omega),List.drop_take]
 have h3:(cur.take (i*2)).length=i*2:=by simp;omega
 rw[List.take_append,List.take_of_length_le (by simp;omega)]
 congr 1
 rw[List.take_append_of_le_length (by simp;omega),List.take_of_length_le (by simp;omega)]
 congr 1
 omega
theorem shape_of {w:World}{ad:Addr}{c:Value}(h:w.cell? (ad.add 0)=some c):∃ t k,w.shape? ad.block=some (t,k+1):=by
 rw[AX.add_zero]at h
 unfold World.cell? at h
 unfold World.shape?
 split at h
 ·
  next cs e fr hh =>
  split at h
  ·
   cases h
  ·
   have:=(Array.getElem?_eq_some_iff.1 h).1
   exact⟨e,cs.size - 1,by simp;omega⟩
 ·
  cases h
theorem grow_cells {xs zs:List Value}{n i:Nat}{c0 c1:Value}(hi:i < n) (hl:xs.length=n*2) (hz:(n+1 - i)*2≤zs.length) :
  let row:=xs.take (i*2)++zs
  let mid:=row.take (i*2)++[c0,c1]++row.drop (i*2+2)
  (mid.take ((i+1)*2)++xs.drop (i*2)++mid.drop ((i+1)*2+(n - i)*2)).take ((n+1)*2)=xs.take (i*2)++[c0,c1]++xs.drop (i*2):=by
 intro row mid
 have h3:(xs.take (i*2)).length=i*2:=by simp;omega
 have hr:row.take (i*2)=xs.take (i*2):=by
  show(xs.take (i*2)++zs).take (i*2)=_
  rw[List.take_append_of_le_length (by omega),List.take_of_length_le (by omega)]
 have hm:mid.take ((i+1)*2)=xs.take (i*2)++[c0,c1]:=by
  show(row.take (i*2)++[c0,c1]++row.drop (i*2+2)).take ((i+1)*2)=_
  rw[hr,List.take_append_of_le_length (by simp;omega),List.take_of_length_le (by simp;omega)]
 rw[hm,List.take_append_of_le_length (by simp;omega),List.take_of_length_le (by simp;omega)]
end Go.Proofs.YtfpkamiobdkcpaaDoor
namespace Go.AX
open Go.RowKit
theorem getElem?_ins {α:Type}{l:List α}{m:Nat}{x:α}(hm:m≤l.length) (i:Nat) :
  (l.take m++x::l.drop m)[i]? = if i < m then l[i]? else if i=m then some x else l[i - 1]? := by
 have hl:(l.take m).length=m:=by simp;omega
 by_cases h1:i < m
 ·
  rw[if_pos h1,List.getElem?_append_left (by omega),List.getElem?_take,if_pos h1]
 ·
  rw[if_neg h1,List.getElem?_append_right (by omega),hl]
  by_cases h2:i=m
  ·
   subst h2;simp
  ·
   rw[if_neg h2]
   obtain⟨j,rfl⟩:∃ j,i=m+(j+1):=⟨i - m - 1,by omega⟩
   rw[show m+(j+1) - m=j+1 by omega,List.getElem?_cons_succ,List.getElem?_drop]
   congr 1
theorem getElem?_ins2 {α:Type}{l:List α}{m n:Nat}{a b:α}(hl:l.length=n*2) (hm:m≤n) (i j:Nat) (hj:j < 2) :
  (l.take (m*2)++[a,b]++l.drop (m*2))[i*2+j]? = if i < m then l[i*2+j]? else if i=m then [a,b][j]? else l[(i - 1)*2+j]? := by
 have hm2:m*2≤n*2:=Nat.mul_le_mul_right 2 hm
 have h1:(l.take (m*2)).length=m*2:=by simp;omega
 rw[List.append_assoc]
 by_cases hi:i < m
 ·
  have:(i+1)*2≤m*2:=Nat.mul_le_mul_right 2 hi
  rw[if_pos hi,List.getElem?_append_left (by omega),List.getElem?_take,if_pos (by omega)]
 ·
  rw[if_neg hi,List.getElem?_append_right (by omega),h1]
  by_cases he:i=m
  ·
   subst he
   rw[if_pos rfl,show i*2+j - i*2=j by omega,List.getElem?_append_left (by simpa using hj)]
  ·
   rw[if_neg he]
   have:(m+1)*2≤i*2:=Nat.mul_le_mul_right 2 (by omega)
   rw[List.getElem?_append_right (by simp;omega),List.getElem?_drop]
   congr 1
   simp;omega
theorem rows_ins {w w':World}{own:Nat→Prop}{v v':Value}{e m:Nat}{rows:List (List D)}{xs:List Value}{c0 c1:Value}{d0 d1:D}
  (hm:m≤rows.length) (hb:BelowBut v w w') (hp:∀ b,blk v'=some b→blk v=some b∨w.heap.size≤b)
  (hlen:xs.length=rows.length*2) (hone:∀ x∈xs,Value.oneCell' x=true) (hrl:∀ r∈rows,r.length=2)
  (hrd:∀ (i j:Nat) (r:List D) (d:D) (x:Value),rows[i]? = some r→r[j]? = some d→xs[i*2+j]? = some x→Rd w (with1 own v) x d)
  (h0:Rd w (with1 own v) c0 d0) (h1:Rd w (with1 own v) c1 d1) (o0:c0.oneCell'=true) (o1:c1.oneCell'=true)
  (hown:w'.ownsRow 0 e 2 v' (rows.length+1) (xs.take (m*2)++[c0,c1]++xs.drop (m*2))) :
  RowsAt w' 0 (with1 own v') e 2 v' (rows.take m++[d0,d1]::rows.drop m):=by
 have hext:Ext (with1 own v) w w':=⟨hb.size,fun b h1 h2=>hb.block b h1 fun h=>h2 (.inr h)⟩
 have ho:∀ b,with1 own v' b→with1 own v b∨w.heap.size≤b:=by
  rintro b (h|h)
  ·
   exact .inl (.inl h)
  ·
   rcases hp b h with h|h
   ·
    exact .inl (.inr h)
   ·
    exact .inr h
 refine⟨xs.take (m*2)++[c0,c1]++xs.drop (m*2),?_,fun x hx=>?_,fun r hr=>?_,fun i j r d x hi hj hx=>?_⟩
 ·
  have:(rows.take m++[d0,d1]::rows.drop m).length=rows.length+1:=by simp;omega
  rw[this];exact hown
 ·
  rcases List.mem_append.1 hx with hx|hx
  ·
   rcases List.mem_append.1 hx with hx|hx
   ·
    exact hone x (List.mem_of_mem_take hx)
   ·
    simp at hx;rcases hx with rfl|rfl
    ·
     exact o0
    ·
     exact o1
  ·
   exact hone x (List.mem_of_mem_drop hx)
 ·
  rcases List.mem_append.1 hr with h|h
  ·
   exact hrl r (List.mem_of_mem_take h)
  ·
   rcases List.mem_cons.1 h with rfl|h
   ·
    rfl
   ·
    exact hrl r (List.mem_of_mem_drop h)
 ·
  refine Rd.step hext ho ?_
  rw[getElem?_ins hm]at hi
  have hj2:j < 2:=by
   have hjl:=(List.getElem?_eq_some_iff.1 hj).1
   split at hi
   ·
    rw[hrl r (List.mem_of_getElem? hi)]at hjl;exact hjl
   ·
    split at hi
    ·
     cases hi;simpa using hjl
    ·
     rw[hrl r (List.mem_of_getElem? hi)]at hjl;exact hjl
  rw[getElem?_ins2 hlen hm i j hj2]at hx
  split at hi
  ·
   next h=>rw[if_pos h]at hx;exact hrd i j r d x hi hj hx
  ·
   next h =>
   rw[if_neg h]at hx
   split at hi
   ·
    next h' =>
    rw[if_pos h']at hx
    cases hi
    match j,hj2,hj,hx with
    |0,_,hj,hx=>simp at hj hx;subst hj;subst hx;exact h0
    |1,_,hj,hx=>simp at hj hx;subst hj;subst hx;exact h1
   ·
    next h'=>rw[if_neg h']at hx;exact hrd (i - 1) j r d x hi hj hx
theorem getElem?_del {α:Type}{l:List α}{m:Nat}(hm:m < l.length) (i:Nat):(l.take m++l.drop (m+1))[i]? = if i < m then l[i]? else l[i+1]? := by
 have hl:(l.take m).length=m:=by simp;omega
 by_cases h1:i < m
 ·
  rw[if_pos h1,List.getElem?_append_left (by omega),List.getElem?_take,if_pos h1]
 ·
  rw[if_neg h1,List.getElem?_append_right (by omega),hl,List.getElem?_drop]
  congr 1;omega
theorem getElem?_del2 {α:Type}{l:List α}{m n:Nat}(hl:l.length=n*2) (hm:m < n) (i j:Nat) (hj:j < 2) :
  (l.take (m*2)++l.drop ((m+1)*2))[i*2+j]? = if i < m then l[i*2+j]? else l[(i+1)*2+j]? := by
 have hm2:m*2≤n*2:=Nat.mul_le_mul_right 2 (by omega)
 have h1:(l.take (m*2)).length=m*2:=by simp;omega
 by_cases hi:i < m
 ·
  have:(i+1)*2≤m*2:=Nat.mul_le_mul_right 2 hi
  rw[if_pos hi,List.getElem?_append_left (by omega),List.getElem?_take,if_pos (by omega)]
 ·
  rw[if_neg hi,List.getElem?_append_right (by omega),h1,List.getElem?_drop]
  congr 1;omega
theorem rows_del {w w':World}{own:Nat→Prop}{v v':Value}{e m:Nat}{rows:List (List D)}{xs:List Value}
  (hm:m < rows.length) (hb:BelowBut v w w') (hp:∀ b,blk v'=some b→blk v=some b∨w.heap.size≤b)
  (hlen:xs.length=rows.length*2) (hone:∀ x∈xs,Value.oneCell' x=true) (hrl:∀ r∈rows,r.length=2)
  (hrd:∀ (i j:Nat) (r:List D) (d:D) (x:Value),rows[i]? = some r→r[j]? = some d→xs[i*2+j]? = some x→Rd w (with1 own v) x d)
  (hown:w'.ownsRow 0 e 2 v' (rows.length - 1) (xs.take (m*2)++xs.drop ((m+1)*2))) :
  RowsAt w' 0 (with1 own v') e 2 v' (rows.take m++rows.drop (m+1)):=by
 have hext:Ext (with1 own v) w w':=⟨hb.size,fun b h1 h2=>hb.block b h1 fun h=>h2 (.inr h)⟩
 have ho:∀ b,with1 own v' b→with1 own v b∨w.heap.size≤b:=by
  rintro b (h|h)
  ·
   exact .inl (.inl h)
  ·
   rcases hp b h with h|h
   ·
    exact .inl (.inr h)
   ·
    exact .inr h
 refine⟨xs.take (m*2)++xs.drop ((m+1)*2),?_,fun x hx=>?_,fun r hr=>?_,fun i j r d x hi hj hx=>?_⟩
 ·
  have:(rows.take m++rows.drop (m+1)).length=rows.length - 1:=by simp;omega
  rw[this];exact hown
 ·
  rcases List.mem_append.1 hx with hx|hx
  ·
   exact hone x (List.mem_of_mem_take hx)
  ·
   exact hone x (List.mem_of_mem_drop hx)
 ·
  rcases List.mem_append.1 hr with h|h
  ·
   exact hrl r (List.mem_of_mem_take h)
  ·
   exact hrl r (List.mem_of_mem_drop h)
 ·
  refine Rd.step hext ho ?_
  rw[getElem?_del hm]at hi
  have hj2:j < 2:=by
   have hjl:=(List.getElem?_eq_some_iff.1 hj).1
   split at hi <;> (rw[hrl r (List.mem_of_getElem? hi)]at hjl;exact hjl)
  rw[getElem?_del2 hlen hm i j hj2]at hx
  split at hi
  ·
   next h=>rw[if_pos h]at hx;exact hrd i j r d x hi hj hx
  ·
   next h=>rw[if_neg h]at hx;exact hrd (i+1) j r d x hi hj hx
theorem rd_pair {w:World}{own:Nat→Prop}{v:Value}{d0 d1:D}(h:Rd w own v (.sl 2 [[d0,d1]])) :
  ∃ ad cp c0 c1,v = .slice (some ad) 1 cp∧¬ own ad.block∧ad.block < w.heap.size∧w.cell? (ad.add 0)=some c0∧w.cell? (ad.add 1)=some c1 ∧
   c0.oneCell'=true∧c1.oneCell'=true∧Rd w own c0 d0∧Rd w own c1 d1:=by
 cases h with
 |sl ad cap k rows f hb hs hcap hk hc h1 hr =>
  exact⟨ad,cap,f 0 0,f 0 1,rfl,hb,hs,by simpa using hc 0 0 _ d0 rfl rfl,by simpa using hc 0 1 _ d1 rfl rfl,h1 0 0 _ d0 rfl rfl,h1 0 1 _ d1 rfl rfl,hr 0 0 _ d0 rfl rfl,hr 0 1 _ d1 rfl rfl⟩
end Go.AX
namespace Go.Proofs.YtfpkamiobdkcpaaDoor
open Go.AX Go.RF Go.RowKit Go.Shelf Go.Lib
set_option maxHeartbeats 4000000 in
set_option maxRecDepth 100000 in
theorem insert_roomP (g n cap i:Nat) (ad:Addr) (cp:Nat) (w:World) (cur:Array Value) (c0 c1:Value) (hg:w.heap[g]? = some (.cells cur 57 (0,0))) (hsz:cur.size=cap*2) (hi:i < n) (hn:n≤268435456) (hc:n+1≤cap) (hcm:cap≤maxLen)
  (had:ad.block≠g) (h0:w.cell? (ad.add 0)=some c0) (h1:w.cell? (ad.add 1)=some c1) (hone:∀ v∈cur.toList.take (n*2),v.oneCell'=true) (hc0:c0.oneCell'=true) (hc1:c1.oneCell'=true) :
  Calls Tryd.prog 29 #[.slice (some ⟨g,0,none⟩) n cap,.int .i64 (i:Int),.slice (some ad) 1 cp] w fun e w' =>
   e = .returned (.slice (some ⟨g,0,none⟩) (n+1) cap)∧∃ m1 cs',w'=(w.drew.setRow g m1).setRow g cs'∧cs'.size=cap*2∧cs'.toList.take ((n+1)*2)=(cur.toList.take (n*2)).take (i*2)++[c0,c1]++(cur.toList.take (n*2)).drop (i*2):=by
 have mixed:=mixed_ok
 have hz1:¬ ((1:Int)=0):=by omega
 have hz2:¬ ((i:Int)=(n:Int)):=by omega
 have hz3:¬ ((cap:Int) < (n:Int)+1):=by omega
 have hb2:¬ (cap=i+1):=by omega
 have hb4:¬ (cap=i):=by omega
 have hin:i≤n:=by omega
 have hw1:IntKind.i64.wrap ((i:Int)+1)=(i:Int)+1:=by rw[IntKind.wrap_i64];omega
 have hb1:(0:Int)≤(i:Int)+1:=by omega
 have htn:((i:Int)+1).toNat=i+1:=by omega
 have hb3:(i:Int)≤(n:Int)+1:=by omega
 have hov:∀ lb cb,(callFunc 46 #[.slice (some ad) 1 cp,.slice (some ⟨g,(i+1)*2,none⟩) lb cb]).run Tryd.prog w = .ok (.value (.bool false)) w:=fun lb cb=>by
  obtain⟨tA,kA,hsa⟩:=shape_of h0
  have hsb:w.shape? g=some (57,(cap*2 - 1)+1):=by
   simp[World.shape?,hg,hsz];omega
  rw[run_callFunc_extern Tryd.func46 (by kernel_rfl) (by kernel_rfl) (by kernel_rfl) (e:=Extern.SlicesOverlaps.overlaps #[22,22] #[4]) (by kernel_rfl),
   run_overlaps_b w 22 4 57 Tryd.underlying22 2 Tryd.sizeOf57 ad ⟨g,(i+1)*2,none⟩ 1 cp lb cb had tA 57 kA (cap*2 - 1) hsa hsb (by simp[World.frozen?,hg]) (by simp[World.frozen?,hg])]
  rfl
 have hin2:(Tryd.prog.info? 57).map (·.size)=some 2:=by kernel_rfl
 have hT:Tryd.prog.underlying 23=some (.slice 57):=Tryd.underlying23
 have hcl:(n+1)*2≤cur.size:=by rw[hsz];exact Nat.mul_le_mul_right 2 hc
 have hgd:w.drew.heap[g]? = some (.cells cur 57 (0,0)):=hg
 have htl:((cur.toList.drop (i*2)).take ((n - i)*2)).length=(n - i)*2:=by simp;omega
 have hcp1:∀ ty dc sc,(Builtin.copy_ #[23,23] ty #[.slice (some ⟨g,(i+1)*2,none⟩) (n - i) dc,.slice (some ⟨g,i*2,none⟩) (n+1 - i) sc]).run Tryd.prog w.drew =
   .ok (goInt (n - i:Nat)) (w.drew.setRow g (cur.toList.take ((i+1)*2)++(cur.toList.drop (i*2)).take ((n - i)*2)++cur.toList.drop ((i+1)*2+(n - i)*2)).toArray):=fun ty dc sc=>by
  have h:=run_copy_k (P:=Tryd.prog) w.drew 23 23 ty 57 2 g ((i+1)*2) (n - i) dc ⟨g,i*2,none⟩ (n+1 - i) sc (n - i) cur 57 ((cur.toList.drop (i*2)).take ((n - i)*2)) hT hin2 hgd
   (Nat.min_eq_right (by omega)) htl (fun j v hj=>by
    rw[List.getElem?_take]at hj
    split at hj
    ·
     rw[List.getElem?_drop]at hj
     rw[Addr.add_lit]
     simp[World.cell?,hgd]
     simpa using hj
    ·
     cases hj) (by rw[htl];omega) (fun v hv=>?_)
  ·
   rw[htl]at h
   exact h
  ·
   obtain⟨j,hj⟩:=List.getElem?_of_mem hv
   rw[List.getElem?_take]at hj
   split at hj
   ·
    rw[List.getElem?_drop]at hj
    refine hone v (List.mem_of_getElem? (i:=i*2+j) ?_)
    rw[List.getElem?_take,if_pos (by omega)];exact hj
   ·
    cases hj
 generalize hmid:cur.toList.take ((i+1)*2)++(cur.toList.drop (i*2)).take ((n - i)*2)++cur.toList.drop ((i+1)*2+(n - i)*2)=mid at hcp1
 have hml:mid.length=cur.size:=by rw[← hmid];simp;omega
 have hg1:(w.drew.setRow g mid.toArray).heap[g]? = some (.cells mid.toArray 57 (0,0)):=setRow_heap _ _ _ _ _ _ hgd
 have hadc:∀ j v,[c0,c1][j]? = some v→(w.drew.setRow g mid.toArray).cell? (ad.add j)=some v:=fun j v hj=>by
  have hk:∀ q,(w.drew.setRow g mid.toArray).cell? (ad.add q)=w.cell? (ad.add q):=fun q=>by
   have hb:(ad.add q).block=ad.block:=add_block ad q
   simp only[World.cell?,hb]
   rw[setRow_other _ _ _ _ had]
   rfl
  match j,hj with
  |0,hj=>simp at hj;subst hj;rw[hk];exact h0
  |1,hj=>simp at hj;subst hj;rw[hk];exact h1
 have hcp2:∀ ty dc,(Builtin.copy_ #[23,22] ty #[.slice (some ⟨g,i*2,none⟩) (n+1 - i) dc,.slice (some ad) 1 cp]).run Tryd.prog (w.drew.setRow g mid.toArray) =
   .ok (goInt (1:Nat)) ((w.drew.setRow g mid.toArray).setRow g (mid.take (i*2)++[c0,c1]++mid.drop (i*2+2)).toArray):=fun ty dc=>by
  have h:=run_copy_k (P:=Tryd.prog) (w.drew.setRow g mid.toArray) 23 22 ty 57 2 g (i*2) (n+1 - i) dc ad 1 cp 1 mid.toArray 57 [c0,c1] hT hin2 hg1
   (Nat.min_eq_left (by omega)) rfl hadc (by simp;omega) (by simp[hc0,hc1])
  simpa using h
 go_enter Tryd.func29,Tryd.ntmps29
 go_wp2_with (simp only[hov])
 go_region_law_o (refine step_copy_runI rfl _ _ 23 23 rfl _ _ (by simp[Act.eval,Act.put]) (by simp[Act.eval,Act.put]) (hcp1 _ _ _) ?_)
 go_wp2_with (at_builtin;refine wpList_copy_runI _ rfl _ _ 23 22 rfl _ _ rfl rfl (hcp2 _ _) ?_)
 go_ret
 refine⟨rfl,_,_,rfl,by simp;omega,?_⟩
 have:=room_cells (cur:=cur.toList) (n:=n) (i:=i) (c0:=c0) (c1:=c1) hi (by simpa using hcl)
 rw[hmid]at this
 simpa using this
set_option maxHeartbeats 4000000 in
set_option maxRecDepth 100000 in
theorem insert_growP (g n cap i:Nat) (ad:Addr) (cp:Nat) (w:World) (cur:Array Value) (c0 c1:Value) (hg:w.heap[g]? = some (.cells cur 57 (0,0))) (hsz:cur.size=cap*2) (hi:i < n) (hn:n≤268435456) (hnc:n≤cap) (hc:cap < n+1) (hcm:cap≤maxLen)
  (hadw:ad.block < w.heap.size) (h0:w.cell? (ad.add 0)=some c0) (h1:w.cell? (ad.add 1)=some c1) (hone:∀ v∈cur.toList.take (n*2),v.oneCell'=true) (hc0:c0.oneCell'=true) (hc1:c1.oneCell'=true) :
  Calls Tryd.prog 29 #[.slice (some ⟨g,0,none⟩) n cap,.int .i64 (i:Int),.slice (some ad) 1 cp] w fun e w' =>
   ∃ G,e = .returned (.slice (some ⟨w.heap.size,0,none⟩) (n+1) G)∧n+1≤G∧G≤maxLen∧Below w.heap.size w w'∧∃ cs',w'.heap[w.heap.size]? = some (.cells cs' 57 (0,0))∧cs'.size=G*2 ∧
    cs'.toList.take ((n+1)*2)=(cur.toList.take (n*2)).take (i*2)++[c0,c1]++(cur.toList.take (n*2)).drop (i*2):=by
 have mixed:=mixed_ok
 have hz1:¬ ((1:Int)=0):=by omega
 have hz2:¬ ((i:Int)=(n:Int)):=by omega
 have hz3:(cap:Int) < (n:Int)+1:=by omega
 have hin:i≤n:=by omega
 have hw1:IntKind.i64.wrap ((i:Int)+1)=(i:Int)+1:=by rw[IntKind.wrap_i64];omega
 have hb1:(0:Int)≤(i:Int)+1:=by omega
 have htn:((i:Int)+1).toNat=i+1:=by omega
 have hb3:(i:Int)≤(n:Int):=by omega
 have hci:¬ (cap=i):=by omega
 have hin2:(Tryd.prog.info? 57).map (·.size)=some 2:=by kernel_rfl
 have hT:Tryd.prog.underlying 23=some (.slice 57):=Tryd.underlying23
 have hcl:n*2≤cur.size:=by rw[hsz];exact Nat.mul_le_mul_right 2 hnc
 have hgw:g < w.heap.size:=by
  rcases Nat.lt_or_ge g w.heap.size with h|h
  ·
   exact h
  ·
   rw[Array.getElem?_eq_none h]at hg;cases hg
 generalize hxs:cur.toList.take (n*2)=xs at hone
 have hxl:xs.length=n*2:=by rw[← hxs];simp;omega
 have hcell:∀ (W:World),W.heap[g]? = w.heap[g]? → ∀ j v,xs[j]? = some v→W.cell? ⟨g,j,none⟩=some v:=fun W hW j v hj=>by
  rw[← hxs,List.getElem?_take]at hj
  split at hj
  ·
   simp[World.cell?,hW,hg]
   simpa using hj
  ·
   cases hj
 have htb:∃ ti,tget tbl 57=some ti∧ti.n=2∧ti.bytes=24∧ti.zero=[.string ⟨#[]⟩,.int .i64 0]:=⟨_,rfl,rfl,rfl,rfl⟩
 obtain⟨ti,ht1,ht2,ht3,ht4⟩:=htb
 obtain⟨i0,hi0,hzs,hzb,z,hz0,hzc⟩:=(tbl_ok _ _ ht1).info
 rw[ht2]at hzs
 rw[ht3]at hzb
 rw[ht4]at hzc
 have hzz:z.cells.size=2:=by rw[← Array.length_toList,hzc];rfl
 have hold:(Builtin.firstCells i0.size i (.slice (some ⟨g,0,none⟩) i cap)).run Tryd.prog w.drew = .ok (xs.take (i*2)).toArray w.drew:=by
  rw[hzs]
  exact run_firstCells_some w.drew 2 i ⟨g,0,none⟩ i cap (xs.take (i*2)) (by rw[List.length_take];omega) (fun j v hj=>by
   rw[Addr.add_lit,Nat.zero_add]
   rw[List.getElem?_take]at hj
   split at hj
   ·
    exact hcell w.drew rfl j v hj
   ·
    cases hj)
 obtain⟨G,hG⟩:∃ G,G=grownCap w (n+1) cap 57:=⟨_,rfl⟩
 have hGn:n+1≤G:=by rw[hG];exact grownCap_ge w _ _ _
 have hGm:G≤maxLen:=by rw[hG];exact grownCap_le_maxLen w (n+1) cap 57 (by unfold maxLen;omega)
 have hG63:G≤9223372036854775807:=by unfold maxLen at hGm;omega
 obtain⟨zs,hzs2⟩:∃ zs:Array Value,zs=Builtin.zeroCells z.cells (n+1 - i)++Builtin.zeroCells z.cells (G - (n+1)):=⟨_,rfl⟩
 have hzl:zs.size=(G - i)*2:=by rw[hzs2];simp[size_zeroCells,hzz];omega
 obtain⟨ROW,hROW⟩:∃ ROW:Array Value,ROW=(xs.take (i*2)).toArray++zs:=⟨_,rfl⟩
 have hRl:ROW.size=G*2:=by rw[hROW];simp[hzl];omega
 have hrz:∀ ty,(Builtin.append_ #[23,3] ty #[.slice (some ⟨g,0,none⟩) i cap,.int .i64 ((n:Int)+1 - (i:Int))]).run Tryd.prog w =
   .ok (.slice (some ⟨w.heap.size,0,none⟩) (n+1) G) (w.drew.alloc (.cells ROW 57)):=fun ty=>by
  have h:=Lib.run_append_grow_zeros (P:=Tryd.prog) w 23 3 ty 57 i0 z .i64 .i64 hT Tryd.underlying3 hi0 hz0 (some ⟨g,0,none⟩) i cap (xs.take (i*2)) hold (n+1 - i) (by omega) (by omega) (by omega) (by omega) (by rw[hzb];omega)
   (by rw[hzb,show i+(n+1 - i)=n+1 by omega];exact growslice_fits hc (by omega))
  rw[show i+(n+1 - i)=n+1 by omega,← hG,Array.append_assoc,← hzs2,← hROW]at h
  rw[show(n:Int)+1 - (i:Int)=((n+1 - i:Nat):Int) by omega]
  exact h
 have hGi:¬ (G=i):=by omega
 have hGim:¬ (G=i+1):=by omega
 have hgs:¬ w.heap.size=g:=by omega
 obtain⟨mid,hmid⟩:∃ mid:List Value,mid=ROW.toList.take (i*2)++[c0,c1]++ROW.toList.drop (i*2+2):=⟨_,rfl⟩
 have hml:mid.length=G*2:=by rw[hmid];simp;omega
 obtain⟨fin,hfin⟩:∃ fin:List Value,fin=mid.take ((i+1)*2)++xs.drop (i*2)++mid.drop ((i+1)*2+(n - i)*2):=⟨_,rfl⟩
 have hfl:fin.length=G*2:=by rw[hfin];simp;omega
 have hN:(w.alloc (.cells ROW 57)).heap[w.heap.size]? = some (.cells ROW 57 (0,0)):=alloc_new_at w _
 have hadc:∀ (W:World),W.heap=(w.alloc (.cells ROW 57)).heap→∀ j v,[c0,c1][j]? = some v→W.cell? (ad.add j)=some v:=fun W hW j v hj=>by
  have hk:∀ q,W.cell? (ad.add q)=w.cell? (ad.add q):=fun q=>by
   have hb:(ad.add q).block=ad.block:=add_block ad q
   simp only[World.cell?,hb,hW]
   rw[Below.heap_alloc w _ _ hadw]
  match j,hj with
  |0,hj=>simp at hj;subst hj;rw[hk];exact h0
  |1,hj=>simp at hj;subst hj;rw[hk];exact h1
 have hcpA:∀ (W:World),W.heap=(w.alloc (.cells ROW 57)).heap→∀ ty dc,(Builtin.copy_ #[23,22] ty #[.slice (some ⟨w.heap.size,i*2,none⟩) (n+1 - i) dc,.slice (some ad) 1 cp]).run Tryd.prog W =
   .ok (goInt (1:Nat)) (W.setRow w.heap.size mid.toArray):=fun W hW ty dc=>by
  have h:=run_copy_k (P:=Tryd.prog) W 23 22 ty 57 2 w.heap.size (i*2) (n+1 - i) dc ad 1 cp 1 ROW 57 [c0,c1] hT hin2 (by rw[hW];exact hN)
   (Nat.min_eq_left (by omega)) rfl (hadc W hW) (by simp;omega) (by simp[hc0,hc1])
  rw[hmid]
  simpa using h
 have hdl:(xs.drop (i*2)).length=(n - i)*2:=by rw[List.length_drop,hxl];omega
 have hcpB:∀ (W:World),W.heap[w.heap.size]? = some (.cells mid.toArray 57 (0,0))→W.heap[g]? = w.heap[g]? → ∀ ty dc sc,(Builtin.copy_ #[23,23] ty #[.slice (some ⟨w.heap.size,(i+1)*2,none⟩) (n - i) dc,.slice (some ⟨g,i*2,none⟩) (n - i) sc]).run Tryd.prog W =
   .ok (goInt (n - i:Nat)) (W.setRow w.heap.size fin.toArray):=fun W hW hWg ty dc sc=>by
  have h:=run_copy_k (P:=Tryd.prog) W 23 23 ty 57 2 w.heap.size ((i+1)*2) (n - i) dc ⟨g,i*2,none⟩ (n - i) sc (n - i) mid.toArray 57 (xs.drop (i*2)) hT hin2 hW
   (Nat.min_self _) hdl (fun j v hj=>by
    rw[Addr.add_lit]
    rw[List.getElem?_drop]at hj
    exact hcell W hWg _ v hj) (by rw[hdl];simp;omega) (fun v hv=>hone v (List.mem_of_mem_drop hv))
  rw[hdl]at h
  rw[hfin]
  simpa using h
 have hE:((w.alloc (.cells ROW 57)).drew).heap=(w.alloc (.cells ROW 57)).heap:=rfl
 have hB1:∀ (W:World),W.heap=(w.alloc (.cells ROW 57)).heap→(W.setRow w.heap.size mid.toArray).drew.heap[w.heap.size]? = some (.cells mid.toArray 57 (0,0)):=fun W hW=>setRow_heap W _ _ _ _ _ (by rw[hW];exact hN)
 have hB2:∀ (W:World),W.heap=(w.alloc (.cells ROW 57)).heap→(W.setRow w.heap.size mid.toArray).drew.heap[g]? = w.heap[g]? := fun W hW=>by
  show(W.setRow w.heap.size mid.toArray).heap[g]? = _
  rw[setRow_other _ _ _ _ (by omega),hW]
  exact Below.heap_alloc w _ _ hgw
 have hlast:fin.take ((n+1)*2)=xs.take (i*2)++[c0,c1]++xs.drop (i*2):=by
  have h:=grow_cells (xs:=xs) (zs:=zs.toList) (n:=n) (i:=i) (c0:=c0) (c1:=c1) hi hxl (by rw[Array.length_toList,hzl];exact Nat.mul_le_mul_right 2 (by omega))
  rw[hfin,hmid,hROW]
  simpa using h
 clear hzs2 hROW hmid hfin hG
 go_enter Tryd.func29,Tryd.ntmps29
 go_wp2_with (first
  |(at_builtin;refine Lib.wpList_append_run _ rfl _ _ _ _ rfl _ _ rfl rfl _ _ (hrz _) ?_)
  |(at_builtin;refine wpList_copy_runI _ rfl _ _ 23 22 rfl _ _ rfl rfl (hcpA _ rfl _ _) ?_))
 go_region_law_o (refine step_copy_runI rfl _ _ 23 23 rfl (.slice (some ⟨w.heap.size,(i+1)*2,none⟩) (n - i) (G - (i+1))) (.slice (some ⟨g,i*2,none⟩) (n - i) (cap - i)) (by simp[Act.eval,Act.put]) (by simp[Act.eval,Act.put]) (hcpB ((w.alloc (.cells ROW 57)).drew.setRow w.heap.size mid.toArray).drew (hB1 _ hE) (hB2 _ hE) _ _ _) ?_)
 go_wp2
 go_ret
 refine⟨G,rfl,hGn,hGm,⟨rfl,rfl,rfl,by simp[setRow_size],fun k hk=>?_⟩,fin.toArray,setRow_heap _ _ _ _ _ _ (hB1 _ hE),by simp[hfl],by simpa using hlast⟩
 rw[setRow_other _ _ _ _ (by omega)]
 show((w.alloc (.cells ROW 57)).drew.setRow w.heap.size mid.toArray).heap[k]? = _
 rw[setRow_other _ _ _ _ (by omega)]
 exact Below.heap_alloc w _ _ hk
set_option maxHeartbeats 4000000 in
set_option maxRecDepth 100000 in
theorem insert_endP (v:Value) (n:Nat) (xs:List Value) (ad:Addr) (cp:Nat) (w:World) (c0 c1:Value) (hown:w.ownsRow 0 57 2 v n xs) (hn:n≤268435456)
  (h0:w.cell? (ad.add 0)=some c0) (h1:w.cell? (ad.add 1)=some c1) (hc0:c0.oneCell'=true) (hc1:c1.oneCell'=true) :
  Calls Tryd.prog 29 #[v,.int .i64 (n:Int),.slice (some ad) 1 cp] w fun e w' =>
   ∃ v',e = .returned v'∧w'.ownsRow 0 57 2 v' (n+1) (xs++[c0,c1])∧w.grownBy w' v.ownBlock∧(v'.ownBlock=v.ownBlock∨v'.ownBlock=some w.heap.size):=by
 have mixed:=mixed_ok
 have hz1:¬ ((1:Int)=0):=by omega
 have hT:Tryd.prog.underlying 23=some (.slice 57):=Tryd.underlying23
 have htb:∃ ti,tget tbl 57=some ti∧ti.n=2∧ti.bytes=24∧ti.zero=[.string ⟨#[]⟩,.int .i64 0]:=⟨_,rfl,rfl,rfl,rfl⟩
 obtain⟨ti,ht1,ht2,ht3,ht4⟩:=htb
 obtain⟨i0,hi0,hzs,hzb,z,hz0,hzc⟩:=(tbl_ok _ _ ht1).info
 rw[ht2]at hzs
 rw[ht3]at hzb
 rw[ht4]at hzc
 have hzz:z.cells.size=2:=by rw[← Array.length_toList,hzc];rfl
 have hnews:∀ j u,[c0,c1][j]? = some u→w.cell? (ad.add j)=some u:=fun j u hj=>by
  match j,hj with
  |0,hj=>simp at hj;subst hj;exact h0
  |1,hj=>simp at hj;subst hj;exact h1
 have hone:∀ u∈[c0,c1],u.oneCell'=true:=by simp[hc0,hc1]
 obtain⟨R,hR⟩:∃ R:Value→World→Prop,R=fun v' w'=>w'.ownsRow 0 57 2 v' (n+1) (xs++[c0,c1])∧w.grownBy w' v.ownBlock∧(v'.ownBlock=v.ownBlock∨v'.ownBlock=some w.heap.size):=⟨_,rfl⟩
 have hmk:∀ v' w',w'.ownsRow 0 57 2 v' (n+1) (xs++[c0,c1])→w.grownBy w' v.ownBlock→(v'.ownBlock=v.ownBlock∨v'.ownBlock=some w.heap.size)→R v' w':=fun v' w' a b c=>by rw[hR];exact⟨a,b,c⟩
 suffices h:Calls Tryd.prog 29 #[v,.int .i64 (n:Int),.slice (some ad) 1 cp] w fun e w'=>∃ v',e = .returned v'∧R v' w' by
  refine h.mono fun e w'=>?_
  rintro ⟨v',a,b⟩
  rw[hR]at b
  exact⟨v',a,b⟩
 clear hR
 have hb:n+1≤maxLen:=by unfold maxLen;omega
 have hv:(v = .slice none 0 0∧n=0)∨∃ g cap,v = .slice (some ⟨g,0,none⟩) n cap∧n≤cap:=by
  rcases hown.2 with h|⟨g,cap,cur,e,_,_,h,_⟩
  ·
   exact .inl h
  ·
   exact .inr ⟨g,cap,e,h⟩
 obtain⟨v',w',hr,q1,q2,_,q4⟩:=run_append_own_at (P:=Tryd.prog) w 0 23 0 57 i0 z 2 24 hT hi0 hz0 hzs hzb hzz (by decide) v n xs hown ad 1 cp [c0,c1] rfl hnews hone hb (by omega) (Nat.zero_le _)
 have hR:=hmk v' w' q1 q2 q4
 have hap:∀ ty,(Builtin.append_ #[23,22] ty #[v,.slice (some ad) 1 cp]).run Tryd.prog w = .ok v' w':=fun ty=>(append_types hT Tryd.underlying22 ty _ w).trans ((append_ty _ _ _ w).trans hr)
 clear hmk q1 q2 q4 hr hown hnews
 rcases hv with ⟨rfl,rfl⟩|⟨g,cap,rfl,hnc⟩
 ·
  go_enter Tryd.func29,Tryd.ntmps29
  go_wp2_with (at_builtin;refine Lib.wpList_append_run _ rfl _ _ 23 22 rfl _ _ rfl rfl _ _ (hap _) ?_)
  go_ret
  exact⟨_,rfl,hR⟩
 ·
  go_enter Tryd.func29,Tryd.ntmps29
  go_wp2_with (at_builtin;refine Lib.wpList_append_run _ rfl _ _ 23 22 rfl _ _ rfl rfl _ _ (hap _) ?_)
  all_goals
   go_ret
   exact⟨_,rfl,hR⟩
theorem upd_insertP (rows:List (List D)) (m:Nat) (d0 d1:D) (hm:m≤rows.length) (hl:rows.length≤268435456) :
  FnUpd Tryd.prog 29 57 2 rows [.d (dint m),.d (.sl 2 [[d0,d1]])] (rows.take m++[d0,d1]::rows.drop m):=by
 refine⟨⟨_,Tryd.func29,by kernel_rfl,by kernel_rfl⟩,fun w own v vs hown hR hsep ha=>?_⟩
 match vs,ha with
 | [v1,v2],⟨h1,h2,_⟩ =>
  have e1:=rd_v h1
  subst e1
  obtain⟨ad,cp,c0,c1,rfl,hnb,hadw,hc0,hc1,o0,o1,r0,r1⟩:=rd_pair h2
  obtain⟨xs,hrow,hone,hrl,hrd⟩:=hR
  have hbv:blk v=v.ownBlock:=blk_own hrow
  have hxl:=hrow.1
  by_cases hmn:m=rows.length
  ·
   subst hmn
   refine(insert_endP v rows.length xs ad cp w c0 c1 hrow hl hc0 hc1 o0 o1).mono fun e w'=>?_
   rintro ⟨v',rfl,q1,q2,q3⟩
   have hp:∀ b,blk v'=some b→blk v=some b∨w.heap.size≤b:=fun b hb=>by
    rw[blk_own q1]at hb
    rw[hbv]
    rcases q3 with h|h
    ·
     rw[h]at hb;exact .inl hb
    ·
     rw[h]at hb;cases hb;exact .inr (Nat.le_refl _)
   have hbb:BelowBut v w w':=⟨q2.os,q2.tape,q2.output,q2.size,fun b hb hn=>q2.block b hb fun h=>hn (by rw[hbv,h])⟩
   refine⟨v',rfl,hbb,hp,rows_ins (Nat.le_refl _) hbb hp hxl hone hrl hrd r0 r1 o0 o1 ?_⟩
   rw[List.take_of_length_le (by omega),List.drop_eq_nil_of_le (by omega),List.append_nil]
   exact q1
  ·
   rcases hrow.2 with ⟨_,h0⟩|⟨g,cap,cur,rfl,_,hg,hnc,hcm,hsz,htk⟩
   ·
    omega
   ·
    have hadg:ad.block≠g:=fun h=>hnb (.inr (by rw[h];rfl))
    by_cases hroom:rows.length+1≤cap
    ·
     refine(insert_roomP g rows.length cap m ad cp w cur c0 c1 hg hsz (by omega) hl hroom hcm hadg hc0 hc1 (by rw[htk];exact hone) o0 o1).mono fun e w'=>?_
     rintro ⟨rfl,m1,cs',rfl,q1,q2⟩
     have hp:∀ b,blk (.slice (some ⟨g,0,none⟩) (rows.length+1) cap)=some b→blk (.slice (some ⟨g,0,none⟩) rows.length cap)=some b∨w.heap.size≤b:=fun b hb => .inl hb
     have hbb:BelowBut (.slice (some ⟨g,0,none⟩) rows.length cap) w ((w.drew.setRow g m1).setRow g cs'):=⟨rfl,rfl,rfl,by simp[setRow_size],fun b hb hn=>by
      have hbg:b≠g:=fun h=>hn (by rw[h];rfl)
      rw[setRow_other _ _ _ _ hbg,setRow_other _ _ _ _ hbg];rfl⟩
     refine⟨_,rfl,hbb,hp,rows_ins hm hbb hp hxl hone hrl hrd r0 r1 o0 o1 ⟨by simp;omega,.inr ⟨g,cap,cs',rfl,Nat.zero_le _,setRow_heap _ _ _ _ _ _ (setRow_heap _ _ _ _ _ _ hg),hroom,hcm,q1,?_⟩⟩⟩
     rw[q2,htk]
    ·
     refine(insert_growP g rows.length cap m ad cp w cur c0 c1 hg hsz (by omega) hl hnc (by omega) hcm hadw hc0 hc1 (by rw[htk];exact hone) o0 o1).mono fun e w'=>?_
     rintro ⟨G,rfl,q1,q2,hB,cs',q3,q4,q5⟩
     have hp:∀ b,blk (.slice (some ⟨w.heap.size,0,none⟩) (rows.length+1) G)=some b→blk (.slice (some ⟨g,0,none⟩) rows.length cap)=some b∨w.heap.size≤b:=fun b hb => .inr (by cases hb;exact Nat.le_refl _)
     have hbb:BelowBut (.slice (some ⟨g,0,none⟩) rows.length cap) w w':=⟨hB.os,hB.tape,hB.output,hB.size,fun b hb _=>hB.block b hb⟩
     refine⟨_,rfl,hbb,hp,rows_ins hm hbb hp hxl hone hrl hrd r0 r1 o0 o1 ⟨by simp;omega,.inr ⟨_,G,cs',rfl,Nat.zero_le _,q3,q1,q2,q4,?_⟩⟩⟩
     rw[q5,htk]
theorem step_append_runI {P:Program}{ops:Array Oper}{o:Oper}{a:Act}{w:World}{K:Act→World→Prop}{Q:Exit→Act→World→Prop}{E:Prop}
  (hg:o.guard=none) (d x:Operand) (dT sT:TypeId) (hop:o.op=Op.call { callee:=Callee.builtin Builtin.append,args := #[d,x],argTypes := #[dT,sT] })
  (v u:Value) (hd:a.eval d=v) (hx:a.eval x=u) {v':Value} {w':World} (hr:(Builtin.append_ #[dT,sT] o.type #[v,u]).run P w = .ok v' w') (hK:K (a.put o.dst v') w') :
  if Region.wanted o (yielded ops a.tmps)=true then Oper.wp P o a w K Q else E:=by
 have hw:Region.wanted o (yielded ops a.tmps)=true:=by simp[Region.wanted,hg]
 rw[if_pos hw]
 unfold Oper.wp
 simp[execOp,hop,resolve,invoke,builtin,hd,hx,hr,Result.andThen]
 exact hK
theorem wpList_clear_runI {P:Program}{ops:Array Oper}{rest:List Oper}{o:Oper}{a:Act}{w:World}{Q:Exit→Act→World→Prop}(hgd:o.guard=none) (x:Operand) (t:TypeId)
  (ho:o.op = .call { callee := .builtin .clear,args := #[x],argTypes := #[t] }) (u:Value) (hx:a.eval x=u) {v':Value} {w':World}
  (hr:(Builtin.clear_ #[t] o.type #[u]).run P w = .ok v' w') (h:wpList P ops Q rest (a.put o.dst v') w'):wpList P ops Q (o::rest) a w:=by
 refine wpList_plain hgd fun K hK=>?_
 unfold Oper.wp
 simp[execOp,ho,resolve,invoke,builtin,hx,hr,Result.andThen]
 exact hK _ _ h
theorem del_cells {cur zs:List Value}{n m:Nat}(hm:m < n) (hl:n*2≤cur.length) :
  let news:=(cur.drop ((m+1)*2)).take ((n - (m+1))*2)
  let m1:=cur.take (m*2)++news++cur.drop (m*2+news.length)
  (m1.take ((m+(n - (m+1)))*2)++zs++m1.drop ((m+(n - (m+1)))*2+zs.length)).take ((n - 1)*2)=(cur.take (n*2)).take (m*2)++(cur.take (n*2)).drop ((m+1)*2):=by
 intro news m1
 have h1:(cur.take (m*2)).length=m*2:=by simp;omega
 have h2:news.length=(n - (m+1))*2:=by simp[news];omega
 have hk:(m+(n - (m+1)))*2=(n - 1)*2:=by congr 1;omega
 have h3:m1.take ((n - 1)*2)=cur.take (m*2)++news:=by
  show(cur.take (m*2)++news++cur.drop (m*2+news.length)).take ((n - 1)*2)=_
  rw[List.take_append_of_le_length (by rw[List.length_append,h1,h2];omega),List.take_of_length_le (by rw[List.length_append,h1,h2];omega)]
 rw[hk,h3,List.append_assoc,List.take_append_of_le_length (by rw[List.length_append,h1,h2];omega),List.take_of_length_le (by rw[List.length_append,h1,h2];omega)]
 rw[List.take_take,Nat.min_eq_left (by omega),List.drop_take,show n*2 - (m+1)*2=(n - (m+1))*2 by omega]
set_option maxHeartbeats 4000000 in
set_option maxRecDepth 100000 in
theorem delete_walk (g n cap m:Nat) (w:World) (cur:Array Value) (hg:w.heap[g]? = some (.cells cur 57 (0,0))) (hsz:cur.size=cap*2) (hm:m < n) (hn:n≤268435456) (hnc:n≤cap) (hcm:cap≤maxLen) (hone:∀ v∈cur.toList.take (n*2),v.oneCell'=true) :
  Calls Tryd.prog 30 #[.slice (some ⟨g,0,none⟩) n cap,.int .i64 (m:Int),.int .i64 ((m:Int)+1)] w fun e w' =>
   e = .returned (.slice (some ⟨g,0,none⟩) (n - 1) cap)∧∃ m1 cs',w'=(w.drew.setRow g m1).setRow g cs'∧cs'.size=cap*2∧cs'.toList.take ((n - 1)*2)=(cur.toList.take (n*2)).take (m*2)++(cur.toList.take (n*2)).drop ((m+1)*2):=by
 have mixed:=mixed_ok
 have hnm:¬ ((m:Int)=(m:Int)+1):=by omega
 have hT:Tryd.prog.underlying 23=some (.slice 57):=Tryd.underlying23
 have htb:∃ ti,tget tbl 57=some ti∧ti.n=2∧ti.zero=[.string ⟨#[]⟩,.int .i64 0]:=⟨_,rfl,rfl,rfl⟩
 obtain⟨ti,ht1,ht2,ht4⟩:=htb
 obtain⟨i0,hi0,hzs,_,z,hz0,hzc⟩:=(tbl_ok _ _ ht1).info
 rw[ht2]at hzs
 rw[ht4]at hzc
 have hcl:n*2≤cur.size:=by rw[hsz];exact Nat.mul_le_mul_right 2 hnc
 obtain⟨news,hnews⟩:∃ news,news=(cur.toList.drop ((m+1)*2)).take ((n - (m+1))*2):=⟨_,rfl⟩
 have hnl:news.length=(n - (m+1))*2:=by rw[hnews];simp;omega
 obtain⟨m1,hm1⟩:∃ m1:List Value,m1=cur.toList.take (m*2)++news++cur.toList.drop (m*2+news.length):=⟨_,rfl⟩
 have hm1l:m1.length=cur.size:=by rw[hm1];simp;omega
 obtain⟨zs,hzs2⟩:∃ zs:List Value,zs=[.string ⟨#[]⟩,.int .i64 0]:=⟨_,rfl⟩
 obtain⟨m2,hm2⟩:∃ m2:List Value,m2=m1.take ((m+(n - (m+1)))*2)++zs++m1.drop ((m+(n - (m+1)))*2+zs.length):=⟨_,rfl⟩
 have hm2l:m2.length=cur.size:=by rw[hm2,hzs2];simp;omega
 have hlast:m2.take ((n - 1)*2)=(cur.toList.take (n*2)).take (m*2)++(cur.toList.take (n*2)).drop ((m+1)*2):=by
  have h:=del_cells (cur:=cur.toList) (zs:=zs) hm (by simpa using hcl)
  rw[hm2,hm1,hnews]
  exact h
 have hap:∀ (A:Addr),(cap=m+1∨A=⟨g,(m+1)*2,none⟩)→∀ ty,(Builtin.append_ #[23,23] ty #[.slice (some ⟨g,0,none⟩) m cap,.slice (some A) (n - (m+1)) (cap - (m+1))]).run Tryd.prog w.drew =
   .ok (.slice (some ⟨g,0,none⟩) (m+(n - (m+1))) cap) (w.drew.setRow g m1.toArray):=fun A hA ty=>by
  have hnw:∀ j u,news[j]? = some u→w.drew.cell? (A.add j)=some u:=fun j u hj=>by
   rcases hA with hA|rfl
   ·
    have:news=[]:=List.eq_nil_of_length_eq_zero (by rw[hnl];omega)
    rw[this]at hj;simp at hj
   ·
    rw[hnews,List.getElem?_take]at hj
    split at hj
    ·
     rw[List.getElem?_drop]at hj
     rw[Addr.add_lit]
     have hgd:w.drew.heap[g]? = some (.cells cur 57 (0,0)):=hg
     simp[World.cell?,hgd]
     simpa using hj
    ·
     cases hj
  have ho1:∀ u∈news,u.oneCell'=true:=fun u hu=>by
   obtain⟨j,hj⟩:=List.getElem?_of_mem hu
   rw[hnews,List.getElem?_take]at hj
   split at hj
   ·
    rw[List.getElem?_drop]at hj
    refine hone u (List.mem_of_getElem? (i:=(m+1)*2+j) ?_)
    rw[List.getElem?_take,if_pos (by omega)];exact hj
   ·
    cases hj
  have h:=run_append_room (P:=Tryd.prog) (w:=w.drew) (ty:=ty) 23 57 i0 hT hi0 g m cap cur hg A (n - (m+1)) (cap - (m+1)) news (by rw[hzs];exact hnl) hnw ho1 (by omega) (by rw[hzs,hnl];omega)
  rw[hzs]at h
  rw[hm1]
  exact h
 have hg1:(w.drew.setRow g m1.toArray).heap[g]? = some (.cells m1.toArray 57 (0,0)):=setRow_heap _ _ _ _ _ _ hg
 have hclr:∀ ty,(Builtin.clear_ #[23] ty #[.slice (some ⟨g,(m+(n - (m+1)))*2,none⟩) (n - (m+(n - (m+1)))) (cap - (m+(n - (m+1))))]).run Tryd.prog (w.drew.setRow g m1.toArray) =
   .ok (.tuple #[]) ((w.drew.setRow g m1.toArray).setRow g m2.toArray):=fun ty=>by
  have e1:n - (m+(n - (m+1)))=1:=by omega
  have hst:=run_storeCells_at Tryd.prog g ((m+(n - (m+1)))*2) 57 zs 0 m1.toArray (w.drew.setRow g m1.toArray) hg1 (by rw[hzs2];simp;omega) (by rw[hzs2];simp[Value.oneCell'])
  have hzz:(Builtin.zeroCells z.cells 1).toList=zs:=by
   rw[hzs2,← hzc]
   have h2:z.cells.size=2:=by rw[← Array.length_toList,hzc];rfl
   apply List.ext_getElem
   ·
    simp[Builtin.zeroCells,h2]
   ·
    intro i h3 h4
    have h5:i < 2:=by simpa[h2] using h4
    simp[Builtin.zeroCells,Nat.mod_eq_of_lt h5,h2]
    exact getElem!_pos z.cells i (by omega)
  have hzv:(zeroValue 57).run Tryd.prog (w.drew.setRow g m1.toArray) = .ok z (w.drew.setRow g m1.toArray):=by simp[zeroValue,typeInfo,hi0,hz0]
  rw[e1]
  simp only[Nat.add_zero]at hst
  simp[Builtin.clear_,run_underlying hT,hzv,hzz,hst,hm2]
 have hi1:m≤cap:=by omega
 have hi2:m+1≤cap:=by omega
 have hi3:m+1≤n:=by omega
 clear hm1 hm2 hnews hzs2
 have hj1:(0:Int)≤(m:Int)+1:=by omega
 have hj2:(m:Int)+1≤(n:Int):=by omega
 have hj3:(m:Int)≤(m:Int)+1:=by omega
 have htn:((m:Int)+1).toNat=m+1:=by omega
 by_cases hcj:cap=m+1
 ·
  have hap1:=hap ⟨g,0,none⟩ (.inl hcj)
  obtain rfl:n=m+1:=by omega
  subst hcj
  have hap2:∀ ty,(Builtin.append_ #[23,23] ty #[.slice (some ⟨g,0,none⟩) m (m+1),.slice (some ⟨g,0,none⟩) 0 0]).run Tryd.prog w.drew = .ok (.slice (some ⟨g,0,none⟩) m (m+1)) (w.drew.setRow g m1.toArray):=fun ty=>by simpa using hap1 ty
  have hclr2:∀ ty,(Builtin.clear_ #[23] ty #[.slice (some ⟨g,m*2,none⟩) 1 1]).run Tryd.prog (w.drew.setRow g m1.toArray) = .ok (.tuple #[]) ((w.drew.setRow g m1.toArray).setRow g m2.toArray):=fun ty=>by
   have h:=hclr ty
   rw[show m+1 - (m+1)=0 by omega,show m+0=m by omega,show m+1 - m=1 by omega]at h
   exact h
  clear hap hap1 hclr
  go_enter Tryd.func30,Tryd.ntmps30
  go_wp2_with fail
  go_region_law_o (refine step_append_runI rfl _ _ 23 23 rfl (.slice (some ⟨g,0,none⟩) m (m+1)) (.slice (some ⟨g,0,none⟩) 0 0) (by simp[Act.eval,Act.put]) (by simp[Act.eval,Act.put]) (hap2 _) ?_)
  go_wp2_with (at_builtin;refine wpList_clear_runI rfl _ 23 rfl _ rfl (hclr2 _) ?_)
  go_ret
  exact⟨by rw[show m+1 - 1=m by omega];rfl,_,_,rfl,by simp[hm2l,hsz],by simpa using hlast⟩
 ·
  have hap1:=hap ⟨g,(m+1)*2,none⟩ (.inr rfl)
  clear hap
  go_enter Tryd.func30,Tryd.ntmps30
  go_wp2_with fail
  go_region_law_o (refine step_append_runI rfl _ _ 23 23 rfl (.slice (some ⟨g,0,none⟩) m cap) (.slice (some ⟨g,(m+1)*2,none⟩) (n - (m+1)) (cap - (m+1))) (by simp[Act.eval,Act.put]) (by simp[Act.eval,Act.put]) (hap1 _) ?_)
  go_wp2_with (at_builtin;refine wpList_clear_runI rfl _ 23 rfl _ rfl (hclr _) ?_)
  go_ret
  exact⟨by rw[show n - 1=m+(n - (m+1)) by omega];rfl,_,_,rfl,by simp[hm2l,hsz],by simpa using hlast⟩
theorem upd_delete (rows:List (List D)) (m:Nat) (hm:m < rows.length) (hl:rows.length≤268435456) :
  FnUpd Tryd.prog 30 57 2 rows [.d (dint m),.d (dint ((m:Int)+1))] (rows.take m++rows.drop (m+1)):=by
 refine⟨⟨_,Tryd.func30,by kernel_rfl,by kernel_rfl⟩,fun w own v vs hown hR hsep ha=>?_⟩
 match vs,ha with
 | [v1,v2],⟨h1,h2,_⟩ =>
  have e1:=rd_v h1
  have e2:=rd_v h2
  subst e1 e2
  obtain⟨xs,hrow,hone,hrl,hrd⟩:=hR
  have hxl:=hrow.1
  rcases hrow.2 with ⟨_,h0⟩|⟨g,cap,cur,rfl,_,hg,hnc,hcm,hsz,htk⟩
  ·
   omega
  ·
   refine(delete_walk g rows.length cap m w cur hg hsz hm hl hnc hcm (by rw[htk];exact hone)).mono fun e w'=>?_
   rintro ⟨rfl,m1,cs',rfl,q1,q2⟩
   have hp:∀ b,blk (.slice (some ⟨g,0,none⟩) (rows.length - 1) cap)=some b→blk (.slice (some ⟨g,0,none⟩) rows.length cap)=some b∨w.heap.size≤b:=fun b hb => .inl hb
   have hbb:BelowBut (.slice (some ⟨g,0,none⟩) rows.length cap) w ((w.drew.setRow g m1).setRow g cs'):=⟨rfl,rfl,rfl,by simp[setRow_size],fun b hb hn=>by
    have hbg:b≠g:=fun h=>hn (by rw[h];rfl)
    rw[setRow_other _ _ _ _ hbg,setRow_other _ _ _ _ hbg];rfl⟩
   refine⟨_,rfl,hbb,hp,rows_del hm hbb hp hxl hone hrl hrd ⟨by simp;omega,.inr ⟨g,cap,cs',rfl,Nat.zero_le _,setRow_heap _ _ _ _ _ _ (setRow_heap _ _ _ _ _ _ hg),by omega,hcm,q1,?_⟩⟩⟩
   rw[q2,htk]
end Go.Proofs.YtfpkamiobdkcpaaDoor
namespace Go.Proofs.YtfpkamiobdkcpaaDoor
open Go.AX Go.RF Go.RowKit
set_option maxRecDepth 100000
set_option maxHeartbeats 8000000
def putS (k:Str) (n:Int):List Pair→List Pair
 | []=>[⟨k,n⟩]
 |p::r=>if p.key=k then ⟨k,n⟩::r else if slt p.key k=true then p::putS k n r else ⟨k,n⟩::p::r
def dropS (k:Str):List Pair→List Pair
 | []=>[]
 |p::r=>if p.key=k then r else p::dropS k r
theorem atr_some {l:List Pair}{k:Str}{m:Nat}(h:isAtR l k m=true):∃ c,l[m]? = some c∧c.key=k:=by
 unfold isAtR isAtK at h
 split at h
 ·
  next c hc=>exact⟨c,hc,by simpa using h⟩
 ·
  cases h
theorem atk_tail {d:Pair}{l:List Pair}{k:Str}{m:Nat}(hm:AtK Pair.key (d::l) k (m+1)):AtK Pair.key l k m :=
 ⟨by have:=hm.le;simpa using this,fun x c hx hlt=>hm.lt (x+1) c (by simpa using hx) (by omega),fun x c hx hge=>hm.ge (x+1) c (by simpa using hx) (by omega)⟩
theorem get_some {k:Str}:∀ {l:List Pair}{m:Nat}{c:Pair},AtK Pair.key l k m→l[m]? = some c→c.key=k→RF.get l k=(c.n,true)
 | [],m,c,_,h,_=>by simp at h
 |d::l,0,c,_,h,hk=>by simp at h;subst h;simp[RF.get,hk]
 |d::l,m+1,c,hm,h,hk=>by
  have h1:=hm.lt 0 d rfl (by omega)
  simp only[RF.get]
  rw[if_neg (slt_ne h1),get_some (atk_tail hm) (by simpa using h) hk]
theorem get_none {k:Str}:∀ {l:List Pair}{m:Nat},AtK Pair.key l k m→isAtR l k m=false→Srt Pair.key l→RF.get l k=(0,false)
 | [],m,_,_,_=>rfl
 |d::l,0,hm,hn,hs=>by
  have h1:d.key≠k:=by simpa[isAtR,isAtK] using hn
  have h2:=hm.ge 0 d rfl (Nat.le_refl _)
  have h0:∀ p∈l,p.key≠k:=fun p hp e=>by
   have h3:=(List.pairwise_cons.1 hs).1 p hp
   rw[e]at h3
   rw[h3]at h2;cases h2
  simp only[RF.get]
  rw[if_neg h1]
  clear hm hn hs h1 h2
  induction l with
  |nil=>rfl
  |cons p l ih =>
   simp only[RF.get]
   rw[if_neg (h0 p (List.mem_cons_self ..))]
   exact ih fun q hq=>h0 q (List.mem_cons_of_mem _ hq)
 |d::l,m+1,hm,hn,hs=>by
  have h1:=hm.lt 0 d rfl (by omega)
  simp only[RF.get]
  rw[if_neg (slt_ne h1)]
  exact get_none (atk_tail hm) (by simpa[isAtR,isAtK] using hn) (List.pairwise_cons.1 hs).2
theorem putS_found {k:Str}{n:Int}:∀ {l:List Pair}{m:Nat}{c:Pair},AtK Pair.key l k m→l[m]? = some c→c.key=k→putS k n l=l.set m ⟨c.key,n⟩
 | [],m,c,_,h,_=>by simp at h
 |d::l,0,c,_,h,hk=>by
  simp at h;subst h
  simp only[putS]
  rw[if_pos hk,List.set_cons_zero,hk]
 |d::l,m+1,c,hm,h,hk=>by
  have h1:=hm.lt 0 d rfl (by omega)
  simp only[putS]
  rw[if_neg (slt_ne h1),if_pos h1,putS_found (atk_tail hm) (by simpa using h) hk,List.set_cons_succ]
theorem putS_new {k:Str}{n:Int}:∀ {l:List Pair}{m:Nat},AtK Pair.key l k m→isAtR l k m=false→putS k n l=l.take m++⟨k,n⟩::l.drop m
 | [],m,hm,_=>by
  obtain rfl:m=0:=by simpa using hm.le
  rfl
 |d::l,0,hm,hn=>by
  have h1:d.key≠k:=by simpa[isAtR,isAtK] using hn
  have h2:=hm.ge 0 d rfl (Nat.le_refl _)
  simp only[putS]
  rw[if_neg h1,if_neg (by rw[h2];simp)]
  rfl
 |d::l,m+1,hm,hn=>by
  have h1:=hm.lt 0 d rfl (by omega)
  simp only[putS]
  rw[if_neg (slt_ne h1),if_pos h1,putS_new (atk_tail hm) (by simpa[isAtR,isAtK] using hn)]
  rfl
theorem dropS_found {k:Str}:∀ {l:List Pair}{m:Nat}{c:Pair},AtK Pair.key l k m→l[m]? = some c→c.key=k→dropS k l=l.take m++l.drop (m+1)
 | [],m,c,_,h,_=>by simp at h
 |d::l,0,c,_,h,hk=>by
  simp at h;subst h
  simp[dropS,hk]
 |d::l,m+1,c,hm,h,hk=>by
  have h1:=hm.lt 0 d rfl (by omega)
  simp only[dropS]
  rw[if_neg (slt_ne h1),dropS_found (atk_tail hm) (by simpa using h) hk]
  rfl
theorem dropS_none {k:Str}:∀ {l:List Pair},(∀ p∈l,p.key≠k)→dropS k l=l
 | [],_=>rfl
 |d::l,h=>by
  simp only[dropS]
  rw[if_neg (h d (List.mem_cons_self ..)),dropS_none fun p hp=>h p (List.mem_cons_of_mem _ hp)]
theorem not_at {l:List Pair}{k:Str}{m:Nat}(hm:AtK Pair.key l k m) (hn:isAtR l k m=false) (hs:Srt Pair.key l):∀ p∈l,p.key≠k:=by
 intro p hp e
 obtain⟨i,hi⟩:=List.getElem?_of_mem hp
 rcases Nat.lt_trichotomy i m with h|h|h
 ·
  have:=hm.lt i p hi h;rw[e,slt_irrefl]at this;cases this
 ·
  subst h
  unfold isAtR isAtK at hn
  rw[hi]at hn
  simp[e]at hn
 ·
  have hil:=(List.getElem?_eq_some_iff.1 hi).1
  have h1:=hm.ge m (l[m]'(by omega)) (List.getElem?_eq_getElem (by omega)) (Nat.le_refl _)
  have h2:=hs.lt (List.getElem?_eq_getElem (show m < l.length by omega)) hi h
  rw[e]at h2
  rw[h2]at h1;cases h1
theorem dropS_at {l:List Pair}{k:Str}{m:Nat}(hm:AtK Pair.key l k m) (hn:isAtR l k m=false) (hs:Srt Pair.key l):dropS k l=l:=dropS_none (not_at hm hn hs)
theorem putGo_done {k:Str}{n:Int}{h:Bool}:∀ {l out:List Pair},(∀ p∈l,p.key≠k)→putGo k n h true out l=out++l
 | [],out,_=>by simp[putGo]
 |p::l,out,hl=>by
  simp only[putGo]
  rw[if_neg (hl p (List.mem_cons_self ..))]
  simp only[Bool.true_or,Bool.not_true,Bool.false_and,Bool.false_eq_true,if_false]
  rw[putGo_done fun q hq=>hl q (List.mem_cons_of_mem _ hq)]
  simp
theorem putGo_srt {k:Str}{n:Int}{h:Bool}:∀ {l out:List Pair},Srt Pair.key l→putGo k n h false out l=out++(if h=true then putS k n l else dropS k l)
 | [],out,_=>by cases h <;> simp[putGo,putS,dropS]
 |p::l,out,hs=>by
  obtain⟨h1,h2⟩:=List.pairwise_cons.1 hs
  cases hl:slt p.key k with
  |true =>
   have hk:p.key≠k:=slt_ne hl
   simp only[putGo,hl]
   rw[if_neg hk]
   simp only[Bool.not_true,Bool.or_false,Bool.not_false,Bool.and_false,Bool.false_and,Bool.false_eq_true,if_false]
   rw[putGo_srt h2]
   cases h <;> simp[putS,dropS,hk,hl]
  |false =>
   have hne:∀ q∈l,q.key≠k:=fun q hq e=>by
    have h3:=h1 q hq
    rw[e]at h3
    rw[h3]at hl;cases hl
   simp only[putGo,hl]
   simp only[Bool.not_false,Bool.or_true,Bool.true_and,Bool.and_true]
   rw[putGo_done hne]
   by_cases hk:p.key=k
   ·
    cases h <;> simp[putS,dropS,hk]
   ·
    cases h <;> simp[putS,dropS,hk,hl,dropS_none hne]
theorem put_true {l:List Pair}(hs:Srt Pair.key l) (k:Str) (n:Int):put l k n true=putS k n l:=by
 unfold put;rw[putGo_srt hs];rfl
theorem put_false {l:List Pair}(hs:Srt Pair.key l) (k:Str) (n:Int):put l k n false=dropS k l:=by
 unfold put;rw[putGo_srt hs];rfl
theorem putS_mem {k:Str}{n:Int}:∀ {l:List Pair}{p:Pair},p∈putS k n l→p∈l∨p=⟨k,n⟩
 | [],p,h=>by simp[putS]at h;exact .inr h
 |q::l,p,h=>by
  simp only[putS]at h
  split at h
  ·
   rcases List.mem_cons.1 h with h|h
   ·
    exact .inr h
   ·
    exact .inl (List.mem_cons_of_mem _ h)
  ·
   split at h
   ·
    rcases List.mem_cons.1 h with h|h
    ·
     exact .inl (h▸List.mem_cons_self ..)
    ·
     rcases putS_mem h with h|h
     ·
      exact .inl (List.mem_cons_of_mem _ h)
     ·
      exact .inr h
   ·
    rcases List.mem_cons.1 h with h|h
    ·
     exact .inr h
    ·
     exact .inl h
theorem dropS_sub {k:Str}:∀ l:List Pair,(dropS k l).Sublist l
 | []=>List.Sublist.slnil
 |p::l=>by
  simp only[dropS]
  split
  ·
   exact List.sublist_cons_self ..
  ·
   exact(dropS_sub l).cons_cons _
theorem putS_srt {k:Str}{n:Int}:∀ {l:List Pair},Srt Pair.key l→Srt Pair.key (putS k n l)
 | [],_=>List.pairwise_singleton ..
 |c::l,hs=>by
  obtain⟨h1,h2⟩:=List.pairwise_cons.1 hs
  simp only[putS]
  by_cases hk:c.key=k
  ·
   rw[if_pos hk]
   exact List.pairwise_cons.2 ⟨fun d hd=>by show slt k d.key=true;rw[← hk];exact h1 d hd,h2⟩
  ·
   rw[if_neg hk]
   split
   ·
    next h3 =>
    refine List.pairwise_cons.2 ⟨fun d hd=>?_,putS_srt h2⟩
    rcases putS_mem hd with h|rfl
    ·
     exact h1 d h
    ·
     exact h3
   ·
    next h3 =>
    have h4:slt k c.key=true:=by
     rcases slt_tri c.key k with h|h|h
     ·
      exact absurd h h3
     ·
      exact absurd h hk
     ·
      exact h
    refine List.pairwise_cons.2 ⟨fun d hd=>?_,hs⟩
    rcases List.mem_cons.1 hd with rfl|hd
    ·
     exact h4
    ·
     exact slt_trans h4 (h1 d hd)
theorem dropS_srt {k:Str}{l:List Pair}(hs:Srt Pair.key l):Srt Pair.key (dropS k l):=hs.sublist (dropS_sub l)
theorem putS_len {k:Str}{n:Int}:∀ l:List Pair,(putS k n l).length≤l.length+1
 | []=>by simp[putS]
 |p::l=>by
  have:=putS_len (k:=k) (n:=n) l
  simp only[putS]
  split
  ·
   simp
  ·
   split <;> simp <;> omega
theorem dropS_len {k:Str}(l:List Pair):(dropS k l).length≤l.length:=(dropS_sub l).length_le
theorem ok_pround (n:Int) (hn:inI n):FnOk Tryd.prog 12 [.d (dint n)] (.one (dint (round n))):=by
 refine fnOk_of tbl_ok mixed_ok Tryd.func12 rfl (by kernel_rfl) rfl rfl fun w0 own0=>?_
 repeat(first|refine wa ?_|((with_reducible apply s5);(first|((with_reducible apply a_bin);(iterate 2 exact rfl);exact bin_rem (by omega);exact rfl)|exact by_oa|exact by_ca);exact by_g)|refine wb ?_)
 refine .one (.tmp rfl (.one (.d (dle_eq ?_))))
 have h1:n.tdiv 1073741825*1073741825+n.tmod 1073741825=n:=Int.tdiv_mul_add_tmod n 1073741825
 show dint _=dint _
 congr 1
 unfold round
 omega
theorem ok_pget (l:List Pair) (k:Str) (hl:l.length≤268435456) (hs:Srt Pair.key l):FnOk Tryd.prog 14 [.d (encRows l),.d (dstr k)] (.tup [dint (RF.get l k).1,dbool (RF.get l k).2]):=by
 refine fnOk_of tbl_ok mixed_ok Tryd.func14 rfl (by kernel_rfl) rfl rfl fun w0 own0=>?_
 obtain⟨m,hm⟩:=hs.at k
 have hf:=ok_rfind l k m hl hm
 cases hb:isAtR l k m with
 |true =>
  obtain⟨c,hc,hck⟩:=atr_some hb
  rw[hb]at hf
  rw[get_some hm hc hck]
  try refine wk ?_
  exact .two (.tmp rfl (.one (.d (.refl _)))) (.tmp rfl (.one (.d (.refl _))))
 |false =>
  rw[hb]at hf
  rw[get_none hm hb hs]
  try refine wk ?_
  exact .two (.tmp rfl (.one (.d (.refl _)))) (.tmp rfl (.one (.d (.refl _))))
theorem ok_pput (l:List Pair) (k:Str) (n:Int) (hl:l.length≤268435456) (hs:Srt Pair.key l):FnOk Tryd.prog 17 [.d (encRows l),.d (dstr k),.d (dint n)] (.one (encRows (putS k n l))):=by
 refine fnOk_of tbl_ok mixed_ok Tryd.func17 rfl (by kernel_rfl) rfl rfl fun w0 own0=>?_
 obtain⟨m,hm⟩:=hs.at k
 have hml:=hm.le
 have hf:=ok_rfind l k m hl hm
 have hn:=new_clone_pair (l.map Pair.enc) (by simp;omega)
 cases hb:isAtR l k m with
 |true =>
  obtain⟨c,hc,hck⟩:=atr_some hb
  have hmlt:=(List.getElem?_eq_some_iff.1 hc).1
  rw[hb]at hf
  rw[putS_found hm hc hck]
  repeat(first|refine wa ?_|((with_reducible apply s5);(first|exact a_callnew hn rfl rfl by_sub|exact by_oa|exact by_ca);exact by_g)|refine wb ?_)
  refine .one (.tmp rfl (.one (.own rfl (by simp) (dle_eq ?_))))
  show D.sl 2 _=D.sl 2 _
  congr 1
  rw[List.map_set]
  congr 1
 |false =>
  rw[hb]at hf
  rw[putS_new hm hb]
  have hi:=upd_insertP (l.map Pair.enc) m (dstr k) (dint n) (by simp;omega) (by simp;omega)
  repeat(first|refine wa ?_|((with_reducible apply s5);(first|exact a_callnew hn rfl rfl by_sub|(focus ((with_reducible apply a_upd);exact hi;(iterate 3 exact rfl);(focus first|exact rfl|(simp;done)|(simp;omega));exact rfl;exact by_sub))|exact by_oa|exact by_ca);exact by_g)|refine wb ?_)
  refine .one (.tmp rfl (.one (.own rfl (by simp) (dle_eq ?_))))
  show D.sl 2 _=D.sl 2 _
  congr 1
  simp[Pair.enc]
theorem ok_pdrop (l:List Pair) (k:Str) (hl:l.length≤268435456) (hs:Srt Pair.key l):FnOk Tryd.prog 19 [.d (encRows l),.d (dstr k)] (.one (encRows (dropS k l))):=by
 refine fnOk_of tbl_ok mixed_ok Tryd.func19 rfl (by kernel_rfl) rfl rfl fun w0 own0=>?_
 obtain⟨m,hm⟩:=hs.at k
 have hml:=hm.le
 have hf:=ok_rfind l k m hl hm
 have hn:=new_clone_pair (l.map Pair.enc) (by simp;omega)
 cases hb:isAtR l k m with
 |true =>
  obtain⟨c,hc,hck⟩:=atr_some hb
  have hmlt:=(List.getElem?_eq_some_iff.1 hc).1
  rw[hb]at hf
  rw[dropS_found hm hc hck]
  have hd:=upd_delete (l.map Pair.enc) m (by simpa using hmlt) (by simp;omega)
  repeat(first|refine wa ?_|((with_reducible apply s5);(first|exact a_callnew hn rfl rfl by_sub|(focus ((with_reducible apply a_upd);exact hd;(iterate 3 exact rfl);(focus first|exact rfl|(simp;done)|(simp;omega));exact rfl;exact by_sub))|exact by_oa|exact by_ca);exact by_g)|refine wb ?_)
  refine .one (.tmp rfl (.one (.own rfl (by simp) (dle_eq ?_))))
  show D.sl 2 _=D.sl 2 _
  congr 1
  simp
 |false =>
  rw[hb]at hf
  rw[dropS_at hm hb hs]
  repeat(first|refine wa ?_|((with_reducible apply s5);(first|exact a_callnew hn rfl rfl by_sub|exact by_oa|exact by_ca);exact by_g)|refine wb ?_)
  exact .one (.tmp rfl (.one (.own rfl (by simp) (.refl _))))
end Go.Proofs.YtfpkamiobdkcpaaDoor
namespace Go.Proofs.YtfpkamiobdkcpaaDoor
open Go.AX Go.RF
set_option maxRecDepth 100000
theorem ok_SameRows (l r:List Pair) (hl:l.length≤1073741824):FnOk Tryd.prog 16 [.d (encRows l),.d (encRows r)] (.one (dbool (allB (fun a b=>decide (a=b)) l r))):=by
 refine fnOk_of tbl_ok mixed_ok Tryd.func16 rfl (by kernel_rfl) rfl rfl fun w0 own0=>?_
 by_cases hlen:l.length=r.length
 ·
  try refine wk ?_
  refine CW.loop (fun k=>[(.s 0,.av (.d (encRows l))),(.s 1,.av (.d (encRows r))),(.s 11,.av (.d (encRows l))),(.s 12,.av (.d (dint l.length))),(.s 13,.av (.d (dint k))),(.nx,.num 0)]) (agree (fun a b=>decide (a=b)) l r) ?_ fun k hk=>?_
  ·
   exact by_less
  ·
   rcases agree_case hlen hk with ⟨h1,h1',a,b,h2,h3,h4⟩|⟨h1,h2⟩|⟨h1,h2,a,b,h3,h4,h5⟩
   ·
    replace h4:a=b:=by simpa using h4
    repeat(first|refine wa ?_|((with_reducible apply s5);(first|((with_reducible apply a_agg);exact neq_pair a b;(iterate 5 exact rfl))|exact by_oa|exact by_ca);exact by_g)|refine wb ?_)
    refine q_loop h1 ?_
    exact by_less
   ·
    try refine wk ?_
    exact .one (.tmp rfl (.one (.d (dle_bool h2.symm))))
   ·
    replace h5:¬ a=b:=by simpa using h5
    repeat(first|refine wa ?_|((with_reducible apply s5);(first|((with_reducible apply a_agg);exact neq_pair a b;(iterate 5 exact rfl))|exact by_oa|exact by_ca);exact by_g)|refine wb ?_)
    exact .one (.tmp rfl (.one (.d (dle_bool h2.symm))))
 ·
  try refine wk ?_
  refine .one (.tmp rfl (.one (.d (dle_bool ?_))))
  cases hb:allB (fun a b=>decide (a=b)) l r
  ·
   rfl
  ·
   exact absurd (allB_len hb) hlen
set_option maxHeartbeats 8000000
theorem ld_reg (e:Done) {A:Nat}(h:A < 4) {ti:TI}(hk:ti.kind = .int .i64):ldA ti ((e.enc.map AV.d).drop (1+A*1))=some (.d (dint (rget e A))):=by
 have:A=0∨A=1∨A=2∨A=3:=by omega
 rcases this with rfl|rfl|rfl|rfl <;> simp[ldA,hk,Done.enc,rget]
theorem st_reg (e:Done) {A:Nat}(h:A < 4) (x:Int):putCells (e.enc.map AV.d) (1+A*1) [.d (dint x)]=(rset e A x).enc.map AV.d:=by
 have:A=0∨A=1∨A=2∨A=3:=by omega
 rcases this with rfl|rfl|rfl|rfl <;> rfl
theorem fit_reg (e:Done) {A:Nat}(h:A < 4):Nat.ble ((1+A*1)+1) (e.enc.map AV.d).length=true:=by
 simp[Done.enc];omega
theorem mul_bound {a b:Int}(ha : -1073741824≤a∧a≤1073741824) (hb : -1073741824≤b∧b≤1073741824) : -1152921504606846976≤a*b∧a*b≤1152921504606846976:=by
 have h1:(a*b).natAbs≤1073741824*1073741824:=by
  rw[Int.natAbs_mul]
  exact Nat.mul_le_mul (by omega) (by omega)
 omega
structure Deed.Ok (d:Deed):Prop where
 i:∀ i∈d.code,i.Ok
 r:d.reads.length≤5
 w:d.writes.length≤5
 c:d.code.length≤12
theorem doGo_len {r0:List Pair}:∀ (l:List Ins) (sk:Int) (now:List Pair) (e:Done),(doGo r0 sk now e l).1.length≤max r0.length (now.length+l.length)
 | [],sk,now,e=>by simp only[doGo];simp;omega
 |i::l,sk,now,e=>by
  have ih:=fun sk now e=>doGo_len (r0:=r0) l sk now e
  have h1:=put_len now i.key (rget e i.a.toNat) true
  have h2:=put_len now i.key 0 false
  simp only[doGo,List.length_cons]
  repeat' split
  all_goals first
   |(refine Nat.le_trans (ih _ _ _) ?_;omega)
   |(simp only[];omega)
theorem doD_len (r:List Pair) (d:Deed):(doD r d).1.length≤r.length+d.code.length:=by
 have:=doGo_len (r0:=r) d.code 0 r done0
 unfold doD
 omega
theorem codeGo_mem {d:Deed}:∀ {l:List Ins}{k:Nat},codeGo d k l=0→∀ j i,l[j]? = some i→wrongIns d ((d.code.length:Int) - 1 - ((k+j:Nat):Int)) i=0
 | [],k,_,j,i,hj=>by simp at hj
 |x::l,k,h,j,i,hj=>by
  simp only[codeGo]at h
  by_cases h0:wrongIns d ((d.code.length:Int) - 1 - k) x=0
  ·
   rw[if_pos h0]at h
   cases j with
   |zero=>simp at hj;subst hj;simpa using h0
   |succ j =>
    have:=codeGo_mem h j i (by simpa using hj)
    rw[show k+(j+1)=k+1+j by omega]
    exact this
  ·
   rw[if_neg h0]at h;exact absurd h h0
theorem has_ins {k:Int}(h:1≤k∧k≤9):insA k.toNat≤3∧insB k.toNat≤3:=by
 unfold insA insB
 constructor <;> split <;> omega
theorem wrongIns_ok {d:Deed}{m:Int}(hm:m≤11) {i:Ins}(h:wrongIns d m i=0):i.Ok:=by
 unfold wrongIns at h
 by_cases hk:i.kind < 1∨9 < i.kind
 ·
  rw[if_pos hk]at h;simp at h
 rw[if_neg hk]at h
 by_cases ho:insOut i.kind.toNat i.a i.b i.n m=true
 ·
  rw[if_pos ho]at h;simp at h
 have hkk:1≤i.kind∧i.kind≤9:=by omega
 have hs:=has_ins hkk
 simp only[insOut,Bool.or_eq_true,decide_eq_true_eq,not_or]at ho
 obtain⟨h1,h2,h3,h4,h5,h6⟩:=ho
 refine⟨hkk,by omega,by omega,fun hc=>?_,fun hc=>?_⟩
 ·
  rw[hc]at h5 h6
  simp[insLow,insHigh]at h5 h6
  unfold nOk;omega
 ·
  rw[hc]at h5 h6
  simp[insLow,insHigh]at h5 h6
  omega
theorem wrongDeed_ok {d:Deed}(h:wrongDeed d=0):Deed.Ok d:=by
 obtain⟨h1,h2,h3⟩:=wrong_writes h
 refine⟨fun i hi=>?_,h1,h2,h3⟩
 unfold wrongDeed at h
 by_cases h0:lsGo [d.reads,d.writes]=0
 ·
  rw[if_pos h0]at h
  by_cases hc:12 < d.code.length
  ·
   rw[if_pos hc]at h;simp at h
  ·
   rw[if_neg hc]at h
   obtain⟨j,hj⟩:=List.getElem?_of_mem hi
   exact wrongIns_ok (by omega) (codeGo_mem h j i hj)
 ·
  rw[if_neg h0]at h;exact absurd h h0
theorem doGo_ok {r0:List Pair}(h0:rowsOk r0):∀ {l:List Ins}{sk:Int}{now:List Pair}{e:Done},(∀ i∈l,i.Ok)→rowsOk now→e.Ok→rowsOk (doGo r0 sk now e l).1∧(doGo r0 sk now e l).2.Ok
 | [],sk,now,e,_,hn,he=>⟨hn,he⟩
 |i::l,sk,now,e,hl,hn,he=>by
  have hio:=hl i (List.mem_cons_self ..)
  have ih:=fun(sk:Int) (now:List Pair) (e:Done) (h1:rowsOk now) (h2:e.Ok)=>doGo_ok h0 (l:=l) (sk:=sk) (now:=now) (e:=e) (fun j hj=>hl j (List.mem_cons_of_mem _ hj)) h1 h2
  simp only[doGo]
  split
  ·
   exact ih _ _ _ hn he
  split
  ·
   exact ih _ _ _ hn (rset_ok he _ (get_ok hn _))
  split
  ·
   next hk=>exact ih _ _ _ hn (rset_ok he _ (hio.c hk))
  split
  ·
   exact ih _ _ _ hn (rset_ok he _ (round_ok _))
  split
  ·
   exact ih _ _ _ hn (rset_ok he _ (round_ok _))
  split
  ·
   exact ih _ _ _ hn (rset_ok he _ (round_ok _))
  split
  ·
   exact ih _ _ _ (put_ok hn _ (rget_ok he _) _) he
  split
  ·
   exact ih _ _ _ (put_ok hn _ (by simp[nOk]) _) he
  split
  ·
   exact ih _ _ _ hn he
  split
  ·
   exact⟨h0,⟨he.a,he.b,he.c,he.d⟩⟩
  ·
   exact ih _ _ _ hn he
theorem done0_ok:done0.Ok:=⟨by simp[nOk,done0],by simp[nOk,done0],by simp[nOk,done0],by simp[nOk,done0]⟩
theorem doD_ok {r:List Pair}{d:Deed}(h0:rowsOk r) (hd:Deed.Ok d):rowsOk (doD r d).1:=(doGo_ok h0 hd.i h0 done0_ok).1
def VSrt (l:List Version):Prop:=l.Pairwise fun a b=>a.by_ < b.by_
theorem VSrt.cons {v:Version}{l:List Version}:VSrt (v::l)↔(∀ w∈l,v.by_ < w.by_)∧VSrt l:=List.pairwise_cons
theorem allB_refl {α:Type}{f:α→α→Bool}(hf:∀ a,f a a=true):∀ l:List α,allB f l l=true
 | []=>rfl
 |a::l=>by simp[allB,hf,allB_refl hf l]
theorem wrongRowsGo_srt:∀ {l:List Pair}{i:Nat}{last:Str},wrongRowsGo (i+1) last l=0→(∀ p∈l,slt last p.key=true∧key p.key=true∧nOk p.n)∧Srt Pair.key l
 | [],i,last,_=>⟨by simp,List.Pairwise.nil⟩
 |p::l,i,last,h=>by
  simp only[wrongRowsGo]at h
  by_cases h1:key p.key=false
  ·
   rw[if_pos h1]at h;simp at h
  rw[if_neg h1]at h
  by_cases h2:0 < i+1∧sle p.key last=true
  ·
   rw[if_pos h2]at h;simp at h
  rw[if_neg h2]at h
  by_cases h3:1073741824 < p.n∨p.n < -1073741824
  ·
   rw[if_pos h3]at h;simp at h
  rw[if_neg h3]at h
  obtain⟨h4,h5⟩:=wrongRowsGo_srt h
  have h6:slt last p.key=true:=by
   have h7:¬ sle p.key last=true:=fun e=>h2 ⟨by omega,e⟩
   simp only[sle,Bool.or_eq_true,decide_eq_true_eq,not_or]at h7
   rcases slt_tri last p.key with h|h|h
   ·
    exact h
   ·
    exact absurd h.symm h7.2
   ·
    exact absurd h h7.1
  refine⟨fun q hq=>?_,List.pairwise_cons.2 ⟨fun q hq=>(h4 q hq).1,h5⟩⟩
  rcases List.mem_cons.1 hq with rfl|hq
  ·
   exact⟨h6,by simpa using h1,by unfold nOk;omega⟩
  ·
   exact⟨slt_trans h6 (h4 q hq).1,(h4 q hq).2⟩
theorem wrongRows_srt {l:List Pair}(h:wrongRows l=0):Srt Pair.key l∧(∀ p∈l,key p.key=true)∧rowsOk l:=by
 cases l with
 |nil=>exact⟨List.Pairwise.nil,by simp,by simp[rowsOk]⟩
 |cons p l =>
  simp only[wrongRows,wrongRowsGo]at h
  by_cases h1:key p.key=false
  ·
   rw[if_pos h1]at h;simp at h
  rw[if_neg h1,if_neg (by simp)]at h
  by_cases h3:1073741824 < p.n∨p.n < -1073741824
  ·
   rw[if_pos h3]at h;simp at h
  rw[if_neg h3]at h
  obtain⟨h4,h5⟩:=wrongRowsGo_srt h
  refine⟨List.pairwise_cons.2 ⟨fun q hq=>(h4 q hq).1,h5⟩,fun q hq=>?_,fun q hq=>?_⟩
  ·
   rcases List.mem_cons.1 hq with rfl|hq
   ·
    simpa using h1
   ·
    exact(h4 q hq).2.1
  ·
   rcases List.mem_cons.1 hq with rfl|hq
   ·
    unfold nOk;omega
   ·
    exact(h4 q hq).2.2
theorem isIn_false {s:Str}:∀ {l:List Str},isIn l s=false→s∉l
 | [],_,h=>by simp at h
 |x::l,h,hm=>by
  simp only[isIn]at h
  by_cases hx:x=s
  ·
   rw[if_pos hx]at h;cases h
  ·
   rw[if_neg hx]at h
   rcases List.mem_cons.1 hm with rfl|hm
   ·
    exact hx rfl
   ·
    exact isIn_false h hm
theorem keysGo_nodup {l:List Str}:∀ {r:List Str}{i:Nat},l.drop i=r→(l.take i).Nodup→keysGo l i r=0→l.Nodup∧∀ k∈r,key k=true
 | [],i,hr,hn,_=>by
  have:l.length≤i:=by simpa using hr
  rw[List.take_of_length_le this]at hn
  exact⟨hn,by simp⟩
 |k::r,i,hr,hn,h=>by
  simp only[keysGo]at h
  by_cases h1:key k=false
  ·
   rw[if_pos h1]at h;simp at h
  rw[if_neg h1]at h
  by_cases h2:isIn (l.take i) k=true
  ·
   rw[if_pos h2]at h;simp at h
  rw[if_neg h2]at h
  have hk:l[i]? = some k:=by
   have:(l.drop i)[0]? = some k:=by rw[hr];rfl
   simpa using this
  have h3:l.take (i+1)=l.take i++[k]:=by rw[List.take_add_one,hk];rfl
  have hni:k∉l.take i:=isIn_false (by simpa using h2)
  have:=keysGo_nodup (l:=l) (r:=r) (i:=i+1) (by rw[← List.drop_drop,hr];rfl) (by
   rw[h3]
   refine List.nodup_append.2 ⟨hn,by simp,fun a ha b hb=>?_⟩
   simp at hb;subst hb
   exact fun e=>hni (e▸ha)) h
  exact⟨this.1,fun x hx=>by
   rcases List.mem_cons.1 hx with rfl|hx
   ·
    simpa using h1
   ·
    exact this.2 x hx⟩
theorem keysWrong_nodup {l:List Str}(h:keysWrong l=0):l.Nodup∧(∀ k∈l,key k=true)∧l.length≤5:=by
 unfold keysWrong at h
 by_cases h1:5 < l.length
 ·
  rw[if_pos h1]at h;simp at h
 ·
  rw[if_neg h1]at h
  have:=keysGo_nodup (l:=l) (r:=l) (i:=0) rfl (by simp) h
  exact⟨this.1,this.2,by omega⟩
theorem get_put {k k':Str}{n:Int}:∀ {l:List Pair},RF.get (putS k n l) k'=if k=k' then (n,true) else RF.get l k'
 | []=>by simp[putS,RF.get]
 |p::l=>by
  simp only[putS]
  by_cases hk:p.key=k
  ·
   rw[if_pos hk]
   simp only[RF.get]
   by_cases h:k=k'
   ·
    simp[h]
   ·
    rw[if_neg h,if_neg h,if_neg (by rw[hk];exact h)]
  ·
   rw[if_neg hk]
   split
   ·
    simp only[RF.get]
    rw[get_put]
    by_cases h:p.key=k'
    ·
     rw[if_pos h,if_neg (fun e=>hk (by rw[h,e])),if_pos h]
    ·
     rw[if_neg h,if_neg h]
   ·
    simp only[RF.get]
theorem get_absent {k:Str}:∀ {l:List Pair},(∀ p∈l,p.key≠k)→RF.get l k=(0,false)
 | [],_=>rfl
 |p::l,h=>by
  simp only[RF.get]
  rw[if_neg (h p (List.mem_cons_self ..)),get_absent fun q hq=>h q (List.mem_cons_of_mem _ hq)]
theorem srt_absent {p:Pair}{l:List Pair}(hs:Srt Pair.key (p::l)):∀ q∈l,q.key≠p.key:=fun q hq e=>by
 have:=(List.pairwise_cons.1 hs).1 q hq
 rw[e,slt_irrefl]at this;cases this
theorem get_drop {k k':Str}:∀ {l:List Pair},Srt Pair.key l→RF.get (dropS k l) k'=if k=k' then (0,false) else RF.get l k'
 | [],_=>by simp[dropS,RF.get]
 |p::l,hs=>by
  simp only[dropS]
  by_cases hk:p.key=k
  ·
   rw[if_pos hk]
   by_cases h:k=k'
   ·
    rw[if_pos h]
    exact get_absent fun q hq=>by rw[← h,← hk];exact srt_absent hs q hq
   ·
    rw[if_neg h]
    simp only[RF.get]
    rw[if_neg (by rw[hk];exact h)]
  ·
   rw[if_neg hk]
   simp only[RF.get]
   rw[get_drop (List.pairwise_cons.1 hs).2]
   by_cases h:p.key=k'
   ·
    rw[if_pos h,if_neg (fun e=>hk (by rw[h,e])),if_pos h]
   ·
    rw[if_neg h,if_neg h]
theorem srt_ext:∀ {l r:List Pair},Srt Pair.key l→Srt Pair.key r→(∀ p,p∈l↔p∈r)→l=r
 | [],[],_,_,_=>rfl
 | [],q::r,_,_,h=>by have:=(h q).2 (List.mem_cons_self ..);simp at this
 |p::l,[],_,_,h=>by have:=(h p).1 (List.mem_cons_self ..);simp at this
 |p::l,q::r,hl,hr,h=>by
  obtain⟨l1,l2⟩:=List.pairwise_cons.1 hl
  obtain⟨r1,r2⟩:=List.pairwise_cons.1 hr
  have hpq:p=q:=by
   rcases List.mem_cons.1 ((h p).1 (List.mem_cons_self ..)) with e|e
   ·
    exact e
   ·
    rcases List.mem_cons.1 ((h q).2 (List.mem_cons_self ..)) with e'|e'
    ·
     exact e'.symm
    ·
     have:=slt_trans (l1 q e') (r1 p e)
     rw[slt_irrefl]at this;cases this
  subst hpq
  congr 1
  refine srt_ext l2 r2 fun x=>⟨fun hx=>?_,fun hx=>?_⟩
  ·
   rcases List.mem_cons.1 ((h x).1 (List.mem_cons_of_mem _ hx)) with e|e
   ·
    subst e;have:=l1 x hx;rw[slt_irrefl]at this;cases this
   ·
    exact e
  ·
   rcases List.mem_cons.1 ((h x).2 (List.mem_cons_of_mem _ hx)) with e|e
   ·
    subst e;have:=r1 x hx;rw[slt_irrefl]at this;cases this
   ·
    exact e
theorem wrongRowsGo_of:∀ {l:List Pair}{i:Nat}{last:Str},Srt Pair.key l→(∀ p∈l,key p.key=true)→rowsOk l→(0 < i→∀ p∈l,slt last p.key=true)→wrongRowsGo i last l=0
 | [],i,last,_,_,_,_=>rfl
 |p::l,i,last,hs,hk,hn,hp=>by
  obtain⟨h1,h2⟩:=List.pairwise_cons.1 hs
  have h3:=hn p (List.mem_cons_self ..)
  simp only[wrongRowsGo]
  rw[if_neg (by rw[hk p (List.mem_cons_self ..)];simp),if_neg,if_neg (by unfold nOk at h3;omega)]
  ·
   exact wrongRowsGo_of h2 (fun q hq=>hk q (List.mem_cons_of_mem _ hq)) (fun q hq=>hn q (List.mem_cons_of_mem _ hq)) fun _=>h1
  ·
   rintro ⟨h4,h5⟩
   have h6:=hp h4 p (List.mem_cons_self ..)
   simp only[sle,Bool.or_eq_true,decide_eq_true_eq]at h5
   rcases h5 with h5|h5
   ·
    rw[slt_asymm h6]at h5;cases h5
   ·
    rw[h5,slt_irrefl]at h6;cases h6
theorem wrongRows_of {l:List Pair}(hs:Srt Pair.key l) (hk:∀ p∈l,key p.key=true) (hn:rowsOk l):wrongRows l=0:=wrongRowsGo_of hs hk hn (by omega)
def alpha:List UInt8:=[97,98,99,100,101,102,103,104,105,106,107,108,109,110,111,112,113,114,115,116,117,118,119,120,121,122]
theorem alpha_bad (c:UInt8):alpha.contains c = !bad c:=by
 have h:∀ n:Fin 256,alpha.contains (UInt8.ofFin n) = !bad (UInt8.ofFin n):=by decide +kernel
 have:=h c.toFin
 rwa [UInt8.ofFin_toFin]at this
theorem dropWhile_nil {p:UInt8→Bool}:∀ {l:List UInt8},l.dropWhile p=[]↔∀ x∈l,p x=true
 | []=>by simp
 |x::l=>by
  cases h:p x with
  |true=>rw[List.dropWhile_cons_of_pos h,dropWhile_nil];simp[h]
  |false=>rw[List.dropWhile_cons_of_neg (by simp[h])];simp[h]
theorem dropWhile_head {p:UInt8→Bool}:∀ {l r:List UInt8}{x:UInt8},l.dropWhile p=x::r→p x=false
 | [],r,x,h=>by simp at h
 |y::l,r,x,h=>by
  cases hy:p y with
  |true=>rw[List.dropWhile_cons_of_pos hy]at h;exact dropWhile_head h
  |false=>rw[List.dropWhile_cons_of_neg (by simp[hy])]at h;cases h;exact hy
theorem trim_nil {l cs:List UInt8}:Lib.trimS l cs=[]↔∀ x∈l,cs.contains x=true:=by
 unfold Lib.trimS Lib.trimLeftS Lib.trimRightS
 rw[dropWhile_nil]
 constructor
 ·
  intro h
  have h1:l.reverse.dropWhile (cs.contains ·)=[]:=by
   cases h2:l.reverse.dropWhile (cs.contains ·) with
   |nil=>rfl
   |cons x r =>
    have h3:=dropWhile_head h2
    have h4:=h x (by rw[h2];simp)
    rw[h3]at h4;cases h4
  intro x hx
  exact dropWhile_nil.1 h1 x (by simpa using hx)
 ·
  intro h x hx
  have h1:l.reverse.dropWhile (cs.contains ·)=[]:=dropWhile_nil.2 fun x hx=>h x (by simpa using hx)
  rw[h1]at hx;simp at hx
theorem keyGo_eq {s:Str}:∀ {r:Str},keyGo s r=((r.all fun c => !bad c)&&(decide (0 < s.length)&&decide (s.length < 7)))
 | []=>by simp[keyGo]
 |c::r=>by
  simp only[keyGo,List.all_cons]
  rw[keyGo_eq]
  cases bad c <;> simp
theorem key_trim (s:Str):key s=(decide (1≤s.length)&&(decide (s.length≤6)&&decide (Lib.trimS s alpha=[]))):=by
 unfold key
 rw[keyGo_eq]
 have h1:(s.all fun c => !bad c)=decide (Lib.trimS s alpha=[]):=by
  rw[Bool.eq_iff_iff,decide_eq_true_eq,trim_nil,List.all_eq_true]
  simp only[alpha_bad]
 rw[h1]
 have h2:decide (0 < s.length)=decide (1≤s.length):=by congr 1
 have h3:decide (s.length < 7)=decide (s.length≤6):=by congr 1;exact propext ⟨fun h=>by omega,fun h=>by omega⟩
 rw[h2,h3]
 cases decide (Lib.trimS s alpha=[]) <;> cases decide (1≤s.length) <;> cases decide (s.length≤6) <;> rfl
theorem get_mem_some {k:Str}:∀ {l:List Pair}{n:Int},RF.get l k=(n,true)→(⟨k,n⟩:Pair)∈l
 | [],n,h=>by simp[RF.get]at h
 |p::l,n,h=>by
  simp only[RF.get]at h
  by_cases hk:p.key=k
  ·
   rw[if_pos hk]at h
   cases h
   rw[← hk]
   exact List.mem_cons_self ..
  ·
   rw[if_neg hk]at h
   exact List.mem_cons_of_mem _ (get_mem_some h)
theorem get_of_mem {p:Pair}:∀ {l:List Pair},Srt Pair.key l→p∈l→RF.get l p.key=(p.n,true)
 |q::l,hs,h=>by
  simp only[RF.get]
  rcases List.mem_cons.1 h with rfl|h
  ·
   rw[if_pos rfl]
  ·
   have:=srt_absent hs p h
   rw[if_neg (fun e=>this e.symm),get_of_mem (List.pairwise_cons.1 hs).2 h]
theorem get_ext {l r:List Pair}(hl:Srt Pair.key l) (hr:Srt Pair.key r) (h:∀ k,RF.get l k=RF.get r k):l=r :=
 srt_ext hl hr fun p=>⟨fun hp=>get_mem_some (by rw[← h,get_of_mem hl hp]),fun hp=>get_mem_some (by rw[h,get_of_mem hr hp])⟩
def chOf (c:Bool×Int):Int×Bool:=if c.1=true then (c.2,true) else (0,false)
def chAt (r:List Pair) (m:Mk) (k:Str):Int×Bool:=match mG m k with
 |some c=>chOf c
 |none=>RF.get r k
def app1 (out:List Pair) (k:Str) (c:Bool×Int):List Pair:=if c.1=true then putS k c.2 out else dropS k out
def appC:List Pair→List (Str×(Bool×Int))→List Pair
 |out,[]=>out
 |out,x::r=>appC (app1 out x.1 x.2) r
theorem app1_srt {out:List Pair}(h:Srt Pair.key out) (k:Str) (c:Bool×Int):Srt Pair.key (app1 out k c):=by
 unfold app1;split
 ·
  exact putS_srt h
 ·
  exact dropS_srt h
theorem app1_get {out:List Pair}(h:Srt Pair.key out) (k k':Str) (c:Bool×Int):RF.get (app1 out k c) k'=if k=k' then chOf c else RF.get out k':=by
 unfold app1 chOf;split
 ·
  exact get_put
 ·
  exact get_drop h
theorem app1_len (out:List Pair) (k:Str) (c:Bool×Int):(app1 out k c).length≤out.length+1:=by
 unfold app1;split
 ·
  exact putS_len out
 ·
  exact Nat.le_succ_of_le (dropS_len out)
theorem appC_srt:∀ {l:List (Str×(Bool×Int))}{out:List Pair},Srt Pair.key out→Srt Pair.key (appC out l)
 | [],out,h=>h
 |x::l,out,h=>appC_srt (l:=l) (app1_srt h _ _)
theorem appC_get {m:Mk}{k:Str}:∀ {l:List Str}{out:List Pair},Srt Pair.key out→RF.get (appC out (chg m l)) k=if k∈l then chAt out m k else RF.get out k
 | [],out,h=>by simp[chg,appC]
 |x::l,out,h=>by
  simp only[chg]
  cases hx:mG m x with
  |none =>
   simp only
   rw[appC_get h]
   by_cases hk:k∈l
   ·
    rw[if_pos hk,if_pos (List.mem_cons_of_mem _ hk)]
   ·
    rw[if_neg hk]
    by_cases he:k=x
    ·
     subst he
     rw[if_pos (List.mem_cons_self ..),chAt,hx]
    ·
     rw[if_neg (by simp[he,hk])]
  |some c =>
   simp only[appC]
   rw[appC_get (app1_srt h _ _)]
   by_cases he:x=k
   ·
    subst he
    rw[if_pos (List.mem_cons_self ..),app1_get h,if_pos rfl]
    simp only[chAt,hx,ite_self]
   ·
    have hne:¬ k=x:=fun e=>he e.symm
    by_cases hk:k∈l
    ·
     rw[if_pos hk,if_pos (List.mem_cons_of_mem _ hk)]
     unfold chAt
     rw[app1_get h,if_neg he]
    ·
     rw[if_neg hk,if_neg (by simp[hne,hk]),app1_get h,if_neg he]
def plainD (r:List Pair) (d:Deed):List Pair×Done:=(appC r (runC (RF.get r) d),(runM (RF.get r) d).2)
theorem see_at {r now:List Pair}{m:Mk}(h:∀ k,RF.get now k=chAt r m k) (hf:∀ k c,mG m k=some c→c.1=false→c.2=0) (k:Str):seeM (RF.get r) m k=(RF.get now k).1:=by
 rw[h k]
 unfold seeM chAt chOf
 cases hm:mG m k with
 |none=>rfl
 |some c =>
  dsimp only
  by_cases hc:c.1=true
  ·
   rw[if_pos hc]
  ·
   rw[if_neg hc]
   exact hf k c hm (by simpa using hc)
structure MInv (r:List Pair) (W:List Str) (m:Mk) (now:List Pair):Prop where
 s:Srt Pair.key now
 a:∀ k,RF.get now k=chAt r m k
 f:∀ k c,mG m k=some c→c.1=false→c.2=0
 w:∀ k c,mG m k=some c→k∈W
theorem MInv.set {r now:List Pair}{W:List Str}{m:Mk}(h:MInv r W m now) {k:Str}(hk:k∈W) (c:Bool×Int) (hc:c.1=false→c.2=0):MInv r W (mS m k c) (app1 now k c):=by
 refine⟨app1_srt h.s k c,fun k'=>?_,fun k' c' hm=>?_,fun k' c' hm=>?_⟩
 ·
  rw[app1_get h.s]
  unfold chAt
  rw[mG_mS]
  by_cases he:k=k'
  ·
   rw[if_pos he,if_pos he]
  ·
   rw[if_neg he,if_neg he]
   exact h.a k'
 ·
  rw[mG_mS]at hm
  split at hm
  ·
   cases hm;exact hc
  ·
   exact h.f k' c' hm
 ·
  rw[mG_mS]at hm
  split at hm
  ·
   next he=>rw[← he];exact hk
  ·
   exact h.w k' c' hm
theorem run_do {r:List Pair}{W:List Str}:∀ {l:List Ins}{sk:Int}{m:Mk}{e:Done}{now:List Pair},MInv r W m now→e.failed=false→(∀ i∈l,(i.kind=6∨i.kind=7)→i.key∈W) →
  (runGo (RF.get r) sk m e l).2=(doGo r sk now e l).2∧((doGo r sk now e l).2.failed=true→(doGo r sk now e l).1=r)∧((doGo r sk now e l).2.failed=false→MInv r W (runGo (RF.get r) sk m e l).1 (doGo r sk now e l).1)
 | [],sk,m,e,now,h,he,hw=>by
  simp only[runGo,doGo]
  exact⟨trivial,fun hf=>by rw[he]at hf;exact absurd hf (by simp),fun _=>h⟩
 |i::l,sk,m,e,now,h,he,hw=>by
  have hl:∀ i∈l,(i.kind=6∨i.kind=7)→i.key∈W:=fun j hj=>hw j (List.mem_cons_of_mem _ hj)
  simp only[runGo,doGo]
  rw[see_at h.a h.f]
  by_cases h0:0 < sk
  ·
   rw[if_pos h0,if_pos h0];exact run_do h he hl
  rw[if_neg h0,if_neg h0]
  have hr:∀ k x,(rset e k x).failed=false:=fun k x=>by rw[rset_failed];exact he
  by_cases h1:i.kind=1
  ·
   rw[if_pos h1,if_pos h1];exact run_do h (hr _ _) hl
  rw[if_neg h1,if_neg h1]
  by_cases h2:i.kind=2
  ·
   rw[if_pos h2,if_pos h2];exact run_do h (hr _ _) hl
  rw[if_neg h2,if_neg h2]
  by_cases h3:i.kind=3
  ·
   rw[if_pos h3,if_pos h3];exact run_do h (hr _ _) hl
  rw[if_neg h3,if_neg h3]
  by_cases h4:i.kind=4
  ·
   rw[if_pos h4,if_pos h4];exact run_do h (hr _ _) hl
  rw[if_neg h4,if_neg h4]
  by_cases h5:i.kind=5
  ·
   rw[if_pos h5,if_pos h5];exact run_do h (hr _ _) hl
  rw[if_neg h5,if_neg h5]
  by_cases h6:i.kind=6
  ·
   rw[if_pos h6,if_pos h6,put_true h.s]
   have:=h.set (hw i (List.mem_cons_self ..) (.inl h6)) (true,rget e i.a.toNat) (by simp)
   exact run_do this he hl
  rw[if_neg h6,if_neg h6]
  by_cases h7:i.kind=7
  ·
   rw[if_pos h7,if_pos h7,put_false h.s]
   have:=h.set (hw i (List.mem_cons_self ..) (.inr h7)) (false,0) (by simp)
   exact run_do this he hl
  rw[if_neg h7,if_neg h7]
  by_cases h8:i.kind=8
  ·
   rw[if_pos h8,if_pos h8];exact run_do h he hl
  rw[if_neg h8,if_neg h8]
  by_cases h9:rget e i.a.toNat < 0
  ·
   rw[if_pos h9,if_pos h9]
   exact⟨rfl,fun _=>rfl,fun hf=>by simp[bustE]at hf⟩
  ·
   rw[if_neg h9,if_neg h9];exact run_do h he hl
theorem plain_do {r:List Pair}{d:Deed}(hs:Srt Pair.key r) (hw:∀ i∈d.code,(i.kind=6∨i.kind=7)→i.key∈d.writes):plainD r d=doD r d:=by
 obtain⟨h1,h2,h3⟩:=run_do (r:=r) (W:=d.writes) (l:=d.code) (sk:=0) (m:=[]) (e:=done0) (now:=r) ⟨hs,fun k=>rfl,fun k c h=>by simp[mG]at h,fun k c h=>by simp[mG]at h⟩ rfl hw
 unfold plainD doD
 refine Prod.ext ?_ h1
 dsimp only
 unfold runC
 by_cases hf:(runM (RF.get r) d).2.failed=true
 ·
  rw[if_pos hf]
  have hf':(doGo r 0 r done0 d.code).2.failed=true:=by rw[← h1];exact hf
  rw[h2 hf'];rfl
 ·
  rw[if_neg hf]
  have hf':(doGo r 0 r done0 d.code).2.failed=false:=by rw[← h1];exact Bool.eq_false_iff.2 hf
  have h:=h3 hf'
  refine get_ext (appC_srt hs) h.s fun k=>?_
  rw[appC_get hs,h.a k]
  by_cases hk:k∈d.writes
  ·
   rw[if_pos hk];rfl
  ·
   rw[if_neg hk]
   unfold chAt
   cases hm:mG (runGo (RF.get r) 0 [] done0 d.code).1 k with
   |none=>rfl
   |some c=>exact absurd (h.w k c hm) hk
theorem doD_srt {r:List Pair}{d:Deed}(hs:Srt Pair.key r) (hw:∀ i∈d.code,(i.kind=6∨i.kind=7)→i.key∈d.writes):Srt Pair.key (doD r d).1:=by
 rw[← plain_do hs hw];exact appC_srt hs
theorem isIn_true {s:Str}:∀ {l:List Str},isIn l s=true→s∈l
 | [],h=>by cases h
 |x::l,h=>by
  simp only[isIn]at h
  by_cases hx:x=s
  ·
   rw[hx];exact List.mem_cons_self ..
  ·
   rw[if_neg hx]at h
   exact List.mem_cons_of_mem _ (isIn_true h)
theorem wrongIns_keyed {d:Deed}{m:Int}{i:Ins}(h:wrongIns d m i=0) (hk:i.kind=6∨i.kind=7):i.key∈d.writes:=by
 unfold wrongIns at h
 have hkk:¬ (i.kind < 1∨9 < i.kind):=by omega
 rw[if_neg hkk]at h
 have hh:has i.kind.toNat 107=true:=by rcases hk with e|e <;> rw[e] <;> decide
 split at h
 ·
  simp at h
 ·
  rw[if_neg (by rw[hh];simp),if_neg (show ¬ i.kind=1 by omega)]at h
  split at h
  ·
   next hi=>exact isIn_true hi
  ·
   simp at h
theorem wrong_keyed {d:Deed}(h:wrongDeed d=0):∀ i∈d.code,(i.kind=6∨i.kind=7)→i.key∈d.writes:=by
 intro i hi
 unfold wrongDeed at h
 by_cases h0:lsGo [d.reads,d.writes]=0
 ·
  rw[if_pos h0]at h
  by_cases hc:12 < d.code.length
  ·
   rw[if_pos hc]at h;simp at h
  ·
   rw[if_neg hc]at h
   obtain⟨j,hj⟩:=List.getElem?_of_mem hi
   exact wrongIns_keyed (codeGo_mem h j i hj)
 ·
  rw[if_neg h0]at h;exact absurd h h0
theorem runGo_congr {v v':Str→Int×Bool}:∀ {l:List Ins}{sk:Int}{m:Mk}{e:Done},(∀ i∈l,i.kind=1→(v i.key).1=(v' i.key).1)→runGo v sk m e l=runGo v' sk m e l
 | [],sk,m,e,_=>rfl
 |i::l,sk,m,e,h=>by
  have ih:=fun {sk:Int} {m:Mk} {e:Done}=>runGo_congr (v:=v) (v':=v') (l:=l) (sk:=sk) (m:=m) (e:=e) fun j hj=>h j (List.mem_cons_of_mem _ hj)
  have hs:i.kind=1→seeM v m i.key=seeM v' m i.key:=fun hk=>by
   unfold seeM
   split
   ·
    rfl
   ·
    exact h i (List.mem_cons_self ..) hk
  simp only[runGo,ih]
  by_cases hk:i.kind=1
  ·
   rw[hs hk]
  ·
   simp only[if_neg hk]
end Go.Proofs.YtfpkamiobdkcpaaDoor
namespace Go.Proofs.YtfpkamiobdkcpaaDoor
open Go.AX Go.RF Go.RowKit
set_option maxRecDepth 100000
set_option maxHeartbeats 8000000
theorem chTy:∃ ti,tget tbl 91=some ti∧ti.zero=[.bool false,.int .i64 0]:=⟨_,rfl,rfl⟩
theorem mty {n:Nat}{w0:World}{own0:Nat→Prop}{ti:TI}(h:tget tbl 91=some ti) (hz:ti.zero=[.bool false,.int .i64 0]):MapTy ⟨Tryd.prog,tbl,tbl_ok,mixed_ok,n,w0,own0,0,[]⟩ 89 91 (chA (false,0)):=by
 have:=MapTy.st (cx:=⟨Tryd.prog,tbl,tbl_ok,mixed_ok,n,w0,own0,0,[]⟩) (t:=89) ⟨9,Tryd.underlying89,Tryd.underlying9⟩ h (by rw[hz];decide)
 rw[hz]at this
 exact this
theorem flat0:flat (chA (false,0)):=by
 intro c hc
 simp[chV]at hc
 rcases hc with rfl|rfl <;> rfl
theorem ok_see (vf:FuncId) (caps:List D) (zs:List Arg) (view:Str→Int×Bool) (hcap:Caps caps zs) (m:Mk) (k:Str) (hv:FnOk Tryd.prog vf ([.d (dstr k)]++zs) (.tup [dint (view k).1,dbool (view k).2])) :
  FnOk Tryd.prog 50 [.d (dstr k),.pd [mapD (encM m)],.pd [fnD vf caps]] (.one (dint (seeM view m k))):=by
 refine fnOk_of tbl_ok mixed_ok Tryd.func50 rfl (by kernel_rfl) rfl rfl fun w0 own0=>?_
 obtain⟨ti,h1,h2⟩:=chTy
 have hm:=mty (n:=Tryd.f50.ntmps) (w0:=w0) (own0:=own0) h1 h2
 have hg:=mget_enc m k
 unfold seeM
 cases hk:mG m k with
 |some c =>
  rw[hk]at hg
  have hl:mlook (chA (false,0)) (encM m) k=chA c:=by simp[mlook,hg]
  have ha:=fun {d:Nat} {ty:TypeId} {pos:String} {af:Array Edge} {gd:Option (Nat×Bool)} {σ:St} {x y:Operand} (hx) (hy) (hd)=>a_mlookd (σ:=σ) (d:=d) (ty:=ty) (pos:=pos) (af:=af) (gd:=gd) (x:=x) (y:=y) hm flat0 (encM_one m) (k:=k) hx hy hd
  rw[hl,hg]at ha
  repeat(first|refine wa ?_|((with_reducible apply s5);(first|((with_reducible apply ha);(iterate 3 exact rfl))|exact by_oa|exact by_ca);exact by_g)|refine wb ?_)
  exact .one (.tmp rfl (.one (.d (.refl _))))
 |none =>
  rw[hk]at hg
  have hl:mlook (chA (false,0)) (encM m) k=chA (false,0):=by simp[mlook,hg]
  have ha:=fun {d:Nat} {ty:TypeId} {pos:String} {af:Array Edge} {gd:Option (Nat×Bool)} {σ:St} {x y:Operand} (hx) (hy) (hd)=>a_mlookd (σ:=σ) (d:=d) (ty:=ty) (pos:=pos) (af:=af) (gd:=gd) (x:=x) (y:=y) hm flat0 (encM_one m) (k:=k) hx hy hd
  rw[hl,hg]at ha
  repeat(first|refine wa ?_|((with_reducible apply s5);(first|((with_reducible apply ha);(iterate 3 exact rfl))|(focus (with_reducible apply(a_callfn (ys:=[.d (dstr k)])));exact hv;exact hcap;exact rfl;exact rfl;apply SubsE.cons;exact rfl;exact .d (.refl _);exact trivial;exact SubsE.nil)|exact by_oa|exact by_ca);exact by_g)|refine wb ?_)
  exact .one (.tmp rfl (.one (.d (.refl _))))
theorem ok_run (vf:FuncId) (caps:List D) (zs:List Arg) (view:Str→Int×Bool) (d:Deed) (hcap:Caps caps zs) (hv:∀ k∈d.reads,FnOk Tryd.prog vf ([.d (dstr k)]++zs) (.tup [dint (view k).1,dbool (view k).2]))
  (hvn:∀ k∈d.reads,nOk (view k).1) (hc:d.code.length≤134217728) (hw:d.writes.length≤134217728) (hi:∀ i∈d.code,i.Ok) (hk:∀ i∈d.code,i.kind=1→i.key∈d.reads) :
  FnOk Tryd.prog 34 [.d (.agg d.enc),.d (fnD vf caps)] (.tup (runRes view d)):=by
 refine fnOk_of tbl_ok mixed_ok Tryd.func34 rfl (by kernel_rfl) rfl rfl fun w0 own0=>?_
 obtain⟨ti,hti,htz⟩:=chTy
 have hmt:=mty (n:=Tryd.f34.ntmps) (w0:=w0) (own0:=own0) hti htz
 have hst0:StopA 2:=⟨rfl⟩
 try refine wkS ?_
 clear hst0
 refine Stop.go (CW.seq (CW.regionS ?_))
 refine SW.fam rfl (fam_mkmap rfl rfl) fun x0=>?_
 refine SW.fact (p:=∃ b,x0 = .map (some b)) (map_known (id:=4) (M:=[]) rfl) ?_
 rintro ⟨b0,rfl⟩
 refine SW.rw ?_
 have hst0:StopR 3:=⟨rfl⟩
 try refine wkS ?_
 clear hst0
 refine Stop.go (CW.stut (stut_freezebox (i:=8) (id:=5) (ds:=[.v (.map (some b0))]) rfl) ⟨rfl,rfl,trivial⟩ ?_)
 refine CW.stut (stut_freezebox (i:=3) (id:=1) (ds:=[fnD vf caps]) rfl) ⟨rfl,rfl,trivial⟩ ?_
 have hst0:StopR 4:=⟨rfl⟩
 repeat(first|refine waS ?_|((with_reducible apply s5);(first|((with_reducible apply(a_mkfn (ds:=[refD [.v (.map (some b0))],refD [fnD vf caps]])));exact rfl;apply SubsE.cons;exact rfl;exact .d (.refl _);exact trivial;apply SubsE.cons;exact rfl;exact .d (.refl _);exact trivial;exact SubsE.nil)|exact by_oa|exact by_ca);exact by_g)|refine wb ?_)
 clear hst0
 refine Stop.go (CW.stut (stut_refpd (i:=8)) ⟨rfl,trivial⟩ ?_)
 try refine wk ?_
 refine CW.loopT (fun t:Nat×Mk×Done=>[sp 2 0,ob 0 d.enc,sp 4 2,ob 2 done0.enc,sd 5 (.v nilS),sd 6 (.v nilS),sp 7 3,ob 3 t.2.2.enc,(.s 8,.av (.pd [.v (.map (some b0))])),sd 9 (fnD 50 [refD [.v (.map (some b0))],refD [fnD vf caps]]),(.s 10,.av (.ptr 3 1)),(.o 4,.ob (.mp (encM t.2.1) (.map (some b0)))),sd 11 (dint t.1),nxt 6])
  (fun t=>mOk t.2.1∧t.2.2.Ok∧t.2.2.failed=false∧runGo view 0 t.2.1 t.2.2 (d.code.drop t.1)=runM view d)
  (fun t=>d.code.length - t.1) (0,[],done0) ⟨mOk_nil,⟨by simp[nOk,done0],by simp[nOk,done0],by simp[nOk,done0],by simp[nOk,done0]⟩,rfl,rfl⟩ ?_ ?_
 ·
  exact by_less
 ·
  rintro ⟨x,m,e⟩ ⟨hm,he,hf,hI⟩
  dsimp only at hm he hf hI ⊢
  by_cases hx:x < d.code.length
  ·
   obtain⟨i,h1,h2⟩:∃ i,d.code.drop x=i::d.code.drop (x+1)∧d.code[x]? = some i:=⟨d.code[x],List.drop_eq_getElem_cons hx,List.getElem?_eq_getElem hx⟩
   rw[h1]at hI
   simp only[runGo]at hI
   rw[if_neg (show ¬ (0:Int) < 0 by decide)]at hI
   have hio:=hi i (List.mem_of_getElem? h2)
   obtain⟨kd,ia,ib,n,key⟩:=i
   obtain⟨A,rfl⟩:=Int.eq_ofNat_of_zero_le hio.a.1
   obtain⟨B,rfl⟩:=Int.eq_ofNat_of_zero_le hio.b.1
   have hA:A < 4:=by have:=hio.a.2;dsimp only at this;omega
   have hB:B < 4:=by have:=hio.b.2;dsimp only at this;omega
   have hga:=rget_ok he A
   have hgb:=rget_ok he B
   have hst:=fun y=>st_reg e hA y
   have hfit:=fit_reg e hA
   have hself:=rset_self e A
   have hkk:=hio.k
   have hcn:=hio.c
   have hcs:=hio.s
   dsimp only[Int.toNat_natCast]at hI hkk hcn hcs
   have hkd:kd=1∨kd=2∨kd=3∨kd=4∨kd=5∨kd=6∨kd=7∨kd=8∨kd=9:=by omega
   clear hkk hio h1
   unfold nOk at hga hgb
   rcases hkd with rfl|rfl|rfl|rfl|rfl|rfl|rfl|rfl|rfl
   ·
    rw[if_pos rfl]at hI
    have hsee:=ok_see vf caps zs view hcap m key (hv key (hk _ (List.mem_of_getElem? h2) rfl))
    have hs:=hst (seeM view m key)
    repeat(first|refine wa ?_|((with_reducible apply s5);(first|(focus (with_reducible apply(a_callfnM (ys:=[.d (dstr key)]) (id:=4) (x0 := .map (some b0)) (M:=encM m)));exact hsee;exact .map (.ref .nil);exact rfl;exact rfl;exact rfl;exact rfl;apply SubsE.cons;exact rfl;exact .d (.refl _);exact trivial;exact SubsE.nil)|((with_reducible apply a_lptr);(iterate 4 exact rfl);exact ld_reg e hA rfl)|((with_reducible apply a_lptr);(iterate 4 exact rfl);exact ld_reg e hB rfl)|((with_reducible apply a_store);(iterate 6 exact rfl);exact hfit;exact⟨rfl,trivial⟩)|((with_reducible apply a_nilp);(iterate 3 exact rfl))|exact by_oa|exact by_ca);exact by_g)|refine wb ?_)
    refine q_loopT (x+1,m,rset e A (seeM view m key)) ⟨hm,rset_ok he A (see_ok (hvn key (hk _ (List.mem_of_getElem? h2) rfl)) hm),by rw[rset_failed];exact hf,hI⟩ (by dsimp only;omega) ?_
    exact by_less
   ·
    rw[if_neg (show ¬ (2:Int)=1 by decide),if_pos rfl]at hI
    have hs:=hst n
    repeat(first|refine wa ?_|((with_reducible apply s5);(first|((with_reducible apply a_lptr);(iterate 4 exact rfl);exact ld_reg e hA rfl)|((with_reducible apply a_lptr);(iterate 4 exact rfl);exact ld_reg e hB rfl)|((with_reducible apply a_store);(iterate 6 exact rfl);exact hfit;exact⟨rfl,trivial⟩)|((with_reducible apply a_nilp);(iterate 3 exact rfl))|exact by_oa|exact by_ca);exact by_g)|refine wb ?_)
    refine q_loopT (x+1,m,rset e A n) ⟨hm,rset_ok he A (hcn rfl),by rw[rset_failed];exact hf,hI⟩ (by dsimp only;omega) ?_
    exact by_less
   ·
    rw[if_neg (show ¬ (3:Int)=1 by decide),if_neg (show ¬ (3:Int)=2 by decide),if_pos rfl]at hI
    have hs:=hst (round (rget e A+rget e B))
    have cr:=ok_pround (rget e A+rget e B) (by unfold inI;omega)
    repeat(first|refine wa ?_|((with_reducible apply s5);(first|((with_reducible apply a_lptr);(iterate 4 exact rfl);exact ld_reg e hA rfl)|((with_reducible apply a_lptr);(iterate 4 exact rfl);exact ld_reg e hB rfl)|((with_reducible apply a_store);(iterate 6 exact rfl);exact hfit;exact⟨rfl,trivial⟩)|((with_reducible apply a_nilp);(iterate 3 exact rfl))|((with_reducible apply a_bin);(iterate 2 exact rfl);(apply bin_add;omega);exact rfl)|exact by_oa|exact by_ca);exact by_g)|refine wb ?_)
    refine q_loopT (x+1,m,rset e A (round (rget e A+rget e B))) ⟨hm,rset_ok he A (round_ok _),by rw[rset_failed];exact hf,hI⟩ (by dsimp only;omega) ?_
    exact by_less
   ·
    rw[if_neg (show ¬ (4:Int)=1 by decide),if_neg (show ¬ (4:Int)=2 by decide),if_neg (show ¬ (4:Int)=3 by decide),if_pos rfl]at hI
    have hs:=hst (round (rget e A - rget e B))
    have cr:=ok_pround (rget e A - rget e B) (by unfold inI;omega)
    repeat(first|refine wa ?_|((with_reducible apply s5);(first|((with_reducible apply a_lptr);(iterate 4 exact rfl);exact ld_reg e hA rfl)|((with_reducible apply a_lptr);(iterate 4 exact rfl);exact ld_reg e hB rfl)|((with_reducible apply a_store);(iterate 6 exact rfl);exact hfit;exact⟨rfl,trivial⟩)|((with_reducible apply a_nilp);(iterate 3 exact rfl))|((with_reducible apply a_bin);(iterate 2 exact rfl);(apply bin_sub;omega);exact rfl)|exact by_oa|exact by_ca);exact by_g)|refine wb ?_)
    refine q_loopT (x+1,m,rset e A (round (rget e A - rget e B))) ⟨hm,rset_ok he A (round_ok _),by rw[rset_failed];exact hf,hI⟩ (by dsimp only;omega) ?_
    exact by_less
   ·
    rw[if_neg (show ¬ (5:Int)=1 by decide),if_neg (show ¬ (5:Int)=2 by decide),if_neg (show ¬ (5:Int)=3 by decide),if_neg (show ¬ (5:Int)=4 by decide),if_pos rfl]at hI
    have hmul : -1152921504606846976≤rget e A*rget e B∧rget e A*rget e B≤1152921504606846976:=mul_bound hga hgb
    have hs:=hst (round (rget e A*rget e B))
    have cr:=ok_pround (rget e A*rget e B) (by unfold inI;omega)
    repeat(first|refine wa ?_|((with_reducible apply s5);(first|((with_reducible apply a_lptr);(iterate 4 exact rfl);exact ld_reg e hA rfl)|((with_reducible apply a_lptr);(iterate 4 exact rfl);exact ld_reg e hB rfl)|((with_reducible apply a_store);(iterate 6 exact rfl);exact hfit;exact⟨rfl,trivial⟩)|((with_reducible apply a_nilp);(iterate 3 exact rfl))|((with_reducible apply a_bin);(iterate 2 exact rfl);(apply bin_mul;omega);exact rfl)|exact by_oa|exact by_ca);exact by_g)|refine wb ?_)
    refine q_loopT (x+1,m,rset e A (round (rget e A*rget e B))) ⟨hm,rset_ok he A (round_ok _),by rw[rset_failed];exact hf,hI⟩ (by dsimp only;omega) ?_
    exact by_less
   ·
    rw[if_neg (show ¬ (6:Int)=1 by decide),if_neg (show ¬ (6:Int)=2 by decide),if_neg (show ¬ (6:Int)=3 by decide),if_neg (show ¬ (6:Int)=4 by decide),if_neg (show ¬ (6:Int)=5 by decide),if_pos rfl]at hI
    have hms:=mset_enc m key (true,rget e A)
    repeat(first|refine wa ?_|((with_reducible apply s5);(first|((with_reducible apply a_lptr);(iterate 4 exact rfl);exact ld_reg e hA rfl)|((with_reducible apply a_lptr);(iterate 4 exact rfl);exact ld_reg e hB rfl)|((with_reducible apply a_store);(iterate 6 exact rfl);exact hfit;exact⟨rfl,trivial⟩)|((with_reducible apply a_nilp);(iterate 3 exact rfl))|((with_reducible apply(a_mset (us:=chA (true,rget e A)) 4 hmt));(iterate 3 exact rfl);exact .agg (.d rfl);exact rfl)|exact by_oa|exact by_ca);exact by_g)|refine wb ?_)
    rw[hms]
    refine q_loopT (x+1,mS m key (true,rget e A),e) ⟨mOk_set hm key (rget_ok he A),he,hf,hI⟩ (by dsimp only;omega) ?_
    exact by_less
   ·
    rw[if_neg (show ¬ (7:Int)=1 by decide),if_neg (show ¬ (7:Int)=2 by decide),if_neg (show ¬ (7:Int)=3 by decide),if_neg (show ¬ (7:Int)=4 by decide),if_neg (show ¬ (7:Int)=5 by decide),if_neg (show ¬ (7:Int)=6 by decide),if_pos rfl]at hI
    have hms:=mset_enc m key (false,0)
    repeat(first|refine wa ?_|((with_reducible apply s5);(first|((with_reducible apply a_lptr);(iterate 4 exact rfl);exact ld_reg e hA rfl)|((with_reducible apply a_lptr);(iterate 4 exact rfl);exact ld_reg e hB rfl)|((with_reducible apply a_store);(iterate 6 exact rfl);exact hfit;exact⟨rfl,trivial⟩)|((with_reducible apply a_nilp);(iterate 3 exact rfl))|((with_reducible apply(a_mset (us:=chA (false,0)) 4 hmt));(iterate 3 exact rfl);exact .agg (.d rfl);exact rfl)|exact by_oa|exact by_ca);exact by_g)|refine wb ?_)
    rw[hms]
    refine q_loopT (x+1,mS m key (false,0),e) ⟨mOk_set hm key (by simp[nOk]),he,hf,hI⟩ (by dsimp only;omega) ?_
    exact by_less
   ·
    rw[if_neg (show ¬ (8:Int)=1 by decide),if_neg (show ¬ (8:Int)=2 by decide),if_neg (show ¬ (8:Int)=3 by decide),if_neg (show ¬ (8:Int)=4 by decide),if_neg (show ¬ (8:Int)=5 by decide),if_neg (show ¬ (8:Int)=6 by decide),if_neg (show ¬ (8:Int)=7 by decide),if_pos rfl]at hI
    obtain⟨N,rfl⟩:=Int.eq_ofNat_of_zero_le (hcs rfl).1
    have hN:=(hcs rfl).2
    by_cases h5:rget e A < 1
    ·
     rw[if_pos h5,runGo_skip,List.drop_drop]at hI
     repeat(first|refine wa ?_|((with_reducible apply s5);(first|((with_reducible apply a_lptr);(iterate 4 exact rfl);exact ld_reg e hA rfl)|((with_reducible apply a_lptr);(iterate 4 exact rfl);exact ld_reg e hB rfl)|((with_reducible apply a_store);(iterate 6 exact rfl);exact hfit;exact⟨rfl,trivial⟩)|((with_reducible apply a_nilp);(iterate 3 exact rfl))|exact by_oa|exact by_ca);exact by_g)|refine wb ?_)
     refine q_loopT (x+N+1,m,e) ⟨hm,he,hf,by dsimp only;rw[← hI];congr 2;omega⟩ (by dsimp only;omega) ?_
     exact by_less
    ·
     rw[if_neg h5]at hI
     repeat(first|refine wa ?_|((with_reducible apply s5);(first|((with_reducible apply a_lptr);(iterate 4 exact rfl);exact ld_reg e hA rfl)|((with_reducible apply a_lptr);(iterate 4 exact rfl);exact ld_reg e hB rfl)|((with_reducible apply a_store);(iterate 6 exact rfl);exact hfit;exact⟨rfl,trivial⟩)|((with_reducible apply a_nilp);(iterate 3 exact rfl))|exact by_oa|exact by_ca);exact by_g)|refine wb ?_)
     refine q_loopT (x+1,m,e) ⟨hm,he,hf,hI⟩ (by dsimp only;omega) ?_
     exact by_less
   ·
    rw[if_neg (show ¬ (9:Int)=1 by decide),if_neg (show ¬ (9:Int)=2 by decide),if_neg (show ¬ (9:Int)=3 by decide),if_neg (show ¬ (9:Int)=4 by decide),if_neg (show ¬ (9:Int)=5 by decide),if_neg (show ¬ (9:Int)=6 by decide),if_neg (show ¬ (9:Int)=7 by decide),if_neg (show ¬ (9:Int)=8 by decide)]at hI
    by_cases h5:rget e A < 0
    ·
     rw[if_pos h5]at hI
     repeat(first|refine wa ?_|((with_reducible apply s5);(first|((with_reducible apply a_lptr);(iterate 4 exact rfl);exact ld_reg e hA rfl)|((with_reducible apply a_lptr);(iterate 4 exact rfl);exact ld_reg e hB rfl)|((with_reducible apply a_store);(iterate 6 exact rfl);exact hfit;exact⟨rfl,trivial⟩)|((with_reducible apply a_nilp);(iterate 3 exact rfl))|exact by_oa|exact by_ca);exact by_g)|refine wb ?_)
     unfold runRes runC
     rw[← hI]
     exact .three (.cell rfl rfl rfl rfl (.aggd rfl (.refl _))) (.tmp rfl (.one (.d (.nil _)))) (.tmp rfl (.one (.d (.nil _))))
    ·
     rw[if_neg h5]at hI
     repeat(first|refine wa ?_|((with_reducible apply s5);(first|((with_reducible apply a_lptr);(iterate 4 exact rfl);exact ld_reg e hA rfl)|((with_reducible apply a_lptr);(iterate 4 exact rfl);exact ld_reg e hB rfl)|((with_reducible apply a_store);(iterate 6 exact rfl);exact hfit;exact⟨rfl,trivial⟩)|((with_reducible apply a_nilp);(iterate 3 exact rfl))|exact by_oa|exact by_ca);exact by_g)|refine wb ?_)
     refine q_loopT (x+1,m,e) ⟨hm,he,hf,hI⟩ (by dsimp only;omega) ?_
     exact by_less
  ·
   rw[List.drop_eq_nil_of_le (by omega)]at hI
   simp only[runGo]at hI
   have hchl:∀ j,j≤d.writes.length→(chg m (d.writes.drop j)).length≤d.writes.length - j:=fun j _=>by
    have:=chg_len m (d.writes.drop j);simpa using this
   have hst0:StopA 33:=⟨rfl⟩
   try refine wkS ?_
   clear hst0
   refine Stop.go (CW.stut (stut_promote (i:=13) 72 4) ⟨rfl,rfl,trivial⟩ ?_)
   refine CW.stut (stut_promote (i:=14) 9 1) ⟨rfl,rfl,trivial⟩ ?_
   try refine wk ?_
   refine CW.loopT (fun t:Nat×List (Str×(Bool×Int))=>[sp 4 2,ob 2 done0.enc,sd 5 (.v nilS),sd 6 (.v nilS),sp 7 3,ob 3 e.enc,(.s 8,.av (.pd [.v (.map (some b0))])),(.o 4,.ob (.mp (encM m) (.map (some b0)))),
    so 13 6 t.2.length,oa 6 72 4 ((t.2.map chVer).map Version.enc),so 14 7 t.2.length,oa 7 9 1 ((t.2.map (·.1)).map encStr1),sd 162 (encStrs d.writes),sd 163 (dint d.writes.length),sd 164 (dint t.1),nxt 8])
    (fun t=>t.1≤d.writes.length∧t.2.length≤t.1∧t.2++chg m (d.writes.drop t.1)=chg m d.writes) (fun t=>d.writes.length - t.1) (0,[]) ⟨by omega,by simp,rfl⟩ ?_ ?_
   ·
    exact by_less
   ·
    rintro ⟨j,acc⟩ ⟨hj,hacc,hJ⟩
    dsimp only at hj hacc hJ ⊢
    rcases drop_case hj with ⟨h1,h2⟩|⟨k,h1,h2,h3⟩
    ·
     rw[h1,chg,List.append_nil]at hJ
     try refine wk ?_
     have hrc:runC view d=acc:=by
      unfold runC
      rw[← hI]
      dsimp only
      rw[if_neg (by rw[hf];simp),hJ]
     unfold runRes
     rw[hrc,← hI]
     exact .three (.cell rfl rfl rfl rfl (.aggd rfl (.refl _))) (.tmp rfl (.one (.own rfl (by simp) (.refl _)))) (.tmp rfl (.one (.own rfl (by simp) (.refl _))))
    ·
     rw[h1,chg]at hJ
     have hg:=mget_enc m k
     cases hmk:mG m k with
     |none =>
      rw[hmk]at hJ hg
      dsimp only at hJ
      have hl:mlook (chA (false,0)) (encM m) k=chA (false,0):=by simp[mlook,hg]
      have ha:=fun {d:Nat} {ty:TypeId} {pos:String} {af:Array Edge} {gd:Option (Nat×Bool)} {σ:St} {x y:Operand} {x0:Value} (hx) (hy) (ho) (hd)=>a_mlook (σ:=σ) (d:=d) (ty:=ty) (pos:=pos) (af:=af) (gd:=gd) (x:=x) (y:=y) (x0:=x0) 4 hmt flat0 (encM_one m) (k:=k) hx hy ho hd
      rw[hl,hg]at ha
      repeat(first|refine wa ?_|((with_reducible apply s5);(first|((with_reducible apply ha);(iterate 4 exact rfl))|exact by_oa|exact by_ca);exact by_g)|refine wb ?_)
      refine q_loopT (j+1,acc) ⟨by dsimp only;omega,by dsimp only;omega,hJ⟩ (by dsimp only;omega) ?_
      exact by_less
     |some c =>
      rw[hmk]at hJ hg
      dsimp only at hJ
      have hl:mlook (chA (false,0)) (encM m) k=chA c:=by simp[mlook,hg]
      have ha:=fun {d:Nat} {ty:TypeId} {pos:String} {af:Array Edge} {gd:Option (Nat×Bool)} {σ:St} {x y:Operand} {x0:Value} (hx) (hy) (ho) (hd)=>a_mlook (σ:=σ) (d:=d) (ty:=ty) (pos:=pos) (af:=af) (gd:=gd) (x:=x) (y:=y) (x0:=x0) 4 hmt flat0 (encM_one m) (k:=k) hx hy ho hd
      rw[hl,hg]at ha
      repeat(first|refine wa ?_|((with_reducible apply s5);(first|((with_reducible apply ha);(iterate 4 exact rfl))|exact by_oa|exact by_ca);exact by_g)|refine wb ?_)
      refine q_loopT (j+1,acc++[(k,c)]) ⟨by dsimp only;omega,by dsimp only;simp;omega,by rw[← hJ];simp⟩ (by dsimp only;omega) ?_
      exact by_less
theorem ok_viewR (r:List Pair) (k:Str) (hl:r.length≤268435456) (hs:Srt Pair.key r):FnOk Tryd.prog 35 [.d (dstr k),.pd [encRows r]] (.tup [dint (RF.get r k).1,dbool (RF.get r k).2]):=by
 refine fnOk_of tbl_ok mixed_ok Tryd.func35 rfl (by kernel_rfl) rfl rfl fun w0 own0=>?_
 have c1:=ok_pget r k hl hs
 try refine wk ?_
 exact .two (.tmp rfl (.one (.d (.refl _)))) (.tmp rfl (.one (.d (.refl _))))
theorem wrong_reads {d:Deed}(h:wrongDeed d=0):∀ i∈d.code,i.kind=1→i.key∈d.reads:=by
 intro i hi hk
 unfold wrongDeed at h
 by_cases h0:lsGo [d.reads,d.writes]=0
 ·
  rw[if_pos h0]at h
  by_cases hc:12 < d.code.length
  ·
   rw[if_pos hc]at h;simp at h
  ·
   rw[if_neg hc]at h
   obtain⟨j,hj⟩:=List.getElem?_of_mem hi
   have h:=codeGo_mem h j i hj
   unfold wrongIns at h
   rw[if_neg (show ¬ (i.kind < 1∨9 < i.kind) by omega)]at h
   have hh:has i.kind.toNat 107=true:=by rw[hk];decide
   split at h
   ·
    simp at h
   ·
    simp only[hh,hk,Bool.true_eq_false,if_false,if_true]at h
    rw[if_neg (show ¬ has (Int.toNat 1) 107=false by decide)]at h
    by_cases hi:isIn d.reads i.key=true
    ·
     exact isIn_true hi
    ·
     rw[if_neg hi]at h;simp at h
 ·
  rw[if_neg h0]at h;exact absurd h h0
theorem ok_pdo (r:List Pair) (d:Deed) (hl:r.length≤134217728) (hs:Srt Pair.key r) (hr:rowsOk r) (hw:wrongDeed d=0) :
  FnOk Tryd.prog 23 [.d (encRows r),.d (.agg d.enc)] (.tup [encRows (doD r d).1,.agg (doD r d).2.enc]):=by
 refine fnOk_of tbl_ok mixed_ok Tryd.func23 rfl (by kernel_rfl) rfl rfl fun w0 own0=>?_
 have ho:=wrongDeed_ok hw
 have cr:=ok_run 35 [refD [encRows r]] [.pd [encRows r]] (RF.get r) d (.ref .nil) (fun k _=>ok_viewR r k (by omega) hs) (fun k _=>get_ok hr k) (by have:=ho.c;omega) (by have:=ho.w;omega) ho.i (wrong_reads hw)
 have hplain:=plain_do hs (wrong_keyed hw)
 rw[← hplain]
 have hcl:(runC (RF.get r) d).length≤5:=by
  unfold runC
  split
  ·
   simp
  ·
   exact Nat.le_trans (chg_len _ _) ho.w
 unfold plainD
 generalize hch:runC (RF.get r) d=ch at hcl
 unfold runRes at cr
 rw[hch]at cr
 generalize (runM (RF.get r) d).2=e at cr
 have hst0:StopR 1:=⟨rfl⟩
 try refine wkS ?_
 clear hst0
 refine Stop.go (CW.stut (stut_freezebox (i:=2) (id:=0) (ds:=[encRows r]) rfl) ⟨rfl,rfl,trivial⟩ ?_)
 have hst0:StopR 2:=⟨rfl⟩
 repeat(first|refine waS ?_|((with_reducible apply s5);(first|((with_reducible apply(a_mkfn (ds:=[refD [encRows r]])));exact rfl;apply SubsE.cons;exact rfl;exact .d (.refl _);exact trivial;exact SubsE.nil)|exact by_oa|exact by_ca);exact by_g)|refine wb ?_)
 clear hst0
 refine Stop.go (CW.stut (stut_refpd (i:=2)) ⟨rfl,trivial⟩ ?_)
 have hst0:StopA 3:=⟨rfl⟩
 repeat(first|refine waS ?_|((with_reducible apply s5);(first|((with_reducible apply a_appnil);(iterate 7 exact rfl);(focus first|omega|(simp;done)|(simp;omega)))|exact by_oa|exact by_ca);exact by_g)|refine wb ?_)
 clear hst0
 refine Stop.go (CW.stut (stut_freeze (i:=9) (id:=4) (by simp[encRows])) ⟨rfl,rfl,trivial⟩ ?_)
 try refine wk ?_
 refine CW.loopT (fun t:Nat×List Pair=>[sd 4 (.v nilS),sp 5 2,ob 2 done0.enc,sp 6 3,ob 3 e.enc,sd 7 (encVs (ch.map chVer)),sd 8 (encStrs (ch.map (·.1))),sd 9 (encRows t.2),sd 21 (encVs (ch.map chVer)),sd 22 (dint (ch.map chVer).length),sd 23 (dint t.1),nxt 4])
  (fun t=>t.1≤ch.length∧t.2.length≤r.length+t.1∧Srt Pair.key t.2∧appC t.2 (ch.drop t.1)=appC r ch) (fun t=>ch.length - t.1) (0,r) ⟨by omega,by simp,hs,rfl⟩ ?_ ?_
 ·
  exact by_less
 ·
  rintro ⟨j,out⟩ ⟨hj,hol,hos,hJ⟩
  dsimp only at hj hol hos hJ ⊢
  rcases drop_case hj with ⟨h1,h2⟩|⟨c,h1,h2,h3⟩
  ·
   rw[h1,appC]at hJ
   try refine wk ?_
   rw[← hJ]
   exact .two (.tmp rfl (.one (.d (.refl _)))) (.cell rfl rfl rfl rfl (.aggd rfl (.refl _)))
  ·
   rw[h1,appC]at hJ
   obtain⟨k,b,n⟩:=c
   have h4:(ch.map chVer)[j]? = some (chVer (k,b,n)):=by rw[List.getElem?_map,h2];rfl
   have h5:(ch.map (·.1))[j]? = some k:=by rw[List.getElem?_map,h2];rfl
   have hal:=app1_len out k (b,n)
   cases b with
   |true =>
    have c1:=ok_pput out k n (by omega) hos
    try refine wk ?_
    refine q_loopT (j+1,putS k n out) ⟨by dsimp only;omega,by dsimp only;unfold app1 at hal;rw[if_pos rfl]at hal;dsimp only at hal;omega,putS_srt hos,hJ⟩ (by dsimp only;omega) ?_
    exact by_less
   |false =>
    have c1:=ok_pdrop out k (by omega) hos
    repeat(first|refine wa ?_|((with_reducible apply s5);(first|exact a_call c1 rfl by_sub|exact by_oa|exact by_ca);exact by_g)|refine wb ?_)
    refine q_loopT (j+1,dropS k out) ⟨by dsimp only;omega,by dsimp only;have:=dropS_len (k:=k) out;omega,dropS_srt hos,hJ⟩ (by dsimp only;omega) ?_
    exact by_less
theorem ok_pall (r:List Pair) (l:List Deed) (hl:r.length≤1048576) (hll:l.length≤1048576) (hs:Srt Pair.key r) (hr:rowsOk r) (hw:∀ d∈l,wrongDeed d=0) :
  FnOk Tryd.prog 25 [.d (encRows r),.d (encDeeds l)] (.tup [encRows (allD r l).1,encEnds (allD r l).2]):=by
 refine fnOk_of tbl_ok mixed_ok Tryd.func25 rfl (by kernel_rfl) rfl rfl fun w0 own0=>?_
 have hst0:StopA 3:=⟨rfl⟩
 repeat(first|refine waS ?_|((with_reducible apply s5);(first|((with_reducible apply a_appnil);(iterate 7 exact rfl);(focus first|omega|(simp;done)|(simp;omega)))|exact by_oa|exact by_ca);exact by_g)|refine wb ?_)
 clear hst0
 refine Stop.go (CW.stut (stut_freeze (i:=6) (id:=0) (by simp)) ⟨rfl,rfl,trivial⟩ ?_)
 refine CW.stut (stut_promote (i:=7) 45 5) ⟨rfl,rfl,trivial⟩ ?_
 try refine wk ?_
 refine CW.loopT (fun t:Nat×List Pair×List Done=>[sd 4 (.v nilS),sd 5 (.v nilS),sd 6 (encRows t.2.1),so 7 1 t.2.2.length,oa 1 45 5 (t.2.2.map Done.enc),sd 14 (encDeeds l),sd 15 (dint l.length),sd 16 (dint t.1),nxt 2])
  (fun t=>t.1≤l.length∧t.2.2.length≤t.1∧t.2.1.length≤r.length+12*t.1∧Srt Pair.key t.2.1∧rowsOk t.2.1∧(allD t.2.1 (l.drop t.1)).1=(allD r l).1∧t.2.2++(allD t.2.1 (l.drop t.1)).2=(allD r l).2) (fun t=>l.length - t.1) (0,r,[]) ⟨by omega,by simp,by simp,hs,hr,rfl,rfl⟩ ?_ ?_
 ·
  exact by_less
 ·
  rintro ⟨j,out,es⟩ ⟨hj,hes,hol,hos,hor,hJ1,hJ2⟩
  dsimp only at hj hes hol hos hor hJ1 hJ2 ⊢
  rcases drop_case hj with ⟨h1,h2⟩|⟨c,h1,h2,h3⟩
  ·
   rw[h1]at hJ1 hJ2
   simp only[allD,List.append_nil]at hJ1 hJ2
   try refine wk ?_
   rw[← hJ1,← hJ2]
   exact .two (.tmp rfl (.one (.d (.refl _)))) (.tmp rfl (.one (.own rfl (by simp) (.refl _))))
  ·
   rw[h1]at hJ1 hJ2
   simp only[allD]at hJ1 hJ2
   have hwc:=hw c (List.mem_of_getElem? h2)
   have c1:=ok_pdo out c (by omega) hos hor hwc
   have hlen:=doD_len out c
   have hwl:=(wrongDeed_ok hwc).c
   have hd1:=doD_srt hos (wrong_keyed hwc)
   have hd2:=doD_ok hor (wrongDeed_ok hwc)
   generalize doD out c=q at c1 hlen hd1 hd2 hJ1 hJ2
   obtain⟨q1,q2⟩:=q
   dsimp only at c1 hlen hd1 hd2 hJ1 hJ2
   try refine wk ?_
   refine q_loopT (j+1,q1,es++[q2]) ⟨by dsimp only;omega,by dsimp only;simp;omega,by dsimp only;omega,hd1,hd2,hJ1,by rw[← hJ2];simp⟩ (by dsimp only;omega) ?_
   exact by_less
end Go.Proofs.YtfpkamiobdkcpaaDoor
namespace Go.Proofs.YtfpkamiobdkcpaaDoor
open Go.AX Go.RF
theorem writes_key {d:Deed}(h:wrongDeed d=0):∀ k∈d.writes,key k=true:=by
 unfold wrongDeed at h
 by_cases h0:lsGo [d.reads,d.writes]=0
 ·
  simp only[lsGo]at h0
  by_cases h1:keysWrong d.reads=0
  ·
   rw[if_pos h1]at h0
   by_cases h2:keysWrong d.writes=0
   ·
    exact(keysWrong_nodup h2).2.1
   ·
    rw[if_neg h2]at h0;exact absurd h0 h2
  ·
   rw[if_neg h1]at h0;exact absurd h0 h1
 ·
  rw[if_neg h0]at h;exact absurd h h0
theorem do_get {r:List Pair}{d:Deed}(hs:Srt Pair.key r) (hw:wrongDeed d=0) (k:Str) :
  RF.get (doD r d).1 k=if (runM (RF.get r) d).2.failed=true then RF.get r k else if k∈d.writes then chAt r (runM (RF.get r) d).1 k else RF.get r k:=by
 rw[← plain_do hs (wrong_keyed hw)]
 unfold plainD runC
 dsimp only
 by_cases hf:(runM (RF.get r) d).2.failed=true
 ·
  rw[if_pos hf,if_pos hf];rfl
 ·
  rw[if_neg hf,if_neg hf,appC_get hs]
theorem do_end {r:List Pair}{d:Deed}(hs:Srt Pair.key r) (hw:wrongDeed d=0):(doD r d).2=(runM (RF.get r) d).2:=by
 rw[← plain_do hs (wrong_keyed hw)];rfl
theorem do_same {r:List Pair}{d:Deed}(hs:Srt Pair.key r) (hw:wrongDeed d=0) {k:Str}(hk:k∉d.writes):RF.get (doD r d).1 k=RF.get r k:=by
 rw[do_get hs hw,if_neg hk,ite_self]
theorem do_failed {r:List Pair}{d:Deed}(hs:Srt Pair.key r) (hw:wrongDeed d=0) (hf:(doD r d).2.failed=true):(doD r d).1=r:=by
 refine get_ext (doD_srt hs (wrong_keyed hw)) hs fun k=>?_
 rw[do_get hs hw,if_pos (by rw[← do_end hs hw];exact hf)]
theorem do_wrong {r:List Pair}{d:Deed}(hr:wrongRows r=0) (hw:wrongDeed d=0):wrongRows (doD r d).1=0:=by
 obtain⟨hs,hk,hn⟩:=wrongRows_srt hr
 have hs':=doD_srt hs (wrong_keyed hw)
 refine wrongRows_of hs' (fun p hp=>?_) (doD_ok hn (wrongDeed_ok hw))
 by_cases hpw:p.key∈d.writes
 ·
  exact writes_key hw _ hpw
 ·
  have h1:=get_of_mem hs' hp
  rw[do_same hs hw hpw]at h1
  exact hk _ (get_mem_some h1)
theorem do_apart {r:List Pair}{d e:Deed}(hs:Srt Pair.key r) (hd:wrongDeed d=0) (he:wrongDeed e=0) (hre:∀ k∈e.reads,k∉d.writes):runM (RF.get (doD r d).1) e=runM (RF.get r) e :=
 runGo_congr fun i hi hk=>by rw[do_same hs hd (hre _ (wrong_reads he i hi hk))]
theorem do_two {r:List Pair}{d e:Deed}(hs:Srt Pair.key r) (hd:wrongDeed d=0) (he:wrongDeed e=0) (hww:∀ k∈d.writes,k∉e.writes) (hre:∀ k∈e.reads,k∉d.writes) (k:Str) :
  RF.get (doD (doD r d).1 e).1 k=if k∈e.writes∧(runM (RF.get r) e).2.failed=false then chAt r (runM (RF.get r) e).1 k else if k∈d.writes∧(runM (RF.get r) d).2.failed=false then chAt r (runM (RF.get r) d).1 k else RF.get r k:=by
 rw[do_get (doD_srt hs (wrong_keyed hd)) he,do_apart hs hd he hre]
 have hdk:RF.get (doD r d).1 k=if k∈d.writes∧(runM (RF.get r) d).2.failed=false then chAt r (runM (RF.get r) d).1 k else RF.get r k:=by
  rw[do_get hs hd]
  cases hf:(runM (RF.get r) d).2.failed <;> by_cases hk:k∈d.writes <;> simp[hk]
 by_cases hke:k∈e.writes
 ·
  have hkd:k∉d.writes:=fun h=>hww k h hke
  cases hf:(runM (RF.get r) e).2.failed with
  |true=>rw[if_pos rfl,if_neg (by simp),hdk]
  |false =>
   rw[if_neg (by simp),if_pos hke,if_pos ⟨hke,rfl⟩]
   unfold chAt
   rw[do_same hs hd hkd]
 ·
  rw[if_neg hke,ite_self,if_neg (show ¬ (k∈e.writes∧(runM (RF.get r) e).2.failed=false) from fun h=>hke h.1),hdk]
theorem do_swap {r:List Pair}{d e:Deed}(hs:Srt Pair.key r) (hd:wrongDeed d=0) (he:wrongDeed e=0) (hww:∀ k∈d.writes,k∉e.writes) (hre:∀ k∈e.reads,k∉d.writes) (hrd:∀ k∈d.reads,k∉e.writes) :
  (doD (doD r d).1 e).1=(doD (doD r e).1 d).1∧(doD (doD r d).1 e).2=(doD r e).2∧(doD (doD r e).1 d).2=(doD r d).2:=by
 have hs1:=doD_srt hs (wrong_keyed hd)
 have hs2:=doD_srt hs (wrong_keyed he)
 refine⟨get_ext (doD_srt hs1 (wrong_keyed he)) (doD_srt hs2 (wrong_keyed hd)) fun k=>?_,?_,?_⟩
 ·
  rw[do_two hs hd he hww hre,do_two hs he hd (fun k h1 h2=>hww k h2 h1) hrd]
  by_cases h1:k∈e.writes∧(runM (RF.get r) e).2.failed=false
  ·
   have h2:¬ (k∈d.writes∧(runM (RF.get r) d).2.failed=false):=fun h=>hww k h.1 h1.1
   rw[if_pos h1,if_neg h2,if_pos h1]
  ·
   rw[if_neg h1,if_neg h1]
 ·
  rw[do_end hs1 he,do_apart hs hd he hre,do_end hs he]
 ·
  rw[do_end hs2 hd,do_apart hs he hd hrd,do_end hs hd]
set_option maxRecDepth 100000
set_option maxHeartbeats 4000000
theorem ok_wrongRows (l:List Pair) (hl:l.length≤268435456) (hk:∀ p∈l,p.key.length≤1073741824):FnOk Tryd.prog 11 [.d (encRows l)] (.one (dint (wrongRows l))):=by
 refine fnOk_of tbl_ok mixed_ok Tryd.func11 rfl (by kernel_rfl) rfl rfl fun w0 own0=>?_
 try refine wk ?_
 refine CW.loopT (fun t:Nat×Str=>[(.s 3,.av (.d (dstr t.2))),(.s 6,.av (.d (encRows l))),(.s 7,.av (.d (dint l.length))),(.s 8,.av (.d (dint t.1))),(.nx,.num 0)])
  (fun t=>t.1≤l.length∧wrongRowsGo t.1 t.2 (l.drop t.1)=wrongRows l) (fun t=>l.length - t.1) (0,[]) ⟨by omega,rfl⟩ ?_ ?_
 ·
  exact by_less
 ·
  rintro ⟨i,last⟩ ⟨hi,hI⟩
  dsimp only at hi hI ⊢
  rcases drop_case hi with ⟨h1,h2⟩|⟨p,h1,h2,h3⟩
  ·
   rw[h1]at hI
   simp only[wrongRowsGo]at hI
   try refine wk ?_
   exact .one (.tmp rfl (.one (.d (dle_int hI))))
  ·
   rw[h1]at hI
   simp only[wrongRowsGo]at hI
   have hc:=ok_key p.key (hk p (List.mem_of_getElem? h2))
   cases h4:key p.key
   ·
    rw[if_pos h4]at hI
    try refine wk ?_
    exact .one (.tmp rfl (.one (.d (dle_int hI))))
   ·
    rw[if_neg (by simp[h4])]at hI
    by_cases h5:0 < i
    ·
     cases h6:sle p.key last
     ·
      rw[if_neg (by simp[h6])]at hI
      have h6':(Go.Op.bytesLess p.key last || decide (p.key=last))=false:=h6
      by_cases h7:1073741824 < p.n
      ·
       rw[if_pos (.inl h7)]at hI
       try refine wk ?_
       exact .one (.tmp rfl (.one (.d (dle_int hI))))
      ·
       by_cases h8:p.n < -1073741824
       ·
        rw[if_pos (.inr h8)]at hI
        try refine wk ?_
        exact .one (.tmp rfl (.one (.d (dle_int hI))))
       ·
        rw[if_neg (by omega)]at hI
        try refine wk ?_
        refine q_loopT (i+1,_) ⟨by omega,hI⟩ (by dsimp only;omega) ?_
        exact by_less
     ·
      rw[if_pos ⟨h5,h6⟩]at hI
      have h6':(Go.Op.bytesLess p.key last || decide (p.key=last))=true:=h6
      try refine wk ?_
      exact .one (.tmp rfl (.one (.d (dle_int hI))))
    ·
     rw[if_neg (by simp;omega)]at hI
     by_cases h7:1073741824 < p.n
     ·
      rw[if_pos (.inl h7)]at hI
      try refine wk ?_
      exact .one (.tmp rfl (.one (.d (dle_int hI))))
     ·
      by_cases h8:p.n < -1073741824
      ·
       rw[if_pos (.inr h8)]at hI
       try refine wk ?_
       exact .one (.tmp rfl (.one (.d (dle_int hI))))
      ·
       rw[if_neg (by omega)]at hI
       try refine wk ?_
       refine q_loopT (i+1,_) ⟨by omega,hI⟩ (by dsimp only;omega) ?_
       exact by_less
set_option maxHeartbeats 8000000
def egS:Str:=[114,101,97,100,115,32,97,59,32,119,114,105,116,101,115,32,97,59,32,108,111,97,100,32,114,48,32,97,59,32,99,111,110,115,116,32,114,49,32,49,59,32,97,100,100,32,114,48,32,114,49,59,32,115,116,111,114,101,32,114,48,32,97]
def eg:Deed:=⟨[[97]],[[97]],[⟨1,0,0,0,[97]⟩,⟨2,1,0,1,[]⟩,⟨3,0,1,0,[]⟩,⟨6,0,0,0,[97]⟩]⟩
theorem eg_parse:parseD egS=some eg:=by decide +kernel
theorem eg_small:smallS egS=true:=by decide +kernel
theorem eg_right:wrongDeed eg=0:=by decide +kernel
theorem eg_do:doD [] eg=([⟨[97],1⟩],⟨false,1,1,0,0⟩):=by decide +kernel
theorem eg_all:allD [⟨[97],1⟩] [eg,eg]=([⟨[97],3⟩],[⟨false,2,1,0,0⟩,⟨false,3,1,0,0⟩]):=by decide +kernel
theorem ok_read4 (s:Str) (d:Deed) (h:parseD s=some d) (hm:smallS s=true):FnOk Tryd.prog 31 [.d (dstr s)] (.one (.agg d.enc)):=by
 refine fnOk_of tbl_ok mixed_ok Tryd.func31 rfl (by kernel_rfl) rfl rfl fun w0 own0=>?_
 have c1:=ok_parseS s d h hm
 try refine wk ?_
 exact .one (.cell rfl rfl rfl rfl (.aggd rfl (.refl _)))
theorem ok_alive4:FnOk Tryd.prog 21 [] (.one (dbool true)):=by
 refine fnOk_of tbl_ok mixed_ok Tryd.func21 rfl (by kernel_rfl) rfl rfl fun w0 own0=>?_
 have c1:=ok_read4 egS eg eg_parse eg_small
 have c2:=ok_pdo [] eg (by simp) (by simp[Srt]) (by simp[rowsOk]) eg_right
 rw[eg_do]at c2
 have c3:=ok_pall [⟨[97],1⟩] [eg,eg] (by simp) (by simp) (by simp[Srt]) (by simp[rowsOk,nOk]) (by simp[eg_right])
 rw[eg_all]at c3
 have h0:([⟨[97],1⟩]:List Pair)[0]? = some ⟨[97],1⟩:=rfl
 have h1:([⟨[97],3⟩]:List Pair)[0]? = some ⟨[97],3⟩:=rfl
 repeat(first|((with_reducible apply s5);((with_reducible apply a_bs ([eg,eg].map Deed.enc));(iterate 9 exact rfl);(repeat(first|exact PartsE.nil|(apply PartsE.cons;exact rfl;exact rfl))));exact by_g)|refine wa1 ?_|((with_reducible apply s5);(first|exact by_oa|exact by_ca);exact by_g)|refine wb ?_)
 exact .one (.tmp rfl (.one (.d (dle_bool (by simp)))))
theorem isIn_mem1:∀ {l:List Str}{s:Str},s∈l→isIn l s=true
 |x::l,s,h=>by
  simp only[isIn]
  by_cases h1:x=s
  ·
   rw[if_pos h1]
  ·
   rw[if_neg h1]
   rcases List.mem_cons.1 h with rfl|h
   ·
    exact absurd rfl h1
   ·
    exact isIn_mem1 h
theorem key_six {s:Str}(h:key s=true):s.length≤6:=by
 rw[key_trim]at h
 simp only[Bool.and_eq_true,decide_eq_true_eq]at h
 exact h.2.1
def meetB:List Str→List Str→Bool
 | [],_=>false
 |x::a,b=>if isIn b x=true then true else meetB a b
theorem meetB_false:∀ {a b:List Str},meetB a b=false→∀ k∈a,k∉b
 |x::a,b,h,k,hk=>by
  simp only[meetB]at h
  by_cases h1:isIn b x=true
  ·
   rw[if_pos h1]at h;cases h
  ·
   rw[if_neg h1]at h
   rcases List.mem_cons.1 hk with rfl|hk
   ·
    exact fun hb=>h1 (isIn_mem1 hb)
   ·
    exact meetB_false h k hk
theorem ok_meet (a b:List Str) (ha:a.length≤1073741824) (hb:b.length≤1073741824):FnOk Tryd.prog 24 [.d (encStrs a),.d (encStrs b)] (.one (dbool (meetB a b))):=by
 refine fnOk_of tbl_ok mixed_ok Tryd.func24 rfl (by kernel_rfl) rfl rfl fun w0 own0=>?_
 try refine wk ?_
 refine CW.loopT (fun t:Nat=>[sd 0 (encStrs a),sd 1 (encStrs b),sd 9 (encStrs a),sd 10 (dint a.length),sd 11 (dint t),nxt 0])
  (fun t=>t≤a.length∧meetB (a.drop t) b=meetB a b) (fun t=>a.length - t) 0 ⟨by omega,rfl⟩ ?_ ?_
 ·
  exact by_less
 ·
  rintro i ⟨hi,hI⟩
  rcases drop_case hi with ⟨h1,h2⟩|⟨x,h1,h2,h3⟩
  ·
   rw[h1,meetB]at hI
   try refine wk ?_
   exact .one (.tmp rfl (.one (.d (dle_bool hI))))
  ·
   rw[h1,meetB]at hI
   try refine wk ?_
   refine CW.loopT (fun t:Nat=>[sd 0 (encStrs a),sd 1 (encStrs b),sd 9 (encStrs a),sd 10 (dint a.length),sd 11 (dint i),sd 6 (dstr x),sd 15 (encStrs b),sd 16 (dint b.length),sd 17 (dint t),nxt 0])
    (fun t=>t≤b.length∧isIn (b.drop t) x=isIn b x) (fun t=>b.length - t) 0 ⟨by omega,rfl⟩ ?_ ?_
   ·
    exact by_less
   ·
    rintro j ⟨hj,hJ⟩
    rcases drop_case hj with ⟨g1,g2⟩|⟨y,g1,g2,g3⟩
    ·
     rw[g1,isIn]at hJ
     rw[if_neg (by rw[← hJ];simp)]at hI
     try refine wk ?_
     refine q_loopT (i+1) ⟨by omega,hI⟩ (by omega) ?_
     exact by_less
    ·
     rw[g1,isIn]at hJ
     by_cases hxy:y=x
     ·
      rw[if_pos hxy]at hJ
      rw[if_pos hJ.symm]at hI
      have hyx:x=y:=hxy.symm
      try refine wk ?_
      exact .one (.tmp rfl (.one (.d (dle_bool hI))))
     ·
      rw[if_neg hxy]at hJ
      have hyx:¬ x=y:=fun e=>hxy e.symm
      try refine wk ?_
      refine q_loopT (j+1) ⟨by omega,hJ⟩ (by omega) ?_
      exact by_less
theorem eql_doneP (a b:Done):BinR Tryd.prog .eql 45 (.agg (Done.vals a).toArray) (.agg (Done.vals b).toArray) (.bool (decide (a=b))):=by
 intro w x y
 rw[Sem.run_bind,run_eqGuard_agg _ _ _ _ _ _ _ (by kernel_rfl),Result.andThen_ok,run_eql_struct,eq_done]
 rfl
theorem ok_PlainFails (r:List Pair) (d:Deed) (k:Str) (hl:r.length≤1048576) (hlk:∀ q∈r,q.key.length≤1048576) (hd:d.Sm) :
  FnOk Tryd.prog 6 [.d (encRows r),.d (.agg d.enc),.d (dstr k)] (.one (dbool true)):=by
 refine fnOk_of tbl_ok mixed_ok Tryd.func6 rfl (by kernel_rfl) rfl rfl fun w0 own0=>?_
 have c0:=ok_alive4
 have c1:=ok_wrongRows r (by omega) (fun q hq=>by have:=hlk q hq;omega)
 have c2:=ok_wrongDeed d hd.r hd.w hd.c hd.rk hd.wk
 by_cases hw:wrongRows r=0
 ·
  by_cases hw2:wrongDeed d=0
  ·
   obtain⟨hs,hkr,hro⟩:=wrongRows_srt hw
   have hok:=wrongDeed_ok hw2
   have hdc:=hok.c
   have hdw:=hok.w
   have c3:=ok_pdo r d (by omega) hs hro hw2
   have hlen:=doD_len r d
   have hfail:=do_failed hs hw2
   have hwr:=do_wrong hw hw2
   have hsame:=fun(h:k∉d.writes)=>do_same hs hw2 h
   have c6:=ok_get r k (by omega)
   generalize doD r d=q at c3 hlen hfail hwr hsame
   obtain⟨x,e⟩:=q
   dsimp only at c3 hlen hfail hwr hsame
   obtain⟨hxs,hxk,hxo⟩:=wrongRows_srt hwr
   have c4:=ok_wrongRows x (by omega) (fun q hq=>by have:=key_six (hxk q hq);omega)
   rw[hwr]at c4
   cases hf:e.failed with
   |true =>
    obtain rfl:=hfail hf
    have c5:=ok_SameRows x x (by omega)
    rw[allB_refl (by simp)]at c5
    repeat(first|refine wa ?_|((with_reducible apply s5);(first|(focus ((with_reducible apply(a_call c1));exact rfl;(repeat(first|exact SubsE.nil|(apply SubsE.cons;exact rfl;(first|exact .d (.refl _)|exact .d (.nil _)|exact .agg rfl (.refl _)|exact .pd|exact .ptr rfl);(first|exact trivial|exact⟨rfl,trivial⟩))));done))|exact by_oa|exact by_ca);exact by_g)|refine wb ?_)
    exact .one (.tmp rfl (.one (.d (.refl _))))
   |false =>
    repeat(first|refine wa ?_|((with_reducible apply s5);(first|(focus ((with_reducible apply(a_call c1));exact rfl;(repeat(first|exact SubsE.nil|(apply SubsE.cons;exact rfl;(first|exact .d (.refl _)|exact .d (.nil _)|exact .agg rfl (.refl _)|exact .pd|exact .ptr rfl);(first|exact trivial|exact⟨rfl,trivial⟩))));done))|exact by_oa|exact by_ca);exact by_g)|refine wb ?_)
    refine CW.loopT (fun t:Nat=>[sd 0 (encRows r),sd 2 (dstr k),sd 7 (encRows x),sd 37 (encStrs d.writes),sd 38 (dint d.writes.length),sd 39 (dint t),nxt 2])
     (fun t=>t≤d.writes.length∧isIn (d.writes.drop t) k=isIn d.writes k) (fun t=>d.writes.length - t) 0 ⟨by omega,rfl⟩ ?_ ?_
    ·
     exact by_less
    ·
     rintro j ⟨hj,hJ⟩
     rcases drop_case hj with ⟨g1,g2⟩|⟨y,g1,g2,g3⟩
     ·
      rw[g1,isIn]at hJ
      have hkw:k∉d.writes:=fun h=>by rw[isIn_mem1 h]at hJ;cases hJ
      have c7:=ok_get x k (by omega)
      rw[hsame hkw]at c7
      generalize RF.get r k=z at c6 c7
      obtain⟨z1,z2⟩:=z
      dsimp only at c6 c7
      repeat(first|refine wa ?_|((with_reducible apply s5);(first|(focus ((with_reducible apply(a_call c4));exact rfl;(repeat(first|exact SubsE.nil|(apply SubsE.cons;exact rfl;(first|exact .d (.refl _)|exact .d (.nil _)|exact .agg rfl (.refl _)|exact .pd|exact .ptr rfl);(first|exact trivial|exact⟨rfl,trivial⟩))));done))|(focus ((with_reducible apply(a_call c6));exact rfl;(repeat(first|exact SubsE.nil|(apply SubsE.cons;exact rfl;(first|exact .d (.refl _)|exact .d (.nil _)|exact .agg rfl (.refl _)|exact .pd|exact .ptr rfl);(first|exact trivial|exact⟨rfl,trivial⟩))));done))|(focus ((with_reducible apply(a_call c7));exact rfl;(repeat(first|exact SubsE.nil|(apply SubsE.cons;exact rfl;(first|exact .d (.refl _)|exact .d (.nil _)|exact .agg rfl (.refl _)|exact .pd|exact .ptr rfl);(first|exact trivial|exact⟨rfl,trivial⟩))));done))|((with_reducible apply a_bin);(iterate 2 exact rfl);(first|exact bin_bneq (by kernel_rfl)|exact bin_beql (by kernel_rfl));exact rfl)|exact by_oa|exact by_ca);exact by_g)|refine wb ?_)
      exact .one (.tmp rfl (.one (.d (dle_bool (by simp)))))
     ·
      rw[g1,isIn]at hJ
      by_cases hxy:y=k
      ·
       repeat(first|refine wa ?_|((with_reducible apply s5);(first|(focus ((with_reducible apply(a_call c4));exact rfl;(repeat(first|exact SubsE.nil|(apply SubsE.cons;exact rfl;(first|exact .d (.refl _)|exact .d (.nil _)|exact .agg rfl (.refl _)|exact .pd|exact .ptr rfl);(first|exact trivial|exact⟨rfl,trivial⟩))));done))|exact by_oa|exact by_ca);exact by_g)|refine wb ?_)
       exact .one (.tmp rfl (.one (.d (dle_bool (by simp)))))
      ·
       rw[if_neg hxy]at hJ
       try refine wk ?_
       refine q_loopT (j+1) ⟨by omega,hJ⟩ (by omega) ?_
       exact by_less
  ·
   repeat(first|refine wa ?_|((with_reducible apply s5);(first|(focus ((with_reducible apply(a_call c1));exact rfl;(repeat(first|exact SubsE.nil|(apply SubsE.cons;exact rfl;(first|exact .d (.refl _)|exact .d (.nil _)|exact .agg rfl (.refl _)|exact .pd|exact .ptr rfl);(first|exact trivial|exact⟨rfl,trivial⟩))));done))|exact by_oa|exact by_ca);exact by_g)|refine wb ?_)
   exact .one (.tmp rfl (.one (.d (.refl _))))
 ·
  repeat(first|refine wa ?_|((with_reducible apply s5);(first|(focus ((with_reducible apply(a_call c1));exact rfl;(repeat(first|exact SubsE.nil|(apply SubsE.cons;exact rfl;(first|exact .d (.refl _)|exact .d (.nil _)|exact .agg rfl (.refl _)|exact .pd|exact .ptr rfl);(first|exact trivial|exact⟨rfl,trivial⟩))));done))|exact by_oa|exact by_ca);exact by_g)|refine wb ?_)
  exact .one (.tmp rfl (.one (.d (.refl _))))
theorem ok_PlainApart (r:List Pair) (d e:Deed) (hl:r.length≤1048576) (hlk:∀ q∈r,q.key.length≤1048576) (hd:d.Sm) (he:e.Sm) :
  FnOk Tryd.prog 7 [.d (encRows r),.d (.agg d.enc),.d (.agg e.enc)] (.one (dbool true)):=by
 refine fnOk_of tbl_ok mixed_ok Tryd.func7 rfl (by kernel_rfl) rfl rfl fun w0 own0=>?_
 have c0:=ok_alive4
 have c1:=ok_wrongRows r (by omega) (fun q hq=>by have:=hlk q hq;omega)
 have c2:=ok_wrongDeed d hd.r hd.w hd.c hd.rk hd.wk
 have c3:=ok_wrongDeed e he.r he.w he.c he.rk he.wk
 have hdr:=hd.r;have hdw:=hd.w;have her:=he.r;have hew:=he.w
 have m1:=ok_meet d.writes e.writes (by omega) (by omega)
 have m2:=ok_meet d.writes e.reads (by omega) (by omega)
 have m3:=ok_meet d.reads e.writes (by omega) (by omega)
 by_cases hw:wrongRows r=0
 ·
  by_cases hw2:wrongDeed d=0
  ·
   by_cases hw3:wrongDeed e=0
   ·
    obtain⟨hs,hkr,hro⟩:=wrongRows_srt hw
    cases hm1:meetB d.writes e.writes with
    |true =>
     rw[hm1]at m1
     repeat(first|refine wa ?_|((with_reducible apply s5);(first|(focus ((with_reducible apply(a_call c2));exact rfl;(repeat(first|exact SubsE.nil|(apply SubsE.cons;exact rfl;(first|exact .d (.refl _)|exact .d (.nil _)|exact .agg rfl (.refl _)|exact .pd|exact .ptr rfl);(first|exact trivial|exact⟨rfl,trivial⟩))));done))|(focus ((with_reducible apply(a_call c3));exact rfl;(repeat(first|exact SubsE.nil|(apply SubsE.cons;exact rfl;(first|exact .d (.refl _)|exact .d (.nil _)|exact .agg rfl (.refl _)|exact .pd|exact .ptr rfl);(first|exact trivial|exact⟨rfl,trivial⟩))));done))|(focus ((with_reducible apply(a_call m1));exact rfl;(repeat(first|exact SubsE.nil|(apply SubsE.cons;exact rfl;(first|exact .d (.refl _)|exact .d (.nil _)|exact .agg rfl (.refl _)|exact .pd|exact .ptr rfl);(first|exact trivial|exact⟨rfl,trivial⟩))));done))|exact by_oa|exact by_ca);exact by_g)|refine wb ?_)
     exact .one (.tmp rfl (.one (.d (.refl _))))
    |false =>
     rw[hm1]at m1
     cases hm2:meetB d.writes e.reads with
     |true =>
      rw[hm2]at m2
      repeat(first|refine wa ?_|((with_reducible apply s5);(first|(focus ((with_reducible apply(a_call c2));exact rfl;(repeat(first|exact SubsE.nil|(apply SubsE.cons;exact rfl;(first|exact .d (.refl _)|exact .d (.nil _)|exact .agg rfl (.refl _)|exact .pd|exact .ptr rfl);(first|exact trivial|exact⟨rfl,trivial⟩))));done))|(focus ((with_reducible apply(a_call c3));exact rfl;(repeat(first|exact SubsE.nil|(apply SubsE.cons;exact rfl;(first|exact .d (.refl _)|exact .d (.nil _)|exact .agg rfl (.refl _)|exact .pd|exact .ptr rfl);(first|exact trivial|exact⟨rfl,trivial⟩))));done))|(focus ((with_reducible apply(a_call m1));exact rfl;(repeat(first|exact SubsE.nil|(apply SubsE.cons;exact rfl;(first|exact .d (.refl _)|exact .d (.nil _)|exact .agg rfl (.refl _)|exact .pd|exact .ptr rfl);(first|exact trivial|exact⟨rfl,trivial⟩))));done))|(focus ((with_reducible apply(a_call m2));exact rfl;(repeat(first|exact SubsE.nil|(apply SubsE.cons;exact rfl;(first|exact .d (.refl _)|exact .d (.nil _)|exact .agg rfl (.refl _)|exact .pd|exact .ptr rfl);(first|exact trivial|exact⟨rfl,trivial⟩))));done))|exact by_oa|exact by_ca);exact by_g)|refine wb ?_)
      exact .one (.tmp rfl (.one (.d (.refl _))))
     |false =>
      rw[hm2]at m2
      cases hm3:meetB d.reads e.writes with
      |true =>
       rw[hm3]at m3
       repeat(first|refine wa ?_|((with_reducible apply s5);(first|(focus ((with_reducible apply(a_call c2));exact rfl;(repeat(first|exact SubsE.nil|(apply SubsE.cons;exact rfl;(first|exact .d (.refl _)|exact .d (.nil _)|exact .agg rfl (.refl _)|exact .pd|exact .ptr rfl);(first|exact trivial|exact⟨rfl,trivial⟩))));done))|(focus ((with_reducible apply(a_call c3));exact rfl;(repeat(first|exact SubsE.nil|(apply SubsE.cons;exact rfl;(first|exact .d (.refl _)|exact .d (.nil _)|exact .agg rfl (.refl _)|exact .pd|exact .ptr rfl);(first|exact trivial|exact⟨rfl,trivial⟩))));done))|(focus ((with_reducible apply(a_call m1));exact rfl;(repeat(first|exact SubsE.nil|(apply SubsE.cons;exact rfl;(first|exact .d (.refl _)|exact .d (.nil _)|exact .agg rfl (.refl _)|exact .pd|exact .ptr rfl);(first|exact trivial|exact⟨rfl,trivial⟩))));done))|(focus ((with_reducible apply(a_call m2));exact rfl;(repeat(first|exact SubsE.nil|(apply SubsE.cons;exact rfl;(first|exact .d (.refl _)|exact .d (.nil _)|exact .agg rfl (.refl _)|exact .pd|exact .ptr rfl);(first|exact trivial|exact⟨rfl,trivial⟩))));done))|(focus ((with_reducible apply(a_call m3));exact rfl;(repeat(first|exact SubsE.nil|(apply SubsE.cons;exact rfl;(first|exact .d (.refl _)|exact .d (.nil _)|exact .agg rfl (.refl _)|exact .pd|exact .ptr rfl);(first|exact trivial|exact⟨rfl,trivial⟩))));done))|exact by_oa|exact by_ca);exact by_g)|refine wb ?_)
       exact .one (.tmp rfl (.one (.d (.refl _))))
      |false =>
       rw[hm3]at m3
       obtain⟨e1,e2,e3⟩:=do_swap hs hw2 hw3 (meetB_false hm1) (fun k hk hk2=>meetB_false hm2 k hk2 hk) (meetB_false hm3)
       have p1:=ok_pall r [d,e] (by omega) (by simp) hs hro (by simp[hw2,hw3])
       have p2:=ok_pall r [e,d] (by omega) (by simp) hs hro (by simp[hw2,hw3])
       have hlen:=doD_len r d
       have hlen2:=doD_len (doD r d).1 e
       have hok:=(wrongDeed_ok hw2).c
       have hok2:=(wrongDeed_ok hw3).c
       simp only[allD]at p1 p2
       rw[← e1,e3]at p2
       rw[e2]at p1
       generalize (doD r d).2=E1 at p1 p2
       generalize (doD r e).2=E2 at p1 p2
       generalize (doD (doD r d).1 e).1=x at p1 p2 hlen2
       have c5:=ok_SameRows x x (by omega)
       rw[allB_refl (by simp)]at c5
       have q1:=eql_doneP E1 E1
       have q2:=eql_doneP E2 E2
       rw[decide_eq_true rfl]at q1 q2
       have i1:([E1,E2]:List Done)[0]? = some E1:=rfl
       have i2:([E1,E2]:List Done)[1]? = some E2:=rfl
       have i3:([E2,E1]:List Done)[0]? = some E2:=rfl
       have i4:([E2,E1]:List Done)[1]? = some E1:=rfl
       repeat(first|((with_reducible apply s5);((with_reducible apply a_bs ([d,e].map Deed.enc));(iterate 9 exact rfl);(repeat(first|exact PartsE.nil|(apply PartsE.cons;exact rfl;exact rfl))));exact by_g)|((with_reducible apply s5);((with_reducible apply a_bs ([e,d].map Deed.enc));(iterate 9 exact rfl);(repeat(first|exact PartsE.nil|(apply PartsE.cons;exact rfl;exact rfl))));exact by_g)|refine wa1 ?_|((with_reducible apply s5);(first|(focus ((with_reducible apply(a_call c2));exact rfl;(repeat(first|exact SubsE.nil|(apply SubsE.cons;exact rfl;(first|exact .d (.refl _)|exact .d (.nil _)|exact .agg rfl (.refl _)|exact .pd|exact .ptr rfl);(first|exact trivial|exact⟨rfl,trivial⟩))));done))|(focus ((with_reducible apply(a_call c3));exact rfl;(repeat(first|exact SubsE.nil|(apply SubsE.cons;exact rfl;(first|exact .d (.refl _)|exact .d (.nil _)|exact .agg rfl (.refl _)|exact .pd|exact .ptr rfl);(first|exact trivial|exact⟨rfl,trivial⟩))));done))|(focus ((with_reducible apply(a_call m1));exact rfl;(repeat(first|exact SubsE.nil|(apply SubsE.cons;exact rfl;(first|exact .d (.refl _)|exact .d (.nil _)|exact .agg rfl (.refl _)|exact .pd|exact .ptr rfl);(first|exact trivial|exact⟨rfl,trivial⟩))));done))|(focus ((with_reducible apply(a_call m2));exact rfl;(repeat(first|exact SubsE.nil|(apply SubsE.cons;exact rfl;(first|exact .d (.refl _)|exact .d (.nil _)|exact .agg rfl (.refl _)|exact .pd|exact .ptr rfl);(first|exact trivial|exact⟨rfl,trivial⟩))));done))|(focus ((with_reducible apply(a_call m3));exact rfl;(repeat(first|exact SubsE.nil|(apply SubsE.cons;exact rfl;(first|exact .d (.refl _)|exact .d (.nil _)|exact .agg rfl (.refl _)|exact .pd|exact .ptr rfl);(first|exact trivial|exact⟨rfl,trivial⟩))));done))|(focus ((with_reducible apply(a_call p1));exact rfl;(repeat(first|exact SubsE.nil|(apply SubsE.cons;exact rfl;(first|exact .d (.refl _)|exact .d (.nil _)|exact .agg rfl (.refl _)|exact .pd|exact .ptr rfl);(first|exact trivial|exact⟨rfl,trivial⟩))));done))|(focus ((with_reducible apply(a_call p2));exact rfl;(repeat(first|exact SubsE.nil|(apply SubsE.cons;exact rfl;(first|exact .d (.refl _)|exact .d (.nil _)|exact .agg rfl (.refl _)|exact .pd|exact .ptr rfl);(first|exact trivial|exact⟨rfl,trivial⟩))));done))|((with_reducible apply a_agg2);exact q1;(iterate 2 exact rfl);(first|exact .d rfl|exact .a rfl);(first|exact .d rfl|exact .a rfl);exact rfl)|((with_reducible apply a_agg);exact q1;(iterate 5 exact rfl))|((with_reducible apply a_agg2);exact q2;(iterate 2 exact rfl);(first|exact .d rfl|exact .a rfl);(first|exact .d rfl|exact .a rfl);exact rfl)|((with_reducible apply a_agg);exact q2;(iterate 5 exact rfl))|exact by_oa|exact by_ca);exact by_g)|refine wb ?_)
       exact .one (.tmp rfl (.one (.d (.refl _))))
   ·
    repeat(first|refine wa ?_|((with_reducible apply s5);(first|(focus ((with_reducible apply(a_call c2));exact rfl;(repeat(first|exact SubsE.nil|(apply SubsE.cons;exact rfl;(first|exact .d (.refl _)|exact .d (.nil _)|exact .agg rfl (.refl _)|exact .pd|exact .ptr rfl);(first|exact trivial|exact⟨rfl,trivial⟩))));done))|(focus ((with_reducible apply(a_call c3));exact rfl;(repeat(first|exact SubsE.nil|(apply SubsE.cons;exact rfl;(first|exact .d (.refl _)|exact .d (.nil _)|exact .agg rfl (.refl _)|exact .pd|exact .ptr rfl);(first|exact trivial|exact⟨rfl,trivial⟩))));done))|exact by_oa|exact by_ca);exact by_g)|refine wb ?_)
    exact .one (.tmp rfl (.one (.d (.refl _))))
  ·
   repeat(first|refine wa ?_|((with_reducible apply s5);(first|(focus ((with_reducible apply(a_call c2));exact rfl;(repeat(first|exact SubsE.nil|(apply SubsE.cons;exact rfl;(first|exact .d (.refl _)|exact .d (.nil _)|exact .agg rfl (.refl _)|exact .pd|exact .ptr rfl);(first|exact trivial|exact⟨rfl,trivial⟩))));done))|exact by_oa|exact by_ca);exact by_g)|refine wb ?_)
   exact .one (.tmp rfl (.one (.d (.refl _))))
 ·
  try refine wk ?_
  exact .one (.tmp rfl (.one (.d (.refl _))))
end Go.Proofs.YtfpkamiobdkcpaaDoor
namespace Go.AX
open Go.RowKit
theorem laid_drop {P:Program}{w:World}:∀ {laid:List (String×DataW Unit)}(i:Nat),laidMet P laid w→laidMet P (laid.drop i) w
 |_,0,h=>h
 | [],_+1,h=>h
 |(n,d)::r,i+1,h=>by
  obtain⟨ps,hv,hnd,hrows⟩:=h
  obtain⟨g,t,cs,fuel,p,q,_,_,_,_,hq,rfl⟩:=hv
  exact laid_drop i ⟨q,hq,List.Nodup.sublist (List.sublist_append_right _ _) hnd,fun b off hm=>hrows b off (List.mem_append_right _ hm)⟩
theorem trod_iface {P:Program}{w:World}{ti:TypeId}{ms:Array (String×TypeId)}{sp:Nat→Bool}{fuel:Nat}{cs:List Value}{nm:String}{d:DataW Unit}{p:List MemPlace}(hi:P.underlying ti=some (.interface ms))
  (h:DataW.trod (fun _=>()) P w 0 sp false fuel ti cs=some (.iface nm d,p)):∃ u v,cs=[.iface u v]:=by
 cases fuel with
 |zero=>simp[DataW.trod]at h
 |succ n =>
  rcases cs with _|⟨c,_|⟨c2,r⟩⟩
  ·
   simp[DataW.trod,hi]at h
  ·
   cases c <;> simp[DataW.trod,hi]at h ⊢
  ·
   cases c <;> simp[DataW.trod,hi]at h
theorem gl_iface {P:Program}{w:World}{laid rest:List (String×DataW Unit)}{n nm:String}{d:DataW Unit}{g:Nat}{ti:TypeId}{ms:Array (String×TypeId)}(i:Nat) (hi:laid.drop i=(n,.iface nm d)::rest)
  (hg:P.globalNamed n=some g) (ht:(P.globals[g]?).map (·.type)=some ti) (hu:P.underlying ti=some (.interface ms)) (h:laidMet P laid w):GlAt P w n fun cs=>∃ tp p,cs = #[.iface tp p]:=by
 intro g' hg'
 have h1:=laid_drop i h
 rw[hi]at h1
 obtain⟨ps,⟨g0,t0,cs0,f0,p0,q0,hg0,ht0,hv0,hd0,_,_⟩,_⟩:=h1
 obtain rfl:=Option.some.inj (hg.symm.trans hg0)
 obtain rfl:=Option.some.inj (ht.symm.trans ht0)
 obtain⟨u,v,hc⟩:=trod_iface hu hd0
 refine⟨cs0,hv0,u,v,?_⟩
 rw[← Array.toArray_toList (xs:=cs0),hc]
theorem gl_tab {P:Program}{w:World}{laid rest:List (String×DataW Unit)}{n:String}{k:IntKind}{zs:List Int}{g:Nat}{t e:TypeId}{m:Nat}(i:Nat) (hi:laid.drop i=(n,Lib.tabData k zs)::rest)
  (hg:P.globalNamed n=some g) (hty:(P.globals[g]?).map (·.type)=some t) (ht:P.underlying t=some (.array m e)) (he:P.underlying e=some (.int k)) (hce:P.cellsOf e=1) (hct:P.cellsOf t=m) (h:laidMet P laid w) :
  GlAt P w n fun cs=>cs=(zs.map fun z=>Value.int k z).toArray:=by
 intro g' hg'
 have h1:=laid_drop i h
 rw[hi]at h1
 exact⟨_,Lib.tabIs_of_head hg hty ht he hce hct h1,rfl⟩
theorem gl_int {P:Program}{w:World}{n:String}{g:Nat}{m:Int}(hg:P.globalNamed n=some g) (h:w.cell? ⟨g,0,none⟩=some (.int .i64 m)):GlAt P w n fun cs=>∃ m,cs[0]? = some (.int .i64 m):=by
 intro g' hg'
 have hx:∃ cs,w.var? P n=some cs∧cs[0]? = some (.int .i64 m):=by
  unfold World.var?
  rw[hg]
  simp only[Option.bind_some]
  unfold World.cell? at h
  simp only at h
  split at h
  ·
   next cs _ _ hh=>rw[hh];exact⟨cs,rfl,h⟩
  ·
   cases h
 obtain⟨cs,h1,h2⟩:=hx
 exact⟨cs,h1,m,h2⟩
end Go.AX
