/-
  Part 3 of what the claim leans on: AxPin4 AxPin5 AxBool AxFnD AxMap Rn Sh G2 G1 G3 G8 G11 AxIns G12 G14 R2 F21 G4 P1 P2 P4 P5 P16 P17 P18 P20 P3 R4 AxNews AxApp R5 AxBld AxRes.
-/
import Derived.Test.YtccblhpfjlgmbabGreatDoorK2
import Derived.Laws.Small
import Derived.MapKept
import Derived.Shelf.Small.Strs
import Derived.Test.YtccblhpfjlgmbabGreatDoorProg
import Derived.Shelf.Spec.SlicesInsertGrow
import Derived.Maps.AppendAt
import Derived.Lib.SlTrimSet
set_option linter.all false

namespace Go.AX
open Go.RowKit
variable {cx:Cx}{g:Nat→Value}{σ σ':St}{a:Act}{w w':World}{nx:Nat}{c:Code}{Q:Exit→St→Prop}
variable {ty:TypeId}{pos:String}{af:Array Edge}{gd:Option (Nat×Bool)}{d:Nat}
variable {ops:Array Oper}{rest:List Oper}{o:Oper}
theorem SW.s1 {rd wr:List (Key×Val)}(ha:autA cx σ o=some ⟨rd,wr⟩) (h:SW cx ops Q rest (wr++σ)):SW cx ops Q (o::rest) σ:=by
 obtain⟨dst,op,ty,pos,af,gd⟩:=o
 cases gd with
 |some p=>cases ha
 |none =>
  simp only[autA]at ha
  split at ha
  ·
   next hd =>
   obtain⟨h1,h2⟩:=trA_ok (cx:=cx) (ty:=ty) (pos:=pos) (af:=af) (gd:=none) hd ha
   exact SW.step rfl ⟨h1,h2⟩ h
  ·
   cases ha
theorem SW.s5 {rd wr:List (Key×Val)}(ho:OA cx σ o ⟨rd,wr⟩) (hg:o.guard=none) (h:SW cx ops Q rest (wr++σ)):SW cx ops Q (o::rest) σ:=SW.step hg ho h
theorem SW.nil (h:Q .normal σ):SW cx ops Q [] σ:=fun a w hs=>wpList_nil ⟨σ,hs,h⟩
theorem SW.stut {t:Tr}{l:List Oper}(hs:Stut cx t) (ha:App σ t.rd) (h:SW cx ops Q l (t.wr++σ)):SW cx ops Q l σ:=fun a w hsim=>h a w (hs σ a w hsim ha)
theorem CW.fact {p:Prop}(hf:∀ a w,Sim cx σ a w→p) (h:p→CW cx c Q σ):CW cx c Q σ:=fun a w hs=>h (hf a w hs) a w hs
theorem SW.fact {p:Prop}{l:List Oper}(hf:∀ a w,Sim cx σ a w→p) (h:p→SW cx ops Q l σ):SW cx ops Q l σ:=fun a w hs=>h (hf a w hs) a w hs
theorem pin_shape {id e k:Nat}{rows:List (List D)}{x:Value}(ho:get σ (.o id) = .ob (.pin e k rows x)) (h0:rows≠[]) (a:Act) (w:World) (hs:Sim cx σ a w):∃ b cp,x = .slice (some ⟨b,0,none⟩) rows.length cp:=by
 obtain⟨g,nx,hs⟩:=hs
 obtain⟨_,⟨hgx,xs,h1,_⟩,_⟩:=hs.objs id _ ho
 rcases h1.2 with ⟨_,hn⟩|⟨b,cap,cur,hv,_⟩
 ·
  exact absurd (List.eq_nil_of_length_eq_zero hn) h0
 ·
  exact⟨b,cap,by rw[← hgx];exact hv⟩
theorem pin_slice {id e k:Nat}{rows:List (List D)}{x:Value}(ho:get σ (.o id) = .ob (.pin e k rows x)) (a:Act) (w:World) (hs:Sim cx σ a w):∃ p cp,x = .slice p rows.length cp:=by
 obtain⟨g,nx,hs⟩:=hs
 obtain⟨_,⟨hgx,xs,h1,_⟩,_⟩:=hs.objs id _ ho
 rcases h1.2 with ⟨hv,hn⟩|⟨b,cap,cur,hv,_⟩
 ·
  exact⟨none,0,by rw[← hgx,hv,hn]⟩
 ·
  exact⟨_,cap,by rw[← hgx];exact hv⟩
theorem stut_unpin {i id e k:Nat}{rows:List (List D)}{x:Value} :
  Stut cx ⟨[(.s i,.av (.d (.v x))),(.o id,.ob (.pin e k rows x)),(.nx,.num nx)],[(.s i,.av (.own nx rows.length)),(.o nx,.ob (.arr e k rows)),(.nx,.num (nx+1)),(.o id,.none)]⟩:=by
 intro σ a w hs hr
 exact sim_unpin i id e k nx rows x hr.1 hr.2.1 hr.2.2.1 hs
theorem ok_iav {t:TypeId}{x y:Operand}{b n cp k i:Nat}{kd:IntKind}{ti:TI}(hd:d < cx.n) (hx:EvS x (.d (.v (.slice (some ⟨b,0,none⟩) n cp)))) (hy:EvS y (.d (.v (.int kd (i:Int))))) (ht:tget cx.T t=some ti) (hk:slK ti=some k) (hi:i < n) :
  OpOk cx ⟨some d,.indexAddr t x y,ty,pos,af,gd⟩ ⟨rdOf x (.d (.v (.slice (some ⟨b,0,none⟩) n cp)))++rdOf y (.d (.v (.int kd (i:Int)))),[(.s d,.av (.d (.v (.pointer (some ⟨b,i*k,none⟩)))))]⟩:=by
 refine ok_val rfl hd fun σ a w g nx hs hr=>?_
 obtain⟨_,ie,hu,hie,hks,_⟩:=slice_of (cx.hT t ti ht) hk
 have hv:=rep_v (hs.ev hx hr.left).1
 have hy':=rep_v (hs.ev hy hr.right).1
 refine⟨.pointer (some ⟨b,i*k,none⟩),w,?_,Below.refl _ _,Rd.v _,trivial⟩
 have:(⟨b,0,none⟩:Addr).add (i*k)=⟨b,i*k,none⟩:=by rw[add_lit,Nat.zero_add]
 simp[execOp,hy',hv,Instr.indexAt,asIntOf,run_underlying hu,sizeOf,typeInfo,hie,hks,this]
 omega
theorem ok_fav {t:TypeId}{x:Operand}{b q:Nat}{ti:TI}{fl off:Nat}(hd:d < cx.n) (hx:EvS x (.d (.v (.pointer (some ⟨b,q,none⟩))))) (ht:tget cx.T t=some ti) (hf:fldOff ti fl=some off) :
  OpOk cx ⟨some d,.fieldAddr t x fl,ty,pos,af,gd⟩ ⟨rdOf x (.d (.v (.pointer (some ⟨b,q,none⟩)))),[(.s d,.av (.d (.v (.pointer (some ⟨b,q+off,none⟩)))))]⟩:=by
 refine ok_val rfl hd fun σ a w g nx hs hr=>?_
 have hv:=rep_v (hs.ev hx hr).1
 refine⟨.pointer (some ⟨b,q+off,none⟩),w,?_,Below.refl _ _,Rd.v _,trivial⟩
 have h2:=fieldAt_of (cx.hT t ti ht) hf ⟨b,q,none⟩ w
 rw[add_lit]at h2
 simp[execOp,hv,h2]
theorem ok_load_pin {t:TypeId}{x:Operand}{id n i f e k b cp q:Nat}{rows:List (List D)}{r:List D}{ti:TI}{y:D}(hd:d < cx.n) (hx:EvS x (.d (.v (.pointer (some ⟨b,q,none⟩))))) (ht:tget cx.T t=some ti) (hq:q=i*k+f) (hr:rows[i]? = some r)
  (hl:ldD ti (r.drop f)=some y) :
  OpOk cx ⟨some d,.load t x,ty,pos,af,gd⟩ ⟨rdOf x (.d (.v (.pointer (some ⟨b,q,none⟩))))++[(.o id,.ob (.pin e k rows (.slice (some ⟨b,0,none⟩) n cp)))],[(.s d,.av (.d y))]⟩:=by
 refine ok_val rfl hd fun σ a w g nx hs hrd=>?_
 have ho:get σ (.o id) = .ob (.pin e k rows (.slice (some ⟨b,0,none⟩) n cp)):=hrd.right.1
 subst hq
 have hv:=rep_v (hs.ev hx hrd.left).1
 obtain⟨_,⟨hgx,xs,h1,h2,h3,h4⟩,_⟩:=hs.objs id _ ho
 have hb:blk (g id)=some b:=by rw[hgx];rfl
 have hil:=(List.getElem?_eq_some_iff.1 hr).1
 have hrk:=h3 r (List.mem_of_getElem? hr)
 have hc:RdCells w (cx.own g σ) ⟨b,i*k+f,none⟩ (r.drop f):=by
  intro j z hz
  rw[List.getElem?_drop]at hz
  have hj:f+j < k:=by rw[← hrk];exact(List.getElem?_eq_some_iff.1 hz).1
  have hlen:i*k+(f+j) < xs.length:=by
   rw[h1.1]
   have h5:(i+1)*k≤rows.length*k:=Nat.mul_le_mul_right _ hil
   rw[Nat.add_mul,Nat.one_mul]at h5
   omega
  refine⟨xs[i*k+(f+j)],?_,h2 _ (List.getElem_mem _),h4 i (f+j) r z _ hr hz (List.getElem?_eq_getElem hlen)⟩
  rw[add_lit,show i*k+f+j=i*k+(f+j) by omega]
  have:=h1.cells (g:=b) (by rw[← blk_own h1];exact hb) (i*k+(f+j)) _ (List.getElem?_eq_getElem hlen)
  rw[add_lit,Nat.zero_add]at this
  exact this
 obtain⟨v,h5,h6⟩:=run_load_cells (cx.hT t ti ht) hc hl
 have h5':(loadVar t ⟨b,i*k+f,none⟩).run cx.P w = .ok v w:=by simpa[Instr.loadAt,Instr.sureAddr] using h5
 exact⟨v,w,by simp[execOp,hv,Instr.loadAt,Instr.sureAddr,h5'],Below.refl _ _,h6,trivial⟩
theorem ok_store_pin {t:TypeId}{x y:Operand}{id n i f e k b cp q:Nat}{rows:List (List D)}{r new:List D}{av:AV}{ti:TI}(hx:EvS x (.d (.v (.pointer (some ⟨b,q,none⟩))))) (hy:EvS y av) (ht:tget cx.T t=some ti) (hc:dcells av=some new)
  (hq:q=i*k+f) (hr:rows[i]? = some r) (hnn:Nat.beq new.length ti.n=true) (hle:f+new.length≤r.length) :
  OpOk cx ⟨none,.store t x y,ty,pos,af,gd⟩ ⟨rdOf x (.d (.v (.pointer (some ⟨b,q,none⟩))))++(rdOf y av++[(.o id,.ob (.pin e k rows (.slice (some ⟨b,0,none⟩) n cp)))]),[(.o id,.ob (.pin e k (rows.set i (splice r f new)) (.slice (some ⟨b,0,none⟩) n cp)))]⟩:=by
 rintro σ a w K Q ⟨g,nx,hs⟩ hrd hK
 have ho:get σ (.o id) = .ob (.pin e k rows (.slice (some ⟨b,0,none⟩) n cp)):=hrd.right.right.1
 subst hq
 have hv:=rep_v (hs.ev hx hrd.left).1
 obtain⟨hav,hbd⟩:=hs.ev hy hrd.right.left
 obtain⟨hidn,⟨hgx,xs,h1,h2,h3,h4⟩,_⟩:=hs.objs id _ ho
 have hb:blk (g id)=some b:=by rw[hgx];rfl
 obtain⟨c1,c2,c3⟩:=dcells_ok hs hav hc
 have hF:=cx.hT t ti ht
 have hnn':new.length=ti.n:=by simpa using hnn
 have hil:=(List.getElem?_eq_some_iff.1 hr).1
 have hrk:=h3 r (List.mem_of_getElem? hr)
 have h5:(i+1)*k≤rows.length*k:=Nat.mul_le_mul_right _ hil
 rw[Nat.add_mul,Nat.one_mul]at h5
 rcases h1.2 with ⟨_,h6⟩|⟨b',cap,cur,hv',hge,hh,hle',hcm,hsz,htk⟩
 ·
  omega
 have hbb:b'=b:=by rw[hv']at hb;simpa[blk] using hb
 subst hbb
 generalize hX:a.eval y=X at hav c1 c2 c3
 have hlen:X.cells.toList.length=new.length:=c1
 have hcap:rows.length*k≤cap*k:=Nat.mul_le_mul_right _ hle'
 have hst:=run_storeCells_at (P:=cx.P) b' (i*k+f) e X.cells.toList 0 cur w hh (by rw[hlen];omega) c2
 simp only[Nat.add_zero]at hst
 have hX':X.cells.size=ti.n:=by rw[← hnn',← hlen];simp
 have hrun:(Instr.storeAt t (.pointer (some ⟨b',i*k+f,none⟩)) X).run cx.P w = .ok () (w.setRow b' (splice cur.toList (i*k+f) X.cells.toList).toArray):=by
  simp[Instr.storeAt,Instr.sureAddr,storeVar,sizeOf_of hF w,hX',hst,splice]
 generalize hcs':(splice cur.toList (i*k+f) X.cells.toList).toArray=cs' at hrun
 have hheap:(w.setRow b' cs').heap[b']? = some (.cells cs' e (0,0)):=setRow_heap w b' cur cs' e (0,0) hh
 have hle2:i*k+f+X.cells.toList.length≤cur.toList.length:=by rw[hlen];simp;omega
 have hrows:(rows.set i (splice r f new)).length=rows.length:=by simp
 have hOS:ObjStep cx σ g nx nx w (w.setRow b' cs') id (.pin e k (rows.set i (splice r f new)) (.slice (some ⟨b',0,none⟩) n cp)) (g id):=by
  refine⟨.inr ⟨rfl,.pin e k rows (.slice (some ⟨b',0,none⟩) n cp),ho,trivial⟩,⟨rfl,rfl,rfl,by simp,fun k hk=>setRow_other w b' k cs' (by omega)⟩,fun b hb hne=>setRow_other w b' b cs' (fun e=>hne _ ho (by rw[hv',e];rfl)),fun b hb => .inl ⟨_,ho,hb⟩⟩
 have hxs':cs'.toList.take (rows.length*k)=splice xs (i*k+f) X.cells.toList:=by
  subst hcs'
  apply List.ext_getElem?
  intro j
  have hxl:xs.length=rows.length*k:=h1.1
  rw[List.getElem?_take]
  show(if j < rows.length*k then (splice cur.toList (i*k+f) X.cells.toList)[j]? else none)=_
  rw[splice_get hle2,splice_get (l:=xs) (by rw[hxl,hlen];omega)]
  by_cases hj:j < rows.length*k
  ·
   rw[if_pos hj]
   split
   ·
    rfl
   ·
    rw[← htk,List.getElem?_take,if_pos hj]
  ·
   rw[if_neg hj,if_neg (by rw[hlen];omega),List.getElem?_eq_none (by omega)]
 have hG:=SimG.obj hs hOS (fun hlat=>?_) trivial
 ·
  unfold Oper.wp
  simp only[execOp,hv,hX,Sem.run_bind,hrun,Result.andThen_ok,Sem.run_pure,Oper.upon,Act.put]
  refine hK _ _ (Sim.eqv ⟨_,_,hG⟩ fun k=>?_)
  cases k with
  |s i=>rw[objSt_s];exact(get_cons_ne (by simp)).symm
  |o i =>
   by_cases hi:i=id
   ·
    subst hi;rw[get_cons_same];exact get_cons_same.symm
   ·
    rw[objSt_o hi];exact(get_cons_ne (by simpa using fun e=>hi e.symm)).symm
  |nx=>rw[objSt_nx];exact hs.hnx.symm.trans (get_cons_ne (by simp)).symm
 ·
  have hsl:(splice xs (i*k+f) X.cells.toList).length=xs.length:=splice_len (by rw[h1.1,hlen];omega)
  refine⟨(upd_same _ _ _).trans hgx,splice xs (i*k+f) X.cells.toList,⟨by rw[hsl,h1.1,hrows],.inr ⟨b',cap,cs',?_,hge,hheap,by rw[hrows];exact hle',hcm,?_,by rw[hrows];exact hxs'⟩⟩,fun x hx=>?_,fun r' hr'=>?_,fun i' j r' z x hi' hj hx=>?_⟩
  ·
   rw[upd_same,hv',hrows]
  ·
   subst hcs';rw[← hsz];simpa using splice_len hle2
  ·
   obtain⟨j,hj⟩:=List.getElem?_of_mem hx
   rw[splice_get (by rw[h1.1,hlen];omega)]at hj
   split at hj
   ·
    exact c2 x (List.mem_of_getElem? hj)
   ·
    exact h2 x (List.mem_of_getElem? hj)
  ·
   rcases List.mem_or_eq_of_mem_set hr' with h|h
   ·
    exact h3 r' h
   ·
    subst h;rw[splice_len hle,hrk]
  ·
   have hjk:j < k:=by
    have hm:r'∈rows.set i (splice r f new):=List.mem_of_getElem? hi'
    have:r'.length=k:=by
     rcases List.mem_or_eq_of_mem_set hm with h|h
     ·
      exact h3 r' h
     ·
      subst h;rw[splice_len hle,hrk]
    rw[← this];exact(List.getElem?_eq_some_iff.1 hj).1
   rw[splice_get (by rw[h1.1,hlen];omega)]at hx
   by_cases hii:i=i'
   ·
    subst hii
    rw[List.getElem?_set_self hil]at hi'
    cases hi'
    rw[splice_get hle]at hj
    by_cases hin:f≤j∧j < f+new.length
    ·
     rw[if_pos hin]at hj
     rw[if_pos (by rw[hlen];omega),show i*k+j - (i*k+f)=j - f by omega]at hx
     exact(c3 (j - f) x z hj hx).step hlat.ext hlat.own
    ·
     rw[if_neg hin]at hj
     rw[if_neg (by rw[hlen];omega)]at hx
     exact(h4 i j r z x hr hj hx).step hlat.ext hlat.own
   ·
    rw[List.getElem?_set_ne hii]at hi'
    have hout:¬ (i*k+f≤i'*k+j∧i'*k+j < i*k+f+X.cells.toList.length):=by
     rw[hlen]
     rcases Nat.lt_or_ge i' i with hlt|hge
     ·
      have:=Nat.mul_le_mul_right k hlt
      rw[Nat.succ_mul]at this
      omega
     ·
      have:=Nat.mul_le_mul_right k (show i+1≤i' by omega)
      rw[Nat.add_mul,Nat.one_mul]at this
      omega
    rw[if_neg hout]at hx
    exact(h4 i' j r' z x hi' hj hx).step hlat.ext hlat.own
theorem a_iav {t:TypeId}{x y:Operand}{b n cp k i:Nat}{kd:IntKind}{ti:TI}(hx:ev σ x=some (.d (.v (.slice (some ⟨b,0,none⟩) n cp)))) (hy:ev σ y=some (.d (.v (.int kd (i:Int))))) (ht:tget cx.T t=some ti) (hk:slK ti=some k) (hd:Nat.blt d cx.n=true) (hi:i < n) :
  OA cx σ ⟨some d,.indexAddr t x y,ty,pos,af,gd⟩ ⟨rdOf x (.d (.v (.slice (some ⟨b,0,none⟩) n cp)))++rdOf y (.d (.v (.int kd (i:Int)))),[(.s d,.av (.d (.v (.pointer (some ⟨b,i*k,none⟩)))))]⟩ :=
 ⟨ok_iav (lt_of_blt hd) (ev_out hx).1 (ev_out hy).1 ht hk hi,(ev_out hx).2.append (ev_out hy).2⟩
theorem a_fav {t:TypeId}{x:Operand}{b q:Nat}{ti:TI}{fl off:Nat}(hx:ev σ x=some (.d (.v (.pointer (some ⟨b,q,none⟩))))) (ht:tget cx.T t=some ti) (hf:fldOff ti fl=some off) (hd:Nat.blt d cx.n=true) :
  OA cx σ ⟨some d,.fieldAddr t x fl,ty,pos,af,gd⟩ ⟨rdOf x (.d (.v (.pointer (some ⟨b,q,none⟩)))),[(.s d,.av (.d (.v (.pointer (some ⟨b,q+off,none⟩)))))]⟩ :=
 ⟨ok_fav (lt_of_blt hd) (ev_out hx).1 ht hf,(ev_out hx).2⟩
theorem a_lpin {t:TypeId}{x:Operand}(id i f:Nat) {n e k b cp q:Nat}{rows:List (List D)}{r:List D}{ti:TI}{y:D}(hx:ev σ x=some (.d (.v (.pointer (some ⟨b,q,none⟩))))) (ho:get σ (.o id) = .ob (.pin e k rows (.slice (some ⟨b,0,none⟩) n cp))) (ht:tget cx.T t=some ti)
  (hd:Nat.blt d cx.n=true) (hr:rows[i]? = some r) (hl:ldD ti (r.drop f)=some y) (hq:q=i*k+f) :
  OA cx σ ⟨some d,.load t x,ty,pos,af,gd⟩ ⟨rdOf x (.d (.v (.pointer (some ⟨b,q,none⟩))))++[(.o id,.ob (.pin e k rows (.slice (some ⟨b,0,none⟩) n cp)))],[(.s d,.av (.d y))]⟩ :=
 ⟨ok_load_pin (lt_of_blt hd) (ev_out hx).1 ht hq hr hl,(ev_out hx).2.append ⟨ho,trivial⟩⟩
theorem a_spin {t:TypeId}{x y:Operand}(id i f:Nat) {n e k b cp q:Nat}{rows:List (List D)}{r new:List D}{av:AV}{ti:TI}(hx:ev σ x=some (.d (.v (.pointer (some ⟨b,q,none⟩))))) (ho:get σ (.o id) = .ob (.pin e k rows (.slice (some ⟨b,0,none⟩) n cp))) (hy:ev σ y=some av) (ht:tget cx.T t=some ti)
  (hc:dcells av=some new) (hnn:Nat.beq new.length ti.n=true) (hr:rows[i]? = some r) (hle:Nat.ble (f+new.length) r.length=true) (hq:q=i*k+f) :
  OA cx σ ⟨none,.store t x y,ty,pos,af,gd⟩ ⟨rdOf x (.d (.v (.pointer (some ⟨b,q,none⟩))))++(rdOf y av++[(.o id,.ob (.pin e k rows (.slice (some ⟨b,0,none⟩) n cp)))]),[(.o id,.ob (.pin e k (rows.set i (splice r f new)) (.slice (some ⟨b,0,none⟩) n cp)))]⟩ :=
 ⟨ok_store_pin (ev_out hx).1 (ev_out hy).1 ht hc hq hr hnn (by simpa using hle),(ev_out hx).2.append ((ev_out hy).2.append ⟨ho,trivial⟩)⟩
end Go.AX
namespace Go.AX
open Go.RowKit
variable {cx:Cx}{g:Nat→Value}{σ σ':St}{a:Act}{w w':World}{nx:Nat}{c:Code}{Q:Exit→St→Prop}
variable {ty:TypeId}{pos:String}{af:Array Edge}{gd:Option (Nat×Bool)}{d:Nat}
theorem ok_lenv {t tt:TypeId}{x:Operand}{p:Option Addr}{n cp k:Nat}{ti:TI}(hd:d < cx.n) (hx:EvS x (.d (.v (.slice p n cp)))) (ht:tget cx.T t=some ti) (hk:slK ti=some k) :
  OpOk cx ⟨some d,.call { callee := .builtin .len,args := #[x],argTypes := #[t] },tt,pos,af,gd⟩ ⟨rdOf x (.d (.v (.slice p n cp))),[(.s d,.av (.d (.v (.int .i64 n))))]⟩:=by
 refine ok_val rfl hd fun σ a w g nx hs hr=>?_
 obtain⟨_,ie,hu,_⟩:=slice_of (cx.hT t ti ht) hk
 have hv:=rep_v (hs.ev hx hr).1
 exact⟨.int .i64 n,w,by simp[execOp,resolve,invoke,builtin,hv,Builtin.len_,run_underlying hu,goInt],Below.refl _ _,Rd.v _,trivial⟩
theorem a_lenv {t tt:TypeId}{x:Operand}{p:Option Addr}{n cp k:Nat}{ti:TI}(hx:ev σ x=some (.d (.v (.slice p n cp)))) (ht:tget cx.T t=some ti) (hk:slK ti=some k) (hd:Nat.blt d cx.n=true) :
  OA cx σ ⟨some d,.call { callee := .builtin .len,args := #[x],argTypes := #[t] },tt,pos,af,gd⟩ ⟨rdOf x (.d (.v (.slice p n cp))),[(.s d,.av (.d (.v (.int .i64 n))))]⟩ :=
 ⟨ok_lenv (lt_of_blt hd) (ev_out hx).1 ht hk,(ev_out hx).2⟩
theorem SimG.drop (hG:SimG cx σ a w g nx) (id:Nat):SimG cx ((.o id,.none)::σ) a w g nx:=by
 have hl:=Less.drop ⟨g,nx,hG⟩ id
 have hlat:Later cx g g σ ((.o id,.none)::σ) w w nx:=by
  refine⟨Ext.refl _ _,Below.refl _ _,fun b hb=>?_,fun j o' _ h=>⟨o',hl.o _ _ h,?_⟩⟩
  ·
   rcases hb with hb|⟨j,o,h5,h6⟩
   ·
    exact .inl (.inl hb)
   ·
    exact .inl (.inr ⟨j,o,hl.o _ _ h5,h6⟩)
  ·
   cases o' <;> simp[ObLe]
 exact hG.next hlat ((get_cons_ne (by simp)).trans hG.hnx) (Nat.le_refl _) hG.size hG.defers (Below.refl _ _) (fun j av hj => .inl ⟨hl.s _ _ hj,rfl⟩) (fun j o hj => .inl ⟨hl.o _ _ hj,rfl,fun _ _=>rfl⟩)
  (fun j j' o o' b h1 h2=>hG.sep j j' o o' b (hl.o _ _ h1) (hl.o _ _ h2))
theorem stut_fold {id id2 i j e k e2 k2:Nat}{rows rows2:List (List D)}{r:List D}{x:Value}(hi:rows[i]? = some r) (hj:r[j]? = some (.v x)) :
  Stut cx ⟨[(.o id,.ob (.arr e k rows)),(.o id2,.ob (.pin e2 k2 rows2 x))],[(.o id,.ob (.arr e k (rows.set i (r.set j (.sl k2 rows2))))),(.o id2,.none)]⟩:=by
 rintro σ a w ⟨g,nx,hG⟩ hr
 have ho:get σ (.o id) = .ob (.arr e k rows):=hr.1
 have ho2:get σ (.o id2) = .ob (.pin e2 k2 rows2 x):=hr.2.1
 have hne:id2≠id:=fun he=>by subst he;rw[ho2]at ho;cases ho
 obtain⟨_,⟨hgx,hp⟩,_⟩:=hG.objs id2 _ ho2
 have hp':RowsAt w cx.w0.heap.size (cx.own g σ) e2 k2 (g id2) rows2:=hp
 have hG3:=hG.drop id2
 have ho':get ((.o id2,.none)::σ) (.o id) = .ob (.arr e k rows):=(get_cons_ne (by simpa using hne)).trans ho
 have hown:∀ b,cx.own g ((.o id2,.none)::σ) b→cx.own g σ b∧blk (g id2)≠some b:=by
  rintro b (h|⟨q,o,h1,h2⟩)
  ·
   refine⟨.inl h,fun hb=>?_⟩
   have h3:=obj_ge hG ho2 hb
   have h4:=hG.own0.1 b h
   omega
  ·
   have hq:q≠id2:=fun e=>by subst e;rw[get_cons_same]at h1;cases h1
   rw[get_cons_ne (by simpa using fun e=>hq e.symm)]at h1
   exact⟨.inr ⟨q,o,h1,h2⟩,fun hb=>hq (hG.sep q id2 o _ b h1 ho2 h2 hb)⟩
 have hrd:Rd w (cx.own g ((.o id2,.none)::σ)) x (.sl k2 rows2):=by rw[← hgx];exact hp'.rd hown
 have hR:=(objRows hG3 ho').at hi hj hrd
 exact⟨g,nx,hG3.reob ho' (o' := .arr e k (rows.set i (r.set j (.sl k2 rows2)))) ⟨rfl,rfl,by simp,fun _=>rfl⟩ hR trivial⟩
end Go.AX
namespace Go.AX
open Go.RowKit
section
variable {P:Program}{t:TypeId}
end
variable {cx:Cx}{g:Nat→Value}{σ σ':St}{a:Act}{w w':World}{nx:Nat}
variable {ty:TypeId}{pos:String}{af:Array Edge}{gd:Option (Nat×Bool)}{d:Nat}
inductive AggV:AV→List Value→Prop
 |d {ds:List D} {us:List Value} (h:ds=us.map D.v):AggV (.d (.agg ds)) us
 |a {cs:List AV} {us:List Value} (h:cs=us.map fun u=>AV.d (.v u)):AggV (.agg cs) us
theorem rep_aggv {v:Value}{av:AV}{us:List Value}(h:AggV av us) (hr:Rep cx g σ w v av):v = .agg us.toArray:=by
 cases h with
 |d h=>subst h;exact rd_agg_v hr
 |a h =>
  subst h
  obtain⟨cs,rfl,hs,_,hr⟩:=hr
  congr 1
  apply Array.ext_getElem?
  intro j
  have hs':cs.size=us.length:=by simpa using hs
  rcases Nat.lt_or_ge j us.length with hj|hj
  ·
   have h1:=hr j cs[j] (.d (.v us[j])) (by simp[List.getElem?_map,List.getElem?_eq_getElem hj]) (Array.getElem?_eq_getElem (by omega))
   have h2:cs[j]=us[j]:=rd_v h1
   rw[Array.getElem?_eq_getElem (by omega)]
   simp[h2]
  ·
   rw[Array.getElem?_eq_none (by omega)]
   simp[hj]
end Go.AX
namespace Go.AX
open Go.RowKit
variable {cx:Cx}{g:Nat→Value}{σ σ':St}{a:Act}{w w':World}{nx:Nat}
variable {ty:TypeId}{pos:String}{af:Array Edge}{gd:Option (Nat×Bool)}{d:Nat}
def refP (ds:List D) (w:World) (own:Nat→Prop) (v:Value):Prop:=∃ ad:Addr,v = .pointer (some ad)∧¬ own ad.block∧ad.block < w.heap.size∧RdCells w own ad ds
def refD (ds:List D):D := .x (refP ds)
def mapP (M:List (List UInt8×Value)) (w:World) (own:Nat→Prop) (v:Value):Prop:=∃ b es clock,v = .map (some b)∧¬ own b∧b < w.heap.size∧w.heap[b]? = some (.map es clock)∧MapIs es M
def mapD (M:List (List UInt8×Value)):D := .x (mapP M)
def fnP (f:FuncId) (ds:List D) (w:World) (own:Nat→Prop) (v:Value):Prop:=∃ cs:Array Value,v = .func (.func f) #[] cs∧cs.size=ds.length∧∀ (j:Nat) (x:D) (c:Value),ds[j]? = some x→cs[j]? = some c→Rd w own c x
def fnD (f:FuncId) (ds:List D):D := .x (fnP f ds)
theorem ref_stable (ds:List D):Stable (refP ds):=by
 rintro own own' w w' v hx ho ⟨ad,rfl,h1,h2,h3⟩
 refine⟨ad,rfl,fun h=>?_,Nat.lt_of_lt_of_le h2 hx.size,h3.step hx ho fun j=>hx.cell (by rw[add_block];exact h2) (by rw[add_block];exact h1)⟩
 rcases ho _ h with h|h
 ·
  exact h1 h
 ·
  omega
theorem map_stable (M:List (List UInt8×Value)):Stable (mapP M):=by
 rintro own own' w w' v hx ho ⟨b,es,clock,rfl,h1,h2,h3,h4⟩
 refine⟨b,es,clock,rfl,fun h=>?_,Nat.lt_of_lt_of_le h2 hx.size,(hx.block b h2 h1).trans h3,h4⟩
 rcases ho _ h with h|h
 ·
  exact h1 h
 ·
  omega
theorem fn_stable (f:FuncId) (ds:List D):Stable (fnP f ds):=by
 rintro own own' w w' v hx ho ⟨cs,rfl,h1,h2⟩
 exact⟨cs,rfl,h1,fun j x c hj hc=>(h2 j x c hj hc).step hx ho⟩
theorem rd_x {own:Nat→Prop}{v:Value}{p:World→(Nat→Prop)→Value→Prop}(h:Rd w own v (.x p)):p w own v:=by
 generalize hD:D.x p=D0 at h
 cases h with
 |v=>cases hD
 |sl=>cases hD
 |agg=>cases hD
 |nil=>cases hD
 |x p v h1 hst hp=>cases hD;exact hp
theorem rd_ref {own:Nat→Prop}{v:Value}{ds:List D}(h:refP ds w own v):Rd w own v (refD ds):=by
 obtain⟨ad,rfl,_⟩:=id h
 exact .x _ _ rfl (ref_stable ds) h
theorem rd_map {own:Nat→Prop}{v:Value}{M:List (List UInt8×Value)}(h:mapP M w own v):Rd w own v (mapD M):=by
 obtain⟨b,es,clock,rfl,_⟩:=id h
 exact .x _ _ rfl (map_stable M) h
theorem rd_fn {own:Nat→Prop}{v:Value}{f:FuncId}{ds:List D}(h:fnP f ds w own v):Rd w own v (fnD f ds):=by
 obtain⟨cs,rfl,_⟩:=id h
 exact .x _ _ rfl (fn_stable f ds) h
theorem stut_refpd {i:Nat}{ds:List D}:Stut cx ⟨[(.s i,.av (.d (refD ds)))],[(.s i,.av (.pd ds))]⟩:=by
 rintro σ a w ⟨g,nx,hG⟩ hr
 obtain⟨ad,h1,h2,h3,h4⟩:=rd_x (hG.slots i _ hr.1).1
 exact Sim.retell hG (av := .pd ds) ⟨ad,h1,.inr h2,h3,h4⟩ trivial
theorem own_drop (hs:SimG cx σ a w g nx) {id:Nat}{o:Ob}(ho:get σ (.o id) = .ob o) {b:Nat}(hb:cx.own g ((.o id,.none)::σ) b):cx.own g σ b∧blk (g id)≠some b:=by
 rcases hb with h|⟨j,o1,h1,h2⟩
 ·
  refine⟨.inl h,fun hb=>?_⟩
  have h3:=obj_ge hs ho hb
  have h4:=hs.own0.1 b h
  omega
 ·
  by_cases hj:id=j
  ·
   subst hj;rw[get_cons_same]at h1;cases h1
  ·
   rw[get_cons_ne (by simpa using hj)]at h1
   exact⟨.inr ⟨j,o1,h1,h2⟩,fun hb=>hj (hs.sep id j _ o1 b ho h1 hb h2)⟩
theorem stut_freezebox {i id:Nat}{cells:List AV}{ds:List D}(hc:cells=ds.map AV.d):Stut cx ⟨[(.s i,.av (.ptr id 0)),(.o id,.ob (.box cells))],[(.s i,.av (.d (refD ds))),(.o id,.none)]⟩:=by
 subst hc
 rintro σ a w hs hr
 have hs0:=hs
 obtain⟨g,nx,hG⟩:=hs0
 have ho:get σ (.o id) = .ob (.box (ds.map AV.d)):=hr.2.1
 obtain⟨b0,hg0,hv⟩:=(hG.slots i _ hr.1).1.2 _ ho
 obtain⟨_,⟨b,cs,t,h0,h1,h2,h3,h4,h5⟩,_⟩:=hG.objs id _ ho
 obtain rfl:b0=b:=by rw[hg0]at h0;simpa using h0
 have hl:=Less.drop hs id
 have hlat:Later cx g g σ ((.o id,.none)::σ) w w nx:=by
  refine⟨Ext.refl _ _,Below.refl _ _,fun b hb => .inl (own_drop hG ho hb).1,fun j o' _ h=>⟨o',hl.o _ _ h,?_⟩⟩
  cases o' <;> simp[ObLe]
 have hG2:SimG cx ((.o id,.none)::σ) a w g nx :=
  hG.next hlat ((get_cons_ne (by simp)).trans hG.hnx) (Nat.le_refl _) hG.size hG.defers (Below.refl _ _) (fun j av hj => .inl ⟨hl.s _ _ hj,rfl⟩) (fun j o hj => .inl ⟨hl.o _ _ hj,rfl,fun _ _=>rfl⟩)
   (fun j j' o o' b h1 h2=>hG.sep j j' o o' b (hl.o _ _ h1) (hl.o _ _ h2))
 have hlt:b0 < w.heap.size:=by
  rcases Nat.lt_or_ge b0 w.heap.size with h|h
  ·
   exact h
  ·
   rw[Array.getElem?_eq_none h]at h2;cases h2
 refine Sim.retell hG2 (av := .d (refD ds)) (rd_ref ⟨_,hv,fun h=>(own_drop hG ho h).2 (by rw[hg0];rfl),hlt,fun j z hz=>?_⟩) trivial
 have hjl:j < cs.size:=by rw[h3];simpa using(List.getElem?_eq_some_iff.1 hz).1
 have hcs:cs[j]? = some cs[j]:=Array.getElem?_eq_getElem hjl
 refine⟨cs[j],by rw[add_lit];simp[World.cell?,h2,hcs],h4 _ _ hcs,?_⟩
 exact Rd.less (fun b hb=>(own_drop hG ho hb).1) (h5 j _ (.d z) (by rw[List.getElem?_map,hz];rfl) hcs)
theorem argsOk_get {own:Nat→Prop}:∀ {vs:List Value}{ds:List D},ArgsOk w own vs (ds.map Arg.d)→vs.length=ds.length∧∀ (j:Nat) (x:D) (c:Value),ds[j]? = some x→vs[j]? = some c→Rd w own c x
 | [],[],_=>⟨rfl,by simp⟩
 |v::vs,y::ds,h=>by
  obtain⟨h1,h2⟩:=argsOk_get h.2
  refine⟨by simp[h1],fun j x c hj hc=>?_⟩
  cases j with
  |zero=>simp at hj hc;subst hj;subst hc;exact h.1
  |succ j=>exact h2 j x c (by simpa using hj) (by simpa using hc)
 | [],y::ds,h=>h.elim
 |v::vs,[],h=>h.elim
theorem argsOk_append {own:Nat→Prop}:∀ {vs us:List Value}{xs ys:List Arg},ArgsOk w own vs xs→ArgsOk w own us ys→ArgsOk w own (vs++us) (xs++ys)
 | [],us,[],ys,_,h=>h
 |v::vs,us,x::xs,ys,h,h'=>⟨h.1,argsOk_append h.2 h'⟩
 | [],us,x::xs,ys,h,_=>h.elim
 |v::vs,us,[],ys,h,_=>h.elim
theorem a_mkfn {f:FuncId}{xs:List Operand}{avs:List AV}{ds:List D}{l:List (Key×Val)}(hd:Nat.blt d cx.n=true) (hsub:SubsE σ xs avs (ds.map Arg.d) l) :
  OA cx σ ⟨some d,.makeFunc (.func f) #[] ⟨xs⟩,ty,pos,af,gd⟩ ⟨l,[(.s d,.av (.d (fnD f ds)))]⟩:=by
 refine⟨ok_val rfl (lt_of_blt hd) fun σ1 a w g nx hs hr=>⟨.func (.func f) #[] (xs.map a.eval).toArray,w,?_,Below.refl _ _,?_,trivial⟩,hsub.out.2⟩
 ·
  simp[execOp,Instr.makeFunc]
 ·
  obtain⟨h1,h2⟩:=argsOk_get (hsub.out.1.ok hs hr)
  exact rd_fn ⟨_,rfl,by simpa using h1,fun j x c hj hc=>h2 j x c hj (by simpa using hc)⟩
inductive Caps:List D→List Arg→Prop
 |nil:Caps [] []
 |ref {cs ds:List D} {zs:List Arg} (h:Caps ds zs):Caps (refD cs::ds) (.pd cs::zs)
 |d {x:D} {ds:List D} {zs:List Arg} (h:Caps ds zs):Caps (x::ds) (.d x::zs)
theorem Caps.ok {own:Nat→Prop}{ds:List D}{zs:List Arg}(h:Caps ds zs):∀ {vs:List Value},vs.length=ds.length→(∀ (j:Nat) (x:D) (c:Value),ds[j]? = some x→vs[j]? = some c→Rd w own c x)→ArgsOk w own vs zs:=by
 induction h with
 |nil =>
  intro vs hl _
  obtain rfl:vs=[]:=List.eq_nil_of_length_eq_zero hl
  trivial
 |@ref cs ds zs h ih =>
  intro vs hl hr
  cases vs with
  |nil=>simp at hl
  |cons v vs =>
   obtain⟨ad,h1,_,h2,h3⟩:=rd_x (hr 0 _ v rfl rfl)
   exact⟨⟨ad,h1,h2,h3⟩,ih (by simpa using hl) fun j x c hj hc=>hr (j+1) x c (by simpa using hj) (by simpa using hc)⟩
 |@d x ds zs h ih =>
  intro vs hl hr
  cases vs with
  |nil=>simp at hl
  |cons v vs=>exact⟨hr 0 _ v rfl rfl,ih (by simpa using hl) fun j x c hj hc=>hr (j+1) x c (by simpa using hj) (by simpa using hc)⟩
theorem callfn_run {P:Program}{f:FuncId}{ys:List Arg}{r:Res}(hc:FnOk P f ys r) {ev:Operand→Value}{z:Operand}{xs:List Operand}{ats:Array TypeId}{dd:Option Nat}{cs:Array Value}(hv:ev z = .func (.func f) #[] cs) :
  (execOp ev ⟨dd,.call { callee := .value z,args:=⟨xs⟩,argTypes:=ats },ty,pos,af,gd⟩).run P w = .ok (.enter f (xs.map ev++cs.toList).toArray) w:=by
 obtain⟨fn,h1,h2,h3⟩:=hc.run
 simp only[execOp,resolve,Deferred.ofValue,hv,invoke,callFunc,Sem.run_bind,Sem.run_pure,Result.andThen_ok,run_program,h1,h2,h3,Bool.false_eq_true,if_false]
 simp
theorem a_callfn {f:FuncId}{z:Operand}{xs:List Operand}{avs:List AV}{ys zs:List Arg}{l:List (Key×Val)}{r:Res}{ats:Array TypeId}{ds:List D}(hc:FnOk cx.P f (ys++zs) r) (hcap:Caps ds zs)
  (hz:ev σ z=some (.d (fnD f ds))) (hd:Nat.blt d cx.n=true) (hsub:SubsE σ xs avs ys l) :
  OA cx σ ⟨some d,.call { callee := .value z,args:=⟨xs⟩,argTypes:=ats },ty,pos,af,gd⟩ ⟨rdOf z (.d (fnD f ds))++l,[(.s d,.av r.av)]⟩:=by
 refine⟨?_,(ev_out hz).2.append hsub.out.2⟩
 rintro σ1 a w K Q ⟨g,nx,hs⟩ hr hK
 obtain⟨cs,hv,h1,h2⟩:=rd_x (hs.ev (ev_out hz).1 hr.left).1
 have hcall:=hc.calls w (cx.own g σ1) (xs.map a.eval++cs.toList) ⟨fun b hb=>own_lt hs hb,hs.gl⟩ (argsOk_append (hsub.out.1.ok hs hr.right) (hcap.ok (by simpa using h1) fun j x c hj hc=>h2 j x c hj (by simpa using hc)))
 unfold Oper.wp
 rw[callfn_run hc hv]
 refine hcall.mono fun e w' he=>?_
 obtain⟨v,rfl,hb,hres⟩:=he
 obtain⟨h1,h2⟩:=Res.rep (nx:=nx) hres
 exact hK _ _ (Sim.put hs (lt_of_blt hd) hb h1 h2)
inductive CapsM (x0:Value) (M:List (List UInt8×Value)):List D→List Arg→Prop
 |nil:CapsM x0 M [] []
 |map {ds:List D} {zs:List Arg} (h:CapsM x0 M ds zs):CapsM x0 M (refD [.v x0]::ds) (.pd [mapD M]::zs)
 |ref {cs ds:List D} {zs:List Arg} (h:CapsM x0 M ds zs):CapsM x0 M (refD cs::ds) (.pd cs::zs)
theorem CapsM.ok {own own':Nat→Prop}{x0:Value}{M:List (List UInt8×Value)}(ho:∀ b,own' b→own b) (hm:Rd w own' x0 (mapD M)) {ds:List D}{zs:List Arg}(h:CapsM x0 M ds zs) :
  ∀ {vs:List Value},vs.length=ds.length→(∀ (j:Nat) (x:D) (c:Value),ds[j]? = some x→vs[j]? = some c→Rd w own c x)→ArgsOk w own' vs zs:=by
 induction h with
 |nil =>
  intro vs hl _
  obtain rfl:vs=[]:=List.eq_nil_of_length_eq_zero hl
  trivial
 |@map ds zs h ih =>
  intro vs hl hr
  cases vs with
  |nil=>simp at hl
  |cons v vs =>
   obtain⟨ad,h1,_,h2,h3⟩:=rd_x (hr 0 _ v rfl rfl)
   refine⟨⟨ad,h1,h2,fun j z hz=>?_⟩,ih (by simpa using hl) fun j x c hj hc=>hr (j+1) x c (by simpa using hj) (by simpa using hc)⟩
   cases j with
   |zero =>
    simp at hz;subst hz
    obtain⟨u,h4,h5,h6⟩:=h3 0 _ rfl
    rw[rd_v h6]at h4 h5
    exact⟨x0,h4,h5,hm⟩
   |succ j=>simp at hz
 |@ref cs ds zs h ih =>
  intro vs hl hr
  cases vs with
  |nil=>simp at hl
  |cons v vs =>
   obtain⟨ad,h1,_,h2,h3⟩:=rd_x (hr 0 _ v rfl rfl)
   exact⟨⟨ad,h1,h2,fun j z hz=>by obtain⟨u,h4,h5,h6⟩:=h3 j z hz;exact⟨u,h4,h5,h6.less ho⟩⟩,ih (by simpa using hl) fun j x c hj hc=>hr (j+1) x c (by simpa using hj) (by simpa using hc)⟩
theorem a_callfnM {f:FuncId}{z:Operand}{xs:List Operand}{avs:List AV}{ys zs:List Arg}{l:List (Key×Val)}{r:Res}{ats:Array TypeId}{ds:List D}{id:Nat}{x0:Value}{M:List (List UInt8×Value)}
  (hc:FnOk cx.P f (ys++zs) r) (hcap:CapsM x0 M ds zs) (hp:plainR r=true) (ho:get σ (.o id) = .ob (.mp M x0)) (hz:ev σ z=some (.d (fnD f ds))) (hd:Nat.blt d cx.n=true) (hsub:SubsE σ xs avs ys l) :
  OA cx σ ⟨some d,.call { callee := .value z,args:=⟨xs⟩,argTypes:=ats },ty,pos,af,gd⟩ ⟨rdOf z (.d (fnD f ds))++(l++[(.o id,.ob (.mp M x0))]),[(.s d,.av r.av)]⟩:=by
 refine⟨?_,(ev_out hz).2.append (hsub.out.2.append ⟨ho,trivial⟩)⟩
 rintro σ1 a w K Q ⟨g,nx,hs⟩ hr hK
 have ho1:get σ1 (.o id) = .ob (.mp M x0):=hr.right.right.1
 obtain⟨cs,hv,h1,h2⟩:=rd_x (hs.ev (ev_out hz).1 hr.left).1
 obtain⟨_,⟨hgx,b,es,clock,hx0,hge,hh,hmi⟩,_⟩:=hs.objs id _ ho1
 have hblt:b < w.heap.size:=by
  rcases Nat.lt_or_ge b w.heap.size with h|h
  ·
   exact h
  ·
   rw[Array.getElem?_eq_none h]at hh;cases hh
 have hm:Rd w (fun c=>cx.own g σ1 c∧blk x0≠some c) x0 (mapD M):=rd_map ⟨b,es,clock,hx0,fun h=>h.2 (by rw[hx0];rfl),hblt,hh,hmi⟩
 have hcall:=hc.calls w (fun c=>cx.own g σ1 c∧blk x0≠some c) (xs.map a.eval++cs.toList) ⟨fun b hb=>own_lt hs hb.1,hs.gl⟩
  (argsOk_append ((hsub.out.1.ok hs hr.right.left).less fun b hb=>hb.1) (hcap.ok (fun b hb=>hb.1) hm (by simpa using h1) fun j x c hj hc=>h2 j x c hj (by simpa using hc)))
 unfold Oper.wp
 rw[callfn_run hc hv]
 refine hcall.mono fun e w' he=>?_
 obtain⟨v,rfl,hb,hres⟩:=he
 obtain⟨h1,h2⟩:=Res.rep (nx:=nx) (plainR_ok hp (own':=cx.own g σ1) hres)
 exact hK _ _ (Sim.put hs (lt_of_blt hd) hb h1 h2)
def mget (M:List (List UInt8×Value)) (k:List UInt8):Option Value:=match M with
 | []=>none
 |(s,v)::r=>if s=k then some v else mget r k
def mset (M:List (List UInt8×Value)) (k:List UInt8) (v:Value):List (List UInt8×Value):=match M with
 | []=>[(k,v)]
 |(s,u)::r=>if s=k then (s,v)::r else (s,u)::mset r k v
def mfind (k:List UInt8):List (List UInt8×Value)→Nat→Option (Nat×Value)
 | [],_=>none
 |(s,v)::r,i=>if s=k then some (i,v) else mfind k r (i+1)
theorem findNow_eq (k:List UInt8):∀ {es:List MapEntry}{M:List (List UInt8×Value)}(i:Nat),es.map (fun e=>(e.key,e.val))=M.map (fun p=>(Value.string ⟨p.1.toArray⟩,p.2)) →
  Instr.findNow .string (.string ⟨k.toArray⟩) es i=some ((mfind k M i).map fun p=>(p.1,p.2))
 | [],[],i,_=>rfl
 | [],p::M,i,h=>by simp at h
 |e::es,[],i,h=>by simp at h
 |e::es,(s,v)::M,i,h=>by
  simp only[List.map_cons,List.cons.injEq,Prod.mk.injEq]at h
  obtain⟨⟨h1,h2⟩,h3⟩:=h
  obtain⟨r,hr,hiff⟩:=MapKept.sameNow_of_keys (d := .string) (a := .string ⟨k.toArray⟩) (b := .string ⟨s.toArray⟩) (by simp[MapKept.IsKey]) (by simp[MapKept.IsKey])
  rw[← h1]at hr
  have hs':r=true↔s=k:=by
   rw[hiff]
   simp only[Value.string.injEq,ByteArray.mk.injEq]
   constructor
   ·
    intro h
    have:=congrArg Array.toList h
    simpa using this.symm
   ·
    rintro rfl;rfl
  simp only[Instr.findNow,hr,mfind]
  by_cases hs:s=k
  ·
   rw[if_pos hs]
   have hrt:=hs'.2 hs
   subst hrt
   simp[h2]
  ·
   rw[if_neg hs]
   have hrf:r=false:=by
    cases r with
    |false=>rfl
    |true=>exact absurd (hs'.1 rfl) hs
   subst hrf
   exact findNow_eq k (i+1) h3
theorem mfind_get (k:List UInt8):∀ (M:List (List UInt8×Value)) (i:Nat),(mfind k M i).map (·.2)=mget M k
 | [],_=>rfl
 |(s,v)::M,i=>by
  simp only[mfind,mget]
  split
  ·
   rfl
  ·
   exact mfind_get k M (i+1)
end Go.AX
namespace Go.AX
open Go.RowKit
variable {cx:Cx}{g:Nat→Value}{σ σ':St}{a:Act}{w w':World}{nx:Nat}
variable {ty:TypeId}{pos:String}{af:Array Edge}{gd:Option (Nat×Bool)}{d:Nat}
def flat:Value→Prop
 |.agg cs=>∀ c∈cs.toList,Value.oneCell' c=true
 |_=>True
def dv:Value→D
 |.agg cs => .agg (cs.toList.map D.v)
 |v => .v v
theorem rd_dv {own:Nat→Prop}{v:Value}(h:flat v):Rd w own v (dv v):=by
 cases v with
 |agg cs =>
  refine .agg _ _ (by simp) (fun j c hc=>h c (List.mem_of_getElem? (by simpa using hc))) fun j x c hx hc=>?_
  rw[List.getElem?_map]at hx
  have hc':cs.toList[j]? = some c:=by simpa using hc
  rw[hc']at hx
  simp at hx;subst hx
  exact Rd.v _
 |_=>exact Rd.v _
structure MapTy (cx:Cx) (t te:TypeId) (zv:Value):Prop where
 u:∃ tk,cx.P.underlying t=some (.map tk te)∧cx.P.underlying tk=some .string
 z:∀ w,(zeroValue te).run cx.P w = .ok zv w
theorem MapTy.st {t te:TypeId}{ti:TI}(hu:∃ tk,cx.P.underlying t=some (.map tk te)∧cx.P.underlying tk=some .string) (he:tget cx.T te=some ti) (h2:ti.zero.length≠1):MapTy cx t te (.agg ti.zero.toArray):=by
 refine⟨hu,fun w=>?_⟩
 obtain⟨i,hi,_,_,z,hz,hc⟩:=(cx.hT te ti he).info
 have hag:z = .agg ti.zero.toArray:=by
  cases z with
  |agg cs =>
   have:cs.toList=ti.zero:=hc
   rw[← this]
  |_=>exact absurd (by rw[← hc];rfl) h2
 subst hag
 simp[zeroValue,typeInfo,hi,hz]
def mlook (zv:Value) (M:List (List UInt8×Value)) (k:List UInt8):Value:=(mget M k).getD zv
theorem run_mlook {t te:TypeId}{zv:Value}(h:MapTy cx t te zv) {b:Nat}{es:Array MapEntry}{clock:Nat}{M:List (List UInt8×Value)}(hb:w.heap[b]? = some (.map es clock)) (hm:MapIs es M) (k:List UInt8) (ok:Bool) :
  (Instr.lookup t (.map (some b)) (.string ⟨k.toArray⟩) ok).run cx.P w = .ok (if ok then .tuple #[mlook zv M k,.bool (mget M k).isSome] else mlook zv M k) w:=by
 obtain⟨tk,h1,h2⟩:=h.u
 have hf:=findNow_eq k 0 hm
 have hg:=mfind_get k M 0
 have hck:(Instr.checkKey es.isEmpty 10000 tk (.string ⟨k.toArray⟩)).run cx.P w = .ok () w:=MapKept.run_checkKey h2 (by simp[MapKept.IsKey]) _ 9999
 have hz:=h.z w
 cases hfd:mfind k M 0 with
 |none =>
  rw[hfd]at hf hg
  simp only[Option.map_none]at hf hg
  cases ok <;> simp[Instr.lookup,run_underlying h1,MapKept.run_getObj_map hb,hck,Instr.findKey,run_underlying h2,hf,hz,mlook,← hg,Result.andThen]
 |some p =>
  rw[hfd]at hf hg
  simp only[Option.map_some]at hf hg
  cases ok <;> simp[Instr.lookup,run_underlying h1,MapKept.run_getObj_map hb,hck,Instr.findKey,run_underlying h2,hf,mlook,← hg,Result.andThen]
theorem tup_rep {v:Value}{r:Bool}(h1:flat v):Rep cx g σ w (.tuple #[v,.bool r]) (.tup [.d (dv v),.d (.v (.bool r))]):=by
 refine⟨_,rfl,rfl,fun j c av hj hc=>?_⟩
 match j,hj,hc with
 |0,hj,hc =>
  simp at hj hc;subst hj;subst hc
  exact rd_dv h1
 |1,hj,hc=>simp at hj hc;subst hj;subst hc;exact Rd.v _
theorem mget_mem {M:List (List UInt8×Value)}{k:List UInt8}{us:Value}(h:mget M k=some us):∃ p∈M,p.2=us:=by
 induction M with
 |nil=>cases h
 |cons q M ih =>
  obtain⟨s,v⟩:=q
  simp only[mget]at h
  split at h
  ·
   cases h;exact⟨_,List.mem_cons_self ..,rfl⟩
  ·
   obtain⟨p,h1,h2⟩:=ih h
   exact⟨p,List.mem_cons_of_mem _ h1,h2⟩
theorem mlook_flat {zv:Value}{M:List (List UInt8×Value)}{k:List UInt8}(hz:flat zv) (hM:∀ p∈M,flat p.2):flat (mlook zv M k):=by
 unfold mlook
 cases hg:mget M k with
 |none=>exact hz
 |some us =>
  obtain⟨p,h1,rfl⟩:=mget_mem hg
  exact hM p h1
theorem tup_bd {x y:D}:(AV.tup [.d x,.d y]).bd nx:=by
 intro av hav
 simp at hav
 rcases hav with rfl|rfl <;> trivial
theorem a_mlook {t te:TypeId}{zv:Value}{x y:Operand}{x0:Value}{k:List UInt8}{M:List (List UInt8×Value)}(id:Nat) (h:MapTy cx t te zv) (hz:flat zv) (hM:∀ p∈M,flat p.2)
  (hx:ev σ x=some (.d (.v x0))) (hy:ev σ y=some (.d (.v (.string ⟨k.toArray⟩)))) (ho:get σ (.o id) = .ob (.mp M x0)) (hd:Nat.blt d cx.n=true) :
  OA cx σ ⟨some d,.lookup t x y true,ty,pos,af,gd⟩ ⟨rdOf x (.d (.v x0))++(rdOf y (.d (.v (.string ⟨k.toArray⟩)))++[(.o id,.ob (.mp M x0))]),[(.s d,.av (.tup [.d (dv (mlook zv M k)),.d (.v (.bool (mget M k).isSome))]))]⟩:=by
 refine⟨ok_val rfl (lt_of_blt hd) fun σ1 a w g nx hs hr=>?_,(ev_out hx).2.append ((ev_out hy).2.append ⟨ho,trivial⟩)⟩
 have hv:=rep_v (hs.ev (ev_out hx).1 hr.left).1
 have hk:=rep_v (hs.ev (ev_out hy).1 hr.right.left).1
 obtain⟨_,⟨hgx,b,es,clock,hx0,hge,hh,hmi⟩,_⟩:=hs.objs id _ hr.right.right.1
 refine⟨_,w,?_,Below.refl _ _,tup_rep (mlook_flat hz hM),tup_bd⟩
 have:=run_mlook (w:=w) h hh hmi k true
 simp[execOp,hv,hk,hx0,this]
theorem a_mlookd {t te:TypeId}{zv:Value}{x y:Operand}{k:List UInt8}{M:List (List UInt8×Value)}(h:MapTy cx t te zv) (hz:flat zv) (hM:∀ p∈M,flat p.2)
  (hx:ev σ x=some (.d (mapD M))) (hy:ev σ y=some (.d (.v (.string ⟨k.toArray⟩)))) (hd:Nat.blt d cx.n=true) :
  OA cx σ ⟨some d,.lookup t x y true,ty,pos,af,gd⟩ ⟨rdOf x (.d (mapD M))++rdOf y (.d (.v (.string ⟨k.toArray⟩))),[(.s d,.av (.tup [.d (dv (mlook zv M k)),.d (.v (.bool (mget M k).isSome))]))]⟩:=by
 refine⟨ok_val rfl (lt_of_blt hd) fun σ1 a w g nx hs hr=>?_,(ev_out hx).2.append (ev_out hy).2⟩
 obtain⟨b,es,clock,hx0,_,_,hh,hmi⟩:=rd_x (hs.ev (ev_out hx).1 hr.left).1
 have hk:=rep_v (hs.ev (ev_out hy).1 hr.right).1
 refine⟨_,w,?_,Below.refl _ _,tup_rep (mlook_flat hz hM),tup_bd⟩
 have:=run_mlook (w:=w) h hh hmi k true
 simp[execOp,hx0,hk,this]
theorem mfind_some {k:List UInt8}{us v:Value}:∀ {M:List (List UInt8×Value)}{j i:Nat},mfind k M j=some (i,v)→∃ n,i=j+n∧M[n]? = some (k,v)∧mset M k us=M.set n (k,us)
 | [],j,i,h=>by cases h
 |(s,u)::M,j,i,h=>by
  simp only[mfind]at h
  by_cases hs:s=k
  ·
   rw[if_pos hs]at h
   cases h
   exact⟨0,rfl,by simp[hs],by simp[mset,hs]⟩
  ·
   rw[if_neg hs]at h
   obtain⟨n,h1,h2,h3⟩:=mfind_some (us:=us) h
   exact⟨n+1,by omega,by simpa using h2,by simp[mset,hs,h3]⟩
theorem mfind_none {k:List UInt8}{us:Value}:∀ {M:List (List UInt8×Value)}{j:Nat},mfind k M j=none→mset M k us=M++[(k,us)]
 | [],j,_=>rfl
 |(s,u)::M,j,h=>by
  simp only[mfind]at h
  by_cases hs:s=k
  ·
   rw[if_pos hs]at h;cases h
  ·
   rw[if_neg hs]at h
   simp[mset,hs,mfind_none h]
theorem run_mset {t te:TypeId}{zv:Value}(h:MapTy cx t te zv) {b:Nat}{es:Array MapEntry}{clock:Nat}{M:List (List UInt8×Value)}(hb:w.heap[b]? = some (.map es clock)) (hm:MapIs es M) (k:List UInt8) (us:Value) :
  ∃ es' clock',(Instr.mapUpdate t (.map (some b)) (.string ⟨k.toArray⟩) us).run cx.P w = .ok () { w with heap:=w.heap.setIfInBounds b (.map es' clock') }∧MapIs es' (mset M k us):=by
 obtain⟨tk,h1,h2⟩:=h.u
 have hf:=findNow_eq k 0 hm
 have hck:(Instr.checkKey false 10000 tk (.string ⟨k.toArray⟩)).run cx.P w = .ok () w:=MapKept.run_checkKey h2 (by simp[MapKept.IsKey]) _ 9999
 have hset:∀ o,(setObj b o).run cx.P w = .ok () { w with heap:=w.heap.setIfInBounds b o }:=fun o=>MapKept.run_setObj_map o hb
 cases hfd:mfind k M 0 with
 |none =>
  rw[hfd]at hf
  simp only[Option.map_none]at hf
  refine⟨es.push ⟨.string ⟨k.toArray⟩,us,clock⟩,clock+1,?_,?_⟩
  ·
   simp[Instr.mapUpdate,run_underlying h1,MapKept.run_getObj_map hb,hck,Instr.findKey,run_underlying h2,hf,hset,Result.andThen]
  ·
   rw[mfind_none hfd]
   unfold MapIs at hm ⊢
   simp[hm]
 |some p =>
  obtain⟨i,v⟩:=p
  rw[hfd]at hf
  simp only[Option.map_some]at hf
  obtain⟨n,hn,h3,h4⟩:=mfind_some (us:=us) hfd
  obtain rfl:i=n:=by omega
  have hes:(es.toList.map fun e=>(e.key,e.val))[i]? = some (Value.string ⟨k.toArray⟩,v):=by
   unfold MapIs at hm
   rw[hm,List.getElem?_map,h3];rfl
  obtain⟨e,he,hek⟩:∃ e,es[i]? = some e∧e.key=Value.string ⟨k.toArray⟩:=by
   rw[List.getElem?_map]at hes
   cases hx:es.toList[i]? with
   |none=>rw[hx]at hes;cases hes
   |some e =>
    rw[hx]at hes
    simp at hes
    exact⟨e,by simpa using hx,hes.1⟩
  refine⟨es.modify i fun e=>{ e with key := .string ⟨k.toArray⟩,val:=us },clock,?_,?_⟩
  ·
   have hst:(Instr.keyThatStays (((es[i]?).map (·.key)).getD (.string ⟨k.toArray⟩)) (.string ⟨k.toArray⟩)).run cx.P w = .ok (.string ⟨k.toArray⟩) w:=by
    rw[he]
    simp only[Option.map_some,Option.getD_some,hek]
    have hbb:((⟨k.toArray⟩:ByteArray)==⟨k.toArray⟩)=true:=(MapKept.bytes_beq _ _).2 rfl
    simp[Instr.keyThatStays,Instr.sameBits,hbb]
   simp[Instr.mapUpdate,run_underlying h1,MapKept.run_getObj_map hb,hck,Instr.findKey,run_underlying h2,hf,hst,hset,Result.andThen]
  ·
   rw[h4]
   unfold MapIs at hm ⊢
   rw[List.map_set,← hm]
   apply List.ext_getElem?
   intro j
   rw[List.getElem?_map,Array.getElem?_toList,Array.getElem?_modify]
   by_cases hj:i=j
   ·
    subst hj
    have hlt:=(Array.getElem?_eq_some_iff.1 he).1
    rw[if_pos rfl,List.getElem?_set_self (by simpa using hlt),he]
    rfl
   ·
    rw[if_neg hj,List.getElem?_set_ne hj,List.getElem?_map,Array.getElem?_toList]
inductive ValV:AV→Value→Prop
 |v {u:Value}:ValV (.d (.v u)) u
 |agg {av:AV} {us:List Value} (h:AggV av us):ValV av (.agg us.toArray)
theorem rep_valv {v u:Value}{av:AV}(h:ValV av u) (hr:Rep cx g σ w v av):v=u:=by
 cases h with
 |v=>exact rep_v hr
 |agg h=>exact rep_aggv h hr
theorem a_mset {t te:TypeId}{zv:Value}{x y z:Operand}{x0:Value}{av:AV}{k:List UInt8}{us:Value}{M:List (List UInt8×Value)}(id:Nat) (h:MapTy cx t te zv)
  (hx:ev σ x=some (.d (.v x0))) (hy:ev σ y=some (.d (.v (.string ⟨k.toArray⟩)))) (hz:ev σ z=some av) (hu:ValV av us) (ho:get σ (.o id) = .ob (.mp M x0)) :
  OA cx σ ⟨none,.mapUpdate t x y z,ty,pos,af,gd⟩ ⟨rdOf x (.d (.v x0))++(rdOf y (.d (.v (.string ⟨k.toArray⟩)))++(rdOf z av++[(.o id,.ob (.mp M x0))])),[(.o id,.ob (.mp (mset M k us) x0))]⟩:=by
 refine⟨?_,(ev_out hx).2.append ((ev_out hy).2.append ((ev_out hz).2.append ⟨ho,trivial⟩))⟩
 rintro σ1 a w K Q ⟨g,nx,hs⟩ hr hK
 have hv:=rep_v (hs.ev (ev_out hx).1 hr.left).1
 have hk:=rep_v (hs.ev (ev_out hy).1 hr.right.left).1
 have hzv:=rep_valv hu (hs.ev (ev_out hz).1 hr.right.right.left).1
 have ho1:get σ1 (.o id) = .ob (.mp M x0):=hr.right.right.right.1
 obtain⟨hid,⟨hgx,b,es,clock,hx0,hge,hh,hmi⟩,_⟩:=hs.objs id _ ho1
 obtain⟨es',clock',hrun,hmi'⟩:=run_mset (w:=w) h hh hmi k us
 have hblt:b < w.heap.size:=by
  rcases Nat.lt_or_ge b w.heap.size with h|h
  ·
   exact h
  ·
   rw[Array.getElem?_eq_none h]at hh;cases hh
 have hgb:blk (g id)=some b:=by rw[hgx,hx0];rfl
 have hoth:∀ c,c≠b→({ w with heap:=w.heap.setIfInBounds b (.map es' clock') }:World).heap[c]? = w.heap[c]? := fun c hc=>by
  show(w.heap.setIfInBounds b _)[c]? = _
  rw[Array.getElem?_setIfInBounds,if_neg (fun e=>hc e.symm)]
 have hst:ObjStep cx σ1 g nx nx w { w with heap:=w.heap.setIfInBounds b (.map es' clock') } id (.mp (mset M k us) x0) (g id):=by
  refine⟨.inr ⟨rfl,_,ho1,trivial⟩,⟨rfl,rfl,rfl,by simp,fun c hc=>hoth c (by have:=hs.below.size;omega)⟩,fun c hc hn=>hoth c fun e=>hn _ ho1 (by rw[hgb,e]),fun c hc => .inl ⟨_,ho1,hc⟩⟩
 have hG:=SimG.obj hs hst (fun _=>⟨by rw[upd_same];exact hgx,b,es',clock',hx0,hge,by show(w.heap.setIfInBounds b _)[b]? = _;rw[Array.getElem?_setIfInBounds,if_pos rfl,if_pos hblt],hmi'⟩) trivial
 unfold Oper.wp
 have hex:(execOp a.eval ⟨none,.mapUpdate t x y z,ty,pos,af,gd⟩).run cx.P w = .ok .skip { w with heap:=w.heap.setIfInBounds b (.map es' clock') }:=by
  simp[execOp,hv,hk,hzv,hx0,hrun]
 rw[hex]
 refine hK _ _ (Sim.eqv ⟨_,_,hG⟩ fun q=>?_)
 cases q with
 |s i=>rw[objSt_s];exact(get_cons_ne (by simp)).symm
 |o i =>
  by_cases hi:i=id
  ·
   subst hi;rw[get_cons_same];exact get_cons_same.symm
  ·
   rw[objSt_o hi];exact(get_cons_ne (by simpa using fun e=>hi e.symm)).symm
 |nx=>rw[objSt_nx];exact hs.hnx.symm.trans (get_cons_ne (by simp)).symm
theorem fam_mkmap {t:TypeId}{n0:Nat}(hn:get σ .nx = .num n0) (hd:Nat.blt d cx.n=true) (a:Act) (w:World) (K:Act→World→Prop) (Q:Exit→Act→World→Prop) (hs:Sim cx σ a w)
  (hK:∀ (x:Value) a' w',Sim cx ([(.s d,.av (.d (.v x))),(.o n0,.ob (.mp [] x)),(.nx,.num (n0+1))]++σ) a' w'→K a' w') :
  (⟨some d,.makeMap t none,ty,pos,af,gd⟩:Oper).wp cx.P a w K Q:=by
 obtain⟨g,nx,hs⟩:=hs
 have hnx:nx=n0:=by
  have h2:=hs.hnx
  rw[hn]at h2
  simpa using h2.symm
 subst hnx
 have hex:(execOp a.eval ⟨some d,.makeMap t none,ty,pos,af,gd⟩).run cx.P w = .ok (.value (.map (some w.heap.size))) (w.alloc (.map #[] 0)):=by
  simp[execOp,Instr.makeMap,newObj]
  rfl
 have hb:Below w.heap.size w (w.alloc (.map #[] 0)):=(Below.refl _ _).alloc (Nat.le_refl _) _
 have hst:ObjStep cx σ g nx (nx+1) w (w.alloc (.map #[] 0)) nx (.mp [] (.map (some w.heap.size))) (.map (some w.heap.size)) :=
  ⟨.inl ⟨rfl,rfl⟩,hb.mono hs.below.size,fun c hc _=>hb.block c hc,fun c hc => .inr (by cases hc;exact Nat.le_refl _)⟩
 have hG:=SimG.obj hs hst (fun _=>⟨upd_same _ _ _,w.heap.size,#[],0,rfl,hs.below.size,heap_alloc_new w _,rfl⟩) trivial
 refine wp_val rfl hex (hK (.map (some w.heap.size)) _ _ ?_)
 refine Sim.eqv (Sim.put hG (lt_of_blt hd) (Below.refl _ _) (av := .d (.v (.map (some w.heap.size)))) (Rd.v _) trivial) fun q=>?_
 cases q with
 |s i =>
  by_cases hi:i=d
  ·
   subst hi;rw[get_cons_same];exact get_cons_same.symm
  ·
   rw[get_cons_ne (by simpa using fun e=>hi e.symm),objSt_s]
   exact((get_cons_ne (by simpa using fun e=>hi e.symm)).trans ((get_cons_ne (by simp)).trans (get_cons_ne (by simp)))).symm
 |o i =>
  rw[get_cons_ne (by simp)]
  by_cases hi:i=nx
  ·
   subst hi;rw[get_cons_same];exact((get_cons_ne (by simp)).trans get_cons_same).symm
  ·
   rw[objSt_o hi]
   exact((get_cons_ne (by simp)).trans ((get_cons_ne (by simpa using fun e=>hi e.symm)).trans (get_cons_ne (by simp)))).symm
 |nx =>
  rw[get_cons_ne (by simp),objSt_nx]
  exact((get_cons_ne (by simp)).trans ((get_cons_ne (by simp)).trans get_cons_same)).symm
theorem map_known {id:Nat}{M:List (List UInt8×Value)}{x:Value}(ho:get σ (.o id) = .ob (.mp M x)) (a:Act) (w:World) (hs:Sim cx σ a w):∃ b,x = .map (some b):=by
 obtain⟨g,nx,hs⟩:=hs
 obtain⟨_,⟨_,b,_,_,h,_⟩,_⟩:=hs.objs id _ ho
 exact⟨b,h⟩
theorem a_nilp {x:Operand}{id off:Nat}{cells:List AV}(hx:ev σ x=some (.ptr id off)) (ho:get σ (.o id) = .ob (.box cells)) (hd:Nat.blt d cx.n=true) :
  OA cx σ ⟨some d,.nilCheck x,ty,pos,af,gd⟩ ⟨rdOf x (.ptr id off)++[(.o id,.ob (.box cells))],[(.s d,.av (.ptr id off))]⟩ :=
 ⟨ok_nilCheck_ptr (lt_of_blt hd) (ev_out hx).1,(ev_out hx).2.append ⟨ho,trivial⟩⟩
end Go.AX
namespace Go.RF
open Go.AX
abbrev Mk:=List (Str×(Bool×Int))
def mG:Mk→Str→Option (Bool×Int)
 | [],_=>none
 |(s,c)::r,k=>if s=k then some c else mG r k
def mS:Mk→Str→Bool×Int→Mk
 | [],k,c=>[(k,c)]
 |(s,u)::r,k,c=>if s=k then (s,c)::r else (s,u)::mS r k c
def chV (c:Bool×Int):List Value:=[.bool c.1,.int .i64 c.2]
def chA (c:Bool×Int):Value := .agg (chV c).toArray
def encM (m:Mk):List (Str×Value):=m.map fun p=>(p.1,chA p.2)
theorem mget_enc (m:Mk) (k:Str):mget (encM m) k=(mG m k).map chA:=by
 induction m with
 |nil=>rfl
 |cons p m ih =>
  obtain⟨s,c⟩:=p
  simp only[encM,List.map_cons,mget,mG]
  by_cases h:s=k
  ·
   rw[if_pos h,if_pos h];rfl
  ·
   rw[if_neg h,if_neg h];exact ih
theorem mset_enc (m:Mk) (k:Str) (c:Bool×Int):mset (encM m) k (chA c)=encM (mS m k c):=by
 induction m with
 |nil=>rfl
 |cons p m ih =>
  obtain⟨s,u⟩:=p
  simp only[encM,List.map_cons,mset,mS]
  by_cases h:s=k
  ·
   rw[if_pos h,if_pos h];rfl
  ·
   rw[if_neg h,if_neg h]
   show(s,chA u)::mset (encM m) k (chA c)=_
   rw[ih];rfl
theorem encM_one (m:Mk):∀ p∈encM m,flat p.2:=by
 intro p hp
 obtain⟨q,_,rfl⟩:=List.mem_map.1 hp
 intro u hu
 simp[chV]at hu
 rcases hu with rfl|rfl <;> rfl
theorem mG_mS (m:Mk) (k k':Str) (c:Bool×Int):mG (mS m k c) k'=if k=k' then some c else mG m k':=by
 induction m with
 |nil=>simp[mS,mG]
 |cons p m ih =>
  obtain⟨s,u⟩:=p
  simp only[mS]
  by_cases hs:s=k
  ·
   rw[if_pos hs]
   simp only[mG]
   by_cases h:k=k'
   ·
    simp[hs,h]
   ·
    rw[if_neg (by rw[hs];exact h),if_neg h,if_neg (by rw[hs];exact h)]
  ·
   rw[if_neg hs]
   simp only[mG,ih]
   by_cases h:s=k'
   ·
    rw[if_pos h,if_neg (fun e=>hs (by rw[h,e])),if_pos h]
   ·
    rw[if_neg h,if_neg h]
def seeM (view:Str→Int×Bool) (m:Mk) (k:Str):Int:=match mG m k with
 |some c=>c.2
 |none=>(view k).1
def runGo (view:Str→Int×Bool):Int→Mk→Done→List Ins→Mk×Done
 |_,m,e,[]=>(m,e)
 |sk,m,e,i::r =>
  if 0 < sk then runGo view (sk - 1) m e r
  else if i.kind=1 then runGo view sk m (rset e i.a.toNat (seeM view m i.key)) r
  else if i.kind=2 then runGo view sk m (rset e i.a.toNat i.n) r
  else if i.kind=3 then runGo view sk m (rset e i.a.toNat (round (rget e i.a.toNat+rget e i.b.toNat))) r
  else if i.kind=4 then runGo view sk m (rset e i.a.toNat (round (rget e i.a.toNat - rget e i.b.toNat))) r
  else if i.kind=5 then runGo view sk m (rset e i.a.toNat (round (rget e i.a.toNat*rget e i.b.toNat))) r
  else if i.kind=6 then runGo view sk (mS m i.key (true,rget e i.a.toNat)) e r
  else if i.kind=7 then runGo view sk (mS m i.key (false,0)) e r
  else if i.kind=8 then runGo view (if rget e i.a.toNat < 1 then i.n else sk) m e r
  else if rget e i.a.toNat < 0 then (m,bustE e) else runGo view sk m e r
theorem runGo_skip (view:Str→Int×Bool) (m:Mk) (e:Done):∀ (n:Nat) (l:List Ins),runGo view n m e l=runGo view 0 m e (l.drop n)
 |0,l=>rfl
 |n+1,[]=>by simp[runGo]
 |n+1,i::l=>by
  simp only[runGo]
  rw[if_pos (by omega),show(((n+1:Nat):Int) - 1)=(n:Int) by omega,runGo_skip view m e n l,List.drop_succ_cons]
def chg (m:Mk):List Str→List (Str×(Bool×Int))
 | []=>[]
 |k::r=>match mG m k with
  |some c=>(k,c)::chg m r
  |none=>chg m r
def runM (view:Str→Int×Bool) (d:Deed):Mk×Done:=runGo view 0 [] done0 d.code
def runC (view:Str→Int×Bool) (d:Deed):List (Str×(Bool×Int)):=if (runM view d).2.failed=true then [] else chg (runM view d).1 d.writes
def chVer (c:Str×(Bool×Int)):Version:=⟨0,true,c.2.1,c.2.2⟩
def runRes (view:Str→Int×Bool) (d:Deed):List D:=[.agg (runM view d).2.enc,encVs ((runC view d).map chVer),encStrs ((runC view d).map (·.1))]
theorem chg_len (m:Mk):∀ l:List Str,(chg m l).length≤l.length
 | []=>by simp[chg]
 |k::r=>by
  have:=chg_len m r
  simp only[chg]
  split <;> simp <;> omega
def mOk (m:Mk):Prop:=∀ k c,mG m k=some c→nOk c.2
theorem mOk_nil:mOk []:=by intro k c h;cases h
theorem mOk_set {m:Mk}(h:mOk m) (k:Str) {c:Bool×Int}(hc:nOk c.2):mOk (mS m k c):=by
 intro k' c' h'
 rw[mG_mS]at h'
 split at h'
 ·
  cases h';exact hc
 ·
  exact h k' c' h'
theorem see_ok {view:Str→Int×Bool}{m:Mk}{k:Str}(hv:nOk (view k).1) (hm:mOk m):nOk (seeM view m k):=by
 unfold seeM
 split
 ·
  next c h=>exact hm k c h
 ·
  exact hv
end Go.RF
namespace Go.Proofs
open Go.Shelf Go.RowKit
def Tryz.lays106_ren:Go.Shelf.Ren:=⟨fun|106=>126|213=>161|265=>180|n=>n,fun|9=>9|3=>3|n=>n,fun|n=>n⟩
theorem Tryz.lays106:Go.Proofs.Lays.n106 Tryz.prog Tryz.lays106_ren:={
 mixed:=by kernel_rfl
 f106:=Tryz.func126.trans (congrArg some (by kernel_rfl))
 f213:=Tryz.func161.trans (congrArg some (by kernel_rfl))
 f265:=Tryz.func180.trans (congrArg some (by kernel_rfl))
 t3:=Tryz.underlying3
 a3:=Tryz.isAgg3
 z3:=Tryz.sizeOf3
 v3:=Tryz.zeroValue3
 t9:=Tryz.underlying9
 a9:=Tryz.isAgg9
 z9:=Tryz.sizeOf9
 v9:=Tryz.zeroValue9 }
theorem Tryz.strings_Compare (a b:ByteArray) (w:World) :
  Calls Tryz.prog 126 #[.string a,.string b] w fun e w'=>e = .returned (.int .i64 (Lib.compareBytes a.data.toList b.data.toList))∧w'=w:=Any.strings_Compare Tryz.lays106 a b w
end Go.Proofs
namespace Go.Proofs.YtccblhpfjlgmbabGreatDoor
open Go.AX Go.RF Go.RowKit
set_option maxRecDepth 100000
set_option maxHeartbeats 4000000
def cmpT (a b:Str):Int:=if slt a b=true then -1 else if a=b then 0 else 1
theorem compare_eq:∀ (a b:Str),Lib.compareBytes a b=cmpT a b
 | [],[]=>by simp[Lib.compareBytes,cmpT,bl_nil]
 | [],b::r=>by simp[Lib.compareBytes,cmpT,bl_nil_cons]
 |a::l,[]=>by simp[Lib.compareBytes,cmpT,bl_nil]
 |a::l,b::r=>by
  simp only[Lib.compareBytes,cmpT,bl_cons]
  by_cases h1:a < b
  ·
   simp[h1]
  ·
   by_cases h2:b < a
   ·
    have h3:¬ a=b:=fun h=>by subst h;exact h1 h2
    simp[h1,h2,h3]
   ·
    have h3:a=b:=UInt8.le_antisymm (UInt8.not_lt.1 h2) (UInt8.not_lt.1 h1)
    subst h3
    rw[compare_eq l r]
    simp[h1,cmpT]
theorem cmpT_lt {a b:Str}:cmpT a b < 0↔slt a b=true:=by
 unfold cmpT
 split
 ·
  next h=>simp[h]
 ·
  next h=>split <;> simp[h]
theorem cmpT_zero {a b:Str}:cmpT a b=0↔a=b:=by
 unfold cmpT
 split
 ·
  next h =>
  constructor
  ·
   intro h0;simp at h0
  ·
   intro h0;subst h0;rw[slt_irrefl]at h;cases h
 ·
  split <;> simp_all
theorem ok_compare (a b:Str):FnOk Tryz.prog 126 [.d (dstr a),.d (dstr b)] (.one (dint (cmpT a b))):=by
 refine⟨⟨_,Tryz.func126,rfl,rfl⟩,fun w own vs hown ha=>?_⟩
 match vs,ha with
 | [x,y],⟨h1,h2,_⟩ =>
  obtain rfl:x=str a:=rd_v h1
  obtain rfl:y=str b:=rd_v h2
  refine(Tryz.strings_Compare ⟨a.toArray⟩ ⟨b.toArray⟩ w).mono fun e w' he=>?_
  obtain⟨rfl,rfl⟩:=he
  exact⟨_,rfl,Below.refl _ _,by rw[← compare_eq];exact Rd.v _⟩
theorem ok_find1 (c:Chain) (k:Str):FnOk Tryz.prog 125 [.d (.agg c.enc),.d (dstr k)] (.one (dint (cmpT c.key k))):=by
 refine fnOk_of tbl_ok mixed_ok Tryz.func125 rfl (by kernel_rfl) rfl rfl fun w0 own0=>?_
 have hc:=ok_compare c.key k
 try refine wk ?_
 exact .one (.tmp rfl (.one (.d (.refl _))))
abbrev At (l:List Chain) (k:Str) (m:Nat):Prop:=AtK Chain.key l k m
abbrev isAt (l:List Chain) (k:Str) (m:Nat):Bool:=isAtK Chain.key l k m
theorem ok_bsearch (l:List Chain) (k:Str) (m:Nat) (hl:l.length≤268435456) (hm:At l k m) :
  FnOk Tryz.prog 124 [.d (encChains l),.d (dstr k),.d (.v (.func (.func 125) #[] #[]))] (.tup [dint m,dbool (isAt l k m)]):=by
 refine fnOk_of tbl_ok mixed_ok Tryz.func124 rfl (by kernel_rfl) rfl rfl fun w0 own0=>?_
 have hml:=hm.le
 try refine wk ?_
 refine CW.loopT (fun t:Nat×Nat=>[sd 0 (encChains l),sd 1 (dstr k),sd 2 (.v (.func (.func 125) #[] #[])),sd 8 (dint l.length),sd 9 (dint t.1),sd 10 (dint t.2),nxt 0])
  (fun t=>t.1≤m∧m≤t.2∧t.2≤l.length) (fun t=>t.2 - t.1) (0,l.length) ⟨by omega,hm.le,by omega⟩ ?_ ?_
 ·
  exact by_less
 ·
  rintro ⟨i,j⟩ ⟨h1,h2,h3⟩
  dsimp only at h1 h2 h3 ⊢
  by_cases h4:i < j
  ·
   obtain⟨c,hc⟩:∃ c,l[(i+j) / 2]? = some c:=⟨l[(i+j) / 2]'(by omega),List.getElem?_eq_getElem (by omega)⟩
   have hcall:=ok_find1 c k
   have hst0:StopR 4:=⟨rfl⟩
   try refine wkS ?_
   clear hst0
   refine Stop.cutk [sd 11 (dint ((i+j) / 2:Nat))] [.s 0,.s 1,.s 2,.s 8,.s 9,.s 10,.nx] ?_ ?_
   ·
    repeat(first|refine wa ?_|((with_reducible apply s5);(first|((with_reducible apply a_bin);(iterate 2 exact rfl);exact bin_half;exact rfl)|exact by_oa|exact by_ca);exact by_g)|refine wb ?_)
    refine q_cut ?_
    exact by_less
   have hcz:=@cmpT_lt c.key k
   by_cases h5:cmpT c.key k < 0
   ·
    have h6:(i+j) / 2 < m:=by
     rcases Nat.lt_or_ge ((i+j) / 2) m with h|h
     ·
      exact h
     ·
      have:=hm.ge _ c hc h
      rw[hcz.1 h5]at this;cases this
    repeat(first|refine wa ?_|((with_reducible apply s5);(first|exact a_callv hcall rfl rfl by_sub|exact by_oa|exact by_ca);exact by_g)|refine wb ?_)
    refine q_loopT ((i+j) / 2+1,j) ⟨by dsimp only;omega,h2,h3⟩ (by dsimp only;omega) ?_
    exact by_less
   ·
    have h6:m≤(i+j) / 2:=by
     rcases Nat.lt_or_ge ((i+j) / 2) m with h|h
     ·
      exact absurd (hcz.2 (hm.lt _ c hc h)) h5
     ·
      exact h
    repeat(first|refine wa ?_|((with_reducible apply s5);(first|exact a_callv hcall rfl rfl by_sub|exact by_oa|exact by_ca);exact by_g)|refine wb ?_)
    refine q_loopT (i,(i+j) / 2) ⟨h1,h6,by dsimp only;omega⟩ (by dsimp only;omega) ?_
    exact by_less
  ·
   obtain rfl:i=m:=by omega
   cases hc:l[i]? with
   |none =>
    have h5:l.length≤i:=by
     rcases Nat.lt_or_ge i l.length with h|h
     ·
      rw[List.getElem?_eq_getElem h]at hc;cases hc
     ·
      exact h
    try refine wk ?_
    exact .two (.tmp rfl (.one (.d (.refl _)))) (.tmp rfl (.one (.d (dle_bool (by simp[isAtK,hc])))))
   |some c =>
    have h5:i < l.length:=(List.getElem?_eq_some_iff.1 hc).1
    have hcall:=ok_find1 c k
    repeat(first|refine wa ?_|((with_reducible apply s5);(first|exact a_callv hcall rfl rfl by_sub|exact by_oa|exact by_ca);exact by_g)|refine wb ?_)
    refine .two (.tmp rfl (.one (.d (.refl _)))) (.tmp rfl (.one (.d (dle_bool ?_))))
    rw[show isAt l k i=decide (c.key=k) by simp[isAt,isAtK,hc]]
    show decide (cmpT c.key k=0)=decide (c.key=k)
    rw[decide_eq_decide]
    exact cmpT_zero
theorem ok_find (l:List Chain) (k:Str) (m:Nat) (hl:l.length≤268435456) (hm:At l k m):FnOk Tryz.prog 99 [.d (encChains l),.d (dstr k)] (.tup [dint m,dbool (isAt l k m)]):=by
 refine fnOk_of tbl_ok mixed_ok Tryz.func99 rfl (by kernel_rfl) rfl rfl fun w0 own0=>?_
 have hc:=ok_bsearch l k m hl hm
 try refine wk ?_
 exact .two (.tmp rfl (.one (.d (.refl _)))) (.tmp rfl (.one (.d (.refl _))))
end Go.Proofs.YtccblhpfjlgmbabGreatDoor
namespace Go.Proofs.YtccblhpfjlgmbabGreatDoor
open Go.AX Go.RF
set_option maxRecDepth 100000
set_option maxHeartbeats 4000000
theorem new_clone_version (rows:List (List D)) (hl:rows.length≤536870912):FnNew Tryz.prog 123 [.d (.sl 4 rows)] 133 4 rows:=by
 refine fnNew_of tbl_ok mixed_ok Tryz.func123 rfl (by kernel_rfl) rfl rfl fun w0 own0=>?_
 cases rows with
 |nil =>
  refine CW.empty 0 rfl fun p cp=>?_
  cases p with
  |none =>
   try refine wk ?_
   exact RetNew.nil rfl rfl
  |some ad =>
   have hst0:StopR 3:=⟨rfl⟩
   try refine wkS ?_
   clear hst0
   refine Stop.go (CW.stut (stut_nilv (i:=0) (k:=4)) ⟨rfl,trivial⟩ ?_)
   try refine wk ?_
   exact RetNew.own rfl rfl rfl
 |cons r rows =>
  have hl2:rows.length≤536870911:=by simp at hl;omega
  try refine wk ?_
  exact RetNew.own rfl rfl (by simp)
theorem ok_clone_version (rows:List (List D)) (hl:rows.length≤536870912):FnOk Tryz.prog 123 [.d (.sl 4 rows)] (.one (.sl 4 rows)):=(new_clone_version rows hl).ok
theorem new_clone_int (rows:List (List D)) (hl:rows.length≤536870912):FnNew Tryz.prog 97 [.d (.sl 1 rows)] 3 1 rows:=by
 refine fnNew_of tbl_ok mixed_ok Tryz.func97 rfl (by kernel_rfl) rfl rfl fun w0 own0=>?_
 cases rows with
 |nil =>
  refine CW.empty 0 rfl fun p cp=>?_
  cases p with
  |none =>
   try refine wk ?_
   exact RetNew.nil rfl rfl
  |some ad =>
   have hst0:StopR 3:=⟨rfl⟩
   try refine wkS ?_
   clear hst0
   refine Stop.go (CW.stut (stut_nilv (i:=0) (k:=1)) ⟨rfl,trivial⟩ ?_)
   try refine wk ?_
   exact RetNew.own rfl rfl rfl
 |cons r rows =>
  have hl2:rows.length≤536870911:=by simp at hl;omega
  try refine wk ?_
  exact RetNew.own rfl rfl (by simp)
theorem ok_clone_int (rows:List (List D)) (hl:rows.length≤536870912):FnOk Tryz.prog 97 [.d (.sl 1 rows)] (.one (.sl 1 rows)):=(new_clone_int rows hl).ok
theorem new_clone_done (rows:List (List D)) (hl:rows.length≤536870912):FnNew Tryz.prog 98 [.d (.sl 5 rows)] 163 5 rows:=by
 refine fnNew_of tbl_ok mixed_ok Tryz.func98 rfl (by kernel_rfl) rfl rfl fun w0 own0=>?_
 cases rows with
 |nil =>
  refine CW.empty 0 rfl fun p cp=>?_
  cases p with
  |none =>
   try refine wk ?_
   exact RetNew.nil rfl rfl
  |some ad =>
   have hst0:StopR 3:=⟨rfl⟩
   try refine wkS ?_
   clear hst0
   refine Stop.go (CW.stut (stut_nilv (i:=0) (k:=5)) ⟨rfl,trivial⟩ ?_)
   try refine wk ?_
   exact RetNew.own rfl rfl rfl
 |cons r rows =>
  have hl2:rows.length≤536870911:=by simp at hl;omega
  try refine wk ?_
  exact RetNew.own rfl rfl (by simp)
theorem ok_clone_done (rows:List (List D)) (hl:rows.length≤536870912):FnOk Tryz.prog 98 [.d (.sl 5 rows)] (.one (.sl 5 rows)):=(new_clone_done rows hl).ok
theorem new_clone_str (rows:List (List D)) (hl:rows.length≤536870912):FnNew Tryz.prog 54 [.d (.sl 1 rows)] 9 1 rows:=by
 refine fnNew_of tbl_ok mixed_ok Tryz.func54 rfl (by kernel_rfl) rfl rfl fun w0 own0=>?_
 cases rows with
 |nil =>
  refine CW.empty 0 rfl fun p cp=>?_
  cases p with
  |none =>
   try refine wk ?_
   exact RetNew.nil rfl rfl
  |some ad =>
   have hst0:StopR 3:=⟨rfl⟩
   try refine wkS ?_
   clear hst0
   refine Stop.go (CW.stut (stut_nilv (i:=0) (k:=1)) ⟨rfl,trivial⟩ ?_)
   try refine wk ?_
   exact RetNew.own rfl rfl rfl
 |cons r rows =>
  have hl2:rows.length≤536870911:=by simp at hl;omega
  try refine wk ?_
  exact RetNew.own rfl rfl (by simp)
theorem ok_clone_str (rows:List (List D)) (hl:rows.length≤536870912):FnOk Tryz.prog 54 [.d (.sl 1 rows)] (.one (.sl 1 rows)):=(new_clone_str rows hl).ok
theorem new_clone_ins (rows:List (List D)) (hl:rows.length≤536870912):FnNew Tryz.prog 55 [.d (.sl 5 rows)] 81 5 rows:=by
 refine fnNew_of tbl_ok mixed_ok Tryz.func55 rfl (by kernel_rfl) rfl rfl fun w0 own0=>?_
 cases rows with
 |nil =>
  refine CW.empty 0 rfl fun p cp=>?_
  cases p with
  |none =>
   try refine wk ?_
   exact RetNew.nil rfl rfl
  |some ad =>
   have hst0:StopR 3:=⟨rfl⟩
   try refine wkS ?_
   clear hst0
   refine Stop.go (CW.stut (stut_nilv (i:=0) (k:=5)) ⟨rfl,trivial⟩ ?_)
   try refine wk ?_
   exact RetNew.own rfl rfl rfl
 |cons r rows =>
  have hl2:rows.length≤536870911:=by simp at hl;omega
  try refine wk ?_
  exact RetNew.own rfl rfl (by simp)
theorem ok_clone_ins (rows:List (List D)) (hl:rows.length≤536870912):FnOk Tryz.prog 55 [.d (.sl 5 rows)] (.one (.sl 5 rows)):=(new_clone_ins rows hl).ok
theorem ok_chainOwn (l:List Chain) (hl:l.length≤268435456) (hv:∀ c∈l,c.vs.length≤268435456):FnOk Tryz.prog 96 [.d (encChains l)] (.one (encChains l)):=by
 refine fnOk_of tbl_ok mixed_ok Tryz.func96 rfl (by kernel_rfl) rfl rfl fun w0 own0=>?_
 try refine wk ?_
 refine CW.stut (stut_promote (i:=3) 131 2) ⟨rfl,rfl,trivial⟩ ?_
 refine CW.loopT (fun i:Nat=>[sd 6 (encChains l),sd 7 (dint l.length),sd 8 (dint i),so 3 0 i,oa 0 131 2 ((l.take i).map Chain.enc),nxt 1]) (fun i=>i≤l.length) (fun i=>l.length - i) 0 (by omega) ?_ ?_
 ·
  exact by_less
 ·
  rintro i hi
  rcases drop_case hi with ⟨h1,h2⟩|⟨c,h1,h2,h3⟩
  ·
   try refine wk ?_
   exact .one (.tmp rfl (.one (.own rfl (by simp;omega) (dle_eq (by rw[h2,List.take_length];rfl)))))
  ·
   have h4:(l.take i).map Chain.enc++[c.enc]=(l.take (i+1)).map Chain.enc:=by rw[List.take_add_one,h2];simp
   have hcv:=hv c (List.mem_of_getElem? h2)
   have hc:=ok_clone_version (c.vs.map Version.enc) (by simp;omega)
   try refine wk ?_
   refine q_loopT (i+1) (by omega) (by omega) ?_
   exact by_less
theorem ok_deedOwn (d:Deed) (hs:d.Sm):FnOk Tryz.prog 30 [.d (.agg d.enc)] (.one (.agg d.enc)):=by
 refine fnOk_of tbl_ok mixed_ok Tryz.func30 rfl (by kernel_rfl) rfl rfl fun w0 own0=>?_
 have h1:=hs.r
 have h2:=hs.w
 have h3:=hs.c
 have c1:=ok_clone_str (d.reads.map encStr1) (by simp;omega)
 have c2:=ok_clone_str (d.writes.map encStr1) (by simp;omega)
 have c3:=ok_clone_ins (d.code.map Ins.enc) (by simp;omega)
 repeat(first|refine wa ?_|((with_reducible apply s5);(first|exact a_call c1 rfl by_sub|exact a_call c2 rfl by_sub|exact by_oa|exact by_ca);exact by_g)|refine wb ?_)
 exact .one (.cell rfl rfl rfl rfl (.aggd (ds:=d.enc) rfl (.refl _)))
theorem ok_planOwn (e:Engine) (hs:e.Sm):FnOk Tryz.prog 67 [.d (.agg e.enc)] (.one (.agg e.enc)):=by
 refine fnOk_of tbl_ok mixed_ok Tryz.func67 rfl (by kernel_rfl) rfl rfl fun w0 own0=>?_
 have h1:=hs.c
 have h2:=hs.s
 have h3:=hs.n
 have h4:=hs.d
 have c1:=ok_chainOwn e.chains (by omega) (fun c hc=>by have:=hs.v c hc;omega)
 have c2:=ok_clone_int (e.state.map encInt1) (by simp;omega)
 have c3:=ok_clone_done (e.ends.map Done.enc) (by simp;omega)
 try refine wk ?_
 refine CW.stut (stut_promote_cell (id:=2) (j:=1) 28 3 rfl) ⟨rfl,rfl,trivial⟩ ?_
 refine CW.loopT (fun i:Nat=>[sp 2 1,ob 1 noE.enc0,sp 3 2,(.o 2,.ob (.box [.d (encChains e.chains),.own 3 i,.d (encInts e.state),.d (encEnds e.ends),.d (dint e.base)])),sd 19 (encDeeds e.deeds),sd 20 (dint e.deeds.length),sd 21 (dint i),
   oa 3 28 3 ((e.deeds.take i).map Deed.enc),nxt 4]) (fun i=>i≤e.deeds.length) (fun i=>e.deeds.length - i) 0 (by omega) ?_ ?_
 ·
  exact by_less
 ·
  rintro i hi
  rcases drop_case hi with ⟨h5,h6⟩|⟨d,h5,h6,h7⟩
  ·
   have h8:(e.deeds.take i).map Deed.enc=e.deeds.map Deed.enc:=by rw[h6,List.take_length]
   have hst0:StopR 7:=⟨rfl⟩
   try refine wkS ?_
   clear hst0
   refine Stop.go (CW.stut (stut_freeze_cell (id:=2) (j:=1) (i:=3) rfl (by simp;omega)) ⟨rfl,rfl,trivial⟩ ?_)
   try refine wk ?_
   exact .one (.cell rfl rfl rfl rfl (.aggd (ds:=[encChains e.chains,.sl 3 ((e.deeds.take i).map Deed.enc),encInts e.state,encEnds e.ends,dint e.base]) rfl (dle_eq (by rw[h8];rfl))))
  ·
   have h8:(e.deeds.take i).map Deed.enc++[d.enc]=(e.deeds.take (i+1)).map Deed.enc:=by rw[List.take_add_one,h6];simp
   have hd:=ok_deedOwn d (hs.dd d (List.mem_of_getElem? h6))
   try refine wk ?_
   refine q_loopT (i+1) (by omega) (by omega) ?_
   exact by_less
set_option maxHeartbeats 8000000
theorem new_chainOwn (l:List Chain) (hl:l.length≤268435456) (hv:∀ c∈l,c.vs.length≤268435456):FnNew Tryz.prog 96 [.d (encChains l)] 131 2 (l.map Chain.enc):=by
 refine fnNew_of tbl_ok mixed_ok Tryz.func96 rfl (by kernel_rfl) rfl rfl fun w0 own0=>?_
 try refine wk ?_
 refine CW.stut (stut_promote (i:=3) 131 2) ⟨rfl,rfl,trivial⟩ ?_
 refine CW.loopT (fun i:Nat=>[sd 6 (encChains l),sd 7 (dint l.length),sd 8 (dint i),so 3 0 i,oa 0 131 2 ((l.take i).map Chain.enc),nxt 1]) (fun i=>i≤l.length) (fun i=>l.length - i) 0 (by omega) ?_ ?_
 ·
  exact by_less
 ·
  rintro i hi
  rcases drop_case hi with ⟨h1,h2⟩|⟨c,h1,h2,h3⟩
  ·
   subst h2
   rw[List.take_length]
   try refine wk ?_
   exact RetNew.own rfl rfl (by simp)
  ·
   have h4:(l.take i).map Chain.enc++[c.enc]=(l.take (i+1)).map Chain.enc:=by rw[List.take_add_one,h2];simp
   have hcv:=hv c (List.mem_of_getElem? h2)
   have hc:=ok_clone_version (c.vs.map Version.enc) (by simp;omega)
   try refine wk ?_
   refine q_loopT (i+1) (by omega) (by omega) ?_
   exact by_less
def keptRows (l:List Chain) (m:Nat) (c:Chain) (x:Value):List (List D):=(l.map Chain.enc).set m [dstr c.key,.v x]
theorem own2_chain (l:List Chain) (m:Nat) (c0:Chain) (h0:l[m]? = some c0) (hl:l.length≤268435456) (hv:∀ c∈l,c.vs.length≤268435456) :
  FnOwn2 Tryz.prog 96 [.d (encChains l)] 131 2 (keptRows l m c0) 133 4 (c0.vs.map Version.enc):=by
 refine fnOwn2_of tbl_ok mixed_ok Tryz.func96 rfl (by kernel_rfl) rfl rfl fun w0 own0=>?_
 have hml:m < l.length:=(List.getElem?_eq_some_iff.1 h0).1
 try refine wk ?_
 refine CW.stut (stut_promote (i:=3) 131 2) ⟨rfl,rfl,trivial⟩ ?_
 refine CW.loopT (fun t:Nat×Option Value=>match t.2 with
   |none=>[sd 6 (encChains l),sd 7 (dint l.length),sd 8 (dint t.1),so 3 0 t.1,oa 0 131 2 ((l.take t.1).map Chain.enc),nxt 1]
   |some x=>[sd 6 (encChains l),sd 7 (dint l.length),sd 8 (dint t.1),so 3 0 t.1,oa 0 131 2 ((keptRows l m c0 x).take t.1),(.o 2,.ob (.pin 133 4 (c0.vs.map Version.enc) x)),nxt 3])
  (fun t=>t.1≤l.length∧(t.2=none→t.1≤m)∧(t.2≠none→m < t.1)) (fun t=>l.length - t.1) (0,none) ⟨by omega,fun _=>Nat.zero_le _,fun h=>absurd rfl h⟩ ?_ ?_
 ·
  exact by_less
 ·
  rintro ⟨i,o⟩ ⟨hi,hn,hs⟩
  dsimp only at hi hn hs ⊢
  have hkl:∀ x,(keptRows l m c0 x).length=l.length:=fun x=>by simp[keptRows]
  cases o with
  |none =>
   have him:=hn rfl
   dsimp only
   rcases drop_case hi with ⟨h1,h2⟩|⟨c,h1,h2,h3⟩
   ·
    omega
   ·
    have hcv:=hv c (List.mem_of_getElem? h2)
    rcases Nat.lt_or_ge i m with hlt|hge
    ·
     have h4:(l.take i).map Chain.enc++[c.enc]=(l.take (i+1)).map Chain.enc:=by rw[List.take_add_one,h2];simp
     have hc:=ok_clone_version (c.vs.map Version.enc) (by simp;omega)
     try refine wk ?_
     refine q_loopT (i+1,none) ⟨by dsimp only;omega,fun _=>by dsimp only;omega,fun h=>absurd rfl h⟩ (by dsimp only;omega) ?_
     exact by_less
    ·
     obtain rfl:i=m:=by omega
     obtain rfl:c0=c:=by rw[h0]at h2;exact Option.some.inj h2
     have h4:∀ x,(l.take i).map Chain.enc++[[dstr c0.key,.v x]]=(keptRows l i c0 x).take (i+1):=fun x=>by
      rw[keptRows,List.take_add_one,List.getElem?_set_self (by simpa using hml),List.take_set_of_le (Nat.le_refl _),List.map_take];rfl
     have hc:=new_clone_version (c0.vs.map Version.enc) (by simp;omega)
     have hst0:StopX 5:=⟨rfl⟩
     try refine wkS ?_
     clear hst0
     refine Stop.go ?_
     apply CW.drawF (x0:=((none,0,0):Option Addr×Nat×Nat)) (l1:=[_,_,_,_,_]) (l2:=[_,_,_,_]) (tS:=fun x=>⟨(rdOf (.tmp 16) (.d (encVs c0.vs))++([]++[]))++[(.nx,.num 2)],[(.s 17,.av (.d (.v (.slice x.1 x.2.1 x.2.2)))),(.o 2,.ob (.pin 133 4 (c0.vs.map Version.enc) (.slice x.1 x.2.1 x.2.2))),(.nx,.num 3)]⟩)
      (rs:=(rdOf (.tmp 16) (.d (encVs c0.vs))++([]++[]))++[(.nx,.num 2)])
     ·
      rfl
     ·
      rfl
     ·
      exact fun _=>rfl
     ·
      exact fam_newpin rfl hc (.cons (x := .tmp 16) (av := .d (encVs c0.vs)) trivial (.d (.refl _)) .nil)
     ·
      rfl
     try refine wk ?_
     refine And.intro ⟨rfl,rfl,trivial⟩ fun x=>?_
     obtain⟨p,n,cp⟩:=x
     have h4':=h4 (.slice p n cp)
     have hk:=hkl (.slice p n cp)
     dsimp only
     try refine wk ?_
     refine q_loopT (i+1,some (.slice p n cp)) ⟨by dsimp only;omega,fun h=>(by cases h),fun _=>by dsimp only;omega⟩ (by dsimp only;omega) ?_
     exact by_less
  |some x =>
   have him:=hs (by simp)
   have hk:=hkl x
   dsimp only
   rcases drop_case hi with ⟨h1,h2⟩|⟨c,h1,h2,h3⟩
   ·
    subst h2
    rw[List.take_of_length_le (by rw[hkl];exact Nat.le_refl _)]
    try refine wk ?_
    exact own2_ret (id2:=2) rfl rfl (hkl x).symm rfl
   ·
    have hcv:=hv c (List.mem_of_getElem? h2)
    have h4:(keptRows l m c0 x).take i++[c.enc]=(keptRows l m c0 x).take (i+1):=by
     rw[List.take_add_one,keptRows,List.getElem?_set_ne (by omega)];simp[h2]
    have hc:=ok_clone_version (c.vs.map Version.enc) (by simp;omega)
    try refine wk ?_
    refine q_loopT (i+1,some x) ⟨by dsimp only;omega,fun h=>(by cases h),fun _=>by dsimp only;omega⟩ (by dsimp only;omega) ?_
    exact by_less
end Go.Proofs.YtccblhpfjlgmbabGreatDoor
namespace Go.Proofs.YtccblhpfjlgmbabGreatDoor
open Go.AX Go.RF Go.RowKit Go.Shelf Go.Lib
theorem run_copy_k {P:Program}(w:World) (dT sT ty elem:TypeId) (k g o dLen dCap:Nat) (a:Addr) (sLen sCap q:Nat) (cur:Array Value) (t:TypeId) (cs:List Value)
  (hu:P.underlying dT=some (.slice elem)) (hs:(P.info? elem).map (·.size)=some k)
  (hg:w.heap[g]? = some (.cells cur t (0,0))) (hq:Nat.min sLen dLen=q) (hn:cs.length=q*k)
  (hsrc:∀ j v,cs[j]? = some v→w.cell? (a.add j)=some v) (hfit:o+cs.length≤cur.size) (h1:∀ v∈cs,v.oneCell'=true) :
  (Builtin.copy_ #[dT,sT] ty #[.slice (some ⟨g,o,none⟩) dLen dCap,.slice (some a) sLen sCap]).run P w =
   .ok (goInt q) (w.setRow g (cur.toList.take o++cs++cur.toList.drop (o+cs.length)).toArray):=by
 have hl:=run_loadCells_list (P:=P) w a cs hsrc
 have hst:=run_storeCells_at P g o t cs 0 cur w hg (by simpa using hfit) h1
 cases hq':P.info? elem with
 |none=>simp[hq']at hs
 |some i =>
  have hi:i.size=k:=by simpa[hq'] using hs
  simp[Builtin.copy_,run_underlying hu,Builtin.lenOf,Builtin.firstCells,sizeOf,typeInfo,hq',hi,hq,← hn,hl,hst]
theorem overlaps_arm {motive:Array Value→Type}{a b:Option Addr}{la ca lb cb:Nat}{h1:∀ (a:Option Addr) (la c:Nat) (b:Option Addr) (lb d:Nat),motive #[.slice a la c,.slice b lb d]}{h2:∀ x,motive x} :
  Extern.SlicesOverlaps.overlaps.match_4 motive #[.slice a la ca,.slice b lb cb] h1 h2=h1 a la ca b lb cb:=rfl
theorem run_overlaps_b {P:Program}(w:World) (tS tR e:TypeId) (ht:P.underlying tS=some (.slice e)) (size:Nat) (hz:∀ w,(Go.sizeOf e).run P w = .ok size w)
  (a b:Addr) (la ca lb cb:Nat) (hne:a.block≠b.block) (tA tB:TypeId) (kA kB:Nat)
  (hsa:w.shape? a.block=some (tA,kA+1)) (hsb:w.shape? b.block=some (tB,kB+1)) (hfb:w.frozen? b=false) (hfe:w.frozen? { block:=b.block,off:=kB+1 }=false) :
  (Extern.SlicesOverlaps.overlaps #[tS,tS] #[tR] #[.slice (some a) la ca,.slice (some b) lb cb]).run P w = .ok (.bool false) w:=by
 have hnb:(a.block != b.block)=true:=by simpa using hne
 have hnb':(a.block==b.block)=false:=by simpa using hne
 delta Extern.SlicesOverlaps.overlaps
 dsimp only
 rw[overlaps_arm]
 by_cases h0:la=0∨lb=0∨size=0
 ·
  simp[run_underlying ht,hz,h0]
 ·
  cases hfa:w.frozen? a <;> cases hfa2:w.frozen? { block:=a.block,off:=kA+1 } <;>
   simp[run_underlying ht,hz,h0,hnb,hnb',frozen,noView,viewAt,mayBeOne,stringish,shape,Sem.run,hsa,hsb,hfb,hfe,hfa,hfa2]
theorem alloc_new_at (w:World) (o:Obj):(w.alloc o).heap[w.heap.size]? = some o:=heap_alloc_new w o
theorem append_ty {P:Program}(ts:Array TypeId) (ty:TypeId) (args:Array Value) (w:World):(Builtin.append_ ts ty args).run P w=(Builtin.append_ ts 0 args).run P w:=rfl
theorem append_types {P:Program}{t u e e':TypeId}(ht:P.underlying t=some (.slice e)) (hu:P.underlying u=some (.slice e')) (ty:TypeId) (args:Array Value) (w:World) :
  (Builtin.append_ #[t,u] ty args).run P w=(Builtin.append_ #[t,t] ty args).run P w:=by
 cases h0:args[0]? with
 |none=>simp[Builtin.append_,h0]
 |some s =>
  cases h1:args[1]? with
  |none=>simp[Builtin.append_,h0,h1]
  |some x=>cases s <;> simp[Builtin.append_,h0,h1,run_underlying ht,run_underlying hu]
theorem room_cells {cur:List Value}{n i:Nat}{c0 c1:Value}(hi:i < n) (hl:(n+1)*2≤cur.length) :
  let mid:=cur.take ((i+1)*2)++(cur.drop (i*2)).take ((n - i)*2)++cur.drop ((i+1)*2+(n - i)*2)
  (mid.take (i*2)++[c0,c1]++mid.drop (i*2+2)).take ((n+1)*2)=(cur.take (n*2)).take (i*2)++[c0,c1]++(cur.take (n*2)).drop (i*2):=by
 intro mid
 have hm:mid=cur.take ((i+1)*2)++(cur.drop (i*2)).take ((n - i)*2)++cur.drop ((i+1)*2+(n - i)*2):=rfl
 have hml:mid.length=cur.length:=by rw[hm];simp;omega
 have h1:(cur.take ((i+1)*2)).length=(i+1)*2:=by simp;omega
 have h2:((cur.drop (i*2)).take ((n - i)*2)).length=(n - i)*2:=by simp;omega
 have e1:mid.take (i*2)=cur.take (i*2):=by
  rw[hm,List.append_assoc,List.take_append_of_le_length (by rw[h1];omega),List.take_take,Nat.min_eq_left (by omega)]
 have e2:mid.drop (i*2+2)=(cur.drop (i*2)).take ((n - i)*2)++cur.drop ((i+1)*2+(n - i)*2):=by
  rw[hm,List.append_assoc,List.drop_append_of_le_length (by rw[h1];omega),List.drop_eq_nil_of_le (by rw[h1];omega),List.nil_append]
 rw[e1,e2,List.take_take,Nat.min_eq_left (show i*2≤n*2 by omega),List.drop_take]
 have h3:(cur.take (i*2)).length=i*2:=by simp;omega
 rw[List.take_append,List.take_of_length_le (by simp;omega)]
 congr 1
 rw[List.take_append_of_le_length (by simp;omega),List.take_of_length_le (by simp;omega)]
 congr 1
 omega
theorem shape_of {w:World}{ad:Addr}{c:Value}(h:w.cell? (ad.add 0)=some c):∃ t k,w.shape? ad.block=some (t,k+1):=by
 rw[AX.add_zero]at h
 unfold World.cell? at h
 unfold World.shape?
 split at h
 ·
  next cs e fr hh =>
  split at h
  ·
   cases h
  ·
   have:=(Array.getElem?_eq_some_iff.1 h).1
   exact⟨e,cs.size - 1,by simp;omega⟩
 ·
  cases h
set_option maxHeartbeats 4000000 in
set_option maxRecDepth 100000 in
theorem insert_room (g n cap i:Nat) (ad:Addr) (cp:Nat) (w:World) (cur:Array Value) (c0 c1:Value) (hg:w.heap[g]? = some (.cells cur 131 (0,0))) (hsz:cur.size=cap*2) (hi:i < n) (hn:n≤268435456) (hc:n+1≤cap) (hcm:cap≤maxLen)
  (had:ad.block≠g) (h0:w.cell? (ad.add 0)=some c0) (h1:w.cell? (ad.add 1)=some c1) (hone:∀ v∈cur.toList.take (n*2),v.oneCell'=true) (hc0:c0.oneCell'=true) (hc1:c1.oneCell'=true) :
  Calls Tryz.prog 160 #[.slice (some ⟨g,0,none⟩) n cap,.int .i64 (i:Int),.slice (some ad) 1 cp] w fun e w' =>
   e = .returned (.slice (some ⟨g,0,none⟩) (n+1) cap)∧∃ m1 cs',w'=(w.drew.setRow g m1).setRow g cs'∧cs'.size=cap*2∧cs'.toList.take ((n+1)*2)=(cur.toList.take (n*2)).take (i*2)++[c0,c1]++(cur.toList.take (n*2)).drop (i*2):=by
 have mixed:=mixed_ok
 have hz1:¬ ((1:Int)=0):=by omega
 have hz2:¬ ((i:Int)=(n:Int)):=by omega
 have hz3:¬ ((cap:Int) < (n:Int)+1):=by omega
 have hb2:¬ (cap=i+1):=by omega
 have hb4:¬ (cap=i):=by omega
 have hin:i≤n:=by omega
 have hw1:IntKind.i64.wrap ((i:Int)+1)=(i:Int)+1:=by rw[IntKind.wrap_i64];omega
 have hb1:(0:Int)≤(i:Int)+1:=by omega
 have htn:((i:Int)+1).toNat=i+1:=by omega
 have hb3:(i:Int)≤(n:Int)+1:=by omega
 have hov:∀ lb cb,(callFunc 178 #[.slice (some ad) 1 cp,.slice (some ⟨g,(i+1)*2,none⟩) lb cb]).run Tryz.prog w = .ok (.value (.bool false)) w:=fun lb cb=>by
  obtain⟨tA,kA,hsa⟩:=shape_of h0
  have hsb:w.shape? g=some (131,(cap*2 - 1)+1):=by
   simp[World.shape?,hg,hsz];omega
  rw[run_callFunc_extern Tryz.func178 (by kernel_rfl) (by kernel_rfl) (by kernel_rfl) (e:=Extern.SlicesOverlaps.overlaps #[60,60] #[4]) (by kernel_rfl),
   run_overlaps_b w 60 4 131 Tryz.underlying60 2 Tryz.sizeOf131 ad ⟨g,(i+1)*2,none⟩ 1 cp lb cb had tA 131 kA (cap*2 - 1) hsa hsb (by simp[World.frozen?,hg]) (by simp[World.frozen?,hg])]
  rfl
 have hin2:(Tryz.prog.info? 131).map (·.size)=some 2:=by kernel_rfl
 have hT:Tryz.prog.underlying 60=some (.slice 131):=Tryz.underlying60
 have hcl:(n+1)*2≤cur.size:=by rw[hsz];exact Nat.mul_le_mul_right 2 hc
 have hgd:w.drew.heap[g]? = some (.cells cur 131 (0,0)):=hg
 have htl:((cur.toList.drop (i*2)).take ((n - i)*2)).length=(n - i)*2:=by simp;omega
 have hcp1:∀ ty dc sc,(Builtin.copy_ #[60,60] ty #[.slice (some ⟨g,(i+1)*2,none⟩) (n - i) dc,.slice (some ⟨g,i*2,none⟩) (n+1 - i) sc]).run Tryz.prog w.drew =
   .ok (goInt (n - i:Nat)) (w.drew.setRow g (cur.toList.take ((i+1)*2)++(cur.toList.drop (i*2)).take ((n - i)*2)++cur.toList.drop ((i+1)*2+(n - i)*2)).toArray):=fun ty dc sc=>by
  have h:=run_copy_k (P:=Tryz.prog) w.drew 60 60 ty 131 2 g ((i+1)*2) (n - i) dc ⟨g,i*2,none⟩ (n+1 - i) sc (n - i) cur 131 ((cur.toList.drop (i*2)).take ((n - i)*2)) hT hin2 hgd
   (Nat.min_eq_right (by omega)) htl (fun j v hj=>by
    rw[List.getElem?_take]at hj
    split at hj
    ·
     rw[List.getElem?_drop]at hj
     rw[Addr.add_lit]
     simp[World.cell?,hgd]
     simpa using hj
    ·
     cases hj) (by rw[htl];omega) (fun v hv=>?_)
  ·
   rw[htl]at h
   exact h
  ·
   obtain⟨j,hj⟩:=List.getElem?_of_mem hv
   rw[List.getElem?_take]at hj
   split at hj
   ·
    rw[List.getElem?_drop]at hj
    refine hone v (List.mem_of_getElem? (i:=i*2+j) ?_)
    rw[List.getElem?_take,if_pos (by omega)];exact hj
   ·
    cases hj
 generalize hmid:cur.toList.take ((i+1)*2)++(cur.toList.drop (i*2)).take ((n - i)*2)++cur.toList.drop ((i+1)*2+(n - i)*2)=mid at hcp1
 have hml:mid.length=cur.size:=by rw[← hmid];simp;omega
 have hg1:(w.drew.setRow g mid.toArray).heap[g]? = some (.cells mid.toArray 131 (0,0)):=setRow_heap _ _ _ _ _ _ hgd
 have hadc:∀ j v,[c0,c1][j]? = some v→(w.drew.setRow g mid.toArray).cell? (ad.add j)=some v:=fun j v hj=>by
  have hk:∀ q,(w.drew.setRow g mid.toArray).cell? (ad.add q)=w.cell? (ad.add q):=fun q=>by
   have hb:(ad.add q).block=ad.block:=add_block ad q
   simp only[World.cell?,hb]
   rw[setRow_other _ _ _ _ had]
   rfl
  match j,hj with
  |0,hj=>simp at hj;subst hj;rw[hk];exact h0
  |1,hj=>simp at hj;subst hj;rw[hk];exact h1
 have hcp2:∀ ty dc,(Builtin.copy_ #[60,60] ty #[.slice (some ⟨g,i*2,none⟩) (n+1 - i) dc,.slice (some ad) 1 cp]).run Tryz.prog (w.drew.setRow g mid.toArray) =
   .ok (goInt (1:Nat)) ((w.drew.setRow g mid.toArray).setRow g (mid.take (i*2)++[c0,c1]++mid.drop (i*2+2)).toArray):=fun ty dc=>by
  have h:=run_copy_k (P:=Tryz.prog) (w.drew.setRow g mid.toArray) 60 60 ty 131 2 g (i*2) (n+1 - i) dc ad 1 cp 1 mid.toArray 131 [c0,c1] hT hin2 hg1
   (Nat.min_eq_left (by omega)) rfl hadc (by simp;omega) (by simp[hc0,hc1])
  simpa using h
 go_enter Tryz.func160,Tryz.ntmps160
 go_wp2_with (simp only[hov])
 go_region_law_o (refine step_copy_runI rfl _ _ 60 60 rfl _ _ (by simp[Act.eval,Act.put]) (by simp[Act.eval,Act.put]) (hcp1 _ _ _) ?_)
 go_wp2_with (at_builtin;refine wpList_copy_runI _ rfl _ _ 60 60 rfl _ _ rfl rfl (hcp2 _ _) ?_)
 go_ret
 refine⟨rfl,_,_,rfl,by simp;omega,?_⟩
 have:=room_cells (cur:=cur.toList) (n:=n) (i:=i) (c0:=c0) (c1:=c1) hi (by simpa using hcl)
 rw[hmid]at this
 simpa using this
theorem grow_cells {xs zs:List Value}{n i:Nat}{c0 c1:Value}(hi:i < n) (hl:xs.length=n*2) (hz:(n+1 - i)*2≤zs.length) :
  let row:=xs.take (i*2)++zs
  let mid:=row.take (i*2)++[c0,c1]++row.drop (i*2+2)
  (mid.take ((i+1)*2)++xs.drop (i*2)++mid.drop ((i+1)*2+(n - i)*2)).take ((n+1)*2)=xs.take (i*2)++[c0,c1]++xs.drop (i*2):=by
 intro row mid
 have h3:(xs.take (i*2)).length=i*2:=by simp;omega
 have hr:row.take (i*2)=xs.take (i*2):=by
  show(xs.take (i*2)++zs).take (i*2)=_
  rw[List.take_append_of_le_length (by omega),List.take_of_length_le (by omega)]
 have hm:mid.take ((i+1)*2)=xs.take (i*2)++[c0,c1]:=by
  show(row.take (i*2)++[c0,c1]++row.drop (i*2+2)).take ((i+1)*2)=_
  rw[hr,List.take_append_of_le_length (by simp;omega),List.take_of_length_le (by simp;omega)]
 rw[hm,List.take_append_of_le_length (by simp;omega),List.take_of_length_le (by simp;omega)]
set_option maxHeartbeats 4000000 in
set_option maxRecDepth 100000 in
theorem insert_grow (g n cap i:Nat) (ad:Addr) (cp:Nat) (w:World) (cur:Array Value) (c0 c1:Value) (hg:w.heap[g]? = some (.cells cur 131 (0,0))) (hsz:cur.size=cap*2) (hi:i < n) (hn:n≤268435456) (hnc:n≤cap) (hc:cap < n+1) (hcm:cap≤maxLen)
  (hadw:ad.block < w.heap.size) (h0:w.cell? (ad.add 0)=some c0) (h1:w.cell? (ad.add 1)=some c1) (hone:∀ v∈cur.toList.take (n*2),v.oneCell'=true) (hc0:c0.oneCell'=true) (hc1:c1.oneCell'=true) :
  Calls Tryz.prog 160 #[.slice (some ⟨g,0,none⟩) n cap,.int .i64 (i:Int),.slice (some ad) 1 cp] w fun e w' =>
   ∃ G,e = .returned (.slice (some ⟨w.heap.size,0,none⟩) (n+1) G)∧n+1≤G∧G≤maxLen∧Below w.heap.size w w'∧∃ cs',w'.heap[w.heap.size]? = some (.cells cs' 131 (0,0))∧cs'.size=G*2 ∧
    cs'.toList.take ((n+1)*2)=(cur.toList.take (n*2)).take (i*2)++[c0,c1]++(cur.toList.take (n*2)).drop (i*2):=by
 have mixed:=mixed_ok
 have hz1:¬ ((1:Int)=0):=by omega
 have hz2:¬ ((i:Int)=(n:Int)):=by omega
 have hz3:(cap:Int) < (n:Int)+1:=by omega
 have hin:i≤n:=by omega
 have hw1:IntKind.i64.wrap ((i:Int)+1)=(i:Int)+1:=by rw[IntKind.wrap_i64];omega
 have hb1:(0:Int)≤(i:Int)+1:=by omega
 have htn:((i:Int)+1).toNat=i+1:=by omega
 have hb3:(i:Int)≤(n:Int):=by omega
 have hci:¬ (cap=i):=by omega
 have hin2:(Tryz.prog.info? 131).map (·.size)=some 2:=by kernel_rfl
 have hT:Tryz.prog.underlying 60=some (.slice 131):=Tryz.underlying60
 have hcl:n*2≤cur.size:=by rw[hsz];exact Nat.mul_le_mul_right 2 hnc
 have hgw:g < w.heap.size:=by
  rcases Nat.lt_or_ge g w.heap.size with h|h
  ·
   exact h
  ·
   rw[Array.getElem?_eq_none h]at hg;cases hg
 generalize hxs:cur.toList.take (n*2)=xs at hone
 have hxl:xs.length=n*2:=by rw[← hxs];simp;omega
 have hcell:∀ (W:World),W.heap[g]? = w.heap[g]? → ∀ j v,xs[j]? = some v→W.cell? ⟨g,j,none⟩=some v:=fun W hW j v hj=>by
  rw[← hxs,List.getElem?_take]at hj
  split at hj
  ·
   simp[World.cell?,hW,hg]
   simpa using hj
  ·
   cases hj
 have htb:∃ ti,tget tbl 131=some ti∧ti.n=2∧ti.bytes=40∧ti.zero=[.string ⟨#[]⟩,.slice none 0 0]:=⟨_,rfl,rfl,rfl,rfl⟩
 obtain⟨ti,ht1,ht2,ht3,ht4⟩:=htb
 obtain⟨i0,hi0,hzs,hzb,z,hz0,hzc⟩:=(tbl_ok _ _ ht1).info
 rw[ht2]at hzs
 rw[ht3]at hzb
 rw[ht4]at hzc
 have hzz:z.cells.size=2:=by rw[← Array.length_toList,hzc];rfl
 have hold:(Builtin.firstCells i0.size i (.slice (some ⟨g,0,none⟩) i cap)).run Tryz.prog w.drew = .ok (xs.take (i*2)).toArray w.drew:=by
  rw[hzs]
  exact run_firstCells_some w.drew 2 i ⟨g,0,none⟩ i cap (xs.take (i*2)) (by rw[List.length_take];omega) (fun j v hj=>by
   rw[Addr.add_lit,Nat.zero_add]
   rw[List.getElem?_take]at hj
   split at hj
   ·
    exact hcell w.drew rfl j v hj
   ·
    cases hj)
 obtain⟨G,hG⟩:∃ G,G=grownCap w (n+1) cap 131:=⟨_,rfl⟩
 have hGn:n+1≤G:=by rw[hG];exact grownCap_ge w _ _ _
 have hGm:G≤maxLen:=by rw[hG];exact grownCap_le_maxLen w (n+1) cap 131 (by unfold maxLen;omega)
 have hG63:G≤9223372036854775807:=by unfold maxLen at hGm;omega
 obtain⟨zs,hzs2⟩:∃ zs:Array Value,zs=Builtin.zeroCells z.cells (n+1 - i)++Builtin.zeroCells z.cells (G - (n+1)):=⟨_,rfl⟩
 have hzl:zs.size=(G - i)*2:=by rw[hzs2];simp[size_zeroCells,hzz];omega
 obtain⟨ROW,hROW⟩:∃ ROW:Array Value,ROW=(xs.take (i*2)).toArray++zs:=⟨_,rfl⟩
 have hRl:ROW.size=G*2:=by rw[hROW];simp[hzl];omega
 have hrz:∀ ty,(Builtin.append_ #[60,3] ty #[.slice (some ⟨g,0,none⟩) i cap,.int .i64 ((n:Int)+1 - (i:Int))]).run Tryz.prog w =
   .ok (.slice (some ⟨w.heap.size,0,none⟩) (n+1) G) (w.drew.alloc (.cells ROW 131)):=fun ty=>by
  have h:=Lib.run_append_grow_zeros (P:=Tryz.prog) w 60 3 ty 131 i0 z .i64 .i64 hT Tryz.underlying3 hi0 hz0 (some ⟨g,0,none⟩) i cap (xs.take (i*2)) hold (n+1 - i) (by omega) (by omega) (by omega) (by omega) (by rw[hzb];omega)
   (by rw[hzb,show i+(n+1 - i)=n+1 by omega];exact growslice_fits hc (by omega))
  rw[show i+(n+1 - i)=n+1 by omega,← hG,Array.append_assoc,← hzs2,← hROW]at h
  rw[show(n:Int)+1 - (i:Int)=((n+1 - i:Nat):Int) by omega]
  exact h
 have hGi:¬ (G=i):=by omega
 have hGim:¬ (G=i+1):=by omega
 have hgs:¬ w.heap.size=g:=by omega
 obtain⟨mid,hmid⟩:∃ mid:List Value,mid=ROW.toList.take (i*2)++[c0,c1]++ROW.toList.drop (i*2+2):=⟨_,rfl⟩
 have hml:mid.length=G*2:=by rw[hmid];simp;omega
 obtain⟨fin,hfin⟩:∃ fin:List Value,fin=mid.take ((i+1)*2)++xs.drop (i*2)++mid.drop ((i+1)*2+(n - i)*2):=⟨_,rfl⟩
 have hfl:fin.length=G*2:=by rw[hfin];simp;omega
 have hN:(w.alloc (.cells ROW 131)).heap[w.heap.size]? = some (.cells ROW 131 (0,0)):=alloc_new_at w _
 have hadc:∀ (W:World),W.heap=(w.alloc (.cells ROW 131)).heap→∀ j v,[c0,c1][j]? = some v→W.cell? (ad.add j)=some v:=fun W hW j v hj=>by
  have hk:∀ q,W.cell? (ad.add q)=w.cell? (ad.add q):=fun q=>by
   have hb:(ad.add q).block=ad.block:=add_block ad q
   simp only[World.cell?,hb,hW]
   rw[Below.heap_alloc w _ _ hadw]
  match j,hj with
  |0,hj=>simp at hj;subst hj;rw[hk];exact h0
  |1,hj=>simp at hj;subst hj;rw[hk];exact h1
 have hcpA:∀ (W:World),W.heap=(w.alloc (.cells ROW 131)).heap→∀ ty dc,(Builtin.copy_ #[60,60] ty #[.slice (some ⟨w.heap.size,i*2,none⟩) (n+1 - i) dc,.slice (some ad) 1 cp]).run Tryz.prog W =
   .ok (goInt (1:Nat)) (W.setRow w.heap.size mid.toArray):=fun W hW ty dc=>by
  have h:=run_copy_k (P:=Tryz.prog) W 60 60 ty 131 2 w.heap.size (i*2) (n+1 - i) dc ad 1 cp 1 ROW 131 [c0,c1] hT hin2 (by rw[hW];exact hN)
   (Nat.min_eq_left (by omega)) rfl (hadc W hW) (by simp;omega) (by simp[hc0,hc1])
  rw[hmid]
  simpa using h
 have hdl:(xs.drop (i*2)).length=(n - i)*2:=by rw[List.length_drop,hxl];omega
 have hcpB:∀ (W:World),W.heap[w.heap.size]? = some (.cells mid.toArray 131 (0,0))→W.heap[g]? = w.heap[g]? → ∀ ty dc sc,(Builtin.copy_ #[60,60] ty #[.slice (some ⟨w.heap.size,(i+1)*2,none⟩) (n - i) dc,.slice (some ⟨g,i*2,none⟩) (n - i) sc]).run Tryz.prog W =
   .ok (goInt (n - i:Nat)) (W.setRow w.heap.size fin.toArray):=fun W hW hWg ty dc sc=>by
  have h:=run_copy_k (P:=Tryz.prog) W 60 60 ty 131 2 w.heap.size ((i+1)*2) (n - i) dc ⟨g,i*2,none⟩ (n - i) sc (n - i) mid.toArray 131 (xs.drop (i*2)) hT hin2 hW
   (Nat.min_self _) hdl (fun j v hj=>by
    rw[Addr.add_lit]
    rw[List.getElem?_drop]at hj
    exact hcell W hWg _ v hj) (by rw[hdl];simp;omega) (fun v hv=>hone v (List.mem_of_mem_drop hv))
  rw[hdl]at h
  rw[hfin]
  simpa using h
 have hE:((w.alloc (.cells ROW 131)).drew).heap=(w.alloc (.cells ROW 131)).heap:=rfl
 have hB1:∀ (W:World),W.heap=(w.alloc (.cells ROW 131)).heap→(W.setRow w.heap.size mid.toArray).drew.heap[w.heap.size]? = some (.cells mid.toArray 131 (0,0)):=fun W hW=>setRow_heap W _ _ _ _ _ (by rw[hW];exact hN)
 have hB2:∀ (W:World),W.heap=(w.alloc (.cells ROW 131)).heap→(W.setRow w.heap.size mid.toArray).drew.heap[g]? = w.heap[g]? := fun W hW=>by
  show(W.setRow w.heap.size mid.toArray).heap[g]? = _
  rw[setRow_other _ _ _ _ (by omega),hW]
  exact Below.heap_alloc w _ _ hgw
 have hlast:fin.take ((n+1)*2)=xs.take (i*2)++[c0,c1]++xs.drop (i*2):=by
  have h:=grow_cells (xs:=xs) (zs:=zs.toList) (n:=n) (i:=i) (c0:=c0) (c1:=c1) hi hxl (by rw[Array.length_toList,hzl];exact Nat.mul_le_mul_right 2 (by omega))
  rw[hfin,hmid,hROW]
  simpa using h
 clear hzs2 hROW hmid hfin hG
 go_enter Tryz.func160,Tryz.ntmps160
 go_wp2_with (first
  |(at_builtin;refine Lib.wpList_append_run _ rfl _ _ _ _ rfl _ _ rfl rfl _ _ (hrz _) ?_)
  |(at_builtin;refine wpList_copy_runI _ rfl _ _ 60 60 rfl _ _ rfl rfl (hcpA _ rfl _ _) ?_))
 go_region_law_o (refine step_copy_runI rfl _ _ 60 60 rfl (.slice (some ⟨w.heap.size,(i+1)*2,none⟩) (n - i) (G - (i+1))) (.slice (some ⟨g,i*2,none⟩) (n - i) (cap - i)) (by simp[Act.eval,Act.put]) (by simp[Act.eval,Act.put]) (hcpB ((w.alloc (.cells ROW 131)).drew.setRow w.heap.size mid.toArray).drew (hB1 _ hE) (hB2 _ hE) _ _ _) ?_)
 go_wp2
 go_ret
 refine⟨G,rfl,hGn,hGm,⟨rfl,rfl,rfl,by simp[setRow_size],fun k hk=>?_⟩,fin.toArray,setRow_heap _ _ _ _ _ _ (hB1 _ hE),by simp[hfl],by simpa using hlast⟩
 rw[setRow_other _ _ _ _ (by omega)]
 show((w.alloc (.cells ROW 131)).drew.setRow w.heap.size mid.toArray).heap[k]? = _
 rw[setRow_other _ _ _ _ (by omega)]
 exact Below.heap_alloc w _ _ hk
set_option maxHeartbeats 4000000 in
set_option maxRecDepth 100000 in
theorem insert_end (v:Value) (n:Nat) (xs:List Value) (ad:Addr) (cp:Nat) (w:World) (c0 c1:Value) (hown:w.ownsRow 0 131 2 v n xs) (hn:n≤268435456)
  (h0:w.cell? (ad.add 0)=some c0) (h1:w.cell? (ad.add 1)=some c1) (hc0:c0.oneCell'=true) (hc1:c1.oneCell'=true) :
  Calls Tryz.prog 160 #[v,.int .i64 (n:Int),.slice (some ad) 1 cp] w fun e w' =>
   ∃ v',e = .returned v'∧w'.ownsRow 0 131 2 v' (n+1) (xs++[c0,c1])∧w.grownBy w' v.ownBlock∧(v'.ownBlock=v.ownBlock∨v'.ownBlock=some w.heap.size):=by
 have mixed:=mixed_ok
 have hz1:¬ ((1:Int)=0):=by omega
 have hT:Tryz.prog.underlying 60=some (.slice 131):=Tryz.underlying60
 have htb:∃ ti,tget tbl 131=some ti∧ti.n=2∧ti.bytes=40∧ti.zero=[.string ⟨#[]⟩,.slice none 0 0]:=⟨_,rfl,rfl,rfl,rfl⟩
 obtain⟨ti,ht1,ht2,ht3,ht4⟩:=htb
 obtain⟨i0,hi0,hzs,hzb,z,hz0,hzc⟩:=(tbl_ok _ _ ht1).info
 rw[ht2]at hzs
 rw[ht3]at hzb
 rw[ht4]at hzc
 have hzz:z.cells.size=2:=by rw[← Array.length_toList,hzc];rfl
 have hnews:∀ j u,[c0,c1][j]? = some u→w.cell? (ad.add j)=some u:=fun j u hj=>by
  match j,hj with
  |0,hj=>simp at hj;subst hj;exact h0
  |1,hj=>simp at hj;subst hj;exact h1
 have hone:∀ u∈[c0,c1],u.oneCell'=true:=by simp[hc0,hc1]
 obtain⟨R,hR⟩:∃ R:Value→World→Prop,R=fun v' w'=>w'.ownsRow 0 131 2 v' (n+1) (xs++[c0,c1])∧w.grownBy w' v.ownBlock∧(v'.ownBlock=v.ownBlock∨v'.ownBlock=some w.heap.size):=⟨_,rfl⟩
 have hmk:∀ v' w',w'.ownsRow 0 131 2 v' (n+1) (xs++[c0,c1])→w.grownBy w' v.ownBlock→(v'.ownBlock=v.ownBlock∨v'.ownBlock=some w.heap.size)→R v' w':=fun v' w' a b c=>by rw[hR];exact⟨a,b,c⟩
 suffices h:Calls Tryz.prog 160 #[v,.int .i64 (n:Int),.slice (some ad) 1 cp] w fun e w'=>∃ v',e = .returned v'∧R v' w' by
  refine h.mono fun e w'=>?_
  rintro ⟨v',a,b⟩
  rw[hR]at b
  exact⟨v',a,b⟩
 clear hR
 have hb:n+1≤maxLen:=by unfold maxLen;omega
 have hv:(v = .slice none 0 0∧n=0)∨∃ g cap,v = .slice (some ⟨g,0,none⟩) n cap∧n≤cap:=by
  rcases hown.2 with h|⟨g,cap,cur,e,_,_,h,_⟩
  ·
   exact .inl h
  ·
   exact .inr ⟨g,cap,e,h⟩
 obtain⟨v',w',hr,q1,q2,_,q4⟩:=run_append_own_at (P:=Tryz.prog) w 0 60 0 131 i0 z 2 40 hT hi0 hz0 hzs hzb hzz (by decide) v n xs hown ad 1 cp [c0,c1] rfl hnews hone hb (by omega) (Nat.zero_le _)
 have hR:=hmk v' w' q1 q2 q4
 have hap:∀ ty,(Builtin.append_ #[60,60] ty #[v,.slice (some ad) 1 cp]).run Tryz.prog w = .ok v' w':=fun ty=>(append_types hT Tryz.underlying60 ty _ w).trans ((append_ty _ _ _ w).trans hr)
 clear hmk q1 q2 q4 hr hown hnews
 rcases hv with ⟨rfl,rfl⟩|⟨g,cap,rfl,hnc⟩
 ·
  go_enter Tryz.func160,Tryz.ntmps160
  go_wp2_with (at_builtin;refine Lib.wpList_append_run _ rfl _ _ 60 60 rfl _ _ rfl rfl _ _ (hap _) ?_)
  go_ret
  exact⟨_,rfl,hR⟩
 ·
  go_enter Tryz.func160,Tryz.ntmps160
  go_wp2_with (at_builtin;refine Lib.wpList_append_run _ rfl _ _ 60 60 rfl _ _ rfl rfl _ _ (hap _) ?_)
  all_goals
   go_ret
   exact⟨_,rfl,hR⟩
end Go.Proofs.YtccblhpfjlgmbabGreatDoor
namespace Go.AX
open Go.RowKit
theorem getElem?_ins {α:Type}{l:List α}{m:Nat}{x:α}(hm:m≤l.length) (i:Nat) :
  (l.take m++x::l.drop m)[i]? = if i < m then l[i]? else if i=m then some x else l[i - 1]? := by
 have hl:(l.take m).length=m:=by simp;omega
 by_cases h1:i < m
 ·
  rw[if_pos h1,List.getElem?_append_left (by omega),List.getElem?_take,if_pos h1]
 ·
  rw[if_neg h1,List.getElem?_append_right (by omega),hl]
  by_cases h2:i=m
  ·
   subst h2;simp
  ·
   rw[if_neg h2]
   obtain⟨j,rfl⟩:∃ j,i=m+(j+1):=⟨i - m - 1,by omega⟩
   rw[show m+(j+1) - m=j+1 by omega,List.getElem?_cons_succ,List.getElem?_drop]
   congr 1
theorem getElem?_ins2 {α:Type}{l:List α}{m n:Nat}{a b:α}(hl:l.length=n*2) (hm:m≤n) (i j:Nat) (hj:j < 2) :
  (l.take (m*2)++[a,b]++l.drop (m*2))[i*2+j]? = if i < m then l[i*2+j]? else if i=m then [a,b][j]? else l[(i - 1)*2+j]? := by
 have hm2:m*2≤n*2:=Nat.mul_le_mul_right 2 hm
 have h1:(l.take (m*2)).length=m*2:=by simp;omega
 rw[List.append_assoc]
 by_cases hi:i < m
 ·
  have:(i+1)*2≤m*2:=Nat.mul_le_mul_right 2 hi
  rw[if_pos hi,List.getElem?_append_left (by omega),List.getElem?_take,if_pos (by omega)]
 ·
  rw[if_neg hi,List.getElem?_append_right (by omega),h1]
  by_cases he:i=m
  ·
   subst he
   rw[if_pos rfl,show i*2+j - i*2=j by omega,List.getElem?_append_left (by simpa using hj)]
  ·
   rw[if_neg he]
   have:(m+1)*2≤i*2:=Nat.mul_le_mul_right 2 (by omega)
   rw[List.getElem?_append_right (by simp;omega),List.getElem?_drop]
   congr 1
   simp;omega
theorem rows_ins {w w':World}{own:Nat→Prop}{v v':Value}{e m:Nat}{rows:List (List D)}{xs:List Value}{c0 c1:Value}{d0 d1:D}
  (hm:m≤rows.length) (hb:BelowBut v w w') (hp:∀ b,blk v'=some b→blk v=some b∨w.heap.size≤b)
  (hlen:xs.length=rows.length*2) (hone:∀ x∈xs,Value.oneCell' x=true) (hrl:∀ r∈rows,r.length=2)
  (hrd:∀ (i j:Nat) (r:List D) (d:D) (x:Value),rows[i]? = some r→r[j]? = some d→xs[i*2+j]? = some x→Rd w (with1 own v) x d)
  (h0:Rd w (with1 own v) c0 d0) (h1:Rd w (with1 own v) c1 d1) (o0:c0.oneCell'=true) (o1:c1.oneCell'=true)
  (hown:w'.ownsRow 0 e 2 v' (rows.length+1) (xs.take (m*2)++[c0,c1]++xs.drop (m*2))) :
  RowsAt w' 0 (with1 own v') e 2 v' (rows.take m++[d0,d1]::rows.drop m):=by
 have hext:Ext (with1 own v) w w':=⟨hb.size,fun b h1 h2=>hb.block b h1 fun h=>h2 (.inr h)⟩
 have ho:∀ b,with1 own v' b→with1 own v b∨w.heap.size≤b:=by
  rintro b (h|h)
  ·
   exact .inl (.inl h)
  ·
   rcases hp b h with h|h
   ·
    exact .inl (.inr h)
   ·
    exact .inr h
 refine⟨xs.take (m*2)++[c0,c1]++xs.drop (m*2),?_,fun x hx=>?_,fun r hr=>?_,fun i j r d x hi hj hx=>?_⟩
 ·
  have:(rows.take m++[d0,d1]::rows.drop m).length=rows.length+1:=by simp;omega
  rw[this];exact hown
 ·
  rcases List.mem_append.1 hx with hx|hx
  ·
   rcases List.mem_append.1 hx with hx|hx
   ·
    exact hone x (List.mem_of_mem_take hx)
   ·
    simp at hx;rcases hx with rfl|rfl
    ·
     exact o0
    ·
     exact o1
  ·
   exact hone x (List.mem_of_mem_drop hx)
 ·
  rcases List.mem_append.1 hr with h|h
  ·
   exact hrl r (List.mem_of_mem_take h)
  ·
   rcases List.mem_cons.1 h with rfl|h
   ·
    rfl
   ·
    exact hrl r (List.mem_of_mem_drop h)
 ·
  refine Rd.step hext ho ?_
  rw[getElem?_ins hm]at hi
  have hj2:j < 2:=by
   have hjl:=(List.getElem?_eq_some_iff.1 hj).1
   split at hi
   ·
    rw[hrl r (List.mem_of_getElem? hi)]at hjl;exact hjl
   ·
    split at hi
    ·
     cases hi;simpa using hjl
    ·
     rw[hrl r (List.mem_of_getElem? hi)]at hjl;exact hjl
  rw[getElem?_ins2 hlen hm i j hj2]at hx
  split at hi
  ·
   next h=>rw[if_pos h]at hx;exact hrd i j r d x hi hj hx
  ·
   next h =>
   rw[if_neg h]at hx
   split at hi
   ·
    next h' =>
    rw[if_pos h']at hx
    cases hi
    match j,hj2,hj,hx with
    |0,_,hj,hx=>simp at hj hx;subst hj;subst hx;exact h0
    |1,_,hj,hx=>simp at hj hx;subst hj;subst hx;exact h1
   ·
    next h'=>rw[if_neg h']at hx;exact hrd (i - 1) j r d x hi hj hx
theorem getElem?_del {α:Type}{l:List α}{m:Nat}(hm:m < l.length) (i:Nat):(l.take m++l.drop (m+1))[i]? = if i < m then l[i]? else l[i+1]? := by
 have hl:(l.take m).length=m:=by simp;omega
 by_cases h1:i < m
 ·
  rw[if_pos h1,List.getElem?_append_left (by omega),List.getElem?_take,if_pos h1]
 ·
  rw[if_neg h1,List.getElem?_append_right (by omega),hl,List.getElem?_drop]
  congr 1;omega
theorem getElem?_del2 {α:Type}{l:List α}{m n:Nat}(hl:l.length=n*2) (hm:m < n) (i j:Nat) (hj:j < 2) :
  (l.take (m*2)++l.drop ((m+1)*2))[i*2+j]? = if i < m then l[i*2+j]? else l[(i+1)*2+j]? := by
 have hm2:m*2≤n*2:=Nat.mul_le_mul_right 2 (by omega)
 have h1:(l.take (m*2)).length=m*2:=by simp;omega
 by_cases hi:i < m
 ·
  have:(i+1)*2≤m*2:=Nat.mul_le_mul_right 2 hi
  rw[if_pos hi,List.getElem?_append_left (by omega),List.getElem?_take,if_pos (by omega)]
 ·
  rw[if_neg hi,List.getElem?_append_right (by omega),h1,List.getElem?_drop]
  congr 1;omega
theorem rows_del {w w':World}{own:Nat→Prop}{v v':Value}{e m:Nat}{rows:List (List D)}{xs:List Value}
  (hm:m < rows.length) (hb:BelowBut v w w') (hp:∀ b,blk v'=some b→blk v=some b∨w.heap.size≤b)
  (hlen:xs.length=rows.length*2) (hone:∀ x∈xs,Value.oneCell' x=true) (hrl:∀ r∈rows,r.length=2)
  (hrd:∀ (i j:Nat) (r:List D) (d:D) (x:Value),rows[i]? = some r→r[j]? = some d→xs[i*2+j]? = some x→Rd w (with1 own v) x d)
  (hown:w'.ownsRow 0 e 2 v' (rows.length - 1) (xs.take (m*2)++xs.drop ((m+1)*2))) :
  RowsAt w' 0 (with1 own v') e 2 v' (rows.take m++rows.drop (m+1)):=by
 have hext:Ext (with1 own v) w w':=⟨hb.size,fun b h1 h2=>hb.block b h1 fun h=>h2 (.inr h)⟩
 have ho:∀ b,with1 own v' b→with1 own v b∨w.heap.size≤b:=by
  rintro b (h|h)
  ·
   exact .inl (.inl h)
  ·
   rcases hp b h with h|h
   ·
    exact .inl (.inr h)
   ·
    exact .inr h
 refine⟨xs.take (m*2)++xs.drop ((m+1)*2),?_,fun x hx=>?_,fun r hr=>?_,fun i j r d x hi hj hx=>?_⟩
 ·
  have:(rows.take m++rows.drop (m+1)).length=rows.length - 1:=by simp;omega
  rw[this];exact hown
 ·
  rcases List.mem_append.1 hx with hx|hx
  ·
   exact hone x (List.mem_of_mem_take hx)
  ·
   exact hone x (List.mem_of_mem_drop hx)
 ·
  rcases List.mem_append.1 hr with h|h
  ·
   exact hrl r (List.mem_of_mem_take h)
  ·
   exact hrl r (List.mem_of_mem_drop h)
 ·
  refine Rd.step hext ho ?_
  rw[getElem?_del hm]at hi
  have hj2:j < 2:=by
   have hjl:=(List.getElem?_eq_some_iff.1 hj).1
   split at hi <;> (rw[hrl r (List.mem_of_getElem? hi)]at hjl;exact hjl)
  rw[getElem?_del2 hlen hm i j hj2]at hx
  split at hi
  ·
   next h=>rw[if_pos h]at hx;exact hrd i j r d x hi hj hx
  ·
   next h=>rw[if_neg h]at hx;exact hrd (i+1) j r d x hi hj hx
theorem rd_pair {w:World}{own:Nat→Prop}{v:Value}{d0 d1:D}(h:Rd w own v (.sl 2 [[d0,d1]])) :
  ∃ ad cp c0 c1,v = .slice (some ad) 1 cp∧¬ own ad.block∧ad.block < w.heap.size∧w.cell? (ad.add 0)=some c0∧w.cell? (ad.add 1)=some c1 ∧
   c0.oneCell'=true∧c1.oneCell'=true∧Rd w own c0 d0∧Rd w own c1 d1:=by
 cases h with
 |sl ad cap k rows f hb hs hcap hk hc h1 hr =>
  exact⟨ad,cap,f 0 0,f 0 1,rfl,hb,hs,by simpa using hc 0 0 _ d0 rfl rfl,by simpa using hc 0 1 _ d1 rfl rfl,h1 0 0 _ d0 rfl rfl,h1 0 1 _ d1 rfl rfl,hr 0 0 _ d0 rfl rfl,hr 0 1 _ d1 rfl rfl⟩
end Go.AX
namespace Go.Proofs.YtccblhpfjlgmbabGreatDoor
open Go.AX Go.RF
theorem upd_insert (rows:List (List D)) (m:Nat) (d0 d1:D) (hm:m≤rows.length) (hl:rows.length≤268435456) :
  FnUpd Tryz.prog 160 131 2 rows [.d (dint m),.d (.sl 2 [[d0,d1]])] (rows.take m++[d0,d1]::rows.drop m):=by
 refine⟨⟨_,Tryz.func160,by kernel_rfl,by kernel_rfl⟩,fun w own v vs hown hR hsep ha=>?_⟩
 match vs,ha with
 | [v1,v2],⟨h1,h2,_⟩ =>
  have e1:=rd_v h1
  subst e1
  obtain⟨ad,cp,c0,c1,rfl,hnb,hadw,hc0,hc1,o0,o1,r0,r1⟩:=rd_pair h2
  obtain⟨xs,hrow,hone,hrl,hrd⟩:=hR
  have hbv:blk v=v.ownBlock:=blk_own hrow
  have hxl:=hrow.1
  by_cases hmn:m=rows.length
  ·
   subst hmn
   refine(insert_end v rows.length xs ad cp w c0 c1 hrow hl hc0 hc1 o0 o1).mono fun e w'=>?_
   rintro ⟨v',rfl,q1,q2,q3⟩
   have hp:∀ b,blk v'=some b→blk v=some b∨w.heap.size≤b:=fun b hb=>by
    rw[blk_own q1]at hb
    rw[hbv]
    rcases q3 with h|h
    ·
     rw[h]at hb;exact .inl hb
    ·
     rw[h]at hb;cases hb;exact .inr (Nat.le_refl _)
   have hbb:BelowBut v w w':=⟨q2.os,q2.tape,q2.output,q2.size,fun b hb hn=>q2.block b hb fun h=>hn (by rw[hbv,h])⟩
   refine⟨v',rfl,hbb,hp,rows_ins (Nat.le_refl _) hbb hp hxl hone hrl hrd r0 r1 o0 o1 ?_⟩
   rw[List.take_of_length_le (by omega),List.drop_eq_nil_of_le (by omega),List.append_nil]
   exact q1
  ·
   rcases hrow.2 with ⟨_,h0⟩|⟨g,cap,cur,rfl,_,hg,hnc,hcm,hsz,htk⟩
   ·
    omega
   ·
    have hadg:ad.block≠g:=fun h=>hnb (.inr (by rw[h];rfl))
    by_cases hroom:rows.length+1≤cap
    ·
     refine(insert_room g rows.length cap m ad cp w cur c0 c1 hg hsz (by omega) hl hroom hcm hadg hc0 hc1 (by rw[htk];exact hone) o0 o1).mono fun e w'=>?_
     rintro ⟨rfl,m1,cs',rfl,q1,q2⟩
     have hp:∀ b,blk (.slice (some ⟨g,0,none⟩) (rows.length+1) cap)=some b→blk (.slice (some ⟨g,0,none⟩) rows.length cap)=some b∨w.heap.size≤b:=fun b hb => .inl hb
     have hbb:BelowBut (.slice (some ⟨g,0,none⟩) rows.length cap) w ((w.drew.setRow g m1).setRow g cs'):=⟨rfl,rfl,rfl,by simp[setRow_size],fun b hb hn=>by
      have hbg:b≠g:=fun h=>hn (by rw[h];rfl)
      rw[setRow_other _ _ _ _ hbg,setRow_other _ _ _ _ hbg];rfl⟩
     refine⟨_,rfl,hbb,hp,rows_ins hm hbb hp hxl hone hrl hrd r0 r1 o0 o1 ⟨by simp;omega,.inr ⟨g,cap,cs',rfl,Nat.zero_le _,setRow_heap _ _ _ _ _ _ (setRow_heap _ _ _ _ _ _ hg),hroom,hcm,q1,?_⟩⟩⟩
     rw[q2,htk]
    ·
     refine(insert_grow g rows.length cap m ad cp w cur c0 c1 hg hsz (by omega) hl hnc (by omega) hcm hadw hc0 hc1 (by rw[htk];exact hone) o0 o1).mono fun e w'=>?_
     rintro ⟨G,rfl,q1,q2,hB,cs',q3,q4,q5⟩
     have hp:∀ b,blk (.slice (some ⟨w.heap.size,0,none⟩) (rows.length+1) G)=some b→blk (.slice (some ⟨g,0,none⟩) rows.length cap)=some b∨w.heap.size≤b:=fun b hb => .inr (by cases hb;exact Nat.le_refl _)
     have hbb:BelowBut (.slice (some ⟨g,0,none⟩) rows.length cap) w w':=⟨hB.os,hB.tape,hB.output,hB.size,fun b hb _=>hB.block b hb⟩
     refine⟨_,rfl,hbb,hp,rows_ins hm hbb hp hxl hone hrl hrd r0 r1 o0 o1 ⟨by simp;omega,.inr ⟨_,G,cs',rfl,Nat.zero_le _,q3,q1,q2,q4,?_⟩⟩⟩
     rw[q5,htk]
end Go.Proofs.YtccblhpfjlgmbabGreatDoor
namespace Go.Proofs.YtccblhpfjlgmbabGreatDoor
open Go.AX Go.RF Go.RowKit Go.Shelf Go.Lib
theorem step_append_runI {P:Program}{ops:Array Oper}{o:Oper}{a:Act}{w:World}{K:Act→World→Prop}{Q:Exit→Act→World→Prop}{E:Prop}
  (hg:o.guard=none) (d x:Operand) (dT sT:TypeId) (hop:o.op=Op.call { callee:=Callee.builtin Builtin.append,args := #[d,x],argTypes := #[dT,sT] })
  (v u:Value) (hd:a.eval d=v) (hx:a.eval x=u) {v':Value} {w':World} (hr:(Builtin.append_ #[dT,sT] o.type #[v,u]).run P w = .ok v' w') (hK:K (a.put o.dst v') w') :
  if Region.wanted o (yielded ops a.tmps)=true then Oper.wp P o a w K Q else E:=by
 have hw:Region.wanted o (yielded ops a.tmps)=true:=by simp[Region.wanted,hg]
 rw[if_pos hw]
 unfold Oper.wp
 simp[execOp,hop,resolve,invoke,builtin,hd,hx,hr,Result.andThen]
 exact hK
theorem wpList_clear_runI {P:Program}{ops:Array Oper}{rest:List Oper}{o:Oper}{a:Act}{w:World}{Q:Exit→Act→World→Prop}(hgd:o.guard=none) (x:Operand) (t:TypeId)
  (ho:o.op = .call { callee := .builtin .clear,args := #[x],argTypes := #[t] }) (u:Value) (hx:a.eval x=u) {v':Value} {w':World}
  (hr:(Builtin.clear_ #[t] o.type #[u]).run P w = .ok v' w') (h:wpList P ops Q rest (a.put o.dst v') w'):wpList P ops Q (o::rest) a w:=by
 refine wpList_plain hgd fun K hK=>?_
 unfold Oper.wp
 simp[execOp,ho,resolve,invoke,builtin,hx,hr,Result.andThen]
 exact hK _ _ h
theorem del_cells {cur zs:List Value}{n m:Nat}(hm:m < n) (hl:n*2≤cur.length) :
  let news:=(cur.drop ((m+1)*2)).take ((n - (m+1))*2)
  let m1:=cur.take (m*2)++news++cur.drop (m*2+news.length)
  (m1.take ((m+(n - (m+1)))*2)++zs++m1.drop ((m+(n - (m+1)))*2+zs.length)).take ((n - 1)*2)=(cur.take (n*2)).take (m*2)++(cur.take (n*2)).drop ((m+1)*2):=by
 intro news m1
 have h1:(cur.take (m*2)).length=m*2:=by simp;omega
 have h2:news.length=(n - (m+1))*2:=by simp[news];omega
 have hk:(m+(n - (m+1)))*2=(n - 1)*2:=by congr 1;omega
 have h3:m1.take ((n - 1)*2)=cur.take (m*2)++news:=by
  show(cur.take (m*2)++news++cur.drop (m*2+news.length)).take ((n - 1)*2)=_
  rw[List.take_append_of_le_length (by rw[List.length_append,h1,h2];omega),List.take_of_length_le (by rw[List.length_append,h1,h2];omega)]
 rw[hk,h3,List.append_assoc,List.take_append_of_le_length (by rw[List.length_append,h1,h2];omega),List.take_of_length_le (by rw[List.length_append,h1,h2];omega)]
 rw[List.take_take,Nat.min_eq_left (by omega),List.drop_take,show n*2 - (m+1)*2=(n - (m+1))*2 by omega]
end Go.Proofs.YtccblhpfjlgmbabGreatDoor
namespace Go.Proofs.YtccblhpfjlgmbabGreatDoor
open Go.AX Go.RF Go.RowKit
set_option maxRecDepth 100000
set_option maxHeartbeats 8000000
def putS (k:Str) (n:Int):List Pair→List Pair
 | []=>[⟨k,n⟩]
 |p::r=>if p.key=k then ⟨k,n⟩::r else if slt p.key k=true then p::putS k n r else ⟨k,n⟩::p::r
def dropS (k:Str):List Pair→List Pair
 | []=>[]
 |p::r=>if p.key=k then r else p::dropS k r
theorem dropS_none {k:Str}:∀ {l:List Pair},(∀ p∈l,p.key≠k)→dropS k l=l
 | [],_=>rfl
 |d::l,h=>by
  simp only[dropS]
  rw[if_neg (h d (List.mem_cons_self ..)),dropS_none fun p hp=>h p (List.mem_cons_of_mem _ hp)]
theorem putGo_done {k:Str}{n:Int}{h:Bool}:∀ {l out:List Pair},(∀ p∈l,p.key≠k)→putGo k n h true out l=out++l
 | [],out,_=>by simp[putGo]
 |p::l,out,hl=>by
  simp only[putGo]
  rw[if_neg (hl p (List.mem_cons_self ..))]
  simp only[Bool.true_or,Bool.not_true,Bool.false_and,Bool.false_eq_true,if_false]
  rw[putGo_done fun q hq=>hl q (List.mem_cons_of_mem _ hq)]
  simp
theorem putGo_srt {k:Str}{n:Int}{h:Bool}:∀ {l out:List Pair},Srt Pair.key l→putGo k n h false out l=out++(if h=true then putS k n l else dropS k l)
 | [],out,_=>by cases h <;> simp[putGo,putS,dropS]
 |p::l,out,hs=>by
  obtain⟨h1,h2⟩:=List.pairwise_cons.1 hs
  cases hl:slt p.key k with
  |true =>
   have hk:p.key≠k:=slt_ne hl
   simp only[putGo,hl]
   rw[if_neg hk]
   simp only[Bool.not_true,Bool.or_false,Bool.not_false,Bool.and_false,Bool.false_and,Bool.false_eq_true,if_false]
   rw[putGo_srt h2]
   cases h <;> simp[putS,dropS,hk,hl]
  |false =>
   have hne:∀ q∈l,q.key≠k:=fun q hq e=>by
    have h3:=h1 q hq
    rw[e]at h3
    rw[h3]at hl;cases hl
   simp only[putGo,hl]
   simp only[Bool.not_false,Bool.or_true,Bool.true_and,Bool.and_true]
   rw[putGo_done hne]
   by_cases hk:p.key=k
   ·
    cases h <;> simp[putS,dropS,hk]
   ·
    cases h <;> simp[putS,dropS,hk,hl,dropS_none hne]
theorem put_true {l:List Pair}(hs:Srt Pair.key l) (k:Str) (n:Int):put l k n true=putS k n l:=by
 unfold put;rw[putGo_srt hs];rfl
theorem put_false {l:List Pair}(hs:Srt Pair.key l) (k:Str) (n:Int):put l k n false=dropS k l:=by
 unfold put;rw[putGo_srt hs];rfl
theorem putS_mem {k:Str}{n:Int}:∀ {l:List Pair}{p:Pair},p∈putS k n l→p∈l∨p=⟨k,n⟩
 | [],p,h=>by simp[putS]at h;exact .inr h
 |q::l,p,h=>by
  simp only[putS]at h
  split at h
  ·
   rcases List.mem_cons.1 h with h|h
   ·
    exact .inr h
   ·
    exact .inl (List.mem_cons_of_mem _ h)
  ·
   split at h
   ·
    rcases List.mem_cons.1 h with h|h
    ·
     exact .inl (h▸List.mem_cons_self ..)
    ·
     rcases putS_mem h with h|h
     ·
      exact .inl (List.mem_cons_of_mem _ h)
     ·
      exact .inr h
   ·
    rcases List.mem_cons.1 h with h|h
    ·
     exact .inr h
    ·
     exact .inl h
theorem dropS_sub {k:Str}:∀ l:List Pair,(dropS k l).Sublist l
 | []=>List.Sublist.slnil
 |p::l=>by
  simp only[dropS]
  split
  ·
   exact List.sublist_cons_self ..
  ·
   exact(dropS_sub l).cons_cons _
theorem putS_srt {k:Str}{n:Int}:∀ {l:List Pair},Srt Pair.key l→Srt Pair.key (putS k n l)
 | [],_=>List.pairwise_singleton ..
 |c::l,hs=>by
  obtain⟨h1,h2⟩:=List.pairwise_cons.1 hs
  simp only[putS]
  by_cases hk:c.key=k
  ·
   rw[if_pos hk]
   exact List.pairwise_cons.2 ⟨fun d hd=>by show slt k d.key=true;rw[← hk];exact h1 d hd,h2⟩
  ·
   rw[if_neg hk]
   split
   ·
    next h3 =>
    refine List.pairwise_cons.2 ⟨fun d hd=>?_,putS_srt h2⟩
    rcases putS_mem hd with h|rfl
    ·
     exact h1 d h
    ·
     exact h3
   ·
    next h3 =>
    have h4:slt k c.key=true:=by
     rcases slt_tri c.key k with h|h|h
     ·
      exact absurd h h3
     ·
      exact absurd h hk
     ·
      exact h
    refine List.pairwise_cons.2 ⟨fun d hd=>?_,hs⟩
    rcases List.mem_cons.1 hd with rfl|hd
    ·
     exact h4
    ·
     exact slt_trans h4 (h1 d hd)
theorem dropS_srt {k:Str}{l:List Pair}(hs:Srt Pair.key l):Srt Pair.key (dropS k l):=hs.sublist (dropS_sub l)
theorem ok_pround (n:Int) (hn:inI n):FnOk Tryz.prog 122 [.d (dint n)] (.one (dint (round n))):=by
 refine fnOk_of tbl_ok mixed_ok Tryz.func122 rfl (by kernel_rfl) rfl rfl fun w0 own0=>?_
 repeat(first|refine wa ?_|((with_reducible apply s5);(first|((with_reducible apply a_bin);(iterate 2 exact rfl);exact bin_rem (by omega);exact rfl)|exact by_oa|exact by_ca);exact by_g)|refine wb ?_)
 refine .one (.tmp rfl (.one (.d (dle_eq ?_))))
 have h1:n.tdiv 1073741825*1073741825+n.tmod 1073741825=n:=Int.tdiv_mul_add_tmod n 1073741825
 show dint _=dint _
 congr 1
 unfold round
 omega
end Go.Proofs.YtccblhpfjlgmbabGreatDoor
namespace Go.Proofs.YtccblhpfjlgmbabGreatDoor
open Go.AX Go.RF
set_option maxRecDepth 100000
set_option maxHeartbeats 8000000
theorem readyGo_len {e:Engine}:∀ (l:List Int) (i:Nat),(readyGo e i l).length≤l.length
 | [],i=>by simp[readyGo]
 |s::l,i=>by
  have:=readyGo_len (e:=e) l (i+1)
  simp only[readyGo]
  split <;> simp <;> omega
def lastGo (b:Int):Nat→Int→List Version→Int
 |_,la,[]=>la
 |k,la,v::r=>lastGo b (k+1) (if v.by_ < b then (k:Int) else la) r
def keepB (la:Int) (k:Nat) (v:Version):Bool:=decide (la≤k) && !(decide ((k:Int)=la)&&(v.made && !v.has))
def keepGo (la:Int):Nat→List Version→List Version
 |_,[]=>[]
 |k,v::r=>if keepB la k v=true then v::keepGo la (k+1) r else keepGo la (k+1) r
def pclrV (b:Int) (l:List Version):List Version:=keepGo (lastGo b 0 (-1) l) 0 l
def pclear (b:Int):List Chain→List Chain
 | []=>[]
 |c::r=>if pclrV b c.vs=[] then pclear b r else ⟨c.key,pclrV b c.vs⟩::pclear b r
theorem ok_pclear (l:List Chain) (b:Int) (hl:l.length≤268435456) (hv:∀ c∈l,c.vs.length≤268435456):FnOk Tryz.prog 95 [.d (encChains l),.d (dint b)] (.one (encChains (pclear b l))):=by
 refine fnOk_of tbl_ok mixed_ok Tryz.func95 rfl (by kernel_rfl) rfl rfl fun w0 own0=>?_
 try refine wk ?_
 refine CW.stut (stut_promote (i:=5) 131 2) ⟨rfl,rfl,trivial⟩ ?_
 refine CW.loopT (fun t:Nat×List Chain=>[sd 1 (dint b),so 5 0 t.2.length,oa 0 131 2 (t.2.map Chain.enc),sd 14 (encChains l),sd 15 (dint l.length),sd 16 (dint t.1),nxt 1])
  (fun t=>t.1≤l.length∧t.2.length≤t.1∧t.2++pclear b (l.drop t.1)=pclear b l) (fun t=>l.length - t.1) (0,[]) ⟨by omega,by simp,rfl⟩ ?_ ?_
 ·
  exact by_less
 ·
  rintro ⟨i,out⟩ ⟨hi,ho,hI⟩
  dsimp only at hi ho hI ⊢
  rcases drop_case hi with ⟨h1,h2⟩|⟨c,h1,h2,h3⟩
  ·
   rw[h1,pclear,List.append_nil]at hI
   try refine wk ?_
   rw[← hI]
   exact .one (.tmp rfl (.one (.own rfl (by simp) (.refl _))))
  ·
   rw[h1,pclear]at hI
   have hcv:=hv c (List.mem_of_getElem? h2)
   try refine wk ?_
   refine CW.loopT (fun t:Nat×Int=>[sd 1 (dint b),so 5 0 out.length,oa 0 131 2 (out.map Chain.enc),sd 14 (encChains l),sd 15 (dint l.length),sd 16 (dint i),sp 7 1,ob 1 c.enc,sd 8 (dint t.2),sd 21 (encVs c.vs),sd 22 (dint c.vs.length),sd 23 (dint t.1),nxt 2])
    (fun t=>t.1≤c.vs.length∧lastGo b t.1 t.2 (c.vs.drop t.1)=lastGo b 0 (-1) c.vs) (fun t=>c.vs.length - t.1) (0,-1) ⟨by omega,rfl⟩ ?_ ?_
   ·
    exact by_less
   ·
    rintro ⟨j,la⟩ ⟨hj,hJ⟩
    dsimp only at hj hJ ⊢
    rcases drop_case hj with ⟨h5,h6⟩|⟨x,h5,h6,h7⟩
    ·
     rw[h5,lastGo]at hJ
     rw[pclrV,← hJ]at hI
     clear hJ h5
     try refine wk ?_
     refine CW.stut (stut_promote (i:=11) 133 4) ⟨rfl,rfl,trivial⟩ ?_
     refine CW.loopT (fun t:Nat×List Version=>[sd 1 (dint b),so 5 0 out.length,oa 0 131 2 (out.map Chain.enc),sd 14 (encChains l),sd 15 (dint l.length),sd 16 (dint i),sp 7 1,ob 1 c.enc,sd 8 (dint la),so 11 2 t.2.length,oa 2 133 4 (t.2.map Version.enc),sd 35 (encVs c.vs),sd 36 (dint c.vs.length),sd 37 (dint t.1),nxt 3])
      (fun t=>t.1≤c.vs.length∧t.2.length≤t.1∧t.2++keepGo la t.1 (c.vs.drop t.1)=keepGo la 0 c.vs) (fun t=>c.vs.length - t.1) (0,[]) ⟨by omega,by simp,rfl⟩ ?_ ?_
     ·
      exact by_less
     ·
      rintro ⟨k,vs⟩ ⟨hk,hvs,hK⟩
      dsimp only at hk hvs hK ⊢
      rcases drop_case hk with ⟨g1,g2⟩|⟨x,g1,g2,g3⟩
      ·
       rw[g1,keepGo,List.append_nil]at hK
       rw[← hK]at hI
       have hst0:StopR 19:=⟨rfl⟩
       try refine wkS ?_
       clear hst0
       refine Stop.go (CW.stut (stut_freeze (i:=11) (id:=2) (by simp)) ⟨rfl,rfl,trivial⟩ ?_)
       cases vs with
       |nil =>
        rw[if_pos rfl]at hI
        try refine wk ?_
        refine q_loopT (i+1,out) ⟨by dsimp only;omega,by dsimp only;omega,hI⟩ (by dsimp only;omega) ?_
        exact by_less
       |cons v0 vs =>
        rw[if_neg (by simp)]at hI
        try refine wk ?_
        refine q_loopT (i+1,out++[⟨c.key,v0::vs⟩]) ⟨by dsimp only;omega,by dsimp only;simp;omega,by rw[← hI];simp⟩ (by dsimp only;omega) ?_
        exact by_less
      ·
       rw[g1,keepGo]at hK
       obtain⟨xb,xm,xh,xn⟩:=x
       have hyes:keepB la k ⟨xb,xm,xh,xn⟩=true→(vs++[⟨xb,xm,xh,xn⟩])++keepGo la (k+1) (c.vs.drop (k+1))=keepGo la 0 c.vs:=fun e=>by
        rw[if_pos e]at hK;rw[← hK];simp
       have hno:keepB la k ⟨xb,xm,xh,xn⟩=false→vs++keepGo la (k+1) (c.vs.drop (k+1))=keepGo la 0 c.vs:=fun e=>by
        rw[if_neg (by rw[e];simp)]at hK;exact hK
       clear hK
       by_cases e1:la≤(k:Int)
       ·
        by_cases e2:(k:Int)=la
        ·
         cases xm
         ·
          try refine wk ?_
          refine q_loopT (k+1,vs++[⟨xb,false,xh,xn⟩]) ⟨by dsimp only;omega,by dsimp only;simp;omega,hyes (by simp[keepB,e1])⟩ (by dsimp only;omega) ?_
          exact by_less
         ·
          cases xh
          ·
           try refine wk ?_
           refine q_loopT (k+1,vs) ⟨by dsimp only;omega,by dsimp only;omega,hno (by simp[keepB,e2])⟩ (by dsimp only;omega) ?_
           exact by_less
          ·
           try refine wk ?_
           refine q_loopT (k+1,vs++[⟨xb,true,true,xn⟩]) ⟨by dsimp only;omega,by dsimp only;simp;omega,hyes (by simp[keepB,e1])⟩ (by dsimp only;omega) ?_
           exact by_less
        ·
         try refine wk ?_
         refine q_loopT (k+1,vs++[⟨xb,xm,xh,xn⟩]) ⟨by dsimp only;omega,by dsimp only;simp;omega,hyes (by simp[keepB,e1,e2])⟩ (by dsimp only;omega) ?_
         exact by_less
       ·
        try refine wk ?_
        refine q_loopT (k+1,vs) ⟨by dsimp only;omega,by dsimp only;omega,hno (by simp[keepB,e1])⟩ (by dsimp only;omega) ?_
        exact by_less
    ·
     rw[h5,lastGo]at hJ
     by_cases h8:x.by_ < b
     ·
      rw[if_pos h8]at hJ
      try refine wk ?_
      refine q_loopT (j+1,(j:Int)) ⟨by dsimp only;omega,hJ⟩ (by dsimp only;omega) ?_
      exact by_less
     ·
      rw[if_neg h8]at hJ
      try refine wk ?_
      refine q_loopT (j+1,la) ⟨by dsimp only;omega,hJ⟩ (by dsimp only;omega) ?_
      exact by_less
theorem ok_of (l:List Pair) (hl:l.length≤134217728):FnOk Tryz.prog 84 [.d (encRows l)] (.one (encChains (l.map rowChain))):=by
 refine fnOk_of tbl_ok mixed_ok Tryz.func84 rfl (by kernel_rfl) rfl rfl fun w0 own0=>?_
 try refine wk ?_
 refine CW.stut (stut_promote (i:=3) 131 2) ⟨rfl,rfl,trivial⟩ ?_
 refine CW.loopT (fun i:Nat=>[sd 6 (encRows l),sd 7 (dint l.length),sd 8 (dint i),so 3 0 i,oa 0 131 2 ((l.take i).map fun p=>(rowChain p).enc),nxt 1]) (fun i=>i≤l.length) (fun i=>l.length - i) 0 (by omega) ?_ ?_
 ·
  exact by_less
 ·
  rintro i hi
  rcases drop_case hi with ⟨h1,h2⟩|⟨p,h1,h2,h3⟩
  ·
   try refine wk ?_
   exact .one (.tmp rfl (.one (.own rfl (by simp;omega) (dle_eq (by rw[h2,List.take_length];simp[encChains])))))
  ·
   have h4:(l.take i).map (fun p=>(rowChain p).enc)++[(rowChain p).enc]=(l.take (i+1)).map fun p=>(rowChain p).enc:=by rw[List.take_add_one,h2];simp
   try refine wk ?_
   refine q_loopT (i+1) (by omega) (by omega) ?_
   exact by_less
theorem ok_tmark (e:Engine) (hs:e.state.length≤134217728):FnOk Tryz.prog 26 [.d (.agg e.enc)] (.one (dint (markN e.state))):=by
 refine fnOk_of tbl_ok mixed_ok Tryz.func26 rfl (by kernel_rfl) rfl rfl fun w0 own0=>?_
 try refine wk ?_
 refine CW.loopT (fun i:Nat=>[sp 1 0,ob 0 e.enc,sd 6 (encInts e.state),sd 7 (dint e.state.length),sd 8 (dint i),nxt 1]) (fun i=>i≤e.state.length∧i+markN (e.state.drop i)=markN e.state) (fun i=>e.state.length - i) 0 ⟨by omega,by simp⟩ ?_ ?_
 ·
  exact by_less
 ·
  rintro i ⟨hi,hI⟩
  rcases drop_case hi with ⟨h1,h2⟩|⟨s,h1,h2,h3⟩
  ·
   rw[h1]at hI
   simp only[markN]at hI
   try refine wk ?_
   exact .one (.tmp rfl (.one (.d (dle_int (by simp;omega)))))
  ·
   rw[h1]at hI
   simp only[markN]at hI
   by_cases h4:s=1
   ·
    rw[if_pos h4]at hI
    try refine wk ?_
    refine q_loopT (i+1) ⟨by omega,by omega⟩ (by omega) ?_
    exact by_less
   ·
    rw[if_neg h4]at hI
    try refine wk ?_
    exact .one (.tmp rfl (.one (.d (dle_int (by omega)))))
def VSrt (l:List Version):Prop:=l.Pairwise fun a b=>a.by_ < b.by_
theorem VSrt.cons {v:Version}{l:List Version}:VSrt (v::l)↔(∀ w∈l,v.by_ < w.by_)∧VSrt l:=List.pairwise_cons
theorem lastGo_ge {b:Int}:∀ {l:List Version}{k:Nat}{la:Int},(∀ v∈l,b≤v.by_)→lastGo b k la l=la
 | [],k,la,_=>rfl
 |v::l,k,la,h=>by
  have:=h v (List.mem_cons_self ..)
  simp only[lastGo]
  rw[if_neg (by omega)]
  exact lastGo_ge fun w hw=>h w (List.mem_cons_of_mem _ hw)
theorem lastGo_le {b:Int}:∀ (l:List Version) {k:Nat}{la:Int},la < k→la≤lastGo b k la l
 | [],k,la,_=>Int.le_refl _
 |v::l,k,la,h=>by
  simp only[lastGo]
  split
  ·
   have:=lastGo_le (b:=b) l (k:=k+1) (la:=(k:Int)) (by omega);omega
  ·
   exact lastGo_le l (by omega)
theorem keepGo_all:∀ {l:List Version}{k:Nat}{la:Int},la < k→keepGo la k l=l
 | [],k,la,_=>rfl
 |v::l,k,la,h=>by
  simp only[keepGo]
  rw[if_pos (by simp[keepB];omega),keepGo_all (by omega)]
theorem clrV_all {b:Int}:∀ {l:List Version},(∀ v∈l,b≤v.by_)→clrV b l=l
 | [],_=>rfl
 |v::l,h=>by
  have:=h v (List.mem_cons_self ..)
  simp only[clrV]
  rw[if_neg (by simp[old];omega),clrV_all fun w hw=>h w (List.mem_cons_of_mem _ hw)]
theorem pclr_go {b:Int}:∀ {l:List Version}{k:Nat}{la:Int},VSrt l→la < k→keepGo (lastGo b k la l) k l=clrV b l
 | [],k,la,_,_=>rfl
 |v::l,k,la,hs,hk=>by
  obtain⟨h1,h2⟩:=VSrt.cons.1 hs
  by_cases hv:v.by_ < b
  ·
   cases l with
   |nil =>
    simp only[lastGo,if_pos hv,keepGo,clrV]
    cases hm:v.made <;> cases hh:v.has <;> simp[keepB,old,later,hv,hm,hh]
   |cons w l =>
    have ih:=pclr_go (b:=b) (l:=w::l) (k:=k+1) (la:=(k:Int)) h2 (by omega)
    have hl:lastGo b k la (v::w::l)=lastGo b (k+1) k (w::l):=by rw[lastGo,if_pos hv]
    rw[hl]
    by_cases hw:w.by_ < b
    ·
     have h3:(k:Int) < lastGo b (k+1) k (w::l):=by
      rw[lastGo,if_pos hw]
      have:=lastGo_le (b:=b) l (k:=k+1+1) (la:=((k+1:Nat):Int)) (by omega)
      omega
     rw[keepGo,if_neg (by simp[keepB];omega),ih,clrV.eq_2 b v (w::l),if_pos (by simp[old,later,hv,hw])]
    ·
     have hge:∀ x∈w::l,b≤x.by_:=fun x hx=>by
      rcases List.mem_cons.1 hx with rfl|hx
      ·
       omega
      ·
       have:=(VSrt.cons.1 h2).1 x hx;omega
     rw[lastGo_ge hge,keepGo,keepGo_all (by omega),clrV.eq_2 b v (w::l),clrV_all hge]
     cases hm:v.made <;> cases hh:v.has <;> simp[keepB,old,later,hv,hw,hm,hh]
  ·
   have hge:∀ x∈v::l,b≤x.by_:=fun x hx=>by
    rcases List.mem_cons.1 hx with rfl|hx
    ·
     omega
    ·
     have:=h1 x hx;omega
   rw[lastGo_ge hge,keepGo_all hk,clrV_all hge]
theorem pclrV_eq {b:Int}{l:List Version}(hs:VSrt l):pclrV b l=clrV b l:=pclr_go hs (by omega)
theorem pclear_eq {b:Int}:∀ {l:List Chain},(∀ c∈l,VSrt c.vs)→pclear b l=clear b l
 | [],_=>rfl
 |c::l,h=>by
  simp only[pclear,clear]
  rw[pclrV_eq (h c (List.mem_cons_self ..)),pclear_eq fun d hd=>h d (List.mem_cons_of_mem _ hd)]
theorem allB_refl {α:Type}{f:α→α→Bool}(hf:∀ a,f a a=true):∀ l:List α,allB f l l=true
 | []=>rfl
 |a::l=>by simp[allB,hf,allB_refl hf l]
theorem wrongRowsGo_srt:∀ {l:List Pair}{i:Nat}{last:Str},wrongRowsGo (i+1) last l=0→(∀ p∈l,slt last p.key=true∧key p.key=true∧nOk p.n)∧Srt Pair.key l
 | [],i,last,_=>⟨by simp,List.Pairwise.nil⟩
 |p::l,i,last,h=>by
  simp only[wrongRowsGo]at h
  by_cases h1:key p.key=false
  ·
   rw[if_pos h1]at h;simp at h
  rw[if_neg h1]at h
  by_cases h2:0 < i+1∧sle p.key last=true
  ·
   rw[if_pos h2]at h;simp at h
  rw[if_neg h2]at h
  by_cases h3:1073741824 < p.n∨p.n < -1073741824
  ·
   rw[if_pos h3]at h;simp at h
  rw[if_neg h3]at h
  obtain⟨h4,h5⟩:=wrongRowsGo_srt h
  have h6:slt last p.key=true:=by
   have h7:¬ sle p.key last=true:=fun e=>h2 ⟨by omega,e⟩
   simp only[sle,Bool.or_eq_true,decide_eq_true_eq,not_or]at h7
   rcases slt_tri last p.key with h|h|h
   ·
    exact h
   ·
    exact absurd h.symm h7.2
   ·
    exact absurd h h7.1
  refine⟨fun q hq=>?_,List.pairwise_cons.2 ⟨fun q hq=>(h4 q hq).1,h5⟩⟩
  rcases List.mem_cons.1 hq with rfl|hq
  ·
   exact⟨h6,by simpa using h1,by unfold nOk;omega⟩
  ·
   exact⟨slt_trans h6 (h4 q hq).1,(h4 q hq).2⟩
theorem wrongRows_srt {l:List Pair}(h:wrongRows l=0):Srt Pair.key l∧(∀ p∈l,key p.key=true)∧rowsOk l:=by
 cases l with
 |nil=>exact⟨List.Pairwise.nil,by simp,by simp[rowsOk]⟩
 |cons p l =>
  simp only[wrongRows,wrongRowsGo]at h
  by_cases h1:key p.key=false
  ·
   rw[if_pos h1]at h;simp at h
  rw[if_neg h1,if_neg (by simp)]at h
  by_cases h3:1073741824 < p.n∨p.n < -1073741824
  ·
   rw[if_pos h3]at h;simp at h
  rw[if_neg h3]at h
  obtain⟨h4,h5⟩:=wrongRowsGo_srt h
  refine⟨List.pairwise_cons.2 ⟨fun q hq=>(h4 q hq).1,h5⟩,fun q hq=>?_,fun q hq=>?_⟩
  ·
   rcases List.mem_cons.1 hq with rfl|hq
   ·
    simpa using h1
   ·
    exact(h4 q hq).2.1
  ·
   rcases List.mem_cons.1 hq with rfl|hq
   ·
    unfold nOk;omega
   ·
    exact(h4 q hq).2.2
def newV (b:Int):Version:=⟨b,false,false,0⟩
def addS (k:Str) (b:Int):List Chain→List Chain
 | []=>[⟨k,[newV b]⟩]
 |c::r=>if c.key=k then ⟨c.key,c.vs++[newV b]⟩::r else if slt c.key k=true then c::addS k b r else ⟨k,[newV b]⟩::c::r
theorem addGo_done {k:Str}{b:Int}:∀ {l out:List Chain},(∀ c∈l,c.key≠k)→addGo k b true out l=out++l
 | [],out,_=>by simp[addGo]
 |c::l,out,h=>by
  simp only[addGo]
  rw[if_neg (h c (List.mem_cons_self ..))]
  simp only[Bool.not_true,Bool.false_and,Bool.true_or]
  rw[addGo_done fun d hd=>h d (List.mem_cons_of_mem _ hd)]
  simp
theorem addGo_srt {k:Str}{b:Int}:∀ {l out:List Chain},Srt Chain.key l→addGo k b false out l=out++addS k b l
 | [],out,_=>by simp[addGo,addS,newV]
 |c::l,out,hs=>by
  obtain⟨h1,h2⟩:=List.pairwise_cons.1 hs
  simp only[addGo,addS]
  by_cases hk:c.key=k
  ·
   rw[if_pos hk,if_pos hk]
   simp only[hk,slt_irrefl,decide_true,Bool.or_true,Bool.not_true,Bool.and_false]
   rw[addGo_done fun d hd=>?_]
   ·
    simp[newV]
   ·
    have:=h1 d hd
    rw[hk]at this
    exact fun e=>slt_ne this e.symm
  ·
   rw[if_neg hk,if_neg hk]
   cases hl:slt c.key k with
   |true =>
    simp only[Bool.true_or,Bool.not_true,Bool.and_false,Bool.or_false]
    rw[addGo_srt h2]
    simp
   |false =>
    simp only[hk,decide_false,Bool.or_false,Bool.not_false,Bool.and_true,Bool.false_or]
    rw[addGo_done fun d hd=>?_]
    ·
     simp[newV]
    ·
     have h3:=h1 d hd
     intro e
     rcases slt_tri c.key k with h|h|h
     ·
      rw[hl]at h;cases h
     ·
      exact hk h
     ·
      rw[e]at h3
      have:=slt_trans h h3
      rw[slt_irrefl]at this;cases this
theorem addC_srt {k:Str}{b:Int}{l:List Chain}(hs:Srt Chain.key l):addC l k b=addS k b l:=by
 unfold addC
 rw[addGo_srt hs]
 rfl
theorem addS_mem {k:Str}{b:Int}:∀ {l:List Chain}{c:Chain},c∈addS k b l→c∈l∨c=⟨k,[newV b]⟩∨∃ c0∈l,c0.key=k∧c=⟨k,c0.vs++[newV b]⟩
 | [],c,h=>by simp[addS]at h;exact .inr (.inl h)
 |x::l,c,h=>by
  simp only[addS]at h
  by_cases hk:x.key=k
  ·
   rw[if_pos hk]at h
   rcases List.mem_cons.1 h with rfl|h
   ·
    exact .inr (.inr ⟨x,List.mem_cons_self ..,hk,by rw[hk]⟩)
   ·
    exact .inl (List.mem_cons_of_mem _ h)
  ·
   rw[if_neg hk]at h
   split at h
   ·
    rcases List.mem_cons.1 h with rfl|h
    ·
     exact .inl (List.mem_cons_self ..)
    ·
     rcases addS_mem h with h|h|⟨c0,h0,h⟩
     ·
      exact .inl (List.mem_cons_of_mem _ h)
     ·
      exact .inr (.inl h)
     ·
      exact .inr (.inr ⟨c0,List.mem_cons_of_mem _ h0,h⟩)
   ·
    rcases List.mem_cons.1 h with rfl|h
    ·
     exact .inr (.inl rfl)
    ·
     exact .inl h
theorem addS_srt {k:Str}{b:Int}:∀ {l:List Chain},Srt Chain.key l→Srt Chain.key (addS k b l)
 | [],_=>List.pairwise_singleton ..
 |c::l,hs=>by
  obtain⟨h1,h2⟩:=List.pairwise_cons.1 hs
  simp only[addS]
  by_cases hk:c.key=k
  ·
   rw[if_pos hk];exact List.pairwise_cons.2 ⟨h1,h2⟩
  ·
   rw[if_neg hk]
   cases hl:slt c.key k with
   |true =>
    rw[if_pos rfl]
    refine List.pairwise_cons.2 ⟨fun d hd=>?_,addS_srt h2⟩
    rcases addS_mem hd with h|rfl|⟨c0,h0,h3,rfl⟩
    ·
     exact h1 d h
    ·
     exact hl
    ·
     exact hl
   |false =>
    rw[if_neg (by simp)]
    have hkc:slt k c.key=true:=by
     rcases slt_tri c.key k with h|h|h
     ·
      rw[hl]at h;cases h
     ·
      exact absurd h hk
     ·
      exact h
    refine List.pairwise_cons.2 ⟨fun d hd=>?_,hs⟩
    rcases List.mem_cons.1 hd with rfl|hd
    ·
     exact hkc
    ·
     exact slt_trans hkc (h1 d hd)
structure SInv (e:Engine):Prop where
 k:Srt Chain.key e.chains
 v:∀ c∈e.chains,VSrt c.vs
 b:∀ c∈e.chains,∀ v∈c.vs,v.by_ < e.base+e.deeds.length
theorem newE_srt {r:List Pair}(h:Srt Pair.key r):SInv (newE r):=by
 refine⟨List.pairwise_map.2 h,fun c hc=>?_,fun c hc v hv=>?_⟩
 ·
  obtain⟨p,_,rfl⟩:=List.mem_map.1 hc
  exact List.pairwise_singleton ..
 ·
  obtain⟨p,_,rfl⟩:=List.mem_map.1 hc
  simp[rowChain]at hv
  subst hv
  simp[newE]
theorem isIn_false {s:Str}:∀ {l:List Str},isIn l s=false→s∉l
 | [],_,h=>by simp at h
 |x::l,h,hm=>by
  simp only[isIn]at h
  by_cases hx:x=s
  ·
   rw[if_pos hx]at h;cases h
  ·
   rw[if_neg hx]at h
   rcases List.mem_cons.1 hm with rfl|hm
   ·
    exact hx rfl
   ·
    exact isIn_false h hm
theorem keysGo_nodup {l:List Str}:∀ {r:List Str}{i:Nat},l.drop i=r→(l.take i).Nodup→keysGo l i r=0→l.Nodup∧∀ k∈r,key k=true
 | [],i,hr,hn,_=>by
  have:l.length≤i:=by simpa using hr
  rw[List.take_of_length_le this]at hn
  exact⟨hn,by simp⟩
 |k::r,i,hr,hn,h=>by
  simp only[keysGo]at h
  by_cases h1:key k=false
  ·
   rw[if_pos h1]at h;simp at h
  rw[if_neg h1]at h
  by_cases h2:isIn (l.take i) k=true
  ·
   rw[if_pos h2]at h;simp at h
  rw[if_neg h2]at h
  have hk:l[i]? = some k:=by
   have:(l.drop i)[0]? = some k:=by rw[hr];rfl
   simpa using this
  have h3:l.take (i+1)=l.take i++[k]:=by rw[List.take_add_one,hk];rfl
  have hni:k∉l.take i:=isIn_false (by simpa using h2)
  have:=keysGo_nodup (l:=l) (r:=r) (i:=i+1) (by rw[← List.drop_drop,hr];rfl) (by
   rw[h3]
   refine List.nodup_append.2 ⟨hn,by simp,fun a ha b hb=>?_⟩
   simp at hb;subst hb
   exact fun e=>hni (e▸ha)) h
  exact⟨this.1,fun x hx=>by
   rcases List.mem_cons.1 hx with rfl|hx
   ·
    simpa using h1
   ·
    exact this.2 x hx⟩
theorem keysWrong_nodup {l:List Str}(h:keysWrong l=0):l.Nodup∧(∀ k∈l,key k=true)∧l.length≤5:=by
 unfold keysWrong at h
 by_cases h1:5 < l.length
 ·
  rw[if_pos h1]at h;simp at h
 ·
  rw[if_neg h1]at h
  have:=keysGo_nodup (l:=l) (r:=l) (i:=0) rfl (by simp) h
  exact⟨this.1,this.2,by omega⟩
theorem wrong_keys {d:Deed}(h:wrongDeed d=0):d.reads.Nodup∧d.writes.Nodup:=by
 unfold wrongDeed at h
 by_cases h0:lsGo [d.reads,d.writes]=0
 ·
  simp only[lsGo]at h0
  by_cases h1:keysWrong d.reads=0
  ·
   rw[if_pos h1]at h0
   by_cases h2:keysWrong d.writes=0
   ·
    exact⟨(keysWrong_nodup h1).1,(keysWrong_nodup h2).1⟩
   ·
    rw[if_neg h2]at h0;exact absurd h0 h2
  ·
   rw[if_neg h1]at h0;exact absurd h0 h1
 ·
  rw[if_neg h0]at h;exact absurd h h0
theorem addKeys_srt {b:Int}:∀ {ks:List Str}{l:List Chain},ks.Nodup→Srt Chain.key l→(∀ c∈l,VSrt c.vs∧(∀ v∈c.vs,v.by_≤b)∧(c.key∈ks→∀ v∈c.vs,v.by_ < b)) →
  Srt Chain.key (addKeys b l ks)∧∀ c∈addKeys b l ks,VSrt c.vs∧∀ v∈c.vs,v.by_≤b
 | [],l,_,hs,h=>⟨hs,fun c hc=>⟨(h c hc).1,(h c hc).2.1⟩⟩
 |k::ks,l,hn,hs,h=>by
  obtain⟨hk,hn⟩:=List.nodup_cons.1 hn
  simp only[addKeys]
  rw[addC_srt hs]
  refine addKeys_srt hn (addS_srt hs) fun c hc=>?_
  rcases addS_mem hc with h0|rfl|⟨c0,h0,h1,rfl⟩
  ·
   obtain⟨h1,h2,h3⟩:=h c h0
   exact⟨h1,h2,fun hm=>h3 (List.mem_cons_of_mem _ hm)⟩
  ·
   exact⟨List.pairwise_singleton ..,fun v hv=>by simp at hv;subst hv;exact Int.le_refl _,fun hm=>absurd hm hk⟩
  ·
   obtain⟨h2,h3,h4⟩:=h c0 h0
   have h5:=h4 (by rw[h1];exact List.mem_cons_self ..)
   refine⟨List.pairwise_append.2 ⟨h2,List.pairwise_singleton ..,fun a ha x hx=>?_⟩,fun v hv=>?_,fun hm=>absurd hm hk⟩
   ·
    simp at hx;subst hx;exact h5 a ha
   ·
    rcases List.mem_append.1 hv with hv|hv
    ·
     exact h3 v hv
    ·
     simp at hv;subst hv;exact Int.le_refl _
theorem SInv.add1 {e:Engine}(h:SInv e) {d:Deed}(hw:d.writes.Nodup):SInv (add1 e d):=by
 have:=addKeys_srt (b:=e.base+e.deeds.length) hw h.k fun c hc=>⟨h.v c hc,fun v hv=>by have:=h.b c hc v hv;omega,fun _ v hv=>h.b c hc v hv⟩
 refine⟨this.1,fun c hc=>(this.2 c hc).1,fun c hc v hv=>?_⟩
 have:=(this.2 c hc).2 v hv
 show v.by_ < e.base+((e.deeds++[d]).length:Nat)
 rw[List.length_append]
 simp only[List.length_singleton]
 omega
theorem SInv.addAll:∀ {l:List Deed}{e:Engine},SInv e→(∀ d∈l,d.writes.Nodup)→SInv (addAll e l)
 | [],e,h,_=>h
 |d::l,e,h,hl=>by
  simp only[RF.addAll]
  exact SInv.addAll (h.add1 (hl d (List.mem_cons_self ..))) fun x hx=>hl x (List.mem_cons_of_mem _ hx)
theorem SInv.addE {e:Engine}(h:SInv e) {l:List Deed}(hw:(addE e l).2=0):SInv (addE e l).1:=by
 unfold RF.addE at hw ⊢
 by_cases h0:wrongs l=0
 ·
  rw[if_pos h0]
  exact h.addAll fun d hd=>(wrong_keys (wrongs_mem h0 d hd)).2
 ·
  rw[if_neg h0]at hw;exact absurd hw h0
theorem set_srt {l:List Chain}{k:Str}{v:Version}{N:Int}(hs:Srt Chain.key l) (hv:∀ c∈l,VSrt c.vs∧∀ w∈c.vs,w.by_ < N) :
  Srt Chain.key (setChains l k v)∧∀ c∈setChains l k v,VSrt c.vs∧∀ w∈c.vs,w.by_ < N:=by
 have hb:∀ (h:Bool) (w:Version),(setV h v w).by_=w.by_:=fun h w=>by
  unfold setV
  split
  ·
   next hh=>exact hh.2.symm
  ·
   rfl
 refine⟨List.pairwise_map.2 hs,fun c hc=>?_⟩
 obtain⟨c0,h0,rfl⟩:=List.mem_map.1 hc
 obtain⟨h1,h2⟩:=hv c0 h0
 refine⟨List.pairwise_map.2 (h1.imp fun hab=>by rw[hb,hb];exact hab),fun w hw=>?_⟩
 obtain⟨w0,hw0,rfl⟩:=List.mem_map.1 hw
 rw[hb];exact h2 w0 hw0
theorem goSets_srt {r:List Pair}{b N:Int}:∀ {ks:List Str}{l:List Chain},Srt Chain.key l→(∀ c∈l,VSrt c.vs∧∀ w∈c.vs,w.by_ < N) →
  Srt Chain.key (goSets r b l ks)∧∀ c∈goSets r b l ks,VSrt c.vs∧∀ w∈c.vs,w.by_ < N
 | [],l,hs,hv=>⟨hs,hv⟩
 |k::ks,l,hs,hv=>by
  simp only[goSets]
  have:=set_srt (k:=k) (v:=⟨b,true,(RF.get r k).2,(RF.get r k).1⟩) hs hv
  exact goSets_srt this.1 this.2
theorem SInv.goNew {e:Engine}(h:SInv e) (A:Nat) (d:Deed):SInv (goNew e A d):=by
 have:=goSets_srt (r:=(goDone e A d).1) (b:=e.base+A) (ks:=d.writes) (N:=e.base+e.deeds.length) h.k fun c hc=>⟨h.v c hc,h.b c hc⟩
 exact⟨this.1,fun c hc=>(this.2 c hc).1,fun c hc=>(this.2 c hc).2⟩
theorem SInv.goE {e:Engine}(h:SInv e) (at_:Int):SInv (goE e at_).1:=by
 unfold Proofs.YtccblhpfjlgmbabGreatDoor.goE
 split
 ·
  exact h
 unfold goAt
 cases hA:e.deeds[at_.toNat]? with
 |none=>exact h
 |some d =>
  dsimp only
  split
  ·
   exact h
  split
  ·
   exact h.goNew _ _
  ·
   exact h
theorem clrV_sublist {b:Int}:∀ l:List Version,(clrV b l).Sublist l
 | []=>List.Sublist.slnil
 |v::l=>by
  simp only[clrV]
  split
  ·
   exact(clrV_sublist l).cons _
  ·
   exact(clrV_sublist l).cons_cons _
theorem clear_srt {b:Int}:∀ {l:List Chain},Srt Chain.key l→Srt Chain.key (clear b l)
 | [],_=>List.Pairwise.nil
 |c::l,hs=>by
  obtain⟨h1,h2⟩:=List.pairwise_cons.1 hs
  simp only[clear]
  split
  ·
   exact clear_srt h2
  ·
   refine List.pairwise_cons.2 ⟨fun d hd=>?_,clear_srt h2⟩
   obtain⟨c0,h0,rfl⟩:=clear_mem hd
   exact h1 c0 h0
theorem SInv.clearE {e:Engine}(h:SInv e):SInv (clearE e):=by
 have hm:=markN_le e.state
 refine⟨clear_srt h.k,fun c hc=>?_,fun c hc v hv=>?_⟩
 ·
  obtain⟨c0,h0,rfl⟩:=clear_mem hc
  exact List.Pairwise.sublist (clrV_sublist _) (h.v c0 h0)
 ·
  obtain⟨c0,h0,rfl⟩:=clear_mem hc
  have:=h.b c0 h0 v (clrV_sub hv)
  simp only[RF.clearE,List.length_drop]
  omega
theorem before_row {r:List Pair}(h:Srt Pair.key r) {p:Pair}(hp:p∈r) {b:Int}(hb : -1 < b):before (r.map rowChain) p.key b=⟨-1,true,true,p.n⟩:=by
 obtain⟨i,hi⟩:=List.getElem?_of_mem hp
 unfold before
 have hil:=(List.getElem?_eq_some_iff.1 hi).1
 have hsp:r=r.take i++p::r.drop (i+1):=by
  have h1:=List.take_append_drop i r
  rw[List.drop_eq_getElem_cons hil,(List.getElem?_eq_some_iff.1 hi).2]at h1
  exact h1.symm
 have hne:∀ q∈r.take i++r.drop (i+1),q.key≠p.key:=by
  intro q hq
  rcases List.mem_append.1 hq with hq|hq
  ·
   obtain⟨j,hj⟩:=List.getElem?_of_mem hq
   rw[List.getElem?_take]at hj
   split at hj
   ·
    exact h.ne hj hi (by omega)
   ·
    cases hj
  ·
   obtain⟨j,hj⟩:=List.getElem?_of_mem hq
   rw[List.getElem?_drop]at hj
   exact h.ne hj hi (by omega)
 have n1:∀ out,beforeGo p.key b out ((r.take i).map rowChain)=out:=fun out=>beforeGo_none fun c hc=>by
  obtain⟨q,hq,rfl⟩:=List.mem_map.1 hc
  exact hne q (List.mem_append_left _ hq)
 have n2:∀ out,beforeGo p.key b out ((r.drop (i+1)).map rowChain)=out:=fun out=>beforeGo_none fun c hc=>by
  obtain⟨q,hq,rfl⟩:=List.mem_map.1 hc
  exact hne q (List.mem_append_right _ hq)
 rw[hsp,List.map_append,beforeGo_append,n1,List.map_cons]
 simp only[beforeGo]
 rw[n2]
 simp[rowChain,bvs,hb]
theorem rowsAtGo_len {l0:List Chain}{b:Int}:∀ (l:List Chain) (out:List Pair),(rowsAtGo l0 b out l).1.length≤out.length+l.length
 | [],out=>by simp[rowsAtGo]
 |c::l,out=>by
  simp only[rowsAtGo]
  split
  ·
   simp
  split
  ·
   have:=rowsAtGo_len (l0:=l0) (b:=b) l (out++[⟨c.key,(before l0 c.key b).n⟩]);simp at this ⊢;omega
  ·
   have:=rowsAtGo_len (l0:=l0) (b:=b) l out;simp at this ⊢;omega
theorem rowsAt_len (l:List Chain) (b:Int):(rowsAt l b).1.length≤l.length:=by
 have:=rowsAtGo_len (l0:=l) (b:=b) l []
 unfold rowsAt
 simpa using this
theorem addS_len {k:Str}{b:Int}:∀ l:List Chain,(addS k b l).length≤l.length+1
 | []=>by simp[addS]
 |c::l=>by
  have:=addS_len (k:=k) (b:=b) l
  simp only[addS]
  split
  ·
   simp
  ·
   split
   ·
    simp;omega
   ·
    simp
theorem addS_vs {k:Str}{b:Int}{l:List Chain}{N:Nat}(h:∀ c∈l,c.vs.length≤N):∀ c∈addS k b l,c.vs.length≤N+1:=by
 intro c hc
 rcases addS_mem hc with h0|rfl|⟨c0,h0,_,rfl⟩
 ·
  have:=h c h0;omega
 ·
  simp
 ·
  have:=h c0 h0;simp;omega
theorem set_len (l:List Chain) (k:Str) (v:Version):(setChains l k v).length=l.length:=by simp[setChains]
theorem get_put {k k':Str}{n:Int}:∀ {l:List Pair},RF.get (putS k n l) k'=if k=k' then (n,true) else RF.get l k'
 | []=>by simp[putS,RF.get]
 |p::l=>by
  simp only[putS]
  by_cases hk:p.key=k
  ·
   rw[if_pos hk]
   simp only[RF.get]
   by_cases h:k=k'
   ·
    simp[h]
   ·
    rw[if_neg h,if_neg h,if_neg (by rw[hk];exact h)]
  ·
   rw[if_neg hk]
   split
   ·
    simp only[RF.get]
    rw[get_put]
    by_cases h:p.key=k'
    ·
     rw[if_pos h,if_neg (fun e=>hk (by rw[h,e])),if_pos h]
    ·
     rw[if_neg h,if_neg h]
   ·
    simp only[RF.get]
theorem get_absent {k:Str}:∀ {l:List Pair},(∀ p∈l,p.key≠k)→RF.get l k=(0,false)
 | [],_=>rfl
 |p::l,h=>by
  simp only[RF.get]
  rw[if_neg (h p (List.mem_cons_self ..)),get_absent fun q hq=>h q (List.mem_cons_of_mem _ hq)]
theorem srt_absent {p:Pair}{l:List Pair}(hs:Srt Pair.key (p::l)):∀ q∈l,q.key≠p.key:=fun q hq e=>by
 have:=(List.pairwise_cons.1 hs).1 q hq
 rw[e,slt_irrefl]at this;cases this
theorem get_drop {k k':Str}:∀ {l:List Pair},Srt Pair.key l→RF.get (dropS k l) k'=if k=k' then (0,false) else RF.get l k'
 | [],_=>by simp[dropS,RF.get]
 |p::l,hs=>by
  simp only[dropS]
  by_cases hk:p.key=k
  ·
   rw[if_pos hk]
   by_cases h:k=k'
   ·
    rw[if_pos h]
    exact get_absent fun q hq=>by rw[← h,← hk];exact srt_absent hs q hq
   ·
    rw[if_neg h]
    simp only[RF.get]
    rw[if_neg (by rw[hk];exact h)]
  ·
   rw[if_neg hk]
   simp only[RF.get]
   rw[get_drop (List.pairwise_cons.1 hs).2]
   by_cases h:p.key=k'
   ·
    rw[if_pos h,if_neg (fun e=>hk (by rw[h,e])),if_pos h]
   ·
    rw[if_neg h,if_neg h]
theorem srt_ext:∀ {l r:List Pair},Srt Pair.key l→Srt Pair.key r→(∀ p,p∈l↔p∈r)→l=r
 | [],[],_,_,_=>rfl
 | [],q::r,_,_,h=>by have:=(h q).2 (List.mem_cons_self ..);simp at this
 |p::l,[],_,_,h=>by have:=(h p).1 (List.mem_cons_self ..);simp at this
 |p::l,q::r,hl,hr,h=>by
  obtain⟨l1,l2⟩:=List.pairwise_cons.1 hl
  obtain⟨r1,r2⟩:=List.pairwise_cons.1 hr
  have hpq:p=q:=by
   rcases List.mem_cons.1 ((h p).1 (List.mem_cons_self ..)) with e|e
   ·
    exact e
   ·
    rcases List.mem_cons.1 ((h q).2 (List.mem_cons_self ..)) with e'|e'
    ·
     exact e'.symm
    ·
     have:=slt_trans (l1 q e') (r1 p e)
     rw[slt_irrefl]at this;cases this
  subst hpq
  congr 1
  refine srt_ext l2 r2 fun x=>⟨fun hx=>?_,fun hx=>?_⟩
  ·
   rcases List.mem_cons.1 ((h x).1 (List.mem_cons_of_mem _ hx)) with e|e
   ·
    subst e;have:=l1 x hx;rw[slt_irrefl]at this;cases this
   ·
    exact e
  ·
   rcases List.mem_cons.1 ((h x).2 (List.mem_cons_of_mem _ hx)) with e|e
   ·
    subst e;have:=r1 x hx;rw[slt_irrefl]at this;cases this
   ·
    exact e
def alpha:List UInt8:=[97,98,99,100,101,102,103,104,105,106,107,108,109,110,111,112,113,114,115,116,117,118,119,120,121,122]
theorem alpha_bad (c:UInt8):alpha.contains c = !bad c:=by
 have h:∀ n:Fin 256,alpha.contains (UInt8.ofFin n) = !bad (UInt8.ofFin n):=by decide +kernel
 have:=h c.toFin
 rwa [UInt8.ofFin_toFin]at this
theorem dropWhile_nil {p:UInt8→Bool}:∀ {l:List UInt8},l.dropWhile p=[]↔∀ x∈l,p x=true
 | []=>by simp
 |x::l=>by
  cases h:p x with
  |true=>rw[List.dropWhile_cons_of_pos h,dropWhile_nil];simp[h]
  |false=>rw[List.dropWhile_cons_of_neg (by simp[h])];simp[h]
theorem dropWhile_head {p:UInt8→Bool}:∀ {l r:List UInt8}{x:UInt8},l.dropWhile p=x::r→p x=false
 | [],r,x,h=>by simp at h
 |y::l,r,x,h=>by
  cases hy:p y with
  |true=>rw[List.dropWhile_cons_of_pos hy]at h;exact dropWhile_head h
  |false=>rw[List.dropWhile_cons_of_neg (by simp[hy])]at h;cases h;exact hy
theorem trim_nil {l cs:List UInt8}:Lib.trimS l cs=[]↔∀ x∈l,cs.contains x=true:=by
 unfold Lib.trimS Lib.trimLeftS Lib.trimRightS
 rw[dropWhile_nil]
 constructor
 ·
  intro h
  have h1:l.reverse.dropWhile (cs.contains ·)=[]:=by
   cases h2:l.reverse.dropWhile (cs.contains ·) with
   |nil=>rfl
   |cons x r =>
    have h3:=dropWhile_head h2
    have h4:=h x (by rw[h2];simp)
    rw[h3]at h4;cases h4
  intro x hx
  exact dropWhile_nil.1 h1 x (by simpa using hx)
 ·
  intro h x hx
  have h1:l.reverse.dropWhile (cs.contains ·)=[]:=dropWhile_nil.2 fun x hx=>h x (by simpa using hx)
  rw[h1]at hx;simp at hx
theorem keyGo_eq {s:Str}:∀ {r:Str},keyGo s r=((r.all fun c => !bad c)&&(decide (0 < s.length)&&decide (s.length < 7)))
 | []=>by simp[keyGo]
 |c::r=>by
  simp only[keyGo,List.all_cons]
  rw[keyGo_eq]
  cases bad c <;> simp
theorem key_trim (s:Str):key s=(decide (1≤s.length)&&(decide (s.length≤6)&&decide (Lib.trimS s alpha=[]))):=by
 unfold key
 rw[keyGo_eq]
 have h1:(s.all fun c => !bad c)=decide (Lib.trimS s alpha=[]):=by
  rw[Bool.eq_iff_iff,decide_eq_true_eq,trim_nil,List.all_eq_true]
  simp only[alpha_bad]
 rw[h1]
 have h2:decide (0 < s.length)=decide (1≤s.length):=by congr 1
 have h3:decide (s.length < 7)=decide (s.length≤6):=by congr 1;exact propext ⟨fun h=>by omega,fun h=>by omega⟩
 rw[h2,h3]
 cases decide (Lib.trimS s alpha=[]) <;> cases decide (1≤s.length) <;> cases decide (s.length≤6) <;> rfl
theorem get_mem_some {k:Str}:∀ {l:List Pair}{n:Int},RF.get l k=(n,true)→(⟨k,n⟩:Pair)∈l
 | [],n,h=>by simp[RF.get]at h
 |p::l,n,h=>by
  simp only[RF.get]at h
  by_cases hk:p.key=k
  ·
   rw[if_pos hk]at h
   cases h
   rw[← hk]
   exact List.mem_cons_self ..
  ·
   rw[if_neg hk]at h
   exact List.mem_cons_of_mem _ (get_mem_some h)
theorem get_of_mem {p:Pair}:∀ {l:List Pair},Srt Pair.key l→p∈l→RF.get l p.key=(p.n,true)
 |q::l,hs,h=>by
  simp only[RF.get]
  rcases List.mem_cons.1 h with rfl|h
  ·
   rw[if_pos rfl]
  ·
   have:=srt_absent hs p h
   rw[if_neg (fun e=>this e.symm),get_of_mem (List.pairwise_cons.1 hs).2 h]
theorem get_ext {l r:List Pair}(hl:Srt Pair.key l) (hr:Srt Pair.key r) (h:∀ k,RF.get l k=RF.get r k):l=r :=
 srt_ext hl hr fun p=>⟨fun hp=>get_mem_some (by rw[← h,get_of_mem hl hp]),fun hp=>get_mem_some (by rw[h,get_of_mem hr hp])⟩
def chOf (c:Bool×Int):Int×Bool:=if c.1=true then (c.2,true) else (0,false)
def chAt (r:List Pair) (m:Mk) (k:Str):Int×Bool:=match mG m k with
 |some c=>chOf c
 |none=>RF.get r k
def app1 (out:List Pair) (k:Str) (c:Bool×Int):List Pair:=if c.1=true then putS k c.2 out else dropS k out
def appC:List Pair→List (Str×(Bool×Int))→List Pair
 |out,[]=>out
 |out,x::r=>appC (app1 out x.1 x.2) r
theorem app1_srt {out:List Pair}(h:Srt Pair.key out) (k:Str) (c:Bool×Int):Srt Pair.key (app1 out k c):=by
 unfold app1;split
 ·
  exact putS_srt h
 ·
  exact dropS_srt h
theorem app1_get {out:List Pair}(h:Srt Pair.key out) (k k':Str) (c:Bool×Int):RF.get (app1 out k c) k'=if k=k' then chOf c else RF.get out k':=by
 unfold app1 chOf;split
 ·
  exact get_put
 ·
  exact get_drop h
theorem appC_srt:∀ {l:List (Str×(Bool×Int))}{out:List Pair},Srt Pair.key out→Srt Pair.key (appC out l)
 | [],out,h=>h
 |x::l,out,h=>appC_srt (l:=l) (app1_srt h _ _)
theorem appC_get {m:Mk}{k:Str}:∀ {l:List Str}{out:List Pair},Srt Pair.key out→RF.get (appC out (chg m l)) k=if k∈l then chAt out m k else RF.get out k
 | [],out,h=>by simp[chg,appC]
 |x::l,out,h=>by
  simp only[chg]
  cases hx:mG m x with
  |none =>
   simp only
   rw[appC_get h]
   by_cases hk:k∈l
   ·
    rw[if_pos hk,if_pos (List.mem_cons_of_mem _ hk)]
   ·
    rw[if_neg hk]
    by_cases he:k=x
    ·
     subst he
     rw[if_pos (List.mem_cons_self ..),chAt,hx]
    ·
     rw[if_neg (by simp[he,hk])]
  |some c =>
   simp only[appC]
   rw[appC_get (app1_srt h _ _)]
   by_cases he:x=k
   ·
    subst he
    rw[if_pos (List.mem_cons_self ..),app1_get h,if_pos rfl]
    simp only[chAt,hx,ite_self]
   ·
    have hne:¬ k=x:=fun e=>he e.symm
    by_cases hk:k∈l
    ·
     rw[if_pos hk,if_pos (List.mem_cons_of_mem _ hk)]
     unfold chAt
     rw[app1_get h,if_neg he]
    ·
     rw[if_neg hk,if_neg (by simp[hne,hk]),app1_get h,if_neg he]
def plainD (r:List Pair) (d:Deed):List Pair×Done:=(appC r (runC (RF.get r) d),(runM (RF.get r) d).2)
theorem see_at {r now:List Pair}{m:Mk}(h:∀ k,RF.get now k=chAt r m k) (hf:∀ k c,mG m k=some c→c.1=false→c.2=0) (k:Str):seeM (RF.get r) m k=(RF.get now k).1:=by
 rw[h k]
 unfold seeM chAt chOf
 cases hm:mG m k with
 |none=>rfl
 |some c =>
  dsimp only
  by_cases hc:c.1=true
  ·
   rw[if_pos hc]
  ·
   rw[if_neg hc]
   exact hf k c hm (by simpa using hc)
structure MInv (r:List Pair) (W:List Str) (m:Mk) (now:List Pair):Prop where
 s:Srt Pair.key now
 a:∀ k,RF.get now k=chAt r m k
 f:∀ k c,mG m k=some c→c.1=false→c.2=0
 w:∀ k c,mG m k=some c→k∈W
theorem MInv.set {r now:List Pair}{W:List Str}{m:Mk}(h:MInv r W m now) {k:Str}(hk:k∈W) (c:Bool×Int) (hc:c.1=false→c.2=0):MInv r W (mS m k c) (app1 now k c):=by
 refine⟨app1_srt h.s k c,fun k'=>?_,fun k' c' hm=>?_,fun k' c' hm=>?_⟩
 ·
  rw[app1_get h.s]
  unfold chAt
  rw[mG_mS]
  by_cases he:k=k'
  ·
   rw[if_pos he,if_pos he]
  ·
   rw[if_neg he,if_neg he]
   exact h.a k'
 ·
  rw[mG_mS]at hm
  split at hm
  ·
   cases hm;exact hc
  ·
   exact h.f k' c' hm
 ·
  rw[mG_mS]at hm
  split at hm
  ·
   next he=>rw[← he];exact hk
  ·
   exact h.w k' c' hm
theorem run_do {r:List Pair}{W:List Str}:∀ {l:List Ins}{sk:Int}{m:Mk}{e:Done}{now:List Pair},MInv r W m now→e.failed=false→(∀ i∈l,(i.kind=6∨i.kind=7)→i.key∈W) →
  (runGo (RF.get r) sk m e l).2=(doGo r sk now e l).2∧((doGo r sk now e l).2.failed=true→(doGo r sk now e l).1=r)∧((doGo r sk now e l).2.failed=false→MInv r W (runGo (RF.get r) sk m e l).1 (doGo r sk now e l).1)
 | [],sk,m,e,now,h,he,hw=>by
  simp only[runGo,doGo]
  exact⟨trivial,fun hf=>by rw[he]at hf;exact absurd hf (by simp),fun _=>h⟩
 |i::l,sk,m,e,now,h,he,hw=>by
  have hl:∀ i∈l,(i.kind=6∨i.kind=7)→i.key∈W:=fun j hj=>hw j (List.mem_cons_of_mem _ hj)
  simp only[runGo,doGo]
  rw[see_at h.a h.f]
  by_cases h0:0 < sk
  ·
   rw[if_pos h0,if_pos h0];exact run_do h he hl
  rw[if_neg h0,if_neg h0]
  have hr:∀ k x,(rset e k x).failed=false:=fun k x=>by rw[rset_failed];exact he
  by_cases h1:i.kind=1
  ·
   rw[if_pos h1,if_pos h1];exact run_do h (hr _ _) hl
  rw[if_neg h1,if_neg h1]
  by_cases h2:i.kind=2
  ·
   rw[if_pos h2,if_pos h2];exact run_do h (hr _ _) hl
  rw[if_neg h2,if_neg h2]
  by_cases h3:i.kind=3
  ·
   rw[if_pos h3,if_pos h3];exact run_do h (hr _ _) hl
  rw[if_neg h3,if_neg h3]
  by_cases h4:i.kind=4
  ·
   rw[if_pos h4,if_pos h4];exact run_do h (hr _ _) hl
  rw[if_neg h4,if_neg h4]
  by_cases h5:i.kind=5
  ·
   rw[if_pos h5,if_pos h5];exact run_do h (hr _ _) hl
  rw[if_neg h5,if_neg h5]
  by_cases h6:i.kind=6
  ·
   rw[if_pos h6,if_pos h6,put_true h.s]
   have:=h.set (hw i (List.mem_cons_self ..) (.inl h6)) (true,rget e i.a.toNat) (by simp)
   exact run_do this he hl
  rw[if_neg h6,if_neg h6]
  by_cases h7:i.kind=7
  ·
   rw[if_pos h7,if_pos h7,put_false h.s]
   have:=h.set (hw i (List.mem_cons_self ..) (.inr h7)) (false,0) (by simp)
   exact run_do this he hl
  rw[if_neg h7,if_neg h7]
  by_cases h8:i.kind=8
  ·
   rw[if_pos h8,if_pos h8];exact run_do h he hl
  rw[if_neg h8,if_neg h8]
  by_cases h9:rget e i.a.toNat < 0
  ·
   rw[if_pos h9,if_pos h9]
   exact⟨rfl,fun _=>rfl,fun hf=>by simp[bustE]at hf⟩
  ·
   rw[if_neg h9,if_neg h9];exact run_do h he hl
theorem plain_do {r:List Pair}{d:Deed}(hs:Srt Pair.key r) (hw:∀ i∈d.code,(i.kind=6∨i.kind=7)→i.key∈d.writes):plainD r d=doD r d:=by
 obtain⟨h1,h2,h3⟩:=run_do (r:=r) (W:=d.writes) (l:=d.code) (sk:=0) (m:=[]) (e:=done0) (now:=r) ⟨hs,fun k=>rfl,fun k c h=>by simp[mG]at h,fun k c h=>by simp[mG]at h⟩ rfl hw
 unfold plainD doD
 refine Prod.ext ?_ h1
 dsimp only
 unfold runC
 by_cases hf:(runM (RF.get r) d).2.failed=true
 ·
  rw[if_pos hf]
  have hf':(doGo r 0 r done0 d.code).2.failed=true:=by rw[← h1];exact hf
  rw[h2 hf'];rfl
 ·
  rw[if_neg hf]
  have hf':(doGo r 0 r done0 d.code).2.failed=false:=by rw[← h1];exact Bool.eq_false_iff.2 hf
  have h:=h3 hf'
  refine get_ext (appC_srt hs) h.s fun k=>?_
  rw[appC_get hs,h.a k]
  by_cases hk:k∈d.writes
  ·
   rw[if_pos hk];rfl
  ·
   rw[if_neg hk]
   unfold chAt
   cases hm:mG (runGo (RF.get r) 0 [] done0 d.code).1 k with
   |none=>rfl
   |some c=>exact absurd (h.w k c hm) hk
theorem doD_srt {r:List Pair}{d:Deed}(hs:Srt Pair.key r) (hw:∀ i∈d.code,(i.kind=6∨i.kind=7)→i.key∈d.writes):Srt Pair.key (doD r d).1:=by
 rw[← plain_do hs hw];exact appC_srt hs
theorem isIn_true {s:Str}:∀ {l:List Str},isIn l s=true→s∈l
 | [],h=>by cases h
 |x::l,h=>by
  simp only[isIn]at h
  by_cases hx:x=s
  ·
   rw[hx];exact List.mem_cons_self ..
  ·
   rw[if_neg hx]at h
   exact List.mem_cons_of_mem _ (isIn_true h)
theorem wrongIns_keyed {d:Deed}{m:Int}{i:Ins}(h:wrongIns d m i=0) (hk:i.kind=6∨i.kind=7):i.key∈d.writes:=by
 unfold wrongIns at h
 have hkk:¬ (i.kind < 1∨9 < i.kind):=by omega
 rw[if_neg hkk]at h
 have hh:has i.kind.toNat 107=true:=by rcases hk with e|e <;> rw[e] <;> decide
 split at h
 ·
  simp at h
 ·
  rw[if_neg (by rw[hh];simp),if_neg (show ¬ i.kind=1 by omega)]at h
  split at h
  ·
   next hi=>exact isIn_true hi
  ·
   simp at h
theorem wrong_keyed {d:Deed}(h:wrongDeed d=0):∀ i∈d.code,(i.kind=6∨i.kind=7)→i.key∈d.writes:=by
 intro i hi
 unfold wrongDeed at h
 by_cases h0:lsGo [d.reads,d.writes]=0
 ·
  rw[if_pos h0]at h
  by_cases hc:12 < d.code.length
  ·
   rw[if_pos hc]at h;simp at h
  ·
   rw[if_neg hc]at h
   obtain⟨j,hj⟩:=List.getElem?_of_mem hi
   exact wrongIns_keyed (codeGo_mem h j i hj)
 ·
  rw[if_neg h0]at h;exact absurd h h0
theorem runGo_congr {v v':Str→Int×Bool}:∀ {l:List Ins}{sk:Int}{m:Mk}{e:Done},(∀ i∈l,i.kind=1→(v i.key).1=(v' i.key).1)→runGo v sk m e l=runGo v' sk m e l
 | [],sk,m,e,_=>rfl
 |i::l,sk,m,e,h=>by
  have ih:=fun {sk:Int} {m:Mk} {e:Done}=>runGo_congr (v:=v) (v':=v') (l:=l) (sk:=sk) (m:=m) (e:=e) fun j hj=>h j (List.mem_cons_of_mem _ hj)
  have hs:i.kind=1→seeM v m i.key=seeM v' m i.key:=fun hk=>by
   unfold seeM
   split
   ·
    rfl
   ·
    exact h i (List.mem_cons_self ..) hk
  simp only[runGo,ih]
  by_cases hk:i.kind=1
  ·
   rw[hs hk]
  ·
   simp only[if_neg hk]
theorem keysGo_key {l:List Str}:∀ {r:List Str}{i:Nat},keysGo l i r=0→∀ k∈r,key k=true
 | [],_,_,k,hk=>by cases hk
 |x::r,i,h,k,hk=>by
  simp only[keysGo]at h
  split at h
  ·
   cases h
  ·
   next hx =>
   split at h
   ·
    cases h
   ·
    rcases List.mem_cons.1 hk with rfl|hk
    ·
     simpa using hx
    ·
     exact keysGo_key h k hk
theorem wrong_key {d:Deed}(h:wrongDeed d=0):(∀ k∈d.reads,key k=true)∧∀ k∈d.writes,key k=true:=by
 unfold wrongDeed at h
 split at h
 ·
  next h0 =>
  simp only[lsGo]at h0
  split at h0
  ·
   next h1 =>
   split at h0
   ·
    next h2 =>
    unfold keysWrong at h1 h2
    split at h1
    ·
     cases h1
    split at h2
    ·
     cases h2
    exact⟨keysGo_key h1,keysGo_key h2⟩
   ·
    next h2=>exact absurd h0 h2
  ·
   next h1=>exact absurd h0 h1
 ·
  next h0=>exact absurd h h0
theorem nDigits_le:∀ (k u:Nat),u < 10 ^ (k+1)→Lib.nDigits u≤k+1
 |0,u,h=>by unfold Lib.nDigits;rw[dif_pos (by simpa using h)];exact Nat.le_refl _
 |k+1,u,h=>by
  unfold Lib.nDigits
  split
  ·
   omega
  ·
   have:=nDigits_le k (u / 10) (by rw[Nat.pow_succ]at h;omega)
   omega
theorem itoa_small {n:Int}(h0:0≤n) (h1:n≤3):(Lib.itoa n).length≤1:=by
 unfold Lib.itoa
 rw[if_neg (by omega),Lib.decDigits_length]
 exact nDigits_le 0 _ (by omega)
theorem itoa_mid {n:Int}(h0 : -1073741824≤n) (h1:n≤1073741824):(Lib.itoa n).length≤11:=by
 unfold Lib.itoa
 split
 ·
  rw[List.length_cons,Lib.decDigits_length]
  have:=nDigits_le 9 n.natAbs (by omega)
  omega
 ·
  rw[Lib.decDigits_length]
  have:=nDigits_le 9 n.toNat (by omega)
  omega
theorem tailS_le {sep:Str}{m:Nat}:∀ {l:List Str},(∀ w∈l,w.length≤m)→(tailS sep l).length≤l.length*(sep.length+m)
 | [],_=>by simp[tailS]
 |w::l,h=>by
  have h1:=h w (List.mem_cons_self ..)
  have h2:=tailS_le (sep:=sep) (l:=l) fun x hx=>h x (List.mem_cons_of_mem _ hx)
  simp only[tailS,List.length_append,List.length_cons]
  rw[Nat.add_mul,Nat.one_mul]
  omega
theorem wrongIns_key {d:Deed}{m:Int}{i:Ins}(h:wrongIns d m i=0):i.key=[]∨i.key∈d.reads∨i.key∈d.writes:=by
 unfold wrongIns at h
 split at h
 ·
  cases h
 split at h
 ·
  cases h
 split at h
 ·
  split at h
  ·
   next h1=>exact .inl h1
  ·
   cases h
 ·
  by_cases hx:isIn (if i.kind=1 then d.reads else d.writes) i.key=true
  ·
   have:=isIn_true hx
   split at this
   ·
    exact .inr (.inl this)
   ·
    exact .inr (.inr this)
  ·
   rw[if_neg hx]at h;cases h
theorem insW_len {d:Deed}(h:wrongDeed d=0) {i:Ins}(hi:i∈d.code):(joinS [32] (insW i)).length≤20:=by
 have hok:=(wrongDeed_ok h).i i hi
 have hn:=wrong_n h i hi
 have hkey:i.key.length≤6:=by
  have hw:∃ m,wrongIns d m i=0:=by
   unfold wrongDeed at h
   split at h
   ·
    split at h
    ·
     cases h
    ·
     obtain⟨j,hj⟩:=List.getElem?_of_mem hi
     exact⟨_,codeGo_mem h j i hj⟩
   ·
    next h1=>exact absurd h h1
  obtain⟨m,hm⟩:=hw
  obtain⟨h1,h2⟩:=wrong_key h
  rcases wrongIns_key hm with h3|h3|h3
  ·
   rw[h3];simp
  ·
   exact key_len (h1 _ h3)
  ·
   exact key_len (h2 _ h3)
 have ha:=itoa_small hok.a.1 hok.a.2
 have hb:=itoa_small hok.b.1 hok.b.2
 have hnn:=itoa_mid hn.1 hn.2
 have hk:=hok.k
 rw[insW_eq]
 obtain⟨k,a,b,n,key⟩:=i
 dsimp only at hk hkey ha hb hnn
 obtain⟨K,rfl⟩:=Int.eq_ofNat_of_zero_le (show 0≤k by omega)
 rw[Int.toNat_natCast]
 match K,hk with
 |0,hk=>omega
 |1,_=>simp[words,form,forms,tailS,fieldW];omega
 |2,_=>simp[words,form,forms,tailS,fieldW];omega
 |3,_=>simp[words,form,forms,tailS,fieldW];omega
 |4,_=>simp[words,form,forms,tailS,fieldW];omega
 |5,_=>simp[words,form,forms,tailS,fieldW];omega
 |6,_=>simp[words,form,forms,tailS,fieldW];omega
 |7,_=>simp[words,form,forms,tailS,fieldW];omega
 |8,_=>simp[words,form,forms,tailS,fieldW];omega
 |9,_=>simp[words,form,forms,tailS,fieldW];omega
 |K+10,hk=>omega
theorem printD_len {d:Deed}(h:wrongDeed d=0):(printD d).length≤400:=by
 have hok:=wrongDeed_ok h
 obtain⟨h1,h2⟩:=wrong_key h
 have hr:=tailS_le (sep:=[32]) (m:=6) fun w hw=>key_len (h1 w hw)
 have hw:=tailS_le (sep:=[32]) (m:=6) fun w hw=>key_len (h2 w hw)
 have hc:=tailS_le (sep:=[59,32]) (m:=20) (l:=d.code.map fun i=>joinS [32] (insW i)) fun w hw=>by
  obtain⟨i,hi,rfl⟩:=List.mem_map.1 hw
  exact insW_len h hi
 have l1:=hok.r
 have l2:=hok.w
 have l3:=hok.c
 rw[printD_eq]
 simp only[List.length_append,List.length_map,List.length_cons,List.length_nil]at *
 have e1:wReads.length=5:=rfl
 have e2:wWrites.length=6:=rfl
 omega
theorem splitF_scan {c:UInt8}{st:Str}:∀ (w:Str) (n:Nat) (cur rest:Str),c∉w→splitF (c::st) (n+w.length) cur (w++rest)=splitF (c::st) n (cur++w) rest
 | [],n,cur,rest,_=>by simp
 |x::w,n,cur,rest,h=>by
  have hx:x≠c:=fun e=>h (by rw[e];exact List.mem_cons_self ..)
  have hw:c∉w:=fun e=>h (List.mem_cons_of_mem _ e)
  rw[List.length_cons,show n+(w.length+1)=(n+w.length)+1 by omega,List.cons_append]
  simp only[splitF]
  by_cases hl:(x::(w++rest)).length < (c::st).length
  ·
   rw[if_pos hl]
   have hl2:rest.length < (c::st).length:=by simp at hl ⊢;omega
   cases n with
   |zero=>simp[splitF]
   |succ n=>simp only[splitF];rw[if_pos hl2];simp
  ·
   rw[if_neg hl,if_neg (by simp[hx])]
   rw[splitF_scan w n (cur++[x]) rest hw]
   simp
theorem libS_word {c:UInt8}{st w rest:Str}(h:c∉w):libS (c::st) (w++rest)=hdS w (libS (c::st) rest):=by
 have h1:=splitF_lib (sep:=c::st) (by simp) (rest.length+w.length) [] (w++rest) (by simp;omega)
 have h2:=splitF_lib (sep:=c::st) (by simp) rest.length ([]++w) rest (Nat.le_refl _)
 rw[splitF_scan w rest.length [] rest h,h2]at h1
 have h3:∀ l:List Str,hdS [] l=l:=fun l=>by cases l <;> rfl
 rw[h3]at h1
 exact h1.symm
theorem libS_sep {c:UInt8}{st rest:Str}:libS (c::st) ((c::st)++rest)=[]::libS (c::st) rest:=by
 have hi:Lib.index ((c::st)++rest) (c::st)=((0:Nat):Int):=by
  rw[List.cons_append,index_cons,if_pos (by rw[List.isPrefixOf_iff_prefix];exact⟨rest,by simp⟩)];rfl
 rw[libS_hit (by simp) hi]
 simp
theorem libS_nil {c:UInt8}{st:Str}:libS (c::st) []=[[]]:=libS_miss rfl
theorem join_split_id {c:UInt8}{st:Str}:∀ {ws:List Str},ws≠[]→(∀ w∈ws,c∉w)→split (joinS (c::st) ws) (c::st)=ws:=by
 have key:∀ (ws:List Str) (w:Str),(∀ x∈w::ws,c∉x)→libS (c::st) (w++tailS (c::st) ws)=w::ws:=by
  intro ws
  induction ws with
  |nil =>
   intro w h
   rw[libS_word (h w (List.mem_cons_self ..))]
   show hdS w (libS (c::st) [])=_
   rw[libS_nil];simp[hdS]
  |cons x r ih =>
   intro w h
   rw[libS_word (h w (List.mem_cons_self ..))]
   simp only[tailS]
   rw[libS_sep,ih x fun y hy=>h y (List.mem_cons_of_mem _ hy)]
   simp[hdS]
 intro ws h0 h
 match ws,h0 with
 |w::r,_ =>
  rw[joinS_cons,split_lib (by simp)]
  exact key r w h
theorem parseU_append:∀ (l r:Str) (acc:Nat),Lib.parseUint10 acc (l++r)=match Lib.parseUint10 acc l with
  |.ok v=>Lib.parseUint10 v r
  |x=>x
 | [],r,acc=>rfl
 |c::l,r,acc=>by
  simp only[List.cons_append,Lib.parseUint10]
  split
  ·
   split
   ·
    rfl
   ·
    split
    ·
     rfl
    ·
     exact parseU_append l r _
  ·
   rfl
theorem digit_byte {k:Nat}(h:k < 10):(UInt8.ofNat (48+k)).toNat=48+k:=by
 simp[UInt8.toNat_ofNat];omega
theorem parseU_dec:∀ (u:Nat),u < 18446744073709551616→Lib.parseUint10 0 (Lib.decDigits u) = .ok u:=by
 intro u
 induction u using Nat.strongRecOn with
 |ind u ih =>
  intro h
  unfold Lib.decDigits
  by_cases h1:u < 10
  ·
   rw[dif_pos h1]
   simp only[Lib.parseUint10]
   rw[digit_byte h1,if_pos (by omega),if_neg (by omega),if_neg (by omega)]
   congr 1;omega
  ·
   rw[dif_neg h1,parseU_append,ih (u / 10) (by omega) (by omega)]
   simp only[Lib.parseUint10]
   rw[digit_byte (show u%10 < 10 by omega),if_pos (by omega),if_neg (by omega),if_neg (by omega)]
   congr 1;omega
theorem dec_ne (u:Nat):Lib.decDigits u≠[]:=by
 unfold Lib.decDigits
 split <;> simp
theorem dec_clean:∀ (u:Nat),∀ c∈Lib.decDigits u,48≤c.toNat∧c.toNat≤57:=by
 intro u
 induction u using Nat.strongRecOn with
 |ind u ih =>
  intro c hc
  unfold Lib.decDigits at hc
  by_cases h1:u < 10
  ·
   rw[dif_pos h1]at hc
   rw[List.mem_singleton.1 hc,digit_byte h1];omega
  ·
   rw[dif_neg h1]at hc
   rcases List.mem_append.1 hc with hc|hc
   ·
    exact ih (u / 10) (by omega) c hc
   ·
    rw[List.mem_singleton.1 hc,digit_byte (show u%10 < 10 by omega)];omega
theorem atoi_itoa {n:Int}(h0 : -1073741824≤n) (h1:n≤1073741824):Lib.atoiAll (Lib.itoa n) = .ok n:=by
 unfold Lib.itoa
 by_cases hn:n < 0
 ·
  rw[if_pos hn]
  have hp:=parseU_dec n.natAbs (by omega)
  unfold Lib.atoiAll Lib.parseMag
  simp only
  rw[if_pos (Or.inr (by decide)),if_neg (dec_ne _),hp]
  have h45:(45:UInt8).toNat=45:=rfl
  simp only[h45]
  rw[if_neg (by simp),if_neg (by omega),if_pos trivial]
  congr 1;omega
 ·
  rw[if_neg hn]
  have hp:=parseU_dec n.toNat (by omega)
  have hne:=dec_ne n.toNat
  have hcl:=dec_clean n.toNat
  cases hd:Lib.decDigits n.toNat with
  |nil=>exact absurd hd hne
  |cons c r =>
   have hc:=hcl c (by rw[hd];exact List.mem_cons_self ..)
   rw[hd]at hp
   unfold Lib.atoiAll Lib.parseMag
   simp only
   rw[if_neg (show ¬ (c.toNat=43∨c.toNat=45) by omega),if_neg (by simp),hp]
   have h45:¬ c.toNat=45:=by omega
   simp only
   rw[if_neg (by omega),if_neg (by omega),if_neg h45]
   congr 1;omega
theorem numV_itoa {n:Int}(h0 : -1073741824≤n) (h1:n≤1073741824):numV (Lib.itoa n)=some n:=by
 unfold numV
 rw[atoi_itoa h0 h1]
 simp
theorem itoa_clean {n:Int}:∀ c∈Lib.itoa n,c≠32∧c≠59:=by
 intro c hc
 have key:∀ u:Nat,c∈Lib.decDigits u→c≠32∧c≠59:=fun u h=>by
  have:=dec_clean u c h
  exact⟨fun e=>by subst e;revert this;decide,fun e=>by subst e;revert this;decide⟩
 unfold Lib.itoa at hc
 split at hc
 ·
  rcases List.mem_cons.1 hc with rfl|hc
  ·
   decide
  ·
   exact key _ hc
 ·
  exact key _ hc
def clean (w:Str):Prop:=∀ c∈w,c≠32∧c≠59
theorem key_clean {k:Str}(h:key k=true):clean k:=by
 have:∀ r:Str,keyGo k r=true→clean r:=by
  intro r
  induction r with
  |nil=>intro _ c hc;cases hc
  |cons x r ih =>
   intro h
   simp only[keyGo]at h
   split at h
   ·
    cases h
   ·
    next hx =>
    intro c hc
    rcases List.mem_cons.1 hc with rfl|hc
    ·
     simp only[bad,Bool.or_eq_true,decide_eq_true_eq,not_or]at hx
     refine⟨fun e=>?_,fun e=>?_⟩ <;> subst e <;> revert hx <;> decide
    ·
     exact ih h c hc
 exact this k h
theorem words_clean:∀ k:Nat,clean (words.getD k []):=by
 intro k
 rcases Nat.lt_or_ge k 10 with h|h
 ·
  have:∀ k:Fin 10,∀ c∈words.getD k.val [],c≠32∧c≠59:=by decide
  exact this ⟨k,h⟩
 ·
  rw[List.getD_eq_getElem?_getD,List.getElem?_eq_none (show words.length≤k from h)]
  intro c hc;cases hc
theorem reg_clean (n:Int):clean (114::Lib.itoa n):=by
 intro c hc
 rcases List.mem_cons.1 hc with rfl|hc
 ·
  decide
 ·
  exact itoa_clean c hc
theorem regV_itoa {n:Int}(h0 : -1073741824≤n) (h1:n≤1073741824):regV (114::Lib.itoa n)=some n:=numV_itoa h0 h1
theorem insE_insW {d:Deed}{m:Int}{i:Ins}(h:wrongIns d m i=0) (hm:m≤1073741824):insE (insW i) = .ok i:=by
 have hn:=wrongIns_n h hm
 obtain⟨k,a,b,n,key⟩:=i
 unfold wrongIns at h
 dsimp only at h hn
 by_cases hk:k < 1∨9 < k
 ·
  rw[if_pos hk]at h;cases h
 rw[if_neg hk]at h
 by_cases ho:insOut k.toNat a b n m=true
 ·
  rw[if_pos ho]at h;cases h
 rw[if_neg ho]at h
 obtain⟨K,rfl⟩:=Int.eq_ofNat_of_zero_le (show 0≤k by omega)
 simp only[Int.toNat_natCast]at h ho
 simp only[insOut,Bool.or_eq_true,decide_eq_true_eq,not_or]at ho
 obtain⟨o1,o2,o3,o4,o5,o6⟩:=ho
 have hb2:b≤1073741824:=by unfold insB at o4;split at o4 <;> omega
 have ha2:a≤1073741824:=by unfold insA at o2;split at o2 <;> omega
 have ra:=regV_itoa (n:=a) (by omega) ha2
 have rb:=regV_itoa (n:=b) (by omega) hb2
 have rn:=numV_itoa hn.1 hn.2
 match K,hk with
 |0,hk=>omega
 |1,_ =>
  simp only[show has 1 114=true from rfl,show has 1 115=false from rfl,insA,insB,insLow,insHigh]at o2 o4 o5 o6
  obtain⟨rfl,rfl⟩:b=0∧n=0:=by constructor <;> simp at o2 o4 o5 o6 <;> omega
  simp[insE,insW,words,form,forms,kindOf,kindGo,fieldW,fillI,ra]
 |2,_ =>
  simp only[show has 2 114=true from rfl,show has 2 115=false from rfl,show has 2 107=false from rfl,insA,insB]at o2 o4 h
  have hkey:key=[]:=Classical.byContradiction fun e=>by simp[e]at h
  obtain rfl:b=0:=by simp at o4;omega
  subst hkey
  simp[insE,insW,words,form,forms,kindOf,kindGo,fieldW,fillI,ra,rn]
 |3,_ =>
  simp only[show has 3 107=false from rfl,insLow,insHigh]at o5 o6 h
  have hkey:key=[]:=Classical.byContradiction fun e=>by simp[e]at h
  obtain rfl:n=0:=by simp at o5 o6;omega
  subst hkey
  simp[insE,insW,words,form,forms,kindOf,kindGo,fieldW,fillI,ra,rb]
 |4,_ =>
  simp only[show has 4 107=false from rfl,insLow,insHigh]at o5 o6 h
  have hkey:key=[]:=Classical.byContradiction fun e=>by simp[e]at h
  obtain rfl:n=0:=by simp at o5 o6;omega
  subst hkey
  simp[insE,insW,words,form,forms,kindOf,kindGo,fieldW,fillI,ra,rb]
 |5,_ =>
  simp only[show has 5 107=false from rfl,insLow,insHigh]at o5 o6 h
  have hkey:key=[]:=Classical.byContradiction fun e=>by simp[e]at h
  obtain rfl:n=0:=by simp at o5 o6;omega
  subst hkey
  simp[insE,insW,words,form,forms,kindOf,kindGo,fieldW,fillI,ra,rb]
 |6,_ =>
  simp only[show has 6 114=true from rfl,show has 6 115=false from rfl,insA,insB,insLow,insHigh]at o2 o4 o5 o6
  obtain⟨rfl,rfl⟩:b=0∧n=0:=by constructor <;> simp at o2 o4 o5 o6 <;> omega
  simp[insE,insW,words,form,forms,kindOf,kindGo,fieldW,fillI,ra]
 |7,_ =>
  simp only[show has 7 114=false from rfl,show has 7 115=false from rfl,insA,insB,insLow,insHigh]at o2 o4 o5 o6
  obtain⟨rfl,rfl,rfl⟩:a=0∧b=0∧n=0:=by refine⟨?_,?_,?_⟩ <;> simp at o2 o4 o5 o6 <;> omega
  simp[insE,insW,words,form,forms,kindOf,kindGo,fieldW,fillI]
 |8,_ =>
  simp only[show has 8 114=true from rfl,show has 8 115=false from rfl,show has 8 107=false from rfl,insA,insB]at o2 o4 h
  have hkey:key=[]:=Classical.byContradiction fun e=>by simp[e]at h
  obtain rfl:b=0:=by simp at o4;omega
  subst hkey
  simp[insE,insW,words,form,forms,kindOf,kindGo,fieldW,fillI,ra,rn]
 |9,_ =>
  simp only[show has 9 114=true from rfl,show has 9 115=false from rfl,show has 9 107=false from rfl,insA,insB,insLow,insHigh]at o2 o4 o5 o6 h
  have hkey:key=[]:=Classical.byContradiction fun e=>by simp[e]at h
  obtain⟨rfl,rfl⟩:b=0∧n=0:=by constructor <;> simp at o2 o4 o5 o6 <;> omega
  subst hkey
  simp[insE,insW,words,form,forms,kindOf,kindGo,fieldW,fillI,ra]
 |K+10,hk=>omega
theorem field_clean {i:Ins}{c:UInt8}(hk:clean i.key):clean (fieldW i c):=by
 unfold fieldW
 split
 ·
  exact reg_clean _
 split
 ·
  exact reg_clean _
 split
 ·
  exact fun c hc=>itoa_clean c hc
 ·
  exact hk
theorem join_no59 {ws:List Str}(h:∀ w∈ws,clean w):(59:UInt8)∉joinS [32] ws:=by
 cases ws with
 |nil=>simp[joinS]
 |cons w r =>
  rw[joinS_cons]
  have ht:∀ r:List Str,(∀ w∈r,clean w)→(59:UInt8)∉tailS [32] r:=by
   intro r
   induction r with
   |nil=>intro _;simp[tailS]
   |cons x r ih =>
    intro h hm
    simp only[tailS,List.mem_append]at hm
    rcases hm with hm|hm|hm
    ·
     simp at hm
    ·
     exact(h x (List.mem_cons_self ..) _ hm).2 rfl
    ·
     exact ih (fun y hy=>h y (List.mem_cons_of_mem _ hy)) hm
  intro hm
  rcases List.mem_append.1 hm with hm|hm
  ·
   exact(h w (List.mem_cons_self ..) _ hm).2 rfl
  ·
   exact ht r (fun y hy=>h y (List.mem_cons_of_mem _ hy)) hm
theorem split_words {ws:List Str}(h0:ws≠[]) (h:∀ w∈ws,clean w):split (joinS [32] ws) [32]=ws :=
 join_split_id h0 fun w hw hm=>(h w hw _ hm).1 rfl
theorem ins_wrong {d:Deed}(h:wrongDeed d=0) {i:Ins}(hi:i∈d.code):∃ m,m≤1073741824∧wrongIns d m i=0:=by
 have hok:=(wrongDeed_ok h).c
 unfold wrongDeed at h
 split at h
 ·
  split at h
  ·
   cases h
  ·
   obtain⟨j,hj⟩:=List.getElem?_of_mem hi
   exact⟨_,by omega,codeGo_mem h j i hj⟩
 ·
  next h1=>exact absurd h h1
theorem insW_clean {d:Deed}(h:wrongDeed d=0) {i:Ins}(hi:i∈d.code):∀ w∈insW i,clean w:=by
 obtain⟨m,_,hm⟩:=ins_wrong h hi
 obtain⟨h1,h2⟩:=wrong_key h
 have hk:clean i.key:=by
  rcases wrongIns_key hm with h3|h3|h3
  ·
   rw[h3];intro c hc;cases hc
  ·
   exact key_clean (h1 _ h3)
  ·
   exact key_clean (h2 _ h3)
 intro w hw
 unfold insW at hw
 rcases List.mem_cons.1 hw with rfl|hw
 ·
  exact words_clean _
 ·
  obtain⟨c,_,rfl⟩:=List.mem_map.1 hw
  exact field_clean hk
theorem codeE_of {l:List Ins}(h:∀ i∈l,insE (insW i) = .ok i∧∀ w∈insW i,clean w):codeE (l.map fun i=>joinS [32] (insW i)) = .ok l:=by
 induction l with
 |nil=>rfl
 |cons i l ih =>
  obtain⟨h1,h2⟩:=h i (List.mem_cons_self ..)
  simp only[List.map_cons,codeE]
  rw[split_words (by simp[insW]) h2,h1,ih fun x hx=>h x (List.mem_cons_of_mem _ hx)]
theorem parse_print {d:Deed}(h:wrongDeed d=0):parseE (printD d) = .ok d:=by
 obtain⟨h1,h2⟩:=wrong_key h
 have hl:=printD_len h
 have c0:clean wReads:=by intro c hc;revert c;decide
 have c1:clean wWrites:=by intro c hc;revert c;decide
 have hr:∀ w∈wReads::d.reads,clean w:=fun w hw=>by
  rcases List.mem_cons.1 hw with rfl|hw
  ·
   exact c0
  ·
   exact key_clean (h1 w hw)
 have hw:∀ w∈wWrites::d.writes,clean w:=fun w hw=>by
  rcases List.mem_cons.1 hw with rfl|hw
  ·
   exact c1
  ·
   exact key_clean (h2 w hw)
 have hs:split (printD d) [59,32]=partsD d:=join_split_id (by simp[partsD]) fun w hm=>by
  unfold partsD at hm
  rcases List.mem_cons.1 hm with rfl|hm
  ·
   exact join_no59 hr
  rcases List.mem_cons.1 hm with rfl|hm
  ·
   exact join_no59 hw
  obtain⟨i,hi,rfl⟩:=List.mem_map.1 hm
  exact join_no59 (insW_clean h hi)
 have hf:=parseE_fin (s:=printD d) hl hs (split_words (by simp) hr) (split_words (by simp) hw)
 rw[hf,if_pos rfl,if_pos rfl]
 unfold finE
 rw[codeE_of fun i hi=>⟨by obtain⟨m,h3,h4⟩:=ins_wrong h hi;exact insE_insW h4 h3,insW_clean h hi⟩]
 simp only[List.nil_append]
 rw[if_pos h]
theorem wrong_sm {d:Deed}(h:wrongDeed d=0):d.Sm:=by
 have hok:=wrongDeed_ok h
 obtain⟨h1,h2⟩:=wrong_key h
 have:=hok.r;have:=hok.w;have:=hok.c
 exact⟨by omega,by omega,by omega,fun s hs=>by have:=key_len (h1 s hs);omega,fun s hs=>by have:=key_len (h2 s hs);omega⟩
theorem insE_err {l:List Str}{e:Int}(h:insE l = .error e):e≠0:=by
 unfold insE at h
 split at h
 ·
  cases h;decide
 ·
  split at h
  ·
   cases h;decide
  ·
   split at h
   ·
    split at h
    ·
     cases h
    ·
     cases h;decide
   ·
    cases h;decide
theorem codeE_err:∀ {l:List Str}{e:Int},codeE l = .error e→e≠0
 | [],e,h=>by cases h
 |p::r,e,h=>by
  simp only[codeE]at h
  split at h
  ·
   next e' he=>cases h;exact insE_err he
  ·
   split at h
   ·
    next e' he=>cases h;exact codeE_err he
   ·
    cases h
theorem parseE_err {s:Str}{e:Int}(h:parseE s = .error e):e≠0:=by
 unfold parseE at h
 split at h
 ·
  cases h;decide
 split at h
 ·
  split at h
  ·
   split at h
   ·
    split at h
    ·
     next e' he=>cases h;exact codeE_err he
    ·
     split at h
     ·
      cases h
     ·
      next h1=>cases h;exact h1
   ·
    cases h;decide
  ·
   cases h;decide
 ·
  cases h;decide
theorem parseE_right {s:Str}{d:Deed}(h:parseE s = .ok d):wrongDeed d=0:=by
 unfold parseE at h
 split at h
 ·
  cases h
 split at h
 ·
  split at h
  ·
   split at h
   ·
    split at h
    ·
     cases h
    ·
     split at h
     ·
      next h1=>cases h;exact h1
     ·
      cases h
   ·
    cases h
  ·
   cases h
 ·
  cases h
theorem parseR_ok {s:Str}{d:Deed}(h:parseE s = .ok d):parseR s=(d,0):=by unfold parseR;rw[h];rfl
theorem parseR_err {s:Str}{e:Int}(h:parseE s = .error e):parseR s=(noDeed,e):=by unfold parseR;rw[h];rfl
theorem before_addS {k k':Str}{b b':Int}(h:k=k'→b≤b'):∀ {l:List Chain}{out:Version},beforeGo k b out (addS k' b' l)=beforeGo k b out l
 | [],out=>by
  simp only[addS,beforeGo,bvs,newV]
  by_cases hk:k'=k
  ·
   have:=h hk.symm
   simp;omega
  ·
   simp[hk]
 |c::l,out=>by
  simp only[addS]
  by_cases hk:c.key=k'
  ·
   rw[if_pos hk]
   simp only[beforeGo,bvs_append,bvs,newV]
   by_cases hc:c.key=k
   ·
    have:=h (by rw[← hc,hk])
    rw[if_neg (by simp;omega)]
   ·
    simp[hc]
  ·
   rw[if_neg hk]
   split
   ·
    simp only[beforeGo]
    exact before_addS h
   ·
    have h1:bvs (decide (k'=k)) b out [newV b']=out:=by
     simp only[bvs]
     by_cases hc:k'=k
     ·
      have:=h hc.symm
      have h2:¬ (newV b').by_ < b:=by show ¬ b' < b;omega
      rw[decide_eq_false h2];simp
     ·
      simp[hc]
    show beforeGo k b (bvs (decide (k'=k)) b out [newV b']) (c::l)=_
    rw[h1]
theorem ne_tail {c:Chain}{l:List Chain}(hs:Srt Chain.key (c::l)) {k:Str}(h:slt k c.key=true∨c.key=k):∀ d∈l,d.key≠k:=by
 intro d hd e
 have h1:=(List.pairwise_cons.1 hs).1 d hd
 rw[e]at h1
 rcases h with h|h
 ·
  have:=slt_trans h h1;rw[slt_irrefl]at this;cases this
 ·
  rw[h,slt_irrefl]at h1;cases h1
theorem slt_flip {a b:Str}(h:¬ slt a b=true) (hn:a≠b):slt b a=true:=by
 rcases slt_tri a b with h1|h1|h1
 ·
  exact absurd h1 h
 ·
  exact absurd h1 hn
 ·
  exact h1
theorem behind_set {k:Str}{b b':Int}{v:Version}(hv:v.by_=b') (hb:b' < b):∀ {l:List Chain}{out:Version},Srt Chain.key l→beforeGo k b out (setChains (addS k b' l) k v)=v
 | [],out,_=>by
  simp[addS,setChains,setC,setV,newV,beforeGo,bvs,hv,hb]
 |c::l,out,hs=>by
  simp only[addS]
  by_cases hk:c.key=k
  ·
   rw[if_pos hk]
   have hn:=ne_tail hs (.inr hk)
   have h0:∀ o,beforeGo k b o (setChains l k v)=o:=fun o=>beforeGo_none fun d hd=>by
    obtain⟨d0,h1,rfl⟩:=List.mem_map.1 hd
    exact hn d0 h1
   show beforeGo k b (bvs (decide (c.key=k)) b out ((c.vs++[newV b']).map (setV (decide (c.key=k)) v))) (setChains l k v)=v
   rw[h0,List.map_append,bvs_append]
   simp[hk,setV,newV,bvs,hv,hb]
  ·
   rw[if_neg hk]
   split
   ·
    show beforeGo k b _ (setChains (addS k b' l) k v)=v
    exact behind_set hv hb (List.pairwise_cons.1 hs).2
   ·
    next h2 =>
    have hn:=ne_tail hs (.inl (slt_flip h2 hk))
    have h0:∀ o,beforeGo k b o (setChains (c::l) k v)=o:=fun o=>beforeGo_none fun d hd=>by
     obtain⟨d0,h1,rfl⟩:=List.mem_map.1 hd
     rcases List.mem_cons.1 h1 with rfl|h1
     ·
      exact hk
     ·
      exact hn d0 h1
    show beforeGo k b (bvs (decide (k=k)) b out ([newV b'].map (setV (decide (k=k)) v))) (setChains (c::l) k v)=v
    rw[h0]
    simp[setV,newV,bvs,hv,hb]
theorem behind_add {k:Str}{b b':Int}(hb:b' < b) {l:List Chain}{out:Version}(hs:Srt Chain.key l):beforeGo k b out (addS k b' l)=newV b':=by
 have h:=behind_set (k:=k) (v:=newV b') (b':=b') rfl hb (l:=l) (out:=out) hs
 have h1:∀ w:Version,∀ hit,w.by_=b'→setV hit (newV b') w=w∨setV hit (newV b') w=newV b':=fun w hit _=>by
  unfold setV;split
  ·
   exact .inr rfl
  ·
   exact .inl rfl
 clear h1 h
 revert out
 induction l with
 |nil=>intro out;simp[addS,beforeGo,bvs,newV,hb]
 |cons c l ih =>
  intro out
  simp only[addS]
  by_cases hk:c.key=k
  ·
   rw[if_pos hk]
   have hn:=ne_tail hs (.inr hk)
   simp only[beforeGo]
   rw[beforeGo_none hn,bvs_append]
   simp[hk,newV,bvs,hb]
  ·
   rw[if_neg hk]
   split
   ·
    simp only[beforeGo]
    exact ih (List.pairwise_cons.1 hs).2
   ·
    next h2 =>
    have hn:=ne_tail hs (.inl (slt_flip h2 hk))
    have h0:∀ o,beforeGo k b o (c::l)=o:=fun o=>beforeGo_none fun d hd=>by
     rcases List.mem_cons.1 hd with rfl|h1
     ·
      exact hk
     ·
      exact hn d h1
    show beforeGo k b (bvs (decide (k=k)) b out [newV b']) (c::l)=_
    rw[h0]
    simp[newV,bvs,hb]
theorem clrV_ge {b:Int}:∀ {l:List Version},(∀ v∈l,b≤v.by_)→clrV b l=l
 | [],_=>rfl
 |v::l,h=>by
  have:=h v (List.mem_cons_self ..)
  have h1:decide (v.by_ < b)=false:=by simp;omega
  simp only[clrV]
  rw[if_neg (by simp[old,h1]),clrV_ge fun w hw=>h w (List.mem_cons_of_mem _ hw)]
theorem seen_clr2 {b at_:Int}(hba:b≤at_):∀ {l:List Version}{out:Version},VSrt l →
  bvs true at_ out (clrV b l)=bvs true at_ out l∨((bvs true at_ out l).made=true∧(bvs true at_ out l).has=false∧bvs true at_ out (clrV b l)=out∧(bvs true at_ out l).by_ < b)
 | [],out,_ => .inl rfl
 |v::l,out,hs=>by
  obtain⟨h1,h2⟩:=VSrt.cons.1 hs
  by_cases hva:v.by_ < at_
  ·
   have hge:b≤v.by_→clrV b l=l:=fun h=>clrV_ge fun w hw=>by have:=h1 w hw;omega
   by_cases hlt:later b l=true
   ·
    cases l with
    |nil=>simp[later]at hlt
    |cons w l' =>
     have hw:w.by_ < b:=by simpa[later] using hlt
     have hvb:v.by_ < b:=by have:=h1 w (List.mem_cons_self ..);omega
     have hold:old b (w::l') v=true:=by simp[old,later,hw,hvb]
     have ih:=seen_clr2 hba (out:=out) h2
     have hsame:bvs true at_ v (w::l')=bvs true at_ out (w::l'):=by
      simp only[bvs]
      rw[if_pos (by simp;omega),if_pos (by simp;omega)]
     have h5:clrV b (v::w::l')=clrV b (w::l'):=by rw[clrV,if_pos hold]
     rw[h5]
     have h4:bvs true at_ out (v::w::l')=bvs true at_ (if (true&&decide (v.by_ < at_))=true then v else out) (w::l'):=rfl
     rw[if_pos (by simp;omega)]at h4
     rw[h4,hsame]
     exact ih
   ·
    have hl:∀ w∈l,b≤w.by_:=by
     cases l with
     |nil=>simp
     |cons w l' =>
      have hw:¬ w.by_ < b:=by simpa[later] using hlt
      intro x hx
      rcases List.mem_cons.1 hx with rfl|hx
      ·
       omega
      ·
       have:=(VSrt.cons.1 h2).1 x hx;omega
    have hl0:later b l=false:=by simpa using hlt
    have hc:=clrV_ge hl
    simp only[clrV]
    rw[hc]
    by_cases hold:old b l v=true
    ·
     rw[if_pos hold]
     have h3:v.made=true∧v.has=false∧v.by_ < b:=by
      simp[old,hl0]at hold
      exact⟨hold.2.1,hold.2.2,hold.1⟩
     have h4:bvs true at_ out (v::l)=bvs true at_ v l:=by simp only[bvs];rw[if_pos (by simp;omega)]
     rw[h4]
     cases l with
     |nil=>exact .inr ⟨h3.1,h3.2.1,rfl,h3.2.2⟩
     |cons w l' =>
      by_cases hw:w.by_ < at_
      ·
       left
       simp only[bvs]
       rw[if_pos (by simp;omega),if_pos (by simp;omega)]
      ·
       have h5:∀ x∈w::l',at_≤x.by_:=fun x hx=>by
        rcases List.mem_cons.1 hx with rfl|hx
        ·
         omega
        ·
         have:=(VSrt.cons.1 h2).1 x hx;omega
       rw[bvs_ge h5,bvs_ge h5]
       exact .inr ⟨h3.1,h3.2.1,rfl,h3.2.2⟩
    ·
     rw[if_neg hold]
     exact .inl rfl
  ·
   have h3:∀ x∈v::l,at_≤x.by_:=fun x hx=>by
    rcases List.mem_cons.1 hx with rfl|hx
    ·
     omega
    ·
     have:=h1 x hx;omega
   rw[clrV_ge fun x hx=>by have:=h3 x hx;omega]
   exact .inl rfl
theorem seen_clear2 {b at_:Int}{k:Str}(hba:b≤at_):∀ {l:List Chain}{out:Version},Srt Chain.key l→(∀ c∈l,VSrt c.vs) →
  beforeGo k at_ out (clear b l)=beforeGo k at_ out l∨((beforeGo k at_ out l).made=true∧(beforeGo k at_ out l).has=false∧beforeGo k at_ out (clear b l)=out∧(beforeGo k at_ out l).by_ < b)
 | [],out,_,_ => .inl rfl
 |c::l,out,hs,hv=>by
  have h2:=(List.pairwise_cons.1 hs).2
  by_cases hk:c.key=k
  ·
   have hn:=ne_tail hs (.inr hk)
   have n1:∀ o,beforeGo k at_ o l=o:=fun o=>beforeGo_none hn
   have n2:∀ o,beforeGo k at_ o (clear b l)=o:=fun o=>beforeGo_none fun d hd=>by
    obtain⟨d0,h0,rfl⟩:=clear_mem hd
    exact hn d0 h0
   have h3:beforeGo k at_ out (c::l)=bvs true at_ out c.vs:=by
    simp only[beforeGo];rw[n1];simp[hk]
   have h4:beforeGo k at_ out (clear b (c::l))=bvs true at_ out (clrV b c.vs):=by
    simp only[clear]
    split
    ·
     next h=>rw[n2,h];rfl
    ·
     simp only[beforeGo];rw[n2];simp[hk]
   rw[h3,h4]
   exact seen_clr2 hba (hv c (List.mem_cons_self ..))
  ·
   have h3:beforeGo k at_ out (c::l)=beforeGo k at_ out l:=by
    simp only[beforeGo];simp[hk,bvs_false]
   have h4:beforeGo k at_ out (clear b (c::l))=beforeGo k at_ out (clear b l):=by
    simp only[clear]
    split
    ·
     rfl
    ·
     simp only[beforeGo];simp[hk,bvs_false]
   rw[h3,h4]
   exact seen_clear2 hba h2 fun d hd=>hv d (List.mem_cons_of_mem _ hd)
end Go.Proofs.YtccblhpfjlgmbabGreatDoor
namespace Go.Proofs.YtccblhpfjlgmbabGreatDoor
open Go.AX Go.RF Go.RowKit
set_option maxRecDepth 100000
set_option maxHeartbeats 8000000
theorem chTy:∃ ti,tget tbl 196=some ti∧ti.zero=[.bool false,.int .i64 0]:=⟨_,rfl,rfl⟩
theorem mty {n:Nat}{w0:World}{own0:Nat→Prop}{ti:TI}(h:tget tbl 196=some ti) (hz:ti.zero=[.bool false,.int .i64 0]):MapTy ⟨Tryz.prog,tbl,tbl_ok,mixed_ok,n,w0,own0,0,[]⟩ 194 196 (chA (false,0)):=by
 have:=MapTy.st (cx:=⟨Tryz.prog,tbl,tbl_ok,mixed_ok,n,w0,own0,0,[]⟩) (t:=194) ⟨9,Tryz.underlying194,Tryz.underlying9⟩ h (by rw[hz];decide)
 rw[hz]at this
 exact this
theorem flat0:flat (chA (false,0)):=by
 intro c hc
 simp[chV]at hc
 rcases hc with rfl|rfl <;> rfl
theorem ok_see (vf:FuncId) (caps:List D) (zs:List Arg) (view:Str→Int×Bool) (hcap:Caps caps zs) (m:Mk) (k:Str) (hv:FnOk Tryz.prog vf ([.d (dstr k)]++zs) (.tup [dint (view k).1,dbool (view k).2])) :
  FnOk Tryz.prog 121 [.d (dstr k),.pd [mapD (encM m)],.pd [fnD vf caps]] (.one (dint (seeM view m k))):=by
 refine fnOk_of tbl_ok mixed_ok Tryz.func121 rfl (by kernel_rfl) rfl rfl fun w0 own0=>?_
 obtain⟨ti,h1,h2⟩:=chTy
 have hm:=mty (n:=Tryz.f121.ntmps) (w0:=w0) (own0:=own0) h1 h2
 have hg:=mget_enc m k
 unfold seeM
 cases hk:mG m k with
 |some c =>
  rw[hk]at hg
  have hl:mlook (chA (false,0)) (encM m) k=chA c:=by simp[mlook,hg]
  have ha:=fun {d:Nat} {ty:TypeId} {pos:String} {af:Array Edge} {gd:Option (Nat×Bool)} {σ:St} {x y:Operand} (hx) (hy) (hd)=>a_mlookd (σ:=σ) (d:=d) (ty:=ty) (pos:=pos) (af:=af) (gd:=gd) (x:=x) (y:=y) hm flat0 (encM_one m) (k:=k) hx hy hd
  rw[hl,hg]at ha
  repeat(first|refine wa ?_|((with_reducible apply s5);(first|((with_reducible apply ha);(iterate 3 exact rfl))|exact by_oa|exact by_ca);exact by_g)|refine wb ?_)
  exact .one (.tmp rfl (.one (.d (.refl _))))
 |none =>
  rw[hk]at hg
  have hl:mlook (chA (false,0)) (encM m) k=chA (false,0):=by simp[mlook,hg]
  have ha:=fun {d:Nat} {ty:TypeId} {pos:String} {af:Array Edge} {gd:Option (Nat×Bool)} {σ:St} {x y:Operand} (hx) (hy) (hd)=>a_mlookd (σ:=σ) (d:=d) (ty:=ty) (pos:=pos) (af:=af) (gd:=gd) (x:=x) (y:=y) hm flat0 (encM_one m) (k:=k) hx hy hd
  rw[hl,hg]at ha
  repeat(first|refine wa ?_|((with_reducible apply s5);(first|((with_reducible apply ha);(iterate 3 exact rfl))|(focus (with_reducible apply(a_callfn (ys:=[.d (dstr k)])));exact hv;exact hcap;exact rfl;exact rfl;apply SubsE.cons;exact rfl;exact .d (.refl _);exact trivial;exact SubsE.nil)|exact by_oa|exact by_ca);exact by_g)|refine wb ?_)
  exact .one (.tmp rfl (.one (.d (.refl _))))
theorem ok_run (vf:FuncId) (caps:List D) (zs:List Arg) (view:Str→Int×Bool) (d:Deed) (hcap:Caps caps zs) (hv:∀ k∈d.reads,FnOk Tryz.prog vf ([.d (dstr k)]++zs) (.tup [dint (view k).1,dbool (view k).2]))
  (hvn:∀ k∈d.reads,nOk (view k).1) (hc:d.code.length≤134217728) (hw:d.writes.length≤134217728) (hi:∀ i∈d.code,i.Ok) (hk:∀ i∈d.code,i.kind=1→i.key∈d.reads) :
  FnOk Tryz.prog 93 [.d (.agg d.enc),.d (fnD vf caps)] (.tup (runRes view d)):=by
 refine fnOk_of tbl_ok mixed_ok Tryz.func93 rfl (by kernel_rfl) rfl rfl fun w0 own0=>?_
 obtain⟨ti,hti,htz⟩:=chTy
 have hmt:=mty (n:=Tryz.f93.ntmps) (w0:=w0) (own0:=own0) hti htz
 have hst0:StopA 2:=⟨rfl⟩
 try refine wkS ?_
 clear hst0
 refine Stop.go (CW.seq (CW.regionS ?_))
 refine SW.fam rfl (fam_mkmap rfl rfl) fun x0=>?_
 refine SW.fact (p:=∃ b,x0 = .map (some b)) (map_known (id:=4) (M:=[]) rfl) ?_
 rintro ⟨b0,rfl⟩
 refine SW.rw ?_
 have hst0:StopR 3:=⟨rfl⟩
 try refine wkS ?_
 clear hst0
 refine Stop.go (CW.stut (stut_freezebox (i:=8) (id:=5) (ds:=[.v (.map (some b0))]) rfl) ⟨rfl,rfl,trivial⟩ ?_)
 refine CW.stut (stut_freezebox (i:=3) (id:=1) (ds:=[fnD vf caps]) rfl) ⟨rfl,rfl,trivial⟩ ?_
 have hst0:StopR 4:=⟨rfl⟩
 repeat(first|refine waS ?_|((with_reducible apply s5);(first|((with_reducible apply(a_mkfn (ds:=[refD [.v (.map (some b0))],refD [fnD vf caps]])));exact rfl;apply SubsE.cons;exact rfl;exact .d (.refl _);exact trivial;apply SubsE.cons;exact rfl;exact .d (.refl _);exact trivial;exact SubsE.nil)|exact by_oa|exact by_ca);exact by_g)|refine wb ?_)
 clear hst0
 refine Stop.go (CW.stut (stut_refpd (i:=8)) ⟨rfl,trivial⟩ ?_)
 try refine wk ?_
 refine CW.loopT (fun t:Nat×Mk×Done=>[sp 2 0,ob 0 d.enc,sp 4 2,ob 2 done0.enc,sd 5 (.v nilS),sd 6 (.v nilS),sp 7 3,ob 3 t.2.2.enc,(.s 8,.av (.pd [.v (.map (some b0))])),sd 9 (fnD 121 [refD [.v (.map (some b0))],refD [fnD vf caps]]),(.s 10,.av (.ptr 3 1)),(.o 4,.ob (.mp (encM t.2.1) (.map (some b0)))),sd 11 (dint t.1),nxt 6])
  (fun t=>mOk t.2.1∧t.2.2.Ok∧t.2.2.failed=false∧runGo view 0 t.2.1 t.2.2 (d.code.drop t.1)=runM view d)
  (fun t=>d.code.length - t.1) (0,[],done0) ⟨mOk_nil,⟨by simp[nOk,done0],by simp[nOk,done0],by simp[nOk,done0],by simp[nOk,done0]⟩,rfl,rfl⟩ ?_ ?_
 ·
  exact by_less
 ·
  rintro ⟨x,m,e⟩ ⟨hm,he,hf,hI⟩
  dsimp only at hm he hf hI ⊢
  by_cases hx:x < d.code.length
  ·
   obtain⟨i,h1,h2⟩:∃ i,d.code.drop x=i::d.code.drop (x+1)∧d.code[x]? = some i:=⟨d.code[x],List.drop_eq_getElem_cons hx,List.getElem?_eq_getElem hx⟩
   rw[h1]at hI
   simp only[runGo]at hI
   rw[if_neg (show ¬ (0:Int) < 0 by decide)]at hI
   have hio:=hi i (List.mem_of_getElem? h2)
   obtain⟨kd,ia,ib,n,key⟩:=i
   obtain⟨A,rfl⟩:=Int.eq_ofNat_of_zero_le hio.a.1
   obtain⟨B,rfl⟩:=Int.eq_ofNat_of_zero_le hio.b.1
   have hA:A < 4:=by have:=hio.a.2;dsimp only at this;omega
   have hB:B < 4:=by have:=hio.b.2;dsimp only at this;omega
   have hga:=rget_ok he A
   have hgb:=rget_ok he B
   have hst:=fun y=>st_reg e hA y
   have hfit:=fit_reg e hA
   have hself:=rset_self e A
   have hkk:=hio.k
   have hcn:=hio.c
   have hcs:=hio.s
   dsimp only[Int.toNat_natCast]at hI hkk hcn hcs
   have hkd:kd=1∨kd=2∨kd=3∨kd=4∨kd=5∨kd=6∨kd=7∨kd=8∨kd=9:=by omega
   clear hkk hio h1
   unfold nOk at hga hgb
   rcases hkd with rfl|rfl|rfl|rfl|rfl|rfl|rfl|rfl|rfl
   ·
    rw[if_pos rfl]at hI
    have hsee:=ok_see vf caps zs view hcap m key (hv key (hk _ (List.mem_of_getElem? h2) rfl))
    have hs:=hst (seeM view m key)
    repeat(first|refine wa ?_|((with_reducible apply s5);(first|(focus (with_reducible apply(a_callfnM (ys:=[.d (dstr key)]) (id:=4) (x0 := .map (some b0)) (M:=encM m)));exact hsee;exact .map (.ref .nil);exact rfl;exact rfl;exact rfl;exact rfl;apply SubsE.cons;exact rfl;exact .d (.refl _);exact trivial;exact SubsE.nil)|((with_reducible apply a_lptr);(iterate 4 exact rfl);exact ld_reg e hA rfl)|((with_reducible apply a_lptr);(iterate 4 exact rfl);exact ld_reg e hB rfl)|((with_reducible apply a_store);(iterate 6 exact rfl);exact hfit;exact⟨rfl,trivial⟩)|((with_reducible apply a_nilp);(iterate 3 exact rfl))|exact by_oa|exact by_ca);exact by_g)|refine wb ?_)
    refine q_loopT (x+1,m,rset e A (seeM view m key)) ⟨hm,rset_ok he A (see_ok (hvn key (hk _ (List.mem_of_getElem? h2) rfl)) hm),by rw[rset_failed];exact hf,hI⟩ (by dsimp only;omega) ?_
    exact by_less
   ·
    rw[if_neg (show ¬ (2:Int)=1 by decide),if_pos rfl]at hI
    have hs:=hst n
    repeat(first|refine wa ?_|((with_reducible apply s5);(first|((with_reducible apply a_lptr);(iterate 4 exact rfl);exact ld_reg e hA rfl)|((with_reducible apply a_lptr);(iterate 4 exact rfl);exact ld_reg e hB rfl)|((with_reducible apply a_store);(iterate 6 exact rfl);exact hfit;exact⟨rfl,trivial⟩)|((with_reducible apply a_nilp);(iterate 3 exact rfl))|exact by_oa|exact by_ca);exact by_g)|refine wb ?_)
    refine q_loopT (x+1,m,rset e A n) ⟨hm,rset_ok he A (hcn rfl),by rw[rset_failed];exact hf,hI⟩ (by dsimp only;omega) ?_
    exact by_less
   ·
    rw[if_neg (show ¬ (3:Int)=1 by decide),if_neg (show ¬ (3:Int)=2 by decide),if_pos rfl]at hI
    have hs:=hst (round (rget e A+rget e B))
    have cr:=ok_pround (rget e A+rget e B) (by unfold inI;omega)
    repeat(first|refine wa ?_|((with_reducible apply s5);(first|((with_reducible apply a_lptr);(iterate 4 exact rfl);exact ld_reg e hA rfl)|((with_reducible apply a_lptr);(iterate 4 exact rfl);exact ld_reg e hB rfl)|((with_reducible apply a_store);(iterate 6 exact rfl);exact hfit;exact⟨rfl,trivial⟩)|((with_reducible apply a_nilp);(iterate 3 exact rfl))|((with_reducible apply a_bin);(iterate 2 exact rfl);(apply bin_add;omega);exact rfl)|exact by_oa|exact by_ca);exact by_g)|refine wb ?_)
    refine q_loopT (x+1,m,rset e A (round (rget e A+rget e B))) ⟨hm,rset_ok he A (round_ok _),by rw[rset_failed];exact hf,hI⟩ (by dsimp only;omega) ?_
    exact by_less
   ·
    rw[if_neg (show ¬ (4:Int)=1 by decide),if_neg (show ¬ (4:Int)=2 by decide),if_neg (show ¬ (4:Int)=3 by decide),if_pos rfl]at hI
    have hs:=hst (round (rget e A - rget e B))
    have cr:=ok_pround (rget e A - rget e B) (by unfold inI;omega)
    repeat(first|refine wa ?_|((with_reducible apply s5);(first|((with_reducible apply a_lptr);(iterate 4 exact rfl);exact ld_reg e hA rfl)|((with_reducible apply a_lptr);(iterate 4 exact rfl);exact ld_reg e hB rfl)|((with_reducible apply a_store);(iterate 6 exact rfl);exact hfit;exact⟨rfl,trivial⟩)|((with_reducible apply a_nilp);(iterate 3 exact rfl))|((with_reducible apply a_bin);(iterate 2 exact rfl);(apply bin_sub;omega);exact rfl)|exact by_oa|exact by_ca);exact by_g)|refine wb ?_)
    refine q_loopT (x+1,m,rset e A (round (rget e A - rget e B))) ⟨hm,rset_ok he A (round_ok _),by rw[rset_failed];exact hf,hI⟩ (by dsimp only;omega) ?_
    exact by_less
   ·
    rw[if_neg (show ¬ (5:Int)=1 by decide),if_neg (show ¬ (5:Int)=2 by decide),if_neg (show ¬ (5:Int)=3 by decide),if_neg (show ¬ (5:Int)=4 by decide),if_pos rfl]at hI
    have hmul : -1152921504606846976≤rget e A*rget e B∧rget e A*rget e B≤1152921504606846976:=mul_bound hga hgb
    have hs:=hst (round (rget e A*rget e B))
    have cr:=ok_pround (rget e A*rget e B) (by unfold inI;omega)
    repeat(first|refine wa ?_|((with_reducible apply s5);(first|((with_reducible apply a_lptr);(iterate 4 exact rfl);exact ld_reg e hA rfl)|((with_reducible apply a_lptr);(iterate 4 exact rfl);exact ld_reg e hB rfl)|((with_reducible apply a_store);(iterate 6 exact rfl);exact hfit;exact⟨rfl,trivial⟩)|((with_reducible apply a_nilp);(iterate 3 exact rfl))|((with_reducible apply a_bin);(iterate 2 exact rfl);(apply bin_mul;omega);exact rfl)|exact by_oa|exact by_ca);exact by_g)|refine wb ?_)
    refine q_loopT (x+1,m,rset e A (round (rget e A*rget e B))) ⟨hm,rset_ok he A (round_ok _),by rw[rset_failed];exact hf,hI⟩ (by dsimp only;omega) ?_
    exact by_less
   ·
    rw[if_neg (show ¬ (6:Int)=1 by decide),if_neg (show ¬ (6:Int)=2 by decide),if_neg (show ¬ (6:Int)=3 by decide),if_neg (show ¬ (6:Int)=4 by decide),if_neg (show ¬ (6:Int)=5 by decide),if_pos rfl]at hI
    have hms:=mset_enc m key (true,rget e A)
    repeat(first|refine wa ?_|((with_reducible apply s5);(first|((with_reducible apply a_lptr);(iterate 4 exact rfl);exact ld_reg e hA rfl)|((with_reducible apply a_lptr);(iterate 4 exact rfl);exact ld_reg e hB rfl)|((with_reducible apply a_store);(iterate 6 exact rfl);exact hfit;exact⟨rfl,trivial⟩)|((with_reducible apply a_nilp);(iterate 3 exact rfl))|((with_reducible apply(a_mset (us:=chA (true,rget e A)) 4 hmt));(iterate 3 exact rfl);exact .agg (.d rfl);exact rfl)|exact by_oa|exact by_ca);exact by_g)|refine wb ?_)
    rw[hms]
    refine q_loopT (x+1,mS m key (true,rget e A),e) ⟨mOk_set hm key (rget_ok he A),he,hf,hI⟩ (by dsimp only;omega) ?_
    exact by_less
   ·
    rw[if_neg (show ¬ (7:Int)=1 by decide),if_neg (show ¬ (7:Int)=2 by decide),if_neg (show ¬ (7:Int)=3 by decide),if_neg (show ¬ (7:Int)=4 by decide),if_neg (show ¬ (7:Int)=5 by decide),if_neg (show ¬ (7:Int)=6 by decide),if_pos rfl]at hI
    have hms:=mset_enc m key (false,0)
    repeat(first|refine wa ?_|((with_reducible apply s5);(first|((with_reducible apply a_lptr);(iterate 4 exact rfl);exact ld_reg e hA rfl)|((with_reducible apply a_lptr);(iterate 4 exact rfl);exact ld_reg e hB rfl)|((with_reducible apply a_store);(iterate 6 exact rfl);exact hfit;exact⟨rfl,trivial⟩)|((with_reducible apply a_nilp);(iterate 3 exact rfl))|((with_reducible apply(a_mset (us:=chA (false,0)) 4 hmt));(iterate 3 exact rfl);exact .agg (.d rfl);exact rfl)|exact by_oa|exact by_ca);exact by_g)|refine wb ?_)
    rw[hms]
    refine q_loopT (x+1,mS m key (false,0),e) ⟨mOk_set hm key (by simp[nOk]),he,hf,hI⟩ (by dsimp only;omega) ?_
    exact by_less
   ·
    rw[if_neg (show ¬ (8:Int)=1 by decide),if_neg (show ¬ (8:Int)=2 by decide),if_neg (show ¬ (8:Int)=3 by decide),if_neg (show ¬ (8:Int)=4 by decide),if_neg (show ¬ (8:Int)=5 by decide),if_neg (show ¬ (8:Int)=6 by decide),if_neg (show ¬ (8:Int)=7 by decide),if_pos rfl]at hI
    obtain⟨N,rfl⟩:=Int.eq_ofNat_of_zero_le (hcs rfl).1
    have hN:=(hcs rfl).2
    by_cases h5:rget e A < 1
    ·
     rw[if_pos h5,runGo_skip,List.drop_drop]at hI
     repeat(first|refine wa ?_|((with_reducible apply s5);(first|((with_reducible apply a_lptr);(iterate 4 exact rfl);exact ld_reg e hA rfl)|((with_reducible apply a_lptr);(iterate 4 exact rfl);exact ld_reg e hB rfl)|((with_reducible apply a_store);(iterate 6 exact rfl);exact hfit;exact⟨rfl,trivial⟩)|((with_reducible apply a_nilp);(iterate 3 exact rfl))|exact by_oa|exact by_ca);exact by_g)|refine wb ?_)
     refine q_loopT (x+N+1,m,e) ⟨hm,he,hf,by dsimp only;rw[← hI];congr 2;omega⟩ (by dsimp only;omega) ?_
     exact by_less
    ·
     rw[if_neg h5]at hI
     repeat(first|refine wa ?_|((with_reducible apply s5);(first|((with_reducible apply a_lptr);(iterate 4 exact rfl);exact ld_reg e hA rfl)|((with_reducible apply a_lptr);(iterate 4 exact rfl);exact ld_reg e hB rfl)|((with_reducible apply a_store);(iterate 6 exact rfl);exact hfit;exact⟨rfl,trivial⟩)|((with_reducible apply a_nilp);(iterate 3 exact rfl))|exact by_oa|exact by_ca);exact by_g)|refine wb ?_)
     refine q_loopT (x+1,m,e) ⟨hm,he,hf,hI⟩ (by dsimp only;omega) ?_
     exact by_less
   ·
    rw[if_neg (show ¬ (9:Int)=1 by decide),if_neg (show ¬ (9:Int)=2 by decide),if_neg (show ¬ (9:Int)=3 by decide),if_neg (show ¬ (9:Int)=4 by decide),if_neg (show ¬ (9:Int)=5 by decide),if_neg (show ¬ (9:Int)=6 by decide),if_neg (show ¬ (9:Int)=7 by decide),if_neg (show ¬ (9:Int)=8 by decide)]at hI
    by_cases h5:rget e A < 0
    ·
     rw[if_pos h5]at hI
     repeat(first|refine wa ?_|((with_reducible apply s5);(first|((with_reducible apply a_lptr);(iterate 4 exact rfl);exact ld_reg e hA rfl)|((with_reducible apply a_lptr);(iterate 4 exact rfl);exact ld_reg e hB rfl)|((with_reducible apply a_store);(iterate 6 exact rfl);exact hfit;exact⟨rfl,trivial⟩)|((with_reducible apply a_nilp);(iterate 3 exact rfl))|exact by_oa|exact by_ca);exact by_g)|refine wb ?_)
     unfold runRes runC
     rw[← hI]
     exact .three (.cell rfl rfl rfl rfl (.aggd rfl (.refl _))) (.tmp rfl (.one (.d (.nil _)))) (.tmp rfl (.one (.d (.nil _))))
    ·
     rw[if_neg h5]at hI
     repeat(first|refine wa ?_|((with_reducible apply s5);(first|((with_reducible apply a_lptr);(iterate 4 exact rfl);exact ld_reg e hA rfl)|((with_reducible apply a_lptr);(iterate 4 exact rfl);exact ld_reg e hB rfl)|((with_reducible apply a_store);(iterate 6 exact rfl);exact hfit;exact⟨rfl,trivial⟩)|((with_reducible apply a_nilp);(iterate 3 exact rfl))|exact by_oa|exact by_ca);exact by_g)|refine wb ?_)
     refine q_loopT (x+1,m,e) ⟨hm,he,hf,hI⟩ (by dsimp only;omega) ?_
     exact by_less
  ·
   rw[List.drop_eq_nil_of_le (by omega)]at hI
   simp only[runGo]at hI
   have hchl:∀ j,j≤d.writes.length→(chg m (d.writes.drop j)).length≤d.writes.length - j:=fun j _=>by
    have:=chg_len m (d.writes.drop j);simpa using this
   have hst0:StopA 33:=⟨rfl⟩
   try refine wkS ?_
   clear hst0
   refine Stop.go (CW.stut (stut_promote (i:=13) 133 4) ⟨rfl,rfl,trivial⟩ ?_)
   refine CW.stut (stut_promote (i:=14) 9 1) ⟨rfl,rfl,trivial⟩ ?_
   try refine wk ?_
   refine CW.loopT (fun t:Nat×List (Str×(Bool×Int))=>[sp 4 2,ob 2 done0.enc,sd 5 (.v nilS),sd 6 (.v nilS),sp 7 3,ob 3 e.enc,(.s 8,.av (.pd [.v (.map (some b0))])),(.o 4,.ob (.mp (encM m) (.map (some b0)))),
    so 13 6 t.2.length,oa 6 133 4 ((t.2.map chVer).map Version.enc),so 14 7 t.2.length,oa 7 9 1 ((t.2.map (·.1)).map encStr1),sd 162 (encStrs d.writes),sd 163 (dint d.writes.length),sd 164 (dint t.1),nxt 8])
    (fun t=>t.1≤d.writes.length∧t.2.length≤t.1∧t.2++chg m (d.writes.drop t.1)=chg m d.writes) (fun t=>d.writes.length - t.1) (0,[]) ⟨by omega,by simp,rfl⟩ ?_ ?_
   ·
    exact by_less
   ·
    rintro ⟨j,acc⟩ ⟨hj,hacc,hJ⟩
    dsimp only at hj hacc hJ ⊢
    rcases drop_case hj with ⟨h1,h2⟩|⟨k,h1,h2,h3⟩
    ·
     rw[h1,chg,List.append_nil]at hJ
     try refine wk ?_
     have hrc:runC view d=acc:=by
      unfold runC
      rw[← hI]
      dsimp only
      rw[if_neg (by rw[hf];simp),hJ]
     unfold runRes
     rw[hrc,← hI]
     exact .three (.cell rfl rfl rfl rfl (.aggd rfl (.refl _))) (.tmp rfl (.one (.own rfl (by simp) (.refl _)))) (.tmp rfl (.one (.own rfl (by simp) (.refl _))))
    ·
     rw[h1,chg]at hJ
     have hg:=mget_enc m k
     cases hmk:mG m k with
     |none =>
      rw[hmk]at hJ hg
      dsimp only at hJ
      have hl:mlook (chA (false,0)) (encM m) k=chA (false,0):=by simp[mlook,hg]
      have ha:=fun {d:Nat} {ty:TypeId} {pos:String} {af:Array Edge} {gd:Option (Nat×Bool)} {σ:St} {x y:Operand} {x0:Value} (hx) (hy) (ho) (hd)=>a_mlook (σ:=σ) (d:=d) (ty:=ty) (pos:=pos) (af:=af) (gd:=gd) (x:=x) (y:=y) (x0:=x0) 4 hmt flat0 (encM_one m) (k:=k) hx hy ho hd
      rw[hl,hg]at ha
      repeat(first|refine wa ?_|((with_reducible apply s5);(first|((with_reducible apply ha);(iterate 4 exact rfl))|exact by_oa|exact by_ca);exact by_g)|refine wb ?_)
      refine q_loopT (j+1,acc) ⟨by dsimp only;omega,by dsimp only;omega,hJ⟩ (by dsimp only;omega) ?_
      exact by_less
     |some c =>
      rw[hmk]at hJ hg
      dsimp only at hJ
      have hl:mlook (chA (false,0)) (encM m) k=chA c:=by simp[mlook,hg]
      have ha:=fun {d:Nat} {ty:TypeId} {pos:String} {af:Array Edge} {gd:Option (Nat×Bool)} {σ:St} {x y:Operand} {x0:Value} (hx) (hy) (ho) (hd)=>a_mlook (σ:=σ) (d:=d) (ty:=ty) (pos:=pos) (af:=af) (gd:=gd) (x:=x) (y:=y) (x0:=x0) 4 hmt flat0 (encM_one m) (k:=k) hx hy ho hd
      rw[hl,hg]at ha
      repeat(first|refine wa ?_|((with_reducible apply s5);(first|((with_reducible apply ha);(iterate 4 exact rfl))|exact by_oa|exact by_ca);exact by_g)|refine wb ?_)
      refine q_loopT (j+1,acc++[(k,c)]) ⟨by dsimp only;omega,by dsimp only;simp;omega,by rw[← hJ];simp⟩ (by dsimp only;omega) ?_
      exact by_less
end Go.Proofs.YtccblhpfjlgmbabGreatDoor
namespace Go.AX
open Go.RowKit
variable {cx:Cx}{g:Nat→Value}{σ σ':St}{a:Act}{w w':World}{nx:Nat}{c:Code}{Q:Exit→St→Prop}
variable {ty:TypeId}{pos:String}{af:Array Edge}{gd:Option (Nat×Bool)}{d:Nat}
inductive Part where
 |d (x:D)
 |own (e k:Nat) (rows:List (List D))
def withL (own:Nat→Prop) (ps:List Part) (cs:Array Value):Nat→Prop:=fun b=>own b∨∃ j e k rows,ps[j]? = some (.own e k rows)∧blk (cs.getD j undef)=some b
structure PartsAt (w:World) (base:Nat) (own:Nat→Prop) (ps:List Part) (cs:Array Value):Prop where
 size:cs.size=ps.length
 one:∀ (j:Nat) (c:Value),cs[j]? = some c→c.oneCell'=true
 data:∀ j x,ps[j]? = some (.d x)→Rd w (withL own ps cs) (cs.getD j undef) x
 rows:∀ j e k rows,ps[j]? = some (.own e k rows)→RowsAt w base (withL own ps cs) e k (cs.getD j undef) rows
 sep:∀ j j' e k rows e' k' rows' b,ps[j]? = some (.own e k rows)→ps[j']? = some (.own e' k' rows')→blk (cs.getD j undef)=some b→blk (cs.getD j' undef)=some b→j=j'
structure FnNews (P:Program) (f:FuncId) (args:List Arg) (ps:List Part):Prop where
 run : ∃ fn, P.funcs[f]? = some fn ∧ (fn.name == "runtime.NumGoroutine") = false ∧ fn.body.isNone = false
 calls:∀ (w:World) (own:Nat→Prop) (vs:List Value),((∀ b,own b→b < w.heap.size)∧Gl P w)→ArgsOk w own vs args →
  Calls P f vs.toArray w fun r w'=>∃ cs,r = .returned (.agg cs)∧Below w.heap.size w w'∧PartsAt w' w.heap.size own ps cs
inductive PartE (σ:St):AV→Part→Prop
 |d {x:D}:PartE σ (.d x) (.d x)
 |own {id n e k:Nat} {rows:List (List D)} (ho:get σ (.o id) = .ob (.arr e k rows)) (hn:n=rows.length):PartE σ (.own id n) (.own e k rows)
def ids:List AV→List Nat
 | []=>[]
 |.own id _::r=>id::ids r
 |_::r=>ids r
inductive PartsL (σ:St):List AV→List Part→Prop
 |nil:PartsL σ [] []
 |cons {av:AV} {p:Part} {avs:List AV} {ps:List Part} (h:PartE σ av p) (t:PartsL σ avs ps):PartsL σ (av::avs) (p::ps)
theorem PartsL.at {avs:List AV}{ps:List Part}(h:PartsL σ avs ps):avs.length=ps.length∧∀ (j:Nat) (p:Part),ps[j]? = some p→∃ av:AV,avs[j]? = some av∧PartE σ av p:=by
 induction h with
 |nil=>exact⟨rfl,fun j p h=>by simp at h⟩
 |cons h t ih =>
  refine⟨by simp[ih.1],fun j p hj=>?_⟩
  cases j with
  |zero=>simp at hj;subst hj;exact⟨_,rfl,h⟩
  |succ j=>simpa using ih.2 j p (by simpa using hj)
theorem ids_mem {id n:Nat}:∀ {avs:List AV}{j:Nat},avs[j]? = some (.own id n)→id∈ids avs
 |x::avs,0,h=>by
  obtain rfl:x = .own id n:=by simpa using h
  exact List.mem_cons_self ..
 |x::avs,j+1,h=>by
  have:=ids_mem (avs:=avs) (j:=j) (by simpa using h)
  cases x <;> simp[ids,this]
theorem ids_inj {id n m:Nat}:∀ {avs:List AV}{i j:Nat},(ids avs).Nodup→avs[i]? = some (.own id n)→avs[j]? = some (.own id m)→i=j
 |x::avs,0,0,_,_,_=>rfl
 |x::avs,0,j+1,h,hi,hj=>by
  obtain rfl:x = .own id n:=by simpa using hi
  simp only[ids,List.nodup_cons]at h
  exact absurd (ids_mem (by simpa using hj)) h.1
 |x::avs,i+1,0,h,hi,hj=>by
  obtain rfl:x = .own id m:=by simpa using hj
  simp only[ids,List.nodup_cons]at h
  exact absurd (ids_mem (by simpa using hi)) h.1
 |x::avs,i+1,j+1,h,hi,hj=>by
  have h':(ids avs).Nodup:=by
   cases x <;> simp only[ids,List.nodup_cons]at h <;> first|exact h.2|exact h
  exact congrArg (· + 1) (ids_inj (n:=n) (m:=m) h' (by simpa using hi) (by simpa using hj))
theorem parts_at (hs:SimG cx σ a w g nx) {avs:List AV}{ps:List Part}{v:Value}(hr:Rep cx g σ w v (.agg avs)) (hp:PartsL σ avs ps) (hn:(ids avs).Nodup):∃ cs,v = .agg cs∧PartsAt w cx.w0.heap.size cx.own0 ps cs:=by
 obtain⟨cs,h1,h2,h3,h4⟩:=hr
 obtain⟨hl,hat⟩:=hp.at
 refine⟨cs,h1,?_⟩
 have hc:∀ j p,ps[j]? = some p→∃ av,avs[j]? = some av∧PartE σ av p∧Rep1 cx g σ w (cs.getD j undef) av:=fun j p hj=>by
  obtain⟨av,h5,h6⟩:=hat j p hj
  have hlt:j < cs.size:=by rw[h2];exact(List.getElem?_eq_some_iff.1 h5).1
  have h7:cs[j]? = some cs[j]:=Array.getElem?_eq_getElem hlt
  refine⟨av,h5,h6,?_⟩
  rw[Array.getD_eq_getD_getElem?,h7]
  exact h4 j _ av h5 h7
 have hown:∀ j e k rows,ps[j]? = some (.own e k rows)→∃ id n,avs[j]? = some (.own id n)∧cs.getD j undef=g id∧get σ (.o id) = .ob (.arr e k rows):=fun j e k rows hj=>by
  obtain⟨av,h5,h6,h7⟩:=hc j _ hj
  cases h6 with
  |@own id n _ _ _ ho hn=>exact⟨id,n,h5,(h7.2 e k rows ho).2 hn,ho⟩
 have hle:∀ b,withL cx.own0 ps cs b→cx.own g σ b:=fun b hb=>by
  rcases hb with hb|⟨j,e,k,rows,hj,hb⟩
  ·
   exact .inl hb
  ·
   obtain⟨id,n,_,h6,h7⟩:=hown j e k rows hj
   exact .inr ⟨id,_,h7,by rw[← h6];exact hb⟩
 refine⟨by rw[h2,hl],h3,fun j x hj=>?_,fun j e k rows hj=>?_,fun j j' e k rows e' k' rows' b hj hj' hb hb'=>?_⟩
 ·
  obtain⟨av,h5,h6,h7⟩:=hc j _ hj
  cases h6 with
  |d=>exact Rd.less hle h7
 ·
  obtain⟨id,n,_,h6,h7⟩:=hown j e k rows hj
  rw[h6]
  exact(objRows hs h7).re (fun b hb=>obj_ge hs h7 hb) hle
 ·
  obtain⟨id,n,h5,h6,h7⟩:=hown j e k rows hj
  obtain⟨id',n',h5',h6',h7'⟩:=hown j' e' k' rows' hj'
  obtain rfl:=hs.sep id id' _ _ b h7 h7' (by rw[← h6];exact hb) (by rw[← h6'];exact hb')
  exact ids_inj hn h5 h5'
inductive RetNews (T:Tbl) (σ:St) (ps:List Part):ResultVar→Prop
 |tmp {t:Nat} {avs:List AV} (h:get σ (.s t) = .av (.agg avs)) (hp:PartsL σ avs ps) (hn:(ids avs).Nodup):RetNews T σ ps (.tmp t)
 |cell {s t id:Nat} {cells avs:List AV} {ti:TI} (h:get σ (.s s) = .av (.ptr id 0)) (ho:get σ (.o id) = .ob (.box cells)) (ht:tget T t=some ti)
   (hl:ldA ti cells=some (.agg avs)) (hp:PartsL σ avs ps) (hn:(ids avs).Nodup):RetNews T σ ps (.cell s t)
theorem RetNews.ok (hs:SimG cx σ a w g nx) {rv:ResultVar}{ps:List Part}(h:RetNews cx.T σ ps rv):∃ cs,(rvRun a.tmps rv).run cx.P w = .ok (.agg cs) w∧PartsAt w cx.w0.heap.size cx.own0 ps cs:=by
 cases h with
 |@tmp t avs h hp hn =>
  obtain⟨cs,h1,h2⟩:=parts_at hs (hs.slots t _ h).1 hp hn
  exact⟨cs,by rw[← h1];rfl,h2⟩
 |@cell s t id cells avs ti h ho ht hl hp hn =>
  obtain⟨v,h1,h2,_⟩:=load_ptr hs (x:=a.tmps.getD s undef) (off:=0) (hs.slots s _ h).1 ho ht (by simpa using hl)
  obtain⟨b,hg,hv⟩:=(hs.slots s _ h).1.2 cells ho
  obtain⟨cs,rfl,h3⟩:=parts_at hs h2 hp hn
  refine⟨cs,?_,h3⟩
  rw[hv]at h1
  simp only[rvRun,hv,asAddr,Sem.run_bind,Sem.run_pure,Result.andThen_ok]
  simpa[Instr.loadAt,Instr.sureAddr] using h1
def newsQ (T:Tbl) (rv:ResultVar) (ps:List Part):Exit→St→Prop
 |.normal,σ=>RetNews T σ ps rv
 |.ret,σ=>RetNews T σ ps rv
 |_,_=>False
theorem fnNews_of {P:Program}{T:Tbl}(hT:TOk P T) (hm:P.follows .mixedOrders=true) {f:FuncId}{fn:Func}{c:Code}{rv:ResultVar}{args:List Arg}{ps:List Part}
  (hf : P.funcs[f]? = some fn) (hb : fn.body = some c) (hname : (fn.name == "runtime.NumGoroutine") = false) (hr : fn.results = #[rv]) (hn : Nat.ble args.length fn.ntmps = true)
  (h:∀ w0 own0,CW ⟨P,T,hT,hm,fn.ntmps,w0,own0,0,[]⟩ c (newsQ T rv ps) (argSt 0 args)):FnNews P f args ps:=by
 refine⟨⟨fn,hf,hname,by rw[hb];rfl⟩,fun w own vs hown ha=>?_⟩
 have hsim:=entry_sim (P:=P) (T:=T) (hT:=hT) (hm:=hm) (n:=fn.ntmps) hown ha (by simpa using hn)
 refine calls_of_wp hf hb (wp_mono (h w own _ _ hsim) fun x a' w' he=>?_)
 obtain⟨σ',⟨g,nx,hg⟩,hq⟩:=he
 have fin:∀ hq:RetNews T σ' ps rv,a'.defers=[]∧∃ v,(results fn a'.tmps).run P w' = .ok v w'∧∃ cs,Ending.returned v = .returned (.agg cs)∧Below w.heap.size w w'∧PartsAt w' w.heap.size own ps cs:=by
  intro hq
  obtain⟨cs,h1,h2⟩:=hq.ok hg
  exact⟨hg.defers,.agg cs,by rw[results_one hr];exact h1,cs,rfl,hg.below,h2⟩
 cases x with
 |normal=>exact fin hq
 |ret=>exact fin hq
 |exit j=>exact hq.elim
 |goto j=>exact hq.elim
 |panic c=>exact hq.elim
 |outgrown=>exact hq.elim
def Part.dt:Part→D
 |.d x=>x
 |.own _ k rows => .sl k rows
theorem FnNews.ok {P:Program}{f:FuncId}{args:List Arg}{ps:List Part}(h:FnNews P f args ps):FnOk P f args (.one (.agg (ps.map Part.dt))):=by
 refine⟨h.run,fun w own vs hown ha=>(h.calls w own vs hown ha).mono fun r w' hr=>?_⟩
 obtain⟨cs,rfl,h1,h2⟩:=hr
 refine⟨.agg cs,rfl,h1,?_⟩
 refine .agg cs _ (by rw[h2.size,List.length_map]) h2.one fun j x c hj hc=>?_
 rw[List.getElem?_map]at hj
 cases hp:ps[j]? with
 |none=>rw[hp]at hj;cases hj
 |some p =>
  rw[hp]at hj
  simp at hj;subst hj
  have hcd:cs.getD j undef=c:=by rw[Array.getD_eq_getD_getElem?,hc];rfl
  cases p with
  |d x =>
   have:=h2.data j x hp
   rw[hcd]at this
   exact this.less fun b hb => .inl hb
  |own e k rows =>
   have:=h2.rows j e k rows hp
   rw[hcd]at this
   refine this.rd fun b hb=>⟨.inl hb,fun he=>?_⟩
   have:=(this.lt he).1
   have:=hown.1 b hb
   omega
def newObs:Nat→List Part→List (Key×Val)
 |n,[]=>[(.nx,.num n)]
 |n,.d _::r=>newObs n r
 |n,.own e k rows::r=>(.o n,.ob (.arr e k rows))::newObs (n+1) r
def newAvs:Nat→List Part→List AV
 |_,[]=>[]
 |n,.d x::r => .d x::newAvs n r
 |n,.own _ _ rows::r => .own n rows.length::newAvs (n+1) r
def newN:Nat→List Part→Nat
 |n,[]=>n
 |n,.d _::r=>newN n r
 |n,.own _ _ _::r=>newN (n+1) r
def idAt:Nat→List Part→Nat→Nat
 |n,[],_=>n
 |n,.d _::r,j+1=>idAt n r j
 |n,.own _ _ _::r,j+1=>idAt (n+1) r j
 |n,_::_,0=>n
theorem newN_ge:∀ {ps:List Part}{n:Nat},n≤newN n ps
 | [],n=>Nat.le_refl _
 |.d _::r,n=>newN_ge (ps:=r)
 |.own _ _ _::r,n=>Nat.le_trans (Nat.le_succ n) (newN_ge (ps:=r))
theorem newAvs_len:∀ {ps:List Part}{n:Nat},(newAvs n ps).length=ps.length
 | [],n=>rfl
 |.d _::r,n=>by simp[newAvs,newAvs_len (ps:=r)]
 |.own _ _ _::r,n=>by simp[newAvs,newAvs_len (ps:=r)]
theorem newObs_s {i:Nat}:∀ {ps:List Part}{n:Nat},get (newObs n ps++σ) (.s i)=get σ (.s i)
 | [],n=>get_cons_ne (by simp)
 |.d _::r,n=>newObs_s (ps:=r)
 |.own _ _ _::r,n=>(get_cons_ne (by simp)).trans (newObs_s (ps:=r))
theorem newObs_nx:∀ {ps:List Part}{n:Nat},get (newObs n ps++σ) .nx = .num (newN n ps)
 | [],n=>get_cons_same
 |.d _::r,n=>newObs_nx (ps:=r)
 |.own _ _ _::r,n=>(get_cons_ne (by simp)).trans (newObs_nx (ps:=r))
theorem newObs_lo {i:Nat}:∀ {ps:List Part}{n:Nat},i < n→get (newObs n ps++σ) (.o i)=get σ (.o i)
 | [],n,_=>get_cons_ne (by simp)
 |.d _::r,n,h=>newObs_lo (ps:=r) h
 |.own _ _ _::r,n,h=>(get_cons_ne (by simp;omega)).trans (newObs_lo (ps:=r) (by omega))
theorem newObs_at {i:Nat}{o:Ob}:∀ {ps:List Part}{n:Nat},(∀ j o,n≤j→get σ (.o j) ≠ .ob o)→n≤i→get (newObs n ps++σ) (.o i) = .ob o →
  ∃ j e k rows,ps[j]? = some (.own e k rows)∧o = .arr e k rows∧idAt n ps j=i∧i < newN n ps
 | [],n,h0,hi,h=>by
  rw[show get (newObs n []++σ) (.o i)=get σ (.o i) from get_cons_ne (by simp)]at h
  exact absurd h (h0 i o hi)
 |.d _::r,n,h0,hi,h=>by
  obtain⟨j,e,k,rows,h1,h2,h3,h4⟩:=newObs_at (ps:=r) h0 hi h
  exact⟨j+1,e,k,rows,by simpa using h1,h2,h3,h4⟩
 |.own e k rows::r,n,h0,hi,h=>by
  by_cases he:n=i
  ·
   subst he
   rw[show get (newObs n (.own e k rows::r)++σ) (.o n) = .ob (.arr e k rows) from get_cons_same]at h
   cases h
   exact⟨0,e,k,rows,rfl,rfl,rfl,newN_ge (ps:=r)⟩
  ·
   rw[show get (newObs n (.own e k rows::r)++σ) (.o i)=get (newObs (n+1) r++σ) (.o i) from get_cons_ne (by simpa using he)]at h
   obtain⟨j,e',k',rows',h1,h2,h3,h4⟩:=newObs_at (ps:=r) (fun j o hj=>h0 j o (by omega)) (by omega) h
   exact⟨j+1,e',k',rows',by simpa using h1,h2,h3,h4⟩
theorem idAt_get {e k:Nat}{rows:List (List D)}:∀ {ps:List Part}{n j:Nat},ps[j]? = some (.own e k rows)→get (newObs n ps++σ) (.o (idAt n ps j)) = .ob (.arr e k rows)∧n≤idAt n ps j∧(newAvs n ps)[j]? = some (.own (idAt n ps j) rows.length)∧idAt n ps j < newN n ps
 |.d _::r,n,0,h=>by simp at h
 |.own e' k' rows'::r,n,0,h=>by
  simp at h
  obtain⟨rfl,rfl,rfl⟩:=h
  exact⟨get_cons_same,Nat.le_refl _,rfl,newN_ge (ps:=r)⟩
 |.d _::r,n,j+1,h=>by
  have:=idAt_get (ps:=r) (n:=n) (j:=j) (by simpa using h)
  exact⟨this.1,this.2.1,this.2.2.1,this.2.2.2⟩
 |.own _ _ _::r,n,j+1,h=>by
  have:=idAt_get (ps:=r) (n:=n+1) (j:=j) (by simpa using h)
  exact⟨(get_cons_ne (by simp only[idAt,ne_eq,Key.o.injEq];omega)).trans this.1,by simp only[idAt];omega,this.2.2.1,this.2.2.2⟩
theorem newAvs_at {av:AV}:∀ {ps:List Part}{n j:Nat},(newAvs n ps)[j]? = some av→∃ p,ps[j]? = some p∧((∃ x,p = .d x∧av = .d x)∨∃ e k rows,p = .own e k rows∧av = .own (idAt n ps j) rows.length)
 |.d x::r,n,0,h=>by
  simp[newAvs]at h
  exact⟨_,rfl,.inl ⟨x,rfl,h.symm⟩⟩
 |.own e k rows::r,n,0,h=>by
  simp[newAvs]at h
  exact⟨_,rfl,.inr ⟨e,k,rows,rfl,h.symm⟩⟩
 |.d _::r,n,j+1,h=>newAvs_at (ps:=r) (n:=n) (j:=j) (by simpa[newAvs] using h)
 |.own _ _ _::r,n,j+1,h=>newAvs_at (ps:=r) (n:=n+1) (j:=j) (by simpa[newAvs] using h)
theorem ex_g (g:Nat→Value):∀ (ps:List Part) (n:Nat) (c:Nat→Value),∃ g':Nat→Value,(∀ i,i < n→g' i=g i)∧∀ j e k rows,ps[j]? = some (.own e k rows)→g' (idAt n ps j)=c j
 | [],n,c=>⟨g,fun _ _=>rfl,fun j e k rows h=>by simp at h⟩
 |.d x::r,n,c=>by
  obtain⟨g',h1,h2⟩:=ex_g g r n fun j=>c (j+1)
  refine⟨g',h1,fun j e k rows h=>?_⟩
  cases j with
  |zero=>simp at h
  |succ j=>exact h2 j e k rows (by simpa using h)
 |.own _ _ _::r,n,c=>by
  obtain⟨g',h1,h2⟩:=ex_g g r (n+1) fun j=>c (j+1)
  refine⟨upd g' n (c 0),fun i hi=>by rw[upd_ne (by omega)];exact h1 i (by omega),fun j e k rows h=>?_⟩
  cases j with
  |zero=>exact upd_same _ _ _
  |succ j =>
   have h':r[j]? = some (.own e k rows):=by simpa using h
   have:=(idAt_get (σ:=[]) (n:=n+1) h').2.1
   show upd g' n (c 0) (idAt (n+1) r j)=_
   rw[upd_ne (by omega)]
   exact h2 j e k rows h'
theorem SimG.joins (hs:SimG cx σ a w g nx) (hb:Below w.heap.size w w') {ps:List Part}{cs:Array Value}(hr:PartsAt w' w.heap.size (cx.own g σ) ps cs) :
  ∃ g',SimG cx (newObs nx ps++σ) a w' g' (newN nx ps)∧(∀ j e k rows,ps[j]? = some (.own e k rows)→g' (idAt nx ps j)=cs.getD j undef)∧∀ b,cx.own g' (newObs nx ps++σ) b→withL (cx.own g σ) ps cs b:=by
 obtain⟨g',hg1,hg2⟩:=ex_g g ps nx fun j=>cs.getD j undef
 have h0:∀ j o,nx≤j→get σ (.o j) ≠ .ob o:=fun j o hj ho=>by have:=(hs.objs j o ho).1;omega
 have hob:∀ id o,get (newObs nx ps++σ) (.o id) = .ob o→(id < nx∧get σ (.o id) = .ob o∧g' id=g id)∨(nx≤id∧∃ j e k rows,ps[j]? = some (.own e k rows)∧o = .arr e k rows∧idAt nx ps j=id∧id < newN nx ps∧g' id=cs.getD j undef):=fun id o ho=>by
  by_cases hid:id < nx
  ·
   rw[newObs_lo hid]at ho
   exact .inl ⟨hid,ho,hg1 id hid⟩
  ·
   obtain⟨j,e,k,rows,h1,h2,h3,h4⟩:=newObs_at h0 (by omega) ho
   exact .inr ⟨by omega,j,e,k,rows,h1,h2,h3,h4,by rw[← h3];exact hg2 j e k rows h1⟩
 have hown:∀ b,cx.own g' (newObs nx ps++σ) b→withL (cx.own g σ) ps cs b:=fun b hb=>by
  rcases hb with hb|⟨id,o,h1,h2⟩
  ·
   exact .inl (.inl hb)
  ·
   rcases hob id o h1 with ⟨_,h3,h4⟩|⟨_,j,e,k,rows,h3,_,_,_,h4⟩
   ·
    exact .inl (.inr ⟨id,o,h3,by rw[← h4];exact h2⟩)
   ·
    exact .inr ⟨j,e,k,rows,h3,by rw[← h4];exact h2⟩
 have hnew:∀ {j e k rows b},ps[j]? = some (.own e k rows)→blk (cs.getD j undef)=some b→w.heap.size≤b:=fun hj hbk=>((hr.rows _ _ _ _ hj).lt hbk).1
 have hge:=hs.below.size
 have hl:Later cx g g' σ (newObs nx ps++σ) w w' nx:=by
  refine⟨Ext.of_below hb,hb.mono hge,fun b hb'=>?_,fun id o' hid ho=>⟨o',by rw[← newObs_lo (ps:=ps) hid];exact ho,?_⟩⟩
  ·
   rcases hown b hb' with h|⟨j,e,k,rows,hj,h⟩
   ·
    exact .inl h
   ·
    exact .inr (hnew hj h)
  ·
   have:=hg1 id hid
   cases o' <;> simp[ObLe,this]
 refine⟨g',?_,hg2,hown⟩
 refine hs.next hl newObs_nx newN_ge hs.size hs.defers (hb.mono hge) (fun i av hi=>?_) (fun id o ho=>?_) fun id id' o o' b h1 h2 h3 h4=>?_
 ·
  rw[newObs_s]at hi
  exact .inl ⟨hi,rfl⟩
 ·
  rcases hob id o ho with ⟨h1,h2,h3⟩|⟨h1,j,e,k,rows,h2,rfl,h3,h4,h5⟩
  ·
   exact .inl ⟨h2,h3,fun b hbk=>hb.block b (own_lt hs (.inr ⟨id,o,h2,hbk⟩))⟩
  ·
   refine .inr ⟨h4,?_,trivial⟩
   have:=(hr.rows j e k rows h2).re (base':=cx.w0.heap.size) (fun b hbk=>by have:=hnew h2 hbk;omega) hown
   rw[← h5]at this
   exact this
 ·
  have hlo:∀ {id o b},get σ (.o id) = .ob o→g' id=g id→blk (g' id)=some b→b < w.heap.size:=fun h1 h2 h3=>own_lt hs (.inr ⟨_,_,h1,by rw[← h2];exact h3⟩)
  rcases hob id o h1 with ⟨_,h5,h6⟩|⟨_,j,e,k,rows,h5,_,h6,_,h7⟩
  ·
   rcases hob id' o' h2 with ⟨_,h5',h6'⟩|⟨_,j',e',k',rows',h5',_,h6',_,h7'⟩
   ·
    exact hs.sep id id' o o' b h5 h5' (by rw[← h6];exact h3) (by rw[← h6'];exact h4)
   ·
    have:=hlo h5 h6 h3
    have:=hnew h5' (by rw[← h7'];exact h4)
    omega
  ·
   rcases hob id' o' h2 with ⟨_,h5',h6'⟩|⟨_,j',e',k',rows',h5',_,h6',_,h7'⟩
   ·
    have:=hlo h5' h6' h4
    have:=hnew h5 (by rw[← h7];exact h3)
    omega
   ·
    have:=hr.sep j j' e k rows e' k' rows' b h5 h5' (by rw[← h7];exact h3) (by rw[← h7'];exact h4)
    rw[← h6,← h6',this]
theorem newAvs_bd {ps:List Part}{n:Nat}:∀ av∈newAvs n ps,av.bd1 (newN n ps):=by
 intro av hav
 obtain⟨j,hj⟩:=List.getElem?_of_mem hav
 obtain⟨p,hp,h⟩:=newAvs_at hj
 rcases h with ⟨x,_,rfl⟩|⟨e,k,rows,rfl,rfl⟩
 ·
  trivial
 ·
  exact(idAt_get (σ:=[]) (n:=n) hp).2.2.2
theorem ok_callnews {f:FuncId}{xs:List Operand}{avs:List AV}{ys:List Arg}{l:List (Key×Val)}{ps:List Part}{ats:Array TypeId}(hn:d < cx.n) (hc:FnNews cx.P f ys ps) (hsub:Subs xs avs ys l) :
  OpOk cx ⟨some d,.call { callee := .value (.func f),args:=⟨xs⟩,argTypes:=ats },ty,pos,af,gd⟩ ⟨l++[(.nx,.num nx)],(.s d,.av (.agg (newAvs nx ps)))::newObs nx ps⟩:=by
 rintro σ a w K Q ⟨g,n',hs⟩ hr hK
 have hnx:n'=nx:=by
  have h2:=hr.right.1
  rw[hs.hnx]at h2
  simpa using h2
 subst hnx
 have hcall:=hc.calls w (cx.own g σ) (xs.map a.eval) ⟨fun b hb=>own_lt hs hb,hs.gl⟩ (hsub.ok hs hr.left)
 unfold Oper.wp
 rw[call_run hc.run]
 refine hcall.mono fun r w' he=>?_
 obtain⟨cs,rfl,hb,hres⟩:=he
 obtain⟨g',hG,hg2,hown⟩:=SimG.joins hs hb hres
 refine hK _ _ (Sim.put hG hn (Below.refl _ _) ?_ newAvs_bd)
 refine⟨cs,rfl,by rw[newAvs_len,hres.size],hres.one,fun j c av hj hcj=>?_⟩
 obtain⟨p,hp,h⟩:=newAvs_at hj
 have hcd:cs.getD j undef=c:=by rw[Array.getD_eq_getD_getElem?,hcj];rfl
 rcases h with ⟨x,rfl,rfl⟩|⟨e,k,rows,rfl,rfl⟩
 ·
  have:=hres.data j x hp
  rw[hcd]at this
  exact Rd.less hown this
 ·
  refine⟨.of (idAt_get hp).1,fun e' k' rows' hg=>?_⟩
  rw[(idAt_get hp).1]at hg
  cases hg
  exact⟨Nat.le_refl _,fun _=>by rw[← hcd];exact(hg2 j e k rows hp).symm⟩
theorem a_callnews {f:FuncId}{xs:List Operand}{avs:List AV}{ys:List Arg}{l:List (Key×Val)}{ps:List Part}{ats:Array TypeId}(hc:FnNews cx.P f ys ps) (hn:get σ .nx = .num nx) (hd:Nat.blt d cx.n=true) (hsub:SubsE σ xs avs ys l) :
  OA cx σ ⟨some d,.call { callee := .value (.func f),args:=⟨xs⟩,argTypes:=ats },ty,pos,af,gd⟩ ⟨l++[(.nx,.num nx)],(.s d,.av (.agg (newAvs nx ps)))::newObs nx ps⟩ :=
 ⟨ok_callnews (lt_of_blt hd) hc hsub.out.1,hsub.out.2.append ⟨hn,trivial⟩⟩
end Go.AX
namespace Go.AX
open Go.RowKit
variable {cx:Cx}{g:Nat→Value}{σ:St}{a:Act}{w:World}{nx:Nat}
variable {ty:TypeId}{pos:String}{af:Array Edge}{gd:Option (Nat×Bool)}{d:Nat}
theorem a_nilpd {x:Operand}{cells:List D}(hx:ev σ x=some (.pd cells)) (hd:Nat.blt d cx.n=true) :
  OA cx σ ⟨some d,.nilCheck x,ty,pos,af,gd⟩ ⟨rdOf x (.pd cells),[(.s d,.av (.pd cells))]⟩ :=
 ⟨ok_nilCheck_pd (lt_of_blt hd) (ev_out hx).1,(ev_out hx).2⟩
end Go.AX
namespace Go.Proofs.YtccblhpfjlgmbabGreatDoor
open Go.AX Go.RF Go.RowKit
set_option maxRecDepth 100000
set_option maxHeartbeats 8000000
theorem wrong_reads {d:Deed}(h:wrongDeed d=0):∀ i∈d.code,i.kind=1→i.key∈d.reads:=by
 intro i hi hk
 unfold wrongDeed at h
 by_cases h0:lsGo [d.reads,d.writes]=0
 ·
  rw[if_pos h0]at h
  by_cases hc:12 < d.code.length
  ·
   rw[if_pos hc]at h;simp at h
  ·
   rw[if_neg hc]at h
   obtain⟨j,hj⟩:=List.getElem?_of_mem hi
   have h:=codeGo_mem h j i hj
   unfold wrongIns at h
   rw[if_neg (show ¬ (i.kind < 1∨9 < i.kind) by omega)]at h
   have hh:has i.kind.toNat 107=true:=by rw[hk];decide
   split at h
   ·
    simp at h
   ·
    simp only[hh,hk,Bool.true_eq_false,if_false,if_true]at h
    rw[if_neg (show ¬ has (Int.toNat 1) 107=false by decide)]at h
    by_cases hi:isIn d.reads i.key=true
    ·
     exact isIn_true hi
    ·
     rw[if_neg hi]at h;simp at h
 ·
  rw[if_neg h0]at h;exact absurd h h0
end Go.Proofs.YtccblhpfjlgmbabGreatDoor
namespace Go.AX
open Go.RowKit
variable {cx:Cx}{g:Nat→Value}{σ:St}{a:Act}{w:World}{nx:Nat}
variable {ty:TypeId}{pos:String}{af:Array Edge}{gd:Option (Nat×Bool)}{d:Nat}
def RdG (R:Value→AV→Prop) (cs:List Value) (ds:List AV):Prop :=
 cs.length=ds.length∧(∀ c∈cs,Value.oneCell' c=true)∧∀ (j:Nat) (c:Value) (x:AV),ds[j]? = some x→cs[j]? = some c→R c x
theorem RdG.splice {R:Value→AV→Prop}{cs ns:List Value}{ds es:List AV}{off:Nat}(h:RdG R cs ds) (hn:RdG R ns es) (hle:off+es.length≤ds.length):RdG R (splice cs off ns) (splice ds off es):=by
 obtain⟨h1,h2,h3⟩:=h
 obtain⟨n1,n2,n3⟩:=hn
 refine⟨by simp[AX.splice];omega,fun c hc=>?_,fun j c x hx hc=>?_⟩
 ·
  unfold AX.splice at hc
  rcases List.mem_append.1 hc with hc|hc
  ·
   rcases List.mem_append.1 hc with hc|hc
   ·
    exact h2 c (List.mem_of_mem_take hc)
   ·
    exact n2 c hc
  ·
   exact h2 c (List.mem_of_mem_drop hc)
 ·
  unfold AX.splice at hx hc
  rw[List.append_assoc]at hx hc
  have t1:(ds.take off).length=off:=by simp;omega
  have t2:(cs.take off).length=off:=by simp;omega
  rcases Nat.lt_or_ge j off with hj|hj
  ·
   rw[List.getElem?_append_left (by omega),List.getElem?_take,if_pos hj]at hx hc
   exact h3 j c x hx hc
  ·
   rw[List.getElem?_append_right (by omega),t1]at hx
   rw[List.getElem?_append_right (by omega),t2]at hc
   rcases Nat.lt_or_ge (j - off) es.length with hjn|hjn
   ·
    rw[List.getElem?_append_left hjn]at hx
    rw[List.getElem?_append_left (by omega)]at hc
    exact n3 _ c x hx hc
   ·
    rw[List.getElem?_append_right hjn,List.getElem?_drop]at hx
    rw[List.getElem?_append_right (by omega),List.getElem?_drop]at hc
    rw[n1]at hc
    exact h3 _ c x hx hc
def fillA (place:Nat→Option (Nat×Nat)):List AV→List (Nat×List AV)→Option (List AV)
 |ds,[]=>some ds
 |ds,(i,es)::r=>match place i with
  |none=>none
  |some (off,size)=>match Nat.beq es.length size with
   |false=>none
   |true=>match Nat.ble (off+es.length) ds.length with
    |false=>none
    |true=>fillA place (splice ds off es) r
theorem fillA_ok {R:Value→AV→Prop}{place:Nat→Option (Nat×Nat)}:∀ {ps:List (Nat×Value)}{qs:List (Nat×List AV)}{cs:Array Value}{ds out:List AV},
  ps.length=qs.length→(∀ (j:Nat) (p:Nat×Value) (q:Nat×List AV),ps[j]? = some p→qs[j]? = some q→p.1=q.1∧RdG R p.2.cells.toList q.2) →
  RdG R cs.toList ds→fillA place ds qs=some out→∃ cs',Instr.fill place cs ps=some cs'∧RdG R cs'.toList out
 | [],[],cs,ds,out,_,_,h,hf=>by
  simp only[fillA,Option.some.injEq]at hf
  subst hf
  exact⟨cs,rfl,h⟩
 |p::ps,(i,es)::qs,cs,ds,out,hl,hp,h,hf=>by
  obtain⟨hp1,hp2⟩:=hp 0 p (i,es) rfl rfl
  simp only[fillA]at hf
  split at hf
  ·
   cases hf
  ·
   next off size hpl =>
   split at hf
   ·
    cases hf
   ·
    next hb1 =>
    split at hf
    ·
     cases hf
    ·
     next hb2 =>
     have e1:es.length=size:=by simpa using hb1
     have e2:off+es.length≤ds.length:=by simpa using hb2
     have hsz:p.2.cells.size=es.length:=by have:=hp2.1;simpa using this
     have hcs:cs.size=ds.length:=by have:=h.1;simpa using this
     have hsp:=foldl_set off p.2.cells.toList 0 cs (by simp;omega)
     rw[Nat.add_zero]at hsp
     have hr:=h.splice hp2 e2
     rw[← hsp]at hr
     obtain⟨cs',h3,h4⟩:=fillA_ok (ps:=ps) (qs:=qs) (by simpa using hl) (fun j p q hj hq=>hp (j+1) p q (by simpa using hj) (by simpa using hq)) hr hf
     refine⟨cs',?_,h4⟩
     obtain⟨pi,pv⟩:=p
     simp only at hp1 hsz
     subst hp1
     simp only[Instr.fill,hpl,hsz,e1,ne_eq,not_true_eq_false,decide_false,Bool.false_or]
     rw[if_neg (by simp;omega)]
     rw[← h3]
     have hfo:pv.cells.zipIdx.foldl (fun(cs:Array Value) (x:Value×Nat)=>match x with|(c,j)=>cs.setIfInBounds (off+j) c) cs =
       List.foldl (fun(cs:Array Value) (x:Value×Nat)=>match x with|(c,j)=>cs.setIfInBounds (off+j) c) cs pv.cells.toList.zipIdx:=by
      rw[← Array.foldl_toList,Array.toList_zipIdx]
     rw[← hfo]
inductive PartsV (σ:St):List (Nat×Operand)→List (Nat×List AV)→List (Key×Val)→Prop
 |nil:PartsV σ [] [] []
 |cons {i:Nat} {x:Operand} {r:List (Nat×Operand)} {av:AV} {ds:List AV} {q:List (Nat×List AV)} {l lo:List (Key×Val)} (hx:ev σ x=some av) (hc:cellsOf av=some ds) (hl:nwRd av lo∧App σ lo) (hr:PartsV σ r q l) :
   PartsV σ ((i,x)::r) ((i,ds)::q) (rdOf x av++(lo++l))
inductive PartsW:List (Nat×Operand)→List (Nat×List AV)→List (Key×Val)→Prop
 |nil:PartsW [] [] []
 |cons {i:Nat} {x:Operand} {r:List (Nat×Operand)} {av:AV} {ds:List AV} {q:List (Nat×List AV)} {l lo:List (Key×Val)} (hx:EvS x av) (hc:cellsOf av=some ds) (hl:nwRd av lo) (hr:PartsW r q l) :
   PartsW ((i,x)::r) ((i,ds)::q) (rdOf x av++(lo++l))
theorem PartsV.out {ps:List (Nat×Operand)}{qs:List (Nat×List AV)}{l:List (Key×Val)}(h:PartsV σ ps qs l):PartsW ps qs l∧App σ l:=by
 induction h with
 |nil=>exact⟨.nil,trivial⟩
 |cons hx hc hl hr ih=>exact⟨.cons (ev_out hx).1 hc hl.1 ih.1,(ev_out hx).2.append (hl.2.append ih.2)⟩
theorem PartsW.ok (hs:SimG cx σ a w g nx) {ps:List (Nat×Operand)}{qs:List (Nat×List AV)}{l:List (Key×Val)}(h:PartsW ps qs l) (ha:App σ l) :
  (ps.map fun p=>(p.1,a.eval p.2)).length=qs.length ∧
  (∀ (j:Nat) (p:Nat×Value) (q:Nat×List AV),(ps.map fun p=>(p.1,a.eval p.2))[j]? = some p→qs[j]? = some q→p.1=q.1∧RdG (Rep1 cx g σ w) p.2.cells.toList q.2) ∧
  ∀ q∈qs,∀ av∈q.2,av.bd1 nx:=by
 induction h with
 |nil=>exact⟨rfl,fun j p q h=>by simp at h,by simp⟩
 |cons hx hc hl hr ih =>
  obtain⟨h1,h2,h3⟩:=ih ha.right.right
  obtain⟨hrep,hbd⟩:=hs.ev hx ha.left
  obtain⟨c1,c2,c3,c4⟩:=cells_of hrep hbd hc (one_of hs hrep (newest_of hl ha.right.left))
  refine⟨by simpa using h1,fun j p q hj hq=>?_,fun q hq=>?_⟩
  ·
   cases j with
   |zero =>
    simp at hj hq
    subst hj hq
    refine⟨rfl,by simpa using c1,fun c hc=>?_,fun j c x hx hc=>c3 j c x hx (by simpa using hc)⟩
    obtain⟨j,hj⟩:=List.getElem?_of_mem hc
    exact c2 j c (by simpa using hj)
   |succ j=>exact h2 j p q (by simpa using hj) (by simpa using hq)
  ·
   rcases List.mem_cons.1 hq with rfl|hq
   ·
    exact c4
   ·
    exact h3 q hq
theorem zero_g {zs:List Value}(h1:∀ c∈zs,Value.oneCell' c=true):RdG (Rep1 cx g σ w) zs (zs.map fun c=>AV.d (.v c)) :=
 ⟨by simp,h1,fun j c x hx hc=>by
  rw[List.getElem?_map,hc]at hx
  obtain rfl:AV.d (.v c)=x:=by simpa using hx
  exact Rd.v c⟩
theorem fillA_bd {place:Nat→Option (Nat×Nat)}:∀ {qs:List (Nat×List AV)}{ds out:List AV},(∀ av∈ds,av.bd1 nx)→(∀ q∈qs,∀ av∈q.2,av.bd1 nx)→fillA place ds qs=some out→∀ av∈out,av.bd1 nx
 | [],ds,out,h,_,hf=>by
  simp only[fillA,Option.some.injEq]at hf
  subst hf;exact h
 |(i,es)::qs,ds,out,h,hq,hf=>by
  simp only[fillA]at hf
  split at hf
  ·
   cases hf
  ·
   next off size hpl =>
   split at hf
   ·
    cases hf
   ·
    split at hf
    ·
     cases hf
    ·
     refine fillA_bd (fun av hav=>?_) (fun q hq'=>hq q (List.mem_cons_of_mem _ hq')) hf
     unfold splice at hav
     rcases List.mem_append.1 hav with hav|hav
     ·
      rcases List.mem_append.1 hav with hav|hav
      ·
       exact h av (List.mem_of_mem_take hav)
      ·
       exact hq _ (List.mem_cons_self ..) av hav
     ·
      exact h av (List.mem_of_mem_drop hav)
theorem ok_buildA {t:TypeId}{ps:List (Nat×Operand)}{qs:List (Nat×List AV)}{l:List (Key×Val)}{ti:TI}{place:Nat→Option (Nat×Nat)}{out:List AV}(hn:d < cx.n) (ht:tget cx.T t=some ti)
  (hk:stPlace ti=some place) (h1:∀ c∈ti.zero,Value.oneCell' c=true) (hp:PartsW ps qs l) (hf:fillA place (ti.zero.map fun c=>AV.d (.v c)) qs=some out) :
  OpOk cx ⟨some d,.build t ⟨ps⟩,ty,pos,af,gd⟩ ⟨l,[(.s d,.av (.agg out))]⟩:=by
 refine ok_val rfl hn fun σ a w g nx hs hr=>?_
 have hF:=cx.hT t ti ht
 obtain⟨i,hi,_,_,z,hz,hzc⟩:=hF.info
 unfold stPlace at hk
 split at hk
 ·
  next fs hkd =>
  cases hk
  have hkk:=hF.kind
  rw[hkd]at hkk
  obtain⟨b,hu,hbl,hg⟩:=hkk
  have hpl:b.toList.mapM (fun f=>(cx.P.info? f.type).map fun i=>(f.offset,i.size))=some fs:=by
   have key:∀ (bl:List Field) (fl:List (Nat×Nat)),bl.length=fl.length→(∀ (j:Nat) (p:Nat×Nat),fl[j]? = some p→∃ (f:Field) (i:TypeInfo),bl[j]? = some f∧f.offset=p.1∧cx.P.info? f.type=some i∧i.size=p.2) →
     bl.mapM (fun f=>(cx.P.info? f.type).map fun i=>(f.offset,i.size))=some fl:=by
    intro bl
    induction bl with
    |nil=>intro fl hl _;cases fl with
     |nil=>rfl
     |cons p fl=>simp at hl
    |cons f bl ih=>intro fl hl hh;cases fl with
     |nil=>simp at hl
     |cons p fl =>
      obtain⟨f',i',e1,e2,e3,e4⟩:=hh 0 p rfl
      simp at e1
      subst e1
      have:=ih fl (by simpa using hl) fun j q hq=>by
       obtain⟨f',i',e⟩:=hh (j+1) q (by simpa using hq)
       exact⟨f',i',by simpa using e⟩
      simp[List.mapM_cons,e3,this,e2,e4]
   exact key b.toList fs (by simpa using hbl) fun j p hj=>by
    obtain⟨f,i,e1,e2,e3,e4,_⟩:=hg j p hj
    exact⟨f,i,by simpa using e1,e2,e3,e4⟩
  obtain⟨h2,h3,h8⟩:=hp.ok hs hr
  obtain⟨cs',h4,h5,h6,h7⟩:=fillA_ok (cs:=z.cells) h2 h3 (by rw[hzc];exact zero_g h1) hf
  have hb:cx.P.built t (ps.map fun p=>(p.1,a.eval p.2))=some cs':=by
   simp only[Program.built,hi,hu,hz,hpl]
   rw[← h4]
   congr 1
   funext j
   simp
  have hrun:=run_build (P:=cx.P) w t (ps.map fun p=>(p.1,a.eval p.2)).toArray cs' (by simpa using hb)
  refine⟨.agg cs',w,?_,Below.refl _ _,⟨cs',rfl,by simpa using h5,fun j c hj=>h6 c (List.mem_of_getElem? (by simpa using hj)),fun j c x hx hc=>h7 j c x hx (by simpa using hc)⟩,fillA_bd (fun av hav=>by obtain⟨z,_,rfl⟩:=List.mem_map.1 hav;trivial) h8 hf⟩
  simp only[execOp,List.map_toArray,Sem.run_bind,hrun,Result.andThen_ok,Sem.run_pure]
 ·
  cases hk
theorem a_buildA {t:TypeId}{ps:List (Nat×Operand)}{qs:List (Nat×List AV)}{l:List (Key×Val)}{ti:TI}{place:Nat→Option (Nat×Nat)}{out:List AV}(ht:tget cx.T t=some ti)
  (hk:stPlace ti=some place) (h1:(ti.zero.all Value.oneCell')=true) (hd:Nat.blt d cx.n=true) (hp:PartsV σ ps qs l) (hf:fillA place (ti.zero.map fun c=>AV.d (.v c)) qs=some out) :
  OA cx σ ⟨some d,.build t ⟨ps⟩,ty,pos,af,gd⟩ ⟨l,[(.s d,.av (.agg out))]⟩ :=
 ⟨ok_buildA (lt_of_blt hd) ht hk (fun c hc=>List.all_eq_true.1 h1 c hc) hp.out.1 hf,hp.out.2⟩
end Go.AX
namespace Go.AX
open Go.RowKit
variable {cx:Cx}{g:Nat→Value}{σ:St}{a:Act}{w w':World}{nx:Nat}
variable {ty:TypeId}{pos:String}{af:Array Edge}{gd:Option (Nat×Bool)}{d:Nat}
theorem stut_reserve:Stut cx ⟨[(.nx,.num nx)],[(.o nx,.ob .res),(.nx,.num (nx+1))]⟩:=by
 rintro σ a w ⟨g,n',hs⟩ hr
 have hnx:n'=nx:=by
  have h2:=hr.1
  rw[hs.hnx]at h2
  simpa using h2
 subst hnx
 exact⟨_,_,SimG.obj (o' := .res) (hv:=nilS) hs ⟨.inl ⟨rfl,rfl⟩,Below.refl _ _,fun b _ _=>rfl,fun b hb=>by simp[blk]at hb⟩ (fun _=>upd_same _ _ _) trivial⟩
theorem resBox {cs:Array Value}{cells:List AV}{t:TypeId}{id:Nat}(hs:SimG cx σ a w g nx) (hn:d < cx.n) (ho:get σ (.o id) = .ob .res) (hsz:cs.size=cells.length)
  (h1:∀ (j:Nat) (c:Value),cs[j]? = some c→c.oneCell'=true) (hr:∀ (j:Nat) (c:Value) (av:AV),cells[j]? = some av→cs[j]? = some c→Rep1 cx g σ w c av)
  (hbd:∀ av∈cells,av.bd1 nx) :
  Sim cx ([(.s d,.av (.ptr id 0)),(.o id,.ob (.box cells))]++σ) (a.put (some d) (.pointer (some ⟨w.heap.size,0,none⟩))) (w.alloc (.cells cs t)):=by
 have hid:=(hs.objs id _ ho).1
 have hnil:g id=nilS:=(hs.objs id _ ho).2.1
 have hst:ObjStep cx σ g nx nx w (w.alloc (.cells cs t)) id (.box cells) (.pointer (some ⟨w.heap.size,0,none⟩)):=by
  refine⟨.inr ⟨rfl,_,ho,trivial⟩,(Below.refl _ _).alloc hs.below.size _,fun b hb _=>Below.heap_alloc _ _ _ hb,fun b hb => .inr ?_⟩
  obtain rfl:w.heap.size=b:=by simpa[blk] using hb
  exact Nat.le_refl _
 have hG:=SimG.obj hs hst (fun hl=>?_) hbd
 ·
  refine Sim.eqv (Sim.put hG hn (Below.refl _ _) (av := .ptr id 0) ⟨.of get_cons_same,fun cells' hc=>⟨w.heap.size,upd_same _ _ _,rfl⟩⟩ hid) fun q=>?_
  cases q with
  |s i =>
   by_cases hi:i=d
   ·
    subst hi;rw[get_cons_same];exact get_cons_same.symm
   ·
    rw[get_cons_ne (by simpa using fun e=>hi e.symm),objSt_s]
    exact((get_cons_ne (by simpa using fun e=>hi e.symm)).trans (get_cons_ne (by simp))).symm
  |o i =>
   rw[get_cons_ne (by simp)]
   by_cases hi:i=id
   ·
    subst hi;rw[get_cons_same];exact((get_cons_ne (by simp)).trans get_cons_same).symm
   ·
    rw[objSt_o hi]
    exact((get_cons_ne (by simp)).trans (get_cons_ne (by simpa using fun e=>hi e.symm))).symm
  |nx =>
   rw[get_cons_ne (by simp),objSt_nx]
   exact(((get_cons_ne (by simp)).trans (get_cons_ne (by simp))).trans hs.hnx).symm
 ·
  refine⟨w.heap.size,cs,t,upd_same _ _ _,hs.below.size,?_,hsz,h1,fun j c av hj hc=>(hr j c av hj hc).step hl (hbd av (List.mem_of_getElem? hj))⟩
  exact heap_alloc_new w _
theorem a_allocR {t:TypeId}{ti:TI}(id:Nat) (ho:get σ (.o id) = .ob .res) (ht:tget cx.T t=some ti) (h1:(ti.zero.all Value.oneCell')=true) (hd:Nat.blt d cx.n=true) :
  OA cx σ ⟨some d,.alloc t,ty,pos,af,gd⟩ ⟨[(.o id,.ob .res)],[(.s d,.av (.ptr id 0)),(.o id,.ob (.box (ti.zero.map fun c=>AV.d (.v c))))]⟩:=by
 refine⟨?_,ho,trivial⟩
 rintro σ a w K Q ⟨g,nx,hs⟩ hr hK
 obtain⟨z,hz,hc⟩:=zero_of (cx.hT t ti ht) w
 refine wp_val rfl (v := .pointer (some ⟨w.heap.size,0,none⟩)) (w':=w.alloc (.cells z.cells t)) ?_ (hK _ _ (resBox hs (lt_of_blt hd) hr.1 ?_ (fun j c hj=>?_) (fun j c av hj hcj=>?_) fun av hav=>?_))
 ·
  simp[execOp,Instr.alloc,hz,newVar,newRow]
 ·
  rw[List.length_map,← hc,Array.length_toList]
 ·
  exact List.all_eq_true.1 h1 c (by rw[← hc];exact List.mem_of_getElem? (by simpa using hj))
 ·
  rw[List.getElem?_map,← hc]at hj
  have:z.cells.toList[j]? = some c:=by simpa using hcj
  rw[this]at hj
  obtain rfl:AV.d (.v c)=av:=by simpa using hj
  exact Rd.v c
 ·
  obtain⟨c,_,rfl⟩:=List.mem_map.1 hav
  trivial
end Go.AX
