/-
  Part 5 of what the claim leans on: P22 AxBsO AxByt AxMapI AxGen AxS2b Lg AxStr H1 P23 J1 ShTrim R3 G20 G21 G22 AxLend J2 J3 AxRen J4 Cl G7 L1 L6 J6 P24 ShNum ShNum2 AxErr H6 ShTxt AxGen2 AxLit.
-/
import Derived.Test.YtccblhpfjlgmbaaGreatDoorK4
import Derived.Lib.AppendStr
import Derived.Lib.ConvBytes
import Derived.Laws.BytesString
import Derived.Shelf.Strings.SlTrimAscii
import Derived.Test.YtccblhpfjlgmbaaGreatDoorProg
import Derived.Shelf.Strconv.AtoiAll
import Derived.Shelf.Strconv.Itoa3
import Derived.Shelf.Strconv.ErrVarAll
import Derived.Shelf.Strings.Split
import Derived.Shelf.Small.Wraps
import Derived.Shelf.Strings.OnBuilder
set_option linter.all false

namespace Go.Proofs.YtccblhpfjlgmbaaGreatDoor
open Go.AX Go.RF
theorem come_had {r:Replica}{e:Entry}(h:e.number < r.next∨hasN e.number r.early=true):comeE r e=(r,11):=by
 unfold comeE;rw[if_pos h]
structure CInv (L:List Entry) (Q:Nat→Engine→Prop) (r:Replica):Prop where
 n:∃ k:Nat,r.next=k∧k≤L.length∧Q k r.engine
 e:∀ x∈r.early,r.next≤x.number∧∃ i:Nat,x.number=i∧L[i]? = some x
 d:(r.early.map Entry.number).Nodup
def Adds (L:List Entry) (Q:Nat→Engine→Prop):Prop:=∀ (k:Nat) (e:Engine) (x:Entry),Q k e→L[k]? = some x→Q (k+1) (addE e x.deeds).1
theorem CInv.take {L:List Entry}{Q:Nat→Engine→Prop}(hQ:Adds L Q) {r:Replica}(h:CInv L Q r) {k:Nat}{x:Entry}(hx:r.early[k]? = some x) (hn:x.number=r.next) :
  CInv L Q ⟨(addE r.engine x.deeds).1,r.next+1,r.early.eraseIdx k⟩:=by
 obtain⟨⟨m,hm,hml,hq⟩,he,hd⟩:=h
 obtain⟨h1,i,h2,h3⟩:=he x (List.mem_of_getElem? hx)
 obtain rfl:i=m:=by omega
 have hil:=(List.getElem?_eq_some_iff.1 h3).1
 refine⟨⟨i+1,by dsimp only;omega,hil,hQ i _ x hq h3⟩,fun y hy=>?_,hd.sublist ((List.eraseIdx_sublist _ _).map _)⟩
 obtain⟨g1,g2⟩:=he y (erase_sub hy)
 refine⟨?_,g2⟩
 dsimp only
 refine Classical.byContradiction fun hlt=>?_
 have h4:y.number=r.next:=by omega
 obtain⟨j,hj⟩:=List.mem_iff_getElem?.1 hy
 rw[List.getElem?_eraseIdx]at hj
 have key:∀ (a:Nat),a≠k→r.early[a]? = some y→False:=fun a hak ha=>by
  have ha':(r.early.map Entry.number)[a]? = some r.next:=by rw[List.getElem?_map,ha];simp[h4]
  have hk':(r.early.map Entry.number)[k]? = some r.next:=by rw[List.getElem?_map,hx];simp[hn]
  exact hak ((List.getElem?_inj (List.getElem?_eq_some_iff.1 ha').1 hd).1 (by rw[ha',hk']))
 split at hj
 ·
  exact key j (by omega) hj
 ·
  exact key (j+1) (by omega) hj
theorem CInv.drain {L:List Entry}{Q:Nat→Engine→Prop}(hQ:Adds L Q):∀ {f:Nat}{r:Replica},CInv L Q r→r.early.length≤f →
  CInv L Q (drainR f r)∧(∀ x∈(drainR f r).early,(drainR f r).next < x.number)∧r.next≤(drainR f r).next∧∀ x∈r.early,x.number < (drainR f r).next∨x∈(drainR f r).early
 |0,r,h,hf=>by
  have:r.early=[]:=List.eq_nil_of_length_eq_zero (by omega)
  have hd:drainR 0 r=r:=rfl
  rw[hd]
  exact⟨h,by rw[this];simp,Int.le_refl _,fun x hx => .inr hx⟩
 |f+1,r,h,hf=>by
  rcases firstN_cases (n:=r.next) (l:=r.early) (i:=0) with ⟨h1,h2⟩|⟨k,x,h1,h2,h3⟩
  ·
   rw[drainR_none (by omega)]
   exact⟨h,fun x hx=>by have:=(h.e x hx).1;have:=h2 x hx;omega,Int.le_refl _,fun x hx => .inr hx⟩
  ·
   rw[Nat.zero_add]at h1
   rw[drainR_some h1 h2]
   have hkl:=(List.getElem?_eq_some_iff.1 h2).1
   have hlen:=List.length_eraseIdx_of_lt hkl
   obtain⟨g1,g2,g3,g4⟩:=CInv.drain hQ (f:=f) (h.take hQ h2 h3) (by dsimp only;omega)
   dsimp only at g3 g4
   refine⟨g1,g2,by omega,fun y hy=>?_⟩
   obtain⟨j,hj⟩:=List.mem_iff_getElem?.1 hy
   by_cases hjk:j=k
   ·
    subst hjk
    rw[h2]at hj
    cases hj
    exact .inl (by omega)
   ·
    refine g4 y (List.mem_iff_getElem?.2 ?_)
    rcases Nat.lt_or_ge j k with hlt|hge
    ·
     exact⟨j,by rw[List.getElem?_eraseIdx,if_pos hlt];exact hj⟩
    ·
     exact⟨j - 1,by rw[List.getElem?_eraseIdx,if_neg (by omega),show j - 1+1=j by omega];exact hj⟩
def Has (r:Replica) (x:Entry):Prop:=x.number < r.next∨hasN x.number r.early=true
theorem CInv.come {L:List Entry}{Q:Nat→Engine→Prop}(hQ:Adds L Q) {r:Replica}(h:CInv L Q r) {i:Nat}{x:Entry}(hx:L[i]? = some x) (hn:x.number=i) :
  CInv L Q (comeE r x).1∧r.next≤(comeE r x).1.next∧(∀ y,Has r y→Has (comeE r x).1 y)∧((∀ y∈r.early,r.next < y.number)→∀ y∈(comeE r x).1.early,(comeE r x).1.next < y.number)∧(Has (comeE r x).1 x∨(4≤r.early.length∧(comeE r x).1=r)):=by
 by_cases h1:x.number < r.next∨hasN x.number r.early=true
 ·
  rw[come_had h1]
  exact⟨h,Int.le_refl _,fun y hy=>hy,fun h=>h,.inl h1⟩
 have h2:hasN x.number r.early=false:=by cases hh:hasN x.number r.early with
  |false=>rfl
  |true=>exact absurd (.inr hh) h1
 have h3:¬ x.number < r.next:=fun hh=>h1 (.inl hh)
 by_cases h4:r.next < x.number
 ·
  by_cases h5:4≤r.early.length
  ·
   have:comeE r x=(r,5):=by unfold comeE;rw[if_neg h1,if_pos h4,if_pos h5]
   rw[this]
   exact⟨h,Int.le_refl _,fun y hy=>hy,fun h=>h,.inr ⟨h5,rfl⟩⟩
  ·
   have:comeE r x=(⟨r.engine,r.next,r.early++[x]⟩,12):=by unfold comeE;rw[if_neg h1,if_pos h4,if_neg h5]
   rw[this]
   refine⟨⟨h.n,fun y hy=>?_,snoc_nodup h.d h2⟩,Int.le_refl _,fun y hy=>?_,fun hg y hy=>?_,.inl (.inr (hasN_true.2 ⟨x,by simp,rfl⟩))⟩
   ·
    rcases List.mem_append.1 hy with hy|hy
    ·
     exact h.e y hy
    ·
     rw[List.mem_singleton.1 hy];exact⟨by dsimp only;omega,i,hn,hx⟩
   ·
    rcases hy with hy|hy
    ·
     exact .inl hy
    ·
     obtain⟨z,hz,he⟩:=hasN_true.1 hy
     exact .inr (hasN_true.2 ⟨z,List.mem_append.2 (.inl hz),he⟩)
   ·
    dsimp only at hy ⊢
    rcases List.mem_append.1 hy with hy|hy
    ·
     exact hg y hy
    ·
     rw[List.mem_singleton.1 hy];exact h4
 ·
  have hnx:x.number=r.next:=by omega
  have:comeE r x=(drainR r.early.length ⟨(addE r.engine x.deeds).1,r.next+1,r.early⟩,0):=by unfold comeE;rw[if_neg h1,if_neg h4]
  rw[this,← drainR_snoc hnx h2]
  have hC:CInv L Q ⟨r.engine,r.next,r.early++[x]⟩:=by
   refine⟨h.n,fun y hy=>?_,snoc_nodup h.d h2⟩
   rcases List.mem_append.1 hy with hy|hy
   ·
    exact h.e y hy
   ·
    rw[List.mem_singleton.1 hy];exact⟨by dsimp only;omega,i,hn,hx⟩
  obtain⟨g1,g2,g3,g4⟩:=hC.drain hQ (f:=r.early.length+1) (by simp)
  dsimp only at g3 g4 ⊢
  have hh:∀ y,y∈r.early++[x]→Has (drainR (r.early.length+1) ⟨r.engine,r.next,r.early++[x]⟩) y:=fun y hy=>by
   rcases g4 y hy with h|h
   ·
    exact .inl h
   ·
    exact .inr (hasN_true.2 ⟨y,h,rfl⟩)
  refine⟨g1,g3,fun y hy=>?_,fun _=>g2,.inl (hh x (by simp))⟩
  rcases hy with hy|hy
  ·
   exact .inl (by omega)
  ·
   obtain⟨z,hz,he⟩:=hasN_true.1 hy
   have:=hh z (List.mem_append.2 (.inl hz))
   unfold Has at this ⊢
   rw[← he];exact this
def dOf (L:List Entry) (n:Nat):List Deed:=(L.take n).flatMap Entry.deeds
theorem dOf_succ {L:List Entry}{n:Nat}{x:Entry}(h:L[n]? = some x):dOf L (n+1)=dOf L n++x.deeds:=by
 unfold dOf
 rw[List.take_add_one,h]
 simp
def comes:Replica→List Entry→Replica
 |r,[]=>r
 |r,x::l=>comes (comeE r x).1 l
def Behind (a b:Engine):Prop:=∃ (q:List Pair) (m:Nat),BInv a q∧BInv b (sq q a.deeds m)∧m≤a.deeds.length∧b.deeds=a.deeds.drop m
theorem Behind.add {a b:Engine}(h:Behind a b) {l:List Deed}(hl:wrongs l=0):Behind (addE a l).1 (addE b l).1:=by
 obtain⟨q,m,h1,h2,h3,h4⟩:=h
 rw[addE_right hl,addE_right hl]
 dsimp only
 have hw:=wrongs_mem hl
 have ha:=(addAll_deeds (l:=l) (e:=a)).1
 have hb:=(addAll_deeds (l:=l) (e:=b)).1
 refine⟨q,m,h1.addAll hw,?_,by rw[ha];simp;omega,by rw[ha,hb,h4,List.drop_append_of_le_length h3]⟩
 rw[ha,sq_append h3]
 exact h2.addAll hw
theorem Behind.ok {a b:Engine}(h:Behind a b):(∃ q,BInv a q)∧∃ q,BInv b q:=by
 obtain⟨q,m,h1,h2,_,_⟩:=h
 exact⟨⟨_,h1⟩,⟨_,h2⟩⟩
theorem mark_made {e:Engine}{q:List Pair}(h:BInv e q) (k:Str):(before e.chains k (e.base+markN e.state)).made=true:=by
 cases hm:(before e.chains k (e.base+markN e.state)).made with
 |true=>rfl
 |false =>
  rcases before_mem e.chains k (e.base+markN e.state) with h1|⟨c,h1,h2,h3,h4⟩
  ·
   rw[h1]at hm;cases hm
  ·
   obtain⟨j,x,h5,h6,_⟩:=h.W.n c h1 _ h3 hm
   have:=markN_one (s:=e.state) (j:=j) (by omega)
   rw[h6]at this;cases this
theorem seen_mark {e:Engine}{q:List Pair}(h:BInv e q):seenE e (markN e.state)=(sq q e.deeds (markN e.state),0):=by
 have hm:=markN_le e.state
 have hl:=h.W.l
 have:=h.rows (i:=markN e.state) (by omega) (mark_made h)
 unfold seenE
 rw[if_neg (by omega),this]
 rfl
end Go.Proofs.YtccblhpfjlgmbaaGreatDoor
namespace Go.AX
open Go.RowKit
variable {cx:Cx}{g:Nat→Value}{σ σ':St}{a:Act}{w w':World}{nx:Nat}
variable {ty:TypeId}{pos:String}{af:Array Edge}{gd:Option (Nat×Bool)}{d:Nat}
theorem flatten_len {k:Nat}:∀ {rs:List (List D)},(∀ r∈rs,r.length=k)→rs.flatten.length=rs.length*k
 | [],_=>by simp
 |r::rs,h=>by
  rw[List.flatten_cons,List.length_append,h r (List.mem_cons_self ..),flatten_len fun x hx=>h x (List.mem_cons_of_mem _ hx),List.length_cons,Nat.add_mul,Nat.one_mul,Nat.add_comm]
theorem ok_bsO {t e:TypeId}{n k n0:Nat}{ps:List (Nat×Operand)}{rs:List (List D)}{l:List (Key×Val)}{ti te:TI}(hn:d < cx.n) (ht:tget cx.T t=some ti) (hk:ti.kind = .sl e k)
  (hte:tget cx.T e=some te) (h1:∀ c∈te.zero,Value.oneCell' c=true) (hp:Parts ps (numb 0 rs) l) (hrs:∀ r∈rs,r.length=k) (hnl:n=rs.length) (hsm:n*k≤65536) (hpos:n*k≠0) :
  OpOk cx ⟨some d,.buildSlice t n ⟨ps⟩,ty,pos,af,gd⟩ ⟨(.nx,.num n0)::l,[(.s d,.av (.own n0 n)),(.o n0,.ob (.arr e k rs)),(.nx,.num (n0+1))]⟩:=by
 rintro σ a w K Q ⟨g,nx,hs⟩ hr hK
 obtain⟨hnn,hr⟩:=hr
 have hnx:nx=n0:=by
  have h2:=hs.hnx
  rw[hnn]at h2
  simpa using h2.symm
 subst hnx
 have hF:=(cx.hT t ti ht).kind
 rw[hk]at hF
 obtain⟨hu,⟨ie,hie,hks⟩,hk0,_⟩:=hF
 obtain⟨ie',hie',hes,_,z,hz,hzc⟩:=(cx.hT e te hte).info
 rw[hie]at hie'
 cases hie'
 obtain⟨h2,h3⟩:=hp.ok hs hr
 have hzl:z.cells.size=k:=by
  have:=(cx.hT e te hte).len
  rw[← hzc]at this
  simp at this
  omega
 have hinit:RdL w (cx.own g σ) ((Array.range (n*ie.size)).map (z.cells[· % z.cells.size]!)).toList (((Array.range (n*ie.size)).map (z.cells[· % z.cells.size]!)).toList.map D.v):=by
  refine zero_rd fun c hc=>?_
  simp only[Array.toList_map,List.mem_map]at hc
  obtain⟨q,_,rfl⟩:=hc
  refine h1 _ ?_
  rw[← hzc]
  have hlt:q%z.cells.size < z.cells.size:=Nat.mod_lt _ (by rw[hzl];exact Nat.pos_of_ne_zero fun e=>hpos (by rw[e,Nat.mul_zero]))
  rw[getElem!_pos z.cells _ hlt]
  simp
 have hfr:=fill_rows (k:=k) (n:=n) (rs:=rs) (i:=0) (ds:=((Array.range (n*ie.size)).map (z.cells[· % z.cells.size]!)).toList.map D.v) hrs (by simp[hks]) (by omega)
 rw[Nat.zero_mul,List.take_zero,List.nil_append,List.drop_eq_nil_of_le (by simp[hks,hnl]),List.append_nil]at hfr
 obtain⟨cs',h4,h5⟩:=fill_ok (cs:=(Array.range (n*ie.size)).map (z.cells[· % z.cells.size]!)) h2 h3 hinit hfr
 have hrun:=run_buildSlice (P:=cx.P) w t e n (ps.map fun p=>(p.1,a.eval p.2)).toArray cs' ie z hu hie hz (by rw[hks];omega) (by rw[hks];exact hpos) (by rw[← h4,hks])
 have hflen:rs.flatten.length=n*k:=by rw[hnl];exact flatten_len hrs
 have hcl:cs'.size=n*k:=by have:=h5.1;simp only[Array.length_toList]at this;omega
 have hb:Below w.heap.size w (w.alloc (.cells cs' e)):=(Below.refl _ _).alloc (Nat.le_refl _) _
 have hst:ObjStep cx σ g nx (nx+1) w (w.alloc (.cells cs' e)) nx (.arr e k rs) (.slice (some ⟨w.heap.size,0,none⟩) n n) :=
  ⟨.inl ⟨rfl,rfl⟩,hb.mono hs.below.size,fun c hc _=>hb.block c hc,fun c hc => .inr (by cases hc;exact Nat.le_refl _)⟩
 have hn65:n≤65536:=by
  rcases Nat.eq_zero_or_pos k with h|h
  ·
   exact absurd (by rw[h,Nat.mul_zero]) hpos
  ·
   exact Nat.le_trans (Nat.le_mul_of_pos_right n h) hsm
 have hG:=SimG.obj hs hst (fun hl=>⟨cs'.toList,by
   rw[upd_same,← hnl]
   refine⟨by simpa using hcl,.inr ⟨w.heap.size,n,cs',rfl,hs.below.size,heap_alloc_new w _,Nat.le_refl _,by unfold maxLen;omega,hcl,?_⟩⟩
   rw[List.take_of_length_le (by simp[hcl])],h5.2.1,hrs,fun i j r x v hi hj hv=>by
   have hf:=flat_get hrs hi hj
   exact(h5.2.2 _ v x hf hv).step hl.ext hl.own⟩) trivial
 have hex:(execOp a.eval ⟨some d,.buildSlice t n ⟨ps⟩,ty,pos,af,gd⟩).run cx.P w = .ok (.value (.slice (some ⟨w.heap.size,0,none⟩) n n)) (w.alloc (.cells cs' e)):=by
  simp only[execOp,List.map_toArray,Sem.run_bind,hrun,Result.andThen_ok,Sem.run_pure]
 refine wp_val rfl hex (hK _ _ ?_)
 refine Sim.eqv (Sim.put hG hn (Below.refl _ _) (av := .own nx n) ⟨.of get_cons_same,fun e' k' rows' hg=>?_⟩ (Nat.lt_succ_self nx)) fun q=>?_
 ·
  rw[get_cons_same]at hg
  simp only[Val.ob.injEq,Ob.arr.injEq]at hg
  obtain⟨_,_,rfl⟩:=hg
  exact⟨by omega,fun _=>(upd_same _ _ _).symm⟩
 cases q with
 |s i =>
  by_cases hi:i=d
  ·
   subst hi;rw[get_cons_same];exact get_cons_same.symm
  ·
   rw[get_cons_ne (by simpa using fun e=>hi e.symm),objSt_s]
   exact((get_cons_ne (by simpa using fun e=>hi e.symm)).trans ((get_cons_ne (by simp)).trans (get_cons_ne (by simp)))).symm
 |o i =>
  rw[get_cons_ne (by simp)]
  by_cases hi:i=nx
  ·
   subst hi;rw[get_cons_same];exact((get_cons_ne (by simp)).trans get_cons_same).symm
  ·
   rw[objSt_o hi]
   exact((get_cons_ne (by simp)).trans ((get_cons_ne (by simpa using fun e=>hi e.symm)).trans (get_cons_ne (by simp)))).symm
 |nx =>
  rw[get_cons_ne (by simp),objSt_nx]
  exact((get_cons_ne (by simp)).trans ((get_cons_ne (by simp)).trans get_cons_same)).symm
theorem a_bsO {t e n k n0:Nat}{ps:List (Nat×Operand)}(rs:List (List D)) {l:List (Key×Val)}{ti te:TI}(hn0:get σ .nx = .num n0) (ht:tget cx.T t=some ti) (hk:ti.kind = .sl e k)
  (hte:tget cx.T e=some te) (h1:(te.zero.all Value.oneCell')=true) (hrs:(rs.all fun r=>Nat.beq r.length k)=true) (hnl:n=rs.length) (hsm:Nat.ble (n*k) 65536=true) (hpos:Nat.blt 0 (n*k)=true)
  (hd:Nat.blt d cx.n=true) (hp:PartsE σ ps (numb 0 rs) l):OA cx σ ⟨some d,.buildSlice t n ⟨ps⟩,ty,pos,af,gd⟩ ⟨(.nx,.num n0)::l,[(.s d,.av (.own n0 n)),(.o n0,.ob (.arr e k rs)),(.nx,.num (n0+1))]⟩ :=
 ⟨ok_bsO (lt_of_blt hd) ht hk hte (fun c hc=>List.all_eq_true.1 h1 c hc) hp.out.1 (fun r hr=>by simpa using List.all_eq_true.1 hrs r hr) hnl (by simpa using hsm) (Nat.ne_of_gt (lt_of_blt hpos)),hn0,hp.out.2⟩
end Go.AX
namespace Go.AX
open Go.RowKit Go.Lib
variable {cx:Cx}{g:Nat→Value}{σ σ':St}{a:Act}{w w':World}{nx:Nat}
variable {ty:TypeId}{pos:String}{af:Array Edge}{gd:Option (Nat×Bool)}{d:Nat}
def byteD (c:UInt8):List D:=[.v (.int .u8 c.toNat)]
theorem a_appstr {t t2 e id n:Nat}{x y:Operand}{rows:List (List D)}{s:List UInt8}{ti te si:TI}(hx:ev σ x=some (.own id n)) (ho:get σ (.o id) = .ob (.arr e 1 rows)) (hy:ev σ y=some (.d (.v (str s)))) (ht:tget cx.T t=some ti) (hk:ti.kind = .sl e 1)
  (hte:tget cx.T e=some te) (hzz:∀ w,(zeroValue e).run cx.P w = .ok (.int .u8 0) w) (hb1:te.bytes=1) (hn1:te.n=1) (ht2:tget cx.T t2=some si) (hk2:si.kind = .str) (hd:Nat.blt d cx.n=true) (hnn:n=rows.length) (hlen:rows.length+s.length≤1073741824) :
  OA cx σ ⟨some d,.call { callee := .builtin .append,args := #[x,y],argTypes := #[t,t2] },ty,pos,af,gd⟩
   ⟨rdOf x (.own id n)++(rdOf y (.d (.v (str s)))++[(.o id,.ob (.arr e 1 rows))]),[(.s d,.av (.own id (n+s.length))),(.o id,.ob (.arr e 1 (rows++s.map byteD)))]⟩:=by
 refine⟨?_,(ev_out hx).2.append ((ev_out hy).2.append ⟨ho,trivial⟩)⟩
 rintro σ1 a w K Q ⟨g,nx,hs⟩ hr hK
 subst hnn
 have ho1:get σ1 (.o id) = .ob (.arr e 1 rows):=hr.right.right.1
 have hv:a.eval x=g id:=((hs.ev (ev_out hx).1 hr.left).1.2 e 1 rows ho1).2 rfl
 have hyv:a.eval y=str s:=rd_v (hs.ev (ev_out hy).1 hr.right.left).1
 obtain⟨hid,⟨xs,h1,h2,h3,h4⟩,_⟩:=hs.objs id _ ho1
 have hF:=(cx.hT t ti ht).kind
 rw[hk]at hF
 obtain⟨hu,⟨ie,hie,hks⟩,hk0,_⟩:=hF
 have hF2:=(cx.hT t2 si ht2).kind
 rw[hk2]at hF2
 obtain⟨hu2,_⟩:=hF2
 obtain⟨ie',hie',hes,heb,z,hz,hzc⟩:=(cx.hT e te hte).info
 rw[hie]at hie'
 cases hie'
 have hzv:z = .int .u8 0:=by
  have:=hzz w
  simp[zeroValue,typeInfo,hie,hz]at this
  exact this
 subst hzv
 have hsz:(⟨s.toArray⟩:ByteArray).size=s.length:=by show s.toArray.size=_;simp
 obtain⟨v',w',hrun,hown,hgr,_⟩:=run_append_own_string (P:=cx.P) w cx.w0.heap.size t t2 ty e ie hu hu2 hie hz hks (by rw[heb,hb1]) (g id) rows.length xs h1 ⟨s.toArray⟩ (by simp only[maxLen];omega) (by omega) hs.below.size
 rw[hsz]at hown
 have hst0:strCells ⟨s.toArray⟩=s.map fun b=>Value.int .u8 b.toNat:=by simp[strCells]
 -- where it lies now
 have hat:(v'.ownBlock=(g id).ownBlock∨v'.ownBlock=some w.heap.size)∧(s.length=0→v'=g id):=by
  rcases h1.2 with ⟨e1,e2⟩|⟨gb,cap,cur,e1,hbg,hg,hnc,hcm,hcs,htake⟩
  ·
   by_cases h0:s.length=0
   ·
    have hs0:s=[]:=List.eq_nil_of_length_eq_zero h0
    subst hs0
    have hr2:(Builtin.append_ #[t,t2] ty #[g id,.string ⟨#[]⟩]).run cx.P w = .ok (.slice none 0 0) w:=by
     rw[e1]
     have hf:=run_firstCells_string (P:=cx.P) w 1 ⟨#[]⟩
     have hz2:(⟨#[]⟩:ByteArray).size=0:=rfl
     rw[hz2]at hf
     simp[Builtin.append_,run_underlying hu,run_underlying hu2,sizeOf,typeInfo,hie,hks,Builtin.lenOf,hz2,hf]
    have hr3:(Builtin.append_ #[t,t2] ty #[g id,.string ⟨#[]⟩]).run cx.P w = .ok v' w':=hrun
    rw[hr2]at hr3
    cases hr3
    exact⟨.inl (by rw[e1]),fun _=>e1.symm⟩
   ·
    have hr2:=run_append_nil_string (P:=cx.P) w t t2 ty e ie (.int .u8 0) hu hu2 hie hz ⟨s.toArray⟩ (by omega) (by omega) (by rw[heb,hb1];omega)
    rw[e1]at hrun
    rw[hr2]at hrun
    cases hrun
    exact⟨.inr rfl,fun h=>absurd h h0⟩
  ·
   have hcs':cur.size=cap:=by simpa using hcs
   by_cases hroom:rows.length+s.length≤cap
   ·
    have hr2:=run_append_room_string (P:=cx.P) w t t2 ty e ie hu hu2 hie hks gb rows.length cap cur hg ⟨s.toArray⟩ (by rw[hsz];exact hroom) (by rw[hsz,hcs'];exact hroom)
    rw[e1]at hrun
    rw[hr2]at hrun
    cases hrun
    exact⟨.inl (by rw[e1];rfl),fun h=>by rw[e1,hsz,h];rfl⟩
   ·
    have holds:∀ j u,xs[j]? = some u→w.cell? ((⟨gb,0,none⟩:Addr).add j)=some u:=h1.cells (g:=gb) (by rw[e1];rfl)
    have hr2:=run_append_grow_string (P:=cx.P) w t t2 ty e ie (.int .u8 0) hu hu2 hie hz ⟨gb,0,none⟩ rows.length cap xs (by rw[hks];exact h1.1) holds ⟨s.toArray⟩ (by rw[hsz];omega) (by omega) (by rw[heb,hb1];exact growslice_fits (by omega) (by omega))
    rw[e1]at hrun
    rw[hr2]at hrun
    cases hrun
    exact⟨.inr rfl,fun h=>by omega⟩
 have hgb:∀ b,blk (g id)=some b↔(g id).ownBlock=some b:=fun b=>by rw[blk_own h1]
 have hst:ObjStep cx σ1 g nx nx w w' id (.arr e 1 (rows++s.map byteD)) v':=by
  refine⟨.inr ⟨rfl,_,ho1,rfl,rfl,by simp,fun h=>?_⟩,?_,fun b hb hno=>?_,fun b hb=>?_⟩
  ·
   rw[List.length_append,List.length_map]at h
   rw[upd_same]
   exact hat.2 (by omega)
  ·
   exact(Below.refl _ _).grown hgr hs.below.size fun q hq=>obj_ge hs ho1 (by rw[hgb];exact hq)
  ·
   exact hgr.block b hb fun e=>hno _ ho1 (by rw[hgb];exact e.symm)
  ·
   have hb':v'.ownBlock=some b:=by rw[← blk_own hown];exact hb
   rcases hat.1 with h|h
   ·
    exact .inl ⟨_,ho1,by rw[hgb,← h];exact hb'⟩
   ·
    rw[h]at hb'
    right
    simp at hb'
    omega
 have hG:=SimG.obj hs hst (fun hl=>⟨xs++strCells ⟨s.toArray⟩,by rw[upd_same,List.length_append,List.length_map];exact hown,fun u hu=>?_,fun r hr'=>?_,fun i j r q u hi hj hu=>?_⟩) trivial
 ·
  refine wp_val rfl (v:=v') (w':=w') ?_ (hK _ _ (Sim.eqv (Sim.put hG (lt_of_blt hd) (Below.refl _ _) (av := .own id (rows.length+s.length)) ⟨.of get_cons_same,fun e' k' rows' hg=>?_⟩ hid) fun q=>?_))
  ·
   have:(Builtin.append_ #[t,t2] ty #[a.eval x,a.eval y]).run cx.P w = .ok v' w':=by rw[hv,hyv];exact hrun
   simp[execOp,resolve,invoke,builtin,this]
  ·
   rw[get_cons_same]at hg
   cases hg
   exact⟨by simp,fun _=>(upd_same _ _ _).symm⟩
  ·
   cases q with
   |s i =>
    by_cases hi:i=d
    ·
     subst hi;rw[get_cons_same];exact get_cons_same.symm
    ·
     rw[get_cons_ne (by simpa using fun e=>hi e.symm),objSt_s]
     exact((get_cons_ne (by simpa using fun e=>hi e.symm)).trans (get_cons_ne (by simp))).symm
   |o i =>
    rw[get_cons_ne (by simp)]
    by_cases hi:i=id
    ·
     subst hi
     rw[get_cons_same]
     exact((get_cons_ne (by simp)).trans get_cons_same).symm
    ·
     rw[objSt_o hi]
     exact((get_cons_ne (by simp)).trans (get_cons_ne (by simpa using fun e=>hi e.symm))).symm
   |nx =>
    rw[get_cons_ne (by simp),objSt_nx]
    exact(((get_cons_ne (by simp)).trans (get_cons_ne (by simp))).trans hs.hnx).symm
 ·
  rcases List.mem_append.1 hu with hu|hu
  ·
   exact h2 u hu
  ·
   exact strCells_oneCell _ u hu
 ·
  rcases List.mem_append.1 hr' with hr'|hr'
  ·
   exact h3 r hr'
  ·
   obtain⟨c,_,rfl⟩:=List.mem_map.1 hr'
   rfl
 ·
  have hxl:xs.length=rows.length:=by have:=h1.1;omega
  rcases Nat.lt_or_ge i rows.length with hil|hil
  ·
   rw[List.getElem?_append_left hil]at hi
   have hjk:j < 1:=by
    have:=(List.getElem?_eq_some_iff.1 hj).1
    rw[h3 r (List.mem_of_getElem? hi)]at this
    exact this
   rw[List.getElem?_append_left (by omega)]at hu
   exact(h4 i j r q u hi hj hu).step hl.ext hl.own
  ·
   rw[List.getElem?_append_right hil,List.getElem?_map,Option.map_eq_some_iff]at hi
   obtain⟨c,hc,rfl⟩:=hi
   have hj0:j=0:=by
    have:=(List.getElem?_eq_some_iff.1 hj).1
    simp[byteD]at this
    exact this
   subst hj0
   simp[byteD]at hj
   subst hj
   rw[List.getElem?_append_right (by omega),hst0,List.getElem?_map,show i*1+0 - xs.length=i - rows.length by omega,hc]at hu
   obtain rfl:Value.int .u8 c.toNat=u:=by simpa using hu
   exact Rd.v _
theorem foldl_push:∀ (s:List UInt8) (b:ByteArray),(s.map fun c=>(c.toNat:Int)).foldl (fun r n=>r.push (UInt8.ofNat n.toNat)) b=⟨(b.data.toList++s).toArray⟩
 | [],b=>by simp
 |c::s,b=>by
  rw[List.map_cons,List.foldl_cons,foldl_push s]
  congr 1
  have:UInt8.ofNat (c.toNat:Int).toNat=c:=by
   apply UInt8.toNat_inj.1
   rw[Int.toNat_natCast,UInt8.toNat_ofNat']
   have:=c.toNat_lt
   omega
  rw[this]
  simp[ByteArray.push]
theorem a_b2s {t t2 e:Nat}{x:Operand}{s:List UInt8}{ti te si:TI}(hx:ev σ x=some (.d (.sl 1 (s.map byteD)))) (ht:tget cx.T t=some ti) (hk:ti.kind = .sl e 1) (hte:tget cx.T e=some te) (hke:te.kind = .int .u8) (ht2:tget cx.T t2=some si) (hk2:si.kind = .str) (hd:Nat.blt d cx.n=true) :
  OA cx σ ⟨some d,.convert t t2 x,ty,pos,af,gd⟩ ⟨rdOf x (.d (.sl 1 (s.map byteD))),[(.s d,.av (.d (.v (str s))))]⟩:=by
 refine⟨ok_val rfl (lt_of_blt hd) fun σ1 a w g nx hs hr=>⟨str s,w,?_,Below.refl _ _,Rd.v _,trivial⟩,(ev_out hx).2⟩
 have hr1:Rd w (cx.own g σ1) (a.eval x) (.sl 1 (s.map byteD)):=(hs.ev (ev_out hx).1 hr).1
 have hF:=(cx.hT t ti ht).kind
 rw[hk]at hF
 obtain⟨hu,_⟩:=hF
 have hF2:=(cx.hT t2 si ht2).kind
 rw[hk2]at hF2
 obtain⟨hu2,_⟩:=hF2
 have hF3:=(cx.hT e te hte).kind
 rw[hke]at hF3
 obtain⟨hu3,_⟩:=hF3
 have key:∃ ad l c,a.eval x = .slice ad l c∧(Conv.bytesToString (.slice ad l c)).run cx.P w = .ok (str s) w:=by
  by_cases h0:s=[]
  ·
   subst h0
   generalize a.eval x=v at hr1
   generalize hD:D.sl 1 (List.map byteD [])=D0 at hr1
   cases hr1 with
   |v=>cases hD
   |x=>cases hD
   |agg=>cases hD
   |nil p c =>
    refine⟨p,0,c,rfl,?_⟩
    cases p with
    |none=>simp[Conv.bytesToString];rfl
    |some ad=>exact run_bytesToString w ad 0 c [] (run_loadCells_list w ad [] (fun j v h=>by simp at h))
   |sl ad cap k rows hb hs2 =>
    cases hD
    refine⟨some ad,_,cap,rfl,?_⟩
    exact run_bytesToString w ad 0 cap [] (run_loadCells_list w ad [] (fun j v h=>by simp at h))
  ·
   obtain⟨ad,c,news,h1,h2,h3,h4,h5⟩:=sl_cells hr1 (by simpa using h0)
   refine⟨some ad,_,c,h1,?_⟩
   have hnews:news=(s.map fun c=>(c.toNat:Int)).map (Value.int .u8):=by
    refine List.ext_getElem? fun j=>?_
    rw[List.map_map,List.getElem?_map]
    cases hj:s[j]? with
    |none =>
     have:=List.getElem?_eq_none_iff.1 hj
     rw[List.getElem?_eq_none (by rw[h2,List.length_map];omega)];rfl
    |some b =>
     have hlt:=(List.getElem?_eq_some_iff.1 hj).1
     obtain⟨u,hu⟩:∃ u,news[j]? = some u:=⟨news[j]'(by rw[h2,List.length_map];omega),List.getElem?_eq_getElem _⟩
     have:=h5 j 0 (byteD b) (.v (.int .u8 b.toNat)) u (by rw[List.getElem?_map,hj];rfl) rfl (by rw[show j*1+0=j by omega];exact hu)
     rw[hu,rd_v this];rfl
   have hl:(loadCells ad (s.map byteD).length).run cx.P w = .ok ((s.map fun c=>(c.toNat:Int)).map (Value.int .u8)).toArray w:=by
    have:=run_loadCells_list (P:=cx.P) w ad news h3
    rw[hnews]at this
    simpa using this
   have:=run_bytesToString w ad (s.map byteD).length c _ hl
   rw[foldl_push]at this
   exact this
 obtain⟨ad,l,c,h1,h2⟩:=key
 have hc:=run_convert_bytes_string (P:=cx.P) w t t2 e ad l c hu hu3 hu2
 simp[execOp,h1,hc,h2]
theorem wrap_u8_in {n:Int}(h:0≤n∧n≤255):IntKind.u8.wrap n=n:=by
 rw[IntKind.wrap_u8];omega
theorem bin_shr8 {P:Program}{t:TypeId}{k:IntKind}{n:Int}:BinR P .shr t (.int .i64 n) (.int k 8) (.int .i64 (n / 256)):=by
 intro w x y
 rw[eqGuard_shr,binOp_shr,shift_shr .i64 k n 8 (by omega) (by decide)]
 rfl
theorem bin_shl8 {P:Program}{t:TypeId}{k:IntKind}{n:Nat}(h:n < 256):BinR P .shl t (.int .i64 n) (.int k 8) (.int .i64 ((n:Int)*256)):=by
 intro w x y
 have:IntKind.i64.wrap ((n:Int)*2 ^ min (8:Int).toNat IntKind.i64.bits)=(n:Int)*256:=by
  rw[show(2:Int) ^ min (8:Int).toNat IntKind.i64.bits=256 by decide]
  exact wrap_in (by omega)
 rw[eqGuard_shl,binOp_shl,shift_shl_any .i64 k n 8 (by omega),this]
 rfl
theorem bin_or8 {P:Program}{t:TypeId}{n m:Nat}(h:n < 256) (hm:m < 256):BinR P .or t (.int .i64 ((n:Int)*256)) (.int .i64 (m:Int)) (.int .i64 ((n:Int)*256+m)):=by
 intro w x y
 have h1:(BitVec.ofInt IntKind.i64.bits ((n:Int)*256)).toNat=n*256:=by
  rw[BitVec.toNat_ofInt,show IntKind.i64.bits=64 from rfl];omega
 have h2:(BitVec.ofInt IntKind.i64.bits (m:Int)).toNat=m:=by
  rw[BitVec.toNat_ofInt,show IntKind.i64.bits=64 from rfl];omega
 have h3:n*256 ||| m=n*256+m:=by
  have:=Nat.shiftLeft_add_eq_or_of_lt (i:=8) (b:=m) (by omega) n
  rw[Nat.shiftLeft_eq]at this
  exact this.symm
 have h4:(BitVec.ofInt IntKind.i64.bits ((n:Int)*256) ||| BitVec.ofInt IntKind.i64.bits (m:Int)).toNat=n*256+m:=by rw[BitVec.toNat_or,h1,h2,h3]
 have h5:IntKind.i64.wrap ((n*256+m:Nat):Int)=(n:Int)*256+m:=by rw[wrap_in (by omega)];omega
 rw[eqGuard_or,binOp_or]
 unfold Op.intBits
 simp only[h4,h5]
 rfl
end Go.AX
namespace Go.AX
open Go.RowKit
variable {cx:Cx}{g:Nat→Value}{σ σ':St}{a:Act}{w w':World}{nx:Nat}
variable {ty:TypeId}{pos:String}{af:Array Edge}{gd:Option (Nat×Bool)}{d:Nat}
def mgetI (M:List (Int×Value)) (k:Int):Option Value:=match M with
 | []=>none
 |(s,v)::r=>if s=k then some v else mgetI r k
def msetI (M:List (Int×Value)) (k:Int) (v:Value):List (Int×Value):=match M with
 | []=>[(k,v)]
 |(s,u)::r=>if s=k then (s,v)::r else (s,u)::msetI r k v
def mfindI (k:Int):List (Int×Value)→Nat→Option (Nat×Value)
 | [],_=>none
 |(s,v)::r,i=>if s=k then some (i,v) else mfindI k r (i+1)
theorem mfindI_get (k:Int):∀ (M:List (Int×Value)) (i:Nat),(mfindI k M i).map (·.2)=mgetI M k
 | [],_=>rfl
 |(s,v)::M,i=>by
  simp only[mfindI,mgetI]
  split
  ·
   rfl
  ·
   exact mfindI_get k M (i+1)
def mlookI (zv:Value) (M:List (Int×Value)) (k:Int):Value:=(mgetI M k).getD zv
theorem mfindI_some {k:Int}{us v:Value}:∀ {M:List (Int×Value)}{j i:Nat},mfindI k M j=some (i,v)→∃ n,i=j+n∧M[n]? = some (k,v)∧msetI M k us=M.set n (k,us)
 | [],j,i,h=>by cases h
 |(s,u)::M,j,i,h=>by
  simp only[mfindI]at h
  by_cases hs:s=k
  ·
   rw[if_pos hs]at h
   cases h
   exact⟨0,rfl,by simp[hs],by simp[msetI,hs]⟩
  ·
   rw[if_neg hs]at h
   obtain⟨n,h1,h2,h3⟩:=mfindI_some (us:=us) h
   exact⟨n+1,by omega,by simpa using h2,by simp[msetI,hs,h3]⟩
theorem mfindI_none {k:Int}{us:Value}:∀ {M:List (Int×Value)}{j:Nat},mfindI k M j=none→msetI M k us=M++[(k,us)]
 | [],j,_=>rfl
 |(s,u)::M,j,h=>by
  simp only[mfindI]at h
  by_cases hs:s=k
  ·
   rw[if_pos hs]at h;cases h
  ·
   rw[if_neg hs]at h
   simp[msetI,hs,mfindI_none h]
end Go.AX
namespace Go.AX
open Go.RowKit
variable {cx:Cx}{g:Nat→Value}{σ σ':St}{a:Act}{w w':World}{nx:Nat}
variable {ty:TypeId}{pos:String}{af:Array Edge}{gd:Option (Nat×Bool)}{d:Nat}
theorem ok_gennew {op:Op}{l:List (Key×Val)}{n0:Nat}(p:Value→Obj→Prop) (hd:d < cx.n)
  (hex:∀ σ a w g nx,SimG cx σ a w g nx→App σ l→∃ v o,(execOp a.eval ⟨some d,op,ty,pos,af,gd⟩).run cx.P w = .ok (.value v) (w.alloc o)∧blk v=some w.heap.size∧p v o) :
  OpOk cx ⟨some d,op,ty,pos,af,gd⟩ ⟨(.nx,.num n0)::l,[(.s d,.av (.h n0)),(.o n0,.ob (.gen p)),(.nx,.num (n0+1))]⟩:=by
 rintro σ a w K Q ⟨g,nx,hs⟩ hr hK
 obtain⟨hn,hl⟩:=hr
 have hnx:nx=n0:=by
  have h2:=hs.hnx
  rw[hn]at h2
  simpa using h2.symm
 subst hnx
 obtain⟨v,o,hrun,hbv,hp⟩:=hex σ a w g nx hs hl
 have hb:Below w.heap.size w (w.alloc o):=(Below.refl _ _).alloc (Nat.le_refl _) _
 have hst:ObjStep cx σ g nx (nx+1) w (w.alloc o) nx (.gen p) v :=
  ⟨.inl ⟨rfl,rfl⟩,hb.mono hs.below.size,fun c hc _=>hb.block c hc,fun c hc => .inr (by rw[hbv]at hc;cases hc;exact Nat.le_refl _)⟩
 have hG:=SimG.obj hs hst (fun _=>⟨w.heap.size,o,by rw[upd_same];exact hbv,hs.below.size,heap_alloc_new w _,by rw[upd_same];exact hp⟩) trivial
 refine wp_val rfl hrun (hK _ _ ?_)
 refine Sim.eqv (Sim.put hG hd (Below.refl _ _) (av := .h nx) ⟨.of get_cons_same,fun p' _ _=>(upd_same _ _ _).symm⟩ (Nat.lt_succ_self nx)) fun q=>?_
 cases q with
 |s i =>
  by_cases hi:i=d
  ·
   subst hi;rw[get_cons_same];exact get_cons_same.symm
  ·
   rw[get_cons_ne (by simpa using fun e=>hi e.symm),objSt_s]
   exact((get_cons_ne (by simpa using fun e=>hi e.symm)).trans ((get_cons_ne (by simp)).trans (get_cons_ne (by simp)))).symm
 |o i =>
  rw[get_cons_ne (by simp)]
  by_cases hi:i=nx
  ·
   subst hi;rw[get_cons_same];exact((get_cons_ne (by simp)).trans get_cons_same).symm
  ·
   rw[objSt_o hi]
   exact((get_cons_ne (by simp)).trans ((get_cons_ne (by simpa using fun e=>hi e.symm)).trans (get_cons_ne (by simp)))).symm
 |nx =>
  rw[get_cons_ne (by simp),objSt_nx]
  exact((get_cons_ne (by simp)).trans ((get_cons_ne (by simp)).trans get_cons_same)).symm
theorem gen_set (hs:SimG cx σ a w g nx) {id b:Nat}{p p':Value→Obj→Prop}{o':Obj}(ho:get σ (.o id) = .ob (.gen p)) (hb:blk (g id)=some b) (hlt:b < w.heap.size) (hp:p' (g id) o') :
  SimG cx (objSt σ nx id (.gen p')) a { w with heap:=w.heap.setIfInBounds b o' } (upd g id (g id)) nx:=by
 have hoth:∀ c,c≠b→({ w with heap:=w.heap.setIfInBounds b o' }:World).heap[c]? = w.heap[c]? := fun c hc=>by
  show(w.heap.setIfInBounds b _)[c]? = _
  rw[Array.getElem?_setIfInBounds,if_neg (fun e=>hc e.symm)]
 obtain⟨hid,⟨b1,o1,h1,h2,h3,h4⟩,_⟩:=hs.objs id _ ho
 obtain rfl:b1=b:=Option.some.inj (h1.symm.trans hb)
 have hst:ObjStep cx σ g nx nx w { w with heap:=w.heap.setIfInBounds b1 o' } id (.gen p') (g id) :=
  ⟨.inr ⟨rfl,_,ho,by simp[ObLe,upd_same]⟩,⟨rfl,rfl,rfl,by simp,fun c hc=>hoth c (by omega)⟩,fun c hc hn=>hoth c fun e=>hn _ ho (by rw[hb,e]),fun c hc => .inl ⟨_,ho,hc⟩⟩
 exact SimG.obj hs hst (fun _=>⟨b1,o',by rw[upd_same];exact hb,h2,by show(w.heap.setIfInBounds b1 _)[b1]? = _;rw[Array.getElem?_setIfInBounds,if_pos rfl,if_pos hlt],by rw[upd_same];exact hp⟩) trivial
theorem gen_at (hs:SimG cx σ a w g nx) {id:Nat}{p:Value→Obj→Prop}{x:Value}(ho:get σ (.o id) = .ob (.gen p)) (hr:Rep cx g σ w x (.h id)) :
  ∃ b o,blk x=some b∧blk (g id)=some b∧b < w.heap.size∧w.heap[b]? = some o∧p x o∧x=g id:=by
 obtain⟨_,⟨b,o,h1,h2,h3,h4⟩,_⟩:=hs.objs id _ ho
 have hx:x=g id:=hr.2 _ ho rfl
 refine⟨b,o,by rw[hx];exact h1,h1,?_,h3,by rw[hx];exact h4,hx⟩
 rcases Nat.lt_or_ge b w.heap.size with h|h
 ·
  exact h
 ·
  rw[Array.getElem?_eq_none h]at h3;cases h3
def ItP (s:List UInt8) (k:Nat):Value→Obj→Prop:=fun v o=>(∃ b,v = .pointer (some ⟨b,0,none⟩))∧o = .stringIter ⟨s.toArray⟩ k
theorem a_range {t:TypeId}{x:Operand}{s:List UInt8}{n0:Nat}(hn:get σ .nx = .num n0) (hx:ev σ x=some (.d (.v (str s)))) (ht:cx.P.underlying t=some .string) (hd:Nat.blt d cx.n=true) :
  OA cx σ ⟨some d,.range t x,ty,pos,af,gd⟩ ⟨(.nx,.num n0)::rdOf x (.d (.v (str s))),[(.s d,.av (.h n0)),(.o n0,.ob (.gen (ItP s 0))),(.nx,.num (n0+1))]⟩:=by
 refine⟨ok_gennew (ItP s 0) (lt_of_blt hd) fun σ a w g nx hs hl=>⟨.pointer (some ⟨w.heap.size,0,none⟩),.stringIter ⟨s.toArray⟩ 0,?_,rfl,⟨_,rfl⟩,rfl⟩,hn,(ev_out hx).2⟩
 have hv:=rep_v (hs.ev (ev_out hx).1 hl).1
 simp[execOp,hv,Instr.range,run_underlying ht,newObj,Result.andThen]
 rfl
theorem decode_ascii {s:List UInt8}{k:Nat}{c:UInt8}(h:s[k]? = some c) (hc:c.toNat < 128):Utf8.decode ⟨s.toArray⟩ k=(c.toNat,1):=by
 have hg:(⟨s.toArray⟩:ByteArray).get! (k+0)=c:=by
  show s.toArray[k+0]! = c
  rw[Nat.add_zero,Array.getElem!_eq_getD,Array.getD_eq_getD_getElem?]
  simp[h]
 unfold Utf8.decode
 simp only[hg]
 rw[if_pos hc]
theorem a_next {x:Operand}{s:List UInt8}{k:Nat}{c:UInt8}(id:Nat) (hx:ev σ x=some (.h id)) (ho:get σ (.o id) = .ob (.gen (ItP s k))) (hk:s[k]? = some c) (hc:c.toNat < 128) (hd:Nat.blt d cx.n=true) :
  OA cx σ ⟨some d,.next x true,ty,pos,af,gd⟩ ⟨rdOf x (.h id)++[(.o id,.ob (.gen (ItP s k)))],
   [(.s d,.av (.tup [.d (.v (.bool true)),.d (.v (.int .i64 k)),.d (.v (.int .i32 c.toNat))])),(.o id,.ob (.gen (ItP s (k+1))))]⟩:=by
 refine⟨?_,(ev_out hx).2.append ⟨ho,trivial⟩⟩
 rintro σ a w K Q ⟨g,nx,hs⟩ hr hK
 have ho:=hr.right.1
 obtain⟨b,o,h1,h2,h3,h4,⟨⟨b',h7⟩,h5⟩,h6⟩:=gen_at hs ho (hs.ev (ev_out hx).1 hr.left).1
 subst h5
 obtain rfl:b'=b:=by rw[h7]at h1;simpa[blk] using h1
 have hkl:=(List.getElem?_eq_some_iff.1 hk).1
 have hdec:=decode_ascii hk hc
 have hG:=gen_set hs (p':=ItP s (k+1)) (o' := .stringIter ⟨s.toArray⟩ (k+1)) ho h2 h3 ⟨⟨b',by rw[← h6];exact h7⟩,rfl⟩
 have hrun:(execOp a.eval ⟨some d,.next x true,ty,pos,af,gd⟩).run cx.P w = .ok (.value (.tuple #[.bool true,.int .i64 k,.int .i32 c.toNat])) { w with heap:=w.heap.setIfInBounds b' (.stringIter ⟨s.toArray⟩ (k+1)) }:=by
  have hsz:k < (⟨s.toArray⟩:ByteArray).size:=by show k < s.toArray.size;simpa using hkl
  have hget:(getObj b').run cx.P w = .ok (.stringIter ⟨s.toArray⟩ k) w:=by simp[getObj,Sem.run,h4]
  have hset:∀ o,(setObj b' o).run cx.P w = .ok () { w with heap:=w.heap.setIfInBounds b' o }:=fun o=>by simp[setObj,Sem.run,h4]
  simp[execOp,h7,Instr.next,hget,hset,hsz,hdec,goInt,Result.andThen]
 refine wp_val rfl hrun (hK _ _ (Sim.eqv (Sim.put hG (lt_of_blt hd) (Below.refl _ _) (av := .tup [.d (.v (.bool true)),.d (.v (.int .i64 k)),.d (.v (.int .i32 c.toNat))]) ⟨_,rfl,rfl,fun j x av hj hc=>?_⟩ (by intro av hav;simp at hav;rcases hav with rfl|rfl|rfl <;> trivial)) fun q=>?_))
 ·
  match j,hj,hc with
  |0,hj,hc=>simp at hj hc;subst hj hc;exact Rd.v _
  |1,hj,hc=>simp at hj hc;subst hj hc;exact Rd.v _
  |2,hj,hc=>simp at hj hc;subst hj hc;exact Rd.v _
  |j+3,hj,hc=>simp at hj
 cases q with
 |s i =>
  by_cases hi:i=d
  ·
   subst hi;rw[get_cons_same];exact get_cons_same.symm
  ·
   rw[get_cons_ne (by simpa using fun e=>hi e.symm),objSt_s]
   exact((get_cons_ne (by simpa using fun e=>hi e.symm)).trans (get_cons_ne (by simp))).symm
 |o i =>
  rw[get_cons_ne (by simp)]
  by_cases hi:i=id
  ·
   subst hi;rw[get_cons_same];exact((get_cons_ne (by simp)).trans get_cons_same).symm
  ·
   rw[objSt_o hi]
   exact((get_cons_ne (by simp)).trans (get_cons_ne (by simpa using fun e=>hi e.symm))).symm
 |nx =>
  rw[get_cons_ne (by simp),objSt_nx]
  exact(((get_cons_ne (by simp)).trans (get_cons_ne (by simp))).trans hs.hnx).symm
theorem a_nextE {x:Operand}{s:List UInt8}{k:Nat}(id:Nat) (hx:ev σ x=some (.h id)) (ho:get σ (.o id) = .ob (.gen (ItP s k))) (hk:s.length≤k) (hd:Nat.blt d cx.n=true) :
  OA cx σ ⟨some d,.next x true,ty,pos,af,gd⟩ ⟨rdOf x (.h id)++[(.o id,.ob (.gen (ItP s k)))],[(.s d,.av (.tup [.d (.v (.bool false))]))]⟩:=by
 refine⟨?_,(ev_out hx).2.append ⟨ho,trivial⟩⟩
 rintro σ a w K Q ⟨g,nx,hs⟩ hr hK
 have ho:=hr.right.1
 obtain⟨b,o,h1,h2,h3,h4,⟨⟨b',h7⟩,h5⟩,h6⟩:=gen_at hs ho (hs.ev (ev_out hx).1 hr.left).1
 subst h5
 obtain rfl:b'=b:=by rw[h7]at h1;simpa[blk] using h1
 have hrun:(execOp a.eval ⟨some d,.next x true,ty,pos,af,gd⟩).run cx.P w = .ok (.value (.tuple #[.bool false])) w:=by
  have hsz:¬ k < (⟨s.toArray⟩:ByteArray).size:=by show ¬ k < s.toArray.size;simp;omega
  have hget:(getObj b').run cx.P w = .ok (.stringIter ⟨s.toArray⟩ k) w:=by simp[getObj,Sem.run,h4]
  simp[execOp,h7,Instr.next,hget,hsz,Result.andThen]
 refine wp_val rfl hrun (hK _ _ (Sim.put hs (lt_of_blt hd) (Below.refl _ _) (av := .tup [.d (.v (.bool false))]) ⟨_,rfl,rfl,fun j x av hj hc=>?_⟩ (by intro av hav;simp at hav;subst hav;trivial)))
 match j,hj,hc with
 |0,hj,hc=>simp at hj hc;subst hj hc;exact Rd.v _
 |j+1,hj,hc=>simp at hj
end Go.AX
namespace Go.AX
open Go.RowKit Go.Lib
variable {cx:Cx}{g:Nat→Value}{σ σ':St}{a:Act}{w w':World}{nx:Nat}
variable {ty:TypeId}{pos:String}{af:Array Edge}{gd:Option (Nat×Bool)}{d:Nat}
def BytP (s:List UInt8):Value→Obj→Prop:=fun v o=>∃ (b cap:Nat) (cur:Array Value) (e:TypeId) (fz:Nat×Nat),v = .slice (some ⟨b,0,none⟩) s.length cap∧o = .cells cur e fz∧cur.size=cap∧s.length≤cap∧cap≤fz.1 ∧
 ∀ (j:Nat) (c:UInt8),s[j]? = some c→cur[j]? = some (.int .u8 c.toNat)
theorem rd_bytes {own:Nat→Prop}{b cap:Nat}{cur:Array Value}{e:TypeId}{fz:Nat×Nat}{s:List UInt8}(hb:w.heap[b]? = some (.cells cur e fz)) (ho:¬ own b) (hc:s.length≤cap)
  (h:∀ (j:Nat) (c:UInt8),s[j]? = some c→cur[j]? = some (.int .u8 c.toNat)):Rd w own (.slice (some ⟨b,0,none⟩) s.length cap) (.sl 1 (s.map byteD)):=by
 have hlt:b < w.heap.size:=by
  rcases Nat.lt_or_ge b w.heap.size with h|h
  ·
   exact h
  ·
   rw[Array.getElem?_eq_none h]at hb;cases hb
 have key:∀ (i j:Nat) (r:List D) (x:D),(s.map byteD)[i]? = some r→r[j]? = some x→∃ c,s[i]? = some c∧j=0∧x = .v (.int .u8 c.toNat):=fun i j r x hi hj=>by
  rw[List.getElem?_map,Option.map_eq_some_iff]at hi
  obtain⟨c,hc,rfl⟩:=hi
  have hj0:j=0:=by
   have:=(List.getElem?_eq_some_iff.1 hj).1
   simp[byteD]at this
   exact this
  subst hj0
  simp[byteD]at hj
  exact⟨c,hc,rfl,hj.symm⟩
 have:=Rd.sl (w:=w) (own:=own) ⟨b,0,none⟩ cap 1 (s.map byteD) (fun i _ => .int .u8 (s.getD i 0).toNat) ho hlt (by simpa using hc) (fun r hr=>by obtain⟨c,_,rfl⟩:=List.mem_map.1 hr;rfl)
  (fun i j r x hi hj=>by
   obtain⟨c,h1,rfl,_⟩:=key i j r x hi hj
   rw[add_lit,show 0+(i*1+0)=i by omega]
   simp only[World.cell?,hb]
   rw[h i c h1,List.getD_eq_getElem?_getD,h1]
   rfl)
  (fun i j r x hi hj=>rfl)
  (fun i j r x hi hj=>by
   obtain⟨c,h1,rfl,rfl⟩:=key i j r x hi hj
   rw[List.getD_eq_getElem?_getD,h1]
   exact Rd.v _)
 rw[List.length_map]at this
 exact this
theorem bytes_cells (w:World) (e:TypeId) (s:List UInt8):(bytesCells w e ⟨s.toArray⟩).size=grownCap w s.length 0 e∧s.length≤grownCap w s.length 0 e∧∀ (j:Nat) (c:UInt8),s[j]? = some c→(bytesCells w e ⟨s.toArray⟩)[j]? = some (.int .u8 c.toNat):=by
 have hsz:(⟨s.toArray⟩:ByteArray).size=s.length:=by show s.toArray.size=_;simp
 have hge:=grownCap_ge w s.length 0 e
 refine⟨?_,hge,fun j c hj=>?_⟩
 ·
  unfold bytesCells
  rw[hsz]
  simp
  omega
 ·
  have hlt:=(List.getElem?_eq_some_iff.1 hj).1
  unfold bytesCells
  rw[Array.getElem?_append_left (by simpa using hlt)]
  simp[hj]
theorem bytes_below {B:Nat}(w:World) (e:TypeId) (s:ByteArray) (hB:B≤w.heap.size):Below B w (bytesWorld w e s) :=
 ⟨rfl,rfl,rfl,by rw[bytesWorld_size];omega,fun k hk=>bytesWorld_at_old w e s k (by omega)⟩
theorem run_s2b {t t2 e:Nat}{si ti te:TI}{s:List UInt8}(ht:tget cx.T t=some si) (hk:si.kind = .str) (ht2:tget cx.T t2=some ti) (hk2:ti.kind = .sl e 1) (hte:tget cx.T e=some te) (hke:te.kind = .int .u8) :
  (convert t t2 (str s)).run cx.P w = .ok (.slice (some ⟨w.heap.size,0,none⟩) s.length (grownCap w s.length 0 e)) (bytesWorld w e ⟨s.toArray⟩):=by
 have hF:=(cx.hT t si ht).kind
 rw[hk]at hF
 obtain⟨hu,_⟩:=hF
 have hF2:=(cx.hT t2 ti ht2).kind
 rw[hk2]at hF2
 obtain⟨hu2,_⟩:=hF2
 have hF3:=(cx.hT e te hte).kind
 rw[hke]at hF3
 obtain⟨hu3,_⟩:=hF3
 have:=Go.Lib.run_convert_string_bytes (P:=cx.P) w t t2 e ⟨s.toArray⟩ hu hu2 hu3
 have hsz:(⟨s.toArray⟩:ByteArray).size=s.length:=by show s.toArray.size=_;simp
 rw[hsz]at this
 exact this
theorem a_s2b {t t2 e:Nat}{x:Operand}{s:List UInt8}{si ti te:TI}(hx:ev σ x=some (.d (.v (str s)))) (ht:tget cx.T t=some si) (hk:si.kind = .str) (ht2:tget cx.T t2=some ti) (hk2:ti.kind = .sl e 1) (hte:tget cx.T e=some te) (hke:te.kind = .int .u8) (hd:Nat.blt d cx.n=true) :
  OA cx σ ⟨some d,.convert t t2 x,ty,pos,af,gd⟩ ⟨rdOf x (.d (.v (str s))),[(.s d,.av (.d (.sl 1 (s.map byteD))))]⟩:=by
 refine⟨ok_val rfl (lt_of_blt hd) fun σ1 a w g nx hs hr=>?_,(ev_out hx).2⟩
 have hv:=rep_v (hs.ev (ev_out hx).1 hr).1
 obtain⟨h1,h2,h3⟩:=bytes_cells w e s
 refine⟨_,_,?_,bytes_below w e ⟨s.toArray⟩ (Nat.le_refl _),rd_bytes (bytesWorld_at_new w e ⟨s.toArray⟩) (fun ho=>by have:=own_lt hs ho;omega) h2 h3,trivial⟩
 simp[execOp,hv,run_s2b (w:=w) (s:=s) ht hk ht2 hk2 hte hke]
theorem ok_gennew2 {op:Op}{l:List (Key×Val)}{n0:Nat}(p:Value→Obj→Prop) (hd:d < cx.n)
  (hex:∀ σ a w g nx,SimG cx σ a w g nx→App σ l→∃ v o w',(execOp a.eval ⟨some d,op,ty,pos,af,gd⟩).run cx.P w = .ok (.value v) w'∧Below w.heap.size w w'∧w'.heap[w.heap.size]? = some o∧blk v=some w.heap.size∧p v o) :
  OpOk cx ⟨some d,op,ty,pos,af,gd⟩ ⟨(.nx,.num n0)::l,[(.s d,.av (.h n0)),(.o n0,.ob (.gen p)),(.nx,.num (n0+1))]⟩:=by
 rintro σ a w K Q ⟨g,nx,hs⟩ hr hK
 obtain⟨hn,hl⟩:=hr
 have hnx:nx=n0:=by
  have h2:=hs.hnx
  rw[hn]at h2
  simpa using h2.symm
 subst hnx
 obtain⟨v,o,w',hrun,hb,hnew,hbv,hp⟩:=hex σ a w g nx hs hl
 have hst:ObjStep cx σ g nx (nx+1) w w' nx (.gen p) v :=
  ⟨.inl ⟨rfl,rfl⟩,hb.mono hs.below.size,fun c hc _=>hb.block c hc,fun c hc => .inr (by rw[hbv]at hc;cases hc;exact Nat.le_refl _)⟩
 have hG:=SimG.obj hs hst (fun _=>⟨w.heap.size,o,by rw[upd_same];exact hbv,hs.below.size,hnew,by rw[upd_same];exact hp⟩) trivial
 refine wp_val rfl hrun (hK _ _ ?_)
 refine Sim.eqv (Sim.put hG hd (Below.refl _ _) (av := .h nx) ⟨.of get_cons_same,fun p' _ _=>(upd_same _ _ _).symm⟩ (Nat.lt_succ_self nx)) fun q=>?_
 cases q with
 |s i =>
  by_cases hi:i=d
  ·
   subst hi;rw[get_cons_same];exact get_cons_same.symm
  ·
   rw[get_cons_ne (by simpa using fun e=>hi e.symm),objSt_s]
   exact((get_cons_ne (by simpa using fun e=>hi e.symm)).trans ((get_cons_ne (by simp)).trans (get_cons_ne (by simp)))).symm
 |o i =>
  rw[get_cons_ne (by simp)]
  by_cases hi:i=nx
  ·
   subst hi;rw[get_cons_same];exact((get_cons_ne (by simp)).trans get_cons_same).symm
  ·
   rw[objSt_o hi]
   exact((get_cons_ne (by simp)).trans ((get_cons_ne (by simpa using fun e=>hi e.symm)).trans (get_cons_ne (by simp)))).symm
 |nx =>
  rw[get_cons_ne (by simp),objSt_nx]
  exact((get_cons_ne (by simp)).trans ((get_cons_ne (by simp)).trans get_cons_same)).symm
theorem a_s2bO {t t2 e:Nat}{x:Operand}{s:List UInt8}{si ti te:TI}{n0:Nat}(hn:get σ .nx = .num n0) (hx:ev σ x=some (.d (.v (str s)))) (ht:tget cx.T t=some si) (hk:si.kind = .str) (ht2:tget cx.T t2=some ti) (hk2:ti.kind = .sl e 1) (hte:tget cx.T e=some te) (hke:te.kind = .int .u8) (hd:Nat.blt d cx.n=true) :
  OA cx σ ⟨some d,.convert t t2 x,ty,pos,af,gd⟩ ⟨(.nx,.num n0)::rdOf x (.d (.v (str s))),[(.s d,.av (.h n0)),(.o n0,.ob (.gen (BytP s))),(.nx,.num (n0+1))]⟩:=by
 refine⟨ok_gennew2 (BytP s) (lt_of_blt hd) fun σ1 a w g nx hs hr=>?_,hn,(ev_out hx).2⟩
 have hv:=rep_v (hs.ev (ev_out hx).1 hr).1
 obtain⟨h1,h2,h3⟩:=bytes_cells w e s
 refine⟨_,_,_,?_,bytes_below w e ⟨s.toArray⟩ (Nat.le_refl _),bytesWorld_at_new w e ⟨s.toArray⟩,rfl,⟨_,_,_,e,_,rfl,rfl,h1,h2,by rw[h1];exact Nat.le_refl _,h3⟩⟩
 simp[execOp,hv,run_s2b (w:=w) (s:=s) ht hk ht2 hk2 hte hke]
theorem store_ahead {P:Program}{w:World}{g k:Nat}{cur:Array Value}{t:TypeId}{fz:Nat×Nat}{v:Value}(hg:w.heap[g]? = some (.cells cur t fz)) (hk:k < cur.size) (hz:cur.size≤fz.1) (hv:v.oneCell'=true) :
  (store ⟨g,k,none⟩ v).run P w = .ok () (w.setRow g (cur.setIfInBounds k v)):=by
 have hf:w.frozen? ⟨g,k,none⟩=false:=by simp[World.frozen?,hg];omega
 have hc:w.cell? ⟨g,k,none⟩=some (cur[k]'hk):=by simp[World.cell?,hg,hk]
 simp[run_store P w ⟨g,k,none⟩ v _ hv,hc,hf,setCell_eq_setRow w g k cur t fz v hg]
theorem at_ahead (g o i:Nat):(⟨g,o,none⟩:Addr).add i=⟨g,o+i,none⟩:=by
 cases i <;> simp[Addr.add]
theorem run_storeCells_atT (P:Program) (g o:Nat) (t:TypeId) (fz:Nat×Nat) (vs:List Value):∀ (i:Nat) (cur:Array Value) (w:World),w.heap[g]? = some (.cells cur t fz)→cur.size≤fz.1→o+i+vs.length≤cur.size→(∀ v∈vs,v.oneCell'=true) →
  (storeCells ⟨g,o,none⟩ vs i).run P w = .ok () (w.setRow g (cur.toList.take (o+i)++vs++cur.toList.drop (o+i+vs.length)).toArray):=by
 induction vs with
 |nil=>exact fun i cur w hg _ _ _=>by simp[storeCells,setRow_self w g cur t fz hg]
 |cons v rest ih =>
  intro i cur w hg hz hl h1
  rw[List.length_cons]at hl
  obtain⟨hv,hr⟩:=List.forall_mem_cons.1 h1
  have s1:=store_ahead (P:=P) hg (k:=o+i) (by omega) hz hv
  have s2:=ih (i+1) _ _ (setRow_heap w g cur (cur.setIfInBounds (o+i) v) t _ hg) (by simpa using hz) (by simp;omega) hr
  have s3:=list_seg_step cur.toList (o+i) v rest (by simp;omega)
  rw[← Array.toList_setIfInBounds]at s3
  simp only[Nat.add_assoc]at s2 s3
  simp only[storeCells,at_ahead,Sem.run_bind,s1,Result.andThen_ok,s2,setRow_setRow,s3,List.length_cons,Nat.add_assoc]
theorem bcells_of {s:List UInt8}{news:List Value}(hl:news.length=s.length) (h:∀ (j:Nat) (c:UInt8) (u:Value),s[j]? = some c→news[j]? = some u→u = .int .u8 c.toNat):news=s.map fun c=>Value.int .u8 c.toNat:=by
 refine List.ext_getElem? fun j=>?_
 rw[List.getElem?_map]
 cases hj:s[j]? with
 |none =>
  have:=List.getElem?_eq_none_iff.1 hj
  rw[List.getElem?_eq_none (by omega)];rfl
 |some c =>
  have hlt:=(List.getElem?_eq_some_iff.1 hj).1
  have hu:news[j]? = some (news[j]'(by omega)):=List.getElem?_eq_getElem _
  rw[hu,h j c _ hj hu];rfl
theorem a_appb {t e id:Nat}{x y:Operand}{s r:List UInt8}{ti te:TI}(hx:ev σ x=some (.h id)) (ho:get σ (.o id) = .ob (.gen (BytP s))) (hy:ev σ y=some (.d (.sl 1 (r.map byteD)))) (ht:tget cx.T t=some ti) (hk:ti.kind = .sl e 1)
  (hte:tget cx.T e=some te) (hb1:te.bytes=1) (hn1:te.n=1) (hd:Nat.blt d cx.n=true) (hr0:0 < r.length) (hlen:s.length+r.length≤1073741824) :
  OA cx σ ⟨some d,.call { callee := .builtin .append,args := #[x,y],argTypes := #[t,t] },ty,pos,af,gd⟩
   ⟨rdOf x (.h id)++(rdOf y (.d (.sl 1 (r.map byteD)))++[(.o id,.ob (.gen (BytP s)))]),[(.s d,.av (.d (.sl 1 ((s++r).map byteD)))),(.o id,.none)]⟩:=by
 refine⟨?_,(ev_out hx).2.append ((ev_out hy).2.append ⟨ho,trivial⟩)⟩
 rintro σ1 a w K Q ⟨g,nx,hs⟩ hr hK
 have ho1:=hr.right.right.1
 obtain⟨b,o,h1,h2,h3,h4,⟨b',cap,cur,e0,fz,h5,h6,h7,h8,h9,h10⟩,hxg⟩:=gen_at hs ho1 (hs.ev (ev_out hx).1 hr.left).1
 subst h6
 obtain rfl:b'=b:=by rw[h5]at h1;simpa[blk] using h1
 have hyr:Rd w (cx.own g σ1) (a.eval y) (.sl 1 (r.map byteD)):=(hs.ev (ev_out hy).1 hr.right.left).1
 obtain⟨ad,c,news,y1,y2,y3,y4,y5⟩:=sl_cells hyr (by simp;exact fun h=>by rw[h]at hr0;simp at hr0)
 rw[List.length_map]at y1 y2
 have hnews:news=r.map fun c=>Value.int .u8 c.toNat:=bcells_of (by omega) fun j c u hj hu=>by
  have:=y5 j 0 (byteD c) (.v (.int .u8 c.toNat)) u (by rw[List.getElem?_map,hj];rfl) rfl (by rw[show j*1+0=j by omega];exact hu)
  exact rd_v this
 have hF:=(cx.hT t ti ht).kind
 rw[hk]at hF
 obtain⟨hu,⟨ie,hie,hks⟩,hk0,_⟩:=hF
 obtain⟨ie',hie',hes,heb,z,hz,hzc⟩:=(cx.hT e te hte).info
 rw[hie]at hie'
 cases hie'
 by_cases hroom:s.length+r.length≤cap
 ·
  -- in place
  have hst:=run_storeCells_atT cx.P b' s.length e0 fz news 0 cur w h4 (by omega) (by omega) y4
  simp only[Nat.add_zero]at hst
  have hf:=run_firstCells_some (P:=cx.P) w 1 r.length ad r.length c news (by omega) y3
  have hG:=gen_set hs (p':=BytP s) (o' := .cells (cur.toList.take s.length++news++cur.toList.drop (s.length+news.length)).toArray e0 fz) ho1 h2 h3 ⟨b',cap,_,e0,fz,by rw[← hxg];exact h5,rfl,by simp;omega,h8,h9,fun j c hj=>by
   have hjl:=(List.getElem?_eq_some_iff.1 hj).1
   rw[List.getElem?_toArray,List.append_assoc,List.getElem?_append_left (by simp;omega),List.getElem?_take,if_pos hjl,Array.getElem?_toList]
   exact h10 j c hj⟩
  have hw:w.setRow b' (cur.toList.take s.length++news++cur.toList.drop (s.length+news.length)).toArray={ w with heap:=w.heap.setIfInBounds b' (.cells (cur.toList.take s.length++news++cur.toList.drop (s.length+news.length)).toArray e0 fz) }:=by
   unfold World.setRow
   congr 1
   apply Array.ext_getElem?
   intro i
   rw[Array.getElem?_modify,Array.getElem?_setIfInBounds]
   by_cases hi:b'=i
   ·
    subst hi;rw[if_pos rfl,if_pos rfl,if_pos h3,h4];rfl
   ·
    rw[if_neg hi,if_neg hi]
  rw[← hw]at hG
  have hup:upd g id (g id)=g:=by funext i;unfold upd;split <;> simp_all
  rw[hup]at hG
  have hd1:=hG.drop id
  have hlatw:∀ q,cx.own g ((Key.o id,Val.none)::objSt σ1 nx id (.gen (BytP s))) q→cx.own g ((Key.o id,Val.none)::σ1) q:=fun q hq=>by
   rcases hq with hq|⟨j,o,q1,q2⟩
   ·
    exact .inl hq
   ·
    by_cases hj:id=j
    ·
     subst hj;rw[get_cons_same]at q1;cases q1
    ·
     rw[get_cons_ne (by simpa using hj),objSt_o (fun e=>hj e.symm)]at q1
     exact .inr ⟨j,o,(get_cons_ne (by simpa using hj)).trans q1,q2⟩
  refine wp_val rfl (v := .slice (some ⟨b',0,none⟩) (s++r).length cap) ?_ (hK _ _ (Sim.eqv (Sim.put hd1 (lt_of_blt hd) (Below.refl _ _) (av := .d (.sl 1 ((s++r).map byteD))) ?_ trivial) fun q=>?_))
  ·
   have:(Builtin.append_ #[t,t] ty #[a.eval x,a.eval y]).run cx.P w = .ok (.slice (some ⟨b',0,none⟩) (s.length+r.length) cap) (w.setRow b' (cur.toList.take s.length++news++cur.toList.drop (s.length+news.length)).toArray):=by
    rw[h5,y1]
    simp[Builtin.append_,run_underlying hu,sizeOf,typeInfo,hie,hks,Builtin.lenOf,hroom,hf,Addr.add_lit,hst]
   rw[List.length_append]
   simp[execOp,resolve,invoke,builtin,this]
  ·
   refine rd_bytes (e:=e0) (fz:=fz) (b:=b') (cur:=(cur.toList.take s.length++news++cur.toList.drop (s.length+news.length)).toArray) (setRow_heap w b' cur _ e0 fz h4) (fun hown=>(own_drop hs ho1 (hlatw _ hown)).2 h2) (by rw[List.length_append];exact hroom) fun j c hj=>?_
   rw[List.getElem?_toArray,List.append_assoc]
   rcases Nat.lt_or_ge j s.length with hjl|hjl
   ·
    rw[List.getElem?_append_left hjl]at hj
    rw[List.getElem?_append_left (by simp;omega),List.getElem?_take,if_pos hjl,Array.getElem?_toList]
    exact h10 j c hj
   ·
    rw[List.getElem?_append_right hjl]at hj
    have hjr:=(List.getElem?_eq_some_iff.1 hj).1
    have hmin:(cur.toList.take s.length).length=s.length:=by simp;omega
    rw[List.getElem?_append_right (by omega),hmin,List.getElem?_append_left (by omega),hnews,List.getElem?_map,hj]
    rfl
  ·
   cases q with
   |s i =>
    by_cases hi:i=d
    ·
     subst hi;rw[get_cons_same];exact get_cons_same.symm
    ·
     rw[get_cons_ne (by simpa using fun e=>hi e.symm),get_cons_ne (by simp),objSt_s]
     exact((get_cons_ne (by simpa using fun e=>hi e.symm)).trans (get_cons_ne (by simp))).symm
   |o i =>
    rw[get_cons_ne (by simp)]
    by_cases hi:i=id
    ·
     subst hi;rw[get_cons_same];exact((get_cons_ne (by simp)).trans get_cons_same).symm
    ·
     rw[get_cons_ne (by simpa using fun e=>hi e.symm),objSt_o hi]
     exact((get_cons_ne (by simp)).trans (get_cons_ne (by simpa using fun e=>hi e.symm))).symm
   |nx =>
    rw[get_cons_ne (by simp),get_cons_ne (by simp),objSt_nx]
    exact(((get_cons_ne (by simp)).trans (get_cons_ne (by simp))).trans hs.hnx).symm
 ·
  -- moved
  have holds:∀ (j:Nat) (v:Value),(s.map fun c=>Value.int .u8 c.toNat)[j]? = some v→w.cell? ((⟨b',0,none⟩:Addr).add j)=some v:=fun j v hj=>by
   rw[List.getElem?_map,Option.map_eq_some_iff]at hj
   obtain⟨c,hc,rfl⟩:=hj
   rw[add_lit,Nat.zero_add]
   simp only[World.cell?,h4]
   exact h10 j c hc
  have hgr:=run_append_grow (P:=cx.P) w t ty e ie z hu hie hz ⟨b',0,none⟩ s.length cap (s.map fun c=>Value.int .u8 c.toNat) (by rw[hks];simp) holds ad r.length c news (by rw[hks];omega) y3 (by omega) (by omega) (by rw[heb,hb1];exact growslice_fits (by omega) (by omega))
  have hge:=grownCap_ge w (s.length+r.length) cap e
  have hdr:=hs.drop id
  have hbel:Below cx.w0.heap.size w (w.drew.alloc (.cells ((s.map fun c=>Value.int .u8 c.toNat).toArray++news.toArray++Builtin.zeroCells z.cells (grownCap w (s.length+r.length) cap e - (s.length+r.length))) e)) :=
   ⟨rfl,rfl,rfl,by simp,fun k hk=>heap_alloc_old w.drew _ (Nat.lt_of_lt_of_le hk hs.below.size)⟩
  have hbel2:Below w.heap.size w (w.drew.alloc (.cells ((s.map fun c=>Value.int .u8 c.toNat).toArray++news.toArray++Builtin.zeroCells z.cells (grownCap w (s.length+r.length) cap e - (s.length+r.length))) e)) :=
   ⟨rfl,rfl,rfl,by simp,fun k hk=>heap_alloc_old w.drew _ hk⟩
  refine wp_val rfl (v := .slice (some ⟨w.heap.size,0,none⟩) (s++r).length (grownCap w (s.length+r.length) cap e)) (w':=w.drew.alloc (.cells ((s.map fun c=>Value.int .u8 c.toNat).toArray++news.toArray++Builtin.zeroCells z.cells (grownCap w (s.length+r.length) cap e - (s.length+r.length))) e)) ?_ (hK _ _ (Sim.put hdr (lt_of_blt hd) hbel2 (av := .d (.sl 1 ((s++r).map byteD))) ?_ trivial))
  ·
   rw[List.length_append]
   simp[execOp,resolve,invoke,builtin,h5,y1,hgr]
  ·
   refine rd_bytes (e:=e) (fz:=(0,0)) (heap_alloc_new w.drew _) (fun hown=>by have:=own_lt hdr hown;simp at this) (by rw[List.length_append];exact hge) fun j c hj=>?_
   rw[hnews,Array.append_assoc,← List.map_toArray]
   rcases Nat.lt_or_ge j s.length with hjl|hjl
   ·
    rw[List.getElem?_append_left hjl]at hj
    rw[Array.getElem?_append_left (by simpa using hjl)]
    simp[hj]
   ·
    rw[List.getElem?_append_right hjl]at hj
    have hjr:=(List.getElem?_eq_some_iff.1 hj).1
    rw[Array.getElem?_append_right (by simpa using hjl),Array.getElem?_append_left (by simp;omega)]
    simp[hj]
theorem a_ft {t:TypeId}{x lo hi:Operand}{kd ke:IntKind}{m q:Int}{k:Nat}{rows out:List (List D)}{ti:TI}(hx:ev σ x=some (.d (.sl k rows))) (hlo:ev σ lo=some (.d (.v (.int kd m)))) (hhi:ev σ hi=some (.d (.v (.int ke q)))) (ht:tget cx.T t=some ti) (hk:slK ti=some k)
  (hd:Nat.blt d cx.n=true) (hc:cutI rows (some m) (some q)=some out):OA cx σ ⟨some d,.slice t x (some lo) (some hi) none,ty,pos,af,gd⟩ ⟨rdOf x (.d (.sl k rows))++(rdOf lo (.d (.v (.int kd m)))++rdOf hi (.d (.v (.int ke q)))),[(.s d,.av (.d (.sl k out)))]⟩ :=
 ⟨ok_slice (lt_of_blt hd) (ev_out hx).1 (.at_ (ev_out hlo).1) (.at_ (ev_out hhi).1) ht hk hc,(ev_out hx).2.append ((ev_out hlo).2.append (ev_out hhi).2)⟩
theorem cut_ft {rows:List (List D)}{m n:Nat}(h:m≤n) (hn:n≤rows.length):cutI rows (some (m:Int)) (some (n:Int))=some ((rows.take n).drop m):=by
 unfold cutI
 dsimp only[Option.getD]
 rw[if_pos (by omega)]
 simp
theorem bin_remI {P:Program}{t:TypeId}{a b r:Int}(hb:b≠0) (h:a.tmod b=r):BinR P .rem t (.int .i64 a) (.int .i64 b) (.int .i64 r):=by
 subst h;exact bin_rem hb
theorem bin_quoI {P:Program}{t:TypeId}{a b r:Int}(hb:b≠0) (h:a.tdiv b=r) (hr : -9223372036854775808≤r∧r≤9223372036854775807):BinR P .quo t (.int .i64 a) (.int .i64 b) (.int .i64 r):=by
 subst h;exact bin_quo hb hr
theorem tmod_sum {s c:Nat}:((s:Int)*257+(c:Int)+1).tmod 65521=(((s*257+c+1)%65521:Nat):Int):=by
 rw[Int.tmod_eq_emod_of_nonneg (by omega)];omega
theorem tmod_sum' {s c:Nat}:(257*(s:Int)+(c:Int)+1).tmod 65521=(((s*257+c+1)%65521:Nat):Int):=by
 rw[show 257*(s:Int)=(s:Int)*257 by omega];exact tmod_sum
theorem tdiv_256 {s:Nat}:(s:Int).tdiv 256=((s / 256:Nat):Int):=by rw[Int.tdiv_eq_ediv_of_nonneg (by omega)];omega
theorem tmod_256 {s:Nat}:(s:Int).tmod 256=((s%256:Nat):Int):=by rw[Int.tmod_eq_emod_of_nonneg (by omega)];omega
theorem bin_shrJ {P:Program}{t:TypeId}{k:IntKind}{a c r:Int}(hc:c=8) (h:a / 256=r):BinR P .shr t (.int .i64 a) (.int k c) (.int .i64 r):=by
 subst hc h;exact bin_shr8
theorem bin_shlJ {P:Program}{t:TypeId}{k:IntKind}{n:Nat}{c:Int}(hc:c=8) (h:n < 256):BinR P .shl t (.int .i64 n) (.int k c) (.int .i64 ((n:Int)*256)):=by
 subst hc;exact bin_shl8 h
theorem div_256 {s:Nat}:(s:Int) / 256=((s / 256:Nat):Int):=by omega
theorem wrap_u8_n {s:Nat}:IntKind.u8.wrap (s:Int)=((s%256:Nat):Int):=by
 rw[IntKind.wrap_u8];omega
theorem a_convW {s t:TypeId}{x:Operand}{ks kt:IntKind}{n m:Int}{si ti:TI}(hx:ev σ x=some (.d (.v (.int ks n)))) (hs':tget cx.T s=some si) (hks:inK si=some ks) (ht:tget cx.T t=some ti) (hkt:inK ti=some kt) (hd:Nat.blt d cx.n=true) (hw:kt.wrap n=m) :
  OA cx σ ⟨some d,.convert s t x,ty,pos,af,gd⟩ ⟨rdOf x (.d (.v (.int ks n))),[(.s d,.av (.d (.v (.int kt m))))]⟩:=by
 refine⟨ok_val rfl (lt_of_blt hd) fun σ a w g nx hs hr=>⟨.int kt m,w,?_,Below.refl _ _,Rd.v _,trivial⟩,(ev_out hx).2⟩
 have hv:=rep_v (hs.ev (ev_out hx).1 hr).1
 have h1:=int_of (cx:=cx) hs' hks
 have h2:=int_of (cx:=cx) ht hkt
 have h3:cx.P.intKind t=kt:=by simp[Program.intKind,h2]
 have:=run_convert_int (P:=cx.P) w s t ks n (by simp[h1]) (by rw[h3];exact h2)
 rw[h3,hw]at this
 simp[execOp,hv,this]
theorem byte_row {s:Nat}(h:s < 256):[D.v (.int .u8 (s:Int))]=byteD (UInt8.ofNat s):=by
 unfold byteD
 rw[UInt8.toNat_ofNat',Nat.mod_eq_of_lt h]
end Go.AX
namespace Go.RF
open Go.AX
def sumN:Nat→Str→Nat
 |s,[]=>s
 |s,c::r=>sumN ((s*257+c.toNat+1)%65521) r
def linesD (l:List Deed):Str:=l.flatMap fun d=>printD d++[10]
def headE (e:Entry):Str:=UInt8.ofNat e.number.toNat::linesD e.deeds
def sum2 (s:Nat):Str:=[UInt8.ofNat (s / 256),UInt8.ofNat (s%256)]
def bytesE (e:Entry):Str:=headE e++sum2 (sumN 1 (headE e))
def parseL:List Str→Except Int (List Deed)
 | [] => .ok []
 |s::r=>match parseE s with
  |.error e => .error e
  |.ok d=>match parseL r with
   |.error e => .error e
   |.ok l => .ok (d::l)
def bodyB (b:Str):Str:=(b.take (b.length - 2)).drop 1
def byteN (b:Str) (k:Nat):Nat:=(b.getD k 0).toNat
def parseB (b:Str):Except Int Entry :=
 if b.length < 3 then .error 8
 else if sumN 1 (b.take (b.length - 2))=byteN b (b.length - 2)*256+byteN b (b.length - 1) then
  (if (split (bodyB b) [10]).getLast? = some [] then match parseL (split (bodyB b) [10]).dropLast with
   |.error e => .error e
   |.ok ds=>if wrongEntry ⟨byteN b 0,ds⟩=0 then .ok ⟨byteN b 0,ds⟩ else .error (wrongEntry ⟨byteN b 0,ds⟩)
  else .error 2)
 else .error 2
def noEntry:Entry:=⟨0,[]⟩
def resB:Except Int Entry→Entry×Int
 |.ok e=>(e,0)
 |.error w=>(noEntry,w)
abbrev encBytes (b:Str):D := .sl 1 (b.map byteD)
end Go.RF
namespace Go.AX
open Go.RowKit Go.RF
variable {cx:Cx}{g:Nat→Value}{σ:St}{a:Act}{w w':World}{nx:Nat}
variable {ty:TypeId}{pos:String}{af:Array Edge}{gd:Option (Nat×Bool)}{d:Nat}
theorem extract_str (s:List UInt8) (l h:Nat):Value.string ((⟨s.toArray⟩:ByteArray).extract l h)=str ((s.drop l).take (h - l)):=by
 have:(⟨s.toArray⟩:ByteArray).extract l h=⟨((s.drop l).take (h - l)).toArray⟩:=by
  apply ByteArray.ext
  rw[ByteArray.data_extract]
  simp
 rw[this];rfl
theorem a_sub {t:TypeId}{x lo hi:Operand}{kd ke:IntKind}{s:List UInt8}{l h:Nat}{ti:TI}(hx:ev σ x=some (.d (.v (str s)))) (hlo:ev σ lo=some (.d (.v (.int kd (l:Int))))) (hhi:ev σ hi=some (.d (.v (.int ke (h:Int)))))
  (ht:tget cx.T t=some ti) (hk:ti.kind = .str) (hd:Nat.blt d cx.n=true) (hlh:l≤h) (hh:h≤s.length) :
  OA cx σ ⟨some d,.slice t x (some lo) (some hi) none,ty,pos,af,gd⟩ ⟨rdOf x (.d (.v (str s)))++(rdOf lo (.d (.v (.int kd (l:Int))))++rdOf hi (.d (.v (.int ke (h:Int))))),[(.s d,.av (.d (.v (str ((s.drop l).take (h - l))))))]⟩:=by
 refine⟨ok_val rfl (lt_of_blt hd) fun σ1 a w g nx hs hr=>?_,(ev_out hx).2.append ((ev_out hlo).2.append (ev_out hhi).2)⟩
 have hv:=rep_v (hs.ev (ev_out hx).1 hr.left).1
 have h1:=rep_v (hs.ev (ev_out hlo).1 hr.right.left).1
 have h2:=rep_v (hs.ev (ev_out hhi).1 hr.right.right).1
 have hu:cx.P.underlying t=some .string:=by have:=(cx.hT t ti ht).kind;rw[hk]at this;exact this.1
 refine⟨_,w,?_,Below.refl _ _,Rd.v _,trivial⟩
 have hsz:(⟨s.toArray⟩:ByteArray).size=s.length:=rfl
 have e1:¬ ((h:Int) < 0):=by omega
 have e2:¬ ((l:Int) < 0):=by omega
 rw[← extract_str]
 simp[execOp,hv,h1,h2,str,Instr.sliceAt,Instr.slice,run_underlying hu,Instr.sliceBounds,Instr.sliceBound,asIntOf,hsz,hlh,hh,e1,e2]
theorem a_subF {t:TypeId}{x lo:Operand}{kd:IntKind}{s:List UInt8}{l:Nat}{ti:TI}(hx:ev σ x=some (.d (.v (str s)))) (hlo:ev σ lo=some (.d (.v (.int kd (l:Int)))))
  (ht:tget cx.T t=some ti) (hk:ti.kind = .str) (hd:Nat.blt d cx.n=true) (hh:l≤s.length) :
  OA cx σ ⟨some d,.slice t x (some lo) none none,ty,pos,af,gd⟩ ⟨rdOf x (.d (.v (str s)))++rdOf lo (.d (.v (.int kd (l:Int)))),[(.s d,.av (.d (.v (str (s.drop l)))))]⟩:=by
 refine⟨ok_val rfl (lt_of_blt hd) fun σ1 a w g nx hs hr=>?_,(ev_out hx).2.append (ev_out hlo).2⟩
 have hv:=rep_v (hs.ev (ev_out hx).1 hr.left).1
 have h1:=rep_v (hs.ev (ev_out hlo).1 hr.right).1
 have hu:cx.P.underlying t=some .string:=by have:=(cx.hT t ti ht).kind;rw[hk]at this;exact this.1
 refine⟨_,w,?_,Below.refl _ _,Rd.v _,trivial⟩
 have hsz:(⟨s.toArray⟩:ByteArray).size=s.length:=rfl
 have e2:¬ ((l:Int) < 0):=by omega
 have he:=extract_str s l s.length
 rw[List.take_of_length_le (by simp)]at he
 rw[← he]
 simp[execOp,hv,h1,str,Instr.sliceAt,Instr.slice,run_underlying hu,Instr.sliceBounds,Instr.sliceBound,asIntOf,hsz,hh,e2]
theorem a_noerr {t t':TypeId}{x:Operand}{ms:Array (String×TypeId)}(hx:ev σ x=some (.d (.v .nilIface))) (ht:cx.P.underlying t=some (.interface ms)) (hd:Nat.blt d cx.n=true) :
  OA cx σ ⟨some d,.binOp .eql t x (.const .nilIface) t',ty,pos,af,gd⟩ ⟨rdOf x (.d (.v .nilIface)),[(.s d,.av (.d (.v (.bool true))))]⟩:=by
 refine⟨ok_val rfl (lt_of_blt hd) fun σ1 a w g nx hs hr=>?_,(ev_out hx).2⟩
 have hv:=rep_v (hs.ev (ev_out hx).1 hr).1
 refine⟨.bool true,w,?_,Below.refl _ _,Rd.v _,trivial⟩
 have h:∀ d:Nat,(Op.equalIn (d+1) t .nilIface .nilIface).run cx.P w = .ok true w:=fun d=>by
  simp[Op.equalIn,run_underlying ht]
 have hg:eqGuard .eql t x (.const .nilIface) .nilIface .nilIface=pure ():=by cases x <;> rfl
 have hc:a.eval (.const .nilIface) = .nilIface:=rfl
 simp[execOp,hv,hc,hg,binOp,Op.equal,Op.maxDepth,h 9999]
end Go.AX
namespace Go.Proofs.YtccblhpfjlgmbaaGreatDoor
open Go.AX Go.RF
set_option maxRecDepth 100000
set_option maxHeartbeats 4000000
theorem splitF_len (sep:Str):∀ (n:Nat) (cur r:Str),(splitF sep n cur r).length≤n+1
 |0,cur,r=>by simp[splitF]
 |n+1,cur,r=>by
  simp only[splitF]
  split
  ·
   simp
  split
  ·
   have:=splitF_len sep n [] (r.drop sep.length);simp;omega
  cases r with
  |nil=>simp
  |cons c t=>have:=splitF_len sep n (cur++[c]) t;simp;omega
theorem splitF_succ (sep:Str) (n:Nat) (cur r:Str):splitF sep (n+1) cur r=if r.length < sep.length then [cur++r]
  else if r.take sep.length=sep then cur::splitF sep n [] (r.drop sep.length)
  else match r with
   | []=>[cur]
   |c::t=>splitF sep n (cur++[c]) t:=by cases r <;> rfl
theorem ok_split (s sep:Str) (hs:s.length≤1073741000) (hp:sep≠[]) (hp2:sep.length≤1000):FnOk Tryz.prog 87 [.d (dstr s),.d (dstr sep)] (.one (encStrs (split s sep))):=by
 refine fnOk_of tbl_ok mixed_ok Tryz.func87 rfl (by kernel_rfl) rfl rfl fun w0 own0=>?_
 have hp0:0 < sep.length:=List.length_pos_iff.2 hp
 have hst0:StopA 3:=⟨rfl⟩
 try refine wkS ?_
 clear hst0
 refine Stop.go (CW.stut (stut_promote (i:=5) 9 1) ⟨rfl,rfl,trivial⟩ ?_)
 try refine wk ?_
 refine CW.loopT (fun t:Nat×Nat×List Str=>[sd 0 (dstr s),sd 1 (dstr sep),sd 4 (.v nilS),so 5 0 t.2.2.length,oa 0 9 1 (t.2.2.map encStr1),sd 6 (dint t.1),sd 7 (dint t.2.1),nxt 1])
  (fun t=>t.1≤t.2.1∧t.2.1≤s.length∧t.2.2.length≤t.2.1∧∃ n,s.length≤n+t.2.1∧t.2.2++splitF sep n ((s.drop t.1).take (t.2.1 - t.1)) (s.drop t.2.1)=split s sep) (fun t=>s.length - t.2.1) (0,0,[]) ⟨by dsimp only;omega,by dsimp only;omega,by dsimp only;simp,s.length,by dsimp only;omega,rfl⟩ ?_ ?_
 ·
  exact by_less
 ·
  rintro ⟨f,i,out⟩ ⟨hf,hi,ho,n,hn,hI⟩
  dsimp only at hf hi ho hn hI ⊢
  have hcr:(s.drop f).take (i - f)++s.drop i=s.drop f:=by
   have:=List.take_append_drop (i - f) (s.drop f)
   rw[List.drop_drop,show f+(i - f)=i by omega]at this
   exact this
  have hrl:(s.drop i).length=s.length - i:=by simp
  by_cases h1:i+sep.length≤s.length
  ·
   obtain⟨n,rfl⟩:∃ m,n=m+1:=⟨n - 1,by omega⟩
   rw[splitF_succ,if_neg (by omega)]at hI
   have hcut:((s.drop i).take (i+sep.length - i))=(s.drop i).take sep.length:=by congr 1;omega
   by_cases h2:(s.drop i).take sep.length=sep
   ·
    rw[if_pos h2]at hI
    have h2':(s.drop i).take (i+sep.length - i)=sep:=hcut.trans h2
    repeat(first|((with_reducible apply s5);((with_reducible apply a_bs [[dstr ((s.drop f).take (i - f))]]);(iterate 9 exact rfl);(repeat(first|exact PartsE.nil|(apply PartsE.cons;exact rfl;exact rfl))));exact by_g)|refine wa1 ?_|((with_reducible apply s5);(first|((with_reducible apply(a_sub (l:=i) (h:=i+sep.length)));(iterate 6 exact rfl);omega;omega)|((with_reducible apply(a_sub (l:=f) (h:=i)));(iterate 6 exact rfl);omega;omega)|exact by_oa|exact by_ca);exact by_g)|refine wb ?_)
    refine q_loopT (i+sep.length,i+sep.length,out++[(s.drop f).take (i - f)]) ⟨by dsimp only;omega,by dsimp only;omega,by dsimp only;simp;omega,n,by dsimp only;omega,?_⟩ (by dsimp only;omega) ?_
    ·
     dsimp only
     rw[← hI,List.append_assoc,List.drop_drop,Nat.sub_self,List.take_zero]
     rfl
    exact by_less
   ·
    rw[if_neg h2]at hI
    have h2':¬ (s.drop i).take (i+sep.length - i)=sep:=fun h=>h2 (hcut.symm.trans h)
    have hlt:i < s.length:=by omega
    rw[List.drop_eq_getElem_cons hlt]at hI
    dsimp only at hI
    repeat(first|refine wa ?_|((with_reducible apply s5);(first|((with_reducible apply(a_sub (l:=i) (h:=i+sep.length)));(iterate 6 exact rfl);omega;omega)|exact by_oa|exact by_ca);exact by_g)|refine wb ?_)
    refine q_loopT (f,i+1,out) ⟨by dsimp only;omega,by dsimp only;omega,by dsimp only;omega,n,by dsimp only;omega,?_⟩ (by dsimp only;omega) ?_
    ·
     dsimp only
     rw[← hI,show i+1 - f=(i - f)+1 by omega,List.take_add_one,List.getElem?_drop,show f+(i - f)=i by omega,List.getElem?_eq_getElem hlt]
     rfl
    exact by_less
  ·
   have hfin:out++[s.drop f]=split s sep:=by
    rw[← hI]
    cases n with
    |zero=>rw[splitF,hcr]
    |succ n=>rw[splitF_succ,if_pos (by omega),hcr]
   repeat(first|((with_reducible apply s5);((with_reducible apply a_bs [[dstr (s.drop f)]]);(iterate 9 exact rfl);(repeat(first|exact PartsE.nil|(apply PartsE.cons;exact rfl;exact rfl))));exact by_g)|refine wa1 ?_|((with_reducible apply s5);(first|((with_reducible apply(a_subF (l:=f)));(iterate 5 exact rfl);omega)|exact by_oa|exact by_ca);exact by_g)|refine wb ?_)
   rw[← hfin,show encStrs (out++[s.drop f]) = .sl 1 (out.map encStr1++[[dstr (s.drop f)]]) by simp[encStrs,encStr1]]
   exact .one (.tmp rfl (.one (.own rfl (by simp) (.refl _))))
theorem ok_words:FnOk Tryz.prog 88 [] (.one (encStrs words)):=by
 refine fnOk_of tbl_ok mixed_ok Tryz.func88 rfl (by kernel_rfl) rfl rfl fun w0 own0=>?_
 repeat(first|((with_reducible apply s5);((with_reducible apply a_bs (words.map encStr1));(iterate 9 exact rfl);(repeat(first|exact PartsE.nil|(apply PartsE.cons;exact rfl;exact rfl))));exact by_g)|refine wa1 ?_|((with_reducible apply s5);(first|exact by_oa|exact by_ca);exact by_g)|refine wb ?_)
 exact .one (.tmp rfl (.one (.d (.refl _))))
theorem sumN_lt:∀ {l:Str}{s:Nat},s < 65521→sumN s l < 65521
 | [],s,h=>h
 |c::r,s,h=>by simp only[sumN];exact sumN_lt (Nat.mod_lt _ (by omega))
theorem toNat_ofNat {n:Nat}(h:n < 256):(UInt8.ofNat n).toNat=n:=by
 rw[UInt8.toNat_ofNat'];omega
def hiS (w:Str):Prop:=∀ c∈w,32≤c.toNat
theorem hiS_app {a b:Str}(ha:hiS a) (hb:hiS b):hiS (a++b):=fun c hc=>by
 rcases List.mem_append.1 hc with h|h
 ·
  exact ha c h
 ·
  exact hb c h
theorem key_hi {k:Str}(h:key k=true):hiS k:=by
 have:∀ r:Str,keyGo k r=true→hiS r:=by
  intro r
  induction r with
  |nil=>intro _ c hc;cases hc
  |cons x r ih =>
   intro h
   simp only[keyGo]at h
   split at h
   ·
    cases h
   ·
    next hx =>
    intro c hc
    rcases List.mem_cons.1 hc with rfl|hc
    ·
     simp only[bad,Bool.or_eq_true,decide_eq_true_eq,not_or]at hx
     omega
    ·
     exact ih h c hc
 exact this k h
theorem words_hi:∀ k:Nat,hiS (words.getD k []):=by
 intro k
 rcases Nat.lt_or_ge k 10 with h|h
 ·
  have:∀ k:Fin 10,∀ c∈words.getD k.val [],32≤c.toNat:=by decide
  exact this ⟨k,h⟩
 ·
  rw[List.getD_eq_getElem?_getD,List.getElem?_eq_none (show words.length≤k from h)]
  intro c hc;cases hc
theorem itoa_hi (n:Int):hiS (Lib.itoa n):=fun c hc=>by
 have key:∀ u:Nat,c∈Lib.decDigits u→32≤c.toNat:=fun u h=>by have:=dec_clean u c h;omega
 unfold Lib.itoa at hc
 split at hc
 ·
  rcases List.mem_cons.1 hc with rfl|hc
  ·
   decide
  ·
   exact key _ hc
 ·
  exact key _ hc
theorem reg_hi (n:Int):hiS (114::Lib.itoa n):=fun c hc=>by
 rcases List.mem_cons.1 hc with rfl|hc
 ·
  decide
 ·
  exact itoa_hi n c hc
theorem field_hi {i:Ins}{c:UInt8}(hk:hiS i.key):hiS (fieldW i c):=by
 unfold fieldW
 split
 ·
  exact reg_hi _
 split
 ·
  exact reg_hi _
 split
 ·
  exact itoa_hi _
 ·
  exact hk
theorem join_hi {sep:Str}(hs:hiS sep):∀ {ws:List Str},(∀ w∈ws,hiS w)→hiS (joinS sep ws)
 | [],_=>fun c hc=>by cases hc
 | [w],h=>h w (List.mem_cons_self ..)
 |w::x::r,h=>by
  simp only[joinS]
  exact hiS_app (h w (List.mem_cons_self ..)) (hiS_app hs (join_hi hs fun y hy=>h y (List.mem_cons_of_mem _ hy)))
theorem insW_hi {d:Deed}(h:wrongDeed d=0) {i:Ins}(hi:i∈d.code):∀ w∈insW i,hiS w:=by
 obtain⟨m,_,hm⟩:=ins_wrong h hi
 obtain⟨h1,h2⟩:=wrong_key h
 have hk:hiS i.key:=by
  rcases wrongIns_key hm with h3|h3|h3
  ·
   rw[h3];intro c hc;cases hc
  ·
   exact key_hi (h1 _ h3)
  ·
   exact key_hi (h2 _ h3)
 intro w hw
 unfold insW at hw
 rcases List.mem_cons.1 hw with rfl|hw
 ·
  exact words_hi _
 ·
  obtain⟨c,_,rfl⟩:=List.mem_map.1 hw
  exact field_hi hk
theorem printD_hi {d:Deed}(h:wrongDeed d=0):hiS (printD d):=by
 obtain⟨h1,h2⟩:=wrong_key h
 have c0:hiS wReads:=by intro c hc;revert c;decide
 have c1:hiS wWrites:=by intro c hc;revert c;decide
 have s1:hiS [32]:=by intro c hc;revert c;decide
 have s2:hiS [59,32]:=by intro c hc;revert c;decide
 refine join_hi s2 fun w hm=>?_
 unfold partsD at hm
 rcases List.mem_cons.1 hm with rfl|hm
 ·
  refine join_hi s1 fun w hw=>?_
  rcases List.mem_cons.1 hw with rfl|hw
  ·
   exact c0
  ·
   exact key_hi (h1 w hw)
 rcases List.mem_cons.1 hm with rfl|hm
 ·
  refine join_hi s1 fun w hw=>?_
  rcases List.mem_cons.1 hw with rfl|hw
  ·
   exact c1
  ·
   exact key_hi (h2 w hw)
 obtain⟨i,hi,rfl⟩:=List.mem_map.1 hm
 exact join_hi s1 (insW_hi h hi)
theorem printD_no10 {d:Deed}(h:wrongDeed d=0):(10:UInt8)∉printD d:=fun hm=>absurd (printD_hi h 10 hm) (by decide)
theorem split_lines:∀ {l:List Str},(∀ s∈l,(10:UInt8)∉s)→split (l.flatMap fun s=>s++[10]) [10]=l++[[]]:=by
 intro l h
 have key:(l.flatMap fun s=>s++[10])=joinS [10] (l++[[]]):=by
  induction l with
  |nil=>rfl
  |cons s l ih =>
   rw[List.flatMap_cons,ih fun x hx=>h x (List.mem_cons_of_mem _ hx),List.cons_append,joinS_cons]
   cases l with
   |nil=>simp[joinS,tailS]
   |cons x l=>rw[List.cons_append,joinS_cons];simp[tailS]
 rw[key]
 exact join_split_id (by simp) fun w hw=>by
  rcases List.mem_append.1 hw with hw|hw
  ·
   exact h w hw
  ·
   rw[List.mem_singleton.1 hw];simp
theorem linesD_eq (l:List Deed):linesD l=(l.map printD).flatMap fun s=>s++[10]:=by
 unfold linesD
 rw[List.flatMap_map]
theorem parseL_of:∀ {l:List Deed},(∀ d∈l,wrongDeed d=0)→parseL (l.map printD) = .ok l
 | [],_=>rfl
 |d::l,h=>by
  simp only[List.map_cons,parseL]
  rw[parse_print (h d (List.mem_cons_self ..)),parseL_of fun x hx=>h x (List.mem_cons_of_mem _ hx)]
def goL:Str→List Deed→Str→Except Int (List Deed)
 |_,acc,[] => .ok acc
 |cur,acc,c::r=>if c=10 then (match parseE cur with
  |.error e => .error e
  |.ok d=>goL [] (acc++[d]) r) else goL (cur++[c]) acc r
def accL (acc:List Deed):Except Int (List Deed)→Except Int (List Deed)
 |.error e => .error e
 |.ok l => .ok (acc++l)
theorem goL_split:∀ (r:Str) (n:Nat) (cur:Str) (acc:List Deed),r.length≤n→(splitF [10] n cur r).getLast? = some []→goL cur acc r=accL acc (parseL (splitF [10] n cur r).dropLast)
 | [],n,cur,acc,_,h=>by
  have h1:splitF [10] n cur []=[cur]:=by
   cases n with
   |zero=>simp[splitF]
   |succ n=>rw[splitF_succ];simp
  rw[h1]
  simp[goL,parseL,accL]
 |c::r,0,cur,acc,hn,h=>by simp at hn
 |c::r,n+1,cur,acc,hn,h=>by
  rw[splitF_succ]at h ⊢
  have hlen:¬ (c::r).length < ([10]:Str).length:=by simp
  rw[if_neg hlen]at h ⊢
  have hn':r.length≤n:=by simpa using hn
  by_cases hc:c=10
  ·
   subst hc
   have ht:((10:UInt8)::r).take ([10]:Str).length=[10]:=rfl
   rw[if_pos ht]at h ⊢
   have hd:((10:UInt8)::r).drop ([10]:Str).length=r:=rfl
   rw[hd]at h ⊢
   have hne:=splitF_ne [10] n [] r
   have h2:(splitF [10] n [] r).getLast? = some []:=by
    obtain⟨x,t,hx⟩:∃ x t,splitF [10] n [] r=x::t:=by
     cases hs:splitF [10] n [] r with
     |nil=>exact absurd hs hne
     |cons x t=>exact⟨x,t,rfl⟩
    rw[hx]at h ⊢
    simpa using h
   rw[List.dropLast_cons_of_ne_nil hne]
   simp only[goL,if_pos,parseL]
   cases hp:parseE cur with
   |error e=>simp[accL]
   |ok d =>
    dsimp only
    rw[goL_split r n [] (acc++[d]) hn' h2]
    cases parseL (splitF [10] n [] r).dropLast with
    |error e=>rfl
    |ok l=>simp[accL]
  ·
   have ht:(c::r).take ([10]:Str).length≠[10]:=by simp[hc]
   rw[if_neg ht]at h ⊢
   dsimp only at h ⊢
   simp only[goL]
   rw[if_neg hc]
   exact goL_split r n (cur++[c]) acc hn' h
theorem split_last:∀ (r:Str) (n:Nat) (cur:Str),r.length≤n→((splitF [10] n cur r).getLast? = some []↔(r=[]∧cur=[])∨r.getLast? = some 10)
 | [],n,cur,_=>by
  have h1:splitF [10] n cur []=[cur]:=by
   cases n with
   |zero=>simp[splitF]
   |succ n=>rw[splitF_succ];simp
  rw[h1];simp
 |c::r,0,cur,hn=>by simp at hn
 |c::r,n+1,cur,hn=>by
  have hn':r.length≤n:=by simpa using hn
  rw[splitF_succ,if_neg (by simp)]
  by_cases hc:c=10
  ·
   subst hc
   rw[if_pos (show((10:UInt8)::r).take ([10]:Str).length=[10] from rfl),show((10:UInt8)::r).drop ([10]:Str).length=r from rfl]
   have hne:=splitF_ne [10] n [] r
   obtain⟨x,t,hx⟩:∃ x t,splitF [10] n [] r=x::t:=by
    cases hs:splitF [10] n [] r with
    |nil=>exact absurd hs hne
    |cons x t=>exact⟨x,t,rfl⟩
   have h3:(cur::splitF [10] n [] r).getLast? = (splitF [10] n [] r).getLast? := by rw[hx];simp
   rw[h3,split_last r n [] hn']
   cases r with
   |nil=>simp
   |cons y r=>simp
  ·
   rw[if_neg (show ¬ (c::r).take ([10]:Str).length=[10] by simp[hc])]
   dsimp only
   rw[split_last r n (cur++[c]) hn']
   cases r with
   |nil=>simp[hc]
   |cons y r=>simp
theorem parseB_app (h0:UInt8) (L:Str) (u v:UInt8):parseB (h0::(L++[u,v])) =
  if sumN 1 (h0::L)=u.toNat*256+v.toNat then
   (if (split L [10]).getLast? = some [] then match parseL (split L [10]).dropLast with
    |.error e => .error e
    |.ok ds=>if wrongEntry ⟨h0.toNat,ds⟩=0 then .ok ⟨h0.toNat,ds⟩ else .error (wrongEntry ⟨h0.toNat,ds⟩)
   else .error 2)
  else .error 2:=by
 have hl:(h0::(L++[u,v])).length=L.length+3:=by simp
 have h1:(h0::(L++[u,v])).take (L.length+1)=h0::L:=by simp
 have h2:byteN (h0::(L++[u,v])) (L.length+1)=u.toNat:=by simp[byteN]
 have h3:byteN (h0::(L++[u,v])) (L.length+2)=v.toNat:=by simp[byteN,List.getElem?_append_right]
 have h4:byteN (h0::(L++[u,v])) 0=h0.toNat:=by simp[byteN]
 have h5:bodyB (h0::(L++[u,v]))=L:=by
  unfold bodyB
  rw[hl,show L.length+3 - 2=L.length+1 by omega,h1]
  rfl
 unfold parseB
 rw[hl,if_neg (by omega),show L.length+3 - 2=L.length+1 by omega,show L.length+3 - 1=L.length+2 by omega,h1,h2,h3,h4,h5]
 all_goals rfl
theorem bytes_form {b:Str}(h:3≤b.length):∃ h0 L u v,b=h0::(L++[u,v]):=by
 match b,h with
 |c::r,h =>
  have hl:r.length=(r.length - 2)+2:=by simp at h;omega
  have h1:r=r.take (r.length - 2)++r.drop (r.length - 2):=(List.take_append_drop _ _).symm
  have h2:(r.drop (r.length - 2)).length=2:=by rw[List.length_drop];omega
  match hd:r.drop (r.length - 2),h2 with
  | [u,v],_=>exact⟨c,r.take (r.length - 2),u,v,by rw[hd]at h1;rw[← h1]⟩
theorem sum2_eq {s:Nat}(h:s < 65521):(UInt8.ofNat (s / 256)).toNat*256+(UInt8.ofNat (s%256)).toNat=s:=by
 rw[toNat_ofNat (by omega),toNat_ofNat (by omega)];omega
theorem bytesE_eq (e:Entry):bytesE e=UInt8.ofNat e.number.toNat::(linesD e.deeds++[UInt8.ofNat (sumN 1 (headE e) / 256),UInt8.ofNat (sumN 1 (headE e)%256)]):=rfl
theorem parse_bytes {e:Entry}(h:wrongEntry e=0):parseB (bytesE e) = .ok e:=by
 obtain⟨h1,h2,h3,h4⟩:=wrongEntry_out h
 have hs:=sumN_lt (l:=headE e) (s:=1) (by omega)
 have hsp:split (linesD e.deeds) [10]=e.deeds.map printD++[[]]:=by
  rw[linesD_eq]
  exact split_lines fun s hs=>by
   obtain⟨d,hd,rfl⟩:=List.mem_map.1 hs
   exact printD_no10 (h4 d hd)
 have hhd:UInt8.ofNat e.number.toNat::linesD e.deeds=headE e:=rfl
 rw[bytesE_eq,parseB_app,hhd,if_pos (sum2_eq hs).symm,hsp,if_pos (by simp),List.dropLast_concat,parseL_of h4]
 have hn:((UInt8.ofNat e.number.toNat).toNat:Int)=e.number:=by rw[toNat_ofNat (by omega)];omega
 dsimp only
 rw[hn,if_pos h]
theorem ok_rwrongEntry (e:Entry) (hd:∀ d∈e.deeds,d.Sm) (hl:e.deeds.length≤1000000000):FnOk Tryz.prog 42 [.d (.agg e.enc)] (.one (dint (wrongEntry e))):=by
 refine fnOk_of tbl_ok mixed_ok Tryz.func42 rfl (by kernel_rfl) rfl rfl fun w0 own0=>?_
 unfold wrongEntry
 by_cases h0:e.number < 0
 ·
  rw[if_pos (.inl h0)]
  try refine wk ?_
  exact .one (.tmp rfl (.one (.d (.refl _))))
 by_cases h1:11 < e.number
 ·
  rw[if_pos (.inr h1)]
  try refine wk ?_
  exact .one (.tmp rfl (.one (.d (.refl _))))
 rw[if_neg (by omega)]
 by_cases h2:6 < e.deeds.length
 ·
  rw[if_pos h2]
  try refine wk ?_
  exact .one (.tmp rfl (.one (.d (.refl _))))
 rw[if_neg h2]
 try refine wk ?_
 refine CW.loopT (fun t:Nat=>[sp 1 0,ob 0 e.enc,sd 19 (encDeeds e.deeds),sd 20 (dint e.deeds.length),sd 21 (dint t),nxt 1])
  (fun t=>t≤e.deeds.length∧wrongs (e.deeds.drop t)=wrongs e.deeds) (fun t=>e.deeds.length - t) 0 ⟨by omega,rfl⟩ ?_ ?_
 ·
  exact by_less
 ·
  rintro i ⟨hi,hI⟩
  rcases drop_case hi with ⟨h3,h4⟩|⟨d,h3,h4,h5⟩
  ·
   rw[h3,wrongs]at hI
   try refine wk ?_
   exact .one (.tmp rfl (.one (.d (dle_int hI))))
  ·
   rw[h3]at hI
   simp only[wrongs]at hI
   have hds:=hd d (List.mem_of_getElem? h4)
   have hc:=ok_wrongDeed d hds.r hds.w hds.c hds.rk hds.wk
   by_cases h6:wrongDeed d=0
   ·
    rw[if_pos h6]at hI
    try refine wk ?_
    refine q_loopT (i+1) ⟨by omega,hI⟩ (by omega) ?_
    exact by_less
   ·
    rw[if_neg h6]at hI
    try refine wk ?_
    exact .one (.tmp rfl (.one (.d (dle_int hI))))
theorem ok_sameEnts (l r:List Entry) (hl:l.length≤268435456) (hd:∀ e∈l,e.deeds.length≤268435456∧∀ d∈e.deeds,d.Sm) :
  FnOk Tryz.prog 17 [.d (encEntries l),.d (encEntries r)] (.one (dbool (allB sameEnt l r))):=by
 refine fnOk_of tbl_ok mixed_ok Tryz.func17 rfl (by kernel_rfl) rfl rfl fun w0 own0=>?_
 by_cases hlen:l.length=r.length
 ·
  try refine wk ?_
  refine CW.loop (fun k=>[(.s 0,.av (.d (encEntries l))),(.s 1,.av (.d (encEntries r))),(.s 12,.av (.d (dint l.length))),(.s 13,.av (.d (dint k))),(.nx,.num 0)]) (agree sameEnt l r) ?_ fun k hk=>?_
  ·
   exact by_less
  ·
   rcases agree_case hlen hk with ⟨h1,h1',a,b,h2,h3,h4⟩|⟨h1,h2⟩|⟨h1,h2,a,b,h3,h4,h5⟩
   ·
    have hda:=hd a (List.mem_of_getElem? h2)
    have hc:=ok_sameDeeds a.deeds b.deeds hda.1 hda.2
    unfold sameEnt at h4
    simp only[Bool.and_eq_true,decide_eq_true_eq]at h4
    obtain⟨h6,h7⟩:=h4
    rw[h7]at hc
    try refine wk ?_
    refine q_loop h1 ?_
    exact by_less
   ·
    try refine wk ?_
    exact .one (.tmp rfl (.one (.d (dle_bool h2.symm))))
   ·
    have hda:=hd a (List.mem_of_getElem? h3)
    have hc:=ok_sameDeeds a.deeds b.deeds hda.1 hda.2
    unfold sameEnt at h5
    by_cases h6:a.number=b.number
    ·
     rw[decide_eq_true h6,Bool.true_and]at h5
     rw[h5]at hc
     try refine wk ?_
     exact .one (.tmp rfl (.one (.d (dle_bool h2.symm))))
    ·
     try refine wk ?_
     exact .one (.tmp rfl (.one (.d (dle_bool h2.symm))))
 ·
  try refine wk ?_
  refine .one (.tmp rfl (.one (.d (dle_bool ?_))))
  cases hb:allB sameEnt l r
  ·
   rfl
  ·
   exact absurd (allB_len hb) hlen
structure Replica.Sm (r:Replica):Prop where
 e:r.engine.Sm
 l:r.early.length≤134217728
 d:∀ e∈r.early,e.deeds.length≤134217728∧∀ d∈e.deeds,d.Sm
theorem ok_sameR (a b:Replica) (hs:Replica.Sm a):FnOk Tryz.prog 25 [.d (.agg a.enc),.d (.agg b.enc)] (.one (dbool (sameR a b))):=by
 refine fnOk_of tbl_ok mixed_ok Tryz.func25 rfl (by kernel_rfl) rfl rfl fun w0 own0=>?_
 have hl:=hs.l
 have c1:=ok_sameE a.engine b.engine hs.e
 have c2:=ok_sameEnts a.early b.early (by omega) fun e he=>⟨by have:=(hs.d e he).1;omega,(hs.d e he).2⟩
 unfold sameR
 cases h1:sameE a.engine b.engine
 ·
  rw[h1]at c1
  try refine wk ?_
  exact .one (.tmp rfl (.one (.d (.refl _))))
 ·
  rw[h1]at c1
  by_cases h2:a.next=b.next
  ·
   cases h3:allB sameEnt a.early b.early
   ·
    rw[h3]at c2
    try refine wk ?_
    exact .one (.tmp rfl (.one (.d (dle_bool (by simp)))))
   ·
    rw[h3]at c2
    try refine wk ?_
    exact .one (.tmp rfl (.one (.d (dle_bool (by simp[h2])))))
  ·
   try refine wk ?_
   exact .one (.tmp rfl (.one (.d (dle_bool (by simp[h2])))))
theorem sameEnt_refl (e:Entry):sameEnt e e=true:=by simp[sameEnt,allB_refl]
theorem sameR_refl (r:Replica):sameR r r=true:=by simp[sameR,sameE_refl,allB_refl sameEnt_refl]
end Go.Proofs.YtccblhpfjlgmbaaGreatDoor
namespace Go.Proofs
open Go.Shelf Go.RowKit
set_option maxRecDepth 100000
noncomputable def Tryz.lays160_ren : Go.Shelf.Ren := ⟨fun | 119 => 231 | 120 => 229 | 137 => 230 | 151 => 221 | 152 => 228 | 160 => 179 | 197 => 183 | 217 => 208 | 224 => 210 | 225 => 209 | 227 => 200 | 228 => 220 | 231 => 198 | 232 => 199 | 233 => 201 | 234 => 202 | 235 => 203 | 236 => 204 | 260 => 207 | 266 => 223 | 271 => 222 | n => n, fun | 0 => 0 | 3 => 3 | 4 => 4 | 5 => 5 | 9 => 9 | 21 => 21 | 46 => 145 | 105 => 232 | 116 => 251 | 117 => 252 | 119 => 269 | 124 => 255 | 138 => 271 | 139 => 272 | n => n, fun | 3 => (Tryz.prog.globals.findIdx? (·.name == "unicode/utf8.first")).getD 0 | 4 => (Tryz.prog.globals.findIdx? (·.name == "unicode/utf8.acceptRanges")).getD 0 | n => n⟩
theorem Tryz.lays160:Go.Proofs.Lays.n160 Tryz.prog Tryz.lays160_ren:={
 mixed:=by kernel_rfl
 f119:=Tryz.func231.trans (congrArg some (by kernel_rfl))
 f120:=Tryz.func229.trans (congrArg some (by kernel_rfl))
 f137:=Tryz.func230.trans (congrArg some (by kernel_rfl))
 f151:=Tryz.func221.trans (congrArg some (by kernel_rfl))
 f152:=Tryz.func228.trans (congrArg some (by kernel_rfl))
 f160:=Tryz.func179.trans (congrArg some (by kernel_rfl))
 f197:=Tryz.func183.trans (congrArg some (by kernel_rfl))
 f217:=Tryz.func208.trans (congrArg some (by kernel_rfl))
 f224:=Tryz.func210.trans (congrArg some (by kernel_rfl))
 f225:=Tryz.func209.trans (congrArg some (by kernel_rfl))
 f227:=Tryz.func200.trans (congrArg some (by kernel_rfl))
 f228:=Tryz.func220.trans (congrArg some (by kernel_rfl))
 f231:=Tryz.func198.trans (congrArg some (by kernel_rfl))
 f232:=Tryz.func199.trans (congrArg some (by kernel_rfl))
 f233:=Tryz.func201.trans (congrArg some (by kernel_rfl))
 f234:=Tryz.func202.trans (congrArg some (by kernel_rfl))
 f235:=Tryz.func203.trans (congrArg some (by kernel_rfl))
 f236:=Tryz.func204.trans (congrArg some (by kernel_rfl))
 f260:=Tryz.func207.trans (congrArg some (by kernel_rfl))
 f266:=Tryz.func223.trans (congrArg some (by kernel_rfl))
 f271:=Tryz.func222.trans (congrArg some (by kernel_rfl))
 t0:=Tryz.underlying0
 a0:=Tryz.isAgg0
 z0:=Tryz.sizeOf0
 v0:=Tryz.zeroValue0
 t3:=Tryz.underlying3
 a3:=Tryz.isAgg3
 z3:=Tryz.sizeOf3
 v3:=Tryz.zeroValue3
 t4:=Tryz.underlying4
 a4:=Tryz.isAgg4
 z4:=Tryz.sizeOf4
 v4:=Tryz.zeroValue4
 t5:=Tryz.underlying5
 a5:=Tryz.isAgg5
 z5:=Tryz.sizeOf5
 v5:=Tryz.zeroValue5
 t9:=Tryz.underlying9
 a9:=Tryz.isAgg9
 z9:=Tryz.sizeOf9
 v9:=Tryz.zeroValue9
 t21:=Tryz.underlying21
 a21:=Tryz.isAgg21
 z21:=Tryz.sizeOf21
 v21:=Tryz.zeroValue21
 t46:=Tryz.underlying145
 a46:=Tryz.isAgg145
 z46:=Tryz.sizeOf145
 v46:=Tryz.zeroValue145
 t105:=Tryz.underlying232
 a105:=Tryz.isAgg232
 z105:=Tryz.sizeOf232
 v105:=Tryz.zeroValue232
 t116:=Tryz.underlying251
 a116:=Tryz.isAgg251
 z116:=Tryz.sizeOf251
 t117:=Tryz.underlying252
 a117:=Tryz.isAgg252
 z117:=Tryz.sizeOf252
 v117:=Tryz.zeroValue252
 t119:=Tryz.underlying269
 a119:=Tryz.isAgg269
 z119:=Tryz.sizeOf269
 t124:=Tryz.underlying255
 a124:=Tryz.isAgg255
 z124:=Tryz.sizeOf255
 v124:=Tryz.zeroValue255
 t138:=Tryz.underlying271
 a138:=Tryz.isAgg271
 z138:=Tryz.sizeOf271
 v138:=Tryz.zeroValue271
 t139:=Tryz.underlying272
 a139:=Tryz.isAgg272
 z139:=Tryz.sizeOf272
 v139:=Tryz.zeroValue272
 g3:=by kernel_rfl
 g4:=by kernel_rfl
 }
end Go.Proofs
namespace Go.Proofs.YtccblhpfjlgmbaaGreatDoor
open Go.AX Go.RF Go.RowKit
set_option maxRecDepth 100000
set_option maxHeartbeats 8000000
theorem ok_trim (s:Str) (hs:s.length≤1073741824):FnOk Tryz.prog 179 [.d (dstr s),.d (dstr alpha)] (.one (dstr (Lib.trimS s alpha))):=by
 refine⟨⟨_,Tryz.func179,by kernel_rfl,by kernel_rfl⟩,fun w own vs hown ha=>?_⟩
 match vs,ha with
 | [x,y],⟨h1,h2,_⟩ =>
  obtain rfl:x=str s:=rd_v h1
  obtain rfl:y=str alpha:=rd_v h2
  refine(Any.strings_Trim_laid Tryz.lays160 (by kernel_rfl) ⟨s.toArray⟩ ⟨alpha.toArray⟩ w (by show s.toArray.size≤_;simp;omega) (by decide) (ascii_of_all (by decide))).mono fun e w' he=>?_
  obtain⟨rfl,hb⟩:=he
  exact⟨_,rfl,hb,Rd.v _⟩
theorem ok_pkey (s:Str) (hs:s.length≤1073741824):FnOk Tryz.prog 155 [.d (dstr s)] (.one (dbool (key s))):=by
 refine fnOk_of tbl_ok mixed_ok Tryz.func155 rfl (by kernel_rfl) rfl rfl fun w0 own0=>?_
 have ht:=ok_trim s hs
 rw[key_trim]
 by_cases h1:1≤s.length
 ·
  by_cases h2:s.length≤6
  ·
   try refine wk ?_
   exact .one (.tmp rfl (.one (.d (dle_bool (by simp[h1,h2])))))
  ·
   try refine wk ?_
   exact .one (.tmp rfl (.one (.d (dle_bool (by simp[h2])))))
 ·
  try refine wk ?_
  exact .one (.tmp rfl (.one (.d (dle_bool (by simp[h1])))))
end Go.Proofs.YtccblhpfjlgmbaaGreatDoor
namespace Go.Proofs.YtccblhpfjlgmbaaGreatDoor
open Go.AX Go.RF
set_option maxRecDepth 100000
set_option maxHeartbeats 8000000
def regsN (k:Int):Int:=if k=3∨k=4∨k=5 then 2 else if k=7 then 0 else 1
def keyedB (k:Int):Bool:=decide (k=1∨k=6∨k=7)
def loI (k:Int):Int:=if k=2 then -1073741824 else if k=8 then 1 else 0
def hiI (k m:Int):Int:=if k=2 then 1073741824 else if k=8 then m else 0
def outI (n lo hi a b x:Int):Bool:=decide (a < 0∨4≤a∨(n < 1∧a≠0)∨b < 0∨4≤b∨(n < 2∧b≠0)∨x < lo∨hi < x)
def pwrongIns (d:Deed) (m:Int) (i:Ins):Int :=
 if i.kind < 1∨9 < i.kind then 1
 else if outI (regsN i.kind) (loI i.kind) (hiI i.kind m) i.a i.b i.n=true then 3
 else if keyedB i.kind=false∧i.key≠[] then 2
 else if (i.kind=1∧isIn d.reads i.key=false)∨(keyedB i.kind=true∧i.kind≠1∧isIn d.writes i.key=false) then 9 else 0
theorem pwrong_eq (d:Deed) (m:Int) (i:Ins):pwrongIns d m i=wrongIns d m i:=by
 unfold pwrongIns wrongIns
 by_cases h:i.kind < 1∨9 < i.kind
 ·
  rw[if_pos h,if_pos h]
 rw[if_neg h,if_neg h]
 obtain⟨kd,a,b,n,key⟩:=i
 dsimp only at h ⊢
 have hout:outI (regsN kd) (loI kd) (hiI kd m) a b n=insOut kd.toNat a b n m:=by
  have hkd:kd=1∨kd=2∨kd=3∨kd=4∨kd=5∨kd=6∨kd=7∨kd=8∨kd=9:=by omega
  unfold outI insOut
  rw[Bool.eq_iff_iff]
  simp only[Bool.or_eq_true,decide_eq_true_eq]
  rcases hkd with rfl|rfl|rfl|rfl|rfl|rfl|rfl|rfl|rfl
  ·
   rw[show regsN 1=1 from rfl,show loI 1=0 from rfl,show hiI 1 m=0 from rfl,show insA (Int.toNat 1)=3 from rfl,show insB (Int.toNat 1)=0 from rfl,show insLow (Int.toNat 1)=0 from rfl,show insHigh (Int.toNat 1) m=0 from rfl]
   omega
  ·
   rw[show regsN 2=1 from rfl,show loI 2 = -1073741824 from rfl,show hiI 2 m=1073741824 from rfl,show insA (Int.toNat 2)=3 from rfl,show insB (Int.toNat 2)=0 from rfl,show insLow (Int.toNat 2) = -1073741824 from rfl,show insHigh (Int.toNat 2) m=1073741824 from rfl]
   omega
  ·
   rw[show regsN 3=2 from rfl,show loI 3=0 from rfl,show hiI 3 m=0 from rfl,show insA (Int.toNat 3)=3 from rfl,show insB (Int.toNat 3)=3 from rfl,show insLow (Int.toNat 3)=0 from rfl,show insHigh (Int.toNat 3) m=0 from rfl]
   omega
  ·
   rw[show regsN 4=2 from rfl,show loI 4=0 from rfl,show hiI 4 m=0 from rfl,show insA (Int.toNat 4)=3 from rfl,show insB (Int.toNat 4)=3 from rfl,show insLow (Int.toNat 4)=0 from rfl,show insHigh (Int.toNat 4) m=0 from rfl]
   omega
  ·
   rw[show regsN 5=2 from rfl,show loI 5=0 from rfl,show hiI 5 m=0 from rfl,show insA (Int.toNat 5)=3 from rfl,show insB (Int.toNat 5)=3 from rfl,show insLow (Int.toNat 5)=0 from rfl,show insHigh (Int.toNat 5) m=0 from rfl]
   omega
  ·
   rw[show regsN 6=1 from rfl,show loI 6=0 from rfl,show hiI 6 m=0 from rfl,show insA (Int.toNat 6)=3 from rfl,show insB (Int.toNat 6)=0 from rfl,show insLow (Int.toNat 6)=0 from rfl,show insHigh (Int.toNat 6) m=0 from rfl]
   omega
  ·
   rw[show regsN 7=0 from rfl,show loI 7=0 from rfl,show hiI 7 m=0 from rfl,show insA (Int.toNat 7)=0 from rfl,show insB (Int.toNat 7)=0 from rfl,show insLow (Int.toNat 7)=0 from rfl,show insHigh (Int.toNat 7) m=0 from rfl]
   omega
  ·
   rw[show regsN 8=1 from rfl,show loI 8=1 from rfl,show hiI 8 m=m from rfl,show insA (Int.toNat 8)=3 from rfl,show insB (Int.toNat 8)=0 from rfl,show insLow (Int.toNat 8)=1 from rfl,show insHigh (Int.toNat 8) m=m from rfl]
   omega
  ·
   rw[show regsN 9=1 from rfl,show loI 9=0 from rfl,show hiI 9 m=0 from rfl,show insA (Int.toNat 9)=3 from rfl,show insB (Int.toNat 9)=0 from rfl,show insLow (Int.toNat 9)=0 from rfl,show insHigh (Int.toNat 9) m=0 from rfl]
   omega
 rw[hout]
 split
 ·
  rfl
 have hkd:kd=1∨kd=2∨kd=3∨kd=4∨kd=5∨kd=6∨kd=7∨kd=8∨kd=9:=by omega
 have hk9:has kd.toNat 107=keyedB kd:=by rcases hkd with rfl|rfl|rfl|rfl|rfl|rfl|rfl|rfl|rfl <;> decide
 rw[hk9]
 cases hkb:keyedB kd with
 |false =>
  have h1:¬ kd=1:=fun e=>by subst e;cases hkb
  by_cases hk0:key=[]
  ·
   simp[hk0,h1]
  ·
   simp[hk0]
 |true =>
  simp only[Bool.true_eq_false,false_and,if_false,true_and]
  by_cases h1:kd=1
  ·
   simp only[h1,if_true,ne_eq,not_true_eq_false,false_and,or_false,true_and]
   cases isIn d.reads key <;> rfl
  ·
   simp only[h1,if_false,false_and,ne_eq,not_false_eq_true,true_and,false_or]
   cases isIn d.writes key <;> rfl
theorem ok_regs (k:Int):FnOk Tryz.prog 156 [.d (dint k)] (.one (dint (regsN k))):=by
 refine fnOk_of tbl_ok mixed_ok Tryz.func156 rfl (by kernel_rfl) rfl rfl fun w0 own0=>?_
 unfold regsN
 by_cases h3:k=3
 ·
  rw[if_pos (.inl h3)]
  try refine wk ?_
  exact .one (.tmp rfl (.one (.d (.refl _))))
 by_cases h4:k=4
 ·
  rw[if_pos (.inr (.inl h4))]
  try refine wk ?_
  exact .one (.tmp rfl (.one (.d (.refl _))))
 by_cases h5:k=5
 ·
  rw[if_pos (.inr (.inr h5))]
  try refine wk ?_
  exact .one (.tmp rfl (.one (.d (.refl _))))
 rw[if_neg (by omega)]
 by_cases h7:k=7
 ·
  rw[if_pos h7]
  try refine wk ?_
  exact .one (.tmp rfl (.one (.d (.refl _))))
 ·
  rw[if_neg h7]
  try refine wk ?_
  exact .one (.tmp rfl (.one (.d (.refl _))))
theorem ok_instr (d:Deed) (i:Ins) (m:Int) (hr:d.reads.length≤268435456) (hw:d.writes.length≤268435456) :
  FnOk Tryz.prog 124 [.pd d.enc,.d (.agg i.enc),.d (dint m)] (.one (dint (wrongIns d m i))):=by
 refine fnOk_of tbl_ok mixed_ok Tryz.func124 rfl (by kernel_rfl) rfl rfl fun w0 own0=>?_
 rw[← pwrong_eq]
 have cr:=ok_regs i.kind
 have c1:=ok_containsS d.reads i.key (by omega)
 have c2:=ok_containsS d.writes i.key (by omega)
 have hst0:StopR 1:=⟨rfl⟩
 try refine wkS ?_
 clear hst0
 refine Stop.cutk [sd 7 (dbool (keyedB i.kind))] [.s 0,.s 2,.s 4,.o 0,.nx] ?_ ?_
 ·
  by_cases h1:i.kind=1
  ·
   rw[show keyedB i.kind=true from decide_eq_true (.inl h1)]
   try refine wk ?_
   refine q_cut ?_
   exact by_less
  by_cases h6:i.kind=6
  ·
   rw[show keyedB i.kind=true from decide_eq_true (.inr (.inl h6))]
   try refine wk ?_
   refine q_cut ?_
   exact by_less
  by_cases h7:i.kind=7
  ·
   rw[show keyedB i.kind=true from decide_eq_true (.inr (.inr h7))]
   try refine wk ?_
   refine q_cut ?_
   exact by_less
  ·
   rw[show keyedB i.kind=false from decide_eq_false (by omega)]
   try refine wk ?_
   refine q_cut ?_
   exact by_less
 have hst0:StopA 3:=⟨rfl⟩
 try refine wkS ?_
 clear hst0
 refine Stop.cutk [sd 8 (dint (loI i.kind)),sd 9 (dint (hiI i.kind m))] [.s 0,.s 4,.s 7,.o 0,.nx] ?_ ?_
 ·
  by_cases h2:i.kind=2
  ·
   rw[show loI i.kind = -1073741824 from if_pos h2,show hiI i.kind m=1073741824 from if_pos h2]
   try refine wk ?_
   refine q_cut ?_
   exact by_less
  by_cases h8:i.kind=8
  ·
   rw[show loI i.kind=1 by unfold loI;rw[if_neg h2,if_pos h8],show hiI i.kind m=m by unfold hiI;rw[if_neg h2,if_pos h8]]
   try refine wk ?_
   refine q_cut ?_
   exact by_less
  ·
   rw[show loI i.kind=0 by unfold loI;rw[if_neg h2,if_neg h8],show hiI i.kind m=0 by unfold hiI;rw[if_neg h2,if_neg h8]]
   try refine wk ?_
   refine q_cut ?_
   exact by_less
 unfold pwrongIns
 generalize regsN i.kind=n at cr ⊢
 generalize loI i.kind=lo
 generalize hiI i.kind m=hi
 by_cases hk0:i.kind < 1
 ·
  rw[if_pos (.inl hk0)]
  try refine wk ?_
  exact .one (.tmp rfl (.one (.d (.refl _))))
 by_cases hk9:9 < i.kind
 ·
  rw[if_pos (.inr hk9)]
  try refine wk ?_
  exact .one (.tmp rfl (.one (.d (.refl _))))
 rw[if_neg (by omega)]
 have hst0:StopA 11:=⟨rfl⟩
 try refine wkS ?_
 clear hst0
 refine Stop.cutk [sd 43 (dbool (outI n lo hi i.a i.b i.n))] [.s 0,.s 4,.s 7,.o 0,.nx] ?_ ?_
 ·
  have T:(i.a < 0∨4≤i.a∨(n < 1∧i.a≠0)∨i.b < 0∨4≤i.b∨(n < 2∧i.b≠0)∨i.n < lo∨hi < i.n)→outI n lo hi i.a i.b i.n=true:=fun h=>decide_eq_true h
  have F:¬ (i.a < 0∨4≤i.a∨(n < 1∧i.a≠0)∨i.b < 0∨4≤i.b∨(n < 2∧i.b≠0)∨i.n < lo∨hi < i.n)→outI n lo hi i.a i.b i.n=false:=fun h=>decide_eq_false h
  by_cases ha0:i.a < 0
  ·
   rw[T (by omega)]
   try refine wk ?_
   refine q_cut ?_
   exact by_less
  by_cases ha4:4≤i.a
  ·
   rw[T (by omega)]
   try refine wk ?_
   refine q_cut ?_
   exact by_less
  by_cases hn1:n < 1
  ·
   by_cases ha:i.a=0
   ·
    skip
    by_cases hb0:i.b < 0
    ·
     rw[T (by omega)]
     try refine wk ?_
     refine q_cut ?_
     exact by_less
    by_cases hb4:4≤i.b
    ·
     rw[T (by omega)]
     try refine wk ?_
     refine q_cut ?_
     exact by_less
    by_cases hn2:n < 2
    ·
     by_cases hb:i.b=0
     ·
      skip
      by_cases hx0:i.n < lo
      ·
       rw[T (by omega)]
       try refine wk ?_
       refine q_cut ?_
       exact by_less
      by_cases hx1:hi < i.n
      ·
       rw[T (by omega)]
       try refine wk ?_
       refine q_cut ?_
       exact by_less
      rw[F (by omega)]
      try refine wk ?_
      refine q_cut ?_
      exact by_less
     ·
      rw[T (by omega)]
      try refine wk ?_
      refine q_cut ?_
      exact by_less
    by_cases hx0:i.n < lo
    ·
     rw[T (by omega)]
     try refine wk ?_
     refine q_cut ?_
     exact by_less
    by_cases hx1:hi < i.n
    ·
     rw[T (by omega)]
     try refine wk ?_
     refine q_cut ?_
     exact by_less
    rw[F (by omega)]
    try refine wk ?_
    refine q_cut ?_
    exact by_less
   ·
    rw[T (by omega)]
    try refine wk ?_
    refine q_cut ?_
    exact by_less
  by_cases hb0:i.b < 0
  ·
   rw[T (by omega)]
   try refine wk ?_
   refine q_cut ?_
   exact by_less
  by_cases hb4:4≤i.b
  ·
   rw[T (by omega)]
   try refine wk ?_
   refine q_cut ?_
   exact by_less
  by_cases hn2:n < 2
  ·
   by_cases hb:i.b=0
   ·
    skip
    by_cases hx0:i.n < lo
    ·
     rw[T (by omega)]
     try refine wk ?_
     refine q_cut ?_
     exact by_less
    by_cases hx1:hi < i.n
    ·
     rw[T (by omega)]
     try refine wk ?_
     refine q_cut ?_
     exact by_less
    rw[F (by omega)]
    try refine wk ?_
    refine q_cut ?_
    exact by_less
   ·
    rw[T (by omega)]
    try refine wk ?_
    refine q_cut ?_
    exact by_less
  by_cases hx0:i.n < lo
  ·
   rw[T (by omega)]
   try refine wk ?_
   refine q_cut ?_
   exact by_less
  by_cases hx1:hi < i.n
  ·
   rw[T (by omega)]
   try refine wk ?_
   refine q_cut ?_
   exact by_less
  rw[F (by omega)]
  try refine wk ?_
  refine q_cut ?_
  exact by_less
 cases ho:outI n lo hi i.a i.b i.n with
 |true =>
  rw[if_pos rfl]
  try refine wk ?_
  exact .one (.tmp rfl (.one (.d (.refl _))))
 |false =>
  rw[if_neg (by simp)]
  by_cases hkey:i.key=[]
  ·
   rw[if_neg (fun h=>h.2 hkey)]
   by_cases h1:i.kind=1
   ·
    have hk1:keyedB i.kind=true:=decide_eq_true (.inl h1)
    rw[hk1]
    cases hin:isIn d.reads i.key with
    |false =>
     rw[if_pos (.inl ⟨h1,rfl⟩)]
     rw[hin]at c1
     repeat(first|refine wa ?_|((with_reducible apply s5);(first|exact a_call c1 rfl by_sub|((with_reducible apply a_nilpd);(iterate 2 exact rfl))|exact by_oa|exact by_ca);exact by_g)|refine wb ?_)
     exact .one (.tmp rfl (.one (.d (.refl _))))
    |true =>
     rw[if_neg (by simp[h1])]
     rw[hin]at c1
     repeat(first|refine wa ?_|((with_reducible apply s5);(first|exact a_call c1 rfl by_sub|((with_reducible apply a_nilpd);(iterate 2 exact rfl))|exact by_oa|exact by_ca);exact by_g)|refine wb ?_)
     exact .one (.tmp rfl (.one (.d (.refl _))))
   ·
    cases hkb:keyedB i.kind with
    |false =>
     rw[if_neg (by simp[h1])]
     try refine wk ?_
     exact .one (.tmp rfl (.one (.d (.refl _))))
    |true =>
     cases hin:isIn d.writes i.key with
     |false =>
      rw[if_pos (.inr ⟨rfl,h1,rfl⟩)]
      rw[hin]at c2
      repeat(first|refine wa ?_|((with_reducible apply s5);(first|exact a_call c2 rfl by_sub|((with_reducible apply a_nilpd);(iterate 2 exact rfl))|exact by_oa|exact by_ca);exact by_g)|refine wb ?_)
      exact .one (.tmp rfl (.one (.d (.refl _))))
     |true =>
      rw[if_neg (by simp[h1])]
      rw[hin]at c2
      repeat(first|refine wa ?_|((with_reducible apply s5);(first|exact a_call c2 rfl by_sub|((with_reducible apply a_nilpd);(iterate 2 exact rfl))|exact by_oa|exact by_ca);exact by_g)|refine wb ?_)
      exact .one (.tmp rfl (.one (.d (.refl _))))
  ·
   by_cases h1:i.kind=1
   ·
    have hk1:keyedB i.kind=true:=decide_eq_true (.inl h1)
    rw[hk1,if_neg (by simp)]
    cases hin:isIn d.reads i.key with
    |false =>
     rw[if_pos (.inl ⟨h1,rfl⟩)]
     rw[hin]at c1
     repeat(first|refine wa ?_|((with_reducible apply s5);(first|exact a_call c1 rfl by_sub|((with_reducible apply a_nilpd);(iterate 2 exact rfl))|exact by_oa|exact by_ca);exact by_g)|refine wb ?_)
     exact .one (.tmp rfl (.one (.d (.refl _))))
    |true =>
     rw[if_neg (by simp[h1])]
     rw[hin]at c1
     repeat(first|refine wa ?_|((with_reducible apply s5);(first|exact a_call c1 rfl by_sub|((with_reducible apply a_nilpd);(iterate 2 exact rfl))|exact by_oa|exact by_ca);exact by_g)|refine wb ?_)
     exact .one (.tmp rfl (.one (.d (.refl _))))
   ·
    cases hkb:keyedB i.kind with
    |false =>
     rw[if_pos ⟨rfl,hkey⟩]
     try refine wk ?_
     exact .one (.tmp rfl (.one (.d (.refl _))))
    |true =>
     rw[if_neg (by simp)]
     cases hin:isIn d.writes i.key with
     |false =>
      rw[if_pos (.inr ⟨rfl,h1,rfl⟩)]
      rw[hin]at c2
      repeat(first|refine wa ?_|((with_reducible apply s5);(first|exact a_call c2 rfl by_sub|((with_reducible apply a_nilpd);(iterate 2 exact rfl))|exact by_oa|exact by_ca);exact by_g)|refine wb ?_)
      exact .one (.tmp rfl (.one (.d (.refl _))))
     |true =>
      rw[if_neg (by simp[h1])]
      rw[hin]at c2
      repeat(first|refine wa ?_|((with_reducible apply s5);(first|exact a_call c2 rfl by_sub|((with_reducible apply a_nilpd);(iterate 2 exact rfl))|exact by_oa|exact by_ca);exact by_g)|refine wb ?_)
      exact .one (.tmp rfl (.one (.d (.refl _))))
theorem ok_dkeys (l:List Str) (hl:l.length≤268435456) (hk:∀ s∈l,s.length≤1073741824):FnOk Tryz.prog 123 [.d (encStrs l)] (.one (dint (keysWrong l))):=by
 refine fnOk_of tbl_ok mixed_ok Tryz.func123 rfl (by kernel_rfl) rfl rfl fun w0 own0=>?_
 unfold keysWrong
 by_cases h4:5 < l.length
 ·
  rw[if_pos h4]
  try refine wk ?_
  exact .one (.tmp rfl (.one (.d (.refl _))))
 ·
  rw[if_neg h4]
  try refine wk ?_
  refine CW.loopT (fun t:Nat=>[sd 0 (encStrs l),sd 2 (dint 0),sd 8 (encStrs l),sd 9 (dint l.length),sd 10 (dint t),nxt 0])
   (fun t=>t≤l.length∧keysGo l t (l.drop t)=keysGo l 0 l) (fun t=>l.length - t) 0 ⟨by omega,rfl⟩ ?_ ?_
  ·
   exact by_less
  ·
   rintro i ⟨hi,hJ⟩
   rcases drop_case hi with ⟨h5,h6⟩|⟨k,h5,h6,h7⟩
   ·
    rw[h5,keysGo]at hJ
    try refine wk ?_
    rw[← hJ]
    exact .one (.tmp rfl (.one (.d (.refl _))))
   ·
    rw[h5,keysGo]at hJ
    have hck:=ok_pkey k (hk k (List.mem_of_getElem? h6))
    have hin:FnOk Tryz.prog 112 [.d (.sl 1 ((l.map encStr1).take i)),.d (dstr k)] (.one (dbool (isIn (l.take i) k))):=by
     rw[← List.map_take]
     exact ok_containsS (l.take i) k (by rw[List.length_take];omega)
    cases h8:key k with
    |false =>
     rw[h8]at hck
     rw[if_pos h8]at hJ
     try refine wk ?_
     rw[← hJ]
     exact .one (.tmp rfl (.one (.d (.refl _))))
    |true =>
     rw[h8]at hck
     rw[if_neg (by simp[h8])]at hJ
     cases h9:isIn (l.take i) k with
     |false =>
      rw[h9]at hin
      rw[if_neg (by simp[h9])]at hJ
      repeat(first|refine wa ?_|((with_reducible apply s5);(first|exact a_call hin rfl by_sub|exact by_oa|exact by_ca);exact by_g)|refine wb ?_)
      refine q_loopT (i+1) ⟨by omega,hJ⟩ (by omega) ?_
      exact by_less
     |true =>
      rw[h9]at hin
      rw[if_pos h9]at hJ
      repeat(first|refine wa ?_|((with_reducible apply s5);(first|exact a_call hin rfl by_sub|exact by_oa|exact by_ca);exact by_g)|refine wb ?_)
      rw[← hJ]
      exact .one (.tmp rfl (.one (.d (.refl _))))
theorem ok_pwrongDeed (d:Deed) (hs:d.Sm):FnOk Tryz.prog 93 [.d (.agg d.enc)] (.one (dint (wrongDeed d))):=by
 refine fnOk_of tbl_ok mixed_ok Tryz.func93 rfl (by kernel_rfl) rfl rfl fun w0 own0=>?_
 have hc:=hs.c
 repeat(first|((with_reducible apply s5);((with_reducible apply a_bs ([d.reads,d.writes].map fun l=>[encStrs l]));(iterate 9 exact rfl);(repeat(first|exact PartsE.nil|(apply PartsE.cons;exact rfl;exact rfl))));exact by_g)|refine wa1 ?_|((with_reducible apply s5);(first|exact by_oa|exact by_ca);exact by_g)|refine wb ?_)
 refine CW.loopT (fun j:Nat=>[sp 1 0,ob 0 d.enc,sd 2 (dint 0),sd 13 (.sl 1 ([d.reads,d.writes].map fun l=>[encStrs l])),sd 14 (dint 2),sd 15 (dint j),nxt 1])
  (fun j=>j≤[d.reads,d.writes].length∧lsGo ([d.reads,d.writes].drop j)=lsGo [d.reads,d.writes]) (fun j=>2 - j) 0 ⟨by simp,rfl⟩ ?_ ?_
 ·
  exact by_less
 ·
  rintro j ⟨hj,hI⟩
  have hj2:j≤2:=hj
  rcases drop_case hj with ⟨h1,h2⟩|⟨l,h1,h2,h3⟩
  ·
   have h2':j=2:=h2
   rw[h1]at hI
   have hI':lsGo [d.reads,d.writes]=0:=hI.symm
   unfold wrongDeed
   rw[if_pos hI']
   by_cases h4:12 < d.code.length
   ·
    rw[if_pos h4]
    try refine wk ?_
    exact .one (.tmp rfl (.one (.d (.refl _))))
   ·
    rw[if_neg h4]
    try refine wk ?_
    refine CW.loopT (fun k:Nat=>[sp 1 0,ob 0 d.enc,sd 2 (dint 0),sd 30 (encCode d.code),sd 31 (dint d.code.length),sd 32 (dint k),nxt 1])
     (fun k=>k≤d.code.length∧codeGo d k (d.code.drop k)=codeGo d 0 d.code) (fun k=>d.code.length - k) 0 ⟨by omega,rfl⟩ ?_ ?_
    ·
     exact by_less
    ·
     rintro k ⟨hk,hJ⟩
     rcases drop_case hk with ⟨h5,h6⟩|⟨i,h5,h6,h7⟩
     ·
      rw[h5,codeGo]at hJ
      try refine wk ?_
      rw[← hJ]
      exact .one (.tmp rfl (.one (.d (.refl _))))
     ·
      rw[h5,codeGo]at hJ
      have ci:FnOk Tryz.prog 124 [.pd d.enc,.d (.agg i.enc),.d (dint (((d.code.map Ins.enc).length:Int) - 1 - k))] (.one (dint (wrongIns d ((d.code.length:Int) - 1 - k) i))):=by
       rw[List.length_map];exact ok_instr d i ((d.code.length:Int) - 1 - k) hs.r hs.w
      by_cases h8:wrongIns d ((d.code.length:Int) - 1 - k) i=0
      ·
       rw[if_pos h8]at hJ
       rw[h8]at ci
       repeat(first|refine wa ?_|((with_reducible apply s5);(first|exact a_call ci rfl by_sub|exact by_oa|exact by_ca);exact by_g)|refine wb ?_)
       refine q_loopT (k+1) ⟨by omega,hJ⟩ (by omega) ?_
       exact by_less
      ·
       rw[if_neg h8]at hJ
       repeat(first|refine wa ?_|((with_reducible apply s5);(first|exact a_call ci rfl by_sub|exact by_oa|exact by_ca);exact by_g)|refine wb ?_)
       rw[← hJ]
       exact .one (.tmp rfl (.one (.d (.refl _))))
  ·
   rw[h1,lsGo]at hI
   have h3':j < 2:=h3
   have hl:l.length≤268435456∧∀ s∈l,s.length≤1073741824:=by
    have:=List.mem_of_getElem? h2
    simp at this
    rcases this with rfl|rfl
    ·
     exact⟨hs.r,hs.rk⟩
    ·
     exact⟨hs.w,hs.wk⟩
   have ck:=ok_dkeys l hl.1 hl.2
   by_cases h8:keysWrong l=0
   ·
    rw[if_pos h8]at hI
    rw[h8]at ck
    try refine wk ?_
    refine q_loopT (j+1) ⟨by simp;omega,hI⟩ (by omega) ?_
    exact by_less
   ·
    rw[if_neg h8]at hI
    unfold wrongDeed
    rw[if_neg (by rw[← hI];exact h8)]
    try refine wk ?_
    rw[← hI]
    exact .one (.tmp rfl (.one (.d (.refl _))))
theorem ok_pnew (r:List Pair) (hl:r.length≤134217728):FnOk Tryz.prog 61 [.d (encRows r)] (.one (.agg (newE r).enc)):=by
 refine fnOk_of tbl_ok mixed_ok Tryz.func61 rfl (by kernel_rfl) rfl rfl fun w0 own0=>?_
 have c1:=ok_of r hl
 try refine wk ?_
 exact .one (.cell rfl rfl rfl rfl (.aggd (ds:=[encChains (r.map rowChain),.v nilS,.v nilS,.v nilS,dint 0]) rfl (DLes.agg (.cons (.refl _) (.cons (dle_nil 3) (.cons (dle_nil 1) (.cons (dle_nil 5) (.cons (.refl _) .nil))))))))
theorem ok_padde (e:Engine) (l:List Deed) (N:Nat) (hE:EInv e N) (hS:SInv e) (hd:∀ d∈l,d.Sm) (hl:l.length≤10000000) (hN:N≤50000000) :
  FnOk Tryz.prog 101 [.d (.agg e.enc),.d (encDeeds l)] (.tup [.agg (addE e l).1.enc,dint (addE e l).2]):=by
 refine fnOk_of tbl_ok mixed_ok Tryz.func101 rfl (by kernel_rfl) rfl rfl fun w0 own0=>?_
 try refine wk ?_
 refine CW.loopT (fun i:Nat=>[sd 1 (encDeeds l),sp 2 0,ob 0 e.enc,sp 4 1,ob 1 noE.enc0,sd 5 (dint 0),sd 15 (encDeeds l),sd 16 (dint l.length),sd 17 (dint i),nxt 2])
  (fun i=>i≤l.length∧wrongs (l.drop i)=wrongs l) (fun i=>l.length - i) 0 ⟨by omega,rfl⟩ ?_ ?_
 ·
  exact by_less
 ·
  rintro i ⟨hi,hI⟩
  rcases drop_case hi with ⟨h1,h2⟩|⟨d,h1,h2,h3⟩
  ·
   rw[h1,wrongs]at hI
   have hw:wrongs l=0:=hI.symm
   have hok:=wrongs_mem hw
   have hres:addE e l=(addAll e l,0):=by rw[addE,if_pos hw]
   rw[hres]
   have hs:=hE.z.sm (by omega)
   have co:=news_planOwn e hs
   repeat(first|refine wa ?_|((with_reducible apply s5);(first|exact a_callnews co rfl rfl by_sub|exact by_oa|exact by_ca);exact by_g)|refine wb ?_)
   refine CW.loopT (fun t:Nat×Engine=>[sd 1 (encDeeds l),sp 4 1,ob 1 noE.enc0,sd 5 (dint 0),sp 9 5,(.o 5,.ob (.box [.d (encChains t.2.chains),.own 2 (t.2.deeds.map Deed.enc).length,.own 3 (t.2.state.map encInt1).length,.own 4 (t.2.ends.map Done.enc).length,.d (dint t.2.base)])),
     oa 2 77 3 (t.2.deeds.map Deed.enc),oa 3 3 1 (t.2.state.map encInt1),oa 4 82 5 (t.2.ends.map Done.enc),sd 30 (encDeeds l),sd 31 (dint l.length),sd 32 (dint t.1),nxt 6])
    (fun t=>t.1≤l.length∧EInv t.2 (N+5*t.1)∧SInv t.2∧addAll t.2 (l.drop t.1)=addAll e l) (fun t=>l.length - t.1) (0,e) ⟨by omega,hE,hS,rfl⟩ ?_ ?_
   ·
    exact by_less
   ·
    rintro ⟨i,x⟩ ⟨hi,hX,hSx,hJ⟩
    dsimp only at hi hX hSx hJ ⊢
    rcases drop_case hi with ⟨h1,h2⟩|⟨d,h1,h2,h3⟩
    ·
     rw[h1,addAll]at hJ
     try refine wk ?_
     rw[← hJ]
     exact .two (.cell rfl rfl rfl rfl (.agg (.cons (.d (.refl _)) (.cons (.own rfl (by simp) (.refl _)) (.cons (.own rfl (by simp) (.refl _)) (.cons (.own rfl (by simp) (.refl _)) (.cons (.d (.refl _)) .nil))))))) (.tmp rfl (.one (.d (.refl _))))
    ·
     rw[h1,addAll]at hJ
     have hdm:=List.mem_of_getElem? h2
     have hds:=hd d hdm
     have hdo:=wrongDeed_ok (hok d hdm)
     have hX1:=hX.add1 hds hdo
     have hS1:=hSx.add1 (wrong_keys (hok d hdm)).2
     have cow:=ok_deedOwn d hds
     have hz:=hX.z
     have hb:=hz.b
     have hwl:=hdo.w
     have hdl:=hz.d
     have hst:=hz.s
     have hen:=hz.n
     try refine wk ?_
     refine CW.loopT (fun t:Nat×List Chain=>[sd 1 (encDeeds l),sp 4 1,ob 1 noE.enc0,sd 5 (dint 0),sp 9 5,(.o 5,.ob (.box [.d (encChains t.2),.own 2 (x.deeds.map Deed.enc).length,.own 3 (x.state.map encInt1).length,.own 4 (x.ends.map Done.enc).length,.d (dint x.base)])),
       oa 2 77 3 (x.deeds.map Deed.enc),oa 3 3 1 (x.state.map encInt1),oa 4 82 5 (x.ends.map Done.enc),sd 30 (encDeeds l),sd 31 (dint l.length),sd 32 (dint i),
       sp 11 6,ob 6 d.enc,sd 12 (dint (x.base+x.deeds.length)),sd 43 (encStrs d.writes),sd 44 (dint d.writes.length),sd 45 (dint t.1),nxt 7])
      (fun t=>t.1≤d.writes.length∧t.2.length≤N+5*i+t.1∧(∀ c∈t.2,c.vs.length≤N+5*i+t.1)∧Srt Chain.key t.2∧addKeys (x.base+x.deeds.length) t.2 (d.writes.drop t.1)=addKeys (x.base+x.deeds.length) x.chains d.writes) (fun t=>d.writes.length - t.1) (0,x.chains) ⟨by omega,hz.c,hz.v,hSx.k,rfl⟩ ?_ ?_
     ·
      exact by_less
     ·
      rintro ⟨j,cs⟩ ⟨hj,hcl,hcv,hcs,hK⟩
      dsimp only at hj hcl hcv hcs hK ⊢
      rcases drop_case hj with ⟨g1,g2⟩|⟨k,g1,g2,g3⟩
      ·
       rw[g1,addKeys]at hK
       subst hK
       try refine wk ?_
       refine q_loopT (i+1,add1 x d) ⟨by dsimp only;omega,by dsimp only;rw[show N+5*(i+1)=N+5*i+5 by omega];exact hX1,hS1,hJ⟩ (by dsimp only;omega) ?_
       unfold add1
       exact by_less
      ·
       rw[g1,addKeys,addC_srt hcs]at hK
       have ca:=ok_padd cs k (x.base+x.deeds.length) (by omega) (fun c hc=>by have:=hcv c hc;omega) hcs
       try refine wk ?_
       refine q_loopT (j+1,addS k (x.base+x.deeds.length) cs) ⟨by dsimp only;omega,by have:=addS_len (k:=k) (b:=x.base+x.deeds.length) cs;dsimp only;omega,fun c hc=>by have:=addS_vs hcv c hc;dsimp only;omega,addS_srt hcs,hK⟩ (by dsimp only;omega) ?_
       exact by_less
  ·
   rw[h1]at hI
   simp only[wrongs]at hI
   have hc:=ok_pwrongDeed d (hd d (List.mem_of_getElem? h2))
   by_cases h4:wrongDeed d=0
   ·
    rw[if_pos h4]at hI
    rw[h4]at hc
    try refine wk ?_
    refine q_loopT (i+1) ⟨by omega,hI⟩ (by omega) ?_
    exact by_less
   ·
    rw[if_neg h4]at hI
    have hres:addE e l=(noE,wrongs l):=by rw[addE,if_neg (by rw[← hI];exact h4)]
    rw[hres]
    try refine wk ?_
    exact .two (.cell rfl rfl rfl rfl (.aggd (ds:=noE.enc0) rfl (DLes.agg (.cons (dle_nil 2) (.cons (dle_nil 3) (.cons (dle_nil 1) (.cons (dle_nil 5) (.cons (.refl _) .nil)))))))) (.tmp rfl (.one (.d (dle_int hI))))
end Go.Proofs.YtccblhpfjlgmbaaGreatDoor
namespace Go.AX
open Go.RowKit
variable {cx:Cx}{g:Nat→Value}{σ σ':St}{a:Act}{w w':World}{nx:Nat}{c:Code}{Q:Exit→St→Prop}
variable {ty:TypeId}{pos:String}{af:Array Edge}{gd:Option (Nat×Bool)}{d:Nat}
theorem ref_pd {v:Value}{ds:List D}(h:Rep cx g σ w v (.d (refD ds))):Rep cx g σ w v (.pd ds):=by
 obtain⟨ad,h1,h2,h3,h4⟩:=rd_x h
 exact⟨ad,h1,.inr h2,h3,h4⟩
theorem a_faref {t:TypeId}{x:Operand}{cells:List D}{ti:TI}{f off:Nat}(hx:ev σ x=some (.d (refD cells))) (ht:tget cx.T t=some ti) (hf:fldOff ti f=some off) (hd:Nat.blt d cx.n=true) :
  OA cx σ ⟨some d,.fieldAddr t x f,ty,pos,af,gd⟩ ⟨rdOf x (.d (refD cells)),[(.s d,.av (.pd (cells.drop off)))]⟩:=by
 refine⟨ok_val rfl (lt_of_blt hd) fun _ a w _ _ hs hr=>?_,(ev_out hx).2⟩
 obtain⟨ad,hv,h1,h2,hc⟩:=ref_pd (hs.ev (ev_out hx).1 hr).1
 exact⟨.pointer (some (ad.add off)),w,by simp[execOp,hv,fieldAt_of (cx.hT t ti ht) hf],Below.refl _ _,
  ⟨_,rfl,by rw[add_block];exact h1,by rw[add_block];exact h2,hc.drop off⟩,trivial⟩
theorem a_ldref {t:TypeId}{x:Operand}{cells:List D}{ti:TI}{y:D}(hx:ev σ x=some (.d (refD cells))) (ht:tget cx.T t=some ti) (hl:ldD ti cells=some y) (hd:Nat.blt d cx.n=true) :
  OA cx σ ⟨some d,.load t x,ty,pos,af,gd⟩ ⟨rdOf x (.d (refD cells)),[(.s d,.av (.d y))]⟩:=by
 refine⟨ok_val rfl (lt_of_blt hd) fun _ a w _ _ hs hr=>?_,(ev_out hx).2⟩
 obtain⟨ad,hv,_,_,hc⟩:=ref_pd (hs.ev (ev_out hx).1 hr).1
 obtain⟨v,h1,h2⟩:=run_load_cells (cx.hT t ti ht) hc hl
 exact⟨v,w,by simp[execOp,hv,h1],Below.refl _ _,h2,trivial⟩
theorem a_nilref {x:Operand}{cells:List D}(hx:ev σ x=some (.d (refD cells))) (hd:Nat.blt d cx.n=true) :
  OA cx σ ⟨some d,.nilCheck x,ty,pos,af,gd⟩ ⟨rdOf x (.d (refD cells)),[(.s d,.av (.d (refD cells)))]⟩:=by
 refine⟨ok_val rfl (lt_of_blt hd) fun _ a w _ _ hs hr=>?_,(ev_out hx).2⟩
 have h:=(hs.ev (ev_out hx).1 hr).1
 obtain⟨ad,hv,_,_,hc⟩:=ref_pd h
 refine⟨_,w,?_,Below.refl _ _,h,trivial⟩
 simp[execOp,hv]
inductive Lent (σ:St):List AV→List D→List (Key×Val)→Prop
 |nil:Lent σ [] [] []
 |d {x:D} {cs:List AV} {ds:List D} {l:List (Key×Val)} (h:Lent σ cs ds l):Lent σ (.d x::cs) (x::ds) l
 |own {id n e k:Nat} {rows:List (List D)} {cs:List AV} {ds:List D} {l:List (Key×Val)} (ho:get σ (.o id) = .ob (.arr e k rows)) (hn:n=rows.length) (h:Lent σ cs ds l) :
   Lent σ (.own id n::cs) (.sl k rows::ds) ((.o id,.ob (.arr e k rows))::l)
theorem Lent.app {cs:List AV}{ds:List D}{l:List (Key×Val)}(h:Lent σ cs ds l):App σ l:=by
 induction h with
 |nil=>trivial
 |d h ih=>exact ih
 |own ho hn h ih=>exact⟨ho,ih⟩
def lids:List AV→List Nat
 | []=>[]
 |.own id _::r=>id::lids r
 |_::r=>lids r
theorem Lent.rd {σ0:St}{own':Nat→Prop}(hs:SimG cx σ a w g nx) (hle:∀ b,own' b→cx.own g σ b):∀ {cs:List AV}{ds:List D}{l:List (Key×Val)},Lent σ0 cs ds l→App σ l→(∀ i∈lids cs,∀ b,own' b→blk (g i)≠some b) →
  ds.length=cs.length∧∀ (j:Nat) (z:D) (av:AV) (v:Value),ds[j]? = some z→cs[j]? = some av→Rep1 cx g σ w v av→Rd w own' v z:=by
 intro cs ds l h
 induction h with
 |nil=>exact fun _ _=>⟨rfl,fun j z av v hz=>by simp at hz⟩
 |@d x cs ds l h ih =>
  intro ha hb
  obtain⟨h1,h2⟩:=ih ha hb
  refine⟨by simp[h1],fun j z av v hz hav hr=>?_⟩
  cases j with
  |zero=>simp at hz hav;subst hz hav;exact Rd.less hle hr
  |succ j=>exact h2 j z av v (by simpa using hz) (by simpa using hav) hr
 |@own id n e k rows cs ds l ho hn h ih =>
  intro ha hb
  obtain⟨h1,h2⟩:=ih ha.2 fun i hi=>hb i (List.mem_cons_of_mem _ hi)
  refine⟨by simp[h1],fun j z av v hz hav hr=>?_⟩
  cases j with
  |zero =>
   simp at hz hav
   subst hz hav
   have ho':get σ (.o id) = .ob (.arr e k rows):=ha.1
   have hv:v=g id:=(hr.2 e k rows ho').2 hn
   rw[hv]
   exact(objRows hs ho').rd fun b h=>⟨hle b h,hb id (List.mem_cons_self ..) b h⟩
  |succ j=>exact h2 j z av v (by simpa using hz) (by simpa using hav) hr
theorem a_lendbox {f:FuncId}{x:Operand}{r:Res}{ats:Array TypeId}{id:Nat}{cells:List AV}{ds:List D}{lv:List (Key×Val)}
  (hc:FnOk cx.P f [.d (refD ds)] r) (hx:ev σ x=some (.ptr id 0)) (ho:get σ (.o id) = .ob (.box cells)) (hv:Lent σ cells ds lv) (hp:plainR r=true) (hd:Nat.blt d cx.n=true) :
  OA cx σ ⟨some d,.call { callee := .value (.func f),args := #[x],argTypes:=ats },ty,pos,af,gd⟩ ⟨rdOf x (.ptr id 0)++((.o id,.ob (.box cells))::lv),[(.s d,.av r.av)]⟩:=by
 refine⟨?_,(ev_out hx).2.append ⟨ho,hv.app⟩⟩
 rintro σ1 a w K Q ⟨g,nx,hs⟩ hr hK
 have hxv:=hs.ev (ev_out hx).1 hr.left
 have ho1:get σ1 (.o id) = .ob (.box cells):=hr.right.1
 have hlv:App σ1 lv:=hr.right.2
 obtain⟨b0,hg0,hval⟩:=hxv.1.2 _ ho1
 obtain⟨_,⟨b,cs,t,h0,h1,h2,h3,h4,h5⟩,_⟩:=hs.objs id _ ho1
 obtain rfl:b0=b:=by rw[hg0]at h0;simpa using h0
 have hlt:b0 < w.heap.size:=by
  rcases Nat.lt_or_ge b0 w.heap.size with h|h
  ·
   exact h
  ·
   rw[Array.getElem?_eq_none h]at h2;cases h2
 obtain⟨hlen,hrd⟩:=Lent.rd (own':=fun b=>cx.own g σ1 b∧blk (g id)≠some b∧∀ i∈lids cells,blk (g i)≠some b) hs (fun b hb=>hb.1) hv hlv (fun i hi b hb=>hb.2.2 i hi)
 have harg:Rd w (fun b=>cx.own g σ1 b∧blk (g id)≠some b∧∀ i∈lids cells,blk (g i)≠some b) (a.eval x) (refD ds):=by
  refine rd_ref ⟨_,hval,fun h=>h.2.1 (by rw[hg0];rfl),hlt,fun j z hz=>?_⟩
  have hjd:=(List.getElem?_eq_some_iff.1 hz).1
  have hjl:j < cs.size:=by rw[h3];omega
  have hcs:cs[j]? = some cs[j]:=Array.getElem?_eq_getElem hjl
  have hav:cells[j]? = some (cells[j]'(by omega)):=List.getElem?_eq_getElem (by omega)
  exact⟨cs[j],by rw[add_lit];simp[World.cell?,h2,hcs],h4 _ _ hcs,hrd j z _ _ hz hav (h5 j _ _ hav hcs)⟩
 have hcall:=hc.calls w _ [a.eval x] ⟨fun b hb=>own_lt hs hb.1,hs.gl⟩ ⟨harg,trivial⟩
 unfold Oper.wp
 have hrun:=call_run (a:=a) (d:=d) (ty:=ty) (pos:=pos) (af:=af) (gd:=gd) (w:=w) (xs:=[x]) (ats:=ats) hc.run
 rw[hrun]
 refine hcall.mono fun z w' he=>?_
 obtain⟨v,rfl,hb,hres⟩:=he
 obtain⟨h1,h2⟩:=Res.rep (nx:=nx) (plainR_ok hp (own':=cx.own g σ1) hres)
 exact hK _ _ (Sim.put hs (lt_of_blt hd) hb h1 h2)
end Go.AX
namespace Go.Proofs.YtccblhpfjlgmbaaGreatDoor
open Go.AX Go.RF
set_option maxRecDepth 100000
set_option maxHeartbeats 8000000
theorem new_logOwn (l:List Entry) (hl:l.length≤134217728) (hd:∀ e∈l,e.deeds.length≤134217728∧∀ d∈e.deeds,d.Sm):FnNew Tryz.prog 50 [.d (encEntries l)] 71 2 (l.map Entry.enc):=by
 refine fnNew_of tbl_ok mixed_ok Tryz.func50 rfl (by kernel_rfl) rfl rfl fun w0 own0=>?_
 try refine wk ?_
 refine CW.stut (stut_promote (i:=3) 71 2) ⟨rfl,rfl,trivial⟩ ?_
 refine CW.loopT (fun i:Nat=>[sd 9 (encEntries l),sd 10 (dint l.length),sd 11 (dint i),so 3 0 i,oa 0 71 2 ((l.take i).map Entry.enc),nxt 1]) (fun i=>i≤l.length) (fun i=>l.length - i) 0 (by omega) ?_ ?_
 ·
  exact by_less
 ·
  rintro i hi
  rcases drop_case hi with ⟨h1,h2⟩|⟨e,h1,h2,h3⟩
  ·
   subst h2
   rw[List.take_length]
   try refine wk ?_
   exact RetNew.own rfl rfl (by simp)
  ·
   have h4:(l.take i).map Entry.enc++[e.enc]=(l.take (i+1)).map Entry.enc:=by rw[List.take_add_one,h2];simp
   obtain⟨hel,hed⟩:=hd e (List.mem_of_getElem? h2)
   try refine wk ?_
   refine CW.stut (stut_promote_cell (id:=2) (j:=1) 77 3 rfl) ⟨rfl,rfl,trivial⟩ ?_
   refine CW.loopT (fun j:Nat=>[sd 9 (encEntries l),sd 10 (dint l.length),sd 11 (dint i),so 3 0 i,oa 0 71 2 ((l.take i).map Entry.enc),sp 6 2,(.o 2,.ob (.box [.d (dint e.number),.own 3 j])),oa 3 77 3 ((e.deeds.take j).map Deed.enc),sd 19 (encDeeds e.deeds),sd 20 (dint e.deeds.length),sd 21 (dint j),nxt 4])
    (fun j=>j≤e.deeds.length) (fun j=>e.deeds.length - j) 0 (by omega) ?_ ?_
   ·
    exact by_less
   ·
    rintro j hj
    rcases drop_case hj with ⟨h5,h6⟩|⟨d,h5,h6,h7⟩
    ·
     subst h6
     rw[List.take_length]
     have hst0:StopX 11:=⟨rfl⟩
     try refine wkS ?_
     clear hst0
     refine Stop.go (CW.stut (stut_freeze_cell (id:=2) (j:=1) (i:=3) rfl (by simp)) ⟨rfl,rfl,trivial⟩ ?_)
     have h8:(l.take i).map Entry.enc++[[dint e.number,.sl 3 (e.deeds.map Deed.enc)]]=(l.take (i+1)).map Entry.enc:=h4
     try refine wk ?_
     refine q_loopT (i+1) (by omega) (by omega) ?_
     exact by_less
    ·
     have h8:(e.deeds.take j).map Deed.enc++[d.enc]=(e.deeds.take (j+1)).map Deed.enc:=by rw[List.take_add_one,h6];simp
     have hd:=ok_deedOwn d (hed d (List.mem_of_getElem? h6))
     try refine wk ?_
     refine q_loopT (j+1) (by omega) (by omega) ?_
     exact by_less
theorem ok_logOwn (l:List Entry) (hl:l.length≤134217728) (hd:∀ e∈l,e.deeds.length≤134217728∧∀ d∈e.deeds,d.Sm):FnOk Tryz.prog 50 [.d (encEntries l)] (.one (encEntries l)):=(new_logOwn l hl hd).ok
theorem ok_repNew:FnOk Tryz.prog 36 [] (.one (.agg noR.enc)):=by
 refine fnOk_of tbl_ok mixed_ok Tryz.func36 rfl (by kernel_rfl) rfl rfl fun w0 own0=>?_
 have c1:=ok_pnew [] (by simp)
 have hc:FnOk Tryz.prog 61 [.d (.sl 2 [])] (.one (.agg (newE []).enc)):=c1
 repeat(first|refine wa ?_|((with_reducible apply s5);(first|exact a_call hc rfl by_sub|((with_reducible apply a_buildA);(iterate 4 exact rfl);(repeat(first|exact PartsV.nil|(apply PartsV.cons;exact rfl;exact rfl;(first|exact⟨rfl,trivial⟩|(apply nw_own;exact rfl;(focus first|exact rfl|(simp;done)|(simp;omega)))))));exact rfl)|exact by_oa|exact by_ca);exact by_g)|refine wb ?_)
 exact .one (.cell rfl rfl rfl rfl (.aggd (ds:=[encChains [],encDeeds [],encInts [],encEnds [],dint 0,dint 0,.v nilS]) rfl (DLes.agg (.cons (.refl _) (.cons (.refl _) (.cons (.refl _) (.cons (.refl _) (.cons (.refl _) (.cons (.refl _) (.cons (dle_nil 2) .nil))))))))))
abbrev ownR (r:Replica):List Part:=[.d (encChains r.engine.chains),.d (encDeeds r.engine.deeds),.d (encInts r.engine.state),.d (encEnds r.engine.ends),.d (dint r.engine.base),.d (dint r.next),.own 71 2 (r.early.map Entry.enc)]
theorem news_repOwn (r:Replica) (hs:Replica.Sm r):FnNews Tryz.prog 51 [.d (.agg r.enc)] (ownR r):=by
 refine fnNews_of tbl_ok mixed_ok Tryz.func51 rfl (by kernel_rfl) rfl rfl fun w0 own0=>?_
 have c1:=ok_planOwn r.engine hs.e
 have c2:=new_logOwn r.early hs.l hs.d
 repeat(first|refine wa ?_|((with_reducible apply s5);(first|((with_reducible apply a_buildA);(iterate 4 exact rfl);(repeat(first|exact PartsV.nil|(apply PartsV.cons;exact rfl;exact rfl;(first|exact⟨rfl,trivial⟩|(apply nw_own;exact rfl;(focus first|exact rfl|(simp;done)|(simp;omega)))))));exact rfl)|exact a_callnew c2 rfl rfl by_sub|exact by_oa|exact by_ca);exact by_g)|refine wb ?_)
 refine .cell rfl rfl rfl rfl (.cons .d (.cons .d (.cons .d (.cons .d (.cons .d (.cons .d (.cons (.own rfl (by simp)) .nil))))))) (show([2]:List Nat).Nodup by decide)
theorem ok_repOwn (r:Replica) (hs:Replica.Sm r):FnOk Tryz.prog 51 [.d (.agg r.enc)] (.one (.agg r.enc)):=by
 refine fnOk_of tbl_ok mixed_ok Tryz.func51 rfl (by kernel_rfl) rfl rfl fun w0 own0=>?_
 have c1:=ok_planOwn r.engine hs.e
 have c2:=ok_logOwn r.early hs.l hs.d
 repeat(first|refine wa ?_|((with_reducible apply s5);(first|((with_reducible apply a_buildA);(iterate 4 exact rfl);(repeat(first|exact PartsV.nil|(apply PartsV.cons;exact rfl;exact rfl;(first|exact⟨rfl,trivial⟩|(apply nw_own;exact rfl;(focus first|exact rfl|(simp;done)|(simp;omega)))))));exact rfl)|exact by_oa|exact by_ca);exact by_g)|refine wb ?_)
 exact .one (.cell rfl rfl rfl rfl (.aggd (ds:=r.enc) rfl (.refl _)))
theorem ok_indexE (l:List Entry) (n:Int) (f:FuncId) (ds:List D) (zs:List Arg) (hcap:Caps ds zs) (hp:∀ x∈l,FnOk Tryz.prog f ([.d (.agg x.enc)]++zs) (.one (dbool (decide (x.number=n))))) (hl:l.length≤1073741824) :
  FnOk Tryz.prog 130 [.d (encEntries l),.d (fnD f ds)] (.one (dint (firstN n 0 l))):=by
 refine fnOk_of tbl_ok mixed_ok Tryz.func130 rfl (by kernel_rfl) rfl rfl fun w0 own0=>?_
 try refine wk ?_
 refine CW.loopT (fun t:Nat=>[sd 0 (encEntries l),sd 1 (fnD f ds),sd 7 (dint l.length),sd 8 (dint t),nxt 0])
  (fun t=>t≤l.length∧firstN n t (l.drop t)=firstN n 0 l) (fun t=>l.length - t) 0 ⟨by omega,rfl⟩ ?_ ?_
 ·
  exact by_less
 ·
  rintro t ⟨ht,hI⟩
  rcases drop_case ht with ⟨h1,h2⟩|⟨x,h1,h2,h3⟩
  ·
   rw[h1,firstN]at hI
   try refine wk ?_
   rw[← hI]
   exact .one (.tmp rfl (.one (.d (.refl _))))
  ·
   rw[h1,firstN]at hI
   have hx:=hp x (List.mem_of_getElem? h2)
   by_cases h:x.number=n
   ·
    rw[if_pos h]at hI
    rw[decide_eq_true h]at hx
    repeat(first|refine wa ?_|((with_reducible apply s5);(first|(focus (with_reducible apply(a_callfn (ys:=[.d (.agg x.enc)])));exact hx;exact hcap;exact rfl;exact rfl;exact by_sub)|exact by_oa|exact by_ca);exact by_g)|refine wb ?_)
    rw[← hI]
    exact .one (.tmp rfl (.one (.d (.refl _))))
   ·
    rw[if_neg h]at hI
    rw[decide_eq_false h]at hx
    repeat(first|refine wa ?_|((with_reducible apply s5);(first|(focus (with_reducible apply(a_callfn (ys:=[.d (.agg x.enc)])));exact hx;exact hcap;exact rfl;exact rfl;exact by_sub)|exact by_oa|exact by_ca);exact by_g)|refine wb ?_)
    refine q_loopT (t+1) ⟨by omega,hI⟩ (by omega) ?_
    exact by_less
theorem firstN_has {n:Int}:∀ {l:List Entry}{i:Nat},decide (0≤firstN n i l)=hasN n l
 | [],i=>rfl
 |x::l,i=>by
  simp only[hasN]
  by_cases h:x.number=n
  ·
   have h1:firstN n i (x::l)=(i:Int):=by simp only[firstN];rw[if_pos h]
   rw[if_pos h,h1];exact decide_eq_true (by omega)
  ·
   have h1:firstN n i (x::l)=firstN n (i+1) l:=by simp only[firstN];rw[if_neg h]
   rw[if_neg h,h1,firstN_has]
theorem ok_containsE (l:List Entry) (n:Int) (f:FuncId) (ds:List D) (zs:List Arg) (hcap:Caps ds zs) (hp:∀ x∈l,FnOk Tryz.prog f ([.d (.agg x.enc)]++zs) (.one (dbool (decide (x.number=n))))) (hl:l.length≤1073741824) :
  FnOk Tryz.prog 98 [.d (encEntries l),.d (fnD f ds)] (.one (dbool (hasN n l))):=by
 refine fnOk_of tbl_ok mixed_ok Tryz.func98 rfl (by kernel_rfl) rfl rfl fun w0 own0=>?_
 have c1:=ok_indexE l n f ds zs hcap hp hl
 have h:=firstN_has (n:=n) (l:=l) (i:=0)
 rw[← h]
 generalize firstN n 0 l=k at *
 try refine wk ?_
 exact .one (.tmp rfl (.one (.d (dle_bool rfl))))
end Go.Proofs.YtccblhpfjlgmbaaGreatDoor
namespace Go.Proofs.YtccblhpfjlgmbaaGreatDoor
open Go.AX Go.RF Go.RowKit Go.Shelf Go.Lib
set_option maxHeartbeats 4000000 in
set_option maxRecDepth 100000 in
theorem delete_walkE (g n cap m:Nat) (w:World) (cur:Array Value) (hg:w.heap[g]? = some (.cells cur 71 (0,0))) (hsz:cur.size=cap*2) (hm:m < n) (hn:n≤268435456) (hnc:n≤cap) (hcm:cap≤maxLen) (hone:∀ v∈cur.toList.take (n*2),v.oneCell'=true) :
  Calls Tryz.prog 102 #[.slice (some ⟨g,0,none⟩) n cap,.int .i64 (m:Int),.int .i64 ((m:Int)+1)] w fun e w' =>
   e = .returned (.slice (some ⟨g,0,none⟩) (n - 1) cap)∧∃ m1 cs',w'=(w.drew.setRow g m1).setRow g cs'∧cs'.size=cap*2∧cs'.toList.take ((n - 1)*2)=(cur.toList.take (n*2)).take (m*2)++(cur.toList.take (n*2)).drop ((m+1)*2):=by
 have mixed:=mixed_ok
 have hnm:¬ ((m:Int)=(m:Int)+1):=by omega
 have hT:Tryz.prog.underlying 23=some (.slice 71):=Tryz.underlying23
 have htb:∃ ti,tget tbl 71=some ti∧ti.n=2∧ti.zero=[.int .i64 0,.slice none 0 0]:=⟨_,rfl,rfl,rfl⟩
 obtain⟨ti,ht1,ht2,ht4⟩:=htb
 obtain⟨i0,hi0,hzs,_,z,hz0,hzc⟩:=(tbl_ok _ _ ht1).info
 rw[ht2]at hzs
 rw[ht4]at hzc
 have hcl:n*2≤cur.size:=by rw[hsz];exact Nat.mul_le_mul_right 2 hnc
 obtain⟨news,hnews⟩:∃ news,news=(cur.toList.drop ((m+1)*2)).take ((n - (m+1))*2):=⟨_,rfl⟩
 have hnl:news.length=(n - (m+1))*2:=by rw[hnews];simp;omega
 obtain⟨m1,hm1⟩:∃ m1:List Value,m1=cur.toList.take (m*2)++news++cur.toList.drop (m*2+news.length):=⟨_,rfl⟩
 have hm1l:m1.length=cur.size:=by rw[hm1];simp;omega
 obtain⟨zs,hzs2⟩:∃ zs:List Value,zs=[.int .i64 0,.slice none 0 0]:=⟨_,rfl⟩
 obtain⟨m2,hm2⟩:∃ m2:List Value,m2=m1.take ((m+(n - (m+1)))*2)++zs++m1.drop ((m+(n - (m+1)))*2+zs.length):=⟨_,rfl⟩
 have hm2l:m2.length=cur.size:=by rw[hm2,hzs2];simp;omega
 have hlast:m2.take ((n - 1)*2)=(cur.toList.take (n*2)).take (m*2)++(cur.toList.take (n*2)).drop ((m+1)*2):=by
  have h:=del_cells (cur:=cur.toList) (zs:=zs) hm (by simpa using hcl)
  rw[hm2,hm1,hnews]
  exact h
 have hap:∀ (A:Addr),(cap=m+1∨A=⟨g,(m+1)*2,none⟩)→∀ ty,(Builtin.append_ #[23,23] ty #[.slice (some ⟨g,0,none⟩) m cap,.slice (some A) (n - (m+1)) (cap - (m+1))]).run Tryz.prog w.drew =
   .ok (.slice (some ⟨g,0,none⟩) (m+(n - (m+1))) cap) (w.drew.setRow g m1.toArray):=fun A hA ty=>by
  have hnw:∀ j u,news[j]? = some u→w.drew.cell? (A.add j)=some u:=fun j u hj=>by
   rcases hA with hA|rfl
   ·
    have:news=[]:=List.eq_nil_of_length_eq_zero (by rw[hnl];omega)
    rw[this]at hj;simp at hj
   ·
    rw[hnews,List.getElem?_take]at hj
    split at hj
    ·
     rw[List.getElem?_drop]at hj
     rw[Addr.add_lit]
     have hgd:w.drew.heap[g]? = some (.cells cur 71 (0,0)):=hg
     simp[World.cell?,hgd]
     simpa using hj
    ·
     cases hj
  have ho1:∀ u∈news,u.oneCell'=true:=fun u hu=>by
   obtain⟨j,hj⟩:=List.getElem?_of_mem hu
   rw[hnews,List.getElem?_take]at hj
   split at hj
   ·
    rw[List.getElem?_drop]at hj
    refine hone u (List.mem_of_getElem? (i:=(m+1)*2+j) ?_)
    rw[List.getElem?_take,if_pos (by omega)];exact hj
   ·
    cases hj
  have h:=run_append_room (P:=Tryz.prog) (w:=w.drew) (ty:=ty) 23 71 i0 hT hi0 g m cap cur hg A (n - (m+1)) (cap - (m+1)) news (by rw[hzs];exact hnl) hnw ho1 (by omega) (by rw[hzs,hnl];omega)
  rw[hzs]at h
  rw[hm1]
  exact h
 have hg1:(w.drew.setRow g m1.toArray).heap[g]? = some (.cells m1.toArray 71 (0,0)):=setRow_heap _ _ _ _ _ _ hg
 have hclr:∀ ty,(Builtin.clear_ #[23] ty #[.slice (some ⟨g,(m+(n - (m+1)))*2,none⟩) (n - (m+(n - (m+1)))) (cap - (m+(n - (m+1))))]).run Tryz.prog (w.drew.setRow g m1.toArray) =
   .ok (.tuple #[]) ((w.drew.setRow g m1.toArray).setRow g m2.toArray):=fun ty=>by
  have e1:n - (m+(n - (m+1)))=1:=by omega
  have hst:=run_storeCells_at Tryz.prog g ((m+(n - (m+1)))*2) 71 zs 0 m1.toArray (w.drew.setRow g m1.toArray) hg1 (by rw[hzs2];simp;omega) (by rw[hzs2];simp[Value.oneCell'])
  have hzz:(Builtin.zeroCells z.cells 1).toList=zs:=by
   rw[hzs2,← hzc]
   have h2:z.cells.size=2:=by rw[← Array.length_toList,hzc];rfl
   apply List.ext_getElem
   ·
    simp[Builtin.zeroCells,h2]
   ·
    intro i h3 h4
    have h5:i < 2:=by simpa[h2] using h4
    simp[Builtin.zeroCells,Nat.mod_eq_of_lt h5,h2]
    exact getElem!_pos z.cells i (by omega)
  have hzv:(zeroValue 71).run Tryz.prog (w.drew.setRow g m1.toArray) = .ok z (w.drew.setRow g m1.toArray):=by simp[zeroValue,typeInfo,hi0,hz0]
  rw[e1]
  simp only[Nat.add_zero]at hst
  simp[Builtin.clear_,run_underlying hT,hzv,hzz,hst,hm2]
 have hi1:m≤cap:=by omega
 have hi2:m+1≤cap:=by omega
 have hi3:m+1≤n:=by omega
 clear hm1 hm2 hnews hzs2
 have hj1:(0:Int)≤(m:Int)+1:=by omega
 have hj2:(m:Int)+1≤(n:Int):=by omega
 have hj3:(m:Int)≤(m:Int)+1:=by omega
 have htn:((m:Int)+1).toNat=m+1:=by omega
 by_cases hcj:cap=m+1
 ·
  have hap1:=hap ⟨g,0,none⟩ (.inl hcj)
  obtain rfl:n=m+1:=by omega
  subst hcj
  have hap2:∀ ty,(Builtin.append_ #[23,23] ty #[.slice (some ⟨g,0,none⟩) m (m+1),.slice (some ⟨g,0,none⟩) 0 0]).run Tryz.prog w.drew = .ok (.slice (some ⟨g,0,none⟩) m (m+1)) (w.drew.setRow g m1.toArray):=fun ty=>by simpa using hap1 ty
  have hclr2:∀ ty,(Builtin.clear_ #[23] ty #[.slice (some ⟨g,m*2,none⟩) 1 1]).run Tryz.prog (w.drew.setRow g m1.toArray) = .ok (.tuple #[]) ((w.drew.setRow g m1.toArray).setRow g m2.toArray):=fun ty=>by
   have h:=hclr ty
   rw[show m+1 - (m+1)=0 by omega,show m+0=m by omega,show m+1 - m=1 by omega]at h
   exact h
  clear hap hap1 hclr
  go_enter Tryz.func102,Tryz.ntmps102
  go_wp2_with fail
  go_region_law_o (refine step_append_runI rfl _ _ 23 23 rfl (.slice (some ⟨g,0,none⟩) m (m+1)) (.slice (some ⟨g,0,none⟩) 0 0) (by simp[Act.eval,Act.put]) (by simp[Act.eval,Act.put]) (hap2 _) ?_)
  go_wp2_with (at_builtin;refine wpList_clear_runI rfl _ 23 rfl _ rfl (hclr2 _) ?_)
  go_ret
  exact⟨by rw[show m+1 - 1=m by omega];rfl,_,_,rfl,by simp[hm2l,hsz],by simpa using hlast⟩
 ·
  have hap1:=hap ⟨g,(m+1)*2,none⟩ (.inr rfl)
  clear hap
  go_enter Tryz.func102,Tryz.ntmps102
  go_wp2_with fail
  go_region_law_o (refine step_append_runI rfl _ _ 23 23 rfl (.slice (some ⟨g,0,none⟩) m cap) (.slice (some ⟨g,(m+1)*2,none⟩) (n - (m+1)) (cap - (m+1))) (by simp[Act.eval,Act.put]) (by simp[Act.eval,Act.put]) (hap1 _) ?_)
  go_wp2_with (at_builtin;refine wpList_clear_runI rfl _ 23 rfl _ rfl (hclr _) ?_)
  go_ret
  exact⟨by rw[show n - 1=m+(n - (m+1)) by omega];rfl,_,_,rfl,by simp[hm2l,hsz],by simpa using hlast⟩
theorem upd_deleteE (rows:List (List D)) (m:Nat) (hm:m < rows.length) (hl:rows.length≤268435456) :
  FnUpd Tryz.prog 102 71 2 rows [.d (dint m),.d (dint ((m:Int)+1))] (rows.take m++rows.drop (m+1)):=by
 refine⟨⟨_,Tryz.func102,by kernel_rfl,by kernel_rfl⟩,fun w own v vs hown hR hsep ha=>?_⟩
 match vs,ha with
 | [v1,v2],⟨h1,h2,_⟩ =>
  have e1:=rd_v h1
  have e2:=rd_v h2
  subst e1 e2
  obtain⟨xs,hrow,hone,hrl,hrd⟩:=hR
  have hxl:=hrow.1
  rcases hrow.2 with ⟨_,h0⟩|⟨g,cap,cur,rfl,_,hg,hnc,hcm,hsz,htk⟩
  ·
   omega
  ·
   refine(delete_walkE g rows.length cap m w cur hg hsz hm hl hnc hcm (by rw[htk];exact hone)).mono fun e w'=>?_
   rintro ⟨rfl,m1,cs',rfl,q1,q2⟩
   have hp:∀ b,blk (.slice (some ⟨g,0,none⟩) (rows.length - 1) cap)=some b→blk (.slice (some ⟨g,0,none⟩) rows.length cap)=some b∨w.heap.size≤b:=fun b hb => .inl hb
   have hbb:BelowBut (.slice (some ⟨g,0,none⟩) rows.length cap) w ((w.drew.setRow g m1).setRow g cs'):=⟨rfl,rfl,rfl,by simp[setRow_size],fun b hb hn=>by
    have hbg:b≠g:=fun h=>hn (by rw[h];rfl)
    rw[setRow_other _ _ _ _ hbg,setRow_other _ _ _ _ hbg];rfl⟩
   refine⟨_,rfl,hbb,hp,rows_del hm hbb hp hxl hone hrl hrd ⟨by simp;omega,.inr ⟨g,cap,cs',rfl,Nat.zero_le _,setRow_heap _ _ _ _ _ _ (setRow_heap _ _ _ _ _ _ hg),by omega,hcm,q1,?_⟩⟩⟩
   rw[q2,htk]
end Go.Proofs.YtccblhpfjlgmbaaGreatDoor
namespace Go.AX
open Go.RowKit
def swN (i j k:Nat):Nat:=match Nat.beq k i with
 |true=>j
 |false=>match Nat.beq k j with
  |true=>i
  |false=>k
theorem swN_eq (i j k:Nat):swN i j k=if k=i then j else if k=j then i else k:=by
 unfold swN
 by_cases h1:k=i
 ·
  rw[if_pos h1,show Nat.beq k i=true by rw[h1];exact Nat.beq_refl _]
 ·
  rw[if_neg h1]
  have:Nat.beq k i=false:=by
   cases h:Nat.beq k i
   ·
    rfl
   ·
    exact absurd (Nat.eq_of_beq_eq_true h) h1
  rw[this]
  by_cases h2:k=j
  ·
   rw[if_pos h2,show Nat.beq k j=true by rw[h2];exact Nat.beq_refl _]
  ·
   rw[if_neg h2]
   have:Nat.beq k j=false:=by
    cases h:Nat.beq k j
    ·
     rfl
    ·
     exact absurd (Nat.eq_of_beq_eq_true h) h2
   rw[this]
theorem swN_swN (i j k:Nat):swN i j (swN i j k)=k:=by
 simp only[swN_eq]
 repeat' split
 all_goals omega
theorem swN_inj {i j a b:Nat}(h:swN i j a=swN i j b):a=b:=by rw[← swN_swN i j a,h,swN_swN]
theorem swN_lt {i j k n:Nat}(hi:i < n) (hj:j < n) (h:k < n):swN i j k < n:=by
 rw[swN_eq]
 repeat' split
 all_goals omega
def swA1 (i j:Nat):AV→AV
 |.d x => .d x
 |.pd x => .pd x
 |.ptr id off => .ptr (swN i j id) off
 |.own id n => .own (swN i j id) n
 |.pe id n a b => .pe (swN i j id) n a b
 |.agg c => .agg c
 |.tup v => .tup v
 |.h id => .h (swN i j id)
 |.any => .any
def swA2 (i j:Nat):AV→AV
 |.agg c => .agg (c.map (swA1 i j))
 |av=>swA1 i j av
def swA (i j:Nat):AV→AV
 |.tup v => .tup (v.map (swA2 i j))
 |av=>swA2 i j av
def swO (i j:Nat):Ob→Ob
 |.box c => .box (c.map (swA1 i j))
 |.lit k V ids => .lit k V (ids.map (swN i j))
 |.tok o b => .tok (swN i j o) b
 |o=>o
def swK (i j:Nat):Key→Key
 |.o k => .o (swN i j k)
 |k=>k
def swV (i j:Nat):Val→Val
 |.av x => .av (swA i j x)
 |.ob x => .ob (swO i j x)
 |v=>v
def swS (i j:Nat):St→St
 | []=>[]
 |(k,v)::r=>(swK i j k,swV i j v)::swS i j r
theorem swK_inj {i j:Nat}{a b:Key}(h:swK i j a=swK i j b):a=b:=by
 cases a <;> cases b <;> simp[swK]at h ⊢
 ·
  exact h
 ·
  exact swN_inj h
theorem get_sw {i j:Nat}{k:Key}:∀ {σ:St},get (swS i j σ) (swK i j k)=swV i j (get σ k)
 | []=>rfl
 |(q,v)::r=>by
  show get ((swK i j q,swV i j v)::swS i j r) (swK i j k)=_
  by_cases h:q=k
  ·
   subst h;rw[get_cons_same,get_cons_same]
  ·
   rw[get_cons_ne h,get_cons_ne fun e=>h (swK_inj e),get_sw]
theorem get_swo {i j id:Nat}{σ:St}:get (swS i j σ) (.o id)=swV i j (get σ (.o (swN i j id))):=by
 have:=get_sw (i:=i) (j:=j) (k := .o (swN i j id)) (σ:=σ)
 rwa [show swK i j (.o (swN i j id)) = .o id by simp[swK,swN_swN]]at this
theorem swV_ob {i j:Nat}{v:Val}{o:Ob}(h:swV i j v = .ob o):∃ o0,v = .ob o0∧swO i j o0=o:=by
 cases v <;> simp[swV]at h
 exact⟨_,rfl,h⟩
theorem swV_av {i j:Nat}{v:Val}{o:AV}(h:swV i j v = .av o):∃ o0,v = .av o0∧swA i j o0=o:=by
 cases v <;> simp[swV]at h
 exact⟨_,rfl,h⟩
variable {cx:Cx}{g:Nat→Value}{σ:St}{a:Act}{w:World}{nx:Nat}{c:Code}{Q:Exit→St→Prop}{i j:Nat}
theorem own_sw {b:Nat}(h:cx.own (fun k=>g (swN i j k)) (swS i j σ) b):cx.own g σ b:=by
 rcases h with h|⟨id,o,h1,h2⟩
 ·
  exact .inl h
 ·
  rw[get_swo]at h1
  obtain⟨o0,h3,_⟩:=swV_ob h1
  exact .inr ⟨_,o0,h3,h2⟩
theorem nr_sw {id:Nat}(h:NR σ id):NR (swS i j σ) (swN i j id):=fun hg=>by
 rw[get_swo,swN_swN]at hg
 obtain⟨o0,h1,h2⟩:=swV_ob hg
 refine h ?_
 rw[h1]
 cases o0 <;> simp[swO]at h2 ⊢
theorem rep1_sw {x:Value}{av:AV}(h:Rep1 cx g σ w x av):Rep1 cx (fun k=>g (swN i j k)) (swS i j σ) w x (swA1 i j av):=by
 cases av with
 |d y=>exact Rd.less (fun b hb=>own_sw hb) h
 |pd ds =>
  obtain⟨ad,h1,h2,h3,h4⟩:=h
  refine⟨ad,h1,?_,h3,fun q z hz=>by obtain⟨u,h5,h6,h7⟩:=h4 q z hz;exact⟨u,h5,h6,h7.less fun b hb=>own_sw hb⟩⟩
  rcases h2 with h2|h2
  ·
   exact .inl h2
  ·
   exact .inr fun hb=>h2 (own_sw hb)
 |ptr id off =>
  refine⟨nr_sw h.1,fun cells hg=>?_⟩
  rw[get_swo,swN_swN]at hg
  obtain⟨o0,h1,h2⟩:=swV_ob hg
  cases o0 <;> simp[swO]at h2
  obtain⟨b,h3,h4⟩:=h.2 _ h1
  exact⟨b,by dsimp only;rw[swN_swN];exact h3,h4⟩
 |own id n =>
  refine⟨nr_sw h.1,fun e k rows hg=>?_⟩
  rw[get_swo,swN_swN]at hg
  obtain⟨o0,h1,h2⟩:=swV_ob hg
  cases o0 <;> simp[swO]at h2
  obtain⟨rfl,rfl,rfl⟩:=h2
  dsimp only
  rw[swN_swN]
  exact h.2 _ _ _ h1
 |pe id n q f =>
  refine⟨nr_sw h.1,fun e k rows hg=>?_⟩
  rw[get_swo,swN_swN]at hg
  obtain⟨o0,h1,h2⟩:=swV_ob hg
  cases o0 <;> simp[swO]at h2
  obtain⟨rfl,rfl,rfl⟩:=h2
  dsimp only
  rw[swN_swN]
  exact h.2 _ _ _ h1
 |h id =>
  refine⟨nr_sw h.1,fun o hg ho=>?_⟩
  rw[get_swo,swN_swN]at hg
  obtain⟨o0,h1,h2⟩:=swV_ob hg
  dsimp only
  rw[swN_swN]
  refine h.2 o0 h1 ?_
  subst h2
  cases o0 <;> first|rfl|cases ho
 |any=>trivial
 |agg _=>exact h.elim
 |tup _=>exact h.elim
theorem cells_sw {cells:List AV}{cs:Array Value}(h:∀ (q:Nat) (c:Value) (av:AV),cells[q]? = some av→cs[q]? = some c→Rep1 cx g σ w c av) :
  ∀ (q:Nat) (c:Value) (av:AV),(cells.map (swA1 i j))[q]? = some av→cs[q]? = some c→Rep1 cx (fun k=>g (swN i j k)) (swS i j σ) w c av:=by
 intro q c av hq hc
 rw[List.getElem?_map,Option.map_eq_some_iff]at hq
 obtain⟨av0,h1,rfl⟩:=hq
 exact rep1_sw (h q c av0 h1 hc)
theorem rep2_sw {x:Value}{av:AV}(h:Rep2 cx g σ w x av):Rep2 cx (fun k=>g (swN i j k)) (swS i j σ) w x (swA2 i j av):=by
 cases av with
 |agg cells =>
  obtain⟨cs,h1,h2,h3,h4⟩:=h
  exact⟨cs,h1,by simpa using h2,h3,cells_sw h4⟩
 |tup _=>exact h.elim
 |d y=>exact rep1_sw (cx:=cx) (w:=w) (av := .d y) h
 |pd y=>exact rep1_sw (cx:=cx) (w:=w) (av := .pd y) h
 |ptr p q=>exact rep1_sw (cx:=cx) (w:=w) (av := .ptr p q) h
 |own p q=>exact rep1_sw (cx:=cx) (w:=w) (av := .own p q) h
 |pe p q r s=>exact rep1_sw (cx:=cx) (w:=w) (av := .pe p q r s) h
 |h p=>exact rep1_sw (cx:=cx) (w:=w) (av := .h p) h
 |any=>trivial
theorem rep_sw {x:Value}{av:AV}(h:Rep cx g σ w x av):Rep cx (fun k=>g (swN i j k)) (swS i j σ) w x (swA i j av):=by
 cases av with
 |tup vs =>
  obtain⟨us,h1,h2,h3⟩:=h
  refine⟨us,h1,by simpa using h2,fun q c av hq hc=>?_⟩
  rw[List.getElem?_map,Option.map_eq_some_iff]at hq
  obtain⟨av0,h4,rfl⟩:=hq
  exact rep2_sw (h3 q c av0 h4 hc)
 |agg cells=>exact rep2_sw (cx:=cx) (w:=w) (av := .agg cells) h
 |d y=>exact rep2_sw (cx:=cx) (w:=w) (av := .d y) h
 |pd y=>exact rep2_sw (cx:=cx) (w:=w) (av := .pd y) h
 |ptr p q=>exact rep2_sw (cx:=cx) (w:=w) (av := .ptr p q) h
 |own p q=>exact rep2_sw (cx:=cx) (w:=w) (av := .own p q) h
 |pe p q r s=>exact rep2_sw (cx:=cx) (w:=w) (av := .pe p q r s) h
 |h p=>exact rep2_sw (cx:=cx) (w:=w) (av := .h p) h
 |any=>trivial
theorem bd1_sw (hi:i < nx) (hj:j < nx) {av:AV}(h:av.bd1 nx):(swA1 i j av).bd1 nx:=by
 cases av <;> first|exact swN_lt hi hj h|exact h
theorem bd_sw (hi:i < nx) (hj:j < nx) {av:AV}(h:av.bd nx):(swA i j av).bd nx:=by
 cases av with
 |agg cells =>
  intro x hx
  obtain⟨y,hy,rfl⟩:=List.mem_map.1 hx
  exact bd1_sw hi hj (h y hy)
 |tup vs =>
  intro x hx
  obtain⟨y,hy,rfl⟩:=List.mem_map.1 hx
  have hb:=h y hy
  cases y with
  |agg cells =>
   intro x hx
   obtain⟨z,hz,rfl⟩:=List.mem_map.1 hx
   exact bd1_sw hi hj (hb z hz)
  |tup _=>exact hb
  |d _=>exact hb
  |pd _=>exact hb
  |ptr p q=>exact bd1_sw (av := .ptr p q) hi hj hb
  |own p q=>exact bd1_sw (av := .own p q) hi hj hb
  |pe p q r s=>exact bd1_sw (av := .pe p q r s) hi hj hb
  |h p=>exact bd1_sw (av := .h p) hi hj hb
  |any=>exact hb
 |d _=>exact h
 |pd _=>exact h
 |ptr p q=>exact bd1_sw (av := .ptr p q) hi hj h
 |own p q=>exact bd1_sw (av := .own p q) hi hj h
 |pe p q r s=>exact bd1_sw (av := .pe p q r s) hi hj h
 |h p=>exact bd1_sw (av := .h p) hi hj h
 |any=>exact h
theorem rows_sw {e k:Nat}{v:Value}{rows:List (List D)}(h:∃ xs:List Value,w.ownsRow cx.w0.heap.size e k v rows.length xs∧(∀ x∈xs,Value.oneCell' x=true)∧(∀ r∈rows,r.length=k) ∧
   ∀ (p q:Nat) (r:List D) (d:D) (x:Value),rows[p]? = some r→r[q]? = some d→xs[p*k+q]? = some x→Rd w (cx.own g σ) x d) :
  ∃ xs:List Value,w.ownsRow cx.w0.heap.size e k v rows.length xs∧(∀ x∈xs,Value.oneCell' x=true)∧(∀ r∈rows,r.length=k) ∧
   ∀ (p q:Nat) (r:List D) (d:D) (x:Value),rows[p]? = some r→r[q]? = some d→xs[p*k+q]? = some x→Rd w (cx.own (fun k=>g (swN i j k)) (swS i j σ)) x d:=by
 obtain⟨xs,h1,h2,h3,h4⟩:=h
 exact⟨xs,h1,h2,h3,fun p q r d x hp hq hx=>Rd.less (fun b hb=>own_sw hb) (h4 p q r d x hp hq hx)⟩
theorem ob_sw {id:Nat}{o:Ob}(h:ObOk cx g σ w (swN i j id) o):ObOk cx (fun k=>g (swN i j k)) (swS i j σ) w id (swO i j o):=by
 cases o with
 |box cells =>
  obtain⟨b,cs,t,h1,h2,h3,h4,h5,h6⟩:=h
  exact⟨b,cs,t,h1,h2,h3,by simpa using h4,h5,cells_sw h6⟩
 |arr e k rows=>exact rows_sw h
 |pin e k rows x=>exact⟨h.1,rows_sw h.2⟩
 |mp M x=>exact h
 |mi M x=>exact h
 |gen p=>exact h
 |res=>exact h
 |tok o b=>exact h
 |lit kk V ids =>
  obtain⟨b,es,clock,h1,h2,h3,h4,h5⟩:=h
  refine⟨b,es,clock,h1,h2,h3,h4,fun q k p hq hp hg=>?_⟩
  rw[List.getElem?_map,Option.map_eq_some_iff]at hq
  obtain⟨k0,h6,rfl⟩:=hq
  rw[get_swo,swN_swN]at hg
  obtain⟨o0,h7,h8⟩:=swV_ob hg
  cases o0 <;> simp[swO]at h8
  obtain⟨h9,rfl⟩:=h8
  refine h5 q k0 p h6 hp ?_
  rw[h7,← h9,swN_swN]
theorem obd_sw (hi:i < nx) (hj:j < nx) {o:Ob}(h:o.bd nx):(swO i j o).bd nx:=by
 cases o with
 |box cells =>
  intro x hx
  obtain⟨y,hy,rfl⟩:=List.mem_map.1 hx
  exact bd1_sw hi hj (h y hy)
 |lit kk V ids =>
  intro x hx
  obtain⟨y,hy,rfl⟩:=List.mem_map.1 hx
  exact swN_lt hi hj (h y hy)
 |_=>exact h
theorem SimG.sw (hs:SimG cx σ a w g nx) (hi:i < nx) (hj:j < nx) (hgn:cx.gn=0) (hgh:cx.gh=[]):SimG cx (swS i j σ) a w (fun k=>g (swN i j k)) nx:=by
 refine⟨?_,hs.size,hs.defers,hs.below,hs.own0,fun k av hk=>?_,fun id o ho=>?_,fun id id' o o' b h1 h2 h3 h4=>?_,by rw[hgn];exact Nat.zero_le _,fun p hp=>by rw[hgh]at hp;cases hp⟩
 ·
  have:=get_sw (i:=i) (j:=j) (k := .nx) (σ:=σ)
  rw[hs.hnx]at this
  exact this
 ·
  have:=get_sw (i:=i) (j:=j) (k := .s k) (σ:=σ)
  rw[show swK i j (.s k) = .s k from rfl,hk]at this
  obtain⟨av0,h1,rfl⟩:=swV_av this.symm
  obtain⟨h2,h3⟩:=hs.slots k av0 h1
  exact⟨rep_sw h2,bd_sw hi hj h3⟩
 ·
  rw[get_swo]at ho
  obtain⟨o0,h1,rfl⟩:=swV_ob ho
  obtain⟨h2,h3,h4⟩:=hs.objs _ o0 h1
  refine⟨?_,ob_sw h3,obd_sw hi hj h4⟩
  have:=swN_lt hi hj h2
  rwa [swN_swN]at this
 ·
  rw[get_swo]at h1 h2
  obtain⟨o0,h5,_⟩:=swV_ob h1
  obtain⟨o1,h6,_⟩:=swV_ob h2
  exact swN_inj (hs.sep _ _ o0 o1 b h5 h6 h3 h4)
theorem CW.ren (i j:Nat) {n:Nat}(hn:get σ .nx = .num n) (hi:Nat.blt i n=true) (hj:Nat.blt j n=true) (h:CW cx c Q (swS i j σ)) (hgn:cx.gn=0:=by rfl) (hgh:cx.gh=[]:=by rfl):CW cx c Q σ:=by
 rintro a w ⟨g,nx,hs⟩
 obtain rfl:nx=n:=by
  have:=hs.hnx
  rw[hn]at this
  simpa using this.symm
 exact h a w ⟨_,_,hs.sw (lt_of_blt hi) (lt_of_blt hj) hgn hgh⟩
def stutQ (t:Tr) (Q:Exit→St→Prop):Exit→St→Prop
 |.normal,σ=>App σ t.rd∧Q .normal (t.wr++σ)
 |e,σ=>Q e σ
theorem CW.aft {t:Tr}(ht:Stut cx t) (h:CW cx c (stutQ t Q) σ):CW cx c Q σ:=fun a w hs=>wp_mono (h a w hs) fun e a' w' he=>by
 obtain⟨σ',h1,h2⟩:=he
 cases e with
 |normal=>exact⟨_,ht σ' a' w' h1 h2.1,h2.2⟩
 |exit j=>exact⟨σ',h1,h2⟩
 |goto j=>exact⟨σ',h1,h2⟩
 |ret=>exact⟨σ',h1,h2⟩
 |panic c=>exact⟨σ',h1,h2⟩
 |outgrown=>exact⟨σ',h1,h2⟩
theorem q_aft {t:Tr}(ha:App σ t.rd) (h:Q .normal (t.wr++σ)):stutQ t Q .normal σ:=⟨ha,h⟩
end Go.AX
namespace Go.Proofs.YtccblhpfjlgmbaaGreatDoor
open Go.AX Go.RF
set_option maxRecDepth 100000
set_option maxHeartbeats 8000000
theorem ok_come1 (x e:Entry):FnOk Tryz.prog 99 [.d (.agg x.enc),.pd e.enc] (.one (dbool (decide (x.number=e.number)))):=by
 refine fnOk_of tbl_ok mixed_ok Tryz.func99 rfl (by kernel_rfl) rfl rfl fun w0 own0=>?_
 try refine wk ?_
 exact .one (.tmp rfl (.one (.d (.refl _))))
theorem ok_early1 (x:Entry) (r:Replica):FnOk Tryz.prog 131 [.d (.agg x.enc),.pd [refD r.enc]] (.one (dbool (decide (x.number=r.next)))):=by
 refine fnOk_of tbl_ok mixed_ok Tryz.func131 rfl (by kernel_rfl) rfl rfl fun w0 own0=>?_
 repeat(first|refine wa ?_|((with_reducible apply s5);(first|((with_reducible apply a_nilref);(iterate 2 exact rfl))|((with_reducible apply a_faref);(iterate 4 exact rfl))|exact by_oa|exact by_ca);exact by_g)|refine wb ?_)
 exact .one (.tmp rfl (.one (.d (.refl _))))
theorem ok_early (r:Replica) (hl:r.early.length≤1073741824):FnOk Tryz.prog 100 [.d (refD r.enc)] (.one (dint (firstN r.next 0 r.early))):=by
 refine fnOk_of tbl_ok mixed_ok Tryz.func100 rfl (by kernel_rfl) rfl rfl fun w0 own0=>?_
 have c1:=ok_indexE r.early r.next 131 [refD [refD r.enc]] [.pd [refD r.enc]] (.ref .nil) (fun x _=>ok_early1 x r) hl
 generalize firstN r.next 0 r.early=k at *
 have hst0:StopR 1:=⟨rfl⟩
 try refine wkS ?_
 clear hst0
 refine Stop.go (CW.stut (stut_freezebox (i:=1) (id:=0) (ds:=[refD r.enc]) rfl) ⟨rfl,rfl,trivial⟩ ?_)
 repeat(first|refine wa ?_|((with_reducible apply s5);(first|((with_reducible apply a_nilref);(iterate 2 exact rfl))|((with_reducible apply a_faref);(iterate 4 exact rfl))|((with_reducible apply a_ldref);(iterate 4 exact rfl))|((with_reducible apply(a_mkfn (ds:=[refD [refD r.enc]])));exact rfl;exact by_sub)|exact by_oa|exact by_ca);exact by_g)|refine wb ?_)
 exact .one (.tmp rfl (.one (.d (.refl _))))
theorem RInv.sm {r:Replica}(h:RInv r):Replica.Sm r:=by
 have hn:=h.n
 refine⟨h.e.z.sm (by omega),by have:=h.l;omega,fun e he=>?_⟩
 obtain⟨_,h2,_,h4⟩:=wrongEntry_out (h.w e he)
 exact⟨by omega,fun d hd=>wrong_sm (h4 d hd)⟩
def noR0:List D:=[.v nilS,.v nilS,.v nilS,.v nilS,dint 0,dint 0,.v nilS]
theorem ok_come (r:Replica) (e:Entry) (h:RInv r) (he:wrongEntry e=0):FnOk Tryz.prog 66 [.d (.agg r.enc),.d (.agg e.enc)] (.tup [.agg (comeE r e).1.enc,dint (comeE r e).2]):=by
 refine fnOk_of tbl_ok mixed_ok Tryz.func66 rfl (by kernel_rfl) rfl rfl fun w0 own0=>?_
 have hl:=h.l
 obtain⟨hn1,hn2,hn3,hn4⟩:=wrongEntry_out he
 have c0:=news_repOwn r h.sm
 have c1:=ok_containsE r.early e.number 99 [refD e.enc] [.pd e.enc] (.ref .nil) (fun x _=>ok_come1 x e) (by omega)
 have c2:=ok_logOwn [e] (by simp) (by simp;exact⟨by omega,fun d hd=>wrong_sm (hn4 d hd)⟩)
 unfold comeE
 have hst0:StopR 2:=⟨rfl⟩
 repeat(first|refine waS ?_|((with_reducible apply s5);(first|exact a_callnews c0 rfl rfl by_sub|exact by_oa|exact by_ca);exact by_g)|refine wb ?_)
 clear hst0
 refine Stop.go (CW.stut (stut_freezebox (i:=3) (id:=1) (ds:=e.enc) rfl) ⟨rfl,rfl,trivial⟩ ?_)
 by_cases h1:e.number < r.next
 ·
  rw[if_pos (.inl h1)]
  repeat(first|refine wa ?_|((with_reducible apply s5);(first|((with_reducible apply a_faref);(iterate 4 exact rfl))|exact by_oa|exact by_ca);exact by_g)|refine wb ?_)
  exact .two (.cell rfl rfl rfl rfl (.agg (.cons (.d (.refl _)) (.cons (.d (.refl _)) (.cons (.d (.refl _)) (.cons (.d (.refl _)) (.cons (.d (.refl _)) (.cons (.d (.refl _)) (.cons (.own rfl (by simp) (.refl _)) .nil))))))))) (.tmp rfl (.one (.d (.refl _))))
 cases h2:hasN e.number r.early with
 |true =>
  rw[if_pos (.inr rfl)]
  rw[h2]at c1
  repeat(first|refine wa ?_|((with_reducible apply s5);(first|((with_reducible apply a_faref);(iterate 4 exact rfl))|((with_reducible apply(a_mkfn (ds:=[refD e.enc])));exact rfl;exact by_sub)|exact by_oa|exact by_ca);exact by_g)|refine wb ?_)
  exact .two (.cell rfl rfl rfl rfl (.agg (.cons (.d (.refl _)) (.cons (.d (.refl _)) (.cons (.d (.refl _)) (.cons (.d (.refl _)) (.cons (.d (.refl _)) (.cons (.d (.refl _)) (.cons (.own rfl (by simp) (.refl _)) .nil))))))))) (.tmp rfl (.one (.d (.refl _))))
 |false =>
  rw[if_neg (by simp;omega)]
  rw[h2]at c1
  by_cases h3:r.next < e.number
  ·
   rw[if_pos h3]
   by_cases h4:4≤r.early.length
   ·
    rw[if_pos h4]
    repeat(first|refine wa ?_|((with_reducible apply s5);(first|((with_reducible apply a_faref);(iterate 4 exact rfl))|((with_reducible apply(a_mkfn (ds:=[refD e.enc])));exact rfl;exact by_sub)|exact by_oa|exact by_ca);exact by_g)|refine wb ?_)
    exact .two (.cell rfl rfl rfl rfl (.agg (.cons (.d (.refl _)) (.cons (.d (.refl _)) (.cons (.d (.refl _)) (.cons (.d (.refl _)) (.cons (.d (.refl _)) (.cons (.d (.refl _)) (.cons (.own rfl (by simp) (.refl _)) .nil))))))))) (.tmp rfl (.one (.d (.refl _))))
   ·
    rw[if_neg h4]
    repeat(first|((with_reducible apply s5);((with_reducible apply a_bs [e.enc]);(iterate 9 exact rfl);(repeat(first|exact PartsE.nil|(apply PartsE.cons;exact rfl;exact rfl))));exact by_g)|refine wa1 ?_|((with_reducible apply s5);(first|((with_reducible apply a_faref);(iterate 4 exact rfl))|((with_reducible apply a_ldref);(iterate 4 exact rfl))|((with_reducible apply(a_mkfn (ds:=[refD e.enc])));exact rfl;exact by_sub)|exact by_oa|exact by_ca);exact by_g)|refine wb ?_)
    exact .two (.cell rfl rfl rfl rfl (.agg (.cons (.d (.refl _)) (.cons (.d (.refl _)) (.cons (.d (.refl _)) (.cons (.d (.refl _)) (.cons (.d (.refl _)) (.cons (.d (.refl _)) (.cons (.own rfl (by simp) (dle_eq (by simp[encEntries]))) .nil))))))))) (.tmp rfl (.one (.d (.refl _))))
  ·
   rw[if_neg h3]
   have hnx:e.number=r.next:=by omega
   have hD:=snoc_inv h he h1 h2
   have hT:drainR (r.early++[e]).length ⟨r.engine,r.next,r.early++[e]⟩=drainR r.early.length ⟨(addE r.engine e.deeds).1,r.next+1,r.early⟩:=by
    rw[← drainR_snoc hnx h2];simp
   generalize drainR r.early.length ⟨(addE r.engine e.deeds).1,r.next+1,r.early⟩=tgt at *
   have hE:FnOk Tryz.prog 100 [.d (refD [encChains r.engine.chains,encDeeds r.engine.deeds,encInts r.engine.state,encEnds r.engine.ends,dint r.engine.base,dint r.next,.sl 2 (r.early.map Entry.enc++[e.enc])])] (.one (dint (firstN r.next 0 (r.early++[e])))):=by
    have:=ok_early ⟨r.engine,r.next,r.early++[e]⟩ (by simp;omega)
    unfold Replica.enc encEntries at this
    rw[List.map_append]at this
    exact this
   have h8:r.early.map Entry.enc++[e.enc]=(r.early++[e]).map Entry.enc:=by simp
   repeat(first|((with_reducible apply s5);((with_reducible apply a_bs [e.enc]);(iterate 9 exact rfl);(repeat(first|exact PartsE.nil|(apply PartsE.cons;exact rfl;exact rfl))));exact by_g)|refine wa1 ?_|((with_reducible apply s5);(first|((with_reducible apply a_faref);(iterate 4 exact rfl))|((with_reducible apply a_ldref);(iterate 4 exact rfl))|((with_reducible apply(a_mkfn (ds:=[refD e.enc])));exact rfl;exact by_sub)|(focus (with_reducible apply a_lendbox);exact hE;exact rfl;exact rfl;exact .d (.d (.d (.d (.d (.d (.own rfl (by simp) .nil))))));exact rfl;exact rfl)|exact by_oa|exact by_ca);exact by_g)|refine wb ?_)
   refine CW.loopT (fun t:Replica=>[sp 4 2,ob 2 noR0,sd 5 (dint 0),sp 6 4,(.o 4,.ob (.box [.d (encChains t.engine.chains),.d (encDeeds t.engine.deeds),.d (encInts t.engine.state),.d (encEnds t.engine.ends),.d (dint t.engine.base),.d (dint t.next),.own 3 t.early.length])),oa 3 71 2 (t.early.map Entry.enc),sd 7 (dint (firstN t.next 0 t.early)),nxt 5])
    (fun t=>DInv t∧drainR t.early.length t=tgt) (fun t=>t.early.length) ⟨r.engine,r.next,r.early++[e]⟩ ⟨hD,hT⟩ ?_ ?_
   ·
    exact by_less
   ·
    rintro t ⟨hI,hJ⟩
    dsimp only
    have htl:=hI.l
    have htn:=hI.n
    rcases firstN_cases (n:=t.next) (l:=t.early) (i:=0) with ⟨k1,k2⟩|⟨k,x,k1,k2,k3⟩
    ·
     rw[drainR_none (by omega)]at hJ
     subst hJ
     rw[k1]
     try refine wk ?_
     exact .two (.cell rfl rfl rfl rfl (.agg (.cons (.d (.refl _)) (.cons (.d (.refl _)) (.cons (.d (.refl _)) (.cons (.d (.refl _)) (.cons (.d (.refl _)) (.cons (.d (.refl _)) (.cons (.own rfl (by simp) (.refl _)) .nil))))))))) (.tmp rfl (.one (.d (.refl _))))
    ·
     rw[Nat.zero_add]at k1
     have hkl:=(List.getElem?_eq_some_iff.1 k2).1
     have hel:=List.length_eraseIdx_of_lt hkl
     have hxm:(t.early.map Entry.enc)[k]? = some x.enc:=by rw[List.getElem?_map,k2];rfl
     obtain⟨x1,x2,x3,x4⟩:=wrongEntry_out (hI.w x (List.mem_of_getElem? k2))
     obtain⟨q,hb⟩:=hI.b
     have ca:=ok_padde t.engine x.deeds _ hI.e hb.S (fun d hd=>wrong_sm (x4 d hd)) (by omega) (by omega)
     have hI2:=take_inv hI k2 k3
     have hJ2:drainR (t.early.eraseIdx k).length ⟨(addE t.engine x.deeds).1,t.next+1,t.early.eraseIdx k⟩=tgt:=by
      rw[hel,← hJ]
      obtain⟨m,hm⟩:∃ m,t.early.length=m+1:=⟨t.early.length - 1,by omega⟩
      rw[hm,drainR_some k1 k2,Nat.add_sub_cancel]
     have hU:=upd_deleteE (t.early.map Entry.enc) k (by simpa using hkl) (by simp;omega)
     have hrw:(t.early.map Entry.enc).take k++(t.early.map Entry.enc).drop (k+1)=(t.early.eraseIdx k).map Entry.enc:=by
      rw[List.eraseIdx_eq_take_drop_succ,List.map_append,List.map_take,List.map_drop]
     rw[hrw]at hU
     generalize (addE t.engine x.deeds).1=E2 at *
     generalize (addE t.engine x.deeds).2=v2 at *
     have hE1:=ok_early ⟨E2,t.next+1,t.early.eraseIdx k⟩ (by dsimp only;omega)
     dsimp only at hE1
     rw[k1]
     have hkk:k < (t.early.map Entry.enc).length:=by simpa using hkl
     have hst0:StopX 15:=⟨rfl⟩
     repeat(first|refine waS ?_|((with_reducible apply s5);(first|(focus ((with_reducible apply a_upd);exact hU;(iterate 3 exact rfl);(focus first|exact rfl|(simp;done)|(simp;omega));exact rfl;exact by_sub))|exact by_oa|exact by_ca);exact by_g)|refine wb ?_)
     clear hst0
     refine Stop.go (CW.ren 3 6 rfl rfl rfl ?_)
     repeat(first|refine wa ?_|((with_reducible apply s5);(first|(focus (with_reducible apply a_lendbox);exact hE1;exact rfl;exact rfl;exact .d (.d (.d (.d (.d (.d (.own rfl (by simp) .nil))))));exact rfl;exact rfl)|exact by_oa|exact by_ca);exact by_g)|refine wb ?_)
     refine q_loopT ⟨E2,t.next+1,t.early.eraseIdx k⟩ ⟨hI2,hJ2⟩ (by dsimp only;omega) ?_
     exact by_less
structure Packet where
 dst:Int
 data:Str
 deriving DecidableEq
structure Cluster where
 log:List Entry
 reps:List Replica
 net:List Packet
 deriving DecidableEq
structure Step where
 kind:Int
 n:Int
 m:Int
 deeds:List Deed
 deriving DecidableEq
def Packet.enc (p:Packet):List D:=[dint p.dst,encBytes p.data]
def encNet (l:List Packet):D := .sl 2 (l.map Packet.enc)
def encReps (l:List Replica):D := .sl 7 (l.map Replica.enc)
def Cluster.enc (c:Cluster):List D:=[encEntries c.log,encReps c.reps,encNet c.net]
def Step.enc (s:Step):List D:=[dint s.kind,dint s.n,dint s.m,encDeeds s.deeds]
def encSteps (l:List Step):D := .sl 4 (l.map Step.enc)
def goR (r:Replica) (n:Int):Replica×Int:=if n < 0 then (r,6) else match (ready r.engine)[n.toNat]? with
 |some x=>(⟨(goE r.engine x).1,r.next,r.early⟩,0)
 |none=>(r,6)
def nth {α:Type}(l:List α) (n:Int):Option α:=if n < 0 then none else l[n.toNat]?
def batchC (c:Cluster) (l:List Deed):Cluster×Int :=
 if 12≤c.log.length then (c,5)
 else if wrongEntry ⟨c.log.length,l⟩=0 then ({ c with log:=c.log++[⟨c.log.length,l⟩] },0) else (c,wrongEntry ⟨c.log.length,l⟩)
def sendC (c:Cluster) (n m:Int):Cluster×Int:=match nth c.reps n with
 |none=>(c,6)
 |some _=>match nth c.log m with
  |none=>(c,6)
  |some e=>(if c.net.length < 16 then { c with net:=c.net++[⟨n,bytesE e⟩] } else c,0)
def comeC (c:Cluster) (p:Packet):Cluster:=match nth c.reps p.dst with
 |none=>c
 |some r=>match parseB p.data with
  |.error _=>c
  |.ok e=>{ c with reps:=c.reps.set p.dst.toNat (comeE r e).1 }
def packetC (c:Cluster) (k n:Int):Cluster×Int:=match nth c.net n with
 |none=>(c,6)
 |some p=>if k=5 then (if c.net.length < 16 then { c with net:=c.net++[p] } else c,0)
  else if k=4 then ({ c with net:=c.net.eraseIdx n.toNat },0)
  else (comeC { c with net:=c.net.eraseIdx n.toNat } p,0)
def runC (c:Cluster) (n m:Int):Cluster×Int:=match nth c.reps n with
 |none=>(c,6)
 |some r=>({ c with reps:=c.reps.set n.toNat (goR r m).1 },(goR r m).2)
def clrC (c:Cluster) (n:Int):Cluster×Int:=match nth c.reps n with
 |none=>(c,6)
 |some r=>({ c with reps:=c.reps.set n.toNat (clearR r) },0)
def doC (c:Cluster) (s:Step):Cluster×Int :=
 if s.kind=1 then batchC c s.deeds
 else if s.kind=2 then sendC c s.n s.m
 else if s.kind=3∨s.kind=4∨s.kind=5 then packetC c s.kind s.n
 else if s.kind=6 then runC c s.n s.m
 else if s.kind=7 then clrC c s.n
 else (c,1)
def newC (n:Int):Cluster:=⟨[],List.replicate n.toNat noR,[]⟩
def playC:Cluster→List Step→Cluster
 |c,[]=>c
 |c,s::l=>playC (doC c s).1 l
def errsC:Cluster→List Step→List Int
 |_,[]=>[]
 |c,s::l=>(doC c s).2::errsC (doC c s).1 l
theorem nth_some {α:Type}{l:List α}{n:Int}{x:α}(h:nth l n=some x):∃ k:Nat,n=k∧l[k]? = some x:=by
 unfold nth at h
 split at h
 ·
  cases h
 ·
  exact⟨n.toNat,by omega,h⟩
theorem nth_none {α:Type}{l:List α}{n:Int}(h:nth l n=none):n < 0∨(l.length:Int)≤n:=by
 unfold nth at h
 split at h
 ·
  exact .inl (by omega)
 ·
  have:=List.getElem?_eq_none_iff.1 h
  exact .inr (by omega)
theorem nth_nat {α:Type}{l:List α}{k:Nat}:nth l (k:Int)=l[k]? := by
 unfold nth
 rw[if_neg (by omega),Int.toNat_natCast]
set_option maxHeartbeats 4000000
def pclearE (e:Engine):Engine:=⟨pclear (e.base+markN e.state) e.chains,e.deeds.drop (markN e.state),e.state.drop (markN e.state),e.ends.drop (markN e.state),e.base+markN e.state⟩
theorem ok_pclearE (e:Engine) (hs:e.Sm) (h1:e.state.length=e.deeds.length) (h2:e.ends.length=e.deeds.length):FnOk Tryz.prog 68 [.d (.agg e.enc)] (.one (.agg (pclearE e).enc)):=by
 refine fnOk_of tbl_ok mixed_ok Tryz.func68 rfl (by kernel_rfl) rfl rfl fun w0 own0=>?_
 have ho:=ok_planOwn e hs
 have hm:=ok_tmark e hs.s
 have hml:=markN_le e.state
 have hd:=hs.d
 have hb:=hs.b
 have hc:=ok_pclear e.chains (e.base+markN e.state) (by have:=hs.c;omega) (fun c h=>by have:=hs.v c h;omega)
 try refine wk ?_
 exact .one (.cell rfl rfl rfl rfl (.aggd (ds:=[encChains (pclear (e.base+markN e.state) e.chains),.sl 3 ((e.deeds.map Deed.enc).drop (markN e.state)),.sl 1 ((e.state.map encInt1).drop (markN e.state)),.sl 5 ((e.ends.map Done.enc).drop (markN e.state)),dint (e.base+markN e.state)]) rfl
  (dle_eq (by simp[pclearE,Engine.enc,encDeeds,encInts,encEnds]))))
set_option maxHeartbeats 8000000
theorem pclearE_eq {e:Engine}(h:SInv e):pclearE e=clearE e:=by
 unfold pclearE clearE
 rw[pclear_eq h.v]
theorem seenE_len (e:Engine) (at_:Int):(seenE e at_).1.length≤e.chains.length:=by
 unfold seenE
 split
 ·
  simp
 split
 ·
  exact rowsAt_len _ _
 ·
  simp
theorem ok_pgoE (e:Engine) (at_:Int) (hs:e.Sm) (hS:SInv e) (hW:WInv e) (hc:chOk e.chains) (hn:e.ends.length=e.deeds.length) :
  FnOk Tryz.prog 67 [.d (.agg e.enc),.d (dint at_)] (.tup [.agg (goE e at_).1.enc,dint (goE e at_).2]):=by
 have hdl:=hs.d
 have co:=ok_planOwn e hs
 unfold goE
 by_cases h1:at_ < 0
 ·
  rw[if_pos h1]
  refine fnOk_of tbl_ok mixed_ok Tryz.func67 rfl (by kernel_rfl) rfl rfl fun w0 own0=>?_
  try refine wk ?_
  exact .two (.cell rfl rfl rfl rfl (.aggd rfl (.refl _))) (.tmp rfl (.one (.d (.refl _))))
 rw[if_neg h1]
 obtain⟨A,rfl⟩:=Int.eq_ofNat_of_zero_le (show 0≤at_ by omega)
 rw[Int.toNat_natCast]
 unfold goAt
 cases hd:e.deeds[A]? with
 |none =>
  have hge:e.deeds.length≤A:=List.getElem?_eq_none_iff.1 hd
  refine fnOk_of tbl_ok mixed_ok Tryz.func67 rfl (by kernel_rfl) rfl rfl fun w0 own0=>?_
  try refine wk ?_
  exact .two (.cell rfl rfl rfl rfl (.aggd rfl (.refl _))) (.tmp rfl (.one (.d (.refl _))))
 |some d =>
  have hA:=(List.getElem?_eq_some_iff.1 hd).1
  dsimp only
  obtain⟨s,hsA⟩:∃ s,e.state[A]? = some s:=⟨e.state[A]'(by rw[hW.l];exact hA),List.getElem?_eq_getElem (by rw[hW.l];exact hA)⟩
  by_cases hs1:s=1
  ·
   subst hs1
   rw[if_pos hsA]
   refine fnOk_of tbl_ok mixed_ok Tryz.func67 rfl (by kernel_rfl) rfl rfl fun w0 own0=>?_
   try refine wk ?_
   exact .two (.cell rfl rfl rfl rfl (.aggd rfl (.refl _))) (.tmp rfl (.one (.d (.refl _))))
  rw[if_neg (by rw[hsA];simpa using hs1)]
  have hw:=hW.d d (List.mem_of_getElem? hd)
  have cn:=ok_pneeds e A d hs hd (wrong_keys hw).1 hS.k hW.nb
  cases hne:needs e A d with
  |nil =>
   rw[if_pos rfl]
   rw[hne]at cn
   have:=pgo_loop e A d hs hd hW.l hn hS.k hw hc (e.base+e.deeds.length) (fun c hc=>⟨hS.v c hc,hS.b c hc⟩) hne s hsA hs1 cn
   rw[pgoNew_eq hW hd]at this
   exact this
  |cons x l =>
   rw[if_neg (by simp)]
   rw[hne]at cn
   have hnl:(needs e A d).length≤268435456:=by
    have:=needs_len e.chains e.base (e.base+A) (keysD d) (List.range A) 0
    unfold needs
    simp at this
    omega
   rw[hne]at hnl
   have hpos:((x::l).length:Int) > 0:=by simp
   refine fnOk_of tbl_ok mixed_ok Tryz.func67 rfl (by kernel_rfl) rfl rfl fun w0 own0=>?_
   try refine wk ?_
   exact .two (.cell rfl rfl rfl rfl (.aggd rfl (.refl _))) (.tmp rfl (.one (.d (.refl _))))
theorem ready_ok {e:Engine}(hW:WInv e) {x:Int}(hx:x∈ready e):(goE e x).2=0:=by
 obtain⟨A,rfl,h1,h2⟩:=ready_mem.1 hx
 obtain⟨d,_,_,h3⟩:=go_ready hW.l h1 h2
 rw[h3]
theorem RInv.go {r:Replica}(h:RInv r) (n:Int):RInv (goR r n).1:=by
 unfold goR
 split
 ·
  exact h
 split
 ·
  next x hx =>
  obtain⟨q,hb⟩:=h.b
  exact⟨h.e.goE x,⟨q,hb.goE x⟩,h.n,h.l,h.w,h.g,h.d⟩
 ·
  exact h
theorem RInv.clear {r:Replica}(h:RInv r):RInv (clearR r):=by
 obtain⟨q,hb⟩:=h.b
 exact⟨h.e.clearE,⟨_,hb.clearE⟩,h.n,h.l,h.w,h.g,h.d⟩
theorem ready_small {e:Engine}(hs:e.Sm):(ready e).length≤134217728:=by
 have:=readyGo_len (e:=e) e.state 0
 have h5:=hs.s
 unfold ready;omega
theorem ok_repGo (r:Replica) (n:Int) (h:RInv r):FnOk Tryz.prog 40 [.d (.agg r.enc),.d (dint n)] (.tup [.agg (goR r n).1.enc,dint (goR r n).2]):=by
 refine fnOk_of tbl_ok mixed_ok Tryz.func40 rfl (by kernel_rfl) rfl rfl fun w0 own0=>?_
 obtain⟨q,hb⟩:=h.b
 have hs:=h.sm.e
 have c0:=ok_repOwn r h.sm
 have c1:=ok_pready r.engine hs h.e.z.s (fun d hd=>(wrong_keys (hb.W.d d hd)).1) hb.S.k hb.W.nb
 have c2:=fun x=>ok_pgoE r.engine x hs hb.S hb.W h.e.c h.e.z.n
 have hrl:=ready_small hs
 unfold goR
 by_cases h1:n < 0
 ·
  rw[if_pos h1]
  try refine wk ?_
  exact .two (.cell rfl rfl rfl rfl (.aggd (ds:=r.enc) rfl (.refl _))) (.tmp rfl (.one (.d (.refl _))))
 rw[if_neg h1]
 obtain⟨N,rfl⟩:=Int.eq_ofNat_of_zero_le (show 0≤n by omega)
 rw[Int.toNat_natCast]
 generalize ready r.engine=l at *
 cases hx:l[N]? with
 |none =>
  have hle:l.length≤N:=List.getElem?_eq_none_iff.1 hx
  try refine wk ?_
  exact .two (.cell rfl rfl rfl rfl (.aggd (ds:=r.enc) rfl (.refl _))) (.tmp rfl (.one (.d (.refl _))))
 |some x =>
  have hlt:=(List.getElem?_eq_some_iff.1 hx).1
  dsimp only
  have c3:=c2 x
  generalize (goE r.engine x).1=E at *
  generalize (goE r.engine x).2=v at *
  have hxm:(l.map encInt1)[N]? = some (encInt1 x):=by rw[List.getElem?_map,hx];rfl
  repeat(first|refine wa ?_|((with_reducible apply s5);(first|exact a_call c3 rfl by_sub|exact by_oa|exact by_ca);exact by_g)|refine wb ?_)
  exact .two (.cell rfl rfl rfl rfl (.aggd (ds:=Replica.enc ⟨E,r.next,r.early⟩) rfl (.refl _))) (.tmp rfl (.one (.d (.refl _))))
theorem ok_repClear (r:Replica) (h:RInv r):FnOk Tryz.prog 41 [.d (.agg r.enc)] (.one (.agg (clearR r).enc)):=by
 refine fnOk_of tbl_ok mixed_ok Tryz.func41 rfl (by kernel_rfl) rfl rfl fun w0 own0=>?_
 obtain⟨q,hb⟩:=h.b
 have c0:=ok_repOwn r h.sm
 have c1:=ok_pclearE r.engine h.sm.e h.e.z.s h.e.z.n
 rw[pclearE_eq hb.S]at c1
 unfold clearR
 generalize clearE r.engine=E at *
 try refine wk ?_
 exact .one (.cell rfl rfl rfl rfl (.aggd (ds:=Replica.enc ⟨E,r.next,r.early⟩) rfl (.refl _)))
inductive ArgsLe:List Arg→List Arg→Prop
 |nil:ArgsLe [] []
 |d {x y:D} {xs ys:List Arg} (h:DLe x y) (hr:ArgsLe xs ys):ArgsLe (.d x::xs) (.d y::ys)
theorem ArgsLe.ok {w:World}{own:Nat→Prop}{xs ys:List Arg}(h:ArgsLe xs ys):∀ {vs:List Value},ArgsOk w own vs xs→ArgsOk w own vs ys:=by
 induction h with
 |nil=>exact fun ha=>ha
 |d h hr ih =>
  intro vs ha
  cases vs with
  |nil=>exact ha.elim
  |cons v vs=>exact⟨Rd.le h ha.1,ih ha.2⟩
theorem fnOk_le {P:Program}{f:FuncId}{xs ys:List Arg}{r:Res}(h:FnOk P f ys r) (hle:ArgsLe xs ys):FnOk P f xs r:=⟨h.run,fun w own vs ho ha=>h.calls w own vs ho (hle.ok ha)⟩
theorem noR_le:DLes [.v nilS,.v nilS,.v nilS,.v nilS,dint 0,dint 0,.v nilS] noR.enc := .cons (dle_nil 2) (.cons (dle_nil 3) (.cons (dle_nil 1) (.cons (dle_nil 5) (.cons (.refl _) (.cons (.refl _) (.cons (dle_nil 2) .nil))))))
def QC (L:List Entry) (k:Nat) (e:Engine):Prop:=∃ m:Nat,e.base=m∧m≤(dOf L k).length∧e.deeds=(dOf L k).drop m∧BInv e (sq [] (dOf L k) m)
theorem dOf_ext {L M:List Entry}{k:Nat}(h:k≤L.length):dOf (L++M) k=dOf L k:=by
 unfold dOf
 rw[List.take_append_of_le_length h]
theorem dOf_pre {L:List Entry}{k:Nat}(h:k≤L.length):∃ t,dOf L L.length=dOf L k++t:=by
 refine⟨(L.drop k).flatMap Entry.deeds,?_⟩
 unfold dOf
 rw[← List.flatMap_append,List.take_append_drop,List.take_length]
theorem QC.adds {L:List Entry}(hw:∀ x∈L,wrongEntry x=0):Adds L (QC L):=by
 rintro k e x ⟨m,h1,h2,h3,h4⟩ hx
 obtain⟨_,_,hx3,hx4⟩:=wrongEntry_out (hw x (List.mem_of_getElem? hx))
 rw[addE_right hx3]
 have hd:=addAll_deeds (l:=x.deeds) (e:=e)
 refine⟨m,hd.2.trans h1,?_,?_,?_⟩
 ·
  rw[dOf_succ hx,List.length_append];omega
 ·
  rw[hd.1,h3,dOf_succ hx,List.drop_append_of_le_length h2]
 ·
  rw[dOf_succ hx,sq_append h2]
  exact h4.addAll hx4
theorem QC.go {L:List Entry}{k:Nat}{e:Engine}(h:QC L k e) (x:Int):QC L k (goE e x).1:=by
 obtain⟨m,h1,h2,h3,h4⟩:=h
 obtain⟨g1,g2⟩:=goE_deeds e x
 exact⟨m,g2.trans h1,h2,g1.trans h3,h4.goE x⟩
theorem QC.clear {L:List Entry}{k:Nat}{e:Engine}(h:QC L k e):QC L k (clearE e):=by
 obtain⟨m,h1,h2,h3,h4⟩:=h
 have hm:=markN_le e.state
 have hl:=h4.W.l
 have hdl:e.deeds.length=(dOf L k).length - m:=by rw[h3,List.length_drop]
 refine⟨m+markN e.state,?_,by omega,?_,?_⟩
 ·
  show e.base+(markN e.state:Int)=_
  rw[h1];omega
 ·
  show e.deeds.drop (markN e.state)=_
  rw[h3,List.drop_drop]
 ·
  have hc:=h4.clearE
  rw[h3,sq_drop _ (by omega)]at hc
  exact hc
theorem CInv.ext {L M:List Entry}{r:Replica}(h:CInv L (QC L) r):CInv (L++M) (QC (L++M)) r:=by
 obtain⟨⟨k,h1,h2,h3⟩,he,hd⟩:=h
 refine⟨⟨k,h1,by rw[List.length_append];omega,?_⟩,fun x hx=>?_,hd⟩
 ·
  unfold QC at h3 ⊢
  rw[dOf_ext h2];exact h3
 ·
  obtain⟨g1,i,g2,g3⟩:=he x hx
  refine⟨g1,i,g2,?_⟩
  rw[List.getElem?_append_left (List.getElem?_eq_some_iff.1 g3).1];exact g3
theorem CInv.go {L:List Entry}{r:Replica}(h:CInv L (QC L) r) (n:Int):CInv L (QC L) (goR r n).1:=by
 unfold goR
 split
 ·
  exact h
 split
 ·
  obtain⟨⟨k,h1,h2,h3⟩,he,hd⟩:=h
  exact⟨⟨k,h1,h2,h3.go _⟩,he,hd⟩
 ·
  exact h
theorem CInv.clear {L:List Entry}{r:Replica}(h:CInv L (QC L) r):CInv L (QC L) (clearR r):=by
 obtain⟨⟨k,h1,h2,h3⟩,he,hd⟩:=h
 exact⟨⟨k,h1,h2,h3.clear⟩,he,hd⟩
theorem noR_c (L:List Entry):CInv L (QC L) noR :=
 ⟨⟨0,rfl,by omega,0,rfl,by omega,rfl,newE_b (r:=[]) (by decide)⟩,by simp[noR],by simp[noR]⟩
structure KInv (c:Cluster):Prop where
 l:c.log.length≤12
 w:∀ (i:Nat) (x:Entry),c.log[i]? = some x→x.number=i∧wrongEntry x=0
 k:c.reps.length≤3
 r:∀ r∈c.reps,RInv r∧CInv c.log (QC c.log) r
 p:c.net.length≤16
 d:∀ p∈c.net,(0≤p.dst∧p.dst < c.reps.length)∧∃ (i:Nat) (e:Entry),c.log[i]? = some e∧p.data=bytesE e
theorem KInv.right {c:Cluster}(h:KInv c):∀ x∈c.log,wrongEntry x=0:=fun x hx=>by
 obtain⟨i,hi⟩:=List.mem_iff_getElem?.1 hx
 exact(h.w i x hi).2
theorem newC_inv {n:Int}(h:n≤3):KInv (newC n):=by
 refine⟨by simp[newC],fun i x hx=>by simp[newC]at hx,by simp[newC];omega,fun r hr=>?_,by simp[newC],fun p hp=>by simp[newC]at hp⟩
 obtain rfl:r=noR:=by simp[newC]at hr;exact hr.2
 exact⟨noR_inv,noR_c _⟩
theorem KInv.batch {c:Cluster}(h:KInv c) (l:List Deed):KInv (batchC c l).1:=by
 unfold batchC
 split
 ·
  exact h
 split
 ·
  next h1 h2 =>
  refine⟨by simp;omega,fun i x hx=>?_,h.k,fun r hr=>⟨(h.r r hr).1,(h.r r hr).2.ext⟩,h.p,fun p hp=>?_⟩
  ·
   dsimp only at hx
   rcases Nat.lt_or_ge i c.log.length with hi|hi
   ·
    rw[List.getElem?_append_left hi]at hx;exact h.w i x hx
   ·
    rw[List.getElem?_append_right hi]at hx
    have hi0:i=c.log.length:=by
     have:=(List.getElem?_eq_some_iff.1 hx).1
     simp at this;omega
    subst hi0
    simp at hx
    subst hx
    exact⟨rfl,h2⟩
  ·
   obtain⟨h3,i,e,h4,h5⟩:=h.d p hp
   exact⟨h3,i,e,by dsimp only;rw[List.getElem?_append_left (List.getElem?_eq_some_iff.1 h4).1];exact h4,h5⟩
 ·
  exact h
theorem KInv.send {c:Cluster}(h:KInv c) (n m:Int):KInv (sendC c n m).1:=by
 unfold sendC
 split
 ·
  exact h
 next r hr =>
 split
 ·
  exact h
 next e he =>
 obtain⟨j,rfl,hj⟩:=nth_some hr
 obtain⟨i,rfl,hi⟩:=nth_some he
 dsimp only
 split
 ·
  refine⟨h.l,h.w,h.k,h.r,by simp;omega,fun p hp=>?_⟩
  dsimp only at hp ⊢
  rcases List.mem_append.1 hp with hp|hp
  ·
   exact h.d p hp
  ·
   rw[List.mem_singleton.1 hp]
   have:=(List.getElem?_eq_some_iff.1 hj).1
   exact⟨by dsimp only;omega,i,e,hi,rfl⟩
 ·
  exact h
theorem KInv.drop {c:Cluster}(h:KInv c) (n:Nat):KInv { c with net:=c.net.eraseIdx n } :=
 ⟨h.l,h.w,h.k,h.r,Nat.le_trans (List.eraseIdx_sublist _ _).length_le h.p,fun p hp=>h.d p (List.mem_of_mem_eraseIdx hp)⟩
theorem KInv.setR {c:Cluster}(h:KInv c) {n:Nat}{r:Replica}(hr:RInv r∧CInv c.log (QC c.log) r):KInv { c with reps:=c.reps.set n r }:=by
 refine⟨h.l,h.w,by simp;exact h.k,fun x hx=>?_,h.p,fun p hp=>?_⟩
 ·
  rcases List.mem_or_eq_of_mem_set hx with hx|rfl
  ·
   exact h.r x hx
  ·
   exact hr
 ·
  have:=h.d p hp
  dsimp only
  rw[List.length_set];exact this
theorem KInv.come1 {c:Cluster}(h:KInv c) {r:Replica}(hr:r∈c.reps) {i:Nat}{e:Entry}(he:c.log[i]? = some e):RInv (comeE r e).1∧CInv c.log (QC c.log) (comeE r e).1:=by
 obtain⟨h1,h2⟩:=h.r r hr
 obtain⟨h3,h4⟩:=h.w i e he
 exact⟨comeE_inv h1 h4,(h2.come (QC.adds h.right) he h3).1⟩
theorem KInv.come {c:Cluster}(h:KInv c) {p:Packet}(hp:∃ (i:Nat) (e:Entry),c.log[i]? = some e∧p.data=bytesE e):KInv (comeC c p):=by
 obtain⟨i,e,h1,h2⟩:=hp
 unfold comeC
 split
 ·
  exact h
 next r hr =>
 obtain⟨j,hj1,hj⟩:=nth_some hr
 rw[h2,parse_bytes (h.w i e h1).2]
 exact h.setR (h.come1 (List.mem_of_getElem? hj) h1)
theorem KInv.packet {c:Cluster}(h:KInv c) (k n:Int):KInv (packetC c k n).1:=by
 unfold packetC
 split
 ·
  exact h
 next p hp =>
 obtain⟨j,rfl,hj⟩:=nth_some hp
 have hd:=h.d p (List.mem_of_getElem? hj)
 split
 ·
  dsimp only
  split
  ·
   refine⟨h.l,h.w,h.k,h.r,by simp;omega,fun q hq=>?_⟩
   rcases List.mem_append.1 hq with hq|hq
   ·
    exact h.d q hq
   ·
    rw[List.mem_singleton.1 hq];exact hd
  ·
   exact h
 split
 ·
  exact h.drop _
 ·
  exact(h.drop _).come hd.2
theorem KInv.run {c:Cluster}(h:KInv c) (n m:Int):KInv (runC c n m).1:=by
 unfold runC
 split
 ·
  exact h
 next r hr =>
 obtain⟨j,rfl,hj⟩:=nth_some hr
 obtain⟨h1,h2⟩:=h.r r (List.mem_of_getElem? hj)
 exact h.setR ⟨h1.go m,h2.go m⟩
theorem KInv.clr {c:Cluster}(h:KInv c) (n:Int):KInv (clrC c n).1:=by
 unfold clrC
 split
 ·
  exact h
 next r hr =>
 obtain⟨j,rfl,hj⟩:=nth_some hr
 obtain⟨h1,h2⟩:=h.r r (List.mem_of_getElem? hj)
 exact h.setR ⟨h1.clear,h2.clear⟩
theorem KInv.step {c:Cluster}(h:KInv c) (s:Step):KInv (doC c s).1:=by
 unfold doC
 split
 ·
  exact h.batch _
 split
 ·
  exact h.send _ _
 split
 ·
  exact h.packet _ _
 split
 ·
  exact h.run _ _
 split
 ·
  exact h.clr _
 ·
  exact h
theorem KInv.play:∀ {l:List Step}{c:Cluster},KInv c→KInv (playC c l)
 | [],_,h=>h
 |s::l,c,h=>by
  simp only[playC]
  exact KInv.play (h.step s)
theorem QC.out {L:List Entry}{k:Nat}{e:Engine}(h:QC L k e):∃ m:Nat,e.base=m∧m+e.deeds.length=(dOf L k).length∧e.deeds=(dOf L k).drop m∧e.ends.length=e.deeds.length∧e.state.length=e.deeds.length ∧
  ∀ (i:Nat),e.state[i]? = some 1→e.ends[i]? = (allD [] (dOf L k)).2[m+i]? := by
 obtain⟨m,h1,h2,h3,h4⟩:=h
 have hdl:e.deeds.length=(dOf L k).length - m:=by rw[h3,List.length_drop]
 refine⟨m,h1,by omega,h3,h4.n,h4.W.l,fun i hi=>?_⟩
 have hil:=(List.getElem?_eq_some_iff.1 hi).1
 have hl:=h4.W.l
 obtain⟨d,hd⟩:∃ d,e.deeds[i]? = some d:=⟨e.deeds[i]'(by omega),List.getElem?_eq_getElem (by omega)⟩
 rw[h4.Q.w i d hd hi]
 have hd':=hd
 rw[h3,List.getElem?_drop]at hd'
 rw[allD_ends hd',h3,sq_drop _ (by omega)]
theorem QC.seen {L:List Entry}{k:Nat}{e:Engine}(h:QC L k e) (hk:k≤L.length):∃ m:Nat,e.base+(markN e.state:Int)=((m+markN e.state:Nat):Int)∧m+markN e.state≤(dOf L L.length).length ∧
  seenE e (markN e.state)=((allD [] ((dOf L L.length).take (m+markN e.state))).1,0):=by
 obtain⟨m,h1,h2,h3,h4⟩:=h
 have hdl:e.deeds.length=(dOf L k).length - m:=by rw[h3,List.length_drop]
 have hm:=markN_le e.state
 have hl:=h4.W.l
 obtain⟨t,ht⟩:=dOf_pre hk
 refine⟨m,by rw[h1];omega,by rw[ht,List.length_append];omega,?_⟩
 rw[seen_mark h4,h3,sq_drop _ (by omega),ht]
 show _=(sq [] (dOf L k++t) (m+markN e.state),0)
 rw[sq_append (by omega)]
end Go.Proofs.YtccblhpfjlgmbaaGreatDoor
namespace Go.Proofs
open Go.Shelf Go.RowKit
noncomputable def Tryz.laysC172_ren : Go.Shelf.Ren := ⟨fun | 129 => 151 | 171 => 110 | 172 => 122 | 205 => 197 | 243 => 135 | 244 => 153 | 245 => 154 | 246 => 166 | 247 => 174 | 279 => 175 | 280 => 176 | 281 => 177 | 282 => 178 | 283 => 189 | 284 => 190 | 285 => 191 | 286 => 192 | 287 => 195 | 316 => 196 | 317 => 214 | 318 => 215 | 319 => 216 | 320 => 217 | 321 => 218 | 322 => 219 | 337 => 226 | 338 => 227 | n => n, fun | 0 => 0 | 2 => 2 | 3 => 3 | 4 => 4 | 5 => 5 | 9 => 9 | 20 => 20 | 21 => 21 | 37 => 64 | 46 => 145 | 51 => 202 | 53 => 204 | 75 => 170 | 76 => 171 | 85 => 225 | 127 => 231 | 143 => 264 | 145 => 266 | 167 => 224 | 168 => 227 | 171 => 236 | 173 => 238 | 175 => 243 | 210 => 247 | 212 => 261 | 213 => 262 | 232 => 277 | 233 => 278 | 80 => 211 | n => n, fun | 15 => (Tryz.prog.globals.findIdx? (·.name == "strconv.ErrSyntax")).getD 0 | 16 => (Tryz.prog.globals.findIdx? (·.name == "strconv.ErrRange")).getD 0 | 17 => (Tryz.prog.globals.findIdx? (·.name == "internal/strconv.uint64pow10")).getD 0 | 18 => (Tryz.prog.globals.findIdx? (·.name == "math/bits.deBruijn32tab")).getD 0 | 19 => (Tryz.prog.globals.findIdx? (·.name == "math/bits.deBruijn64tab")).getD 0 | n => n⟩
theorem Tryz.laysC172:Go.Proofs.LaysC.n172 Tryz.prog Tryz.laysC172_ren:={
 mixed:=by kernel_rfl
 f129:=Tryz.func151.trans (congrArg some (by kernel_rfl))
 f171:=Tryz.func110.trans (congrArg some (by kernel_rfl))
 f172:=Tryz.func122.trans (congrArg some (by kernel_rfl))
 f205:=Tryz.func197.trans (congrArg some (by kernel_rfl))
 f243:=Tryz.func135.trans (congrArg some (by kernel_rfl))
 f244:=Tryz.func153.trans (congrArg some (by kernel_rfl))
 f245:=Tryz.func154.trans (congrArg some (by kernel_rfl))
 f246:=Tryz.func166.trans (congrArg some (by kernel_rfl))
 f247:=Tryz.func174.trans (congrArg some (by kernel_rfl))
 f279:=Tryz.func175.trans (congrArg some (by kernel_rfl))
 f280:=Tryz.func176.trans (congrArg some (by kernel_rfl))
 f281:=Tryz.func177.trans (congrArg some (by kernel_rfl))
 f282:=Tryz.func178.trans (congrArg some (by kernel_rfl))
 f283:=Tryz.func189.trans (congrArg some (by kernel_rfl))
 f284:=Tryz.func190.trans (congrArg some (by kernel_rfl))
 f285:=Tryz.func191.trans (congrArg some (by kernel_rfl))
 f286:=Tryz.func192.trans (congrArg some (by kernel_rfl))
 f287:=Tryz.func195.trans (congrArg some (by kernel_rfl))
 f316:=Tryz.func196.trans (congrArg some (by kernel_rfl))
 f317:=Tryz.func214.trans (congrArg some (by kernel_rfl))
 f318:=Tryz.func215.trans (congrArg some (by kernel_rfl))
 f319:=Tryz.func216.trans (congrArg some (by kernel_rfl))
 f320:=Tryz.func217.trans (congrArg some (by kernel_rfl))
 f321:=Tryz.func218.trans (congrArg some (by kernel_rfl))
 f322:=Tryz.func219.trans (congrArg some (by kernel_rfl))
 f337:=Tryz.func226.trans (congrArg some (by kernel_rfl))
 f338:=Tryz.func227.trans (congrArg some (by kernel_rfl))
 t0:=Tryz.underlying0
 a0:=Tryz.isAgg0
 z0:=Tryz.sizeOf0
 v0:=Tryz.zeroValue0
 t2:=Tryz.underlying2
 a2:=Tryz.isAgg2
 z2:=Tryz.sizeOf2
 v2:=Tryz.zeroValue2
 t3:=Tryz.underlying3
 a3:=Tryz.isAgg3
 z3:=Tryz.sizeOf3
 v3:=Tryz.zeroValue3
 t4:=Tryz.underlying4
 a4:=Tryz.isAgg4
 z4:=Tryz.sizeOf4
 v4:=Tryz.zeroValue4
 t5:=Tryz.underlying5
 a5:=Tryz.isAgg5
 z5:=Tryz.sizeOf5
 v5:=Tryz.zeroValue5
 t9:=Tryz.underlying9
 a9:=Tryz.isAgg9
 z9:=Tryz.sizeOf9
 v9:=Tryz.zeroValue9
 t20:=Tryz.underlying20
 a20:=Tryz.isAgg20
 z20:=Tryz.sizeOf20
 v20:=Tryz.zeroValue20
 t21:=Tryz.underlying21
 a21:=Tryz.isAgg21
 z21:=Tryz.sizeOf21
 v21:=Tryz.zeroValue21
 t37:=Tryz.underlying64
 a37:=Tryz.isAgg64
 z37:=Tryz.sizeOf64
 v37:=Tryz.zeroValue64
 t46:=Tryz.underlying145
 a46:=Tryz.isAgg145
 z46:=Tryz.sizeOf145
 v46:=Tryz.zeroValue145
 t51:=Tryz.underlying202
 a51:=Tryz.isAgg202
 z51:=Tryz.sizeOf202
 v51:=Tryz.zeroValue202
 t53:=Tryz.underlying204
 a53:=Tryz.isAgg204
 z53:=Tryz.sizeOf204
 v53:=Tryz.zeroValue204
 t75:=Tryz.underlying170
 a75:=Tryz.isAgg170
 z75:=Tryz.sizeOf170
 v75:=Tryz.zeroValue170
 t76:=Tryz.underlying171
 a76:=Tryz.isAgg171
 z76:=Tryz.sizeOf171
 v76:=Tryz.zeroValue171
 t85:=Tryz.underlying225
 a85:=Tryz.isAgg225
 z85:=Tryz.sizeOf225
 v85:=Tryz.zeroValue225
 t127:=Tryz.underlying231
 a127:=Tryz.isAgg231
 z127:=Tryz.sizeOf231
 v127:=Tryz.zeroValue231
 t143:=Tryz.underlying264
 a143:=Tryz.isAgg264
 z143:=Tryz.sizeOf264
 v143:=Tryz.zeroValue264
 t145:=Tryz.underlying266
 a145:=Tryz.isAgg266
 z145:=Tryz.sizeOf266
 v145:=Tryz.zeroValue266
 t167:=Tryz.underlying224
 a167:=Tryz.isAgg224
 z167:=Tryz.sizeOf224
 v167:=Tryz.zeroValue224
 t168:=Tryz.underlying227
 a168:=Tryz.isAgg227
 z168:=Tryz.sizeOf227
 v168:=Tryz.zeroValue227
 t171:=Tryz.underlying236
 a171:=Tryz.isAgg236
 z171:=Tryz.sizeOf236
 v171:=Tryz.zeroValue236
 t173:=Tryz.underlying238
 a173:=Tryz.isAgg238
 z173:=Tryz.sizeOf238
 v173:=Tryz.zeroValue238
 t175:=Tryz.underlying243
 a175:=Tryz.isAgg243
 z175:=Tryz.sizeOf243
 v175:=Tryz.zeroValue243
 t210:=Tryz.underlying247
 a210:=Tryz.isAgg247
 z210:=Tryz.sizeOf247
 v210:=Tryz.zeroValue247
 t212:=Tryz.underlying261
 a212:=Tryz.isAgg261
 z212:=Tryz.sizeOf261
 v212:=Tryz.zeroValue261
 t213:=Tryz.underlying262
 a213:=Tryz.isAgg262
 z213:=Tryz.sizeOf262
 t232:=Tryz.underlying277
 a232:=Tryz.isAgg277
 z232:=Tryz.sizeOf277
 v232:=Tryz.zeroValue277
 t233:=Tryz.underlying278
 a233:=Tryz.isAgg278
 z233:=Tryz.sizeOf278
 v233:=Tryz.zeroValue278
 g15:=by kernel_rfl
 g16:=by kernel_rfl
 g17:=by kernel_rfl
 g18:=by kernel_rfl
 g19:=by kernel_rfl
 t80:=Tryz.underlying211
 a80:=Tryz.isAgg211
 z80:=Tryz.sizeOf211
 v80:=Tryz.zeroValue211
 i0:=by kernel_rfl
 i2:=by kernel_rfl
 i3:=by kernel_rfl
 i4:=by kernel_rfl
 i5:=by kernel_rfl
 i9:=by kernel_rfl
 i20:=by kernel_rfl
 i21:=by kernel_rfl
 i37:=by kernel_rfl
 i46:=by kernel_rfl
 i51:=by kernel_rfl
 i53:=by kernel_rfl
 i75:=by kernel_rfl
 i76:=by kernel_rfl
 i80:=by kernel_rfl
 i85:=by kernel_rfl
 i127:=by kernel_rfl
 i143:=by kernel_rfl
 i145:=by kernel_rfl
 i167:=by kernel_rfl
 i168:=by kernel_rfl
 i171:=by kernel_rfl
 i173:=by kernel_rfl
 i175:=by kernel_rfl
 i210:=by kernel_rfl
 i212:=by kernel_rfl
 i232:=by kernel_rfl
 i233:=by kernel_rfl
 m15:=by kernel_rfl
 m16:=by kernel_rfl
 m17:=by kernel_rfl
 m18:=by kernel_rfl
 m19:=by kernel_rfl
 c0:=by kernel_rfl
 c2:=by kernel_rfl
 c3:=by kernel_rfl
 c4:=by kernel_rfl
 c5:=by kernel_rfl
 c9:=by kernel_rfl
 c20:=by kernel_rfl
 c21:=by kernel_rfl
 c37:=by kernel_rfl
 c46:=by kernel_rfl
 c51:=by kernel_rfl
 c53:=by kernel_rfl
 c75:=by kernel_rfl
 c76:=by kernel_rfl
 c80:=by kernel_rfl
 c85:=by kernel_rfl
 c127:=by kernel_rfl
 c143:=by kernel_rfl
 c145:=by kernel_rfl
 c167:=by kernel_rfl
 c168:=by kernel_rfl
 c171:=by kernel_rfl
 c173:=by kernel_rfl
 c175:=by kernel_rfl
 c210:=by kernel_rfl
 c212:=by kernel_rfl
 c213:=by kernel_rfl
 c232:=by kernel_rfl
 c233:=by kernel_rfl
 }
noncomputable def Tryz.lays171_ren : Go.Shelf.Ren := ⟨fun | 129 => 151 | 171 => 110 | 243 => 135 | 246 => 166 | 283 => 189 | 284 => 190 | 285 => 191 | 286 => 192 | 317 => 214 | 318 => 215 | 319 => 216 | 320 => 217 | 337 => 226 | 338 => 227 | n => n, fun | 0 => 0 | 2 => 2 | 3 => 3 | 4 => 4 | 5 => 5 | 9 => 9 | 20 => 20 | 37 => 64 | 46 => 145 | 51 => 202 | 53 => 204 | 171 => 236 | 173 => 238 | 212 => 261 | 213 => 262 | 232 => 277 | 233 => 278 | n => n, fun | 17 => (Tryz.prog.globals.findIdx? (·.name == "internal/strconv.uint64pow10")).getD 0 | 18 => (Tryz.prog.globals.findIdx? (·.name == "math/bits.deBruijn32tab")).getD 0 | 19 => (Tryz.prog.globals.findIdx? (·.name == "math/bits.deBruijn64tab")).getD 0 | n => n⟩
theorem Tryz.lays171:Go.Proofs.Lays.n171 Tryz.prog Tryz.lays171_ren:={
 mixed:=by kernel_rfl
 f129:=Tryz.func151.trans (congrArg some (by kernel_rfl))
 f171:=Tryz.func110.trans (congrArg some (by kernel_rfl))
 f243:=Tryz.func135.trans (congrArg some (by kernel_rfl))
 f246:=Tryz.func166.trans (congrArg some (by kernel_rfl))
 f283:=Tryz.func189.trans (congrArg some (by kernel_rfl))
 f284:=Tryz.func190.trans (congrArg some (by kernel_rfl))
 f285:=Tryz.func191.trans (congrArg some (by kernel_rfl))
 f286:=Tryz.func192.trans (congrArg some (by kernel_rfl))
 f317:=Tryz.func214.trans (congrArg some (by kernel_rfl))
 f318:=Tryz.func215.trans (congrArg some (by kernel_rfl))
 f319:=Tryz.func216.trans (congrArg some (by kernel_rfl))
 f320:=Tryz.func217.trans (congrArg some (by kernel_rfl))
 f337:=Tryz.func226.trans (congrArg some (by kernel_rfl))
 f338:=Tryz.func227.trans (congrArg some (by kernel_rfl))
 t0:=Tryz.underlying0
 a0:=Tryz.isAgg0
 z0:=Tryz.sizeOf0
 v0:=Tryz.zeroValue0
 t2:=Tryz.underlying2
 a2:=Tryz.isAgg2
 z2:=Tryz.sizeOf2
 v2:=Tryz.zeroValue2
 t3:=Tryz.underlying3
 a3:=Tryz.isAgg3
 z3:=Tryz.sizeOf3
 v3:=Tryz.zeroValue3
 t4:=Tryz.underlying4
 a4:=Tryz.isAgg4
 z4:=Tryz.sizeOf4
 v4:=Tryz.zeroValue4
 t5:=Tryz.underlying5
 a5:=Tryz.isAgg5
 z5:=Tryz.sizeOf5
 v5:=Tryz.zeroValue5
 t9:=Tryz.underlying9
 a9:=Tryz.isAgg9
 z9:=Tryz.sizeOf9
 v9:=Tryz.zeroValue9
 t20:=Tryz.underlying20
 a20:=Tryz.isAgg20
 z20:=Tryz.sizeOf20
 v20:=Tryz.zeroValue20
 t37:=Tryz.underlying64
 a37:=Tryz.isAgg64
 z37:=Tryz.sizeOf64
 v37:=Tryz.zeroValue64
 t46:=Tryz.underlying145
 a46:=Tryz.isAgg145
 z46:=Tryz.sizeOf145
 v46:=Tryz.zeroValue145
 t51:=Tryz.underlying202
 a51:=Tryz.isAgg202
 z51:=Tryz.sizeOf202
 v51:=Tryz.zeroValue202
 t53:=Tryz.underlying204
 a53:=Tryz.isAgg204
 z53:=Tryz.sizeOf204
 v53:=Tryz.zeroValue204
 t171:=Tryz.underlying236
 a171:=Tryz.isAgg236
 z171:=Tryz.sizeOf236
 v171:=Tryz.zeroValue236
 t173:=Tryz.underlying238
 a173:=Tryz.isAgg238
 z173:=Tryz.sizeOf238
 v173:=Tryz.zeroValue238
 t212:=Tryz.underlying261
 a212:=Tryz.isAgg261
 z212:=Tryz.sizeOf261
 v212:=Tryz.zeroValue261
 t213:=Tryz.underlying262
 a213:=Tryz.isAgg262
 z213:=Tryz.sizeOf262
 t232:=Tryz.underlying277
 a232:=Tryz.isAgg277
 z232:=Tryz.sizeOf277
 v232:=Tryz.zeroValue277
 t233:=Tryz.underlying278
 a233:=Tryz.isAgg278
 z233:=Tryz.sizeOf278
 v233:=Tryz.zeroValue278
 g17:=by kernel_rfl
 g18:=by kernel_rfl
 g19:=by kernel_rfl
 }
noncomputable def Tryz.laysM171_ren : Go.Shelf.Ren := ⟨fun | 129 => 151 | 171 => 110 | 243 => 135 | 246 => 166 | 283 => 189 | 284 => 190 | 285 => 191 | 286 => 192 | 317 => 214 | 318 => 215 | 319 => 216 | 320 => 217 | 337 => 226 | 338 => 227 | n => n, fun | 0 => 0 | 2 => 2 | 3 => 3 | 4 => 4 | 5 => 5 | 9 => 9 | 20 => 20 | 37 => 64 | 46 => 145 | 51 => 202 | 53 => 204 | 171 => 236 | 173 => 238 | 212 => 261 | 213 => 262 | 232 => 277 | 233 => 278 | n => n, fun | 17 => (Tryz.prog.globals.findIdx? (·.name == "internal/strconv.uint64pow10")).getD 0 | 18 => (Tryz.prog.globals.findIdx? (·.name == "math/bits.deBruijn32tab")).getD 0 | 19 => (Tryz.prog.globals.findIdx? (·.name == "math/bits.deBruijn64tab")).getD 0 | n => n⟩
theorem Tryz.laysM171:Go.Proofs.LaysM.n171 Tryz.prog Tryz.laysM171_ren:={
 mixed:=by kernel_rfl
 f129:=Tryz.func151.trans (congrArg some (by kernel_rfl))
 f171:=Tryz.func110.trans (congrArg some (by kernel_rfl))
 f243:=Tryz.func135.trans (congrArg some (by kernel_rfl))
 f246:=Tryz.func166.trans (congrArg some (by kernel_rfl))
 f283:=Tryz.func189.trans (congrArg some (by kernel_rfl))
 f284:=Tryz.func190.trans (congrArg some (by kernel_rfl))
 f285:=Tryz.func191.trans (congrArg some (by kernel_rfl))
 f286:=Tryz.func192.trans (congrArg some (by kernel_rfl))
 f317:=Tryz.func214.trans (congrArg some (by kernel_rfl))
 f318:=Tryz.func215.trans (congrArg some (by kernel_rfl))
 f319:=Tryz.func216.trans (congrArg some (by kernel_rfl))
 f320:=Tryz.func217.trans (congrArg some (by kernel_rfl))
 f337:=Tryz.func226.trans (congrArg some (by kernel_rfl))
 f338:=Tryz.func227.trans (congrArg some (by kernel_rfl))
 t0:=Tryz.underlying0
 a0:=Tryz.isAgg0
 z0:=Tryz.sizeOf0
 v0:=Tryz.zeroValue0
 t2:=Tryz.underlying2
 a2:=Tryz.isAgg2
 z2:=Tryz.sizeOf2
 v2:=Tryz.zeroValue2
 t3:=Tryz.underlying3
 a3:=Tryz.isAgg3
 z3:=Tryz.sizeOf3
 v3:=Tryz.zeroValue3
 t4:=Tryz.underlying4
 a4:=Tryz.isAgg4
 z4:=Tryz.sizeOf4
 v4:=Tryz.zeroValue4
 t5:=Tryz.underlying5
 a5:=Tryz.isAgg5
 z5:=Tryz.sizeOf5
 v5:=Tryz.zeroValue5
 t9:=Tryz.underlying9
 a9:=Tryz.isAgg9
 z9:=Tryz.sizeOf9
 v9:=Tryz.zeroValue9
 t20:=Tryz.underlying20
 a20:=Tryz.isAgg20
 z20:=Tryz.sizeOf20
 v20:=Tryz.zeroValue20
 t37:=Tryz.underlying64
 a37:=Tryz.isAgg64
 z37:=Tryz.sizeOf64
 v37:=Tryz.zeroValue64
 t46:=Tryz.underlying145
 a46:=Tryz.isAgg145
 z46:=Tryz.sizeOf145
 v46:=Tryz.zeroValue145
 t51:=Tryz.underlying202
 a51:=Tryz.isAgg202
 z51:=Tryz.sizeOf202
 v51:=Tryz.zeroValue202
 t53:=Tryz.underlying204
 a53:=Tryz.isAgg204
 z53:=Tryz.sizeOf204
 v53:=Tryz.zeroValue204
 t171:=Tryz.underlying236
 a171:=Tryz.isAgg236
 z171:=Tryz.sizeOf236
 v171:=Tryz.zeroValue236
 t173:=Tryz.underlying238
 a173:=Tryz.isAgg238
 z173:=Tryz.sizeOf238
 v173:=Tryz.zeroValue238
 t212:=Tryz.underlying261
 a212:=Tryz.isAgg261
 z212:=Tryz.sizeOf261
 v212:=Tryz.zeroValue261
 t213:=Tryz.underlying262
 a213:=Tryz.isAgg262
 z213:=Tryz.sizeOf262
 t232:=Tryz.underlying277
 a232:=Tryz.isAgg277
 z232:=Tryz.sizeOf277
 v232:=Tryz.zeroValue277
 t233:=Tryz.underlying278
 a233:=Tryz.isAgg278
 z233:=Tryz.sizeOf278
 v233:=Tryz.zeroValue278
 g17:=by kernel_rfl
 g18:=by kernel_rfl
 g19:=by kernel_rfl
 i0:=by kernel_rfl
 i2:=by kernel_rfl
 i3:=by kernel_rfl
 i4:=by kernel_rfl
 i5:=by kernel_rfl
 i9:=by kernel_rfl
 i20:=by kernel_rfl
 i37:=by kernel_rfl
 i46:=by kernel_rfl
 i51:=by kernel_rfl
 i53:=by kernel_rfl
 i171:=by kernel_rfl
 i173:=by kernel_rfl
 i212:=by kernel_rfl
 i232:=by kernel_rfl
 i233:=by kernel_rfl
 m17:=by kernel_rfl
 m18:=by kernel_rfl
 m19:=by kernel_rfl
 }
end Go.Proofs
namespace Go.AX
open Go.RowKit
variable {cx:Cx}{g:Nat→Value}{σ σ':St}{a:Act}{w w':World}{nx:Nat}
variable {ty:TypeId}{pos:String}{af:Array Edge}{gd:Option (Nat×Bool)}{d:Nat}
def errP (_w:World) (_own:Nat→Prop) (v:Value):Prop:=∃ t p,v = .iface t p
def errD:D := .x errP
theorem err_stable:Stable errP:=fun _ _ _ _ _ _ _ h=>h
theorem rd_err {own:Nat→Prop}{t:TypeId}{p:Value}:Rd w own (.iface t p) errD := .x errP _ rfl err_stable ⟨t,p,rfl⟩
theorem a_err {t t':TypeId}{x:Operand}{ms:Array (String×TypeId)}(hx:ev σ x=some (.d errD)) (ht:cx.P.underlying t=some (.interface ms)) (hd:Nat.blt d cx.n=true) :
  OA cx σ ⟨some d,.binOp .eql t x (.const .nilIface) t',ty,pos,af,gd⟩ ⟨rdOf x (.d errD),[(.s d,.av (.d (.v (.bool false))))]⟩:=by
 refine⟨ok_val rfl (lt_of_blt hd) fun σ1 a w g nx hs hr=>?_,(ev_out hx).2⟩
 obtain⟨t1,p1,hv⟩:=rd_x (hs.ev (ev_out hx).1 hr).1
 refine⟨.bool false,w,?_,Below.refl _ _,Rd.v _,trivial⟩
 have h:∀ d:Nat,(Op.equalIn (d+1) t (.iface t1 p1) .nilIface).run cx.P w = .ok false w:=fun d=>by
  simp[Op.equalIn,run_underlying ht]
 have hg:eqGuard .eql t x (.const .nilIface) (.iface t1 p1) .nilIface=pure ():=by cases x <;> rfl
 have hc:a.eval (.const .nilIface) = .nilIface:=rfl
 simp[execOp,hv,hc,hg,binOp,Op.equal,Op.maxDepth,h 9999]
theorem a_callc {f:FuncId}{z:Operand}{xs:List Operand}{avs:List AV}{ys:List Arg}{l:List (Key×Val)}{r:Res}{ats:Array TypeId}(hc:FnOk cx.P f ys r)
  (hz:ev σ z=some (.d (.v (.func (.func f) #[] #[])))) (hd:Nat.blt d cx.n=true) (hsub:SubsE σ xs avs ys l) :
  OA cx σ ⟨some d,.call { callee := .value z,args:=⟨xs⟩,argTypes:=ats },ty,pos,af,gd⟩ ⟨rdOf z (.d (.v (.func (.func f) #[] #[])))++l,[(.s d,.av r.av)]⟩:=by
 refine⟨?_,(ev_out hz).2.append hsub.out.2⟩
 rintro σ1 a w K Q ⟨g,nx,hs⟩ hr hK
 have hv:=rep_v (hs.ev (ev_out hz).1 hr.left).1
 have hcall:=hc.calls w (cx.own g σ1) (xs.map a.eval) ⟨fun b hb=>own_lt hs hb,hs.gl⟩ (hsub.out.1.ok hs hr.right)
 have hrun:=callfn_run (xs:=xs) (ats:=ats) (ty:=ty) (pos:=pos) (af:=af) (gd:=gd) (dd:=some d) (w:=w) hc hv
 simp only[List.append_nil]at hrun
 unfold Oper.wp
 rw[hrun]
 refine hcall.mono fun e w' he=>?_
 obtain⟨v,rfl,hb,hres⟩:=he
 obtain⟨h1,h2⟩:=Res.rep (nx:=nx) hres
 exact hK _ _ (Sim.put hs (lt_of_blt hd) hb h1 h2)
end Go.AX
namespace Go.Proofs.YtccblhpfjlgmbaaGreatDoor
open Go.AX Go.RF Go.RowKit
set_option maxRecDepth 100000
set_option maxHeartbeats 4000000
def atoiV (s:Str):Int:=match Lib.atoiAll s with
 |.ok v=>v
 |.range=>Lib.atoiSat s
 |_=>0
def atoiE (s:Str):D:=match Lib.atoiAll s with
 |.ok _ => .v .nilIface
 |_=>errD
theorem tup2 {w:World}{own:Nat→Prop}{u v:Value}{x y:D}(h1:Rd w own u x) (h2:Rd w own v y):ResOk w own (.tuple #[u,v]) (.tup [x,y]):=by
 refine⟨_,rfl,rfl,fun j c z hj hc=>?_⟩
 match j,hj,hc with
 |0,hj,hc=>simp at hj hc;subst hj hc;exact h1
 |1,hj,hc=>simp at hj hc;subst hj hc;exact h2
 |j+2,hj,hc=>simp at hj
theorem ok_atoiG (s:Str) (hs:s.length≤1073741824):FnOk Tryz.prog 122 [.d (dstr s)] (.tup [dint (atoiV s),atoiE s]):=by
 refine⟨⟨_,Tryz.func122,by kernel_rfl,by kernel_rfl⟩,fun w own vs hown ha=>?_⟩
 match vs,ha with
 | [x],⟨h1,_⟩ =>
  obtain rfl:x=str s:=rd_v h1
  have hsz:(⟨s.toArray⟩:ByteArray).size=s.length:=by show s.toArray.size=_;simp
  cases hc:Lib.atoiAll s with
  |ok v =>
   refine(Any.strconv_Atoi_ok Tryz.laysC172 ⟨s.toArray⟩ (by rw[hsz];omega) v (by simpa using hc) w).mono fun e w' he=>?_
   obtain⟨rfl,hw⟩:=he
   refine⟨_,rfl,?_,?_⟩
   ·
    rcases hw with rfl|⟨t,rfl⟩
    ·
     exact Below.refl _ _
    ·
     exact Lib.bytesWorld_below _ _ _
   ·
    unfold atoiV atoiE;rw[hc];exact tup2 (Rd.v _) (Rd.v _)
  |range =>
   obtain⟨cs,hv,tp,p,rfl⟩:=hown.2.er _ Tryz.laysC172.m16
   refine(Any.strconv_Atoi_range_var Tryz.laysC172 ⟨s.toArray⟩ (by rw[hsz];omega) (by simpa using hc) tp p w hv).mono fun e w' he=>?_
   obtain⟨N,rfl,_,_,hb⟩:=he
   refine⟨_,rfl,hb,?_⟩
   unfold atoiV atoiE;rw[hc];exact tup2 (Rd.v _) rd_err
  |_ =>
   obtain⟨cs,hv,tp,p,rfl⟩:=hown.2.es _ Tryz.laysC172.m15
   refine(Any.strconv_Atoi_syntax_var Tryz.laysC172 ⟨s.toArray⟩ (by rw[hsz];omega) (by simpa using hc) tp p w hv).mono fun e w' he=>?_
   obtain⟨N,rfl,_,_,hb⟩:=he
   refine⟨_,rfl,hb,?_⟩
   unfold atoiV atoiE;rw[hc];exact tup2 (Rd.v _) rd_err
theorem ok_itoaG (n:Int) (h0 : -9223372036854775808≤n) (h1:n≤9223372036854775807):FnOk Tryz.prog 110 [.d (dint n)] (.one (dstr (Lib.itoa n))):=by
 refine⟨⟨_,Tryz.func110,by kernel_rfl,by kernel_rfl⟩,fun w own vs hown ha=>?_⟩
 match vs,ha with
 | [x],⟨h2,_⟩ =>
  obtain rfl:x=i64 n:=rd_v h2
  have htab : Lib.TabIs Tryz.prog w "internal/strconv.uint64pow10" .u64 Lib.pow10Tab := by
   obtain⟨cs,hv,rfl⟩:=hown.2.pow _ Tryz.laysM171.m17
   exact hv
  refine(Any.strconv_Itoa Tryz.laysM171 n h0 h1 w htab).mono fun e w' he=>?_
  obtain⟨rfl,k,os,rfl⟩:=he
  refine⟨_,rfl,?_,Rd.v _⟩
  exact⟨rfl,rfl,rfl,(by show w.heap.size≤(w.heap++os).size;simp),fun k hk=>(by show(w.heap++os)[k]? = w.heap[k]?;exact Array.getElem?_append_left hk)⟩
theorem atoi_in {s:Str}{v:Int}(h:Lib.atoiAll s = .ok v) : -9223372036854775808≤v∧v≤9223372036854775807:=Lib.atoiAll_bounds h
theorem ok_num (s:Str) (hs:s.length≤1073741824):FnOk Tryz.prog 90 [.d (dstr s)] (.tup [dint (atoiV s),dbool (numV s).isSome]):=by
 refine fnOk_of tbl_ok mixed_ok Tryz.func90 rfl (by kernel_rfl) rfl rfl fun w0 own0=>?_
 have c1:=ok_atoiG s hs
 unfold atoiV atoiE at c1
 unfold atoiV numV
 cases hc:Lib.atoiAll s with
 |ok v =>
  rw[hc]at c1
  have hb:=atoi_in hc
  have c2:=ok_itoaG v hb.1 hb.2
  dsimp only at c1 ⊢
  generalize Lib.itoa v=t at c2 ⊢
  by_cases hv:t=s
  ·
   rw[if_pos hv]
   repeat(first|refine wa ?_|((with_reducible apply s5);(first|((with_reducible apply a_noerr);exact rfl;exact Tryz.underlying170;exact rfl)|exact by_oa|exact by_ca);exact by_g)|refine wb ?_)
   exact .two (.tmp rfl (.one (.d (.refl _)))) (.tmp rfl (.one (.d (dle_bool (by simp[hv])))))
  ·
   rw[if_neg hv]
   repeat(first|refine wa ?_|((with_reducible apply s5);(first|((with_reducible apply a_noerr);exact rfl;exact Tryz.underlying170;exact rfl)|exact by_oa|exact by_ca);exact by_g)|refine wb ?_)
   exact .two (.tmp rfl (.one (.d (.refl _)))) (.tmp rfl (.one (.d (dle_bool (by simp[hv])))))
 |range =>
  rw[hc]at c1
  dsimp only at c1 ⊢
  generalize Lib.atoiSat s=q at c1 ⊢
  repeat(first|refine wa ?_|((with_reducible apply s5);(first|((with_reducible apply a_err);exact rfl;exact Tryz.underlying170;exact rfl)|exact by_oa|exact by_ca);exact by_g)|refine wb ?_)
  exact .two (.tmp rfl (.one (.d (.refl _)))) (.tmp rfl (.one (.d (.refl _))))
 |_ =>
  rw[hc]at c1
  dsimp only at c1 ⊢
  repeat(first|refine wa ?_|((with_reducible apply s5);(first|((with_reducible apply a_err);exact rfl;exact Tryz.underlying170;exact rfl)|exact by_oa|exact by_ca);exact by_g)|refine wb ?_)
  exact .two (.tmp rfl (.one (.d (.refl _)))) (.tmp rfl (.one (.d (.refl _))))
end Go.Proofs.YtccblhpfjlgmbaaGreatDoor
namespace Go.Proofs
open Go.Shelf Go.RowKit
noncomputable def Tryz.lays146_ren : Go.Shelf.Ren := ⟨fun | 138 => 161 | 143 => 162 | 146 => 96 | 195 => 182 | 197 => 183 | 217 => 208 | 218 => 184 | 219 => 185 | 221 => 128 | 224 => 210 | 225 => 209 | 260 => 207 | 266 => 223 | 267 => 211 | 268 => 160 | 314 => 224 | n => n, fun | 0 => 0 | 3 => 3 | 4 => 4 | 5 => 5 | 9 => 9 | 21 => 21 | 31 => 74 | 46 => 145 | 51 => 202 | 105 => 232 | 119 => 269 | 138 => 271 | 139 => 272 | 146 => 273 | n => n, fun | 1 => (Tryz.prog.globals.findIdx? (·.name == "internal/bytealg.MaxLen")).getD 0 | 3 => (Tryz.prog.globals.findIdx? (·.name == "unicode/utf8.first")).getD 0 | 4 => (Tryz.prog.globals.findIdx? (·.name == "unicode/utf8.acceptRanges")).getD 0 | n => n⟩
theorem Tryz.lays146:Go.Proofs.Lays.n146 Tryz.prog Tryz.lays146_ren:={
 mixed:=by kernel_rfl
 f138:=Tryz.func161.trans (congrArg some (by kernel_rfl))
 f143:=Tryz.func162.trans (congrArg some (by kernel_rfl))
 f146:=Tryz.func96.trans (congrArg some (by kernel_rfl))
 f195:=Tryz.func182.trans (congrArg some (by kernel_rfl))
 f197:=Tryz.func183.trans (congrArg some (by kernel_rfl))
 f217:=Tryz.func208.trans (congrArg some (by kernel_rfl))
 f218:=Tryz.func184.trans (congrArg some (by kernel_rfl))
 f219:=Tryz.func185.trans (congrArg some (by kernel_rfl))
 f221:=Tryz.func128.trans (congrArg some (by kernel_rfl))
 f224:=Tryz.func210.trans (congrArg some (by kernel_rfl))
 f225:=Tryz.func209.trans (congrArg some (by kernel_rfl))
 f260:=Tryz.func207.trans (congrArg some (by kernel_rfl))
 f266:=Tryz.func223.trans (congrArg some (by kernel_rfl))
 f267:=Tryz.func211.trans (congrArg some (by kernel_rfl))
 f268:=Tryz.func160.trans (congrArg some (by kernel_rfl))
 f314:=Tryz.func224.trans (congrArg some (by kernel_rfl))
 t0:=Tryz.underlying0
 a0:=Tryz.isAgg0
 z0:=Tryz.sizeOf0
 v0:=Tryz.zeroValue0
 t3:=Tryz.underlying3
 a3:=Tryz.isAgg3
 z3:=Tryz.sizeOf3
 v3:=Tryz.zeroValue3
 t4:=Tryz.underlying4
 a4:=Tryz.isAgg4
 z4:=Tryz.sizeOf4
 v4:=Tryz.zeroValue4
 t5:=Tryz.underlying5
 a5:=Tryz.isAgg5
 z5:=Tryz.sizeOf5
 v5:=Tryz.zeroValue5
 t9:=Tryz.underlying9
 a9:=Tryz.isAgg9
 z9:=Tryz.sizeOf9
 v9:=Tryz.zeroValue9
 t21:=Tryz.underlying21
 a21:=Tryz.isAgg21
 z21:=Tryz.sizeOf21
 v21:=Tryz.zeroValue21
 t31:=Tryz.underlying74
 a31:=Tryz.isAgg74
 z31:=Tryz.sizeOf74
 v31:=Tryz.zeroValue74
 t46:=Tryz.underlying145
 a46:=Tryz.isAgg145
 z46:=Tryz.sizeOf145
 v46:=Tryz.zeroValue145
 t51:=Tryz.underlying202
 a51:=Tryz.isAgg202
 z51:=Tryz.sizeOf202
 v51:=Tryz.zeroValue202
 t105:=Tryz.underlying232
 a105:=Tryz.isAgg232
 z105:=Tryz.sizeOf232
 v105:=Tryz.zeroValue232
 t119:=Tryz.underlying269
 a119:=Tryz.isAgg269
 z119:=Tryz.sizeOf269
 t138:=Tryz.underlying271
 a138:=Tryz.isAgg271
 z138:=Tryz.sizeOf271
 v138:=Tryz.zeroValue271
 t139:=Tryz.underlying272
 a139:=Tryz.isAgg272
 z139:=Tryz.sizeOf272
 v139:=Tryz.zeroValue272
 t146:=Tryz.underlying273
 a146:=Tryz.isAgg273
 z146:=Tryz.sizeOf273
 v146:=Tryz.zeroValue273
 g1:=by kernel_rfl
 g3:=by kernel_rfl
 g4:=by kernel_rfl
 }
noncomputable def Tryz.lays103_ren:Go.Shelf.Ren:=⟨fun|103=>163|206=>212|210=>186|n=>n,fun|3=>3|4=>4|9=>9|24=>213|n=>n,fun|n=>n⟩
theorem Tryz.lays103:Go.Proofs.Lays.n103 Tryz.prog Tryz.lays103_ren:={
 mixed:=by kernel_rfl
 f103:=Tryz.func163.trans (congrArg some (by kernel_rfl))
 f206:=Tryz.func212.trans (congrArg some (by kernel_rfl))
 f210:=Tryz.func186.trans (congrArg some (by kernel_rfl))
 t3:=Tryz.underlying3
 a3:=Tryz.isAgg3
 z3:=Tryz.sizeOf3
 v3:=Tryz.zeroValue3
 t4:=Tryz.underlying4
 a4:=Tryz.isAgg4
 z4:=Tryz.sizeOf4
 v4:=Tryz.zeroValue4
 t9:=Tryz.underlying9
 a9:=Tryz.isAgg9
 z9:=Tryz.sizeOf9
 v9:=Tryz.zeroValue9
 t24:=Tryz.underlying213
 a24:=Tryz.isAgg213
 z24:=Tryz.sizeOf213
 v24:=Tryz.zeroValue213
 }
noncomputable def Tryz.lays156_ren:Go.Shelf.Ren:=⟨fun|156=>125|165=>157|166=>158|169=>159|240=>180|241=>181|276=>205|277=>206|n=>n,fun|0=>0|3=>3|4=>4|5=>5|9=>9|20=>20|31=>74|37=>64|70=>207|72=>209|75=>170|76=>171|80=>211|127=>231|164=>256|n=>n,fun|n=>n⟩
theorem Tryz.lays156:Go.Proofs.Lays.n156 Tryz.prog Tryz.lays156_ren:={
 mixed:=by kernel_rfl
 f156:=Tryz.func125.trans (congrArg some (by kernel_rfl))
 f165:=Tryz.func157.trans (congrArg some (by kernel_rfl))
 f166:=Tryz.func158.trans (congrArg some (by kernel_rfl))
 f169:=Tryz.func159.trans (congrArg some (by kernel_rfl))
 f240:=Tryz.func180.trans (congrArg some (by kernel_rfl))
 f241:=Tryz.func181.trans (congrArg some (by kernel_rfl))
 f276:=Tryz.func205.trans (congrArg some (by kernel_rfl))
 f277:=Tryz.func206.trans (congrArg some (by kernel_rfl))
 t0:=Tryz.underlying0
 a0:=Tryz.isAgg0
 z0:=Tryz.sizeOf0
 v0:=Tryz.zeroValue0
 t3:=Tryz.underlying3
 a3:=Tryz.isAgg3
 z3:=Tryz.sizeOf3
 v3:=Tryz.zeroValue3
 t4:=Tryz.underlying4
 a4:=Tryz.isAgg4
 z4:=Tryz.sizeOf4
 v4:=Tryz.zeroValue4
 t9:=Tryz.underlying9
 a9:=Tryz.isAgg9
 z9:=Tryz.sizeOf9
 v9:=Tryz.zeroValue9
 t20:=Tryz.underlying20
 a20:=Tryz.isAgg20
 z20:=Tryz.sizeOf20
 v20:=Tryz.zeroValue20
 t31:=Tryz.underlying74
 a31:=Tryz.isAgg74
 z31:=Tryz.sizeOf74
 v31:=Tryz.zeroValue74
 t37:=Tryz.underlying64
 a37:=Tryz.isAgg64
 z37:=Tryz.sizeOf64
 v37:=Tryz.zeroValue64
 t70:=Tryz.underlying207
 a70:=Tryz.isAgg207
 z70:=Tryz.sizeOf207
 v70:=Tryz.zeroValue207
 t72:=Tryz.underlying209
 a72:=Tryz.isAgg209
 z72:=Tryz.sizeOf209
 v72:=Tryz.zeroValue209
 t75:=Tryz.underlying170
 a75:=Tryz.isAgg170
 z75:=Tryz.sizeOf170
 v75:=Tryz.zeroValue170
 t76:=Tryz.underlying171
 a76:=Tryz.isAgg171
 z76:=Tryz.sizeOf171
 v76:=Tryz.zeroValue171
 t127:=Tryz.underlying231
 a127:=Tryz.isAgg231
 z127:=Tryz.sizeOf231
 v127:=Tryz.zeroValue231
 t164:=Tryz.underlying256
 a164:=Tryz.isAgg256
 z164:=Tryz.sizeOf256
 v164:=Tryz.zeroValue256
 }
theorem Tryz.bld156:Go.Proofs.Builder.Extra Tryz.prog Tryz.lays156_ren:={
 sizeBuilder:=by kernel_rfl
 liesBuilder:=by kernel_rfl
 t5:=Tryz.underlying5
 a5:=Tryz.isAgg5
 z5:=Tryz.sizeOf5
 v5:=Tryz.zeroValue5
 infoByte:=by kernel_rfl
 cellsByte:=by kernel_rfl
 sizeByte:=by kernel_rfl
 neB5:=by decide
 }
end Go.Proofs
namespace Go.AX
open Go.RowKit
variable {cx:Cx}{g:Nat→Value}{σ σ':St}{a:Act}{w w':World}{nx:Nat}{kk:IntKind}
variable {ty:TypeId}{pos:String}{af:Array Edge}{gd:Option (Nat×Bool)}{d:Nat}
def MapIsK (kk:IntKind) (es:Array MapEntry) (M:List (Int×Value)):Prop:=es.toList.map (fun e=>(e.key,e.val))=M.map fun p=>(Value.int kk p.1,p.2)
structure MapTyK (cx:Cx) (kk:IntKind) (t te:TypeId) (zv:Value):Prop where
 u:∃ tk,cx.P.underlying t=some (.map tk te)∧cx.P.underlying tk=some (.int kk)
 z:∀ w,(zeroValue te).run cx.P w = .ok zv w
theorem findNow_eqK (k:Int):∀ {es:List MapEntry}{M:List (Int×Value)}(i:Nat),es.map (fun e=>(e.key,e.val))=M.map (fun p=>(Value.int kk p.1,p.2)) →
  Instr.findNow (.int kk) (.int kk k) es i=some ((mfindI k M i).map fun p=>(p.1,p.2))
 | [],[],i,_=>rfl
 | [],p::M,i,h=>by simp at h
 |e::es,[],i,h=>by simp at h
 |e::es,(s,v)::M,i,h=>by
  simp only[List.map_cons,List.cons.injEq,Prod.mk.injEq]at h
  obtain⟨⟨h1,h2⟩,h3⟩:=h
  obtain⟨r,hr,hiff⟩:=MapKept.sameNow_of_keys (d := .int kk) (a := .int kk k) (b := .int kk s) (by simp[MapKept.IsKey]) (by simp[MapKept.IsKey])
  rw[← h1]at hr
  have hs':r=true↔s=k:=by
   rw[hiff]
   simp only[Value.int.injEq,true_and]
   exact eq_comm
  simp only[Instr.findNow,hr,mfindI]
  by_cases hs:s=k
  ·
   rw[if_pos hs]
   have hrt:=hs'.2 hs
   subst hrt
   simp[h2]
  ·
   rw[if_neg hs]
   have hrf:r=false:=by
    cases r with
    |false=>rfl
    |true=>exact absurd (hs'.1 rfl) hs
   subst hrf
   exact findNow_eqK k (i+1) h3
theorem run_mlookK {t te:TypeId}{zv:Value}(h:MapTyK cx kk t te zv) {b:Nat}{es:Array MapEntry}{clock:Nat}{M:List (Int×Value)}(hb:w.heap[b]? = some (.map es clock)) (hm:MapIsK kk es M) (k:Int) :
  (Instr.lookup t (.map (some b)) (.int kk k) false).run cx.P w = .ok (mlookI zv M k) w:=by
 obtain⟨tk,h1,h2⟩:=h.u
 have hf:=findNow_eqK k 0 hm
 have hg:=mfindI_get k M 0
 have hck:(Instr.checkKey es.isEmpty 10000 tk (.int kk k)).run cx.P w = .ok () w:=MapKept.run_checkKey h2 (by simp[MapKept.IsKey]) _ 9999
 have hz:=h.z w
 cases hfd:mfindI k M 0 with
 |none =>
  rw[hfd]at hf hg
  simp only[Option.map_none]at hf hg
  simp[Instr.lookup,run_underlying h1,MapKept.run_getObj_map hb,hck,Instr.findKey,run_underlying h2,hf,hz,mlookI,← hg,Result.andThen]
 |some p =>
  rw[hfd]at hf hg
  simp only[Option.map_some]at hf hg
  simp[Instr.lookup,run_underlying h1,MapKept.run_getObj_map hb,hck,Instr.findKey,run_underlying h2,hf,mlookI,← hg,Result.andThen]
theorem run_msetK {t te:TypeId}{zv:Value}(h:MapTyK cx kk t te zv) {b:Nat}{es:Array MapEntry}{clock:Nat}{M:List (Int×Value)}(hb:w.heap[b]? = some (.map es clock)) (hm:MapIsK kk es M) (k:Int) (us:Value) :
  ∃ es' clock',(Instr.mapUpdate t (.map (some b)) (.int kk k) us).run cx.P w = .ok () { w with heap:=w.heap.setIfInBounds b (.map es' clock') }∧MapIsK kk es' (msetI M k us):=by
 obtain⟨tk,h1,h2⟩:=h.u
 have hf:=findNow_eqK k 0 hm
 have hck:(Instr.checkKey false 10000 tk (.int kk k)).run cx.P w = .ok () w:=MapKept.run_checkKey h2 (by simp[MapKept.IsKey]) _ 9999
 have hset:∀ o,(setObj b o).run cx.P w = .ok () { w with heap:=w.heap.setIfInBounds b o }:=fun o=>MapKept.run_setObj_map o hb
 cases hfd:mfindI k M 0 with
 |none =>
  rw[hfd]at hf
  simp only[Option.map_none]at hf
  refine⟨es.push ⟨.int kk k,us,clock⟩,clock+1,?_,?_⟩
  ·
   simp[Instr.mapUpdate,run_underlying h1,MapKept.run_getObj_map hb,hck,Instr.findKey,run_underlying h2,hf,hset,Result.andThen]
  ·
   rw[mfindI_none hfd]
   unfold MapIsK at hm ⊢
   simp[hm]
 |some p =>
  obtain⟨i,v⟩:=p
  rw[hfd]at hf
  simp only[Option.map_some]at hf
  obtain⟨n,hn,h3,h4⟩:=mfindI_some (us:=us) hfd
  obtain rfl:i=n:=by omega
  have hes:(es.toList.map fun e=>(e.key,e.val))[i]? = some (Value.int kk k,v):=by
   unfold MapIsK at hm
   rw[hm,List.getElem?_map,h3];rfl
  obtain⟨e,he,hek⟩:∃ e,es[i]? = some e∧e.key=Value.int kk k:=by
   rw[List.getElem?_map]at hes
   cases hx:es.toList[i]? with
   |none=>rw[hx]at hes;cases hes
   |some e =>
    rw[hx]at hes
    simp at hes
    exact⟨e,by simpa using hx,hes.1⟩
  refine⟨es.modify i fun e=>{ e with key := .int kk k,val:=us },clock,?_,?_⟩
  ·
   have hst:(Instr.keyThatStays (((es[i]?).map (·.key)).getD (.int kk k)) (.int kk k)).run cx.P w = .ok (.int kk k) w:=by
    rw[he]
    simp only[Option.map_some,Option.getD_some,hek]
    exact MapKept.run_keyThatStays (d := .int kk) (by simp[MapKept.IsKey])
   simp[Instr.mapUpdate,run_underlying h1,MapKept.run_getObj_map hb,hck,Instr.findKey,run_underlying h2,hf,hst,hset,Result.andThen]
  ·
   rw[h4]
   unfold MapIsK at hm ⊢
   rw[List.map_set,← hm]
   apply List.ext_getElem?
   intro j
   rw[List.getElem?_map,Array.getElem?_toList,Array.getElem?_modify]
   by_cases hj:i=j
   ·
    subst hj
    have hlt:=(Array.getElem?_eq_some_iff.1 he).1
    rw[if_pos rfl,List.getElem?_set_self (by simpa using hlt),he]
    rfl
   ·
    rw[if_neg hj,List.getElem?_set_ne hj,List.getElem?_map,Array.getElem?_toList]
theorem bytes_append (a b:List UInt8):(⟨a.toArray⟩:ByteArray)++⟨b.toArray⟩=⟨(a++b).toArray⟩:=by
 apply ByteArray.ext
 simp
theorem bin_sadd {P:Program}{t:TypeId}{a b:List UInt8}(h:a.length+b.length≤4611686018427387904):BinR P .add t (str a) (str b) (str (a++b)):=by
 intro w x y
 have h1:(⟨a.toArray⟩:ByteArray).size=a.length:=by show a.toArray.size=_;simp
 have h2:(⟨b.toArray⟩:ByteArray).size=b.length:=by show b.toArray.size=_;simp
 have h3:¬ (((⟨a.toArray⟩:ByteArray).size+(⟨b.toArray⟩:ByteArray).size:Nat):Int) > IntKind.i64.max:=by
  rw[h1,h2]
  show ¬ ((a.length+b.length:Nat):Int) > 9223372036854775807
  omega
 simp only[str,Sem.run_bind,eqGuard,Sem.run_pure,Result.andThen_ok,binOp,Op.stringOp]
 rw[if_neg h3,bytes_append]
 rfl
end Go.AX
namespace Go.AX
open Go.RowKit
variable {cx:Cx}{g:Nat→Value}{σ σ':St}{a:Act}{w w':World}{nx:Nat}{kk:IntKind}
variable {ty:TypeId}{pos:String}{af:Array Edge}{gd:Option (Nat×Bool)}{d:Nat}
theorem stut_tok (o:Nat):Stut cx ⟨[(.nx,.num nx)],[(.o nx,.ob (.tok o false)),(.nx,.num (nx+1))]⟩:=by
 rintro σ a w ⟨g,n',hs⟩ hr
 have hnx:n'=nx:=by
  have h2:=hr.1
  rw[hs.hnx]at h2
  simpa using h2
 subst hnx
 exact⟨_,_,SimG.obj (o' := .tok o false) (hv:=nilS) hs ⟨.inl ⟨rfl,rfl⟩,Below.refl _ _,fun b _ _=>rfl,fun b hb=>by simp[blk]at hb⟩ (fun _=>upd_same _ _ _) trivial⟩
section
variable {i o:Nat}{b:Bool}
theorem tok_get (k:Key) (hk:k ≠ .o i):get ((.o i,.ob (.tok o true))::σ) k=get σ k:=get_cons_ne (fun e=>hk e.symm)
theorem tok_own (hi:get σ (.o i) = .ob (.tok o b)):cx.own g ((.o i,.ob (.tok o true))::σ)=cx.own g σ:=by
 funext c
 apply propext
 refine or_congr Iff.rfl ⟨?_,?_⟩
 ·
  rintro ⟨id,ob,h1,h2⟩
  by_cases h:id=i
  ·
   subst h;exact⟨id,_,hi,h2⟩
  ·
   exact⟨id,ob,by rw[tok_get _ (by simpa using h)]at h1;exact h1,h2⟩
 ·
  rintro ⟨id,ob,h1,h2⟩
  by_cases h:id=i
  ·
   subst h;exact⟨id,_,get_cons_same,h2⟩
  ·
   exact⟨id,ob,by rw[tok_get _ (by simpa using h)];exact h1,h2⟩
theorem tok_ob {id:Nat}{ob:Ob}(h:get ((.o i,.ob (.tok o true))::σ) (.o id) = .ob ob) (hn:∀ q c,ob ≠ .tok q c):get σ (.o id) = .ob ob:=by
 by_cases he:id=i
 ·
  subst he
  rw[get_cons_same]at h
  exact absurd (by simpa using h.symm) (hn o true)
 ·
  rw[tok_get _ (by simpa using he)]at h;exact h
theorem tok_nr {id:Nat}(h:NR σ id):NR ((.o i,.ob (.tok o true))::σ) id:=fun hg=>h (tok_ob hg (by simp))
theorem tok_rep1 (hi:get σ (.o i) = .ob (.tok o b)) {x:Value}{av:AV}(h:Rep1 cx g σ w x av):Rep1 cx g ((.o i,.ob (.tok o true))::σ) w x av:=by
 cases av with
 |d y=>show Rd w _ x y;rw[tok_own hi];exact h
 |pd ds =>
  obtain⟨ad,h1,h2,h3,h4⟩:=h
  refine⟨ad,h1,?_,h3,?_⟩
  ·
   rw[tok_own hi];exact h2
  ·
   rw[tok_own hi];exact h4
 |ptr id off=>exact⟨tok_nr h.1,fun cells hg=>h.2 cells (tok_ob hg (by simp))⟩
 |own id n=>exact⟨tok_nr h.1,fun e k rows hg=>h.2 e k rows (tok_ob hg (by simp))⟩
 |pe id n p q=>exact⟨tok_nr h.1,fun e k rows hg=>h.2 e k rows (tok_ob hg (by simp))⟩
 |h id=>exact⟨tok_nr h.1,fun ob hg hh=>h.2 ob (tok_ob hg (by rintro q c rfl;cases hh)) hh⟩
 |any=>trivial
 |agg c=>exact h
 |tup c=>exact h
theorem tok_rep2 (hi:get σ (.o i) = .ob (.tok o b)) {x:Value}{av:AV}(h:Rep2 cx g σ w x av):Rep2 cx g ((.o i,.ob (.tok o true))::σ) w x av:=by
 cases av with
 |agg cells =>
  obtain⟨cs,h1,h2,h3,h4⟩:=h
  exact⟨cs,h1,h2,h3,fun j c av hj hc=>tok_rep1 hi (h4 j c av hj hc)⟩
 |d y=>exact tok_rep1 (cx:=cx) (g:=g) (w:=w) (av := .d y) hi h
 |pd y=>exact tok_rep1 (cx:=cx) (g:=g) (w:=w) (av := .pd y) hi h
 |ptr n m=>exact tok_rep1 (cx:=cx) (g:=g) (w:=w) (av := .ptr n m) hi h
 |own n m=>exact tok_rep1 (cx:=cx) (g:=g) (w:=w) (av := .own n m) hi h
 |pe n m p q=>exact tok_rep1 (cx:=cx) (g:=g) (w:=w) (av := .pe n m p q) hi h
 |h n=>exact tok_rep1 (cx:=cx) (g:=g) (w:=w) (av := .h n) hi h
 |any=>exact trivial
 |tup c=>exact h
theorem tok_rep (hi:get σ (.o i) = .ob (.tok o b)) {x:Value}{av:AV}(h:Rep cx g σ w x av):Rep cx g ((.o i,.ob (.tok o true))::σ) w x av:=by
 cases av with
 |tup avs =>
  obtain⟨vs,h1,h2,h3⟩:=h
  exact⟨vs,h1,h2,fun j c av hj hc=>tok_rep2 hi (h3 j c av hj hc)⟩
 |agg cells=>exact tok_rep2 (cx:=cx) (g:=g) (w:=w) (av := .agg cells) hi h
 |d y=>exact tok_rep2 (cx:=cx) (g:=g) (w:=w) (av := .d y) hi h
 |pd y=>exact tok_rep2 (cx:=cx) (g:=g) (w:=w) (av := .pd y) hi h
 |ptr n m=>exact tok_rep2 (cx:=cx) (g:=g) (w:=w) (av := .ptr n m) hi h
 |own n m=>exact tok_rep2 (cx:=cx) (g:=g) (w:=w) (av := .own n m) hi h
 |pe n m p q=>exact tok_rep2 (cx:=cx) (g:=g) (w:=w) (av := .pe n m p q) hi h
 |h n=>exact tok_rep2 (cx:=cx) (g:=g) (w:=w) (av := .h n) hi h
 |any=>exact trivial
theorem tok_set (hs:SimG cx σ a w g nx) (hi:get σ (.o i) = .ob (.tok o b))
  (hp:∀ kk V ids (j:Nat) p,get σ (.o o) = .ob (.lit kk V ids)→ids[j]? = some i→V[j]? = some p→∃ bb es clock,g o = .map (some bb)∧w.heap[bb]? = some (.map es clock)∧∃ e∈es.toList,e.key = .int kk p.1) :
  SimG cx ((.o i,.ob (.tok o true))::σ) a w g nx:=by
 refine⟨by rw[tok_get _ (by simp)];exact hs.hnx,hs.size,hs.defers,hs.below,hs.own0,fun s av h=>?_,fun id ob h=>?_,fun id id' o1 o2 c h1 h2 h3 h4=>?_,hs.gh.1,fun p hp=>⟨tok_rep hi (hs.gh.2 p hp).1,(hs.gh.2 p hp).2⟩⟩
 ·
  rw[tok_get _ (by simp)]at h
  obtain⟨h1,h2⟩:=hs.slots s av h
  exact⟨tok_rep hi h1,h2⟩
 ·
  by_cases he:id=i
  ·
   subst he
   rw[get_cons_same]at h
   obtain rfl:Ob.tok o true=ob:=by simpa using h
   obtain⟨h1,h2,_⟩:=hs.objs id _ hi
   exact⟨h1,h2,trivial⟩
  ·
   rw[tok_get _ (by simpa using he)]at h
   obtain⟨h1,h2,h3⟩:=hs.objs id ob h
   refine⟨h1,?_,h3⟩
   cases ob with
   |box cells =>
    obtain⟨b0,cs,t,q0,q1,q2,q3,q4,q5⟩:=h2
    exact⟨b0,cs,t,q0,q1,q2,q3,q4,fun j c av hj hc=>tok_rep1 hi (q5 j c av hj hc)⟩
   |arr e k rows =>
    obtain⟨xs,q1,q2,q3,q4⟩:=h2
    exact⟨xs,q1,q2,q3,fun i' j r d x u1 u2 u3=>by rw[tok_own hi];exact q4 i' j r d x u1 u2 u3⟩
   |pin e k rows x0 =>
    obtain⟨q0,xs,q1,q2,q3,q4⟩:=h2
    exact⟨q0,xs,q1,q2,q3,fun i' j r d x u1 u2 u3=>by rw[tok_own hi];exact q4 i' j r d x u1 u2 u3⟩
   |mp M x0=>exact h2
   |mi M x0=>exact h2
   |gen p=>exact h2
   |tok q c=>exact h2
   |res=>exact h2
   |lit kk V ids =>
    obtain⟨b0,es,clock,q0,q1,q2,q3,q4⟩:=h2
    refine⟨b0,es,clock,q0,q1,q2,q3,fun j i' p u1 u2 u3=>?_⟩
    by_cases h':i'=i
    ·
     subst h'
     rw[get_cons_same]at u3
     obtain rfl:o=id:=by simpa using u3
     obtain⟨bb,es',clock',r1,r2,r3⟩:=hp kk V ids j p h u1 u2
     rw[q0]at r1
     obtain rfl:b0=bb:=by simpa using r1
     rw[q2]at r2
     simp only[Option.some.injEq,Obj.map.injEq]at r2
     rw[r2.1]
     exact r3
    ·
     rw[tok_get _ (by simpa using h')]at u3
     exact q4 j i' p u1 u2 u3
 ·
  have key:∀ (id:Nat) (o1:Ob),get ((.o i,.ob (.tok o true))::σ) (.o id) = .ob o1→∃ o',get σ (.o id) = .ob o':=fun id o1 h=>by
   by_cases he:id=i
   ·
    subst he;exact⟨_,hi⟩
   ·
    rw[tok_get _ (by simpa using he)]at h;exact⟨_,h⟩
  obtain⟨p1,q1⟩:=key _ _ h1
  obtain⟨p2,q2⟩:=key _ _ h2
  exact hs.sep id id' p1 p2 c q1 q2 h3 h4
end
theorem msetI_mem {M:List (Int×Value)}{k:Int}{us:Value}{q:Int×Value}(h:q∈msetI M k us):q∈M∨q=(k,us):=by
 induction M with
 |nil=>simp[msetI]at h;exact .inr h
 |cons p M ih =>
  obtain⟨s,v⟩:=p
  simp only[msetI]at h
  split at h
  ·
   next hs =>
   rcases List.mem_cons.1 h with rfl|h
   ·
    exact .inr (by rw[hs])
   ·
    exact .inl (List.mem_cons_of_mem _ h)
  ·
   rcases List.mem_cons.1 h with rfl|h
   ·
    exact .inl (List.mem_cons_self ..)
   ·
    rcases ih h with h|h
    ·
     exact .inl (List.mem_cons_of_mem _ h)
    ·
     exact .inr h
theorem msetI_keys {M:List (Int×Value)}{k:Int}{us:Value}:(∀ q∈M,∃ v,(q.1,v)∈msetI M k us)∧∃ v,(k,v)∈msetI M k us:=by
 induction M with
 |nil=>exact⟨by simp,us,by simp[msetI]⟩
 |cons p M ih =>
  obtain⟨s,v⟩:=p
  obtain⟨h1,h2⟩:=ih
  simp only[msetI]
  split
  ·
   next hs =>
   refine⟨fun q hq=>?_,us,by rw[hs];exact List.mem_cons_self ..⟩
   rcases List.mem_cons.1 hq with rfl|hq
   ·
    exact⟨us,List.mem_cons_self ..⟩
   ·
    exact⟨q.2,List.mem_cons_of_mem _ hq⟩
  ·
   refine⟨fun q hq=>?_,?_⟩
   ·
    rcases List.mem_cons.1 hq with rfl|hq
    ·
     exact⟨v,List.mem_cons_self ..⟩
    ·
     obtain⟨u,hu⟩:=h1 q hq
     exact⟨u,List.mem_cons_of_mem _ hu⟩
   ·
    obtain⟨u,hu⟩:=h2
    exact⟨u,List.mem_cons_of_mem _ hu⟩
theorem entries_list {es:Array MapEntry}{V:List (Int×Value)}(h:∀ e∈es.toList,∃ p∈V,e.key = .int kk p.1∧e.val=p.2):∃ M:List (Int×Value),MapIsK kk es M∧∀ q∈M,q∈V:=by
 unfold MapIsK
 generalize es.toList=l at h
 induction l with
 |nil=>exact⟨[],rfl,by simp⟩
 |cons e l ih =>
  obtain⟨M,h1,h2⟩:=ih fun e he=>h e (List.mem_cons_of_mem _ he)
  obtain⟨p,hp,h3,h4⟩:=h e (List.mem_cons_self ..)
  refine⟨p::M,by simp[h1,h3,h4],fun q hq=>?_⟩
  rcases List.mem_cons.1 hq with rfl|hq
  ·
   exact hp
  ·
   exact h2 q hq
theorem list_entry {es:Array MapEntry}{M:List (Int×Value)}(h:MapIsK kk es M):(∀ e∈es.toList,∃ q∈M,e.key = .int kk q.1∧e.val=q.2)∧∀ q∈M,∃ e∈es.toList,e.key = .int kk q.1:=by
 unfold MapIsK at h
 refine⟨fun e he=>?_,fun q hq=>?_⟩
 ·
  have:(e.key,e.val)∈M.map fun p=>(Value.int kk p.1,p.2):=by rw[← h];exact List.mem_map.2 ⟨e,he,rfl⟩
  obtain⟨q,hq,h1⟩:=List.mem_map.1 this
  simp only[Prod.mk.injEq]at h1
  exact⟨q,hq,h1.1.symm,h1.2.symm⟩
 ·
  have:(Value.int kk q.1,q.2)∈es.toList.map fun e=>(e.key,e.val):=by rw[h];exact List.mem_map.2 ⟨q,hq,rfl⟩
  obtain⟨e,he,h1⟩:=List.mem_map.1 this
  simp only[Prod.mk.injEq]at h1
  exact⟨e,he,h1.1⟩
theorem lit_at (hs:SimG cx σ a w g nx) {id:Nat}{V:List (Int×Value)}{ids:List Nat}{x:Value}(ho:get σ (.o id) = .ob (.lit kk V ids)) (hr:Rep cx g σ w x (.h id)) :
  ∃ b es clock,x = .map (some b)∧g id = .map (some b)∧cx.w0.heap.size≤b∧b < w.heap.size∧w.heap[b]? = some (.map es clock)∧(∀ e∈es.toList,∃ p∈V,e.key = .int kk p.1∧e.val=p.2) ∧
   ∀ (j i:Nat) (p:Int×Value),ids[j]? = some i→V[j]? = some p→get σ (.o i) = .ob (.tok id true)→∃ e∈es.toList,e.key = .int kk p.1:=by
 obtain⟨_,⟨b,es,clock,h1,h2,h3,h4,h5⟩,_⟩:=hs.objs id _ ho
 have hx:x=g id:=hr.2 _ ho rfl
 refine⟨b,es,clock,by rw[hx];exact h1,h1,h2,?_,h3,h4,h5⟩
 rcases Nat.lt_or_ge b w.heap.size with h|h
 ·
  exact h
 ·
  rw[Array.getElem?_eq_none h]at h3;cases h3
def toksRd (o:Nat) (ids:List Nat):List (Key×Val):=ids.map fun i=>(.o i,.ob (.tok o false))
theorem toks_app {o:Nat}:∀ {ids:List Nat},(∀ i∈ids,get σ (.o i) = .ob (.tok o false))→App σ (toksRd o ids)
 | [],_=>trivial
 |i::ids,h=>⟨h i (List.mem_cons_self ..),toks_app fun j hj=>h j (List.mem_cons_of_mem _ hj)⟩
theorem toks_at {o:Nat}:∀ {ids:List Nat},App σ (toksRd o ids)→∀ i∈ids,get σ (.o i) = .ob (.tok o false)
 | [],_,i,hi=>by cases hi
 |j::ids,h,i,hi=>by
  rcases List.mem_cons.1 hi with rfl|hi
  ·
   exact h.1
  ·
   exact toks_at h.2 i hi
theorem a_mklit {t:TypeId}{n0:Nat}(kk:IntKind) (V:List (Int×Value)) (ids:List Nat) (hn:get σ .nx = .num n0) (hd:Nat.blt d cx.n=true) (ht:∀ i∈ids,get σ (.o i) = .ob (.tok n0 false)) :
  OA cx σ ⟨some d,.makeMap t none,ty,pos,af,gd⟩ ⟨(.nx,.num n0)::toksRd n0 ids,[(.s d,.av (.h n0)),(.o n0,.ob (.lit kk V ids)),(.nx,.num (n0+1))]⟩:=by
 refine⟨?_,hn,toks_app ht⟩
 rintro σ a w K Q ⟨g,nx,hs⟩ hr hK
 obtain⟨hn,hl⟩:=hr
 have htk:=toks_at hl
 have hnx:nx=n0:=by
  have h2:=hs.hnx
  rw[hn]at h2
  simpa using h2.symm
 subst hnx
 have hrun:(execOp a.eval ⟨some d,.makeMap t none,ty,pos,af,gd⟩).run cx.P w = .ok (.value (.map (some w.heap.size))) (w.alloc (.map #[] 0)):=by
  simp[execOp,Instr.makeMap,newObj]
  rfl
 have hb:Below w.heap.size w (w.alloc (.map #[] 0)):=(Below.refl _ _).alloc (Nat.le_refl _) _
 have hst:ObjStep cx σ g nx (nx+1) w (w.alloc (.map #[] 0)) nx (.lit kk V ids) (.map (some w.heap.size)) :=
  ⟨.inl ⟨rfl,rfl⟩,hb.mono hs.below.size,fun c hc _=>hb.block c hc,fun c hc => .inr (by cases hc;exact Nat.le_refl _)⟩
 have hG:=SimG.obj hs hst (fun _=>⟨w.heap.size,#[],0,upd_same _ _ _,hs.below.size,heap_alloc_new w _,by simp,fun j i p hj hp hi=>by
   exfalso
   have him:=List.mem_of_getElem? hj
   have h1:=htk i him
   have hlt:=(hs.objs i _ h1).1
   rw[objSt_o (by omega),h1]at hi
   simp at hi⟩) (fun i hi=>by have:=(hs.objs i _ (htk i hi)).1;omega)
 refine wp_val rfl hrun (hK _ _ ?_)
 refine Sim.eqv (Sim.put hG (lt_of_blt hd) (Below.refl _ _) (av := .h nx) ⟨.of get_cons_same,fun _ _ _=>(upd_same _ _ _).symm⟩ (Nat.lt_succ_self nx)) fun q=>?_
 cases q with
 |s i =>
  by_cases hi:i=d
  ·
   subst hi;rw[get_cons_same];exact get_cons_same.symm
  ·
   rw[get_cons_ne (by simpa using fun e=>hi e.symm),objSt_s]
   exact((get_cons_ne (by simpa using fun e=>hi e.symm)).trans ((get_cons_ne (by simp)).trans (get_cons_ne (by simp)))).symm
 |o i =>
  rw[get_cons_ne (by simp)]
  by_cases hi:i=nx
  ·
   subst hi;rw[get_cons_same];exact((get_cons_ne (by simp)).trans get_cons_same).symm
  ·
   rw[objSt_o hi]
   exact((get_cons_ne (by simp)).trans ((get_cons_ne (by simpa using fun e=>hi e.symm)).trans (get_cons_ne (by simp)))).symm
 |nx =>
  rw[get_cons_ne (by simp),objSt_nx]
  exact((get_cons_ne (by simp)).trans ((get_cons_ne (by simp)).trans get_cons_same)).symm
theorem a_inslit {t te:TypeId}{zv:Value}{x y z:Operand}{av:AV}{k:Int}{us:Value}{V:List (Int×Value)}{ids:List Nat}(id j i:Nat) (h:MapTyK cx kk t te zv)
  (hx:ev σ x=some (.h id)) (hy:ev σ y=some (.d (.v (.int kk k)))) (hz:ev σ z=some av) (hu:ValV av us) (ho:get σ (.o id) = .ob (.lit kk V ids)) (hi:get σ (.o i) = .ob (.tok id false))
  (hj:ids[j]? = some i) (hV:V[j]? = some (k,us)) (hnd:ids.Nodup) :
  OA cx σ ⟨none,.insert t x y z,ty,pos,af,gd⟩ ⟨rdOf x (.h id)++(rdOf y (.d (.v (.int kk k)))++(rdOf z av++[(.o id,.ob (.lit kk V ids)),(.o i,.ob (.tok id false))])),[(.o i,.ob (.tok id true))]⟩:=by
 refine⟨?_,(ev_out hx).2.append ((ev_out hy).2.append ((ev_out hz).2.append ⟨ho,hi,trivial⟩))⟩
 rintro σ1 a w K Q ⟨g,nx,hs⟩ hr hK
 have hk:=rep_v (hs.ev (ev_out hy).1 hr.right.left).1
 have hzv:=rep_valv hu (hs.ev (ev_out hz).1 hr.right.right.left).1
 have ho1:get σ1 (.o id) = .ob (.lit kk V ids):=hr.right.right.right.1
 have hi1:get σ1 (.o i) = .ob (.tok id false):=hr.right.right.right.2.1
 obtain⟨b,es,clock,h1,h2,h3,h4,h5,h6,h7⟩:=lit_at hs ho1 (hs.ev (ev_out hx).1 hr.left).1
 obtain⟨M,hM1,hM2⟩:=entries_list h6
 obtain⟨es',clock',hrun,hmi'⟩:=run_msetK (w:=w) h h5 hM1 k us
 obtain⟨q1,q2⟩:=list_entry hmi'
 obtain⟨r1,r2⟩:=msetI_keys (M:=M) (k:=k) (us:=us)
 have hup:∀ e∈es'.toList,∃ p∈V,e.key = .int kk p.1∧e.val=p.2:=fun e he=>by
  obtain⟨q,hq,h8,h9⟩:=q1 e he
  rcases msetI_mem hq with h|rfl
  ·
   exact⟨q,hM2 q h,h8,h9⟩
  ·
   exact⟨_,List.mem_of_getElem? hV,h8,h9⟩
 have hold:∀ n,(∃ e∈es.toList,e.key = .int kk n)→∃ e∈es'.toList,e.key = .int kk n:=by
  rintro n ⟨e,he,hek⟩
  obtain⟨q,hq,h8,_⟩:=(list_entry hM1).1 e he
  obtain⟨v,hv⟩:=r1 q hq
  obtain⟨e',he',h9⟩:=q2 _ hv
  exact⟨e',he',by rw[h9,← h8,hek]⟩
 have hnew:∃ e∈es'.toList,e.key = .int kk k:=by
  obtain⟨v,hv⟩:=r2
  obtain⟨e',he',h9⟩:=q2 _ hv
  exact⟨e',he',h9⟩
 have hoth:∀ c,c≠b→({ w with heap:=w.heap.setIfInBounds b (.map es' clock') }:World).heap[c]? = w.heap[c]? := fun c hc=>by
  show(w.heap.setIfInBounds b _)[c]? = _
  rw[Array.getElem?_setIfInBounds,if_neg (fun e=>hc e.symm)]
 have hsame:({ w with heap:=w.heap.setIfInBounds b (.map es' clock') }:World).heap[b]? = some (.map es' clock'):=by
  show(w.heap.setIfInBounds b _)[b]? = _
  rw[Array.getElem?_setIfInBounds,if_pos rfl,if_pos h4]
 have hblk:blk (g id)=some b:=by rw[h2];rfl
 have hst:ObjStep cx σ1 g nx nx w { w with heap:=w.heap.setIfInBounds b (.map es' clock') } id (.lit kk V ids) (g id) :=
  ⟨.inr ⟨rfl,_,ho1,by simp[ObLe,upd_same]⟩,⟨rfl,rfl,rfl,by simp,fun c hc=>hoth c (by omega)⟩,fun c hc hn=>hoth c fun e=>hn _ ho1 (by rw[hblk,e]),fun c hc => .inl ⟨_,ho1,hc⟩⟩
 have hG:=SimG.obj hs hst (fun _=>⟨b,es',clock',by rw[upd_same];exact h2,h3,hsame,hup,fun j' i' p u1 u2 u3=>by
   have hne:i'≠id:=fun e=>by subst e;rw[get_cons_same]at u3;cases u3
   rw[objSt_o hne]at u3
   exact hold _ (h7 j' i' p u1 u2 u3)⟩) (fun i' hi'=>(hs.objs id _ ho1).2.2 i' hi')
 have hne:i≠id:=fun e=>by subst e;rw[ho1]at hi1;cases hi1
 have hG2:=tok_set hG (i:=i) (o:=id) (b:=false) (by rw[objSt_o hne];exact hi1) fun kk' V' ids' j' p u1 u2 u3=>by
  rw[get_cons_same]at u1
  simp only[Val.ob.injEq,Ob.lit.injEq]at u1
  obtain⟨rfl,rfl,rfl⟩:=u1
  have hjj:j'=j:=(List.getElem?_inj (List.getElem?_eq_some_iff.1 u2).1 hnd).1 (u2.trans hj.symm)
  subst hjj
  rw[hV]at u3
  cases u3
  exact⟨b,es',clock',by rw[upd_same];exact h2,hsame,hnew⟩
 unfold Oper.wp
 have hex:(execOp a.eval ⟨none,.insert t x y z,ty,pos,af,gd⟩).run cx.P w = .ok .skip { w with heap:=w.heap.setIfInBounds b (.map es' clock') }:=by
  simp[execOp,h1,hk,hzv,hrun]
 rw[hex]
 refine hK _ _ (Sim.eqv ⟨_,_,hG2⟩ fun q=>?_)
 cases q with
 |s n=>exact(get_cons_ne (by simp)).trans ((objSt_s n).trans (get_cons_ne (by simp)).symm)
 |o n =>
  by_cases hn:n=i
  ·
   subst hn;rw[get_cons_same];exact get_cons_same.symm
  ·
   rw[tok_get _ (by simpa using hn)]
   have hr':get ([(Key.o i,Val.ob (.tok id true))]++σ1) (.o n)=get σ1 (.o n):=get_cons_ne (by simpa using fun e=>hn e.symm)
   rw[hr']
   by_cases hn2:n=id
   ·
    subst hn2;rw[get_cons_same];exact ho1.symm
   ·
    exact objSt_o hn2
 |nx=>exact(get_cons_ne (by simp)).trans (objSt_nx.trans (hs.hnx.symm.trans (get_cons_ne (by simp)).symm))
theorem a_looklit {t te:TypeId}{zv:Value}{x y:Operand}{k:Int}{us:Value}{V:List (Int×Value)}{ids:List Nat}(id j i:Nat) (h:MapTyK cx kk t te zv) (hfl:flat us) (hun:∀ p∈V,p.1=k→p.2=us)
  (hx:ev σ x=some (.h id)) (hy:ev σ y=some (.d (.v (.int kk k)))) (ho:get σ (.o id) = .ob (.lit kk V ids)) (hi:get σ (.o i) = .ob (.tok id true)) (hj:ids[j]? = some i) (hV:V[j]? = some (k,us)) (hd:Nat.blt d cx.n=true) :
  OA cx σ ⟨some d,.lookup t x y false,ty,pos,af,gd⟩ ⟨rdOf x (.h id)++(rdOf y (.d (.v (.int kk k)))++[(.o id,.ob (.lit kk V ids)),(.o i,.ob (.tok id true))]),[(.s d,.av (.d (dv us)))]⟩:=by
 refine⟨ok_val rfl (lt_of_blt hd) fun σ1 a w g nx hs hr=>?_,(ev_out hx).2.append ((ev_out hy).2.append ⟨ho,hi,trivial⟩)⟩
 have hk:=rep_v (hs.ev (ev_out hy).1 hr.right.left).1
 obtain⟨b,es,clock,h1,h2,h3,h4,h5,h6,h7⟩:=lit_at hs hr.right.right.1 (hs.ev (ev_out hx).1 hr.left).1
 obtain⟨M,hM1,hM2⟩:=entries_list h6
 have:=run_mlookK (w:=w) h h5 hM1 k
 have hml:mlookI zv M k=us:=by
  obtain⟨e,he,hek⟩:=h7 j i _ hj hV hr.right.right.2.1
  obtain⟨q,hq,h8,_⟩:=(list_entry hM1).1 e he
  have hqk:q.1=k:=by rw[hek]at h8;simpa using h8.symm
  unfold mlookI
  have hex:∀ {M:List (Int×Value)},(∀ q∈M,q∈V)→(∃ q∈M,q.1=k)→mgetI M k=some us:=by
   intro M
   induction M with
   |nil=>rintro _ ⟨q,hq,_⟩;cases hq
   |cons p M ih =>
    obtain⟨s,v⟩:=p
    rintro hMV ⟨q,hq,hqk⟩
    simp only[mgetI]
    by_cases hs:s=k
    ·
     rw[if_pos hs,show v=us from hun (s,v) (hMV _ (List.mem_cons_self ..)) hs]
    ·
     rw[if_neg hs]
     refine ih (fun q hq=>hMV q (List.mem_cons_of_mem _ hq)) ?_
     rcases List.mem_cons.1 hq with rfl|hq
     ·
      exact absurd hqk hs
     ·
      exact⟨q,hq,hqk⟩
  rw[hex hM2 ⟨q,hq,hqk⟩]
  rfl
 rw[hml]at this
 exact⟨_,w,by simp[execOp,hk,h1,this],Below.refl _ _,rd_dv hfl,trivial⟩
end Go.AX
