/-
  Part 3 of what the claim leans on: F20 F21 AxPin AxPin2 AxPin3 G1 G3 G4 P1 P2 P3 AxFam AxFam2 AxPin4 AxPin5 AxBool AxFnD AxMap Rn Sh G2 G8 G11 AxIns G12 G14 R2.
-/
import Derived.Test.YtfpkamiobdkcpaaGreatDoorK2
import Derived.Laws.Small
import Derived.MapKept
import Derived.Shelf.Small.Strs
import Derived.Test.YtfpkamiobdkcpaaGreatDoorProg
import Derived.Shelf.Spec.SlicesInsertGrow
import Derived.Maps.AppendAt
set_option linter.all false

namespace Go.Proofs.YtfpkamiobdkcpaaGreatDoor
open Go.AX Go.RF
structure EInv (e:Engine) (N:Nat):Prop where
 z:Engine.Sz e N
 o:∀ d∈e.deeds,Deed.Ok d
 c:chOk e.chains
theorem EInv.mono {e:Engine}{N M:Nat}(h:EInv e N) (hm:N≤M):EInv e M:=by
 obtain⟨hz,ho,hc⟩:=h
 refine⟨⟨by have:=hz.c;omega,fun c hc=>by have:=hz.v c hc;omega,by have:=hz.d;omega,hz.s,hz.n,by have:=hz.b;omega,hz.dd⟩,ho,hc⟩
theorem codeGo_mem {d:Deed}:∀ {l:List Ins}{k:Nat},codeGo d k l=0→∀ j i,l[j]? = some i→wrongIns d ((d.code.length:Int) - 1 - ((k+j:Nat):Int)) i=0
 | [],k,_,j,i,hj=>by simp at hj
 |x::l,k,h,j,i,hj=>by
  simp only[codeGo]at h
  by_cases h0:wrongIns d ((d.code.length:Int) - 1 - k) x=0
  ·
   rw[if_pos h0]at h
   cases j with
   |zero=>simp at hj;subst hj;simpa using h0
   |succ j =>
    have:=codeGo_mem h j i (by simpa using hj)
    rw[show k+(j+1)=k+1+j by omega]
    exact this
  ·
   rw[if_neg h0]at h;exact absurd h h0
theorem has_ins {k:Int}(h:1≤k∧k≤9):insA k.toNat≤3∧insB k.toNat≤3:=by
 unfold insA insB
 constructor <;> split <;> omega
theorem wrongIns_ok {d:Deed}{m:Int}(hm:m≤11) {i:Ins}(h:wrongIns d m i=0):i.Ok:=by
 unfold wrongIns at h
 by_cases hk:i.kind < 1∨9 < i.kind
 ·
  rw[if_pos hk]at h;simp at h
 rw[if_neg hk]at h
 by_cases ho:insOut i.kind.toNat i.a i.b i.n m=true
 ·
  rw[if_pos ho]at h;simp at h
 have hkk:1≤i.kind∧i.kind≤9:=by omega
 have hs:=has_ins hkk
 simp only[insOut,Bool.or_eq_true,decide_eq_true_eq,not_or]at ho
 obtain⟨h1,h2,h3,h4,h5,h6⟩:=ho
 refine⟨hkk,by omega,by omega,fun hc=>?_,fun hc=>?_⟩
 ·
  rw[hc]at h5 h6
  simp[insLow,insHigh]at h5 h6
  unfold nOk;omega
 ·
  rw[hc]at h5 h6
  simp[insLow,insHigh]at h5 h6
  omega
theorem wrongDeed_ok {d:Deed}(h:wrongDeed d=0):Deed.Ok d:=by
 obtain⟨h1,h2,h3⟩:=wrong_writes h
 refine⟨fun i hi=>?_,h1,h2,h3⟩
 unfold wrongDeed at h
 by_cases h0:lsGo [d.reads,d.writes]=0
 ·
  rw[if_pos h0]at h
  by_cases hc:12 < d.code.length
  ·
   rw[if_pos hc]at h;simp at h
  ·
   rw[if_neg hc]at h
   obtain⟨j,hj⟩:=List.getElem?_of_mem hi
   exact wrongIns_ok (by omega) (codeGo_mem h j i hj)
 ·
  rw[if_neg h0]at h;exact absurd h h0
theorem addGo_ch {k:Str}{b:Int}{P:Version→Prop}(h0:P ⟨b,false,false,0⟩):∀ {l:List Chain}{dn:Bool}{out:List Chain},(∀ c∈l,∀ v∈c.vs,P v)→(∀ c∈out,∀ v∈c.vs,P v)→∀ c∈addGo k b dn out l,∀ v∈c.vs,P v
 | [],dn,out,_,ho,c,hc=>by
  simp only[addGo]at hc
  split at hc
  ·
   exact ho c hc
  ·
   rcases List.mem_append.1 hc with hc|hc
   ·
    exact ho c hc
   ·
    simp at hc;subst hc;simpa using h0
 |x::l,dn,out,hl,ho,c,hc=>by
  simp only[addGo]at hc
  have h1:∀ (g:Bool),∀ c∈(if g=true then out++[⟨k,[⟨b,false,false,0⟩]⟩] else out),∀ v∈c.vs,P v:=by
   intro g c hc
   split at hc
   ·
    rcases List.mem_append.1 hc with hc|hc
    ·
     exact ho c hc
    ·
     simp at hc;subst hc;simpa using h0
   ·
    exact ho c hc
  have hx:=hl x (List.mem_cons_self ..)
  split at hc
  ·
   refine addGo_ch h0 (fun c hc=>hl c (List.mem_cons_of_mem _ hc)) (fun c hc=>?_) c hc
   rcases List.mem_append.1 hc with hc|hc
   ·
    exact h1 _ c hc
   ·
    simp at hc;subst hc
    intro v hv
    rcases List.mem_append.1 hv with hv|hv
    ·
     exact hx v hv
    ·
     simp at hv;subst hv;exact h0
  ·
   refine addGo_ch h0 (fun c hc=>hl c (List.mem_cons_of_mem _ hc)) (fun c hc=>?_) c hc
   rcases List.mem_append.1 hc with hc|hc
   ·
    exact h1 _ c hc
   ·
    simp at hc;subst hc;exact hx
theorem addC_ok {l:List Chain}(h:chOk l) (k:Str) (b:Int):chOk (addC l k b):=addGo_ch (P:=fun v=>nOk v.n) (by simp[nOk]) h (by simp)
theorem addKeys_ok {b:Int}:∀ {ks:List Str}{l:List Chain},chOk l→chOk (addKeys b l ks)
 | [],l,h=>h
 |k::ks,l,h=>by simp only[addKeys];exact addKeys_ok (addC_ok h k b)
theorem EInv.add1 {e:Engine}{N:Nat}(h:EInv e N) {d:Deed}(hs:d.Sm) (ho:Deed.Ok d):EInv (add1 e d) (N+5):=by
 refine⟨add1_sz h.z hs ho.w,fun x hx=>?_,addKeys_ok h.c⟩
 rcases List.mem_append.1 hx with hx|hx
 ·
  exact h.o x hx
 ·
  simp at hx;subst hx;exact ho
theorem EInv.addAll:∀ {l:List Deed}{e:Engine}{N:Nat},EInv e N→(∀ d∈l,d.Sm∧Deed.Ok d)→EInv (addAll e l) (N+5*l.length)
 | [],e,N,h,_=>h
 |d::l,e,N,h,hl=>by
  have:=EInv.addAll (h.add1 (hl d (List.mem_cons_self ..)).1 (hl d (List.mem_cons_self ..)).2) fun x hx=>hl x (List.mem_cons_of_mem _ hx)
  simp only[RF.addAll,List.length_cons]
  rw[show N+5*(l.length+1)=N+5+5*l.length by omega]
  exact this
theorem EInv.addE {e:Engine}{N:Nat}(h:EInv e N) {l:List Deed}(hs:∀ d∈l,d.Sm) (hw:(addE e l).2=0):EInv (addE e l).1 (N+5*l.length):=by
 unfold RF.addE at hw ⊢
 by_cases h0:wrongs l=0
 ·
  rw[if_pos h0]
  exact h.addAll fun d hd=>⟨hs d hd,wrongDeed_ok (wrongs_mem h0 d hd)⟩
 ·
  rw[if_neg h0]at hw;exact absurd hw h0
theorem newE_inv {r:List Pair}(hr:rowsOk r):EInv (newE r) (r.length+1):=by
 refine⟨⟨by simp[newE],fun c hc=>?_,by simp[newE],by simp[newE],by simp[newE],by simp[newE];omega,by simp[newE]⟩,by simp[newE],fun c hc v hv=>?_⟩
 ·
  obtain⟨p,hp,rfl⟩:=List.mem_map.1 hc
  simp[rowChain]
 ·
  obtain⟨p,hp,rfl⟩:=List.mem_map.1 hc
  simp[rowChain]at hv
  subst hv
  exact hr p hp
theorem doGo_ok {r0:List Pair}(h0:rowsOk r0):∀ {l:List Ins}{sk:Int}{now:List Pair}{e:Done},(∀ i∈l,i.Ok)→rowsOk now→e.Ok→rowsOk (doGo r0 sk now e l).1∧(doGo r0 sk now e l).2.Ok
 | [],sk,now,e,_,hn,he=>⟨hn,he⟩
 |i::l,sk,now,e,hl,hn,he=>by
  have hio:=hl i (List.mem_cons_self ..)
  have ih:=fun(sk:Int) (now:List Pair) (e:Done) (h1:rowsOk now) (h2:e.Ok)=>doGo_ok h0 (l:=l) (sk:=sk) (now:=now) (e:=e) (fun j hj=>hl j (List.mem_cons_of_mem _ hj)) h1 h2
  simp only[doGo]
  split
  ·
   exact ih _ _ _ hn he
  split
  ·
   exact ih _ _ _ hn (rset_ok he _ (get_ok hn _))
  split
  ·
   next hk=>exact ih _ _ _ hn (rset_ok he _ (hio.c hk))
  split
  ·
   exact ih _ _ _ hn (rset_ok he _ (round_ok _))
  split
  ·
   exact ih _ _ _ hn (rset_ok he _ (round_ok _))
  split
  ·
   exact ih _ _ _ hn (rset_ok he _ (round_ok _))
  split
  ·
   exact ih _ _ _ (put_ok hn _ (rget_ok he _) _) he
  split
  ·
   exact ih _ _ _ (put_ok hn _ (by simp[nOk]) _) he
  split
  ·
   exact ih _ _ _ hn he
  split
  ·
   exact⟨h0,⟨he.a,he.b,he.c,he.d⟩⟩
  ·
   exact ih _ _ _ hn he
theorem done0_ok:done0.Ok:=⟨by simp[nOk,done0],by simp[nOk,done0],by simp[nOk,done0],by simp[nOk,done0]⟩
theorem doD_ok {r:List Pair}{d:Deed}(h0:rowsOk r) (hd:Deed.Ok d):rowsOk (doD r d).1:=(doGo_ok h0 hd.i h0 done0_ok).1
theorem set_ok {l:List Chain}(h:chOk l) (k:Str) {v:Version}(hv:nOk v.n):chOk (setChains l k v):=by
 intro c hc w hw
 obtain⟨c0,h0,rfl⟩:=List.mem_map.1 hc
 simp only[setC]at hw
 obtain⟨w0,hw0,rfl⟩:=List.mem_map.1 hw
 unfold setV
 split
 ·
  exact hv
 ·
  exact h c0 h0 w0 hw0
theorem goSets_ok {r:List Pair}(hr:rowsOk r) {b:Int}{M:Nat}:∀ {ks:List Str}{l:List Chain},chOk l→(∀ c∈l,c.vs.length≤M)→chOk (goSets r b l ks)∧(goSets r b l ks).length=l.length∧∀ c∈goSets r b l ks,c.vs.length≤M
 | [],l,h,hv=>⟨h,rfl,hv⟩
 |k::ks,l,h,hv=>by
  simp only[goSets]
  have:=goSets_ok hr (b:=b) (ks:=ks) (set_ok h k (v:=⟨b,true,(RF.get r k).2,(RF.get r k).1⟩) (get_ok hr k)) (set_vs hv)
  refine⟨this.1,by rw[this.2.1];simp[setChains],this.2.2⟩
theorem EInv.goNew {e:Engine}{N:Nat}(h:EInv e N) {A:Nat}{d:Deed}(hd:d∈e.deeds):EInv (goNew e A d) N:=by
 obtain⟨hz,ho,hc⟩:=h
 have hr:=doD_ok (goRows_ok (b:=e.base+A) hc (ks:=keysD d) (r:=[]) (by simp[rowsOk])).1 (ho d hd)
 have:=goSets_ok hr (b:=e.base+A) (ks:=d.writes) hc hz.v
 refine⟨⟨?_,this.2.2,hz.d,?_,?_,hz.b,hz.dd⟩,ho,this.1⟩
 ·
  show(goSets _ _ _ _).length≤N
  rw[goDone,this.2.1];exact hz.c
 ·
  simp[Proofs.YtfpkamiobdkcpaaGreatDoor.goNew];exact hz.s
 ·
  simp[Proofs.YtfpkamiobdkcpaaGreatDoor.goNew];exact hz.n
theorem EInv.goE {e:Engine}{N:Nat}(h:EInv e N) (at_:Int):EInv (goE e at_).1 N:=by
 unfold Proofs.YtfpkamiobdkcpaaGreatDoor.goE
 split
 ·
  exact h
 unfold goAt
 cases hA:e.deeds[at_.toNat]? with
 |none=>exact h
 |some d =>
  dsimp only
  split
  ·
   exact h
  split
  ·
   exact h.goNew (List.mem_of_getElem? hA)
  ·
   exact h
theorem clrV_sub {b:Int}:∀ {l:List Version}{v:Version},v∈clrV b l→v∈l
 | [],v,h=>by simp[clrV]at h
 |x::l,v,h=>by
  simp only[clrV]at h
  split at h
  ·
   exact List.mem_cons_of_mem _ (clrV_sub h)
  ·
   rcases List.mem_cons.1 h with rfl|h
   ·
    exact List.mem_cons_self ..
   ·
    exact List.mem_cons_of_mem _ (clrV_sub h)
theorem clrV_len {b:Int}:∀ (l:List Version),(clrV b l).length≤l.length
 | []=>by simp[clrV]
 |x::l=>by
  have:=clrV_len (b:=b) l
  simp only[clrV]
  split <;> simp <;> omega
theorem clear_mem {b:Int}:∀ {l:List Chain}{c:Chain},c∈clear b l→∃ c0∈l,c=⟨c0.key,clrV b c0.vs⟩
 | [],c,h=>by simp[clear]at h
 |x::l,c,h=>by
  simp only[clear]at h
  split at h
  ·
   obtain⟨c0,h0,h1⟩:=clear_mem h
   exact⟨c0,List.mem_cons_of_mem _ h0,h1⟩
  ·
   rcases List.mem_cons.1 h with rfl|h
   ·
    exact⟨x,List.mem_cons_self ..,rfl⟩
   ·
    obtain⟨c0,h0,h1⟩:=clear_mem h
    exact⟨c0,List.mem_cons_of_mem _ h0,h1⟩
theorem clear_len {b:Int}:∀ (l:List Chain),(clear b l).length≤l.length
 | []=>by simp[clear]
 |x::l=>by
  have:=clear_len (b:=b) l
  simp only[clear]
  split <;> simp <;> omega
theorem EInv.clearE {e:Engine}{N:Nat}(h:EInv e N):EInv (clearE e) N:=by
 obtain⟨hz,ho,hc⟩:=h
 have hm:=markN_le e.state
 have hsl:=hz.s
 have hnl:=hz.n
 have hd:=hz.d
 have hb:=hz.b
 refine⟨⟨?_,fun c hcc=>?_,?_,?_,?_,?_,fun d hd=>hz.dd d (List.mem_of_mem_drop hd)⟩,fun d hd=>ho d (List.mem_of_mem_drop hd),fun c hcc v hv=>?_⟩
 ·
  have:=clear_len (b:=e.base+markN e.state) e.chains
  have:=hz.c
  simp only[RF.clearE];omega
 ·
  obtain⟨c0,h0,rfl⟩:=clear_mem hcc
  have:=clrV_len (b:=e.base+markN e.state) c0.vs
  have:=hz.v c0 h0
  simp only[];omega
 ·
  simp only[RF.clearE,List.length_drop];omega
 ·
  simp only[RF.clearE,List.length_drop];omega
 ·
  simp only[RF.clearE,List.length_drop];omega
 ·
  simp only[RF.clearE,List.length_drop];omega
 ·
  obtain⟨c0,h0,rfl⟩:=clear_mem hcc
  exact hc c0 h0 v (clrV_sub hv)
set_option maxRecDepth 100000
set_option maxHeartbeats 8000000
def pickE (e:Engine) (n:Int):Engine:=if n=7 then clearE e else if n < 0 then e else match (ready e)[n.toNat]? with
 |some x=>(goE e x).1
 |none=>e
def pickGo:Nat→Engine→List Int→Engine×List Int
 |0,e,p=>(e,p)
 |_+1,e,[]=>(e,[])
 |k+1,e,n::p=>pickGo k (pickE e n) p
def batchE (e:Engine) (b:List Deed):Engine:=if (addE e b).2=0 then (addE e b).1 else e
def buildGo:Engine→List (List Deed)→List Int→Engine
 |e,[],_=>e
 |e,b::bs,p=>buildGo (pickGo 3 (batchE e b) p).1 bs (pickGo 3 (batchE e b) p).2
def buildE (r:List Pair) (bs:List (List Deed)) (p:List Int):Engine:=buildGo (newE r) bs p
def sumLen:List (List Deed)→Nat
 | []=>0
 |b::bs=>b.length+sumLen bs
theorem EInv.pickE {e:Engine}{N:Nat}(h:EInv e N) (n:Int):EInv (pickE e n) N:=by
 unfold Proofs.YtfpkamiobdkcpaaGreatDoor.pickE
 split
 ·
  exact h.clearE
 split
 ·
  exact h
 split
 ·
  exact h.goE _
 ·
  exact h
theorem EInv.batchE {e:Engine}{N:Nat}(h:EInv e N) {b:List Deed}(hs:∀ d∈b,d.Sm):EInv (batchE e b) (N+5*b.length):=by
 unfold Proofs.YtfpkamiobdkcpaaGreatDoor.batchE
 split
 ·
  next hw=>exact h.addE hs hw
 ·
  exact h.mono (by omega)
theorem EInv.pickGo:∀ {k:Nat}{e:Engine}{p:List Int}{N:Nat},EInv e N→EInv (pickGo k e p).1 N
 |0,e,p,N,h=>h
 |k+1,e,[],N,h=>h
 |k+1,e,n::p,N,h=>by
  simp only[Proofs.YtfpkamiobdkcpaaGreatDoor.pickGo]
  exact EInv.pickGo (h.pickE n)
theorem EInv.buildGo:∀ {bs:List (List Deed)}{e:Engine}{p:List Int}{N:Nat},EInv e N→(∀ b∈bs,∀ d∈b,d.Sm)→EInv (buildGo e bs p) (N+5*sumLen bs)
 | [],e,p,N,h,_=>h
 |b::bs,e,p,N,h,hb=>by
  simp only[Proofs.YtfpkamiobdkcpaaGreatDoor.buildGo,sumLen]
  have:=EInv.buildGo (p:=(Proofs.YtfpkamiobdkcpaaGreatDoor.pickGo 3 (Proofs.YtfpkamiobdkcpaaGreatDoor.batchE e b) p).2) ((h.batchE (hb b (List.mem_cons_self ..))).pickGo (k:=3) (p:=p)) fun x hx=>hb x (List.mem_cons_of_mem _ hx)
  rw[show N+5*(b.length+sumLen bs)=N+5*b.length+5*sumLen bs by omega]
  exact this
theorem sumLen_at:∀ {bs:List (List Deed)}{j:Nat}{b:List Deed},bs[j]? = some b→b.length+sumLen (bs.drop (j+1))=sumLen (bs.drop j)
 | [],j,b,h=>by simp at h
 |x::bs,0,b,h=>by simp at h;subst h;simp[sumLen]
 |x::bs,j+1,b,h=>by simpa using sumLen_at (bs:=bs) (j:=j) (by simpa using h)
theorem readyGo_len {e:Engine}:∀ (l:List Int) (i:Nat),(readyGo e i l).length≤l.length
 | [],i=>by simp[readyGo]
 |s::l,i=>by
  have:=readyGo_len (e:=e) l (i+1)
  simp only[readyGo]
  split <;> simp <;> omega
theorem ok_rBuild (r:List Pair) (bs:List (List Deed)) (p:List Int) (hr:rowsOk r) (hrl:r.length≤10000000) (hb:∀ b∈bs,b.length≤10000000∧∀ d∈b,d.Sm) (hbl:bs.length≤10000000) (hsum:sumLen bs≤10000000) (hp:p.length≤10000000) :
  FnOk Tryz.prog 14 [.d (encRows r),.d (encBatches bs),.d (encInts p)] (.one (.agg (buildE r bs p).enc)):=by
 refine fnOk_of tbl_ok mixed_ok Tryz.func14 rfl (by kernel_rfl) rfl rfl fun w0 own0=>?_
 have cn:=ok_new r (by omega)
 try refine wk ?_
 refine CW.loopT (fun t:Nat×Engine×List Int=>[sp 6 0,ob 0 noE.enc0,sp 7 1,ob 1 t.2.1.enc,sd 2 (encInts t.2.2),sd 17 (encBatches bs),sd 18 (dint bs.length),sd 19 (dint t.1),nxt 2])
  (fun t=>t.1≤bs.length∧t.2.2.length≤10000000∧(∃ M,M+5*sumLen (bs.drop t.1)≤90000000∧EInv t.2.1 M)∧buildGo t.2.1 (bs.drop t.1) t.2.2=buildE r bs p) (fun t=>bs.length - t.1) (0,newE r,p)
  ⟨by omega,hp,⟨r.length+1,by simp;omega,newE_inv hr⟩,rfl⟩ ?_ ?_
 ·
  exact by_less
 ·
  rintro ⟨i,e,q⟩ ⟨hi,hq,⟨M,hM,hE⟩,hI⟩
  dsimp only at hi hq hM hE hI ⊢
  rcases drop_case hi with ⟨h1,h2⟩|⟨b,h1,h2,h3⟩
  ·
   rw[h1]at hI
   simp only[buildGo]at hI
   try refine wk ?_
   exact .one (.cell rfl rfl rfl rfl (.aggd (ds:=e.enc) rfl (dle_eq (by rw[hI]))))
  ·
   have hsl:=sumLen_at h2
   rw[h1]at hI
   simp only[buildGo]at hI
   obtain⟨hbl1,hbs⟩:=hb b (List.mem_of_getElem? h2)
   have ca:=ok_addE e b M hE.z hbs (by omega) (by omega)
   have hE2:EInv (batchE e b) (M+5*b.length):=hE.batchE hbs
   have hM2:M+5*b.length+5*sumLen (bs.drop (i+1))≤90000000:=by omega
   have hst0:StopA 5:=⟨rfl⟩
   try refine wkS ?_
   clear hst0
   refine Stop.cutk [ob 1 (batchE e b).enc] [.s 6,.o 0,.s 7,.s 2,.s 17,.s 18,.s 19,.nx] ?_ ?_
   ·
    unfold batchE
    by_cases h0:(addE e b).2=0
    ·
     rw[if_pos h0]
     try refine wk ?_
     refine q_cut ?_
     exact by_less
    ·
     rw[if_neg h0]
     try refine wk ?_
     refine q_cut ?_
     exact by_less
   generalize M+5*b.length=M2 at hE2 hM2
   generalize batchE e b=e2 at hE2 hI
   clear ca hE hM h1
   try refine wk ?_
   refine CW.loopT (fun t:Nat×Engine×List Int=>[sp 6 0,ob 0 noE.enc0,sp 7 1,ob 1 t.2.1.enc,sd 2 (encInts t.2.2),sd 17 (encBatches bs),sd 18 (dint bs.length),sd 19 (dint i),sd 32 (dint t.1),nxt 2])
    (fun t=>t.1≤3∧t.2.2.length≤10000000∧EInv t.2.1 M2∧pickGo (3 - t.1) t.2.1 t.2.2=pickGo 3 e2 q) (fun t=>3 - t.1) (0,e2,q) ⟨by omega,hq,hE2,rfl⟩ ?_ ?_
   ·
    exact by_less
   ·
    rintro ⟨k,e,q'⟩ ⟨hk,hq',hE,hK⟩
    dsimp only at hk hq' hE hK ⊢
    by_cases k3:k=3
    ·
     subst k3
     simp only[Nat.sub_self,pickGo]at hK
     rw[← hK]at hI
     dsimp only at hI
     try refine wk ?_
     refine q_loopT (i+1,e,q') ⟨by dsimp only;omega,hq',⟨M2,hM2,hE⟩,hI⟩ (by dsimp only;omega) ?_
     exact by_less
    obtain⟨j,hj⟩:∃ j,3 - k=j+1:=⟨2 - k,by omega⟩
    rw[hj]at hK
    cases q' with
    |nil =>
     simp only[pickGo]at hK
     rw[← hK]at hI
     dsimp only at hI
     try refine wk ?_
     refine q_loopT (i+1,e,[]) ⟨by dsimp only;omega,by simp,⟨M2,hM2,hE⟩,hI⟩ (by dsimp only;omega) ?_
     exact by_less
    |cons n q' =>
     simp only[pickGo]at hK
     have hn0:¬ (n::q').length=0:=by simp
     have hp0:(n::q')[0]? = some n:=rfl
     have hsm:=hE.z.sm (by omega)
     have cr:=ok_ready e hsm hE.z.s
     have cc:=ok_clearE e hsm hE.z.s hE.z.n
     have hrl2:(ready e).length≤100000000:=by
      have:=readyGo_len (e:=e) e.state 0
      have h5:=hE.z.d
      have h6:=hE.z.s
      unfold ready;omega
     have hEn:=hE.pickE n
     have hql:q'.length≤10000000:=by simp at hq';omega
     have hjk:j=3 - (k+1):=by omega
     subst hjk
     by_cases n7:n=7
     ·
      rw[pickE,if_pos n7]at hK hEn
      repeat(first|refine wa ?_|((with_reducible apply s5);(first|((with_reducible apply a_ia);(iterate 5 exact rfl);exact idx_map (k:=0) hp0)|((with_reducible apply a_from);(iterate 5 exact rfl);exact cut_from (n:=1) (by simp))|exact by_oa|exact by_ca);exact by_g)|refine wb ?_)
      refine q_loopT (k+1,clearE e,q') ⟨by dsimp only;omega,hql,hEn,hK⟩ (by dsimp only;omega) ?_
      exact by_less
     rw[pickE,if_neg n7]at hK hEn
     by_cases n0:n < 0
     ·
      rw[if_pos n0]at hK hEn
      repeat(first|refine wa ?_|((with_reducible apply s5);(first|((with_reducible apply a_ia);(iterate 5 exact rfl);exact idx_map (k:=0) hp0)|((with_reducible apply a_from);(iterate 5 exact rfl);exact cut_from (n:=1) (by simp))|exact by_oa|exact by_ca);exact by_g)|refine wb ?_)
      refine q_loopT (k+1,e,q') ⟨by dsimp only;omega,hql,hEn,hK⟩ (by dsimp only;omega) ?_
      exact by_less
     rw[if_neg n0]at hK hEn
     obtain⟨m,rfl⟩:=Int.eq_ofNat_of_zero_le (show 0≤n by omega)
     rw[Int.toNat_natCast]at hK hEn
     by_cases hm:m < (ready e).length
     ·
      obtain⟨x,hx⟩:∃ x,(ready e)[m]? = some x:=⟨(ready e)[m],List.getElem?_eq_getElem hm⟩
      rw[hx]at hK hEn
      dsimp only at hK hEn
      have cg:=ok_go e x M2 hE.z (by omega) hE.o hE.c
      repeat(first|refine wa ?_|((with_reducible apply s5);(first|((with_reducible apply a_ia);(iterate 5 exact rfl);exact idx_map (k:=0) hp0)|((with_reducible apply a_from);(iterate 5 exact rfl);exact cut_from (n:=1) (by simp))|exact by_oa|exact by_ca);exact by_g)|refine wb ?_)
      refine q_loopT (k+1,(goE e x).1,q') ⟨by dsimp only;omega,hql,hEn,hK⟩ (by dsimp only;omega) ?_
      exact by_less
     ·
      rw[List.getElem?_eq_none (by omega)]at hK hEn
      dsimp only at hK hEn
      repeat(first|refine wa ?_|((with_reducible apply s5);(first|((with_reducible apply a_ia);(iterate 5 exact rfl);exact idx_map (k:=0) hp0)|((with_reducible apply a_from);(iterate 5 exact rfl);exact cut_from (n:=1) (by simp))|exact by_oa|exact by_ca);exact by_g)|refine wb ?_)
      refine q_loopT (k+1,e,q') ⟨by dsimp only;omega,hql,hEn,hK⟩ (by dsimp only;omega) ?_
      exact by_less
end Go.Proofs.YtfpkamiobdkcpaaGreatDoor
namespace Go.AX
open Go.RowKit
variable {cx:Cx}{g:Nat→Value}{σ σ':St}{a:Act}{w w':World}{nx:Nat}{c:Code}{Q:Exit→St→Prop}
variable {ty:TypeId}{pos:String}{af:Array Edge}{gd:Option (Nat×Bool)}{d:Nat}
def RowsAt (w:World) (base:Nat) (own:Nat→Prop) (e k:Nat) (v:Value) (rows:List (List D)):Prop :=
 ∃ xs:List Value,w.ownsRow base e k v rows.length xs∧(∀ x∈xs,Value.oneCell' x=true)∧(∀ r∈rows,r.length=k) ∧
  ∀ (i j:Nat) (r:List D) (d:D) (x:Value),rows[i]? = some r→r[j]? = some d→xs[i*k+j]? = some x→Rd w own x d
def with1 (own:Nat→Prop) (v:Value):Nat→Prop:=fun b=>own b∨blk v=some b
theorem ownsRow_base {base base':Nat}{e k:Nat}{v:Value}{n:Nat}{xs:List Value}(h:w.ownsRow base e k v n xs) (hb:∀ b,blk v=some b→base'≤b):w.ownsRow base' e k v n xs:=by
 refine⟨h.1,?_⟩
 rcases h.2 with h1|⟨g,cap,cur,hv,h1,h2⟩
 ·
  exact .inl h1
 ·
  exact .inr ⟨g,cap,cur,hv,hb g (by rw[hv];rfl),h2⟩
theorem RowsAt.lt {base e k:Nat}{own:Nat→Prop}{v:Value}{rows:List (List D)}(h:RowsAt w base own e k v rows) {b:Nat}(hb:blk v=some b):base≤b∧b < w.heap.size:=by
 obtain⟨xs,h1,_⟩:=h
 exact h1.lt b (by rw[← blk_own h1];exact hb)
theorem RowsAt.re {base base' e k:Nat}{own own':Nat→Prop}{v:Value}{rows:List (List D)}(h:RowsAt w base own e k v rows) (hb:∀ b,blk v=some b→base'≤b) (ho:∀ b,own' b→own b):RowsAt w base' own' e k v rows:=by
 obtain⟨xs,h1,h2,h3,h4⟩:=h
 exact⟨xs,ownsRow_base h1 hb,h2,h3,fun i j r d x hi hj hx=>(h4 i j r d x hi hj hx).less ho⟩
theorem RowsAt.rd {base e k:Nat}{own own':Nat→Prop}{v:Value}{rows:List (List D)}(h:RowsAt w base own e k v rows) (ho:∀ b,own' b→own b∧blk v≠some b):Rd w own' v (.sl k rows):=by
 obtain⟨xs,h1,h2,h3,h4⟩:=h
 rcases h1.2 with ⟨hv,hn⟩|⟨b,cap,cur,hv,hb,hh,hle,hcm,hsz,htk⟩
 ·
  obtain rfl:rows=[]:=List.eq_nil_of_length_eq_zero hn
  rw[hv];exact .nil none 0 k
 ·
  have hlt:b < w.heap.size:=by
   rcases Nat.lt_or_ge b w.heap.size with h|h
   ·
    exact h
   ·
    rw[Array.getElem?_eq_none h]at hh;cases hh
  have hx:∀ i j r d,rows[i]? = some r→r[j]? = some d→∃ x,xs[i*k+j]? = some x∧w.cell? ((⟨b,0,none⟩:Addr).add (i*k+j))=some x:=by
   intro i j r d hi hj
   have hil:=(List.getElem?_eq_some_iff.1 hi).1
   have hjl:j < k:=by rw[← h3 r (List.mem_of_getElem? hi)];exact(List.getElem?_eq_some_iff.1 hj).1
   have hlen:i*k+j < xs.length:=by
    rw[h1.1]
    have h5:(i+1)*k≤rows.length*k:=Nat.mul_le_mul_right _ hil
    rw[Nat.add_mul,Nat.one_mul]at h5
    omega
   exact⟨xs[i*k+j],List.getElem?_eq_getElem hlen,h1.cells (g:=b) (by rw[hv];rfl) _ _ (List.getElem?_eq_getElem hlen)⟩
  have hblk:blk v=some b:=by rw[hv];rfl
  rw[hv]
  refine .sl ⟨b,0,none⟩ cap k rows (fun i j=>xs.getD (i*k+j) undef) (fun h0=>(ho b h0).2 hblk) hlt hle h3 (fun i j r d hi hj=>?_) (fun i j r d hi hj=>?_) fun i j r d hi hj=>?_
  ·
   obtain⟨x,h5,h6⟩:=hx i j r d hi hj
   rw[h6];simp[List.getD,h5]
  ·
   obtain⟨x,h5,h6⟩:=hx i j r d hi hj
   simp only[List.getD,h5,Option.getD_some]
   exact h2 x (List.mem_of_getElem? h5)
  ·
   obtain⟨x,h5,h6⟩:=hx i j r d hi hj
   simp only[List.getD,h5,Option.getD_some]
   exact(h4 i j r d x hi hj h5).less fun b hb=>(ho b hb).1
theorem RowsAt.at {base e k:Nat}{own:Nat→Prop}{v:Value}{rows:List (List D)}(h:RowsAt w base own e k v rows) {i j:Nat}{r:List D}{x0:Value}{d':D}(hi:rows[i]? = some r) (hj:r[j]? = some (.v x0)) (hd:Rd w own x0 d') :
  RowsAt w base own e k v (rows.set i (r.set j d')):=by
 obtain⟨xs,h1,h2,h3,h4⟩:=h
 have hil:=(List.getElem?_eq_some_iff.1 hi).1
 have hjl:=(List.getElem?_eq_some_iff.1 hj).1
 refine⟨xs,by simpa using h1,h2,fun r' hr'=>?_,fun i' j' r' z x hi' hj' hx=>?_⟩
 ·
  rcases List.mem_or_eq_of_mem_set hr' with h|h
  ·
   exact h3 r' h
  ·
   subst h;simp;exact h3 r (List.mem_of_getElem? hi)
 ·
  by_cases he:i=i'
  ·
   subst he
   rw[List.getElem?_set_self hil]at hi'
   cases hi'
   by_cases hf:j=j'
   ·
    subst hf
    rw[List.getElem?_set_self hjl]at hj'
    cases hj'
    have:=h4 i j r (.v x0) x hi hj hx
    rw[rd_v this];exact hd
   ·
    rw[List.getElem?_set_ne hf]at hj'
    exact h4 i j' r z x hi hj' hx
  ·
   rw[List.getElem?_set_ne he]at hi'
   exact h4 i' j' r' z x hi' hj' hx
structure FnNew (P:Program) (f:FuncId) (args:List Arg) (e k:Nat) (rows:List (List D)):Prop where
 run : ∃ fn, P.funcs[f]? = some fn ∧ (fn.name == "runtime.NumGoroutine") = false ∧ fn.body.isNone = false
 calls:∀ (w:World) (own:Nat→Prop) (vs:List Value),((∀ b,own b→b < w.heap.size)∧Gl P w)→ArgsOk w own vs args →
  Calls P f vs.toArray w fun r w'=>∃ v,r = .returned v∧Below w.heap.size w w'∧RowsAt w' w.heap.size (with1 own v) e k v rows
inductive RetNew (σ:St) (t e k:Nat) (rows:List (List D)):Prop
 |own {id n:Nat} (h:get σ (.s t) = .av (.own id n)) (ho:get σ (.o id) = .ob (.arr e k rows)) (hn:n=rows.length)
 |nil (h:get σ (.s t) = .av (.d (.v nilS))) (hr:rows=[])
def newQ (t e k:Nat) (rows:List (List D)):Exit→St→Prop
 |.normal,σ=>RetNew σ t e k rows
 |.ret,σ=>RetNew σ t e k rows
 |_,_=>False
theorem objRows (hs:SimG cx σ a w g nx) {id e k:Nat}{rows:List (List D)}(ho:get σ (.o id) = .ob (.arr e k rows)):RowsAt w cx.w0.heap.size (cx.own g σ) e k (g id) rows:=(hs.objs id _ ho).2.1
theorem RetNew.ok (hs:SimG cx σ a w g nx) {t e k:Nat}{rows:List (List D)}(h:RetNew σ t e k rows):RowsAt w cx.w0.heap.size (with1 cx.own0 (a.tmps.getD t undef)) e k (a.tmps.getD t undef) rows:=by
 cases h with
 |@own id n h ho hn =>
  have hv:a.tmps.getD t undef=g id:=((hs.slots t _ h).1.2 e k rows ho).2 hn
  rw[hv]
  refine(objRows hs ho).re (fun b hb=>obj_ge hs ho hb) fun b hb=>?_
  rcases hb with hb|hb
  ·
   exact .inl hb
  ·
   exact .inr ⟨id,_,ho,hb⟩
 |nil h hr =>
  subst hr
  rw[rd_v (hs.slots t _ h).1]
  exact⟨[],World.ownsRow_nil _ _ _ _,by simp,by simp,by simp⟩
theorem fnNew_of {P:Program}{T:Tbl}(hT:TOk P T) (hm:P.follows .mixedOrders=true) {f:FuncId}{fn:Func}{c:Code}{t e k:Nat}{args:List Arg}{rows:List (List D)}
  (hf : P.funcs[f]? = some fn) (hb : fn.body = some c) (hname : (fn.name == "runtime.NumGoroutine") = false) (hr : fn.results = #[.tmp t]) (hn : Nat.ble args.length fn.ntmps = true)
  (h:∀ w0 own0,CW ⟨P,T,hT,hm,fn.ntmps,w0,own0,0,[]⟩ c (newQ t e k rows) (argSt 0 args)):FnNew P f args e k rows:=by
 refine⟨⟨fn,hf,hname,by rw[hb];rfl⟩,fun w own vs hown ha=>?_⟩
 have hsim:=entry_sim (P:=P) (T:=T) (hT:=hT) (hm:=hm) (n:=fn.ntmps) hown ha (by simpa using hn)
 refine calls_of_wp hf hb (wp_mono (h w own _ _ hsim) fun x a' w' he=>?_)
 obtain⟨σ',⟨g,nx,hg⟩,hq⟩:=he
 have fin:∀ hq:RetNew σ' t e k rows,a'.defers=[]∧∃ v,(results fn a'.tmps).run P w' = .ok v w'∧∃ v',Ending.returned v = .returned v'∧Below w.heap.size w w'∧RowsAt w' w.heap.size (with1 own v') e k v' rows:=by
  intro hq
  exact⟨hg.defers,_,by rw[results_one hr];simp[rvRun],_,rfl,hg.below,hq.ok hg⟩
 cases x with
 |normal=>exact fin hq
 |ret=>exact fin hq
 |exit j=>exact hq.elim
 |goto j=>exact hq.elim
 |panic c=>exact hq.elim
 |outgrown=>exact hq.elim
theorem FnNew.ok {P:Program}{f:FuncId}{args:List Arg}{e k:Nat}{rows:List (List D)}(h:FnNew P f args e k rows):FnOk P f args (.one (.sl k rows)):=by
 refine⟨h.run,fun w own vs hown ha=>(h.calls w own vs hown ha).mono fun r w' hr=>?_⟩
 obtain⟨v,rfl,h1,h2⟩:=hr
 exact⟨v,rfl,h1,h2.rd fun b hb=>⟨.inl hb,fun he=>by have:=(h2.lt he).1;have:=hown.1 b hb;omega⟩⟩
theorem SimG.join (hs:SimG cx σ a w g nx) (hb:Below w.heap.size w w') {v:Value}{o:Ob}{e k:Nat}{rows:List (List D)}(hr:RowsAt w' w.heap.size (with1 (cx.own g σ) v) e k v rows)
  (ho:o = .arr e k rows∨o = .pin e k rows v):SimG cx (objSt σ (nx+1) nx o) a w' (upd g nx v) (nx+1):=by
 have hge:=hs.below.size
 refine SimG.obj hs ⟨.inl ⟨rfl,rfl⟩,hb.mono hge,fun b hb' _=>hb.block b hb',fun b hb' => .inr (hr.lt hb').1⟩ (fun hl=>?_) (by rcases ho with rfl|rfl <;> trivial)
 have hre:RowsAt w' cx.w0.heap.size (cx.own (upd g nx v) (objSt σ (nx+1) nx o)) e k (upd g nx v nx) rows:=by
  rw[upd_same]
  refine hr.re (fun b hb'=>by have:=(hr.lt hb').1;omega) fun b hb'=>?_
  rcases hb' with h|⟨id,o',h1,h2⟩
  ·
   exact .inl (.inl h)
  ·
   by_cases hid:id=nx
   ·
    subst hid;rw[upd_same]at h2;exact .inr h2
   ·
    rw[objSt_o hid]at h1
    rw[upd_ne hid]at h2
    exact .inl (.inr ⟨id,o',h1,h2⟩)
 rcases ho with rfl|rfl
 ·
  exact hre
 ·
  exact⟨upd_same _ _ _,hre⟩
theorem call_run {P : Program} {f : FuncId} {xs : List Operand} {ats : Array TypeId} (hr : ∃ fn, P.funcs[f]? = some fn ∧ (fn.name == "runtime.NumGoroutine") = false ∧ fn.body.isNone = false) :
  (execOp a.eval ⟨some d,.call { callee := .value (.func f),args:=⟨xs⟩,argTypes:=ats },ty,pos,af,gd⟩).run P w = .ok (.enter f (xs.map a.eval).toArray) w:=by
 obtain⟨fn,h1,h2,h3⟩:=hr
 simp only[execOp,resolve,Deferred.ofValue,Act.eval,invoke,callFunc,Sem.run_bind,Sem.run_pure,Result.andThen_ok,run_program,h1,h2,h3,Bool.false_eq_true,if_false]
 simp
theorem ok_callnew {f:FuncId}{xs:List Operand}{avs:List AV}{ys:List Arg}{l:List (Key×Val)}{e k:Nat}{rows:List (List D)}{ats:Array TypeId}(hn:d < cx.n) (hc:FnNew cx.P f ys e k rows) (hsub:Subs xs avs ys l) :
  OpOk cx ⟨some d,.call { callee := .value (.func f),args:=⟨xs⟩,argTypes:=ats },ty,pos,af,gd⟩ ⟨l++[(.nx,.num nx)],[(.s d,.av (.own nx rows.length)),(.o nx,.ob (.arr e k rows)),(.nx,.num (nx+1))]⟩:=by
 rintro σ a w K Q ⟨g,n',hs⟩ hr hK
 have hnx:n'=nx:=by
  have h2:=hr.right.1
  rw[hs.hnx]at h2
  simpa using h2
 subst hnx
 have hcall:=hc.calls w (cx.own g σ) (xs.map a.eval) ⟨fun b hb=>own_lt hs hb,hs.gl⟩ (hsub.ok hs hr.left)
 unfold Oper.wp
 rw[call_run hc.run]
 refine hcall.mono fun r w' he=>?_
 obtain⟨v,rfl,hb,hres⟩:=he
 have hG:=SimG.join hs hb hres (.inl rfl)
 refine hK _ _ (Sim.put hG hn (Below.refl _ _) ?_ (Nat.lt_succ_self _))
 refine⟨.of get_cons_same,fun e' k' rows' hg=>?_⟩
 rw[get_cons_same]at hg
 cases hg
 exact⟨Nat.le_refl _,fun _=>by rw[upd_same]⟩
theorem a_callnew {f:FuncId}{xs:List Operand}{avs:List AV}{ys:List Arg}{l:List (Key×Val)}{e k:Nat}{rows:List (List D)}{ats:Array TypeId}(hc:FnNew cx.P f ys e k rows) (hn:get σ .nx = .num nx) (hd:Nat.blt d cx.n=true) (hsub:SubsE σ xs avs ys l) :
  OA cx σ ⟨some d,.call { callee := .value (.func f),args:=⟨xs⟩,argTypes:=ats },ty,pos,af,gd⟩ ⟨l++[(.nx,.num nx)],[(.s d,.av (.own nx rows.length)),(.o nx,.ob (.arr e k rows)),(.nx,.num (nx+1))]⟩ :=
 ⟨ok_callnew (lt_of_blt hd) hc hsub.out.1,hsub.out.2.append ⟨hn,trivial⟩⟩
end Go.AX
namespace Go.AX
open Go.RowKit
variable {cx:Cx}{g:Nat→Value}{σ σ':St}{a:Act}{w w':World}{nx:Nat}{c:Code}{Q:Exit→St→Prop}
variable {ty:TypeId}{pos:String}{af:Array Edge}{gd:Option (Nat×Bool)}{d:Nat}
theorem SimG.reob (hs:SimG cx σ a w g nx) {id:Nat}{o o':Ob}(ho:get σ (.o id) = .ob o) (hle:ObLe g g id o o') (hr:ObOk cx g σ w id o') (hb:o'.bd nx) :
  SimG cx ((.o id,.ob o')::σ) a w g nx:=by
 have hback:∀ j o1,get ((.o id,.ob o')::σ) (.o j) = .ob o1→∃ o0,get σ (.o j) = .ob o0∧ObLe g g j o0 o1:=by
  intro j o1 hj
  by_cases he:id=j
  ·
   subst he
   rw[get_cons_same]at hj
   cases hj
   exact⟨_,ho,hle⟩
  ·
   rw[get_cons_ne (by simpa using he)]at hj
   exact⟨o1,hj,by cases o1 <;> simp[ObLe]⟩
 have hl:Later cx g g σ ((.o id,.ob o')::σ) w w nx:=by
  refine⟨Ext.refl _ _,Below.refl _ _,fun b hb=>?_,fun j o1 _ h=>hback j o1 h⟩
  rcases hb with hb|⟨j,o1,h1,h2⟩
  ·
   exact .inl (.inl hb)
  ·
   obtain⟨o0,h3,_⟩:=hback j o1 h1
   exact .inl (.inr ⟨j,o0,h3,h2⟩)
 refine hs.next hl ((get_cons_ne (by simp)).trans hs.hnx) (Nat.le_refl _) hs.size hs.defers (Below.refl _ _) (fun i av hi => .inl ⟨(get_cons_ne (by simp)).symm.trans hi,rfl⟩) (fun j o1 hj=>?_) (fun j j' o1 o2 b h1 h2=>?_)
 ·
  by_cases he:id=j
  ·
   subst he
   rw[get_cons_same]at hj
   cases hj
   exact .inr ⟨(hs.objs id _ ho).1,hr.step hl rfl (fun _ _=>rfl) hb,hb⟩
  ·
   rw[get_cons_ne (by simpa using he)]at hj
   exact .inl ⟨hj,rfl,fun _ _=>rfl⟩
 ·
  obtain⟨o3,h3,_⟩:=hback j o1 h1
  obtain⟨o4,h4,_⟩:=hback j' o2 h2
  exact hs.sep j j' o3 o4 b h3 h4
theorem CW.pin (i id n e k:Nat) (rows:List (List D)) (hi:get σ (.s i) = .av (.own id n)) (ho:get σ (.o id) = .ob (.arr e k rows)) (hn:n=rows.length)
  (h:∀ x,CW cx c Q ((.s i,.av (.d (.v x)))::(.o id,.ob (.pin e k rows x))::σ)):CW cx c Q σ:=by
 rintro a w ⟨g,nx,hs⟩
 have hv:a.tmps.getD i undef=g id:=((hs.slots i _ hi).1.2 e k rows ho).2 hn
 have hG:=hs.reob ho (o' := .pin e k rows (g id)) trivial ⟨rfl,(hs.objs id _ ho).2.1⟩ trivial
 refine h (g id) a w (Sim.retell hG (av := .d (.v (g id))) ?_ trivial)
 rw[hv];exact Rd.v _
theorem sim_unpin (i id e k nx0:Nat) (rows:List (List D)) (x:Value) (hi:get σ (.s i) = .av (.d (.v x))) (ho:get σ (.o id) = .ob (.pin e k rows x)) (hnx:get σ .nx = .num nx0)
  (hsim:Sim cx σ a w):Sim cx ((.s i,.av (.own nx0 rows.length))::(.o nx0,.ob (.arr e k rows))::(.nx,.num (nx0+1))::(.o id,.none)::σ) a w:=by
 obtain⟨g,nx,hs⟩:=hsim
 obtain rfl:nx=nx0:=by have:=hs.hnx;rw[hnx]at this;simpa using this.symm
 obtain⟨hlt,⟨hgx,hrows⟩,_⟩:=hs.objs id _ ho
 have hrows':RowsAt w cx.w0.heap.size (cx.own g σ) e k (g id) rows:=hrows
 have hv:a.tmps.getD i undef=x:=rd_v (hs.slots i _ hi).1
 -- the old name goes,a new one comes
 have hne:id≠nx:=by omega
 have hback:∀ j o1,j≠nx→get ((.o nx,.ob (.arr e k rows))::(.nx,.num (nx+1))::(.o id,.none)::σ) (.o j) = .ob o1→j≠id∧get σ (.o j) = .ob o1:=by
  intro j o1 hj h1
  rw[get_cons_ne (by simpa using fun e=>hj e.symm),get_cons_ne (by simp)]at h1
  by_cases he:id=j
  ·
   subst he;rw[get_cons_same]at h1;cases h1
  ·
   rw[get_cons_ne (by simpa using he)]at h1
   exact⟨fun e=>he e.symm,h1⟩
 have hown:∀ b,cx.own (upd g nx x) ((.o nx,.ob (.arr e k rows))::(.nx,.num (nx+1))::(.o id,.none)::σ) b→cx.own g σ b:=by
  rintro b (hb|⟨j,o1,h1,h2⟩)
  ·
   exact .inl hb
  ·
   by_cases hj:j=nx
   ·
    subst hj
    rw[upd_same,← hgx]at h2
    exact .inr ⟨id,_,ho,h2⟩
   ·
    rw[upd_ne hj]at h2
    exact .inr ⟨j,o1,(hback j o1 hj h1).2,h2⟩
 have hl:Later cx g (upd g nx x) σ ((.o nx,.ob (.arr e k rows))::(.nx,.num (nx+1))::(.o id,.none)::σ) w w nx:=by
  refine⟨Ext.refl _ _,Below.refl _ _,fun b hb => .inl (hown b hb),fun j o1 hj h1=>?_⟩
  have hjn:j≠nx:=by omega
  refine⟨o1,(hback j o1 hjn h1).2,?_⟩
  cases o1 <;> simp[ObLe,upd_ne hjn]
 have hG:SimG cx ((.o nx,.ob (.arr e k rows))::(.nx,.num (nx+1))::(.o id,.none)::σ) a w (upd g nx x) (nx+1):=by
  refine hs.next hl (by rw[get_cons_ne (by simp),get_cons_same]) (Nat.le_succ _) hs.size hs.defers (Below.refl _ _) (fun j av hj => .inl ⟨?_,rfl⟩) (fun j o1 hj=>?_) (fun j j' o1 o2 b h1 h2 h3 h4=>?_)
  ·
   rw[get_cons_ne (by simp),get_cons_ne (by simp),get_cons_ne (by simp)]at hj;exact hj
  ·
   by_cases hjn:j=nx
   ·
    subst hjn
    rw[get_cons_same]at hj
    cases hj
    refine .inr ⟨Nat.lt_succ_self _,?_,trivial⟩
    show RowsAt w cx.w0.heap.size _ e k (upd g j x j) rows
    rw[upd_same,← hgx]
    exact hrows'.re (fun b hb=>(hrows'.lt hb).1) (by rw[hgx];exact hown)
   ·
    exact .inl ⟨(hback j o1 hjn hj).2,upd_ne hjn,fun _ _=>rfl⟩
  ·
   have key:∀ j o1,get ((.o nx,.ob (.arr e k rows))::(.nx,.num (nx+1))::(.o id,.none)::σ) (.o j) = .ob o1→blk (upd g nx x j)=some b→∃ j0 o0,get σ (.o j0) = .ob o0∧blk (g j0)=some b∧((j=nx∧j0=id)∨(j≠nx∧j0≠id∧j0=j)):=by
    intro j o1 h1 h3
    by_cases hjn:j=nx
    ·
     subst hjn
     rw[upd_same,← hgx]at h3
     exact⟨id,_,ho,h3,.inl ⟨rfl,rfl⟩⟩
    ·
     rw[upd_ne hjn]at h3
     obtain⟨h5,h6⟩:=hback j o1 hjn h1
     exact⟨j,o1,h6,h3,.inr ⟨hjn,h5,rfl⟩⟩
   obtain⟨p,po,q1,q2,q3⟩:=key j o1 h1 h3
   obtain⟨p',po',r1,r2,r3⟩:=key j' o2 h2 h4
   have:=hs.sep p p' po po' b q1 r1 q2 r2
   rcases q3 with ⟨e1,e2⟩|⟨e1,e2,e3⟩ <;> rcases r3 with ⟨f1,f2⟩|⟨f1,f2,f3⟩ <;> omega
 refine Sim.retell hG (av := .own nx rows.length) ?_ (Nat.lt_succ_self _)
 refine⟨.of get_cons_same,fun e' k' rows' hg=>?_⟩
 rw[get_cons_same]at hg
 cases hg
 exact⟨Nat.le_refl _,fun _=>by rw[upd_same];exact hv⟩
def SW (cx:Cx) (ops:Array Oper) (Q:Exit→St→Prop) (l:List Oper) (σ:St):Prop :=
 ∀ a w,Sim cx σ a w→wpList cx.P ops (fun e a' w'=>∃ σ',Sim cx σ' a' w'∧Q e σ') l a w
theorem CW.regionS {id:Nat}{l:List Oper}(h:SW cx l.toArray Q l σ):CW cx (.region id l.toArray false) Q σ:=fun a w hs=>wp_region_lit (h a w hs)
variable {ops:Array Oper}{rest:List Oper}{o:Oper}
theorem SW.rw(h:RW cx ops (fun _ σ'=>Q .normal σ') [] rest σ):SW cx ops Q rest σ:=by
 obtain⟨ts,σ',h1,h2⟩:=h
 exact fun a w hs=>wpList_of_steps h1 hs fun a' w' hs'=>⟨σ',hs',h2⟩
theorem SW.step {t:Tr}(hg:o.guard=none) (ho:OA cx σ o t) (h:SW cx ops Q rest (t.wr++σ)):SW cx ops Q (o::rest) σ:=fun a w hs =>
 wpList_plain hg fun K hK=>ho.1 σ a w K _ hs ho.2 fun a' w' hs'=>hK a' w' (h a' w' hs')
theorem SW.fam {ι:Type}{σs:ι→St}(hg:o.guard=none)
  (ho:∀ (a:Act) (w:World) (K:Act→World→Prop) (Q:Exit→Act→World→Prop),Sim cx σ a w→(∀ i a' w',Sim cx (σs i) a' w'→K a' w')→o.wp cx.P a w K Q)
  (h:∀ i,SW cx ops Q rest (σs i)):SW cx ops Q (o::rest) σ:=fun a w hs =>
 wpList_plain hg fun K hK=>ho a w K _ hs fun i a' w' hs'=>hK a' w' (h i a' w' hs')
inductive View (σ:St) (id e k:Nat) (rows:List (List D)):D→List (Key×Val)→Prop
 |plain (h:get σ (.o id) = .ob (.arr e k rows)):View σ id e k rows (.sl k rows) [(.o id,.ob (.arr e k rows))]
 |pin {i j id2 e2 k2:Nat} {r:List D} {x:Value} {rows2:List (List D)} (h:get σ (.o id) = .ob (.arr e k rows)) (hi:rows[i]? = some r) (hj:r[j]? = some (.v x))
   (h2:get σ (.o id2) = .ob (.pin e2 k2 rows2 x)):View σ id e k rows (.sl k (rows.set i (r.set j (.sl k2 rows2)))) [(.o id,.ob (.arr e k rows)),(.o id2,.ob (.pin e2 k2 rows2 x))]
def plainR:Res→Bool
 |.one (.v _)=>true
 |.tup l=>l.all fun x=>match x with
  |.v _=>true
  |_=>false
 |_=>false
theorem rd_plain {own own':Nat→Prop}{v x:Value}(h:Rd w own v (.v x)):Rd w own' v (.v x):=by
 rw[rd_v h];exact Rd.v _
theorem plainR_ok {r:Res}(h:plainR r=true) {own own':Nat→Prop}{v:Value}(hr:ResOk w own v r):ResOk w own' v r:=by
 cases r with
 |one x =>
  cases x with
  |v x=>exact rd_plain hr
  |x p=>cases h
  |sl k rows=>cases h
  |agg c=>cases h
 |tup xs =>
  obtain⟨vs,rfl,h1,h2⟩:=hr
  refine⟨vs,rfl,h1,fun j c x hx hc=>?_⟩
  have h3:=List.all_eq_true.1 h x (List.mem_of_getElem? hx)
  cases x with
  |v x=>exact rd_plain (h2 j c _ hx hc)
  |x p=>cases h3
  |sl k rows=>cases h3
  |agg c=>cases h3
theorem ArgsOk.less {own own':Nat→Prop}(ho:∀ b,own' b→own b):∀ {vs:List Value}{xs:List Arg},ArgsOk w own vs xs→ArgsOk w own' vs xs
 | [],[],_=>trivial
 |v::vs,x::xs,h=>by
  refine⟨?_,ArgsOk.less ho h.2⟩
  cases x with
  |d y=>exact Rd.less ho h.1
  |pd cells =>
   obtain⟨ad,h1,h2,h3⟩:=h.1
   exact⟨ad,h1,h2,fun j z hz=>by obtain⟨u,h4,h5,h6⟩:=h3 j z hz;exact⟨u,h4,h5,h6.less ho⟩⟩
theorem a_lend {f:FuncId}{x:Operand}{xs:List Operand}{avs:List AV}{ys:List Arg}{l lv:List (Key×Val)}{r:Res}{ats:Array TypeId}{id n e k:Nat}{rows:List (List D)}{dd:D}
  (hc:FnOk cx.P f (.d dd::ys) r) (hx:ev σ x=some (.own id n)) (hv:View σ id e k rows dd lv) (hn:n=rows.length) (hp:plainR r=true) (hd:Nat.blt d cx.n=true) (hsub:SubsE σ xs avs ys l) :
  OA cx σ ⟨some d,.call { callee := .value (.func f),args:=⟨x::xs⟩,argTypes:=ats },ty,pos,af,gd⟩ ⟨rdOf x (.own id n)++(l++lv),[(.s d,.av r.av)]⟩:=by
 refine⟨?_,(ev_out hx).2.append (hsub.out.2.append ?_)⟩
 ·
  rintro σ1 a w K Q ⟨g,nx,hs⟩ hr hK
  have hxv:=hs.ev (ev_out hx).1 hr.left
  have hargs:=hsub.out.1.ok hs hr.right.left
  have hlv:=hr.right.right
  -- the first argument,read by whoever keeps all but that
  have key:∃ own':Nat→Prop,(∀ b,own' b→cx.own g σ1 b)∧Rd w own' (a.eval x) dd:=by
   cases hv with
   |plain h =>
    have ho:get σ1 (.o id) = .ob (.arr e k rows):=hlv.1
    have hval:a.eval x=g id:=(hxv.1.2 e k rows ho).2 hn
    refine⟨fun b=>cx.own g σ1 b∧blk (g id)≠some b,fun b hb=>hb.1,?_⟩
    rw[hval]
    exact(objRows hs ho).rd fun b hb=>hb
   |@pin i j id2 e2 k2 r x0 rows2 h hi hj h2 =>
    have ho:get σ1 (.o id) = .ob (.arr e k rows):=hlv.1
    have ho2:get σ1 (.o id2) = .ob (.pin e2 k2 rows2 x0):=hlv.2.1
    have hval:a.eval x=g id:=(hxv.1.2 e k rows ho).2 hn
    obtain⟨_,⟨hgx,hp2⟩,_⟩:=hs.objs id2 _ ho2
    have hp2':RowsAt w cx.w0.heap.size (cx.own g σ1) e2 k2 (g id2) rows2:=hp2
    rw[hgx]at hp2'
    refine⟨fun b=>(cx.own g σ1 b∧blk x0≠some b)∧blk (g id)≠some b,fun b hb=>hb.1.1,?_⟩
    rw[hval]
    have h3:RowsAt w cx.w0.heap.size (fun b=>cx.own g σ1 b∧blk x0≠some b) e k (g id) rows:=(objRows hs ho).re (fun b hb=>((objRows hs ho).lt hb).1) fun b hb=>hb.1
    exact(h3.at hi hj (hp2'.rd fun b hb=>hb)).rd fun b hb=>hb
  obtain⟨own',hsub',hrd⟩:=key
  have hcall:=hc.calls w own' (a.eval x::xs.map a.eval) ⟨fun b hb=>own_lt hs (hsub' b hb),hs.gl⟩ ⟨hrd,hargs.less hsub'⟩
  unfold Oper.wp
  rw[call_run hc.run]
  refine hcall.mono fun z w' he=>?_
  obtain⟨v,rfl,hb,hres⟩:=he
  obtain⟨h1,h2⟩:=Res.rep (nx:=nx) (plainR_ok hp (own':=cx.own g σ1) hres)
  exact hK _ _ (Sim.put hs (lt_of_blt hd) hb h1 h2)
 ·
  cases hv with
  |plain h=>exact⟨h,trivial⟩
  |pin h hi hj h2=>exact⟨h,h2,trivial⟩
end Go.AX
namespace Go.AX
open Go.RowKit
variable {cx:Cx}{g:Nat→Value}{σ σ':St}{a:Act}{w w':World}{nx:Nat}{c:Code}{Q:Exit→St→Prop}
variable {ty:TypeId}{pos:String}{af:Array Edge}{gd:Option (Nat×Bool)}{d:Nat}
structure FnOwn2 (P:Program) (f:FuncId) (args:List Arg) (e k:Nat) (rowsF:Value→List (List D)) (e2 k2:Nat) (rows2:List (List D)):Prop where
 run : ∃ fn, P.funcs[f]? = some fn ∧ (fn.name == "runtime.NumGoroutine") = false ∧ fn.body.isNone = false
 calls:∀ (w:World) (own:Nat→Prop) (vs:List Value),((∀ b,own b→b < w.heap.size)∧Gl P w)→ArgsOk w own vs args →
  Calls P f vs.toArray w fun r w'=>∃ v x,r = .returned v∧Below w.heap.size w w'∧RowsAt w' w.heap.size (with1 (with1 own v) x) e k v (rowsF x) ∧
   RowsAt w' w.heap.size (with1 (with1 own v) x) e2 k2 x rows2∧∀ b,blk v=some b→blk x≠some b
def own2Q (t e k:Nat) (rowsF:Value→List (List D)) (e2 k2:Nat) (rows2:List (List D)):Exit→St→Prop
 |.normal,σ=>∃ id n id2 x,get σ (.s t) = .av (.own id n)∧get σ (.o id) = .ob (.arr e k (rowsF x))∧n=(rowsF x).length∧get σ (.o id2) = .ob (.pin e2 k2 rows2 x)
 |.ret,σ=>∃ id n id2 x,get σ (.s t) = .av (.own id n)∧get σ (.o id) = .ob (.arr e k (rowsF x))∧n=(rowsF x).length∧get σ (.o id2) = .ob (.pin e2 k2 rows2 x)
 |_,_=>False
theorem fnOwn2_of {P:Program}{T:Tbl}(hT:TOk P T) (hm:P.follows .mixedOrders=true) {f:FuncId}{fn:Func}{c:Code}{t e k e2 k2:Nat}{args:List Arg}{rowsF:Value→List (List D)}{rows2:List (List D)}
  (hf : P.funcs[f]? = some fn) (hb : fn.body = some c) (hname : (fn.name == "runtime.NumGoroutine") = false) (hr : fn.results = #[.tmp t]) (hn : Nat.ble args.length fn.ntmps = true)
  (h:∀ w0 own0,CW ⟨P,T,hT,hm,fn.ntmps,w0,own0,0,[]⟩ c (own2Q t e k rowsF e2 k2 rows2) (argSt 0 args)):FnOwn2 P f args e k rowsF e2 k2 rows2:=by
 refine⟨⟨fn,hf,hname,by rw[hb];rfl⟩,fun w own vs hown ha=>?_⟩
 have hsim:=entry_sim (P:=P) (T:=T) (hT:=hT) (hm:=hm) (n:=fn.ntmps) hown ha (by simpa using hn)
 refine calls_of_wp hf hb (wp_mono (h w own _ _ hsim) fun z a' w' he=>?_)
 obtain⟨σ',⟨g,nx,hg⟩,hq⟩:=he
 have fin:∀ hq:∃ id n id2 x,get σ' (.s t) = .av (.own id n)∧get σ' (.o id) = .ob (.arr e k (rowsF x))∧n=(rowsF x).length∧get σ' (.o id2) = .ob (.pin e2 k2 rows2 x),
   a'.defers=[]∧∃ v,(results fn a'.tmps).run P w' = .ok v w'∧∃ v' x,Ending.returned v = .returned v'∧Below w.heap.size w w'∧RowsAt w' w.heap.size (with1 (with1 own v') x) e k v' (rowsF x) ∧
    RowsAt w' w.heap.size (with1 (with1 own v') x) e2 k2 x rows2∧∀ b,blk v'=some b→blk x≠some b:=by
  rintro ⟨id,n,id2,x,h1,h2,h3,h4⟩
  have hv:a'.tmps.getD t undef=g id:=((hg.slots t _ h1).1.2 e k _ h2).2 h3
  obtain⟨_,⟨hgx,hp⟩,_⟩:=hg.objs id2 _ h4
  have hp':RowsAt w' w.heap.size (Cx.own ⟨P,T,hT,hm,fn.ntmps,w,own,0,[]⟩ g σ') e2 k2 (g id2) rows2:=hp
  have hin:∀ b,with1 (with1 own (g id)) x b→Cx.own ⟨P,T,hT,hm,fn.ntmps,w,own,0,[]⟩ g σ' b:=by
   rintro b ((hb|hb)|hb)
   ·
    exact .inl hb
   ·
    exact .inr ⟨id,_,h2,hb⟩
   ·
    exact .inr ⟨id2,_,h4,by rw[hgx];exact hb⟩
  have hR1:=objRows hg h2
  refine⟨hg.defers,g id,by rw[results_one hr,← hv];simp[rvRun],g id,x,rfl,hg.below,hR1.re (fun b hb=>(hR1.lt hb).1) hin,?_,fun b hb hb2=>?_⟩
  ·
   rw[hgx]at hp'
   exact hp'.re (fun b hb=>(hp'.lt hb).1) hin
  ·
   have:=hg.sep id id2 _ _ b h2 h4 hb (by rw[hgx];exact hb2)
   subst this
   rw[h2]at h4;cases h4
 cases z with
 |normal=>exact fin hq
 |ret=>exact fin hq
 |exit j=>exact hq.elim
 |goto j=>exact hq.elim
 |panic c=>exact hq.elim
 |outgrown=>exact hq.elim
theorem SimG.join2 (hs:SimG cx σ a w g nx) (hb:Below w.heap.size w w') {v x:Value}{e k e2 k2:Nat}{rows rows2:List (List D)}(h1:RowsAt w' w.heap.size (with1 (with1 (cx.own g σ) v) x) e k v rows)
  (h2:RowsAt w' w.heap.size (with1 (with1 (cx.own g σ) v) x) e2 k2 x rows2) (hd:∀ b,blk v=some b→blk x≠some b) :
  SimG cx ((.o nx,.ob (.arr e k rows))::(.o (nx+1),.ob (.pin e2 k2 rows2 x))::(.nx,.num (nx+2))::σ) a w' (upd (upd g nx v) (nx+1) x) (nx+2):=by
 have hge:=hs.below.size
 have hg1:upd (upd g nx v) (nx+1) x nx=v:=by rw[upd_ne (by omega),upd_same]
 have hg2:upd (upd g nx v) (nx+1) x (nx+1)=x:=upd_same _ _ _
 have hg0:∀ j,j < nx→upd (upd g nx v) (nx+1) x j=g j:=fun j hj=>by rw[upd_ne (by omega),upd_ne (by omega)]
 have hback:∀ j o,get ((.o nx,.ob (.arr e k rows))::(.o (nx+1),.ob (.pin e2 k2 rows2 x))::(.nx,.num (nx+2))::σ) (.o j) = .ob o →
   (j=nx∧o = .arr e k rows)∨(j=nx+1∧o = .pin e2 k2 rows2 x)∨(j < nx∧get σ (.o j) = .ob o):=by
  intro j o hj
  by_cases hj1:j=nx
  ·
   subst hj1;rw[get_cons_same]at hj;cases hj;exact .inl ⟨rfl,rfl⟩
  ·
   rw[get_cons_ne (by simpa using fun e=>hj1 e.symm)]at hj
   by_cases hj2:j=nx+1
   ·
    subst hj2;rw[get_cons_same]at hj;cases hj;exact .inr (.inl ⟨rfl,rfl⟩)
   ·
    rw[get_cons_ne (by simpa using fun e=>hj2 e.symm),get_cons_ne (by simp)]at hj
    exact .inr (.inr ⟨(hs.objs j o hj).1,hj⟩)
 have hown:∀ b,cx.own (upd (upd g nx v) (nx+1) x) ((.o nx,.ob (.arr e k rows))::(.o (nx+1),.ob (.pin e2 k2 rows2 x))::(.nx,.num (nx+2))::σ) b→with1 (with1 (cx.own g σ) v) x b:=by
  rintro b (h|⟨j,o,h3,h4⟩)
  ·
   exact .inl (.inl (.inl h))
  ·
   rcases hback j o h3 with ⟨rfl,rfl⟩|⟨rfl,rfl⟩|⟨hj,h5⟩
   ·
    rw[hg1]at h4;exact .inl (.inr h4)
   ·
    rw[hg2]at h4;exact .inr h4
   ·
    rw[hg0 j hj]at h4;exact .inl (.inl (.inr ⟨j,o,h5,h4⟩))
 have hl:Later cx g (upd (upd g nx v) (nx+1) x) σ ((.o nx,.ob (.arr e k rows))::(.o (nx+1),.ob (.pin e2 k2 rows2 x))::(.nx,.num (nx+2))::σ) w w' nx:=by
  refine⟨Ext.of_below hb,hb.mono hge,fun b hbb=>?_,fun j o hj h3=>?_⟩
  ·
   rcases hown b hbb with (h|h)|h
   ·
    exact .inl h
   ·
    exact .inr (h1.lt h).1
   ·
    exact .inr (h2.lt h).1
  ·
   rcases hback j o h3 with ⟨rfl,_⟩|⟨rfl,_⟩|⟨hj',h5⟩
   ·
    omega
   ·
    omega
   ·
    exact⟨o,h5,by cases o <;> simp[ObLe,hg0 j hj']⟩
 refine hs.next hl (by rw[get_cons_ne (by simp),get_cons_ne (by simp),get_cons_same]) (by omega) hs.size hs.defers (hb.mono hge) (fun j av hj => .inl ⟨?_,rfl⟩) (fun j o hj=>?_) (fun j j' o o' b h3 h4 h5 h6=>?_)
 ·
  rw[get_cons_ne (by simp),get_cons_ne (by simp),get_cons_ne (by simp)]at hj;exact hj
 ·
  rcases hback j o hj with ⟨rfl,rfl⟩|⟨rfl,rfl⟩|⟨hj',h5⟩
  ·
   refine .inr ⟨by omega,?_,trivial⟩
   show RowsAt w' cx.w0.heap.size _ e k _ rows
   rw[hg1]
   exact h1.re (fun b hb'=>by have:=(h1.lt hb').1;omega) hown
  ·
   refine .inr ⟨by omega,⟨hg2,?_⟩,trivial⟩
   show RowsAt w' cx.w0.heap.size _ e2 k2 _ rows2
   rw[hg2]
   exact h2.re (fun b hb'=>by have:=(h2.lt hb').1;omega) hown
  ·
   exact .inl ⟨h5,hg0 j hj',fun b hb'=>hb.block b (own_lt hs (.inr ⟨j,o,h5,hb'⟩))⟩
 ·
  have place:∀ j o,get ((.o nx,.ob (.arr e k rows))::(.o (nx+1),.ob (.pin e2 k2 rows2 x))::(.nx,.num (nx+2))::σ) (.o j) = .ob o→blk (upd (upd g nx v) (nx+1) x j)=some b →
    (j=nx∧blk v=some b∧w.heap.size≤b)∨(j=nx+1∧blk x=some b∧w.heap.size≤b)∨(j < nx∧get σ (.o j) = .ob o∧blk (g j)=some b∧b < w.heap.size):=by
   intro j o hj hbj
   rcases hback j o hj with ⟨rfl,rfl⟩|⟨rfl,rfl⟩|⟨hj',h7⟩
   ·
    rw[hg1]at hbj;exact .inl ⟨rfl,hbj,(h1.lt hbj).1⟩
   ·
    rw[hg2]at hbj;exact .inr (.inl ⟨rfl,hbj,(h2.lt hbj).1⟩)
   ·
    rw[hg0 j hj']at hbj;exact .inr (.inr ⟨hj',h7,hbj,own_lt hs (.inr ⟨j,o,h7,hbj⟩)⟩)
  rcases place j o h3 h5 with ⟨p1,p2,p3⟩|⟨p1,p2,p3⟩|⟨p1,p2,p3,p4⟩ <;> rcases place j' o' h4 h6 with ⟨q1,q2,q3⟩|⟨q1,q2,q3⟩|⟨q1,q2,q3,q4⟩
  ·
   omega
  ·
   exact(hd b p2 q2).elim
  ·
   omega
  ·
   exact(hd b q2 p2).elim
  ·
   omega
  ·
   omega
  ·
   omega
  ·
   omega
  ·
   exact hs.sep j j' o o' b p2 q2 p3 q3
theorem fam_own2 {f:FuncId}{xs:List Operand}{avs:List AV}{ys:List Arg}{l:List (Key×Val)}{e k e2 k2:Nat}{rowsF:Value→List (List D)}{rows2:List (List D)}{ats:Array TypeId}
  (hc:FnOwn2 cx.P f ys e k rowsF e2 k2 rows2) (hnx:get σ .nx = .num nx) (hd:Nat.blt d cx.n=true) (hsub:SubsE σ xs avs ys l)
  (a:Act) (w:World) (K:Act→World→Prop) (Q:Exit→Act→World→Prop) (hs:Sim cx σ a w)
  (hK:∀ (x:Value) a' w',Sim cx ((.s d,.av (.own nx (rowsF x).length))::(.o nx,.ob (.arr e k (rowsF x)))::(.o (nx+1),.ob (.pin e2 k2 rows2 x))::(.nx,.num (nx+2))::σ) a' w'→K a' w') :
  Oper.wp cx.P ⟨some d,.call { callee := .value (.func f),args:=⟨xs⟩,argTypes:=ats },ty,pos,af,gd⟩ a w K Q:=by
 obtain⟨g,n',hs⟩:=hs
 obtain rfl:n'=nx:=by have:=hs.hnx;rw[hnx]at this;simpa using this.symm
 have hcall:=hc.calls w (cx.own g σ) (xs.map a.eval) ⟨fun b hb=>own_lt hs hb,hs.gl⟩ (hsub.out.1.ok hs hsub.out.2)
 unfold Oper.wp
 rw[call_run hc.run]
 refine hcall.mono fun r w' he=>?_
 obtain⟨v,x,rfl,hb,h1,h2,h3⟩:=he
 have hG:=SimG.join2 hs hb h1 h2 h3
 refine hK x _ _ (Sim.put hG (lt_of_blt hd) (Below.refl _ _) ?_ (show n' < n'+2 by omega))
 refine⟨.of get_cons_same,fun e' k' rows' hg=>?_⟩
 rw[get_cons_same]at hg
 cases hg
 exact⟨Nat.le_refl _,fun _=>by rw[upd_ne (by omega),upd_same]⟩
structure BelowBut (v:Value) (w w':World):Prop where
 os:w'.os=w.os
 tape:w'.tape=w.tape
 output:w'.output=w.output
 size:w.heap.size≤w'.heap.size
 block:∀ b,b < w.heap.size→blk v≠some b→w'.heap[b]? = w.heap[b]?
structure FnUpd (P:Program) (f:FuncId) (e k:Nat) (rows:List (List D)) (args:List Arg) (rows':List (List D)):Prop where
 run : ∃ fn, P.funcs[f]? = some fn ∧ (fn.name == "runtime.NumGoroutine") = false ∧ fn.body.isNone = false
 calls:∀ (w:World) (own:Nat→Prop) (v:Value) (vs:List Value),((∀ b,own b→b < w.heap.size)∧Gl P w)→RowsAt w 0 (with1 own v) e k v rows→(∀ b,own b→blk v≠some b)→ArgsOk w (with1 own v) vs args →
  Calls P f (v::vs).toArray w fun r w'=>∃ v',r = .returned v'∧BelowBut v w w'∧(∀ b,blk v'=some b→blk v=some b∨w.heap.size≤b)∧RowsAt w' 0 (with1 own v') e k v' rows'
theorem ok_upd {f:FuncId}{x:Operand}{xs:List Operand}{avs:List AV}{ys:List Arg}{l:List (Key×Val)}{e k id n:Nat}{rows rows':List (List D)}{ats:Array TypeId}
  (hd:d < cx.n) (hc:FnUpd cx.P f e k rows ys rows') (hx:EvS x (.own id n)) (hn:n=rows.length) (hsub:Subs xs avs ys l) :
  OpOk cx ⟨some d,.call { callee := .value (.func f),args:=⟨x::xs⟩,argTypes:=ats },ty,pos,af,gd⟩ ⟨rdOf x (.own id n)++(l++[(.o id,.ob (.arr e k rows)),(.nx,.num nx)]),[(.s d,.av (.own nx rows'.length)),(.o nx,.ob (.arr e k rows')),(.nx,.num (nx+1)),(.o id,.none)]⟩:=by
 rintro σ a w K Q ⟨g,n',hs⟩ hr hK
 have hnx:n'=nx:=by
  have h2:=hr.right.right.2.1
  rw[hs.hnx]at h2
  simpa using h2
 subst hnx
 have ho:get σ (.o id) = .ob (.arr e k rows):=hr.right.right.1
 have hidlt:=(hs.objs id _ ho).1
 have hval:a.eval x=g id:=((hs.ev hx hr.left).1.2 e k rows ho).2 hn
 have hR:=objRows hs ho
 -- what is kept,but for that slice
 have hown1:∀ b,cx.own g ((.o id,.none)::σ) b→cx.own g σ b∧blk (g id)≠some b:=by
  rintro b (h|⟨j,o,h1,h2⟩)
  ·
   refine⟨.inl h,fun hb=>?_⟩
   have h3:=obj_ge hs ho hb
   have h4:=hs.own0.1 b h
   omega
  ·
   by_cases hj:id=j
   ·
    subst hj;rw[get_cons_same]at h1;cases h1
   ·
    rw[get_cons_ne (by simpa using hj)]at h1
    exact⟨.inr ⟨j,o,h1,h2⟩,fun hb=>hj (hs.sep id j _ o b ho h1 hb h2)⟩
 have hw1:∀ b,with1 (cx.own g ((.o id,.none)::σ)) (g id) b→cx.own g σ b:=by
  rintro b (h|h)
  ·
   exact(hown1 b h).1
  ·
   exact .inr ⟨id,_,ho,h⟩
 have hcall:=hc.calls w (cx.own g ((.o id,.none)::σ)) (g id) (xs.map a.eval) ⟨fun b hb=>own_lt hs (hown1 b hb).1,hs.gl⟩ (hR.re (fun b _=>Nat.zero_le _) hw1) (fun b hb=>(hown1 b hb).2) ((hsub.ok hs hr.right.left).less hw1)
 unfold Oper.wp
 rw[call_run hc.run,List.map_cons,hval]
 refine hcall.mono fun r w' he=>?_
 obtain⟨v',rfl,hbb,hpl,hR'⟩:=he
 have hge:=hs.below.size
 have hbel:Below cx.w0.heap.size w w':=⟨hbb.os,hbb.tape,hbb.output,hbb.size,fun b hb=>hbb.block b (by omega) fun he=>by have:=obj_ge hs ho he;omega⟩
 have hext:Ext (cx.own g σ) w w':=⟨hbb.size,fun b hb hn=>hbb.block b hb fun he=>hn (.inr ⟨id,_,ho,he⟩)⟩
 have hback:∀ j o,j≠n'→get ((.o n',.ob (.arr e k rows'))::(.nx,.num (n'+1))::(.o id,.none)::σ) (.o j) = .ob o→j≠id∧get σ (.o j) = .ob o:=by
  intro j o1 hj h1
  rw[get_cons_ne (by simpa using fun e=>hj e.symm),get_cons_ne (by simp)]at h1
  by_cases he:id=j
  ·
   subst he;rw[get_cons_same]at h1;cases h1
  ·
   rw[get_cons_ne (by simpa using he)]at h1
   exact⟨fun e=>he e.symm,h1⟩
 have hownin:∀ b,cx.own (upd g n' v') ((.o n',.ob (.arr e k rows'))::(.nx,.num (n'+1))::(.o id,.none)::σ) b→with1 (cx.own g ((.o id,.none)::σ)) v' b:=by
  rintro b (h|⟨j,o,h1,h2⟩)
  ·
   exact .inl (.inl h)
  ·
   by_cases hj:j=n'
   ·
    subst hj;rw[upd_same]at h2;exact .inr h2
   ·
    rw[upd_ne hj]at h2
    obtain⟨h3,h4⟩:=hback j o hj h1
    exact .inl (.inr ⟨j,o,(get_cons_ne (by simpa using fun e=>h3 e.symm)).trans h4,h2⟩)
 have hl:Later cx g (upd g n' v') σ ((.o n',.ob (.arr e k rows'))::(.nx,.num (n'+1))::(.o id,.none)::σ) w w' n':=by
  refine⟨hext,hbel,fun b hb=>?_,fun j o1 hj h1=>?_⟩
  ·
   rcases hownin b hb with h|h
   ·
    exact .inl (hown1 b h).1
   ·
    rcases hpl b h with h|h
    ·
     exact .inl (.inr ⟨id,_,ho,h⟩)
    ·
     exact .inr h
  ·
   have hjn:j≠n':=by omega
   refine⟨o1,(hback j o1 hjn h1).2,?_⟩
   cases o1 <;> simp[ObLe,upd_ne hjn]
 have hG:SimG cx ((.o n',.ob (.arr e k rows'))::(.nx,.num (n'+1))::(.o id,.none)::σ) a w' (upd g n' v') (n'+1):=by
  refine hs.next hl (by rw[get_cons_ne (by simp),get_cons_same]) (Nat.le_succ _) hs.size hs.defers hbel (fun j av hj => .inl ⟨?_,rfl⟩) (fun j o1 hj=>?_) (fun j j' o1 o2 b h1 h2 h3 h4=>?_)
  ·
   rw[get_cons_ne (by simp),get_cons_ne (by simp),get_cons_ne (by simp)]at hj;exact hj
  ·
   by_cases hjn:j=n'
   ·
    subst hjn
    rw[get_cons_same]at hj
    cases hj
    refine .inr ⟨Nat.lt_succ_self _,?_,trivial⟩
    show RowsAt w' cx.w0.heap.size _ e k (upd g j v' j) rows'
    rw[upd_same]
    refine hR'.re (fun b hb=>?_) hownin
    rcases hpl b hb with h|h
    ·
     exact(hR.lt h).1
    ·
     omega
   ·
    obtain⟨h5,h6⟩:=hback j o1 hjn hj
    exact .inl ⟨h6,upd_ne hjn,fun b hb=>hbb.block b (own_lt hs (.inr ⟨j,o1,h6,hb⟩)) fun he=>h5 (hs.sep j id o1 _ b h6 ho hb he)⟩
  ·
   have hone:∀ j o1,j≠n'→get ((.o n',.ob (.arr e k rows'))::(.nx,.num (n'+1))::(.o id,.none)::σ) (.o j) = .ob o1→blk (upd g n' v' j)=some b→blk v'=some b→False:=by
    intro j o1 hj hj1 hjb hvb
    rw[upd_ne hj]at hjb
    obtain⟨h5,h6⟩:=hback j o1 hj hj1
    rcases hpl b hvb with h|h
    ·
     exact h5 (hs.sep j id o1 _ b h6 ho hjb h)
    ·
     have:=own_lt hs (.inr ⟨j,o1,h6,hjb⟩);omega
   by_cases he:j=n'
   ·
    by_cases he':j'=n'
    ·
     rw[he,he']
    ·
     subst he;rw[upd_same]at h3;exact(hone j' o2 he' h2 h4 h3).elim
   ·
    by_cases he':j'=n'
    ·
     subst he';rw[upd_same]at h4;exact(hone j o1 he h1 h3 h4).elim
    ·
     obtain⟨_,h6⟩:=hback j o1 he h1
     obtain⟨_,h8⟩:=hback j' o2 he' h2
     rw[upd_ne he]at h3
     rw[upd_ne he']at h4
     exact hs.sep j j' o1 o2 b h6 h8 h3 h4
 refine hK _ _ (Sim.put hG hd (Below.refl _ _) ?_ (Nat.lt_succ_self _))
 refine⟨.of get_cons_same,fun e' k' rows'' hg=>?_⟩
 rw[get_cons_same]at hg
 cases hg
 exact⟨Nat.le_refl _,fun _=>by rw[upd_same]⟩
theorem a_upd {f:FuncId}{x:Operand}{xs:List Operand}{avs:List AV}{ys:List Arg}{l:List (Key×Val)}{e k id n:Nat}{rows rows':List (List D)}{ats:Array TypeId}
  (hc:FnUpd cx.P f e k rows ys rows') (hx:ev σ x=some (.own id n)) (ho:get σ (.o id) = .ob (.arr e k rows)) (hnx:get σ .nx = .num nx) (hn:n=rows.length) (hd:Nat.blt d cx.n=true) (hsub:SubsE σ xs avs ys l) :
  OA cx σ ⟨some d,.call { callee := .value (.func f),args:=⟨x::xs⟩,argTypes:=ats },ty,pos,af,gd⟩ ⟨rdOf x (.own id n)++(l++[(.o id,.ob (.arr e k rows)),(.nx,.num nx)]),[(.s d,.av (.own nx rows'.length)),(.o nx,.ob (.arr e k rows')),(.nx,.num (nx+1)),(.o id,.none)]⟩ :=
 ⟨ok_upd (lt_of_blt hd) hc (ev_out hx).1 hn hsub.out.1,(ev_out hx).2.append (hsub.out.2.append ⟨ho,hnx,trivial⟩)⟩
end Go.AX
namespace Go.Proofs.YtfpkamiobdkcpaaGreatDoor
open Go.AX Go.RF
set_option maxRecDepth 100000
set_option maxHeartbeats 4000000
theorem new_clone_version (rows:List (List D)) (hl:rows.length≤536870912):FnNew Tryz.prog 112 [.d (.sl 4 rows)] 106 4 rows:=by
 refine fnNew_of tbl_ok mixed_ok Tryz.func112 rfl (by kernel_rfl) rfl rfl fun w0 own0=>?_
 cases rows with
 |nil =>
  refine CW.empty 0 rfl fun p cp=>?_
  cases p with
  |none =>
   try refine wk ?_
   exact RetNew.nil rfl rfl
  |some ad =>
   have hst0:StopR 3:=⟨rfl⟩
   try refine wkS ?_
   clear hst0
   refine Stop.go (CW.stut (stut_nilv (i:=0) (k:=4)) ⟨rfl,trivial⟩ ?_)
   try refine wk ?_
   exact RetNew.own rfl rfl rfl
 |cons r rows =>
  have hl2:rows.length≤536870911:=by simp at hl;omega
  try refine wk ?_
  exact RetNew.own rfl rfl (by simp)
theorem ok_clone_version (rows:List (List D)) (hl:rows.length≤536870912):FnOk Tryz.prog 112 [.d (.sl 4 rows)] (.one (.sl 4 rows)):=(new_clone_version rows hl).ok
theorem new_clone_int (rows:List (List D)) (hl:rows.length≤536870912):FnNew Tryz.prog 70 [.d (.sl 1 rows)] 3 1 rows:=by
 refine fnNew_of tbl_ok mixed_ok Tryz.func70 rfl (by kernel_rfl) rfl rfl fun w0 own0=>?_
 cases rows with
 |nil =>
  refine CW.empty 0 rfl fun p cp=>?_
  cases p with
  |none =>
   try refine wk ?_
   exact RetNew.nil rfl rfl
  |some ad =>
   have hst0:StopR 3:=⟨rfl⟩
   try refine wkS ?_
   clear hst0
   refine Stop.go (CW.stut (stut_nilv (i:=0) (k:=1)) ⟨rfl,trivial⟩ ?_)
   try refine wk ?_
   exact RetNew.own rfl rfl rfl
 |cons r rows =>
  have hl2:rows.length≤536870911:=by simp at hl;omega
  try refine wk ?_
  exact RetNew.own rfl rfl (by simp)
theorem ok_clone_int (rows:List (List D)) (hl:rows.length≤536870912):FnOk Tryz.prog 70 [.d (.sl 1 rows)] (.one (.sl 1 rows)):=(new_clone_int rows hl).ok
theorem new_clone_done (rows:List (List D)) (hl:rows.length≤536870912):FnNew Tryz.prog 71 [.d (.sl 5 rows)] 115 5 rows:=by
 refine fnNew_of tbl_ok mixed_ok Tryz.func71 rfl (by kernel_rfl) rfl rfl fun w0 own0=>?_
 cases rows with
 |nil =>
  refine CW.empty 0 rfl fun p cp=>?_
  cases p with
  |none =>
   try refine wk ?_
   exact RetNew.nil rfl rfl
  |some ad =>
   have hst0:StopR 3:=⟨rfl⟩
   try refine wkS ?_
   clear hst0
   refine Stop.go (CW.stut (stut_nilv (i:=0) (k:=5)) ⟨rfl,trivial⟩ ?_)
   try refine wk ?_
   exact RetNew.own rfl rfl rfl
 |cons r rows =>
  have hl2:rows.length≤536870911:=by simp at hl;omega
  try refine wk ?_
  exact RetNew.own rfl rfl (by simp)
theorem ok_clone_done (rows:List (List D)) (hl:rows.length≤536870912):FnOk Tryz.prog 71 [.d (.sl 5 rows)] (.one (.sl 5 rows)):=(new_clone_done rows hl).ok
theorem new_clone_str (rows:List (List D)) (hl:rows.length≤536870912):FnNew Tryz.prog 76 [.d (.sl 1 rows)] 9 1 rows:=by
 refine fnNew_of tbl_ok mixed_ok Tryz.func76 rfl (by kernel_rfl) rfl rfl fun w0 own0=>?_
 cases rows with
 |nil =>
  refine CW.empty 0 rfl fun p cp=>?_
  cases p with
  |none =>
   try refine wk ?_
   exact RetNew.nil rfl rfl
  |some ad =>
   have hst0:StopR 3:=⟨rfl⟩
   try refine wkS ?_
   clear hst0
   refine Stop.go (CW.stut (stut_nilv (i:=0) (k:=1)) ⟨rfl,trivial⟩ ?_)
   try refine wk ?_
   exact RetNew.own rfl rfl rfl
 |cons r rows =>
  have hl2:rows.length≤536870911:=by simp at hl;omega
  try refine wk ?_
  exact RetNew.own rfl rfl (by simp)
theorem ok_clone_str (rows:List (List D)) (hl:rows.length≤536870912):FnOk Tryz.prog 76 [.d (.sl 1 rows)] (.one (.sl 1 rows)):=(new_clone_str rows hl).ok
theorem new_clone_ins (rows:List (List D)) (hl:rows.length≤536870912):FnNew Tryz.prog 109 [.d (.sl 5 rows)] 153 5 rows:=by
 refine fnNew_of tbl_ok mixed_ok Tryz.func109 rfl (by kernel_rfl) rfl rfl fun w0 own0=>?_
 cases rows with
 |nil =>
  refine CW.empty 0 rfl fun p cp=>?_
  cases p with
  |none =>
   try refine wk ?_
   exact RetNew.nil rfl rfl
  |some ad =>
   have hst0:StopR 3:=⟨rfl⟩
   try refine wkS ?_
   clear hst0
   refine Stop.go (CW.stut (stut_nilv (i:=0) (k:=5)) ⟨rfl,trivial⟩ ?_)
   try refine wk ?_
   exact RetNew.own rfl rfl rfl
 |cons r rows =>
  have hl2:rows.length≤536870911:=by simp at hl;omega
  try refine wk ?_
  exact RetNew.own rfl rfl (by simp)
theorem ok_clone_ins (rows:List (List D)) (hl:rows.length≤536870912):FnOk Tryz.prog 109 [.d (.sl 5 rows)] (.one (.sl 5 rows)):=(new_clone_ins rows hl).ok
theorem ok_chainOwn (l:List Chain) (hl:l.length≤268435456) (hv:∀ c∈l,c.vs.length≤268435456):FnOk Tryz.prog 69 [.d (encChains l)] (.one (encChains l)):=by
 refine fnOk_of tbl_ok mixed_ok Tryz.func69 rfl (by kernel_rfl) rfl rfl fun w0 own0=>?_
 try refine wk ?_
 refine CW.stut (stut_promote (i:=3) 109 2) ⟨rfl,rfl,trivial⟩ ?_
 refine CW.loopT (fun i:Nat=>[sd 6 (encChains l),sd 7 (dint l.length),sd 8 (dint i),so 3 0 i,oa 0 109 2 ((l.take i).map Chain.enc),nxt 1]) (fun i=>i≤l.length) (fun i=>l.length - i) 0 (by omega) ?_ ?_
 ·
  exact by_less
 ·
  rintro i hi
  rcases drop_case hi with ⟨h1,h2⟩|⟨c,h1,h2,h3⟩
  ·
   try refine wk ?_
   exact .one (.tmp rfl (.one (.own rfl (by simp;omega) (dle_eq (by rw[h2,List.take_length];rfl)))))
  ·
   have h4:(l.take i).map Chain.enc++[c.enc]=(l.take (i+1)).map Chain.enc:=by rw[List.take_add_one,h2];simp
   have hcv:=hv c (List.mem_of_getElem? h2)
   have hc:=ok_clone_version (c.vs.map Version.enc) (by simp;omega)
   try refine wk ?_
   refine q_loopT (i+1) (by omega) (by omega) ?_
   exact by_less
theorem ok_deedOwn (d:Deed) (hs:d.Sm):FnOk Tryz.prog 66 [.d (.agg d.enc)] (.one (.agg d.enc)):=by
 refine fnOk_of tbl_ok mixed_ok Tryz.func66 rfl (by kernel_rfl) rfl rfl fun w0 own0=>?_
 have h1:=hs.r
 have h2:=hs.w
 have h3:=hs.c
 have c1:=ok_clone_str (d.reads.map encStr1) (by simp;omega)
 have c2:=ok_clone_str (d.writes.map encStr1) (by simp;omega)
 have c3:=ok_clone_ins (d.code.map Ins.enc) (by simp;omega)
 repeat(first|refine wa ?_|((with_reducible apply s5);(first|exact a_call c1 rfl by_sub|exact a_call c2 rfl by_sub|exact by_oa|exact by_ca);exact by_g)|refine wb ?_)
 exact .one (.cell rfl rfl rfl rfl (.aggd (ds:=d.enc) rfl (.refl _)))
theorem ok_planOwn (e:Engine) (hs:e.Sm):FnOk Tryz.prog 17 [.d (.agg e.enc)] (.one (.agg e.enc)):=by
 refine fnOk_of tbl_ok mixed_ok Tryz.func17 rfl (by kernel_rfl) rfl rfl fun w0 own0=>?_
 have h1:=hs.c
 have h2:=hs.s
 have h3:=hs.n
 have h4:=hs.d
 have c1:=ok_chainOwn e.chains (by omega) (fun c hc=>by have:=hs.v c hc;omega)
 have c2:=ok_clone_int (e.state.map encInt1) (by simp;omega)
 have c3:=ok_clone_done (e.ends.map Done.enc) (by simp;omega)
 try refine wk ?_
 refine CW.stut (stut_promote_cell (id:=2) (j:=1) 42 3 rfl) ⟨rfl,rfl,trivial⟩ ?_
 refine CW.loopT (fun i:Nat=>[sp 2 1,ob 1 noE.enc0,sp 3 2,(.o 2,.ob (.box [.d (encChains e.chains),.own 3 i,.d (encInts e.state),.d (encEnds e.ends),.d (dint e.base)])),sd 19 (encDeeds e.deeds),sd 20 (dint e.deeds.length),sd 21 (dint i),
   oa 3 42 3 ((e.deeds.take i).map Deed.enc),nxt 4]) (fun i=>i≤e.deeds.length) (fun i=>e.deeds.length - i) 0 (by omega) ?_ ?_
 ·
  exact by_less
 ·
  rintro i hi
  rcases drop_case hi with ⟨h5,h6⟩|⟨d,h5,h6,h7⟩
  ·
   have h8:(e.deeds.take i).map Deed.enc=e.deeds.map Deed.enc:=by rw[h6,List.take_length]
   have hst0:StopR 7:=⟨rfl⟩
   try refine wkS ?_
   clear hst0
   refine Stop.go (CW.stut (stut_freeze_cell (id:=2) (j:=1) (i:=3) rfl (by simp;omega)) ⟨rfl,rfl,trivial⟩ ?_)
   try refine wk ?_
   exact .one (.cell rfl rfl rfl rfl (.aggd (ds:=[encChains e.chains,.sl 3 ((e.deeds.take i).map Deed.enc),encInts e.state,encEnds e.ends,dint e.base]) rfl (dle_eq (by rw[h8];rfl))))
  ·
   have h8:(e.deeds.take i).map Deed.enc++[d.enc]=(e.deeds.take (i+1)).map Deed.enc:=by rw[List.take_add_one,h6];simp
   have hd:=ok_deedOwn d (hs.dd d (List.mem_of_getElem? h6))
   try refine wk ?_
   refine q_loopT (i+1) (by omega) (by omega) ?_
   exact by_less
set_option maxHeartbeats 8000000
def lastGo (b:Int):Nat→Int→List Version→Int
 |_,la,[]=>la
 |k,la,v::r=>lastGo b (k+1) (if v.by_ < b then (k:Int) else la) r
def keepB (la:Int) (k:Nat) (v:Version):Bool:=decide (la≤k) && !(decide ((k:Int)=la)&&(v.made && !v.has))
def keepGo (la:Int):Nat→List Version→List Version
 |_,[]=>[]
 |k,v::r=>if keepB la k v=true then v::keepGo la (k+1) r else keepGo la (k+1) r
def pclrV (b:Int) (l:List Version):List Version:=keepGo (lastGo b 0 (-1) l) 0 l
def pclear (b:Int):List Chain→List Chain
 | []=>[]
 |c::r=>if pclrV b c.vs=[] then pclear b r else ⟨c.key,pclrV b c.vs⟩::pclear b r
theorem ok_pclear (l:List Chain) (b:Int) (hl:l.length≤268435456) (hv:∀ c∈l,c.vs.length≤268435456):FnOk Tryz.prog 124 [.d (encChains l),.d (dint b)] (.one (encChains (pclear b l))):=by
 refine fnOk_of tbl_ok mixed_ok Tryz.func124 rfl (by kernel_rfl) rfl rfl fun w0 own0=>?_
 try refine wk ?_
 refine CW.stut (stut_promote (i:=5) 109 2) ⟨rfl,rfl,trivial⟩ ?_
 refine CW.loopT (fun t:Nat×List Chain=>[sd 1 (dint b),so 5 0 t.2.length,oa 0 109 2 (t.2.map Chain.enc),sd 14 (encChains l),sd 15 (dint l.length),sd 16 (dint t.1),nxt 1])
  (fun t=>t.1≤l.length∧t.2.length≤t.1∧t.2++pclear b (l.drop t.1)=pclear b l) (fun t=>l.length - t.1) (0,[]) ⟨by omega,by simp,rfl⟩ ?_ ?_
 ·
  exact by_less
 ·
  rintro ⟨i,out⟩ ⟨hi,ho,hI⟩
  dsimp only at hi ho hI ⊢
  rcases drop_case hi with ⟨h1,h2⟩|⟨c,h1,h2,h3⟩
  ·
   rw[h1,pclear,List.append_nil]at hI
   try refine wk ?_
   rw[← hI]
   exact .one (.tmp rfl (.one (.own rfl (by simp) (.refl _))))
  ·
   rw[h1,pclear]at hI
   have hcv:=hv c (List.mem_of_getElem? h2)
   try refine wk ?_
   refine CW.loopT (fun t:Nat×Int=>[sd 1 (dint b),so 5 0 out.length,oa 0 109 2 (out.map Chain.enc),sd 14 (encChains l),sd 15 (dint l.length),sd 16 (dint i),sp 7 1,ob 1 c.enc,sd 8 (dint t.2),sd 21 (encVs c.vs),sd 22 (dint c.vs.length),sd 23 (dint t.1),nxt 2])
    (fun t=>t.1≤c.vs.length∧lastGo b t.1 t.2 (c.vs.drop t.1)=lastGo b 0 (-1) c.vs) (fun t=>c.vs.length - t.1) (0,-1) ⟨by omega,rfl⟩ ?_ ?_
   ·
    exact by_less
   ·
    rintro ⟨j,la⟩ ⟨hj,hJ⟩
    dsimp only at hj hJ ⊢
    rcases drop_case hj with ⟨h5,h6⟩|⟨x,h5,h6,h7⟩
    ·
     rw[h5,lastGo]at hJ
     rw[pclrV,← hJ]at hI
     clear hJ h5
     try refine wk ?_
     refine CW.stut (stut_promote (i:=11) 106 4) ⟨rfl,rfl,trivial⟩ ?_
     refine CW.loopT (fun t:Nat×List Version=>[sd 1 (dint b),so 5 0 out.length,oa 0 109 2 (out.map Chain.enc),sd 14 (encChains l),sd 15 (dint l.length),sd 16 (dint i),sp 7 1,ob 1 c.enc,sd 8 (dint la),so 11 2 t.2.length,oa 2 106 4 (t.2.map Version.enc),sd 35 (encVs c.vs),sd 36 (dint c.vs.length),sd 37 (dint t.1),nxt 3])
      (fun t=>t.1≤c.vs.length∧t.2.length≤t.1∧t.2++keepGo la t.1 (c.vs.drop t.1)=keepGo la 0 c.vs) (fun t=>c.vs.length - t.1) (0,[]) ⟨by omega,by simp,rfl⟩ ?_ ?_
     ·
      exact by_less
     ·
      rintro ⟨k,vs⟩ ⟨hk,hvs,hK⟩
      dsimp only at hk hvs hK ⊢
      rcases drop_case hk with ⟨g1,g2⟩|⟨x,g1,g2,g3⟩
      ·
       rw[g1,keepGo,List.append_nil]at hK
       rw[← hK]at hI
       have hst0:StopR 19:=⟨rfl⟩
       try refine wkS ?_
       clear hst0
       refine Stop.go (CW.stut (stut_freeze (i:=11) (id:=2) (by simp)) ⟨rfl,rfl,trivial⟩ ?_)
       cases vs with
       |nil =>
        rw[if_pos rfl]at hI
        try refine wk ?_
        refine q_loopT (i+1,out) ⟨by dsimp only;omega,by dsimp only;omega,hI⟩ (by dsimp only;omega) ?_
        exact by_less
       |cons v0 vs =>
        rw[if_neg (by simp)]at hI
        try refine wk ?_
        refine q_loopT (i+1,out++[⟨c.key,v0::vs⟩]) ⟨by dsimp only;omega,by dsimp only;simp;omega,by rw[← hI];simp⟩ (by dsimp only;omega) ?_
        exact by_less
      ·
       rw[g1,keepGo]at hK
       obtain⟨xb,xm,xh,xn⟩:=x
       have hyes:keepB la k ⟨xb,xm,xh,xn⟩=true→(vs++[⟨xb,xm,xh,xn⟩])++keepGo la (k+1) (c.vs.drop (k+1))=keepGo la 0 c.vs:=fun e=>by
        rw[if_pos e]at hK;rw[← hK];simp
       have hno:keepB la k ⟨xb,xm,xh,xn⟩=false→vs++keepGo la (k+1) (c.vs.drop (k+1))=keepGo la 0 c.vs:=fun e=>by
        rw[if_neg (by rw[e];simp)]at hK;exact hK
       clear hK
       by_cases e1:la≤(k:Int)
       ·
        by_cases e2:(k:Int)=la
        ·
         cases xm
         ·
          try refine wk ?_
          refine q_loopT (k+1,vs++[⟨xb,false,xh,xn⟩]) ⟨by dsimp only;omega,by dsimp only;simp;omega,hyes (by simp[keepB,e1])⟩ (by dsimp only;omega) ?_
          exact by_less
         ·
          cases xh
          ·
           try refine wk ?_
           refine q_loopT (k+1,vs) ⟨by dsimp only;omega,by dsimp only;omega,hno (by simp[keepB,e2])⟩ (by dsimp only;omega) ?_
           exact by_less
          ·
           try refine wk ?_
           refine q_loopT (k+1,vs++[⟨xb,true,true,xn⟩]) ⟨by dsimp only;omega,by dsimp only;simp;omega,hyes (by simp[keepB,e1])⟩ (by dsimp only;omega) ?_
           exact by_less
        ·
         try refine wk ?_
         refine q_loopT (k+1,vs++[⟨xb,xm,xh,xn⟩]) ⟨by dsimp only;omega,by dsimp only;simp;omega,hyes (by simp[keepB,e1,e2])⟩ (by dsimp only;omega) ?_
         exact by_less
       ·
        try refine wk ?_
        refine q_loopT (k+1,vs) ⟨by dsimp only;omega,by dsimp only;omega,hno (by simp[keepB,e1])⟩ (by dsimp only;omega) ?_
        exact by_less
    ·
     rw[h5,lastGo]at hJ
     by_cases h8:x.by_ < b
     ·
      rw[if_pos h8]at hJ
      try refine wk ?_
      refine q_loopT (j+1,(j:Int)) ⟨by dsimp only;omega,hJ⟩ (by dsimp only;omega) ?_
      exact by_less
     ·
      rw[if_neg h8]at hJ
      try refine wk ?_
      refine q_loopT (j+1,la) ⟨by dsimp only;omega,hJ⟩ (by dsimp only;omega) ?_
      exact by_less
theorem ok_of (l:List Pair) (hl:l.length≤134217728):FnOk Tryz.prog 63 [.d (encRows l)] (.one (encChains (l.map rowChain))):=by
 refine fnOk_of tbl_ok mixed_ok Tryz.func63 rfl (by kernel_rfl) rfl rfl fun w0 own0=>?_
 try refine wk ?_
 refine CW.stut (stut_promote (i:=3) 109 2) ⟨rfl,rfl,trivial⟩ ?_
 refine CW.loopT (fun i:Nat=>[sd 6 (encRows l),sd 7 (dint l.length),sd 8 (dint i),so 3 0 i,oa 0 109 2 ((l.take i).map fun p=>(rowChain p).enc),nxt 1]) (fun i=>i≤l.length) (fun i=>l.length - i) 0 (by omega) ?_ ?_
 ·
  exact by_less
 ·
  rintro i hi
  rcases drop_case hi with ⟨h1,h2⟩|⟨p,h1,h2,h3⟩
  ·
   try refine wk ?_
   exact .one (.tmp rfl (.one (.own rfl (by simp;omega) (dle_eq (by rw[h2,List.take_length];simp[encChains])))))
  ·
   have h4:(l.take i).map (fun p=>(rowChain p).enc)++[(rowChain p).enc]=(l.take (i+1)).map fun p=>(rowChain p).enc:=by rw[List.take_add_one,h2];simp
   try refine wk ?_
   refine q_loopT (i+1) (by omega) (by omega) ?_
   exact by_less
theorem ok_tmark (e:Engine) (hs:e.state.length≤134217728):FnOk Tryz.prog 91 [.d (.agg e.enc)] (.one (dint (markN e.state))):=by
 refine fnOk_of tbl_ok mixed_ok Tryz.func91 rfl (by kernel_rfl) rfl rfl fun w0 own0=>?_
 try refine wk ?_
 refine CW.loopT (fun i:Nat=>[sp 1 0,ob 0 e.enc,sd 6 (encInts e.state),sd 7 (dint e.state.length),sd 8 (dint i),nxt 1]) (fun i=>i≤e.state.length∧i+markN (e.state.drop i)=markN e.state) (fun i=>e.state.length - i) 0 ⟨by omega,by simp⟩ ?_ ?_
 ·
  exact by_less
 ·
  rintro i ⟨hi,hI⟩
  rcases drop_case hi with ⟨h1,h2⟩|⟨s,h1,h2,h3⟩
  ·
   rw[h1]at hI
   simp only[markN]at hI
   try refine wk ?_
   exact .one (.tmp rfl (.one (.d (dle_int (by simp;omega)))))
  ·
   rw[h1]at hI
   simp only[markN]at hI
   by_cases h4:s=1
   ·
    rw[if_pos h4]at hI
    try refine wk ?_
    refine q_loopT (i+1) ⟨by omega,by omega⟩ (by omega) ?_
    exact by_less
   ·
    rw[if_neg h4]at hI
    try refine wk ?_
    exact .one (.tmp rfl (.one (.d (dle_int (by omega)))))
def VSrt (l:List Version):Prop:=l.Pairwise fun a b=>a.by_ < b.by_
theorem VSrt.cons {v:Version}{l:List Version}:VSrt (v::l)↔(∀ w∈l,v.by_ < w.by_)∧VSrt l:=List.pairwise_cons
theorem lastGo_ge {b:Int}:∀ {l:List Version}{k:Nat}{la:Int},(∀ v∈l,b≤v.by_)→lastGo b k la l=la
 | [],k,la,_=>rfl
 |v::l,k,la,h=>by
  have:=h v (List.mem_cons_self ..)
  simp only[lastGo]
  rw[if_neg (by omega)]
  exact lastGo_ge fun w hw=>h w (List.mem_cons_of_mem _ hw)
theorem lastGo_le {b:Int}:∀ (l:List Version) {k:Nat}{la:Int},la < k→la≤lastGo b k la l
 | [],k,la,_=>Int.le_refl _
 |v::l,k,la,h=>by
  simp only[lastGo]
  split
  ·
   have:=lastGo_le (b:=b) l (k:=k+1) (la:=(k:Int)) (by omega);omega
  ·
   exact lastGo_le l (by omega)
theorem keepGo_all:∀ {l:List Version}{k:Nat}{la:Int},la < k→keepGo la k l=l
 | [],k,la,_=>rfl
 |v::l,k,la,h=>by
  simp only[keepGo]
  rw[if_pos (by simp[keepB];omega),keepGo_all (by omega)]
theorem clrV_all {b:Int}:∀ {l:List Version},(∀ v∈l,b≤v.by_)→clrV b l=l
 | [],_=>rfl
 |v::l,h=>by
  have:=h v (List.mem_cons_self ..)
  simp only[clrV]
  rw[if_neg (by simp[old];omega),clrV_all fun w hw=>h w (List.mem_cons_of_mem _ hw)]
theorem pclr_go {b:Int}:∀ {l:List Version}{k:Nat}{la:Int},VSrt l→la < k→keepGo (lastGo b k la l) k l=clrV b l
 | [],k,la,_,_=>rfl
 |v::l,k,la,hs,hk=>by
  obtain⟨h1,h2⟩:=VSrt.cons.1 hs
  by_cases hv:v.by_ < b
  ·
   cases l with
   |nil =>
    simp only[lastGo,if_pos hv,keepGo,clrV]
    cases hm:v.made <;> cases hh:v.has <;> simp[keepB,old,later,hv,hm,hh]
   |cons w l =>
    have ih:=pclr_go (b:=b) (l:=w::l) (k:=k+1) (la:=(k:Int)) h2 (by omega)
    have hl:lastGo b k la (v::w::l)=lastGo b (k+1) k (w::l):=by rw[lastGo,if_pos hv]
    rw[hl]
    by_cases hw:w.by_ < b
    ·
     have h3:(k:Int) < lastGo b (k+1) k (w::l):=by
      rw[lastGo,if_pos hw]
      have:=lastGo_le (b:=b) l (k:=k+1+1) (la:=((k+1:Nat):Int)) (by omega)
      omega
     rw[keepGo,if_neg (by simp[keepB];omega),ih,clrV.eq_2 b v (w::l),if_pos (by simp[old,later,hv,hw])]
    ·
     have hge:∀ x∈w::l,b≤x.by_:=fun x hx=>by
      rcases List.mem_cons.1 hx with rfl|hx
      ·
       omega
      ·
       have:=(VSrt.cons.1 h2).1 x hx;omega
     rw[lastGo_ge hge,keepGo,keepGo_all (by omega),clrV.eq_2 b v (w::l),clrV_all hge]
     cases hm:v.made <;> cases hh:v.has <;> simp[keepB,old,later,hv,hw,hm,hh]
  ·
   have hge:∀ x∈v::l,b≤x.by_:=fun x hx=>by
    rcases List.mem_cons.1 hx with rfl|hx
    ·
     omega
    ·
     have:=h1 x hx;omega
   rw[lastGo_ge hge,keepGo_all hk,clrV_all hge]
theorem pclrV_eq {b:Int}{l:List Version}(hs:VSrt l):pclrV b l=clrV b l:=pclr_go hs (by omega)
theorem pclear_eq {b:Int}:∀ {l:List Chain},(∀ c∈l,VSrt c.vs)→pclear b l=clear b l
 | [],_=>rfl
 |c::l,h=>by
  simp only[pclear,clear]
  rw[pclrV_eq (h c (List.mem_cons_self ..)),pclear_eq fun d hd=>h d (List.mem_cons_of_mem _ hd)]
theorem allB_refl {α:Type}{f:α→α→Bool}(hf:∀ a,f a a=true):∀ l:List α,allB f l l=true
 | []=>rfl
 |a::l=>by simp[allB,hf,allB_refl hf l]
theorem sameC_refl (c:Chain):sameC c c=true:=by simp[sameC,allB_refl]
theorem sameE_refl (e:Engine):sameE e e=true:=by
 simp[sameE,allB_refl,sameC_refl]
theorem wrongRowsGo_srt:∀ {l:List Pair}{i:Nat}{last:Str},wrongRowsGo (i+1) last l=0→(∀ p∈l,slt last p.key=true∧key p.key=true∧nOk p.n)∧Srt Pair.key l
 | [],i,last,_=>⟨by simp,List.Pairwise.nil⟩
 |p::l,i,last,h=>by
  simp only[wrongRowsGo]at h
  by_cases h1:key p.key=false
  ·
   rw[if_pos h1]at h;simp at h
  rw[if_neg h1]at h
  by_cases h2:0 < i+1∧sle p.key last=true
  ·
   rw[if_pos h2]at h;simp at h
  rw[if_neg h2]at h
  by_cases h3:1073741824 < p.n∨p.n < -1073741824
  ·
   rw[if_pos h3]at h;simp at h
  rw[if_neg h3]at h
  obtain⟨h4,h5⟩:=wrongRowsGo_srt h
  have h6:slt last p.key=true:=by
   have h7:¬ sle p.key last=true:=fun e=>h2 ⟨by omega,e⟩
   simp only[sle,Bool.or_eq_true,decide_eq_true_eq,not_or]at h7
   rcases slt_tri last p.key with h|h|h
   ·
    exact h
   ·
    exact absurd h.symm h7.2
   ·
    exact absurd h h7.1
  refine⟨fun q hq=>?_,List.pairwise_cons.2 ⟨fun q hq=>(h4 q hq).1,h5⟩⟩
  rcases List.mem_cons.1 hq with rfl|hq
  ·
   exact⟨h6,by simpa using h1,by unfold nOk;omega⟩
  ·
   exact⟨slt_trans h6 (h4 q hq).1,(h4 q hq).2⟩
theorem wrongRows_srt {l:List Pair}(h:wrongRows l=0):Srt Pair.key l∧(∀ p∈l,key p.key=true)∧rowsOk l:=by
 cases l with
 |nil=>exact⟨List.Pairwise.nil,by simp,by simp[rowsOk]⟩
 |cons p l =>
  simp only[wrongRows,wrongRowsGo]at h
  by_cases h1:key p.key=false
  ·
   rw[if_pos h1]at h;simp at h
  rw[if_neg h1,if_neg (by simp)]at h
  by_cases h3:1073741824 < p.n∨p.n < -1073741824
  ·
   rw[if_pos h3]at h;simp at h
  rw[if_neg h3]at h
  obtain⟨h4,h5⟩:=wrongRowsGo_srt h
  refine⟨List.pairwise_cons.2 ⟨fun q hq=>(h4 q hq).1,h5⟩,fun q hq=>?_,fun q hq=>?_⟩
  ·
   rcases List.mem_cons.1 hq with rfl|hq
   ·
    simpa using h1
   ·
    exact(h4 q hq).2.1
  ·
   rcases List.mem_cons.1 hq with rfl|hq
   ·
    unfold nOk;omega
   ·
    exact(h4 q hq).2.2
def newV (b:Int):Version:=⟨b,false,false,0⟩
def addS (k:Str) (b:Int):List Chain→List Chain
 | []=>[⟨k,[newV b]⟩]
 |c::r=>if c.key=k then ⟨c.key,c.vs++[newV b]⟩::r else if slt c.key k=true then c::addS k b r else ⟨k,[newV b]⟩::c::r
theorem addGo_done {k:Str}{b:Int}:∀ {l out:List Chain},(∀ c∈l,c.key≠k)→addGo k b true out l=out++l
 | [],out,_=>by simp[addGo]
 |c::l,out,h=>by
  simp only[addGo]
  rw[if_neg (h c (List.mem_cons_self ..))]
  simp only[Bool.not_true,Bool.false_and,Bool.true_or]
  rw[addGo_done fun d hd=>h d (List.mem_cons_of_mem _ hd)]
  simp
theorem addGo_srt {k:Str}{b:Int}:∀ {l out:List Chain},Srt Chain.key l→addGo k b false out l=out++addS k b l
 | [],out,_=>by simp[addGo,addS,newV]
 |c::l,out,hs=>by
  obtain⟨h1,h2⟩:=List.pairwise_cons.1 hs
  simp only[addGo,addS]
  by_cases hk:c.key=k
  ·
   rw[if_pos hk,if_pos hk]
   simp only[hk,slt_irrefl,decide_true,Bool.or_true,Bool.not_true,Bool.and_false]
   rw[addGo_done fun d hd=>?_]
   ·
    simp[newV]
   ·
    have:=h1 d hd
    rw[hk]at this
    exact fun e=>slt_ne this e.symm
  ·
   rw[if_neg hk,if_neg hk]
   cases hl:slt c.key k with
   |true =>
    simp only[Bool.true_or,Bool.not_true,Bool.and_false,Bool.or_false]
    rw[addGo_srt h2]
    simp
   |false =>
    simp only[hk,decide_false,Bool.or_false,Bool.not_false,Bool.and_true,Bool.false_or]
    rw[addGo_done fun d hd=>?_]
    ·
     simp[newV]
    ·
     have h3:=h1 d hd
     intro e
     rcases slt_tri c.key k with h|h|h
     ·
      rw[hl]at h;cases h
     ·
      exact hk h
     ·
      rw[e]at h3
      have:=slt_trans h h3
      rw[slt_irrefl]at this;cases this
theorem addC_srt {k:Str}{b:Int}{l:List Chain}(hs:Srt Chain.key l):addC l k b=addS k b l:=by
 unfold addC
 rw[addGo_srt hs]
 rfl
theorem addS_mem {k:Str}{b:Int}:∀ {l:List Chain}{c:Chain},c∈addS k b l→c∈l∨c=⟨k,[newV b]⟩∨∃ c0∈l,c0.key=k∧c=⟨k,c0.vs++[newV b]⟩
 | [],c,h=>by simp[addS]at h;exact .inr (.inl h)
 |x::l,c,h=>by
  simp only[addS]at h
  by_cases hk:x.key=k
  ·
   rw[if_pos hk]at h
   rcases List.mem_cons.1 h with rfl|h
   ·
    exact .inr (.inr ⟨x,List.mem_cons_self ..,hk,by rw[hk]⟩)
   ·
    exact .inl (List.mem_cons_of_mem _ h)
  ·
   rw[if_neg hk]at h
   split at h
   ·
    rcases List.mem_cons.1 h with rfl|h
    ·
     exact .inl (List.mem_cons_self ..)
    ·
     rcases addS_mem h with h|h|⟨c0,h0,h⟩
     ·
      exact .inl (List.mem_cons_of_mem _ h)
     ·
      exact .inr (.inl h)
     ·
      exact .inr (.inr ⟨c0,List.mem_cons_of_mem _ h0,h⟩)
   ·
    rcases List.mem_cons.1 h with rfl|h
    ·
     exact .inr (.inl rfl)
    ·
     exact .inl h
theorem addS_srt {k:Str}{b:Int}:∀ {l:List Chain},Srt Chain.key l→Srt Chain.key (addS k b l)
 | [],_=>List.pairwise_singleton ..
 |c::l,hs=>by
  obtain⟨h1,h2⟩:=List.pairwise_cons.1 hs
  simp only[addS]
  by_cases hk:c.key=k
  ·
   rw[if_pos hk];exact List.pairwise_cons.2 ⟨h1,h2⟩
  ·
   rw[if_neg hk]
   cases hl:slt c.key k with
   |true =>
    rw[if_pos rfl]
    refine List.pairwise_cons.2 ⟨fun d hd=>?_,addS_srt h2⟩
    rcases addS_mem hd with h|rfl|⟨c0,h0,h3,rfl⟩
    ·
     exact h1 d h
    ·
     exact hl
    ·
     exact hl
   |false =>
    rw[if_neg (by simp)]
    have hkc:slt k c.key=true:=by
     rcases slt_tri c.key k with h|h|h
     ·
      rw[hl]at h;cases h
     ·
      exact absurd h hk
     ·
      exact h
    refine List.pairwise_cons.2 ⟨fun d hd=>?_,hs⟩
    rcases List.mem_cons.1 hd with rfl|hd
    ·
     exact hkc
    ·
     exact slt_trans hkc (h1 d hd)
structure SInv (e:Engine):Prop where
 k:Srt Chain.key e.chains
 v:∀ c∈e.chains,VSrt c.vs
 b:∀ c∈e.chains,∀ v∈c.vs,v.by_ < e.base+e.deeds.length
theorem newE_srt {r:List Pair}(h:Srt Pair.key r):SInv (newE r):=by
 refine⟨List.pairwise_map.2 h,fun c hc=>?_,fun c hc v hv=>?_⟩
 ·
  obtain⟨p,_,rfl⟩:=List.mem_map.1 hc
  exact List.pairwise_singleton ..
 ·
  obtain⟨p,_,rfl⟩:=List.mem_map.1 hc
  simp[rowChain]at hv
  subst hv
  simp[newE]
theorem isIn_false {s:Str}:∀ {l:List Str},isIn l s=false→s∉l
 | [],_,h=>by simp at h
 |x::l,h,hm=>by
  simp only[isIn]at h
  by_cases hx:x=s
  ·
   rw[if_pos hx]at h;cases h
  ·
   rw[if_neg hx]at h
   rcases List.mem_cons.1 hm with rfl|hm
   ·
    exact hx rfl
   ·
    exact isIn_false h hm
theorem keysGo_nodup {l:List Str}:∀ {r:List Str}{i:Nat},l.drop i=r→(l.take i).Nodup→keysGo l i r=0→l.Nodup∧∀ k∈r,key k=true
 | [],i,hr,hn,_=>by
  have:l.length≤i:=by simpa using hr
  rw[List.take_of_length_le this]at hn
  exact⟨hn,by simp⟩
 |k::r,i,hr,hn,h=>by
  simp only[keysGo]at h
  by_cases h1:key k=false
  ·
   rw[if_pos h1]at h;simp at h
  rw[if_neg h1]at h
  by_cases h2:isIn (l.take i) k=true
  ·
   rw[if_pos h2]at h;simp at h
  rw[if_neg h2]at h
  have hk:l[i]? = some k:=by
   have:(l.drop i)[0]? = some k:=by rw[hr];rfl
   simpa using this
  have h3:l.take (i+1)=l.take i++[k]:=by rw[List.take_add_one,hk];rfl
  have hni:k∉l.take i:=isIn_false (by simpa using h2)
  have:=keysGo_nodup (l:=l) (r:=r) (i:=i+1) (by rw[← List.drop_drop,hr];rfl) (by
   rw[h3]
   refine List.nodup_append.2 ⟨hn,by simp,fun a ha b hb=>?_⟩
   simp at hb;subst hb
   exact fun e=>hni (e▸ha)) h
  exact⟨this.1,fun x hx=>by
   rcases List.mem_cons.1 hx with rfl|hx
   ·
    simpa using h1
   ·
    exact this.2 x hx⟩
theorem keysWrong_nodup {l:List Str}(h:keysWrong l=0):l.Nodup∧(∀ k∈l,key k=true)∧l.length≤5:=by
 unfold keysWrong at h
 by_cases h1:5 < l.length
 ·
  rw[if_pos h1]at h;simp at h
 ·
  rw[if_neg h1]at h
  have:=keysGo_nodup (l:=l) (r:=l) (i:=0) rfl (by simp) h
  exact⟨this.1,this.2,by omega⟩
theorem wrong_keys {d:Deed}(h:wrongDeed d=0):d.reads.Nodup∧d.writes.Nodup:=by
 unfold wrongDeed at h
 by_cases h0:lsGo [d.reads,d.writes]=0
 ·
  simp only[lsGo]at h0
  by_cases h1:keysWrong d.reads=0
  ·
   rw[if_pos h1]at h0
   by_cases h2:keysWrong d.writes=0
   ·
    exact⟨(keysWrong_nodup h1).1,(keysWrong_nodup h2).1⟩
   ·
    rw[if_neg h2]at h0;exact absurd h0 h2
  ·
   rw[if_neg h1]at h0;exact absurd h0 h1
 ·
  rw[if_neg h0]at h;exact absurd h h0
theorem addKeys_srt {b:Int}:∀ {ks:List Str}{l:List Chain},ks.Nodup→Srt Chain.key l→(∀ c∈l,VSrt c.vs∧(∀ v∈c.vs,v.by_≤b)∧(c.key∈ks→∀ v∈c.vs,v.by_ < b)) →
  Srt Chain.key (addKeys b l ks)∧∀ c∈addKeys b l ks,VSrt c.vs∧∀ v∈c.vs,v.by_≤b
 | [],l,_,hs,h=>⟨hs,fun c hc=>⟨(h c hc).1,(h c hc).2.1⟩⟩
 |k::ks,l,hn,hs,h=>by
  obtain⟨hk,hn⟩:=List.nodup_cons.1 hn
  simp only[addKeys]
  rw[addC_srt hs]
  refine addKeys_srt hn (addS_srt hs) fun c hc=>?_
  rcases addS_mem hc with h0|rfl|⟨c0,h0,h1,rfl⟩
  ·
   obtain⟨h1,h2,h3⟩:=h c h0
   exact⟨h1,h2,fun hm=>h3 (List.mem_cons_of_mem _ hm)⟩
  ·
   exact⟨List.pairwise_singleton ..,fun v hv=>by simp at hv;subst hv;exact Int.le_refl _,fun hm=>absurd hm hk⟩
  ·
   obtain⟨h2,h3,h4⟩:=h c0 h0
   have h5:=h4 (by rw[h1];exact List.mem_cons_self ..)
   refine⟨List.pairwise_append.2 ⟨h2,List.pairwise_singleton ..,fun a ha x hx=>?_⟩,fun v hv=>?_,fun hm=>absurd hm hk⟩
   ·
    simp at hx;subst hx;exact h5 a ha
   ·
    rcases List.mem_append.1 hv with hv|hv
    ·
     exact h3 v hv
    ·
     simp at hv;subst hv;exact Int.le_refl _
theorem SInv.add1 {e:Engine}(h:SInv e) {d:Deed}(hw:d.writes.Nodup):SInv (add1 e d):=by
 have:=addKeys_srt (b:=e.base+e.deeds.length) hw h.k fun c hc=>⟨h.v c hc,fun v hv=>by have:=h.b c hc v hv;omega,fun _ v hv=>h.b c hc v hv⟩
 refine⟨this.1,fun c hc=>(this.2 c hc).1,fun c hc v hv=>?_⟩
 have:=(this.2 c hc).2 v hv
 show v.by_ < e.base+((e.deeds++[d]).length:Nat)
 rw[List.length_append]
 simp only[List.length_singleton]
 omega
theorem SInv.addAll:∀ {l:List Deed}{e:Engine},SInv e→(∀ d∈l,d.writes.Nodup)→SInv (addAll e l)
 | [],e,h,_=>h
 |d::l,e,h,hl=>by
  simp only[RF.addAll]
  exact SInv.addAll (h.add1 (hl d (List.mem_cons_self ..))) fun x hx=>hl x (List.mem_cons_of_mem _ hx)
theorem SInv.addE {e:Engine}(h:SInv e) {l:List Deed}(hw:(addE e l).2=0):SInv (addE e l).1:=by
 unfold RF.addE at hw ⊢
 by_cases h0:wrongs l=0
 ·
  rw[if_pos h0]
  exact h.addAll fun d hd=>(wrong_keys (wrongs_mem h0 d hd)).2
 ·
  rw[if_neg h0]at hw;exact absurd hw h0
theorem set_srt {l:List Chain}{k:Str}{v:Version}{N:Int}(hs:Srt Chain.key l) (hv:∀ c∈l,VSrt c.vs∧∀ w∈c.vs,w.by_ < N) :
  Srt Chain.key (setChains l k v)∧∀ c∈setChains l k v,VSrt c.vs∧∀ w∈c.vs,w.by_ < N:=by
 have hb:∀ (h:Bool) (w:Version),(setV h v w).by_=w.by_:=fun h w=>by
  unfold setV
  split
  ·
   next hh=>exact hh.2.symm
  ·
   rfl
 refine⟨List.pairwise_map.2 hs,fun c hc=>?_⟩
 obtain⟨c0,h0,rfl⟩:=List.mem_map.1 hc
 obtain⟨h1,h2⟩:=hv c0 h0
 refine⟨List.pairwise_map.2 (h1.imp fun hab=>by rw[hb,hb];exact hab),fun w hw=>?_⟩
 obtain⟨w0,hw0,rfl⟩:=List.mem_map.1 hw
 rw[hb];exact h2 w0 hw0
theorem goSets_srt {r:List Pair}{b N:Int}:∀ {ks:List Str}{l:List Chain},Srt Chain.key l→(∀ c∈l,VSrt c.vs∧∀ w∈c.vs,w.by_ < N) →
  Srt Chain.key (goSets r b l ks)∧∀ c∈goSets r b l ks,VSrt c.vs∧∀ w∈c.vs,w.by_ < N
 | [],l,hs,hv=>⟨hs,hv⟩
 |k::ks,l,hs,hv=>by
  simp only[goSets]
  have:=set_srt (k:=k) (v:=⟨b,true,(RF.get r k).2,(RF.get r k).1⟩) hs hv
  exact goSets_srt this.1 this.2
theorem SInv.goNew {e:Engine}(h:SInv e) (A:Nat) (d:Deed):SInv (goNew e A d):=by
 have:=goSets_srt (r:=(goDone e A d).1) (b:=e.base+A) (ks:=d.writes) (N:=e.base+e.deeds.length) h.k fun c hc=>⟨h.v c hc,h.b c hc⟩
 exact⟨this.1,fun c hc=>(this.2 c hc).1,fun c hc=>(this.2 c hc).2⟩
theorem SInv.goE {e:Engine}(h:SInv e) (at_:Int):SInv (goE e at_).1:=by
 unfold Proofs.YtfpkamiobdkcpaaGreatDoor.goE
 split
 ·
  exact h
 unfold goAt
 cases hA:e.deeds[at_.toNat]? with
 |none=>exact h
 |some d =>
  dsimp only
  split
  ·
   exact h
  split
  ·
   exact h.goNew _ _
  ·
   exact h
theorem clrV_sublist {b:Int}:∀ l:List Version,(clrV b l).Sublist l
 | []=>List.Sublist.slnil
 |v::l=>by
  simp only[clrV]
  split
  ·
   exact(clrV_sublist l).cons _
  ·
   exact(clrV_sublist l).cons_cons _
theorem clear_srt {b:Int}:∀ {l:List Chain},Srt Chain.key l→Srt Chain.key (clear b l)
 | [],_=>List.Pairwise.nil
 |c::l,hs=>by
  obtain⟨h1,h2⟩:=List.pairwise_cons.1 hs
  simp only[clear]
  split
  ·
   exact clear_srt h2
  ·
   refine List.pairwise_cons.2 ⟨fun d hd=>?_,clear_srt h2⟩
   obtain⟨c0,h0,rfl⟩:=clear_mem hd
   exact h1 c0 h0
theorem SInv.clearE {e:Engine}(h:SInv e):SInv (clearE e):=by
 have hm:=markN_le e.state
 refine⟨clear_srt h.k,fun c hc=>?_,fun c hc v hv=>?_⟩
 ·
  obtain⟨c0,h0,rfl⟩:=clear_mem hc
  exact List.Pairwise.sublist (clrV_sublist _) (h.v c0 h0)
 ·
  obtain⟨c0,h0,rfl⟩:=clear_mem hc
  have:=h.b c0 h0 v (clrV_sub hv)
  simp only[RF.clearE,List.length_drop]
  omega
theorem SInv.pickE {e:Engine}(h:SInv e) (n:Int):SInv (pickE e n):=by
 unfold Proofs.YtfpkamiobdkcpaaGreatDoor.pickE
 split
 ·
  exact h.clearE
 split
 ·
  exact h
 split
 ·
  exact h.goE _
 ·
  exact h
theorem SInv.batchE {e:Engine}(h:SInv e) (b:List Deed):SInv (batchE e b):=by
 unfold Proofs.YtfpkamiobdkcpaaGreatDoor.batchE
 split
 ·
  next hw=>exact h.addE hw
 ·
  exact h
theorem SInv.pickGo:∀ {k:Nat}{e:Engine}{p:List Int},SInv e→SInv (pickGo k e p).1
 |0,e,p,h=>h
 |k+1,e,[],h=>h
 |k+1,e,n::p,h=>by
  simp only[Proofs.YtfpkamiobdkcpaaGreatDoor.pickGo]
  exact SInv.pickGo (h.pickE n)
theorem SInv.buildGo:∀ {bs:List (List Deed)}{e:Engine}{p:List Int},SInv e→SInv (buildGo e bs p)
 | [],e,p,h=>h
 |b::bs,e,p,h=>by
  simp only[Proofs.YtfpkamiobdkcpaaGreatDoor.buildGo]
  exact SInv.buildGo ((h.batchE b).pickGo)
theorem before_row {r:List Pair}(h:Srt Pair.key r) {p:Pair}(hp:p∈r) {b:Int}(hb : -1 < b):before (r.map rowChain) p.key b=⟨-1,true,true,p.n⟩:=by
 obtain⟨i,hi⟩:=List.getElem?_of_mem hp
 unfold before
 have hil:=(List.getElem?_eq_some_iff.1 hi).1
 have hsp:r=r.take i++p::r.drop (i+1):=by
  have h1:=List.take_append_drop i r
  rw[List.drop_eq_getElem_cons hil,(List.getElem?_eq_some_iff.1 hi).2]at h1
  exact h1.symm
 have hne:∀ q∈r.take i++r.drop (i+1),q.key≠p.key:=by
  intro q hq
  rcases List.mem_append.1 hq with hq|hq
  ·
   obtain⟨j,hj⟩:=List.getElem?_of_mem hq
   rw[List.getElem?_take]at hj
   split at hj
   ·
    exact h.ne hj hi (by omega)
   ·
    cases hj
  ·
   obtain⟨j,hj⟩:=List.getElem?_of_mem hq
   rw[List.getElem?_drop]at hj
   exact h.ne hj hi (by omega)
 have n1:∀ out,beforeGo p.key b out ((r.take i).map rowChain)=out:=fun out=>beforeGo_none fun c hc=>by
  obtain⟨q,hq,rfl⟩:=List.mem_map.1 hc
  exact hne q (List.mem_append_left _ hq)
 have n2:∀ out,beforeGo p.key b out ((r.drop (i+1)).map rowChain)=out:=fun out=>beforeGo_none fun c hc=>by
  obtain⟨q,hq,rfl⟩:=List.mem_map.1 hc
  exact hne q (List.mem_append_right _ hq)
 rw[hsp,List.map_append,beforeGo_append,n1,List.map_cons]
 simp only[beforeGo]
 rw[n2]
 simp[rowChain,bvs,hb]
theorem rowsAtGo_len {l0:List Chain}{b:Int}:∀ (l:List Chain) (out:List Pair),(rowsAtGo l0 b out l).1.length≤out.length+l.length
 | [],out=>by simp[rowsAtGo]
 |c::l,out=>by
  simp only[rowsAtGo]
  split
  ·
   simp
  split
  ·
   have:=rowsAtGo_len (l0:=l0) (b:=b) l (out++[⟨c.key,(before l0 c.key b).n⟩]);simp at this ⊢;omega
  ·
   have:=rowsAtGo_len (l0:=l0) (b:=b) l out;simp at this ⊢;omega
theorem rowsAt_len (l:List Chain) (b:Int):(rowsAt l b).1.length≤l.length:=by
 have:=rowsAtGo_len (l0:=l) (b:=b) l []
 unfold rowsAt
 simpa using this
theorem addS_len {k:Str}{b:Int}:∀ l:List Chain,(addS k b l).length≤l.length+1
 | []=>by simp[addS]
 |c::l=>by
  have:=addS_len (k:=k) (b:=b) l
  simp only[addS]
  split
  ·
   simp
  ·
   split
   ·
    simp;omega
   ·
    simp
theorem addS_vs {k:Str}{b:Int}{l:List Chain}{N:Nat}(h:∀ c∈l,c.vs.length≤N):∀ c∈addS k b l,c.vs.length≤N+1:=by
 intro c hc
 rcases addS_mem hc with h0|rfl|⟨c0,h0,_,rfl⟩
 ·
  have:=h c h0;omega
 ·
  simp
 ·
  have:=h c0 h0;simp;omega
theorem set_len (l:List Chain) (k:Str) (v:Version):(setChains l k v).length=l.length:=by simp[setChains]
theorem before_addS {k k':Str}{b b':Int}(h:k=k'→b≤b'):∀ {l:List Chain}{out:Version},beforeGo k b out (addS k' b' l)=beforeGo k b out l
 | [],out=>by
  simp only[addS,beforeGo,bvs,newV]
  by_cases hk:k'=k
  ·
   have:=h hk.symm
   simp;omega
  ·
   simp[hk]
 |c::l,out=>by
  simp only[addS]
  by_cases hk:c.key=k'
  ·
   rw[if_pos hk]
   simp only[beforeGo,bvs_append,bvs,newV]
   by_cases hc:c.key=k
   ·
    have:=h (by rw[← hc,hk])
    rw[if_neg (by simp;omega)]
   ·
    simp[hc]
  ·
   rw[if_neg hk]
   split
   ·
    simp only[beforeGo]
    exact before_addS h
   ·
    have h1:bvs (decide (k'=k)) b out [newV b']=out:=by
     simp only[bvs]
     by_cases hc:k'=k
     ·
      have:=h hc.symm
      have h2:¬ (newV b').by_ < b:=by show ¬ b' < b;omega
      rw[decide_eq_false h2];simp
     ·
      simp[hc]
    show beforeGo k b (bvs (decide (k'=k)) b out [newV b']) (c::l)=_
    rw[h1]
theorem ne_tail {c:Chain}{l:List Chain}(hs:Srt Chain.key (c::l)) {k:Str}(h:slt k c.key=true∨c.key=k):∀ d∈l,d.key≠k:=by
 intro d hd e
 have h1:=(List.pairwise_cons.1 hs).1 d hd
 rw[e]at h1
 rcases h with h|h
 ·
  have:=slt_trans h h1;rw[slt_irrefl]at this;cases this
 ·
  rw[h,slt_irrefl]at h1;cases h1
theorem slt_flip {a b:Str}(h:¬ slt a b=true) (hn:a≠b):slt b a=true:=by
 rcases slt_tri a b with h1|h1|h1
 ·
  exact absurd h1 h
 ·
  exact absurd h1 hn
 ·
  exact h1
theorem behind_set {k:Str}{b b':Int}{v:Version}(hv:v.by_=b') (hb:b' < b):∀ {l:List Chain}{out:Version},Srt Chain.key l→beforeGo k b out (setChains (addS k b' l) k v)=v
 | [],out,_=>by
  simp[addS,setChains,setC,setV,newV,beforeGo,bvs,hv,hb]
 |c::l,out,hs=>by
  simp only[addS]
  by_cases hk:c.key=k
  ·
   rw[if_pos hk]
   have hn:=ne_tail hs (.inr hk)
   have h0:∀ o,beforeGo k b o (setChains l k v)=o:=fun o=>beforeGo_none fun d hd=>by
    obtain⟨d0,h1,rfl⟩:=List.mem_map.1 hd
    exact hn d0 h1
   show beforeGo k b (bvs (decide (c.key=k)) b out ((c.vs++[newV b']).map (setV (decide (c.key=k)) v))) (setChains l k v)=v
   rw[h0,List.map_append,bvs_append]
   simp[hk,setV,newV,bvs,hv,hb]
  ·
   rw[if_neg hk]
   split
   ·
    show beforeGo k b _ (setChains (addS k b' l) k v)=v
    exact behind_set hv hb (List.pairwise_cons.1 hs).2
   ·
    next h2 =>
    have hn:=ne_tail hs (.inl (slt_flip h2 hk))
    have h0:∀ o,beforeGo k b o (setChains (c::l) k v)=o:=fun o=>beforeGo_none fun d hd=>by
     obtain⟨d0,h1,rfl⟩:=List.mem_map.1 hd
     rcases List.mem_cons.1 h1 with rfl|h1
     ·
      exact hk
     ·
      exact hn d0 h1
    show beforeGo k b (bvs (decide (k=k)) b out ([newV b'].map (setV (decide (k=k)) v))) (setChains (c::l) k v)=v
    rw[h0]
    simp[setV,newV,bvs,hv,hb]
theorem behind_add {k:Str}{b b':Int}(hb:b' < b) {l:List Chain}{out:Version}(hs:Srt Chain.key l):beforeGo k b out (addS k b' l)=newV b':=by
 have h:=behind_set (k:=k) (v:=newV b') (b':=b') rfl hb (l:=l) (out:=out) hs
 have h1:∀ w:Version,∀ hit,w.by_=b'→setV hit (newV b') w=w∨setV hit (newV b') w=newV b':=fun w hit _=>by
  unfold setV;split
  ·
   exact .inr rfl
  ·
   exact .inl rfl
 clear h1 h
 revert out
 induction l with
 |nil=>intro out;simp[addS,beforeGo,bvs,newV,hb]
 |cons c l ih =>
  intro out
  simp only[addS]
  by_cases hk:c.key=k
  ·
   rw[if_pos hk]
   have hn:=ne_tail hs (.inr hk)
   simp only[beforeGo]
   rw[beforeGo_none hn,bvs_append]
   simp[hk,newV,bvs,hb]
  ·
   rw[if_neg hk]
   split
   ·
    simp only[beforeGo]
    exact ih (List.pairwise_cons.1 hs).2
   ·
    next h2 =>
    have hn:=ne_tail hs (.inl (slt_flip h2 hk))
    have h0:∀ o,beforeGo k b o (c::l)=o:=fun o=>beforeGo_none fun d hd=>by
     rcases List.mem_cons.1 hd with rfl|h1
     ·
      exact hk
     ·
      exact hn d h1
    show beforeGo k b (bvs (decide (k=k)) b out [newV b']) (c::l)=_
    rw[h0]
    simp[newV,bvs,hb]
theorem clrV_ge {b:Int}:∀ {l:List Version},(∀ v∈l,b≤v.by_)→clrV b l=l
 | [],_=>rfl
 |v::l,h=>by
  have:=h v (List.mem_cons_self ..)
  have h1:decide (v.by_ < b)=false:=by simp;omega
  simp only[clrV]
  rw[if_neg (by simp[old,h1]),clrV_ge fun w hw=>h w (List.mem_cons_of_mem _ hw)]
theorem seen_clr2 {b at_:Int}(hba:b≤at_):∀ {l:List Version}{out:Version},VSrt l →
  bvs true at_ out (clrV b l)=bvs true at_ out l∨((bvs true at_ out l).made=true∧(bvs true at_ out l).has=false∧bvs true at_ out (clrV b l)=out∧(bvs true at_ out l).by_ < b)
 | [],out,_ => .inl rfl
 |v::l,out,hs=>by
  obtain⟨h1,h2⟩:=VSrt.cons.1 hs
  by_cases hva:v.by_ < at_
  ·
   have hge:b≤v.by_→clrV b l=l:=fun h=>clrV_ge fun w hw=>by have:=h1 w hw;omega
   by_cases hlt:later b l=true
   ·
    cases l with
    |nil=>simp[later]at hlt
    |cons w l' =>
     have hw:w.by_ < b:=by simpa[later] using hlt
     have hvb:v.by_ < b:=by have:=h1 w (List.mem_cons_self ..);omega
     have hold:old b (w::l') v=true:=by simp[old,later,hw,hvb]
     have ih:=seen_clr2 hba (out:=out) h2
     have hsame:bvs true at_ v (w::l')=bvs true at_ out (w::l'):=by
      simp only[bvs]
      rw[if_pos (by simp;omega),if_pos (by simp;omega)]
     have h5:clrV b (v::w::l')=clrV b (w::l'):=by rw[clrV,if_pos hold]
     rw[h5]
     have h4:bvs true at_ out (v::w::l')=bvs true at_ (if (true&&decide (v.by_ < at_))=true then v else out) (w::l'):=rfl
     rw[if_pos (by simp;omega)]at h4
     rw[h4,hsame]
     exact ih
   ·
    have hl:∀ w∈l,b≤w.by_:=by
     cases l with
     |nil=>simp
     |cons w l' =>
      have hw:¬ w.by_ < b:=by simpa[later] using hlt
      intro x hx
      rcases List.mem_cons.1 hx with rfl|hx
      ·
       omega
      ·
       have:=(VSrt.cons.1 h2).1 x hx;omega
    have hl0:later b l=false:=by simpa using hlt
    have hc:=clrV_ge hl
    simp only[clrV]
    rw[hc]
    by_cases hold:old b l v=true
    ·
     rw[if_pos hold]
     have h3:v.made=true∧v.has=false∧v.by_ < b:=by
      simp[old,hl0]at hold
      exact⟨hold.2.1,hold.2.2,hold.1⟩
     have h4:bvs true at_ out (v::l)=bvs true at_ v l:=by simp only[bvs];rw[if_pos (by simp;omega)]
     rw[h4]
     cases l with
     |nil=>exact .inr ⟨h3.1,h3.2.1,rfl,h3.2.2⟩
     |cons w l' =>
      by_cases hw:w.by_ < at_
      ·
       left
       simp only[bvs]
       rw[if_pos (by simp;omega),if_pos (by simp;omega)]
      ·
       have h5:∀ x∈w::l',at_≤x.by_:=fun x hx=>by
        rcases List.mem_cons.1 hx with rfl|hx
        ·
         omega
        ·
         have:=(VSrt.cons.1 h2).1 x hx;omega
       rw[bvs_ge h5,bvs_ge h5]
       exact .inr ⟨h3.1,h3.2.1,rfl,h3.2.2⟩
    ·
     rw[if_neg hold]
     exact .inl rfl
  ·
   have h3:∀ x∈v::l,at_≤x.by_:=fun x hx=>by
    rcases List.mem_cons.1 hx with rfl|hx
    ·
     omega
    ·
     have:=h1 x hx;omega
   rw[clrV_ge fun x hx=>by have:=h3 x hx;omega]
   exact .inl rfl
theorem seen_clear2 {b at_:Int}{k:Str}(hba:b≤at_):∀ {l:List Chain}{out:Version},Srt Chain.key l→(∀ c∈l,VSrt c.vs) →
  beforeGo k at_ out (clear b l)=beforeGo k at_ out l∨((beforeGo k at_ out l).made=true∧(beforeGo k at_ out l).has=false∧beforeGo k at_ out (clear b l)=out∧(beforeGo k at_ out l).by_ < b)
 | [],out,_,_ => .inl rfl
 |c::l,out,hs,hv=>by
  have h2:=(List.pairwise_cons.1 hs).2
  by_cases hk:c.key=k
  ·
   have hn:=ne_tail hs (.inr hk)
   have n1:∀ o,beforeGo k at_ o l=o:=fun o=>beforeGo_none hn
   have n2:∀ o,beforeGo k at_ o (clear b l)=o:=fun o=>beforeGo_none fun d hd=>by
    obtain⟨d0,h0,rfl⟩:=clear_mem hd
    exact hn d0 h0
   have h3:beforeGo k at_ out (c::l)=bvs true at_ out c.vs:=by
    simp only[beforeGo];rw[n1];simp[hk]
   have h4:beforeGo k at_ out (clear b (c::l))=bvs true at_ out (clrV b c.vs):=by
    simp only[clear]
    split
    ·
     next h=>rw[n2,h];rfl
    ·
     simp only[beforeGo];rw[n2];simp[hk]
   rw[h3,h4]
   exact seen_clr2 hba (hv c (List.mem_cons_self ..))
  ·
   have h3:beforeGo k at_ out (c::l)=beforeGo k at_ out l:=by
    simp only[beforeGo];simp[hk,bvs_false]
   have h4:beforeGo k at_ out (clear b (c::l))=beforeGo k at_ out (clear b l):=by
    simp only[clear]
    split
    ·
     rfl
    ·
     simp only[beforeGo];simp[hk,bvs_false]
   rw[h3,h4]
   exact seen_clear2 hba h2 fun d hd=>hv d (List.mem_cons_of_mem _ hd)
end Go.Proofs.YtfpkamiobdkcpaaGreatDoor
namespace Go.AX
open Go.RowKit
variable {cx:Cx}{σ σ':St}{a a':Act}{w w':World}{ops:Array Oper}
theorem wpAny_but {ts:List Tr}{s0:Nat}{Q:Exit→Act→World→Prop}(hA:∀ i o,ops[i]? = some o→i≠s0→∃ t,ts[i]? = some t∧TrOk cx ops o t) (hlen:ts.length=ops.size) (hfit:Fit ops.toList ts) :
  ∀ (fuel:Nat) (listed:Array Bool) (σ:St) (a:Act) (w:World),listed.size=ops.size→listed.getD s0 true=true→Closed ops listed→Run (left ts listed 0) σ→(left ts listed 0).length=fuel→Sim cx σ a w →
   (∀ a' w',Sim cx (fin (left ts listed 0) σ) a' w'→Q .normal a' w')→wpAny cx.P .any ops Q fuel listed a w:=by
 intro fuel
 induction fuel with
 |zero =>
  intro listed σ a w hsz hls hcl hrun hl hs hq
  have hnil:left ts listed 0=[]:=List.eq_nil_of_length_eq_zero hl
  refine⟨?_,hq a w (by rw[hnil];exact hs)⟩
  refine List.eq_nil_iff_forall_not_mem.2 fun i hi=>?_
  obtain⟨h1,o,ho,_⟩:=mem_ready.1 hi
  have:=left_nil hnil i (by rw[hlen];exact(Array.getElem?_eq_some_iff.1 ho).1)
  rw[Nat.zero_add,h1]at this
  cases this
 |succ fuel ih =>
  intro listed σ a w hsz hls hcl hrun hl hs hq
  refine⟨fun hr=>?_,fun i hi=>?_⟩
  ·
   have hne:left ts listed 0≠[]:=by intro e;rw[e]at hl;simp at hl
   obtain⟨i,h1,h2,h3⟩:=left_ne hne
   rw[Nat.zero_add]at h2
   have hi:i < ops.size:=by omega
   have hm:i∈Region.ready .any ops listed:=mem_ready.2 ⟨h2,ops[i],Array.getElem?_eq_getElem hi,fun j hj=>by
    have hj':=hfit.down i ops[i] (by simp[hi]) j hj
    have:=h3 j hj'
    rw[Nat.zero_add]at this
    rw[← getD_tf (by omega)];exact this⟩
   rw[hr]at hm
   cases hm
  ·
   obtain⟨h1,o,ho,h2⟩:=mem_ready.1 hi
   have hi':i < ops.size:=(Array.getElem?_eq_some_iff.1 ho).1
   have his:i≠s0:=fun e=>by subst e;rw[hls]at h1;cases h1
   obtain⟨t,ht,htr⟩:=hA i o ho his
   obtain⟨pre,post,h3,h4,h5⟩:=left_split (k:=0) ht (by rw[Nat.zero_add];exact h1) (by omega)
   rw[Nat.zero_add]at h4
   rw[h3]at hrun hq hl
   have hap:∀ s∈pre,Apart s t:=by
    intro s hsm
    obtain⟨j,h6,h7,h8⟩:=h5 s hsm
    rw[Nat.zero_add]at h8
    rcases hfit.apart i j s t h6 h7 ht with h9|h9
    ·
     exfalso
     have hanc:∀ m,m∈edges o→Anc ops.toList j m→False:=fun m hm hma=>by
      have hml:listed.getD m false=true:=h2 m hm
      have hms:=hfit.down i o (by simpa using ho) m hm
      have:=hcl.anc hsz hma (by rw[getD_tf (by omega)];exact hml) (by omega)
      rw[← getD_tf (by omega)]at this
      rw[h8]at this;cases this
     cases h9 with
     |one ho' h =>
      rw[show ops.toList[i]? = some o by simpa using ho]at ho'
      cases ho'
      have:=h2 j h
      rw[← getD_tf (by omega)]at this
      rw[h8]at this;cases this
     |step ho' h hm =>
      rw[show ops.toList[i]? = some o by simpa using ho]at ho'
      cases ho'
      exact hanc _ h hm
    ·
     exact h9
   obtain⟨h6,h7⟩:=Run.front hap hrun
   unfold wpOp
   rw[ho]
   have hstep:=htr σ a w (wpAny cx.P .any ops Q fuel (listed.setIfInBounds i true)) Q hs h6.1 fun a' w' hs'=>by
    refine ih _ _ a' w' (by simp[hsz]) (by simpa only[Array.getD_eq_getD_getElem?,Array.getElem?_setIfInBounds,if_neg his] using hls) (fun i' o' ho' hi2 hli j hj=>?_) (by rw[h4];exact h6.2) (by rw[h4];simp at hl ⊢;omega) hs' (fun a2 w2 hs2=>hq a2 w2 ?_)
    ·
     by_cases he:i'=i
     ·
      subst he
      rw[ho]at ho'
      cases ho'
      have hne:j≠i':=fun e=>by have:=hfit.down i' o (by simpa using ho) j hj;omega
      simp only[Array.getD_eq_getD_getElem?,Array.getElem?_setIfInBounds,if_neg (show ¬ i'=j from fun e=>hne e.symm)]
      simpa only[Array.getD_eq_getD_getElem?] using h2 j hj
     ·
      have hli':listed.getD i' true=true:=by
       simpa only[Array.getD_eq_getD_getElem?,Array.getElem?_setIfInBounds,if_neg (show ¬ i=i' from fun e=>he e.symm)] using hli
      have hjl:=hcl i' o' ho' (by simpa using hi2) hli' j hj
      by_cases hji:i=j
      ·
       subst hji
       simp[Array.getD_eq_getD_getElem?,hsz,hi']
      ·
       simpa only[Array.getD_eq_getD_getElem?,Array.getElem?_setIfInBounds,if_neg hji] using hjl
    ·
     rw[h4]at hs2
     exact hs2.eqv h7.symm
   dsimp only
   split
   ·
    rename_i hw;rw[if_pos hw]at hstep;exact .inl hstep
   ·
    rename_i hw;rw[if_neg hw]at hstep;exact hstep
theorem wpAny_fam {ι:Type}{ts:ι→List Tr}{s0:Nat}{os:Oper}{rs:List (Key×Val)}{Q:Exit→Act→World→Prop}(x0:ι) (hA:∀ x i o,ops[i]? = some o→i≠s0→∃ t,(ts x)[i]? = some t∧TrOk cx ops o t)
  (hpre:∀ x i,i < s0→(ts x)[i]? = (ts x0)[i]?) (hlen:∀ x,(ts x).length=ops.size) (hfit:∀ x,Fit ops.toList (ts x))
  (hos:ops[s0]? = some os) (hgs:os.guard=none) (hrs:∀ x,∃ t,(ts x)[s0]? = some t∧t.rd=rs)
  (hsp:∀ (σ:St) (a:Act) (w:World) (K:Act→World→Prop) (Q:Exit→Act→World→Prop),Sim cx σ a w→App σ rs→(∀ x t a' w',(ts x)[s0]? = some t→Sim cx (t.wr++σ) a' w'→K a' w')→os.wp cx.P a w K Q)
  (hanc:∀ i,s0 < i→i < ops.size→Anc ops.toList s0 i) :
  ∀ (fuel:Nat) (listed:Array Bool) (σ:St) (a:Act) (w:World),listed.size=ops.size→listed.getD s0 true=false→Closed ops listed→(∀ x,Run (left (ts x) listed 0) σ)→(∀ x,(left (ts x) listed 0).length=fuel)→Sim cx σ a w →
   (∀ x a' w',Sim cx (fin (left (ts x) listed 0) σ) a' w'→Q .normal a' w')→wpAny cx.P .any ops Q fuel listed a w:=by
 intro fuel
 induction fuel with
 |zero =>
  intro listed σ a w hsz hls hcl hrun hl hs hq
  have hnil:left (ts x0) listed 0=[]:=List.eq_nil_of_length_eq_zero (hl x0)
  have:=left_nil hnil s0 (by rw[hlen];exact(Array.getElem?_eq_some_iff.1 hos).1)
  rw[Nat.zero_add,hls]at this
  cases this
 |succ fuel ih =>
  intro listed σ a w hsz hls hcl hrun hl hs hq
  refine⟨fun hr=>?_,fun i hi=>?_⟩
  ·
   have hne:left (ts x0) listed 0≠[]:=by intro e;have:=hl x0;rw[e]at this;simp at this
   obtain⟨i,h1,h2,h3⟩:=left_ne hne
   rw[Nat.zero_add]at h2
   have hi:i < ops.size:=by have:=hlen x0;omega
   have hm:i∈Region.ready .any ops listed:=mem_ready.2 ⟨h2,ops[i],Array.getElem?_eq_getElem hi,fun j hj=>by
    have hj':=(hfit x0).down i ops[i] (by simp[hi]) j hj
    have:=h3 j hj'
    rw[Nat.zero_add]at this
    rw[← getD_tf (by omega)];exact this⟩
   rw[hr]at hm
   cases hm
  ·
   obtain⟨h1,o,ho,h2⟩:=mem_ready.1 hi
   have hi':i < ops.size:=(Array.getElem?_eq_some_iff.1 ho).1
   -- the listed places are closed still
   have hcl':Closed ops (listed.setIfInBounds i true):=fun i' o' ho' hi2 hli j hj=>by
    by_cases he:i'=i
    ·
     subst he
     rw[ho]at ho'
     cases ho'
     have hne:j≠i':=fun e=>by have:=(hfit x0).down i' o (by simpa using ho) j hj;omega
     simp only[Array.getD_eq_getD_getElem?,Array.getElem?_setIfInBounds,if_neg (show ¬ i'=j from fun e=>hne e.symm)]
     simpa only[Array.getD_eq_getD_getElem?] using h2 j hj
    ·
     have hli':listed.getD i' true=true:=by
      simpa only[Array.getD_eq_getD_getElem?,Array.getElem?_setIfInBounds,if_neg (show ¬ i=i' from fun e=>he e.symm)] using hli
     have hjl:=hcl i' o' ho' (by simpa using hi2) hli' j hj
     by_cases hji:i=j
     ·
      subst hji
      simp[Array.getD_eq_getD_getElem?,hsz,hi']
     ·
      simpa only[Array.getD_eq_getD_getElem?,Array.getElem?_setIfInBounds,if_neg hji] using hjl
   -- what stands ahead of it in the text,and is still to come,is apart from it
   have hapx:∀ (x:ι) (t:Tr) (pre:List Tr),(ts x)[i]? = some t→(∀ s∈pre,∃ j,j < i∧(ts x)[j]? = some s∧listed.getD (0+j) true=false)→∀ s∈pre,Apart s t:=by
    intro x t pre ht h5 s hsm
    obtain⟨j,h6,h7,h8⟩:=h5 s hsm
    rw[Nat.zero_add]at h8
    rcases(hfit x).apart i j s t h6 h7 ht with h9|h9
    ·
     exfalso
     have hanc2:∀ m,m∈edges o→Anc ops.toList j m→False:=fun m hm hma=>by
      have hml:listed.getD m false=true:=h2 m hm
      have hms:=(hfit x).down i o (by simpa using ho) m hm
      have:=hcl.anc hsz hma (by rw[getD_tf (by omega)];exact hml) (by omega)
      rw[← getD_tf (by omega)]at this
      rw[h8]at this;cases this
     cases h9 with
     |one ho' h =>
      rw[show ops.toList[i]? = some o by simpa using ho]at ho'
      cases ho'
      have:=h2 j h
      rw[← getD_tf (by omega)]at this
      rw[h8]at this;cases this
     |step ho' h hm =>
      rw[show ops.toList[i]? = some o by simpa using ho]at ho'
      cases ho'
      exact hanc2 _ h hm
    ·
     exact h9
   by_cases his:i=s0
   ·
    -- the special one
    subst his
    rw[hos]at ho
    cases ho
    unfold wpOp
    rw[hos]
    have hrs0:App σ rs:=by
     obtain⟨t,ht,htr⟩:=hrs x0
     obtain⟨pre,post,h3,h4,h5⟩:=left_split (k:=0) ht (by rw[Nat.zero_add];exact h1) (by omega)
     have hr0:=hrun x0
     rw[h3]at hr0
     have:=(Run.front (hapx x0 t pre ht h5) hr0).1.1
     rwa [htr]at this
    have hstep:=hsp σ a w (wpAny cx.P .any ops Q fuel (listed.setIfInBounds i true)) Q hs hrs0 fun x t a' w' ht hs'=>by
     obtain⟨pre,post,h3,h4,h5⟩:=left_split (k:=0) ht (by rw[Nat.zero_add];exact h1) (by omega)
     rw[Nat.zero_add]at h4
     have hr0:=hrun x
     have hl0:=hl x
     rw[h3]at hr0 hl0
     obtain⟨h6,h7⟩:=Run.front (hapx x t pre ht h5) hr0
     refine wpAny_but (s0:=i) (hA x) (hlen x) (hfit x) fuel _ _ a' w' (by simp[hsz]) (by simp[Array.getD_eq_getD_getElem?,hsz,hi']) hcl' (by rw[h4];exact h6.2) (by rw[h4];simp at hl0 ⊢;omega) hs' fun a2 w2 hs2=>hq x a2 w2 ?_
     rw[h4]at hs2
     rw[h3]
     exact hs2.eqv h7.symm
    dsimp only
    rw[if_pos (by simp[Region.wanted,hgs])]
    exact .inl hstep
   ·
    -- one ahead of it
    have hlt:i < s0:=by
     rcases Nat.lt_or_ge i s0 with h|h
     ·
      exact h
     ·
      exfalso
      have ha:=hanc i (by omega) hi'
      cases ha with
      |one ho' h =>
       rw[show ops.toList[i]? = some o by simpa using ho]at ho'
       cases ho'
       have:=h2 s0 h
       have hs0:s0 < ops.size:=(Array.getElem?_eq_some_iff.1 hos).1
       rw[← getD_tf (by omega),hls]at this;cases this
      |@step _ _ m _ ho' h hm =>
       rw[show ops.toList[i]? = some o by simpa using ho]at ho'
       cases ho'
       have hml:listed.getD m false=true:=h2 m h
       have hms:=(hfit x0).down i o (by simpa using ho) m h
       have:=hcl.anc hsz hm (by rw[getD_tf (by omega)];exact hml) (by omega)
       have hs0:s0 < ops.size:=(Array.getElem?_eq_some_iff.1 hos).1
       rw[← getD_tf (by omega),hls]at this;cases this
    obtain⟨t,ht,htr⟩:=hA x0 i o ho his
    have htx:∀ x,(ts x)[i]? = some t:=fun x=>(hpre x i hlt).trans ht
    have hspl:∀ x,App σ t.rd∧Run (left (ts x) (listed.setIfInBounds i true) 0) (t.wr++σ)∧(left (ts x) (listed.setIfInBounds i true) 0).length=fuel ∧
      Eqv (fin (left (ts x) listed 0) σ) (fin (left (ts x) (listed.setIfInBounds i true) 0) (t.wr++σ)):=by
     intro x
     obtain⟨pre,post,h3,h4,h5⟩:=left_split (k:=0) (htx x) (by rw[Nat.zero_add];exact h1) (by omega)
     rw[Nat.zero_add]at h4
     have hr0:=hrun x
     have hl0:=hl x
     rw[h3]at hr0 hl0
     obtain⟨h6,h7⟩:=Run.front (hapx x t pre (htx x) h5) hr0
     rw[h3,h4]
     exact⟨h6.1,h6.2,by simp at hl0 ⊢;omega,h7⟩
    unfold wpOp
    rw[ho]
    have hstep:=htr σ a w (wpAny cx.P .any ops Q fuel (listed.setIfInBounds i true)) Q hs (hspl x0).1 fun a' w' hs' =>
     ih _ _ a' w' (by simp[hsz]) (by simpa only[Array.getD_eq_getD_getElem?,Array.getElem?_setIfInBounds,if_neg his] using hls) hcl' (fun x=>(hspl x).2.1) (fun x=>(hspl x).2.2.1) hs' fun x a2 w2 hs2=>hq x a2 w2 (hs2.eqv (hspl x).2.2.2.symm)
    dsimp only
    split
    ·
     rename_i hw;rw[if_pos hw]at hstep;exact .inl hstep
    ·
     rename_i hw;rw[if_neg hw]at hstep;exact hstep
end Go.AX
namespace Go.AX
open Go.RowKit
variable {cx:Cx}{σ σ':St}{a a':Act}{w w':World}{ops:Array Oper}{Q:Exit→St→Prop}
variable {ty:TypeId}{pos:String}{af:Array Edge}{gd:Option (Nat×Bool)}{d nx:Nat}{g:Nat→Value}
theorem Run.append:∀ {t1 t2:List Tr}{σ:St},Run t1 σ→Run t2 (fin t1 σ)→Run (t1++t2) σ∧fin (t1++t2) σ=fin t2 (fin t1 σ)
 | [],t2,σ,_,h=>⟨h,rfl⟩
 |t::t1,t2,σ,h1,h2=>by
  obtain⟨h3,h4⟩:=Run.append h1.2 h2
  exact⟨⟨h1.1,h3⟩,h4⟩
def ancB (s0:Nat):Nat→List Oper→Bool
 |_,[]=>true
 |i,o::l=>(Nat.ble i s0 || (edges o).any fun j=>Nat.ble s0 j&&Nat.blt j i)&&ancB s0 (i+1) l
theorem ancB_at {s0:Nat}:∀ {l:List Oper}{k i:Nat}{o:Oper},ancB s0 k l=true→l[i]? = some o→s0 < k+i→∃ j∈edges o,s0≤j∧j < k+i
 | [],k,i,o,_,h,_=>by simp at h
 |o'::l,k,i,o,h,ho,hs=>by
  simp only[ancB,Bool.and_eq_true,Bool.or_eq_true]at h
  cases i with
  |zero =>
   obtain rfl:o'=o:=by simpa using ho
   rcases h.1 with h1|h1
   ·
    have:=Nat.le_of_ble_eq_true h1;omega
   ·
    obtain⟨j,hj,hb⟩:=List.any_eq_true.1 h1
    simp only[Bool.and_eq_true]at hb
    exact⟨j,hj,Nat.le_of_ble_eq_true hb.1,by have:=hb.2;simp[Nat.blt_eq]at this;omega⟩
  |succ i =>
   obtain⟨j,h1,h2,h3⟩:=ancB_at (k:=k+1) (i:=i) h.2 (by simpa using ho) (by omega)
   exact⟨j,h1,h2,by omega⟩
theorem anc_of {s0:Nat}{l:List Oper}(h:ancB s0 0 l=true):∀ (n i:Nat),i < n→s0 < i→i < l.length→Anc l s0 i
 |0,i,hn,_,_=>by omega
 |n+1,i,hn,hs,hl=>by
  obtain⟨j,h1,h2,h3⟩:=ancB_at (k:=0) (i:=i) h (List.getElem?_eq_getElem hl) (by omega)
  rcases Nat.lt_or_ge s0 j with h4|h4
  ·
   exact .step (List.getElem?_eq_getElem hl) h1 (anc_of h n j (by omega) h4 (by omega))
  ·
   obtain rfl:j=s0:=by omega
   exact .one (List.getElem?_eq_getElem hl) h1
theorem CW.drawF {ι:Type}(x0:ι) {id:Nat}{l l1 l2:List Oper}{os:Oper}{tS:ι→Tr}{rs:List (Key×Val)}(hl:l=l1++os::l2) (hgs:os.guard=none) (hrs:∀ x,(tS x).rd=rs)
  (hsp:∀ (σ:St) (a:Act) (w:World) (K:Act→World→Prop) (Q:Exit→Act→World→Prop),Sim cx σ a w→App σ rs→(∀ x a' w',Sim cx ((tS x).wr++σ) a' w'→K a' w')→os.wp cx.P a w K Q)
  (hanc:ancB l1.length 0 l=true)
  (h:RW cx l.toArray (fun ts1 σ1=>App σ1 rs∧∀ x,RW cx l.toArray (fun ts2 σ2=>chk [] [] l (ts1++tS x::ts2)=true∧Q .normal σ2) [] l2 ((tS x).wr++σ1)) [] l1 σ):CW cx (.region id l.toArray true) Q σ:=by
 obtain⟨ts1,σ1,h1,h2,h3⟩:=h
 rw[List.nil_append]at h3
 obtain⟨F,hF⟩:∃ F:ι→List Tr×St,∀ x,Steps' cx l.toArray l2 ((tS x).wr++σ1) (F x).1 (F x).2∧chk [] [] l (ts1++tS x::(F x).1)=true∧Q .normal (F x).2:=by
  refine⟨fun x=>(Classical.choose (h3 x),Classical.choose (Classical.choose_spec (h3 x))),fun x=>?_⟩
  have:=Classical.choose_spec (Classical.choose_spec (h3 x))
  exact⟨this.1,by simpa using this.2.1,this.2.2⟩
 have hlenA:∀ {ops:Array Oper} {l:List Oper} {ts:List Tr},All2 cx ops l ts→ts.length=l.length:=by
  intro ops l
  induction l with
  |nil=>intro ts h;cases ts with
   |nil=>rfl
   |cons t ts=>exact h.elim
  |cons o l ih=>intro ts h;cases ts with
   |nil=>exact h.elim
   |cons t ts=>simp[ih h.2]
 have hA1:=h1.trs
 have hl1:=hlenA hA1
 have hl2:∀ x,(F x).1.length=l2.length:=fun x=>hlenA (hF x).1.trs
 have hleft:∀ (ts:List Tr) (n k:Nat),k+ts.length≤n→left ts (Array.replicate n false) k=ts:=by
  intro ts
  induction ts with
  |nil=>intro n k _;rfl
  |cons t ts ih =>
   intro n k hk
   simp at hk
   have h0:(Array.replicate n false).getD k true=false:=by simp[Array.getD,show k < n by omega]
   simp only[left,h0]
   rw[if_neg (by simp),ih n (k+1) (by omega)]
 have hsz:l.toArray.size=l1.length+(l2.length+1):=by subst hl;simp
 have hl0:∀ x,left (ts1++tS x::(F x).1) (Array.replicate l.toArray.size false) 0=ts1++tS x::(F x).1:=fun x=>hleft _ _ _ (by have:=hl2 x;rw[hsz];simp;omega)
 have hrun:∀ x,Run (ts1++tS x::(F x).1) σ∧fin (ts1++tS x::(F x).1) σ=(F x).2:=fun x=>by
  obtain⟨r1,r2⟩:=h1.run
  obtain⟨r3,r4⟩:=(hF x).1.run
  obtain⟨r5,r6⟩:=Run.append (t2:=tS x::(F x).1) r1 (by rw[r2];exact⟨by rw[hrs];exact h2,r3⟩)
  exact⟨r5,by rw[r6,r2];exact r4⟩
 intro a w hs
 refine wp_region_any cx.mixed (wpAny_fam (ts:=fun x=>ts1++tS x::(F x).1) (s0:=l1.length) (os:=os) (rs:=rs) x0 (fun x i o ho hne=>?_) (fun x i hi=>?_) (fun x=>by have:=hl2 x;rw[hsz];simp;omega) (fun x=>fit_of_chk (hF x).2.1) (by subst hl;simp) hgs (fun x=>⟨tS x,by simp[← hl1],hrs x⟩)
  (fun σ a w K Q hs ha hK=>hsp σ a w K Q hs ha fun x a' w' hs'=>hK x (tS x) a' w' (by simp[← hl1]) hs') (fun i hi hil=>anc_of hanc (i+1) i (by omega) hi (by simpa using hil)) l.toArray.size _ σ a _ (by simp) ?_ (fun i o _ hi hli=>?_) (fun x=>by rw[hl0];exact(hrun x).1) (fun x=>by rw[hl0];have:=hl2 x;rw[hsz];simp;omega) hs.drawn fun x a' w' hs'=>⟨(F x).2,by rw[hl0,(hrun x).2]at hs';exact hs',(hF x).2.2⟩)
 ·
  have ho':l[i]? = some o:=by simpa using ho
  rw[hl]at ho'
  rcases Nat.lt_or_ge i l1.length with hi|hi
  ·
   rw[List.getElem?_append_left hi]at ho'
   obtain⟨t,h4,h5⟩:=hA1.at ho'
   exact⟨t,by rw[List.getElem?_append_left (by omega)];exact h4,h5⟩
  ·
   rw[List.getElem?_append_right hi]at ho'
   obtain⟨j,rfl⟩:∃ j,i=l1.length+(j+1):=⟨i - l1.length - 1,by omega⟩
   rw[show l1.length+(j+1) - l1.length=j+1 by omega,List.getElem?_cons_succ]at ho'
   obtain⟨t,h4,h5⟩:=(hF x).1.trs.at ho'
   exact⟨t,by rw[List.getElem?_append_right (by omega),hl1,show l1.length+(j+1) - l1.length=j+1 by omega,List.getElem?_cons_succ];exact h4,h5⟩
 ·
  show(ts1++tS x::(F x).1)[i]? = (ts1++tS x0::(F x0).1)[i]?
  rw[List.getElem?_append_left (by omega),List.getElem?_append_left (by omega)]
 ·
  simp[Array.getD,hsz]
 ·
  have h9:i < l.length:=by simpa using hi
  simp[Array.getD]at hli
  omega
theorem fam_newpin {f:FuncId}{xs:List Operand}{avs:List AV}{ys:List Arg}{l:List (Key×Val)}{e k:Nat}{rows:List (List D)}{ats:Array TypeId}(hd:Nat.blt d cx.n=true) (hc:FnNew cx.P f ys e k rows) (hsub:Subs xs avs ys l)
  (σ:St) (a:Act) (w:World) (K:Act→World→Prop) (Q:Exit→Act→World→Prop) (hs:Sim cx σ a w) (hr:App σ (l++[(.nx,.num nx)]))
  (hK:∀ (x:Option Addr×Nat×Nat) a' w',Sim cx ([(.s d,.av (.d (.v (.slice x.1 x.2.1 x.2.2)))),(.o nx,.ob (.pin e k rows (.slice x.1 x.2.1 x.2.2))),(.nx,.num (nx+1))]++σ) a' w'→K a' w') :
  Oper.wp cx.P ⟨some d,.call { callee := .value (.func f),args:=⟨xs⟩,argTypes:=ats },ty,pos,af,gd⟩ a w K Q:=by
 obtain⟨g,n',hs⟩:=hs
 have hnx:n'=nx:=by
  have h2:=hr.right.1
  rw[hs.hnx]at h2
  simpa using h2
 subst hnx
 have hcall:=hc.calls w (cx.own g σ) (xs.map a.eval) ⟨fun b hb=>own_lt hs hb,hs.gl⟩ (hsub.ok hs hr.left)
 unfold Oper.wp
 rw[call_run hc.run]
 refine hcall.mono fun r w' he=>?_
 obtain⟨v,rfl,hb,hres⟩:=he
 have hG:=SimG.join hs hb hres (.inr rfl)
 have hsl:∃ p n c,v = .slice p n c:=by
  obtain⟨xs,h1,_⟩:=hres
  rcases h1.2 with ⟨h,_⟩|⟨g,cap,cur,h,_⟩
  ·
   exact⟨_,_,_,h⟩
  ·
   exact⟨_,_,_,h⟩
 obtain⟨p,n,c,rfl⟩:=hsl
 exact hK (p,n,c) _ _ (Sim.put hG (lt_of_blt hd) (Below.refl _ _) (av := .d (.v (.slice p n c))) (Rd.v _) trivial)
theorem own2_ret {t e k e2 k2 id n id2:Nat}{rowsF:Value→List (List D)}{rows2:List (List D)}{x:Value}(h1:get σ (.s t) = .av (.own id n)) (h2:get σ (.o id) = .ob (.arr e k (rowsF x))) (h3:n=(rowsF x).length)
  (h4:get σ (.o id2) = .ob (.pin e2 k2 rows2 x)):own2Q t e k rowsF e2 k2 rows2 .ret σ:=⟨id,n,id2,x,h1,h2,h3,h4⟩
end Go.AX
namespace Go.AX
open Go.RowKit
variable {cx:Cx}{g:Nat→Value}{σ σ':St}{a:Act}{w w':World}{nx:Nat}{c:Code}{Q:Exit→St→Prop}
variable {ty:TypeId}{pos:String}{af:Array Edge}{gd:Option (Nat×Bool)}{d:Nat}
variable {ops:Array Oper}{rest:List Oper}{o:Oper}
theorem SW.s1 {rd wr:List (Key×Val)}(ha:autA cx σ o=some ⟨rd,wr⟩) (h:SW cx ops Q rest (wr++σ)):SW cx ops Q (o::rest) σ:=by
 obtain⟨dst,op,ty,pos,af,gd⟩:=o
 cases gd with
 |some p=>cases ha
 |none =>
  simp only[autA]at ha
  split at ha
  ·
   next hd =>
   obtain⟨h1,h2⟩:=trA_ok (cx:=cx) (ty:=ty) (pos:=pos) (af:=af) (gd:=none) hd ha
   exact SW.step rfl ⟨h1,h2⟩ h
  ·
   cases ha
theorem SW.s5 {rd wr:List (Key×Val)}(ho:OA cx σ o ⟨rd,wr⟩) (hg:o.guard=none) (h:SW cx ops Q rest (wr++σ)):SW cx ops Q (o::rest) σ:=SW.step hg ho h
theorem SW.nil (h:Q .normal σ):SW cx ops Q [] σ:=fun a w hs=>wpList_nil ⟨σ,hs,h⟩
theorem SW.stut {t:Tr}{l:List Oper}(hs:Stut cx t) (ha:App σ t.rd) (h:SW cx ops Q l (t.wr++σ)):SW cx ops Q l σ:=fun a w hsim=>h a w (hs σ a w hsim ha)
theorem CW.fact {p:Prop}(hf:∀ a w,Sim cx σ a w→p) (h:p→CW cx c Q σ):CW cx c Q σ:=fun a w hs=>h (hf a w hs) a w hs
theorem SW.fact {p:Prop}{l:List Oper}(hf:∀ a w,Sim cx σ a w→p) (h:p→SW cx ops Q l σ):SW cx ops Q l σ:=fun a w hs=>h (hf a w hs) a w hs
theorem pin_shape {id e k:Nat}{rows:List (List D)}{x:Value}(ho:get σ (.o id) = .ob (.pin e k rows x)) (h0:rows≠[]) (a:Act) (w:World) (hs:Sim cx σ a w):∃ b cp,x = .slice (some ⟨b,0,none⟩) rows.length cp:=by
 obtain⟨g,nx,hs⟩:=hs
 obtain⟨_,⟨hgx,xs,h1,_⟩,_⟩:=hs.objs id _ ho
 rcases h1.2 with ⟨_,hn⟩|⟨b,cap,cur,hv,_⟩
 ·
  exact absurd (List.eq_nil_of_length_eq_zero hn) h0
 ·
  exact⟨b,cap,by rw[← hgx];exact hv⟩
theorem pin_slice {id e k:Nat}{rows:List (List D)}{x:Value}(ho:get σ (.o id) = .ob (.pin e k rows x)) (a:Act) (w:World) (hs:Sim cx σ a w):∃ p cp,x = .slice p rows.length cp:=by
 obtain⟨g,nx,hs⟩:=hs
 obtain⟨_,⟨hgx,xs,h1,_⟩,_⟩:=hs.objs id _ ho
 rcases h1.2 with ⟨hv,hn⟩|⟨b,cap,cur,hv,_⟩
 ·
  exact⟨none,0,by rw[← hgx,hv,hn]⟩
 ·
  exact⟨_,cap,by rw[← hgx];exact hv⟩
theorem stut_unpin {i id e k:Nat}{rows:List (List D)}{x:Value} :
  Stut cx ⟨[(.s i,.av (.d (.v x))),(.o id,.ob (.pin e k rows x)),(.nx,.num nx)],[(.s i,.av (.own nx rows.length)),(.o nx,.ob (.arr e k rows)),(.nx,.num (nx+1)),(.o id,.none)]⟩:=by
 intro σ a w hs hr
 exact sim_unpin i id e k nx rows x hr.1 hr.2.1 hr.2.2.1 hs
theorem ok_iav {t:TypeId}{x y:Operand}{b n cp k i:Nat}{kd:IntKind}{ti:TI}(hd:d < cx.n) (hx:EvS x (.d (.v (.slice (some ⟨b,0,none⟩) n cp)))) (hy:EvS y (.d (.v (.int kd (i:Int))))) (ht:tget cx.T t=some ti) (hk:slK ti=some k) (hi:i < n) :
  OpOk cx ⟨some d,.indexAddr t x y,ty,pos,af,gd⟩ ⟨rdOf x (.d (.v (.slice (some ⟨b,0,none⟩) n cp)))++rdOf y (.d (.v (.int kd (i:Int)))),[(.s d,.av (.d (.v (.pointer (some ⟨b,i*k,none⟩)))))]⟩:=by
 refine ok_val rfl hd fun σ a w g nx hs hr=>?_
 obtain⟨_,ie,hu,hie,hks,_⟩:=slice_of (cx.hT t ti ht) hk
 have hv:=rep_v (hs.ev hx hr.left).1
 have hy':=rep_v (hs.ev hy hr.right).1
 refine⟨.pointer (some ⟨b,i*k,none⟩),w,?_,Below.refl _ _,Rd.v _,trivial⟩
 have:(⟨b,0,none⟩:Addr).add (i*k)=⟨b,i*k,none⟩:=by rw[add_lit,Nat.zero_add]
 simp[execOp,hy',hv,Instr.indexAt,asIntOf,run_underlying hu,sizeOf,typeInfo,hie,hks,this]
 omega
theorem ok_fav {t:TypeId}{x:Operand}{b q:Nat}{ti:TI}{fl off:Nat}(hd:d < cx.n) (hx:EvS x (.d (.v (.pointer (some ⟨b,q,none⟩))))) (ht:tget cx.T t=some ti) (hf:fldOff ti fl=some off) :
  OpOk cx ⟨some d,.fieldAddr t x fl,ty,pos,af,gd⟩ ⟨rdOf x (.d (.v (.pointer (some ⟨b,q,none⟩)))),[(.s d,.av (.d (.v (.pointer (some ⟨b,q+off,none⟩)))))]⟩:=by
 refine ok_val rfl hd fun σ a w g nx hs hr=>?_
 have hv:=rep_v (hs.ev hx hr).1
 refine⟨.pointer (some ⟨b,q+off,none⟩),w,?_,Below.refl _ _,Rd.v _,trivial⟩
 have h2:=fieldAt_of (cx.hT t ti ht) hf ⟨b,q,none⟩ w
 rw[add_lit]at h2
 simp[execOp,hv,h2]
theorem ok_load_pin {t:TypeId}{x:Operand}{id n i f e k b cp q:Nat}{rows:List (List D)}{r:List D}{ti:TI}{y:D}(hd:d < cx.n) (hx:EvS x (.d (.v (.pointer (some ⟨b,q,none⟩))))) (ht:tget cx.T t=some ti) (hq:q=i*k+f) (hr:rows[i]? = some r)
  (hl:ldD ti (r.drop f)=some y) :
  OpOk cx ⟨some d,.load t x,ty,pos,af,gd⟩ ⟨rdOf x (.d (.v (.pointer (some ⟨b,q,none⟩))))++[(.o id,.ob (.pin e k rows (.slice (some ⟨b,0,none⟩) n cp)))],[(.s d,.av (.d y))]⟩:=by
 refine ok_val rfl hd fun σ a w g nx hs hrd=>?_
 have ho:get σ (.o id) = .ob (.pin e k rows (.slice (some ⟨b,0,none⟩) n cp)):=hrd.right.1
 subst hq
 have hv:=rep_v (hs.ev hx hrd.left).1
 obtain⟨_,⟨hgx,xs,h1,h2,h3,h4⟩,_⟩:=hs.objs id _ ho
 have hb:blk (g id)=some b:=by rw[hgx];rfl
 have hil:=(List.getElem?_eq_some_iff.1 hr).1
 have hrk:=h3 r (List.mem_of_getElem? hr)
 have hc:RdCells w (cx.own g σ) ⟨b,i*k+f,none⟩ (r.drop f):=by
  intro j z hz
  rw[List.getElem?_drop]at hz
  have hj:f+j < k:=by rw[← hrk];exact(List.getElem?_eq_some_iff.1 hz).1
  have hlen:i*k+(f+j) < xs.length:=by
   rw[h1.1]
   have h5:(i+1)*k≤rows.length*k:=Nat.mul_le_mul_right _ hil
   rw[Nat.add_mul,Nat.one_mul]at h5
   omega
  refine⟨xs[i*k+(f+j)],?_,h2 _ (List.getElem_mem _),h4 i (f+j) r z _ hr hz (List.getElem?_eq_getElem hlen)⟩
  rw[add_lit,show i*k+f+j=i*k+(f+j) by omega]
  have:=h1.cells (g:=b) (by rw[← blk_own h1];exact hb) (i*k+(f+j)) _ (List.getElem?_eq_getElem hlen)
  rw[add_lit,Nat.zero_add]at this
  exact this
 obtain⟨v,h5,h6⟩:=run_load_cells (cx.hT t ti ht) hc hl
 have h5':(loadVar t ⟨b,i*k+f,none⟩).run cx.P w = .ok v w:=by simpa[Instr.loadAt,Instr.sureAddr] using h5
 exact⟨v,w,by simp[execOp,hv,Instr.loadAt,Instr.sureAddr,h5'],Below.refl _ _,h6,trivial⟩
theorem ok_store_pin {t:TypeId}{x y:Operand}{id n i f e k b cp q:Nat}{rows:List (List D)}{r new:List D}{av:AV}{ti:TI}(hx:EvS x (.d (.v (.pointer (some ⟨b,q,none⟩))))) (hy:EvS y av) (ht:tget cx.T t=some ti) (hc:dcells av=some new)
  (hq:q=i*k+f) (hr:rows[i]? = some r) (hnn:Nat.beq new.length ti.n=true) (hle:f+new.length≤r.length) :
  OpOk cx ⟨none,.store t x y,ty,pos,af,gd⟩ ⟨rdOf x (.d (.v (.pointer (some ⟨b,q,none⟩))))++(rdOf y av++[(.o id,.ob (.pin e k rows (.slice (some ⟨b,0,none⟩) n cp)))]),[(.o id,.ob (.pin e k (rows.set i (splice r f new)) (.slice (some ⟨b,0,none⟩) n cp)))]⟩:=by
 rintro σ a w K Q ⟨g,nx,hs⟩ hrd hK
 have ho:get σ (.o id) = .ob (.pin e k rows (.slice (some ⟨b,0,none⟩) n cp)):=hrd.right.right.1
 subst hq
 have hv:=rep_v (hs.ev hx hrd.left).1
 obtain⟨hav,hbd⟩:=hs.ev hy hrd.right.left
 obtain⟨hidn,⟨hgx,xs,h1,h2,h3,h4⟩,_⟩:=hs.objs id _ ho
 have hb:blk (g id)=some b:=by rw[hgx];rfl
 obtain⟨c1,c2,c3⟩:=dcells_ok hs hav hc
 have hF:=cx.hT t ti ht
 have hnn':new.length=ti.n:=by simpa using hnn
 have hil:=(List.getElem?_eq_some_iff.1 hr).1
 have hrk:=h3 r (List.mem_of_getElem? hr)
 have h5:(i+1)*k≤rows.length*k:=Nat.mul_le_mul_right _ hil
 rw[Nat.add_mul,Nat.one_mul]at h5
 rcases h1.2 with ⟨_,h6⟩|⟨b',cap,cur,hv',hge,hh,hle',hcm,hsz,htk⟩
 ·
  omega
 have hbb:b'=b:=by rw[hv']at hb;simpa[blk] using hb
 subst hbb
 generalize hX:a.eval y=X at hav c1 c2 c3
 have hlen:X.cells.toList.length=new.length:=c1
 have hcap:rows.length*k≤cap*k:=Nat.mul_le_mul_right _ hle'
 have hst:=run_storeCells_at (P:=cx.P) b' (i*k+f) e X.cells.toList 0 cur w hh (by rw[hlen];omega) c2
 simp only[Nat.add_zero]at hst
 have hX':X.cells.size=ti.n:=by rw[← hnn',← hlen];simp
 have hrun:(Instr.storeAt t (.pointer (some ⟨b',i*k+f,none⟩)) X).run cx.P w = .ok () (w.setRow b' (splice cur.toList (i*k+f) X.cells.toList).toArray):=by
  simp[Instr.storeAt,Instr.sureAddr,storeVar,sizeOf_of hF w,hX',hst,splice]
 generalize hcs':(splice cur.toList (i*k+f) X.cells.toList).toArray=cs' at hrun
 have hheap:(w.setRow b' cs').heap[b']? = some (.cells cs' e (0,0)):=setRow_heap w b' cur cs' e (0,0) hh
 have hle2:i*k+f+X.cells.toList.length≤cur.toList.length:=by rw[hlen];simp;omega
 have hrows:(rows.set i (splice r f new)).length=rows.length:=by simp
 have hOS:ObjStep cx σ g nx nx w (w.setRow b' cs') id (.pin e k (rows.set i (splice r f new)) (.slice (some ⟨b',0,none⟩) n cp)) (g id):=by
  refine⟨.inr ⟨rfl,.pin e k rows (.slice (some ⟨b',0,none⟩) n cp),ho,trivial⟩,⟨rfl,rfl,rfl,by simp,fun k hk=>setRow_other w b' k cs' (by omega)⟩,fun b hb hne=>setRow_other w b' b cs' (fun e=>hne _ ho (by rw[hv',e];rfl)),fun b hb => .inl ⟨_,ho,hb⟩⟩
 have hxs':cs'.toList.take (rows.length*k)=splice xs (i*k+f) X.cells.toList:=by
  subst hcs'
  apply List.ext_getElem?
  intro j
  have hxl:xs.length=rows.length*k:=h1.1
  rw[List.getElem?_take]
  show(if j < rows.length*k then (splice cur.toList (i*k+f) X.cells.toList)[j]? else none)=_
  rw[splice_get hle2,splice_get (l:=xs) (by rw[hxl,hlen];omega)]
  by_cases hj:j < rows.length*k
  ·
   rw[if_pos hj]
   split
   ·
    rfl
   ·
    rw[← htk,List.getElem?_take,if_pos hj]
  ·
   rw[if_neg hj,if_neg (by rw[hlen];omega),List.getElem?_eq_none (by omega)]
 have hG:=SimG.obj hs hOS (fun hlat=>?_) trivial
 ·
  unfold Oper.wp
  simp only[execOp,hv,hX,Sem.run_bind,hrun,Result.andThen_ok,Sem.run_pure,Oper.upon,Act.put]
  refine hK _ _ (Sim.eqv ⟨_,_,hG⟩ fun k=>?_)
  cases k with
  |s i=>rw[objSt_s];exact(get_cons_ne (by simp)).symm
  |o i =>
   by_cases hi:i=id
   ·
    subst hi;rw[get_cons_same];exact get_cons_same.symm
   ·
    rw[objSt_o hi];exact(get_cons_ne (by simpa using fun e=>hi e.symm)).symm
  |nx=>rw[objSt_nx];exact hs.hnx.symm.trans (get_cons_ne (by simp)).symm
 ·
  have hsl:(splice xs (i*k+f) X.cells.toList).length=xs.length:=splice_len (by rw[h1.1,hlen];omega)
  refine⟨(upd_same _ _ _).trans hgx,splice xs (i*k+f) X.cells.toList,⟨by rw[hsl,h1.1,hrows],.inr ⟨b',cap,cs',?_,hge,hheap,by rw[hrows];exact hle',hcm,?_,by rw[hrows];exact hxs'⟩⟩,fun x hx=>?_,fun r' hr'=>?_,fun i' j r' z x hi' hj hx=>?_⟩
  ·
   rw[upd_same,hv',hrows]
  ·
   subst hcs';rw[← hsz];simpa using splice_len hle2
  ·
   obtain⟨j,hj⟩:=List.getElem?_of_mem hx
   rw[splice_get (by rw[h1.1,hlen];omega)]at hj
   split at hj
   ·
    exact c2 x (List.mem_of_getElem? hj)
   ·
    exact h2 x (List.mem_of_getElem? hj)
  ·
   rcases List.mem_or_eq_of_mem_set hr' with h|h
   ·
    exact h3 r' h
   ·
    subst h;rw[splice_len hle,hrk]
  ·
   have hjk:j < k:=by
    have hm:r'∈rows.set i (splice r f new):=List.mem_of_getElem? hi'
    have:r'.length=k:=by
     rcases List.mem_or_eq_of_mem_set hm with h|h
     ·
      exact h3 r' h
     ·
      subst h;rw[splice_len hle,hrk]
    rw[← this];exact(List.getElem?_eq_some_iff.1 hj).1
   rw[splice_get (by rw[h1.1,hlen];omega)]at hx
   by_cases hii:i=i'
   ·
    subst hii
    rw[List.getElem?_set_self hil]at hi'
    cases hi'
    rw[splice_get hle]at hj
    by_cases hin:f≤j∧j < f+new.length
    ·
     rw[if_pos hin]at hj
     rw[if_pos (by rw[hlen];omega),show i*k+j - (i*k+f)=j - f by omega]at hx
     exact(c3 (j - f) x z hj hx).step hlat.ext hlat.own
    ·
     rw[if_neg hin]at hj
     rw[if_neg (by rw[hlen];omega)]at hx
     exact(h4 i j r z x hr hj hx).step hlat.ext hlat.own
   ·
    rw[List.getElem?_set_ne hii]at hi'
    have hout:¬ (i*k+f≤i'*k+j∧i'*k+j < i*k+f+X.cells.toList.length):=by
     rw[hlen]
     rcases Nat.lt_or_ge i' i with hlt|hge
     ·
      have:=Nat.mul_le_mul_right k hlt
      rw[Nat.succ_mul]at this
      omega
     ·
      have:=Nat.mul_le_mul_right k (show i+1≤i' by omega)
      rw[Nat.add_mul,Nat.one_mul]at this
      omega
    rw[if_neg hout]at hx
    exact(h4 i' j r' z x hi' hj hx).step hlat.ext hlat.own
theorem a_iav {t:TypeId}{x y:Operand}{b n cp k i:Nat}{kd:IntKind}{ti:TI}(hx:ev σ x=some (.d (.v (.slice (some ⟨b,0,none⟩) n cp)))) (hy:ev σ y=some (.d (.v (.int kd (i:Int))))) (ht:tget cx.T t=some ti) (hk:slK ti=some k) (hd:Nat.blt d cx.n=true) (hi:i < n) :
  OA cx σ ⟨some d,.indexAddr t x y,ty,pos,af,gd⟩ ⟨rdOf x (.d (.v (.slice (some ⟨b,0,none⟩) n cp)))++rdOf y (.d (.v (.int kd (i:Int)))),[(.s d,.av (.d (.v (.pointer (some ⟨b,i*k,none⟩)))))]⟩ :=
 ⟨ok_iav (lt_of_blt hd) (ev_out hx).1 (ev_out hy).1 ht hk hi,(ev_out hx).2.append (ev_out hy).2⟩
theorem a_fav {t:TypeId}{x:Operand}{b q:Nat}{ti:TI}{fl off:Nat}(hx:ev σ x=some (.d (.v (.pointer (some ⟨b,q,none⟩))))) (ht:tget cx.T t=some ti) (hf:fldOff ti fl=some off) (hd:Nat.blt d cx.n=true) :
  OA cx σ ⟨some d,.fieldAddr t x fl,ty,pos,af,gd⟩ ⟨rdOf x (.d (.v (.pointer (some ⟨b,q,none⟩)))),[(.s d,.av (.d (.v (.pointer (some ⟨b,q+off,none⟩)))))]⟩ :=
 ⟨ok_fav (lt_of_blt hd) (ev_out hx).1 ht hf,(ev_out hx).2⟩
theorem a_lpin {t:TypeId}{x:Operand}(id i f:Nat) {n e k b cp q:Nat}{rows:List (List D)}{r:List D}{ti:TI}{y:D}(hx:ev σ x=some (.d (.v (.pointer (some ⟨b,q,none⟩))))) (ho:get σ (.o id) = .ob (.pin e k rows (.slice (some ⟨b,0,none⟩) n cp))) (ht:tget cx.T t=some ti)
  (hd:Nat.blt d cx.n=true) (hr:rows[i]? = some r) (hl:ldD ti (r.drop f)=some y) (hq:q=i*k+f) :
  OA cx σ ⟨some d,.load t x,ty,pos,af,gd⟩ ⟨rdOf x (.d (.v (.pointer (some ⟨b,q,none⟩))))++[(.o id,.ob (.pin e k rows (.slice (some ⟨b,0,none⟩) n cp)))],[(.s d,.av (.d y))]⟩ :=
 ⟨ok_load_pin (lt_of_blt hd) (ev_out hx).1 ht hq hr hl,(ev_out hx).2.append ⟨ho,trivial⟩⟩
theorem a_spin {t:TypeId}{x y:Operand}(id i f:Nat) {n e k b cp q:Nat}{rows:List (List D)}{r new:List D}{av:AV}{ti:TI}(hx:ev σ x=some (.d (.v (.pointer (some ⟨b,q,none⟩))))) (ho:get σ (.o id) = .ob (.pin e k rows (.slice (some ⟨b,0,none⟩) n cp))) (hy:ev σ y=some av) (ht:tget cx.T t=some ti)
  (hc:dcells av=some new) (hnn:Nat.beq new.length ti.n=true) (hr:rows[i]? = some r) (hle:Nat.ble (f+new.length) r.length=true) (hq:q=i*k+f) :
  OA cx σ ⟨none,.store t x y,ty,pos,af,gd⟩ ⟨rdOf x (.d (.v (.pointer (some ⟨b,q,none⟩))))++(rdOf y av++[(.o id,.ob (.pin e k rows (.slice (some ⟨b,0,none⟩) n cp)))]),[(.o id,.ob (.pin e k (rows.set i (splice r f new)) (.slice (some ⟨b,0,none⟩) n cp)))]⟩ :=
 ⟨ok_store_pin (ev_out hx).1 (ev_out hy).1 ht hc hq hr hnn (by simpa using hle),(ev_out hx).2.append ((ev_out hy).2.append ⟨ho,trivial⟩)⟩
end Go.AX
namespace Go.AX
open Go.RowKit
variable {cx:Cx}{g:Nat→Value}{σ σ':St}{a:Act}{w w':World}{nx:Nat}{c:Code}{Q:Exit→St→Prop}
variable {ty:TypeId}{pos:String}{af:Array Edge}{gd:Option (Nat×Bool)}{d:Nat}
theorem ok_lenv {t tt:TypeId}{x:Operand}{p:Option Addr}{n cp k:Nat}{ti:TI}(hd:d < cx.n) (hx:EvS x (.d (.v (.slice p n cp)))) (ht:tget cx.T t=some ti) (hk:slK ti=some k) :
  OpOk cx ⟨some d,.call { callee := .builtin .len,args := #[x],argTypes := #[t] },tt,pos,af,gd⟩ ⟨rdOf x (.d (.v (.slice p n cp))),[(.s d,.av (.d (.v (.int .i64 n))))]⟩:=by
 refine ok_val rfl hd fun σ a w g nx hs hr=>?_
 obtain⟨_,ie,hu,_⟩:=slice_of (cx.hT t ti ht) hk
 have hv:=rep_v (hs.ev hx hr).1
 exact⟨.int .i64 n,w,by simp[execOp,resolve,invoke,builtin,hv,Builtin.len_,run_underlying hu,goInt],Below.refl _ _,Rd.v _,trivial⟩
theorem a_lenv {t tt:TypeId}{x:Operand}{p:Option Addr}{n cp k:Nat}{ti:TI}(hx:ev σ x=some (.d (.v (.slice p n cp)))) (ht:tget cx.T t=some ti) (hk:slK ti=some k) (hd:Nat.blt d cx.n=true) :
  OA cx σ ⟨some d,.call { callee := .builtin .len,args := #[x],argTypes := #[t] },tt,pos,af,gd⟩ ⟨rdOf x (.d (.v (.slice p n cp))),[(.s d,.av (.d (.v (.int .i64 n))))]⟩ :=
 ⟨ok_lenv (lt_of_blt hd) (ev_out hx).1 ht hk,(ev_out hx).2⟩
theorem SimG.drop (hG:SimG cx σ a w g nx) (id:Nat):SimG cx ((.o id,.none)::σ) a w g nx:=by
 have hl:=Less.drop ⟨g,nx,hG⟩ id
 have hlat:Later cx g g σ ((.o id,.none)::σ) w w nx:=by
  refine⟨Ext.refl _ _,Below.refl _ _,fun b hb=>?_,fun j o' _ h=>⟨o',hl.o _ _ h,?_⟩⟩
  ·
   rcases hb with hb|⟨j,o,h5,h6⟩
   ·
    exact .inl (.inl hb)
   ·
    exact .inl (.inr ⟨j,o,hl.o _ _ h5,h6⟩)
  ·
   cases o' <;> simp[ObLe]
 exact hG.next hlat ((get_cons_ne (by simp)).trans hG.hnx) (Nat.le_refl _) hG.size hG.defers (Below.refl _ _) (fun j av hj => .inl ⟨hl.s _ _ hj,rfl⟩) (fun j o hj => .inl ⟨hl.o _ _ hj,rfl,fun _ _=>rfl⟩)
  (fun j j' o o' b h1 h2=>hG.sep j j' o o' b (hl.o _ _ h1) (hl.o _ _ h2))
theorem stut_fold {id id2 i j e k e2 k2:Nat}{rows rows2:List (List D)}{r:List D}{x:Value}(hi:rows[i]? = some r) (hj:r[j]? = some (.v x)) :
  Stut cx ⟨[(.o id,.ob (.arr e k rows)),(.o id2,.ob (.pin e2 k2 rows2 x))],[(.o id,.ob (.arr e k (rows.set i (r.set j (.sl k2 rows2))))),(.o id2,.none)]⟩:=by
 rintro σ a w ⟨g,nx,hG⟩ hr
 have ho:get σ (.o id) = .ob (.arr e k rows):=hr.1
 have ho2:get σ (.o id2) = .ob (.pin e2 k2 rows2 x):=hr.2.1
 have hne:id2≠id:=fun he=>by subst he;rw[ho2]at ho;cases ho
 obtain⟨_,⟨hgx,hp⟩,_⟩:=hG.objs id2 _ ho2
 have hp':RowsAt w cx.w0.heap.size (cx.own g σ) e2 k2 (g id2) rows2:=hp
 have hG3:=hG.drop id2
 have ho':get ((.o id2,.none)::σ) (.o id) = .ob (.arr e k rows):=(get_cons_ne (by simpa using hne)).trans ho
 have hown:∀ b,cx.own g ((.o id2,.none)::σ) b→cx.own g σ b∧blk (g id2)≠some b:=by
  rintro b (h|⟨q,o,h1,h2⟩)
  ·
   refine⟨.inl h,fun hb=>?_⟩
   have h3:=obj_ge hG ho2 hb
   have h4:=hG.own0.1 b h
   omega
  ·
   have hq:q≠id2:=fun e=>by subst e;rw[get_cons_same]at h1;cases h1
   rw[get_cons_ne (by simpa using fun e=>hq e.symm)]at h1
   exact⟨.inr ⟨q,o,h1,h2⟩,fun hb=>hq (hG.sep q id2 o _ b h1 ho2 h2 hb)⟩
 have hrd:Rd w (cx.own g ((.o id2,.none)::σ)) x (.sl k2 rows2):=by rw[← hgx];exact hp'.rd hown
 have hR:=(objRows hG3 ho').at hi hj hrd
 exact⟨g,nx,hG3.reob ho' (o' := .arr e k (rows.set i (r.set j (.sl k2 rows2)))) ⟨rfl,rfl,by simp,fun _=>rfl⟩ hR trivial⟩
end Go.AX
namespace Go.AX
open Go.RowKit
section
variable {P:Program}{t:TypeId}
theorem bin_bneq {a b:Bool}(h:P.underlying t=some .bool):BinR P .neq t (.bool a) (.bool b) (.bool (!decide (a=b))):=by
 intro w x y
 rw[Sem.run_bind,eqGuard_at_bool,Sem.run_pure,Result.andThen_ok,run_neq_bool _ _ _ _ h]
 cases a <;> cases b <;> rfl
theorem bin_beql {a b:Bool}(h:P.underlying t=some .bool):BinR P .eql t (.bool a) (.bool b) (.bool (decide (a=b))):=by
 intro w x y
 simp only[Sem.run_bind,eqGuard_at_bool,Sem.run_pure,Result.andThen_ok,binOp,run_equal_bool _ _ _ _ h]
 cases a <;> cases b <;> rfl
end
variable {cx:Cx}{g:Nat→Value}{σ σ':St}{a:Act}{w w':World}{nx:Nat}
variable {ty:TypeId}{pos:String}{af:Array Edge}{gd:Option (Nat×Bool)}{d:Nat}
inductive AggV:AV→List Value→Prop
 |d {ds:List D} {us:List Value} (h:ds=us.map D.v):AggV (.d (.agg ds)) us
 |a {cs:List AV} {us:List Value} (h:cs=us.map fun u=>AV.d (.v u)):AggV (.agg cs) us
theorem rep_aggv {v:Value}{av:AV}{us:List Value}(h:AggV av us) (hr:Rep cx g σ w v av):v = .agg us.toArray:=by
 cases h with
 |d h=>subst h;exact rd_agg_v hr
 |a h =>
  subst h
  obtain⟨cs,rfl,hs,_,hr⟩:=hr
  congr 1
  apply Array.ext_getElem?
  intro j
  have hs':cs.size=us.length:=by simpa using hs
  rcases Nat.lt_or_ge j us.length with hj|hj
  ·
   have h1:=hr j cs[j] (.d (.v us[j])) (by simp[List.getElem?_map,List.getElem?_eq_getElem hj]) (Array.getElem?_eq_getElem (by omega))
   have h2:cs[j]=us[j]:=rd_v h1
   rw[Array.getElem?_eq_getElem (by omega)]
   simp[h2]
  ·
   rw[Array.getElem?_eq_none (by omega)]
   simp[hj]
end Go.AX
namespace Go.AX
open Go.RowKit
variable {cx:Cx}{g:Nat→Value}{σ σ':St}{a:Act}{w w':World}{nx:Nat}
variable {ty:TypeId}{pos:String}{af:Array Edge}{gd:Option (Nat×Bool)}{d:Nat}
def refP (ds:List D) (w:World) (own:Nat→Prop) (v:Value):Prop:=∃ ad:Addr,v = .pointer (some ad)∧¬ own ad.block∧ad.block < w.heap.size∧RdCells w own ad ds
def refD (ds:List D):D := .x (refP ds)
def mapP (M:List (List UInt8×Value)) (w:World) (own:Nat→Prop) (v:Value):Prop:=∃ b es clock,v = .map (some b)∧¬ own b∧b < w.heap.size∧w.heap[b]? = some (.map es clock)∧MapIs es M
def mapD (M:List (List UInt8×Value)):D := .x (mapP M)
def fnP (f:FuncId) (ds:List D) (w:World) (own:Nat→Prop) (v:Value):Prop:=∃ cs:Array Value,v = .func (.func f) #[] cs∧cs.size=ds.length∧∀ (j:Nat) (x:D) (c:Value),ds[j]? = some x→cs[j]? = some c→Rd w own c x
def fnD (f:FuncId) (ds:List D):D := .x (fnP f ds)
theorem ref_stable (ds:List D):Stable (refP ds):=by
 rintro own own' w w' v hx ho ⟨ad,rfl,h1,h2,h3⟩
 refine⟨ad,rfl,fun h=>?_,Nat.lt_of_lt_of_le h2 hx.size,h3.step hx ho fun j=>hx.cell (by rw[add_block];exact h2) (by rw[add_block];exact h1)⟩
 rcases ho _ h with h|h
 ·
  exact h1 h
 ·
  omega
theorem map_stable (M:List (List UInt8×Value)):Stable (mapP M):=by
 rintro own own' w w' v hx ho ⟨b,es,clock,rfl,h1,h2,h3,h4⟩
 refine⟨b,es,clock,rfl,fun h=>?_,Nat.lt_of_lt_of_le h2 hx.size,(hx.block b h2 h1).trans h3,h4⟩
 rcases ho _ h with h|h
 ·
  exact h1 h
 ·
  omega
theorem fn_stable (f:FuncId) (ds:List D):Stable (fnP f ds):=by
 rintro own own' w w' v hx ho ⟨cs,rfl,h1,h2⟩
 exact⟨cs,rfl,h1,fun j x c hj hc=>(h2 j x c hj hc).step hx ho⟩
theorem rd_x {own:Nat→Prop}{v:Value}{p:World→(Nat→Prop)→Value→Prop}(h:Rd w own v (.x p)):p w own v:=by
 generalize hD:D.x p=D0 at h
 cases h with
 |v=>cases hD
 |sl=>cases hD
 |agg=>cases hD
 |nil=>cases hD
 |x p v h1 hst hp=>cases hD;exact hp
theorem rd_ref {own:Nat→Prop}{v:Value}{ds:List D}(h:refP ds w own v):Rd w own v (refD ds):=by
 obtain⟨ad,rfl,_⟩:=id h
 exact .x _ _ rfl (ref_stable ds) h
theorem rd_map {own:Nat→Prop}{v:Value}{M:List (List UInt8×Value)}(h:mapP M w own v):Rd w own v (mapD M):=by
 obtain⟨b,es,clock,rfl,_⟩:=id h
 exact .x _ _ rfl (map_stable M) h
theorem rd_fn {own:Nat→Prop}{v:Value}{f:FuncId}{ds:List D}(h:fnP f ds w own v):Rd w own v (fnD f ds):=by
 obtain⟨cs,rfl,_⟩:=id h
 exact .x _ _ rfl (fn_stable f ds) h
theorem stut_refpd {i:Nat}{ds:List D}:Stut cx ⟨[(.s i,.av (.d (refD ds)))],[(.s i,.av (.pd ds))]⟩:=by
 rintro σ a w ⟨g,nx,hG⟩ hr
 obtain⟨ad,h1,h2,h3,h4⟩:=rd_x (hG.slots i _ hr.1).1
 exact Sim.retell hG (av := .pd ds) ⟨ad,h1,.inr h2,h3,h4⟩ trivial
theorem own_drop (hs:SimG cx σ a w g nx) {id:Nat}{o:Ob}(ho:get σ (.o id) = .ob o) {b:Nat}(hb:cx.own g ((.o id,.none)::σ) b):cx.own g σ b∧blk (g id)≠some b:=by
 rcases hb with h|⟨j,o1,h1,h2⟩
 ·
  refine⟨.inl h,fun hb=>?_⟩
  have h3:=obj_ge hs ho hb
  have h4:=hs.own0.1 b h
  omega
 ·
  by_cases hj:id=j
  ·
   subst hj;rw[get_cons_same]at h1;cases h1
  ·
   rw[get_cons_ne (by simpa using hj)]at h1
   exact⟨.inr ⟨j,o1,h1,h2⟩,fun hb=>hj (hs.sep id j _ o1 b ho h1 hb h2)⟩
theorem stut_freezebox {i id:Nat}{cells:List AV}{ds:List D}(hc:cells=ds.map AV.d):Stut cx ⟨[(.s i,.av (.ptr id 0)),(.o id,.ob (.box cells))],[(.s i,.av (.d (refD ds))),(.o id,.none)]⟩:=by
 subst hc
 rintro σ a w hs hr
 have hs0:=hs
 obtain⟨g,nx,hG⟩:=hs0
 have ho:get σ (.o id) = .ob (.box (ds.map AV.d)):=hr.2.1
 obtain⟨b0,hg0,hv⟩:=(hG.slots i _ hr.1).1.2 _ ho
 obtain⟨_,⟨b,cs,t,h0,h1,h2,h3,h4,h5⟩,_⟩:=hG.objs id _ ho
 obtain rfl:b0=b:=by rw[hg0]at h0;simpa using h0
 have hl:=Less.drop hs id
 have hlat:Later cx g g σ ((.o id,.none)::σ) w w nx:=by
  refine⟨Ext.refl _ _,Below.refl _ _,fun b hb => .inl (own_drop hG ho hb).1,fun j o' _ h=>⟨o',hl.o _ _ h,?_⟩⟩
  cases o' <;> simp[ObLe]
 have hG2:SimG cx ((.o id,.none)::σ) a w g nx :=
  hG.next hlat ((get_cons_ne (by simp)).trans hG.hnx) (Nat.le_refl _) hG.size hG.defers (Below.refl _ _) (fun j av hj => .inl ⟨hl.s _ _ hj,rfl⟩) (fun j o hj => .inl ⟨hl.o _ _ hj,rfl,fun _ _=>rfl⟩)
   (fun j j' o o' b h1 h2=>hG.sep j j' o o' b (hl.o _ _ h1) (hl.o _ _ h2))
 have hlt:b0 < w.heap.size:=by
  rcases Nat.lt_or_ge b0 w.heap.size with h|h
  ·
   exact h
  ·
   rw[Array.getElem?_eq_none h]at h2;cases h2
 refine Sim.retell hG2 (av := .d (refD ds)) (rd_ref ⟨_,hv,fun h=>(own_drop hG ho h).2 (by rw[hg0];rfl),hlt,fun j z hz=>?_⟩) trivial
 have hjl:j < cs.size:=by rw[h3];simpa using(List.getElem?_eq_some_iff.1 hz).1
 have hcs:cs[j]? = some cs[j]:=Array.getElem?_eq_getElem hjl
 refine⟨cs[j],by rw[add_lit];simp[World.cell?,h2,hcs],h4 _ _ hcs,?_⟩
 exact Rd.less (fun b hb=>(own_drop hG ho hb).1) (h5 j _ (.d z) (by rw[List.getElem?_map,hz];rfl) hcs)
theorem argsOk_get {own:Nat→Prop}:∀ {vs:List Value}{ds:List D},ArgsOk w own vs (ds.map Arg.d)→vs.length=ds.length∧∀ (j:Nat) (x:D) (c:Value),ds[j]? = some x→vs[j]? = some c→Rd w own c x
 | [],[],_=>⟨rfl,by simp⟩
 |v::vs,y::ds,h=>by
  obtain⟨h1,h2⟩:=argsOk_get h.2
  refine⟨by simp[h1],fun j x c hj hc=>?_⟩
  cases j with
  |zero=>simp at hj hc;subst hj;subst hc;exact h.1
  |succ j=>exact h2 j x c (by simpa using hj) (by simpa using hc)
 | [],y::ds,h=>h.elim
 |v::vs,[],h=>h.elim
theorem argsOk_append {own:Nat→Prop}:∀ {vs us:List Value}{xs ys:List Arg},ArgsOk w own vs xs→ArgsOk w own us ys→ArgsOk w own (vs++us) (xs++ys)
 | [],us,[],ys,_,h=>h
 |v::vs,us,x::xs,ys,h,h'=>⟨h.1,argsOk_append h.2 h'⟩
 | [],us,x::xs,ys,h,_=>h.elim
 |v::vs,us,[],ys,h,_=>h.elim
theorem a_mkfn {f:FuncId}{xs:List Operand}{avs:List AV}{ds:List D}{l:List (Key×Val)}(hd:Nat.blt d cx.n=true) (hsub:SubsE σ xs avs (ds.map Arg.d) l) :
  OA cx σ ⟨some d,.makeFunc (.func f) #[] ⟨xs⟩,ty,pos,af,gd⟩ ⟨l,[(.s d,.av (.d (fnD f ds)))]⟩:=by
 refine⟨ok_val rfl (lt_of_blt hd) fun σ1 a w g nx hs hr=>⟨.func (.func f) #[] (xs.map a.eval).toArray,w,?_,Below.refl _ _,?_,trivial⟩,hsub.out.2⟩
 ·
  simp[execOp,Instr.makeFunc]
 ·
  obtain⟨h1,h2⟩:=argsOk_get (hsub.out.1.ok hs hr)
  exact rd_fn ⟨_,rfl,by simpa using h1,fun j x c hj hc=>h2 j x c hj (by simpa using hc)⟩
inductive Caps:List D→List Arg→Prop
 |nil:Caps [] []
 |ref {cs ds:List D} {zs:List Arg} (h:Caps ds zs):Caps (refD cs::ds) (.pd cs::zs)
 |d {x:D} {ds:List D} {zs:List Arg} (h:Caps ds zs):Caps (x::ds) (.d x::zs)
theorem Caps.ok {own:Nat→Prop}{ds:List D}{zs:List Arg}(h:Caps ds zs):∀ {vs:List Value},vs.length=ds.length→(∀ (j:Nat) (x:D) (c:Value),ds[j]? = some x→vs[j]? = some c→Rd w own c x)→ArgsOk w own vs zs:=by
 induction h with
 |nil =>
  intro vs hl _
  obtain rfl:vs=[]:=List.eq_nil_of_length_eq_zero hl
  trivial
 |@ref cs ds zs h ih =>
  intro vs hl hr
  cases vs with
  |nil=>simp at hl
  |cons v vs =>
   obtain⟨ad,h1,_,h2,h3⟩:=rd_x (hr 0 _ v rfl rfl)
   exact⟨⟨ad,h1,h2,h3⟩,ih (by simpa using hl) fun j x c hj hc=>hr (j+1) x c (by simpa using hj) (by simpa using hc)⟩
 |@d x ds zs h ih =>
  intro vs hl hr
  cases vs with
  |nil=>simp at hl
  |cons v vs=>exact⟨hr 0 _ v rfl rfl,ih (by simpa using hl) fun j x c hj hc=>hr (j+1) x c (by simpa using hj) (by simpa using hc)⟩
theorem callfn_run {P:Program}{f:FuncId}{ys:List Arg}{r:Res}(hc:FnOk P f ys r) {ev:Operand→Value}{z:Operand}{xs:List Operand}{ats:Array TypeId}{dd:Option Nat}{cs:Array Value}(hv:ev z = .func (.func f) #[] cs) :
  (execOp ev ⟨dd,.call { callee := .value z,args:=⟨xs⟩,argTypes:=ats },ty,pos,af,gd⟩).run P w = .ok (.enter f (xs.map ev++cs.toList).toArray) w:=by
 obtain⟨fn,h1,h2,h3⟩:=hc.run
 simp only[execOp,resolve,Deferred.ofValue,hv,invoke,callFunc,Sem.run_bind,Sem.run_pure,Result.andThen_ok,run_program,h1,h2,h3,Bool.false_eq_true,if_false]
 simp
theorem a_callfn {f:FuncId}{z:Operand}{xs:List Operand}{avs:List AV}{ys zs:List Arg}{l:List (Key×Val)}{r:Res}{ats:Array TypeId}{ds:List D}(hc:FnOk cx.P f (ys++zs) r) (hcap:Caps ds zs)
  (hz:ev σ z=some (.d (fnD f ds))) (hd:Nat.blt d cx.n=true) (hsub:SubsE σ xs avs ys l) :
  OA cx σ ⟨some d,.call { callee := .value z,args:=⟨xs⟩,argTypes:=ats },ty,pos,af,gd⟩ ⟨rdOf z (.d (fnD f ds))++l,[(.s d,.av r.av)]⟩:=by
 refine⟨?_,(ev_out hz).2.append hsub.out.2⟩
 rintro σ1 a w K Q ⟨g,nx,hs⟩ hr hK
 obtain⟨cs,hv,h1,h2⟩:=rd_x (hs.ev (ev_out hz).1 hr.left).1
 have hcall:=hc.calls w (cx.own g σ1) (xs.map a.eval++cs.toList) ⟨fun b hb=>own_lt hs hb,hs.gl⟩ (argsOk_append (hsub.out.1.ok hs hr.right) (hcap.ok (by simpa using h1) fun j x c hj hc=>h2 j x c hj (by simpa using hc)))
 unfold Oper.wp
 rw[callfn_run hc hv]
 refine hcall.mono fun e w' he=>?_
 obtain⟨v,rfl,hb,hres⟩:=he
 obtain⟨h1,h2⟩:=Res.rep (nx:=nx) hres
 exact hK _ _ (Sim.put hs (lt_of_blt hd) hb h1 h2)
inductive CapsM (x0:Value) (M:List (List UInt8×Value)):List D→List Arg→Prop
 |nil:CapsM x0 M [] []
 |map {ds:List D} {zs:List Arg} (h:CapsM x0 M ds zs):CapsM x0 M (refD [.v x0]::ds) (.pd [mapD M]::zs)
 |ref {cs ds:List D} {zs:List Arg} (h:CapsM x0 M ds zs):CapsM x0 M (refD cs::ds) (.pd cs::zs)
theorem CapsM.ok {own own':Nat→Prop}{x0:Value}{M:List (List UInt8×Value)}(ho:∀ b,own' b→own b) (hm:Rd w own' x0 (mapD M)) {ds:List D}{zs:List Arg}(h:CapsM x0 M ds zs) :
  ∀ {vs:List Value},vs.length=ds.length→(∀ (j:Nat) (x:D) (c:Value),ds[j]? = some x→vs[j]? = some c→Rd w own c x)→ArgsOk w own' vs zs:=by
 induction h with
 |nil =>
  intro vs hl _
  obtain rfl:vs=[]:=List.eq_nil_of_length_eq_zero hl
  trivial
 |@map ds zs h ih =>
  intro vs hl hr
  cases vs with
  |nil=>simp at hl
  |cons v vs =>
   obtain⟨ad,h1,_,h2,h3⟩:=rd_x (hr 0 _ v rfl rfl)
   refine⟨⟨ad,h1,h2,fun j z hz=>?_⟩,ih (by simpa using hl) fun j x c hj hc=>hr (j+1) x c (by simpa using hj) (by simpa using hc)⟩
   cases j with
   |zero =>
    simp at hz;subst hz
    obtain⟨u,h4,h5,h6⟩:=h3 0 _ rfl
    rw[rd_v h6]at h4 h5
    exact⟨x0,h4,h5,hm⟩
   |succ j=>simp at hz
 |@ref cs ds zs h ih =>
  intro vs hl hr
  cases vs with
  |nil=>simp at hl
  |cons v vs =>
   obtain⟨ad,h1,_,h2,h3⟩:=rd_x (hr 0 _ v rfl rfl)
   exact⟨⟨ad,h1,h2,fun j z hz=>by obtain⟨u,h4,h5,h6⟩:=h3 j z hz;exact⟨u,h4,h5,h6.less ho⟩⟩,ih (by simpa using hl) fun j x c hj hc=>hr (j+1) x c (by simpa using hj) (by simpa using hc)⟩
theorem a_callfnM {f:FuncId}{z:Operand}{xs:List Operand}{avs:List AV}{ys zs:List Arg}{l:List (Key×Val)}{r:Res}{ats:Array TypeId}{ds:List D}{id:Nat}{x0:Value}{M:List (List UInt8×Value)}
  (hc:FnOk cx.P f (ys++zs) r) (hcap:CapsM x0 M ds zs) (hp:plainR r=true) (ho:get σ (.o id) = .ob (.mp M x0)) (hz:ev σ z=some (.d (fnD f ds))) (hd:Nat.blt d cx.n=true) (hsub:SubsE σ xs avs ys l) :
  OA cx σ ⟨some d,.call { callee := .value z,args:=⟨xs⟩,argTypes:=ats },ty,pos,af,gd⟩ ⟨rdOf z (.d (fnD f ds))++(l++[(.o id,.ob (.mp M x0))]),[(.s d,.av r.av)]⟩:=by
 refine⟨?_,(ev_out hz).2.append (hsub.out.2.append ⟨ho,trivial⟩)⟩
 rintro σ1 a w K Q ⟨g,nx,hs⟩ hr hK
 have ho1:get σ1 (.o id) = .ob (.mp M x0):=hr.right.right.1
 obtain⟨cs,hv,h1,h2⟩:=rd_x (hs.ev (ev_out hz).1 hr.left).1
 obtain⟨_,⟨hgx,b,es,clock,hx0,hge,hh,hmi⟩,_⟩:=hs.objs id _ ho1
 have hblt:b < w.heap.size:=by
  rcases Nat.lt_or_ge b w.heap.size with h|h
  ·
   exact h
  ·
   rw[Array.getElem?_eq_none h]at hh;cases hh
 have hm:Rd w (fun c=>cx.own g σ1 c∧blk x0≠some c) x0 (mapD M):=rd_map ⟨b,es,clock,hx0,fun h=>h.2 (by rw[hx0];rfl),hblt,hh,hmi⟩
 have hcall:=hc.calls w (fun c=>cx.own g σ1 c∧blk x0≠some c) (xs.map a.eval++cs.toList) ⟨fun b hb=>own_lt hs hb.1,hs.gl⟩
  (argsOk_append ((hsub.out.1.ok hs hr.right.left).less fun b hb=>hb.1) (hcap.ok (fun b hb=>hb.1) hm (by simpa using h1) fun j x c hj hc=>h2 j x c hj (by simpa using hc)))
 unfold Oper.wp
 rw[callfn_run hc hv]
 refine hcall.mono fun e w' he=>?_
 obtain⟨v,rfl,hb,hres⟩:=he
 obtain⟨h1,h2⟩:=Res.rep (nx:=nx) (plainR_ok hp (own':=cx.own g σ1) hres)
 exact hK _ _ (Sim.put hs (lt_of_blt hd) hb h1 h2)
def mget (M:List (List UInt8×Value)) (k:List UInt8):Option Value:=match M with
 | []=>none
 |(s,v)::r=>if s=k then some v else mget r k
def mset (M:List (List UInt8×Value)) (k:List UInt8) (v:Value):List (List UInt8×Value):=match M with
 | []=>[(k,v)]
 |(s,u)::r=>if s=k then (s,v)::r else (s,u)::mset r k v
def mfind (k:List UInt8):List (List UInt8×Value)→Nat→Option (Nat×Value)
 | [],_=>none
 |(s,v)::r,i=>if s=k then some (i,v) else mfind k r (i+1)
theorem findNow_eq (k:List UInt8):∀ {es:List MapEntry}{M:List (List UInt8×Value)}(i:Nat),es.map (fun e=>(e.key,e.val))=M.map (fun p=>(Value.string ⟨p.1.toArray⟩,p.2)) →
  Instr.findNow .string (.string ⟨k.toArray⟩) es i=some ((mfind k M i).map fun p=>(p.1,p.2))
 | [],[],i,_=>rfl
 | [],p::M,i,h=>by simp at h
 |e::es,[],i,h=>by simp at h
 |e::es,(s,v)::M,i,h=>by
  simp only[List.map_cons,List.cons.injEq,Prod.mk.injEq]at h
  obtain⟨⟨h1,h2⟩,h3⟩:=h
  obtain⟨r,hr,hiff⟩:=MapKept.sameNow_of_keys (d := .string) (a := .string ⟨k.toArray⟩) (b := .string ⟨s.toArray⟩) (by simp[MapKept.IsKey]) (by simp[MapKept.IsKey])
  rw[← h1]at hr
  have hs':r=true↔s=k:=by
   rw[hiff]
   simp only[Value.string.injEq,ByteArray.mk.injEq]
   constructor
   ·
    intro h
    have:=congrArg Array.toList h
    simpa using this.symm
   ·
    rintro rfl;rfl
  simp only[Instr.findNow,hr,mfind]
  by_cases hs:s=k
  ·
   rw[if_pos hs]
   have hrt:=hs'.2 hs
   subst hrt
   simp[h2]
  ·
   rw[if_neg hs]
   have hrf:r=false:=by
    cases r with
    |false=>rfl
    |true=>exact absurd (hs'.1 rfl) hs
   subst hrf
   exact findNow_eq k (i+1) h3
theorem mfind_get (k:List UInt8):∀ (M:List (List UInt8×Value)) (i:Nat),(mfind k M i).map (·.2)=mget M k
 | [],_=>rfl
 |(s,v)::M,i=>by
  simp only[mfind,mget]
  split
  ·
   rfl
  ·
   exact mfind_get k M (i+1)
end Go.AX
namespace Go.AX
open Go.RowKit
variable {cx:Cx}{g:Nat→Value}{σ σ':St}{a:Act}{w w':World}{nx:Nat}
variable {ty:TypeId}{pos:String}{af:Array Edge}{gd:Option (Nat×Bool)}{d:Nat}
def flat:Value→Prop
 |.agg cs=>∀ c∈cs.toList,Value.oneCell' c=true
 |_=>True
def dv:Value→D
 |.agg cs => .agg (cs.toList.map D.v)
 |v => .v v
theorem rd_dv {own:Nat→Prop}{v:Value}(h:flat v):Rd w own v (dv v):=by
 cases v with
 |agg cs =>
  refine .agg _ _ (by simp) (fun j c hc=>h c (List.mem_of_getElem? (by simpa using hc))) fun j x c hx hc=>?_
  rw[List.getElem?_map]at hx
  have hc':cs.toList[j]? = some c:=by simpa using hc
  rw[hc']at hx
  simp at hx;subst hx
  exact Rd.v _
 |_=>exact Rd.v _
structure MapTy (cx:Cx) (t te:TypeId) (zv:Value):Prop where
 u:∃ tk,cx.P.underlying t=some (.map tk te)∧cx.P.underlying tk=some .string
 z:∀ w,(zeroValue te).run cx.P w = .ok zv w
theorem MapTy.st {t te:TypeId}{ti:TI}(hu:∃ tk,cx.P.underlying t=some (.map tk te)∧cx.P.underlying tk=some .string) (he:tget cx.T te=some ti) (h2:ti.zero.length≠1):MapTy cx t te (.agg ti.zero.toArray):=by
 refine⟨hu,fun w=>?_⟩
 obtain⟨i,hi,_,_,z,hz,hc⟩:=(cx.hT te ti he).info
 have hag:z = .agg ti.zero.toArray:=by
  cases z with
  |agg cs =>
   have:cs.toList=ti.zero:=hc
   rw[← this]
  |_=>exact absurd (by rw[← hc];rfl) h2
 subst hag
 simp[zeroValue,typeInfo,hi,hz]
def mlook (zv:Value) (M:List (List UInt8×Value)) (k:List UInt8):Value:=(mget M k).getD zv
theorem run_mlook {t te:TypeId}{zv:Value}(h:MapTy cx t te zv) {b:Nat}{es:Array MapEntry}{clock:Nat}{M:List (List UInt8×Value)}(hb:w.heap[b]? = some (.map es clock)) (hm:MapIs es M) (k:List UInt8) (ok:Bool) :
  (Instr.lookup t (.map (some b)) (.string ⟨k.toArray⟩) ok).run cx.P w = .ok (if ok then .tuple #[mlook zv M k,.bool (mget M k).isSome] else mlook zv M k) w:=by
 obtain⟨tk,h1,h2⟩:=h.u
 have hf:=findNow_eq k 0 hm
 have hg:=mfind_get k M 0
 have hck:(Instr.checkKey es.isEmpty 10000 tk (.string ⟨k.toArray⟩)).run cx.P w = .ok () w:=MapKept.run_checkKey h2 (by simp[MapKept.IsKey]) _ 9999
 have hz:=h.z w
 cases hfd:mfind k M 0 with
 |none =>
  rw[hfd]at hf hg
  simp only[Option.map_none]at hf hg
  cases ok <;> simp[Instr.lookup,run_underlying h1,MapKept.run_getObj_map hb,hck,Instr.findKey,run_underlying h2,hf,hz,mlook,← hg,Result.andThen]
 |some p =>
  rw[hfd]at hf hg
  simp only[Option.map_some]at hf hg
  cases ok <;> simp[Instr.lookup,run_underlying h1,MapKept.run_getObj_map hb,hck,Instr.findKey,run_underlying h2,hf,mlook,← hg,Result.andThen]
theorem tup_rep {v:Value}{r:Bool}(h1:flat v):Rep cx g σ w (.tuple #[v,.bool r]) (.tup [.d (dv v),.d (.v (.bool r))]):=by
 refine⟨_,rfl,rfl,fun j c av hj hc=>?_⟩
 match j,hj,hc with
 |0,hj,hc =>
  simp at hj hc;subst hj;subst hc
  exact rd_dv h1
 |1,hj,hc=>simp at hj hc;subst hj;subst hc;exact Rd.v _
theorem mget_mem {M:List (List UInt8×Value)}{k:List UInt8}{us:Value}(h:mget M k=some us):∃ p∈M,p.2=us:=by
 induction M with
 |nil=>cases h
 |cons q M ih =>
  obtain⟨s,v⟩:=q
  simp only[mget]at h
  split at h
  ·
   cases h;exact⟨_,List.mem_cons_self ..,rfl⟩
  ·
   obtain⟨p,h1,h2⟩:=ih h
   exact⟨p,List.mem_cons_of_mem _ h1,h2⟩
theorem mlook_flat {zv:Value}{M:List (List UInt8×Value)}{k:List UInt8}(hz:flat zv) (hM:∀ p∈M,flat p.2):flat (mlook zv M k):=by
 unfold mlook
 cases hg:mget M k with
 |none=>exact hz
 |some us =>
  obtain⟨p,h1,rfl⟩:=mget_mem hg
  exact hM p h1
theorem tup_bd {x y:D}:(AV.tup [.d x,.d y]).bd nx:=by
 intro av hav
 simp at hav
 rcases hav with rfl|rfl <;> trivial
theorem a_mlook {t te:TypeId}{zv:Value}{x y:Operand}{x0:Value}{k:List UInt8}{M:List (List UInt8×Value)}(id:Nat) (h:MapTy cx t te zv) (hz:flat zv) (hM:∀ p∈M,flat p.2)
  (hx:ev σ x=some (.d (.v x0))) (hy:ev σ y=some (.d (.v (.string ⟨k.toArray⟩)))) (ho:get σ (.o id) = .ob (.mp M x0)) (hd:Nat.blt d cx.n=true) :
  OA cx σ ⟨some d,.lookup t x y true,ty,pos,af,gd⟩ ⟨rdOf x (.d (.v x0))++(rdOf y (.d (.v (.string ⟨k.toArray⟩)))++[(.o id,.ob (.mp M x0))]),[(.s d,.av (.tup [.d (dv (mlook zv M k)),.d (.v (.bool (mget M k).isSome))]))]⟩:=by
 refine⟨ok_val rfl (lt_of_blt hd) fun σ1 a w g nx hs hr=>?_,(ev_out hx).2.append ((ev_out hy).2.append ⟨ho,trivial⟩)⟩
 have hv:=rep_v (hs.ev (ev_out hx).1 hr.left).1
 have hk:=rep_v (hs.ev (ev_out hy).1 hr.right.left).1
 obtain⟨_,⟨hgx,b,es,clock,hx0,hge,hh,hmi⟩,_⟩:=hs.objs id _ hr.right.right.1
 refine⟨_,w,?_,Below.refl _ _,tup_rep (mlook_flat hz hM),tup_bd⟩
 have:=run_mlook (w:=w) h hh hmi k true
 simp[execOp,hv,hk,hx0,this]
theorem a_mlookd {t te:TypeId}{zv:Value}{x y:Operand}{k:List UInt8}{M:List (List UInt8×Value)}(h:MapTy cx t te zv) (hz:flat zv) (hM:∀ p∈M,flat p.2)
  (hx:ev σ x=some (.d (mapD M))) (hy:ev σ y=some (.d (.v (.string ⟨k.toArray⟩)))) (hd:Nat.blt d cx.n=true) :
  OA cx σ ⟨some d,.lookup t x y true,ty,pos,af,gd⟩ ⟨rdOf x (.d (mapD M))++rdOf y (.d (.v (.string ⟨k.toArray⟩))),[(.s d,.av (.tup [.d (dv (mlook zv M k)),.d (.v (.bool (mget M k).isSome))]))]⟩:=by
 refine⟨ok_val rfl (lt_of_blt hd) fun σ1 a w g nx hs hr=>?_,(ev_out hx).2.append (ev_out hy).2⟩
 obtain⟨b,es,clock,hx0,_,_,hh,hmi⟩:=rd_x (hs.ev (ev_out hx).1 hr.left).1
 have hk:=rep_v (hs.ev (ev_out hy).1 hr.right).1
 refine⟨_,w,?_,Below.refl _ _,tup_rep (mlook_flat hz hM),tup_bd⟩
 have:=run_mlook (w:=w) h hh hmi k true
 simp[execOp,hx0,hk,this]
theorem mfind_some {k:List UInt8}{us v:Value}:∀ {M:List (List UInt8×Value)}{j i:Nat},mfind k M j=some (i,v)→∃ n,i=j+n∧M[n]? = some (k,v)∧mset M k us=M.set n (k,us)
 | [],j,i,h=>by cases h
 |(s,u)::M,j,i,h=>by
  simp only[mfind]at h
  by_cases hs:s=k
  ·
   rw[if_pos hs]at h
   cases h
   exact⟨0,rfl,by simp[hs],by simp[mset,hs]⟩
  ·
   rw[if_neg hs]at h
   obtain⟨n,h1,h2,h3⟩:=mfind_some (us:=us) h
   exact⟨n+1,by omega,by simpa using h2,by simp[mset,hs,h3]⟩
theorem mfind_none {k:List UInt8}{us:Value}:∀ {M:List (List UInt8×Value)}{j:Nat},mfind k M j=none→mset M k us=M++[(k,us)]
 | [],j,_=>rfl
 |(s,u)::M,j,h=>by
  simp only[mfind]at h
  by_cases hs:s=k
  ·
   rw[if_pos hs]at h;cases h
  ·
   rw[if_neg hs]at h
   simp[mset,hs,mfind_none h]
theorem run_mset {t te:TypeId}{zv:Value}(h:MapTy cx t te zv) {b:Nat}{es:Array MapEntry}{clock:Nat}{M:List (List UInt8×Value)}(hb:w.heap[b]? = some (.map es clock)) (hm:MapIs es M) (k:List UInt8) (us:Value) :
  ∃ es' clock',(Instr.mapUpdate t (.map (some b)) (.string ⟨k.toArray⟩) us).run cx.P w = .ok () { w with heap:=w.heap.setIfInBounds b (.map es' clock') }∧MapIs es' (mset M k us):=by
 obtain⟨tk,h1,h2⟩:=h.u
 have hf:=findNow_eq k 0 hm
 have hck:(Instr.checkKey false 10000 tk (.string ⟨k.toArray⟩)).run cx.P w = .ok () w:=MapKept.run_checkKey h2 (by simp[MapKept.IsKey]) _ 9999
 have hset:∀ o,(setObj b o).run cx.P w = .ok () { w with heap:=w.heap.setIfInBounds b o }:=fun o=>MapKept.run_setObj_map o hb
 cases hfd:mfind k M 0 with
 |none =>
  rw[hfd]at hf
  simp only[Option.map_none]at hf
  refine⟨es.push ⟨.string ⟨k.toArray⟩,us,clock⟩,clock+1,?_,?_⟩
  ·
   simp[Instr.mapUpdate,run_underlying h1,MapKept.run_getObj_map hb,hck,Instr.findKey,run_underlying h2,hf,hset,Result.andThen]
  ·
   rw[mfind_none hfd]
   unfold MapIs at hm ⊢
   simp[hm]
 |some p =>
  obtain⟨i,v⟩:=p
  rw[hfd]at hf
  simp only[Option.map_some]at hf
  obtain⟨n,hn,h3,h4⟩:=mfind_some (us:=us) hfd
  obtain rfl:i=n:=by omega
  have hes:(es.toList.map fun e=>(e.key,e.val))[i]? = some (Value.string ⟨k.toArray⟩,v):=by
   unfold MapIs at hm
   rw[hm,List.getElem?_map,h3];rfl
  obtain⟨e,he,hek⟩:∃ e,es[i]? = some e∧e.key=Value.string ⟨k.toArray⟩:=by
   rw[List.getElem?_map]at hes
   cases hx:es.toList[i]? with
   |none=>rw[hx]at hes;cases hes
   |some e =>
    rw[hx]at hes
    simp at hes
    exact⟨e,by simpa using hx,hes.1⟩
  refine⟨es.modify i fun e=>{ e with key := .string ⟨k.toArray⟩,val:=us },clock,?_,?_⟩
  ·
   have hst:(Instr.keyThatStays (((es[i]?).map (·.key)).getD (.string ⟨k.toArray⟩)) (.string ⟨k.toArray⟩)).run cx.P w = .ok (.string ⟨k.toArray⟩) w:=by
    rw[he]
    simp only[Option.map_some,Option.getD_some,hek]
    have hbb:((⟨k.toArray⟩:ByteArray)==⟨k.toArray⟩)=true:=(MapKept.bytes_beq _ _).2 rfl
    simp[Instr.keyThatStays,Instr.sameBits,hbb]
   simp[Instr.mapUpdate,run_underlying h1,MapKept.run_getObj_map hb,hck,Instr.findKey,run_underlying h2,hf,hst,hset,Result.andThen]
  ·
   rw[h4]
   unfold MapIs at hm ⊢
   rw[List.map_set,← hm]
   apply List.ext_getElem?
   intro j
   rw[List.getElem?_map,Array.getElem?_toList,Array.getElem?_modify]
   by_cases hj:i=j
   ·
    subst hj
    have hlt:=(Array.getElem?_eq_some_iff.1 he).1
    rw[if_pos rfl,List.getElem?_set_self (by simpa using hlt),he]
    rfl
   ·
    rw[if_neg hj,List.getElem?_set_ne hj,List.getElem?_map,Array.getElem?_toList]
inductive ValV:AV→Value→Prop
 |v {u:Value}:ValV (.d (.v u)) u
 |agg {av:AV} {us:List Value} (h:AggV av us):ValV av (.agg us.toArray)
theorem rep_valv {v u:Value}{av:AV}(h:ValV av u) (hr:Rep cx g σ w v av):v=u:=by
 cases h with
 |v=>exact rep_v hr
 |agg h=>exact rep_aggv h hr
theorem a_mset {t te:TypeId}{zv:Value}{x y z:Operand}{x0:Value}{av:AV}{k:List UInt8}{us:Value}{M:List (List UInt8×Value)}(id:Nat) (h:MapTy cx t te zv)
  (hx:ev σ x=some (.d (.v x0))) (hy:ev σ y=some (.d (.v (.string ⟨k.toArray⟩)))) (hz:ev σ z=some av) (hu:ValV av us) (ho:get σ (.o id) = .ob (.mp M x0)) :
  OA cx σ ⟨none,.mapUpdate t x y z,ty,pos,af,gd⟩ ⟨rdOf x (.d (.v x0))++(rdOf y (.d (.v (.string ⟨k.toArray⟩)))++(rdOf z av++[(.o id,.ob (.mp M x0))])),[(.o id,.ob (.mp (mset M k us) x0))]⟩:=by
 refine⟨?_,(ev_out hx).2.append ((ev_out hy).2.append ((ev_out hz).2.append ⟨ho,trivial⟩))⟩
 rintro σ1 a w K Q ⟨g,nx,hs⟩ hr hK
 have hv:=rep_v (hs.ev (ev_out hx).1 hr.left).1
 have hk:=rep_v (hs.ev (ev_out hy).1 hr.right.left).1
 have hzv:=rep_valv hu (hs.ev (ev_out hz).1 hr.right.right.left).1
 have ho1:get σ1 (.o id) = .ob (.mp M x0):=hr.right.right.right.1
 obtain⟨hid,⟨hgx,b,es,clock,hx0,hge,hh,hmi⟩,_⟩:=hs.objs id _ ho1
 obtain⟨es',clock',hrun,hmi'⟩:=run_mset (w:=w) h hh hmi k us
 have hblt:b < w.heap.size:=by
  rcases Nat.lt_or_ge b w.heap.size with h|h
  ·
   exact h
  ·
   rw[Array.getElem?_eq_none h]at hh;cases hh
 have hgb:blk (g id)=some b:=by rw[hgx,hx0];rfl
 have hoth:∀ c,c≠b→({ w with heap:=w.heap.setIfInBounds b (.map es' clock') }:World).heap[c]? = w.heap[c]? := fun c hc=>by
  show(w.heap.setIfInBounds b _)[c]? = _
  rw[Array.getElem?_setIfInBounds,if_neg (fun e=>hc e.symm)]
 have hst:ObjStep cx σ1 g nx nx w { w with heap:=w.heap.setIfInBounds b (.map es' clock') } id (.mp (mset M k us) x0) (g id):=by
  refine⟨.inr ⟨rfl,_,ho1,trivial⟩,⟨rfl,rfl,rfl,by simp,fun c hc=>hoth c (by have:=hs.below.size;omega)⟩,fun c hc hn=>hoth c fun e=>hn _ ho1 (by rw[hgb,e]),fun c hc => .inl ⟨_,ho1,hc⟩⟩
 have hG:=SimG.obj hs hst (fun _=>⟨by rw[upd_same];exact hgx,b,es',clock',hx0,hge,by show(w.heap.setIfInBounds b _)[b]? = _;rw[Array.getElem?_setIfInBounds,if_pos rfl,if_pos hblt],hmi'⟩) trivial
 unfold Oper.wp
 have hex:(execOp a.eval ⟨none,.mapUpdate t x y z,ty,pos,af,gd⟩).run cx.P w = .ok .skip { w with heap:=w.heap.setIfInBounds b (.map es' clock') }:=by
  simp[execOp,hv,hk,hzv,hx0,hrun]
 rw[hex]
 refine hK _ _ (Sim.eqv ⟨_,_,hG⟩ fun q=>?_)
 cases q with
 |s i=>rw[objSt_s];exact(get_cons_ne (by simp)).symm
 |o i =>
  by_cases hi:i=id
  ·
   subst hi;rw[get_cons_same];exact get_cons_same.symm
  ·
   rw[objSt_o hi];exact(get_cons_ne (by simpa using fun e=>hi e.symm)).symm
 |nx=>rw[objSt_nx];exact hs.hnx.symm.trans (get_cons_ne (by simp)).symm
theorem fam_mkmap {t:TypeId}{n0:Nat}(hn:get σ .nx = .num n0) (hd:Nat.blt d cx.n=true) (a:Act) (w:World) (K:Act→World→Prop) (Q:Exit→Act→World→Prop) (hs:Sim cx σ a w)
  (hK:∀ (x:Value) a' w',Sim cx ([(.s d,.av (.d (.v x))),(.o n0,.ob (.mp [] x)),(.nx,.num (n0+1))]++σ) a' w'→K a' w') :
  (⟨some d,.makeMap t none,ty,pos,af,gd⟩:Oper).wp cx.P a w K Q:=by
 obtain⟨g,nx,hs⟩:=hs
 have hnx:nx=n0:=by
  have h2:=hs.hnx
  rw[hn]at h2
  simpa using h2.symm
 subst hnx
 have hex:(execOp a.eval ⟨some d,.makeMap t none,ty,pos,af,gd⟩).run cx.P w = .ok (.value (.map (some w.heap.size))) (w.alloc (.map #[] 0)):=by
  simp[execOp,Instr.makeMap,newObj]
  rfl
 have hb:Below w.heap.size w (w.alloc (.map #[] 0)):=(Below.refl _ _).alloc (Nat.le_refl _) _
 have hst:ObjStep cx σ g nx (nx+1) w (w.alloc (.map #[] 0)) nx (.mp [] (.map (some w.heap.size))) (.map (some w.heap.size)) :=
  ⟨.inl ⟨rfl,rfl⟩,hb.mono hs.below.size,fun c hc _=>hb.block c hc,fun c hc => .inr (by cases hc;exact Nat.le_refl _)⟩
 have hG:=SimG.obj hs hst (fun _=>⟨upd_same _ _ _,w.heap.size,#[],0,rfl,hs.below.size,heap_alloc_new w _,rfl⟩) trivial
 refine wp_val rfl hex (hK (.map (some w.heap.size)) _ _ ?_)
 refine Sim.eqv (Sim.put hG (lt_of_blt hd) (Below.refl _ _) (av := .d (.v (.map (some w.heap.size)))) (Rd.v _) trivial) fun q=>?_
 cases q with
 |s i =>
  by_cases hi:i=d
  ·
   subst hi;rw[get_cons_same];exact get_cons_same.symm
  ·
   rw[get_cons_ne (by simpa using fun e=>hi e.symm),objSt_s]
   exact((get_cons_ne (by simpa using fun e=>hi e.symm)).trans ((get_cons_ne (by simp)).trans (get_cons_ne (by simp)))).symm
 |o i =>
  rw[get_cons_ne (by simp)]
  by_cases hi:i=nx
  ·
   subst hi;rw[get_cons_same];exact((get_cons_ne (by simp)).trans get_cons_same).symm
  ·
   rw[objSt_o hi]
   exact((get_cons_ne (by simp)).trans ((get_cons_ne (by simpa using fun e=>hi e.symm)).trans (get_cons_ne (by simp)))).symm
 |nx =>
  rw[get_cons_ne (by simp),objSt_nx]
  exact((get_cons_ne (by simp)).trans ((get_cons_ne (by simp)).trans get_cons_same)).symm
theorem map_known {id:Nat}{M:List (List UInt8×Value)}{x:Value}(ho:get σ (.o id) = .ob (.mp M x)) (a:Act) (w:World) (hs:Sim cx σ a w):∃ b,x = .map (some b):=by
 obtain⟨g,nx,hs⟩:=hs
 obtain⟨_,⟨_,b,_,_,h,_⟩,_⟩:=hs.objs id _ ho
 exact⟨b,h⟩
theorem a_nilp {x:Operand}{id off:Nat}{cells:List AV}(hx:ev σ x=some (.ptr id off)) (ho:get σ (.o id) = .ob (.box cells)) (hd:Nat.blt d cx.n=true) :
  OA cx σ ⟨some d,.nilCheck x,ty,pos,af,gd⟩ ⟨rdOf x (.ptr id off)++[(.o id,.ob (.box cells))],[(.s d,.av (.ptr id off))]⟩ :=
 ⟨ok_nilCheck_ptr (lt_of_blt hd) (ev_out hx).1,(ev_out hx).2.append ⟨ho,trivial⟩⟩
end Go.AX
namespace Go.RF
open Go.AX
abbrev Mk:=List (Str×(Bool×Int))
def mG:Mk→Str→Option (Bool×Int)
 | [],_=>none
 |(s,c)::r,k=>if s=k then some c else mG r k
def mS:Mk→Str→Bool×Int→Mk
 | [],k,c=>[(k,c)]
 |(s,u)::r,k,c=>if s=k then (s,c)::r else (s,u)::mS r k c
def chV (c:Bool×Int):List Value:=[.bool c.1,.int .i64 c.2]
def chA (c:Bool×Int):Value := .agg (chV c).toArray
def encM (m:Mk):List (Str×Value):=m.map fun p=>(p.1,chA p.2)
theorem mget_enc (m:Mk) (k:Str):mget (encM m) k=(mG m k).map chA:=by
 induction m with
 |nil=>rfl
 |cons p m ih =>
  obtain⟨s,c⟩:=p
  simp only[encM,List.map_cons,mget,mG]
  by_cases h:s=k
  ·
   rw[if_pos h,if_pos h];rfl
  ·
   rw[if_neg h,if_neg h];exact ih
theorem mset_enc (m:Mk) (k:Str) (c:Bool×Int):mset (encM m) k (chA c)=encM (mS m k c):=by
 induction m with
 |nil=>rfl
 |cons p m ih =>
  obtain⟨s,u⟩:=p
  simp only[encM,List.map_cons,mset,mS]
  by_cases h:s=k
  ·
   rw[if_pos h,if_pos h];rfl
  ·
   rw[if_neg h,if_neg h]
   show(s,chA u)::mset (encM m) k (chA c)=_
   rw[ih];rfl
theorem encM_one (m:Mk):∀ p∈encM m,flat p.2:=by
 intro p hp
 obtain⟨q,_,rfl⟩:=List.mem_map.1 hp
 intro u hu
 simp[chV]at hu
 rcases hu with rfl|rfl <;> rfl
theorem mG_mS (m:Mk) (k k':Str) (c:Bool×Int):mG (mS m k c) k'=if k=k' then some c else mG m k':=by
 induction m with
 |nil=>simp[mS,mG]
 |cons p m ih =>
  obtain⟨s,u⟩:=p
  simp only[mS]
  by_cases hs:s=k
  ·
   rw[if_pos hs]
   simp only[mG]
   by_cases h:k=k'
   ·
    simp[hs,h]
   ·
    rw[if_neg (by rw[hs];exact h),if_neg h,if_neg (by rw[hs];exact h)]
  ·
   rw[if_neg hs]
   simp only[mG,ih]
   by_cases h:s=k'
   ·
    rw[if_pos h,if_neg (fun e=>hs (by rw[h,e])),if_pos h]
   ·
    rw[if_neg h,if_neg h]
def seeM (view:Str→Int×Bool) (m:Mk) (k:Str):Int:=match mG m k with
 |some c=>c.2
 |none=>(view k).1
def runGo (view:Str→Int×Bool):Int→Mk→Done→List Ins→Mk×Done
 |_,m,e,[]=>(m,e)
 |sk,m,e,i::r =>
  if 0 < sk then runGo view (sk - 1) m e r
  else if i.kind=1 then runGo view sk m (rset e i.a.toNat (seeM view m i.key)) r
  else if i.kind=2 then runGo view sk m (rset e i.a.toNat i.n) r
  else if i.kind=3 then runGo view sk m (rset e i.a.toNat (round (rget e i.a.toNat+rget e i.b.toNat))) r
  else if i.kind=4 then runGo view sk m (rset e i.a.toNat (round (rget e i.a.toNat - rget e i.b.toNat))) r
  else if i.kind=5 then runGo view sk m (rset e i.a.toNat (round (rget e i.a.toNat*rget e i.b.toNat))) r
  else if i.kind=6 then runGo view sk (mS m i.key (true,rget e i.a.toNat)) e r
  else if i.kind=7 then runGo view sk (mS m i.key (false,0)) e r
  else if i.kind=8 then runGo view (if rget e i.a.toNat < 1 then i.n else sk) m e r
  else if rget e i.a.toNat < 0 then (m,bustE e) else runGo view sk m e r
theorem runGo_skip (view:Str→Int×Bool) (m:Mk) (e:Done):∀ (n:Nat) (l:List Ins),runGo view n m e l=runGo view 0 m e (l.drop n)
 |0,l=>rfl
 |n+1,[]=>by simp[runGo]
 |n+1,i::l=>by
  simp only[runGo]
  rw[if_pos (by omega),show(((n+1:Nat):Int) - 1)=(n:Int) by omega,runGo_skip view m e n l,List.drop_succ_cons]
def chg (m:Mk):List Str→List (Str×(Bool×Int))
 | []=>[]
 |k::r=>match mG m k with
  |some c=>(k,c)::chg m r
  |none=>chg m r
def runM (view:Str→Int×Bool) (d:Deed):Mk×Done:=runGo view 0 [] done0 d.code
def runC (view:Str→Int×Bool) (d:Deed):List (Str×(Bool×Int)):=if (runM view d).2.failed=true then [] else chg (runM view d).1 d.writes
def chVer (c:Str×(Bool×Int)):Version:=⟨0,true,c.2.1,c.2.2⟩
def runRes (view:Str→Int×Bool) (d:Deed):List D:=[.agg (runM view d).2.enc,encVs ((runC view d).map chVer),encStrs ((runC view d).map (·.1))]
theorem chg_len (m:Mk):∀ l:List Str,(chg m l).length≤l.length
 | []=>by simp[chg]
 |k::r=>by
  have:=chg_len m r
  simp only[chg]
  split <;> simp <;> omega
def mOk (m:Mk):Prop:=∀ k c,mG m k=some c→nOk c.2
theorem mOk_nil:mOk []:=by intro k c h;cases h
theorem mOk_set {m:Mk}(h:mOk m) (k:Str) {c:Bool×Int}(hc:nOk c.2):mOk (mS m k c):=by
 intro k' c' h'
 rw[mG_mS]at h'
 split at h'
 ·
  cases h';exact hc
 ·
  exact h k' c' h'
theorem see_ok {view:Str→Int×Bool}{m:Mk}{k:Str}(hv:nOk (view k).1) (hm:mOk m):nOk (seeM view m k):=by
 unfold seeM
 split
 ·
  next c h=>exact hm k c h
 ·
  exact hv
end Go.RF
namespace Go.Proofs
open Go.Shelf Go.RowKit
def Tryz.lays106_ren:Go.Shelf.Ren:=⟨fun|106=>142|213=>170|265=>195|n=>n,fun|9=>9|3=>3|n=>n,fun|n=>n⟩
theorem Tryz.lays106:Go.Proofs.Lays.n106 Tryz.prog Tryz.lays106_ren:={
 mixed:=by kernel_rfl
 f106:=Tryz.func142.trans (congrArg some (by kernel_rfl))
 f213:=Tryz.func170.trans (congrArg some (by kernel_rfl))
 f265:=Tryz.func195.trans (congrArg some (by kernel_rfl))
 t3:=Tryz.underlying3
 a3:=Tryz.isAgg3
 z3:=Tryz.sizeOf3
 v3:=Tryz.zeroValue3
 t9:=Tryz.underlying9
 a9:=Tryz.isAgg9
 z9:=Tryz.sizeOf9
 v9:=Tryz.zeroValue9 }
theorem Tryz.strings_Compare (a b:ByteArray) (w:World) :
  Calls Tryz.prog 142 #[.string a,.string b] w fun e w'=>e = .returned (.int .i64 (Lib.compareBytes a.data.toList b.data.toList))∧w'=w:=Any.strings_Compare Tryz.lays106 a b w
end Go.Proofs
namespace Go.Proofs.YtfpkamiobdkcpaaGreatDoor
open Go.AX Go.RF Go.RowKit
set_option maxRecDepth 100000
set_option maxHeartbeats 4000000
def cmpT (a b:Str):Int:=if slt a b=true then -1 else if a=b then 0 else 1
theorem compare_eq:∀ (a b:Str),Lib.compareBytes a b=cmpT a b
 | [],[]=>by simp[Lib.compareBytes,cmpT,bl_nil]
 | [],b::r=>by simp[Lib.compareBytes,cmpT,bl_nil_cons]
 |a::l,[]=>by simp[Lib.compareBytes,cmpT,bl_nil]
 |a::l,b::r=>by
  simp only[Lib.compareBytes,cmpT,bl_cons]
  by_cases h1:a < b
  ·
   simp[h1]
  ·
   by_cases h2:b < a
   ·
    have h3:¬ a=b:=fun h=>by subst h;exact h1 h2
    simp[h1,h2,h3]
   ·
    have h3:a=b:=UInt8.le_antisymm (UInt8.not_lt.1 h2) (UInt8.not_lt.1 h1)
    subst h3
    rw[compare_eq l r]
    simp[h1,cmpT]
theorem cmpT_lt {a b:Str}:cmpT a b < 0↔slt a b=true:=by
 unfold cmpT
 split
 ·
  next h=>simp[h]
 ·
  next h=>split <;> simp[h]
theorem cmpT_zero {a b:Str}:cmpT a b=0↔a=b:=by
 unfold cmpT
 split
 ·
  next h =>
  constructor
  ·
   intro h0;simp at h0
  ·
   intro h0;subst h0;rw[slt_irrefl]at h;cases h
 ·
  split <;> simp_all
theorem ok_compare (a b:Str):FnOk Tryz.prog 142 [.d (dstr a),.d (dstr b)] (.one (dint (cmpT a b))):=by
 refine⟨⟨_,Tryz.func142,rfl,rfl⟩,fun w own vs hown ha=>?_⟩
 match vs,ha with
 | [x,y],⟨h1,h2,_⟩ =>
  obtain rfl:x=str a:=rd_v h1
  obtain rfl:y=str b:=rd_v h2
  refine(Tryz.strings_Compare ⟨a.toArray⟩ ⟨b.toArray⟩ w).mono fun e w' he=>?_
  obtain⟨rfl,rfl⟩:=he
  exact⟨_,rfl,Below.refl _ _,by rw[← compare_eq];exact Rd.v _⟩
theorem ok_find1 (c:Chain) (k:Str):FnOk Tryz.prog 141 [.d (.agg c.enc),.d (dstr k)] (.one (dint (cmpT c.key k))):=by
 refine fnOk_of tbl_ok mixed_ok Tryz.func141 rfl (by kernel_rfl) rfl rfl fun w0 own0=>?_
 have hc:=ok_compare c.key k
 try refine wk ?_
 exact .one (.tmp rfl (.one (.d (.refl _))))
abbrev At (l:List Chain) (k:Str) (m:Nat):Prop:=AtK Chain.key l k m
abbrev isAt (l:List Chain) (k:Str) (m:Nat):Bool:=isAtK Chain.key l k m
theorem ok_bsearch (l:List Chain) (k:Str) (m:Nat) (hl:l.length≤268435456) (hm:At l k m) :
  FnOk Tryz.prog 140 [.d (encChains l),.d (dstr k),.d (.v (.func (.func 141) #[] #[]))] (.tup [dint m,dbool (isAt l k m)]):=by
 refine fnOk_of tbl_ok mixed_ok Tryz.func140 rfl (by kernel_rfl) rfl rfl fun w0 own0=>?_
 have hml:=hm.le
 try refine wk ?_
 refine CW.loopT (fun t:Nat×Nat=>[sd 0 (encChains l),sd 1 (dstr k),sd 2 (.v (.func (.func 141) #[] #[])),sd 8 (dint l.length),sd 9 (dint t.1),sd 10 (dint t.2),nxt 0])
  (fun t=>t.1≤m∧m≤t.2∧t.2≤l.length) (fun t=>t.2 - t.1) (0,l.length) ⟨by omega,hm.le,by omega⟩ ?_ ?_
 ·
  exact by_less
 ·
  rintro ⟨i,j⟩ ⟨h1,h2,h3⟩
  dsimp only at h1 h2 h3 ⊢
  by_cases h4:i < j
  ·
   obtain⟨c,hc⟩:∃ c,l[(i+j) / 2]? = some c:=⟨l[(i+j) / 2]'(by omega),List.getElem?_eq_getElem (by omega)⟩
   have hcall:=ok_find1 c k
   have hst0:StopR 4:=⟨rfl⟩
   try refine wkS ?_
   clear hst0
   refine Stop.cutk [sd 11 (dint ((i+j) / 2:Nat))] [.s 0,.s 1,.s 2,.s 8,.s 9,.s 10,.nx] ?_ ?_
   ·
    repeat(first|refine wa ?_|((with_reducible apply s5);(first|((with_reducible apply a_bin);(iterate 2 exact rfl);exact bin_half;exact rfl)|exact by_oa|exact by_ca);exact by_g)|refine wb ?_)
    refine q_cut ?_
    exact by_less
   have hcz:=@cmpT_lt c.key k
   by_cases h5:cmpT c.key k < 0
   ·
    have h6:(i+j) / 2 < m:=by
     rcases Nat.lt_or_ge ((i+j) / 2) m with h|h
     ·
      exact h
     ·
      have:=hm.ge _ c hc h
      rw[hcz.1 h5]at this;cases this
    repeat(first|refine wa ?_|((with_reducible apply s5);(first|exact a_callv hcall rfl rfl by_sub|exact by_oa|exact by_ca);exact by_g)|refine wb ?_)
    refine q_loopT ((i+j) / 2+1,j) ⟨by dsimp only;omega,h2,h3⟩ (by dsimp only;omega) ?_
    exact by_less
   ·
    have h6:m≤(i+j) / 2:=by
     rcases Nat.lt_or_ge ((i+j) / 2) m with h|h
     ·
      exact absurd (hcz.2 (hm.lt _ c hc h)) h5
     ·
      exact h
    repeat(first|refine wa ?_|((with_reducible apply s5);(first|exact a_callv hcall rfl rfl by_sub|exact by_oa|exact by_ca);exact by_g)|refine wb ?_)
    refine q_loopT (i,(i+j) / 2) ⟨h1,h6,by dsimp only;omega⟩ (by dsimp only;omega) ?_
    exact by_less
  ·
   obtain rfl:i=m:=by omega
   cases hc:l[i]? with
   |none =>
    have h5:l.length≤i:=by
     rcases Nat.lt_or_ge i l.length with h|h
     ·
      rw[List.getElem?_eq_getElem h]at hc;cases hc
     ·
      exact h
    try refine wk ?_
    exact .two (.tmp rfl (.one (.d (.refl _)))) (.tmp rfl (.one (.d (dle_bool (by simp[isAtK,hc])))))
   |some c =>
    have h5:i < l.length:=(List.getElem?_eq_some_iff.1 hc).1
    have hcall:=ok_find1 c k
    repeat(first|refine wa ?_|((with_reducible apply s5);(first|exact a_callv hcall rfl rfl by_sub|exact by_oa|exact by_ca);exact by_g)|refine wb ?_)
    refine .two (.tmp rfl (.one (.d (.refl _)))) (.tmp rfl (.one (.d (dle_bool ?_))))
    rw[show isAt l k i=decide (c.key=k) by simp[isAt,isAtK,hc]]
    show decide (cmpT c.key k=0)=decide (c.key=k)
    rw[decide_eq_decide]
    exact cmpT_zero
theorem ok_find (l:List Chain) (k:Str) (m:Nat) (hl:l.length≤268435456) (hm:At l k m):FnOk Tryz.prog 107 [.d (encChains l),.d (dstr k)] (.tup [dint m,dbool (isAt l k m)]):=by
 refine fnOk_of tbl_ok mixed_ok Tryz.func107 rfl (by kernel_rfl) rfl rfl fun w0 own0=>?_
 have hc:=ok_bsearch l k m hl hm
 try refine wk ?_
 exact .two (.tmp rfl (.one (.d (.refl _)))) (.tmp rfl (.one (.d (.refl _))))
end Go.Proofs.YtfpkamiobdkcpaaGreatDoor
namespace Go.Proofs.YtfpkamiobdkcpaaGreatDoor
open Go.AX Go.RF
set_option maxRecDepth 100000
set_option maxHeartbeats 8000000
theorem new_chainOwn (l:List Chain) (hl:l.length≤268435456) (hv:∀ c∈l,c.vs.length≤268435456):FnNew Tryz.prog 69 [.d (encChains l)] 109 2 (l.map Chain.enc):=by
 refine fnNew_of tbl_ok mixed_ok Tryz.func69 rfl (by kernel_rfl) rfl rfl fun w0 own0=>?_
 try refine wk ?_
 refine CW.stut (stut_promote (i:=3) 109 2) ⟨rfl,rfl,trivial⟩ ?_
 refine CW.loopT (fun i:Nat=>[sd 6 (encChains l),sd 7 (dint l.length),sd 8 (dint i),so 3 0 i,oa 0 109 2 ((l.take i).map Chain.enc),nxt 1]) (fun i=>i≤l.length) (fun i=>l.length - i) 0 (by omega) ?_ ?_
 ·
  exact by_less
 ·
  rintro i hi
  rcases drop_case hi with ⟨h1,h2⟩|⟨c,h1,h2,h3⟩
  ·
   subst h2
   rw[List.take_length]
   try refine wk ?_
   exact RetNew.own rfl rfl (by simp)
  ·
   have h4:(l.take i).map Chain.enc++[c.enc]=(l.take (i+1)).map Chain.enc:=by rw[List.take_add_one,h2];simp
   have hcv:=hv c (List.mem_of_getElem? h2)
   have hc:=ok_clone_version (c.vs.map Version.enc) (by simp;omega)
   try refine wk ?_
   refine q_loopT (i+1) (by omega) (by omega) ?_
   exact by_less
def keptRows (l:List Chain) (m:Nat) (c:Chain) (x:Value):List (List D):=(l.map Chain.enc).set m [dstr c.key,.v x]
theorem own2_chain (l:List Chain) (m:Nat) (c0:Chain) (h0:l[m]? = some c0) (hl:l.length≤268435456) (hv:∀ c∈l,c.vs.length≤268435456) :
  FnOwn2 Tryz.prog 69 [.d (encChains l)] 109 2 (keptRows l m c0) 106 4 (c0.vs.map Version.enc):=by
 refine fnOwn2_of tbl_ok mixed_ok Tryz.func69 rfl (by kernel_rfl) rfl rfl fun w0 own0=>?_
 have hml:m < l.length:=(List.getElem?_eq_some_iff.1 h0).1
 try refine wk ?_
 refine CW.stut (stut_promote (i:=3) 109 2) ⟨rfl,rfl,trivial⟩ ?_
 refine CW.loopT (fun t:Nat×Option Value=>match t.2 with
   |none=>[sd 6 (encChains l),sd 7 (dint l.length),sd 8 (dint t.1),so 3 0 t.1,oa 0 109 2 ((l.take t.1).map Chain.enc),nxt 1]
   |some x=>[sd 6 (encChains l),sd 7 (dint l.length),sd 8 (dint t.1),so 3 0 t.1,oa 0 109 2 ((keptRows l m c0 x).take t.1),(.o 2,.ob (.pin 106 4 (c0.vs.map Version.enc) x)),nxt 3])
  (fun t=>t.1≤l.length∧(t.2=none→t.1≤m)∧(t.2≠none→m < t.1)) (fun t=>l.length - t.1) (0,none) ⟨by omega,fun _=>Nat.zero_le _,fun h=>absurd rfl h⟩ ?_ ?_
 ·
  exact by_less
 ·
  rintro ⟨i,o⟩ ⟨hi,hn,hs⟩
  dsimp only at hi hn hs ⊢
  have hkl:∀ x,(keptRows l m c0 x).length=l.length:=fun x=>by simp[keptRows]
  cases o with
  |none =>
   have him:=hn rfl
   dsimp only
   rcases drop_case hi with ⟨h1,h2⟩|⟨c,h1,h2,h3⟩
   ·
    omega
   ·
    have hcv:=hv c (List.mem_of_getElem? h2)
    rcases Nat.lt_or_ge i m with hlt|hge
    ·
     have h4:(l.take i).map Chain.enc++[c.enc]=(l.take (i+1)).map Chain.enc:=by rw[List.take_add_one,h2];simp
     have hc:=ok_clone_version (c.vs.map Version.enc) (by simp;omega)
     try refine wk ?_
     refine q_loopT (i+1,none) ⟨by dsimp only;omega,fun _=>by dsimp only;omega,fun h=>absurd rfl h⟩ (by dsimp only;omega) ?_
     exact by_less
    ·
     obtain rfl:i=m:=by omega
     obtain rfl:c0=c:=by rw[h0]at h2;exact Option.some.inj h2
     have h4:∀ x,(l.take i).map Chain.enc++[[dstr c0.key,.v x]]=(keptRows l i c0 x).take (i+1):=fun x=>by
      rw[keptRows,List.take_add_one,List.getElem?_set_self (by simpa using hml),List.take_set_of_le (Nat.le_refl _),List.map_take];rfl
     have hc:=new_clone_version (c0.vs.map Version.enc) (by simp;omega)
     have hst0:StopX 5:=⟨rfl⟩
     try refine wkS ?_
     clear hst0
     refine Stop.go ?_
     apply CW.drawF (x0:=((none,0,0):Option Addr×Nat×Nat)) (l1:=[_,_,_,_,_]) (l2:=[_,_,_,_]) (tS:=fun x=>⟨(rdOf (.tmp 16) (.d (encVs c0.vs))++([]++[]))++[(.nx,.num 2)],[(.s 17,.av (.d (.v (.slice x.1 x.2.1 x.2.2)))),(.o 2,.ob (.pin 106 4 (c0.vs.map Version.enc) (.slice x.1 x.2.1 x.2.2))),(.nx,.num 3)]⟩)
      (rs:=(rdOf (.tmp 16) (.d (encVs c0.vs))++([]++[]))++[(.nx,.num 2)])
     ·
      rfl
     ·
      rfl
     ·
      exact fun _=>rfl
     ·
      exact fam_newpin rfl hc (.cons (x := .tmp 16) (av := .d (encVs c0.vs)) trivial (.d (.refl _)) .nil)
     ·
      rfl
     try refine wk ?_
     refine And.intro ⟨rfl,rfl,trivial⟩ fun x=>?_
     obtain⟨p,n,cp⟩:=x
     have h4':=h4 (.slice p n cp)
     have hk:=hkl (.slice p n cp)
     dsimp only
     try refine wk ?_
     refine q_loopT (i+1,some (.slice p n cp)) ⟨by dsimp only;omega,fun h=>(by cases h),fun _=>by dsimp only;omega⟩ (by dsimp only;omega) ?_
     exact by_less
  |some x =>
   have him:=hs (by simp)
   have hk:=hkl x
   dsimp only
   rcases drop_case hi with ⟨h1,h2⟩|⟨c,h1,h2,h3⟩
   ·
    subst h2
    rw[List.take_of_length_le (by rw[hkl];exact Nat.le_refl _)]
    try refine wk ?_
    exact own2_ret (id2:=2) rfl rfl (hkl x).symm rfl
   ·
    have hcv:=hv c (List.mem_of_getElem? h2)
    have h4:(keptRows l m c0 x).take i++[c.enc]=(keptRows l m c0 x).take (i+1):=by
     rw[List.take_add_one,keptRows,List.getElem?_set_ne (by omega)];simp[h2]
    have hc:=ok_clone_version (c.vs.map Version.enc) (by simp;omega)
    try refine wk ?_
    refine q_loopT (i+1,some x) ⟨by dsimp only;omega,fun h=>(by cases h),fun _=>by dsimp only;omega⟩ (by dsimp only;omega) ?_
    exact by_less
end Go.Proofs.YtfpkamiobdkcpaaGreatDoor
namespace Go.Proofs.YtfpkamiobdkcpaaGreatDoor
open Go.AX Go.RF Go.RowKit Go.Shelf Go.Lib
theorem run_copy_k {P:Program}(w:World) (dT sT ty elem:TypeId) (k g o dLen dCap:Nat) (a:Addr) (sLen sCap q:Nat) (cur:Array Value) (t:TypeId) (cs:List Value)
  (hu:P.underlying dT=some (.slice elem)) (hs:(P.info? elem).map (·.size)=some k)
  (hg:w.heap[g]? = some (.cells cur t (0,0))) (hq:Nat.min sLen dLen=q) (hn:cs.length=q*k)
  (hsrc:∀ j v,cs[j]? = some v→w.cell? (a.add j)=some v) (hfit:o+cs.length≤cur.size) (h1:∀ v∈cs,v.oneCell'=true) :
  (Builtin.copy_ #[dT,sT] ty #[.slice (some ⟨g,o,none⟩) dLen dCap,.slice (some a) sLen sCap]).run P w =
   .ok (goInt q) (w.setRow g (cur.toList.take o++cs++cur.toList.drop (o+cs.length)).toArray):=by
 have hl:=run_loadCells_list (P:=P) w a cs hsrc
 have hst:=run_storeCells_at P g o t cs 0 cur w hg (by simpa using hfit) h1
 cases hq':P.info? elem with
 |none=>simp[hq']at hs
 |some i =>
  have hi:i.size=k:=by simpa[hq'] using hs
  simp[Builtin.copy_,run_underlying hu,Builtin.lenOf,Builtin.firstCells,sizeOf,typeInfo,hq',hi,hq,← hn,hl,hst]
theorem overlaps_arm {motive:Array Value→Type}{a b:Option Addr}{la ca lb cb:Nat}{h1:∀ (a:Option Addr) (la c:Nat) (b:Option Addr) (lb d:Nat),motive #[.slice a la c,.slice b lb d]}{h2:∀ x,motive x} :
  Extern.SlicesOverlaps.overlaps.match_4 motive #[.slice a la ca,.slice b lb cb] h1 h2=h1 a la ca b lb cb:=rfl
theorem run_overlaps_b {P:Program}(w:World) (tS tR e:TypeId) (ht:P.underlying tS=some (.slice e)) (size:Nat) (hz:∀ w,(Go.sizeOf e).run P w = .ok size w)
  (a b:Addr) (la ca lb cb:Nat) (hne:a.block≠b.block) (tA tB:TypeId) (kA kB:Nat)
  (hsa:w.shape? a.block=some (tA,kA+1)) (hsb:w.shape? b.block=some (tB,kB+1)) (hfb:w.frozen? b=false) (hfe:w.frozen? { block:=b.block,off:=kB+1 }=false) :
  (Extern.SlicesOverlaps.overlaps #[tS,tS] #[tR] #[.slice (some a) la ca,.slice (some b) lb cb]).run P w = .ok (.bool false) w:=by
 have hnb:(a.block != b.block)=true:=by simpa using hne
 have hnb':(a.block==b.block)=false:=by simpa using hne
 delta Extern.SlicesOverlaps.overlaps
 dsimp only
 rw[overlaps_arm]
 by_cases h0:la=0∨lb=0∨size=0
 ·
  simp[run_underlying ht,hz,h0]
 ·
  cases hfa:w.frozen? a <;> cases hfa2:w.frozen? { block:=a.block,off:=kA+1 } <;>
   simp[run_underlying ht,hz,h0,hnb,hnb',frozen,noView,viewAt,mayBeOne,stringish,shape,Sem.run,hsa,hsb,hfb,hfe,hfa,hfa2]
theorem alloc_new_at (w:World) (o:Obj):(w.alloc o).heap[w.heap.size]? = some o:=heap_alloc_new w o
theorem append_ty {P:Program}(ts:Array TypeId) (ty:TypeId) (args:Array Value) (w:World):(Builtin.append_ ts ty args).run P w=(Builtin.append_ ts 0 args).run P w:=rfl
theorem append_types {P:Program}{t u e e':TypeId}(ht:P.underlying t=some (.slice e)) (hu:P.underlying u=some (.slice e')) (ty:TypeId) (args:Array Value) (w:World) :
  (Builtin.append_ #[t,u] ty args).run P w=(Builtin.append_ #[t,t] ty args).run P w:=by
 cases h0:args[0]? with
 |none=>simp[Builtin.append_,h0]
 |some s =>
  cases h1:args[1]? with
  |none=>simp[Builtin.append_,h0,h1]
  |some x=>cases s <;> simp[Builtin.append_,h0,h1,run_underlying ht,run_underlying hu]
theorem room_cells {cur:List Value}{n i:Nat}{c0 c1:Value}(hi:i < n) (hl:(n+1)*2≤cur.length) :
  let mid:=cur.take ((i+1)*2)++(cur.drop (i*2)).take ((n - i)*2)++cur.drop ((i+1)*2+(n - i)*2)
  (mid.take (i*2)++[c0,c1]++mid.drop (i*2+2)).take ((n+1)*2)=(cur.take (n*2)).take (i*2)++[c0,c1]++(cur.take (n*2)).drop (i*2):=by
 intro mid
 have hm:mid=cur.take ((i+1)*2)++(cur.drop (i*2)).take ((n - i)*2)++cur.drop ((i+1)*2+(n - i)*2):=rfl
 have hml:mid.length=cur.length:=by rw[hm];simp;omega
 have h1:(cur.take ((i+1)*2)).length=(i+1)*2:=by simp;omega
 have h2:((cur.drop (i*2)).take ((n - i)*2)).length=(n - i)*2:=by simp;omega
 have e1:mid.take (i*2)=cur.take (i*2):=by
  rw[hm,List.append_assoc,List.take_append_of_le_length (by rw[h1];omega),List.take_take,Nat.min_eq_left (by omega)]
 have e2:mid.drop (i*2+2)=(cur.drop (i*2)).take ((n - i)*2)++cur.drop ((i+1)*2+(n - i)*2):=by
  rw[hm,List.append_assoc,List.drop_append_of_le_length (by rw[h1];omega),List.drop_eq_nil_of_le (by rw[h1];omega),List.nil_append]
 rw[e1,e2,List.take_take,Nat.min_eq_left (show i*2≤n*2 by omega),List.drop_take]
 have h3:(cur.take (i*2)).length=i*2:=by simp;omega
 rw[List.take_append,List.take_of_length_le (by simp;omega)]
 congr 1
 rw[List.take_append_of_le_length (by simp;omega),List.take_of_length_le (by simp;omega)]
 congr 1
 omega
theorem shape_of {w:World}{ad:Addr}{c:Value}(h:w.cell? (ad.add 0)=some c):∃ t k,w.shape? ad.block=some (t,k+1):=by
 rw[AX.add_zero]at h
 unfold World.cell? at h
 unfold World.shape?
 split at h
 ·
  next cs e fr hh =>
  split at h
  ·
   cases h
  ·
   have:=(Array.getElem?_eq_some_iff.1 h).1
   exact⟨e,cs.size - 1,by simp;omega⟩
 ·
  cases h
set_option maxHeartbeats 4000000 in
set_option maxRecDepth 100000 in
theorem insert_room (g n cap i:Nat) (ad:Addr) (cp:Nat) (w:World) (cur:Array Value) (c0 c1:Value) (hg:w.heap[g]? = some (.cells cur 109 (0,0))) (hsz:cur.size=cap*2) (hi:i < n) (hn:n≤268435456) (hc:n+1≤cap) (hcm:cap≤maxLen)
  (had:ad.block≠g) (h0:w.cell? (ad.add 0)=some c0) (h1:w.cell? (ad.add 1)=some c1) (hone:∀ v∈cur.toList.take (n*2),v.oneCell'=true) (hc0:c0.oneCell'=true) (hc1:c1.oneCell'=true) :
  Calls Tryz.prog 108 #[.slice (some ⟨g,0,none⟩) n cap,.int .i64 (i:Int),.slice (some ad) 1 cp] w fun e w' =>
   e = .returned (.slice (some ⟨g,0,none⟩) (n+1) cap)∧∃ m1 cs',w'=(w.drew.setRow g m1).setRow g cs'∧cs'.size=cap*2∧cs'.toList.take ((n+1)*2)=(cur.toList.take (n*2)).take (i*2)++[c0,c1]++(cur.toList.take (n*2)).drop (i*2):=by
 have mixed:=mixed_ok
 have hz1:¬ ((1:Int)=0):=by omega
 have hz2:¬ ((i:Int)=(n:Int)):=by omega
 have hz3:¬ ((cap:Int) < (n:Int)+1):=by omega
 have hb2:¬ (cap=i+1):=by omega
 have hb4:¬ (cap=i):=by omega
 have hin:i≤n:=by omega
 have hw1:IntKind.i64.wrap ((i:Int)+1)=(i:Int)+1:=by rw[IntKind.wrap_i64];omega
 have hb1:(0:Int)≤(i:Int)+1:=by omega
 have htn:((i:Int)+1).toNat=i+1:=by omega
 have hb3:(i:Int)≤(n:Int)+1:=by omega
 have hov:∀ lb cb,(callFunc 143 #[.slice (some ad) 1 cp,.slice (some ⟨g,(i+1)*2,none⟩) lb cb]).run Tryz.prog w = .ok (.value (.bool false)) w:=fun lb cb=>by
  obtain⟨tA,kA,hsa⟩:=shape_of h0
  have hsb:w.shape? g=some (109,(cap*2 - 1)+1):=by
   simp[World.shape?,hg,hsz];omega
  rw[run_callFunc_extern Tryz.func143 (by kernel_rfl) (by kernel_rfl) (by kernel_rfl) (e:=Extern.SlicesOverlaps.overlaps #[30,30] #[4]) (by kernel_rfl),
   run_overlaps_b w 30 4 109 Tryz.underlying30 2 Tryz.sizeOf109 ad ⟨g,(i+1)*2,none⟩ 1 cp lb cb had tA 109 kA (cap*2 - 1) hsa hsb (by simp[World.frozen?,hg]) (by simp[World.frozen?,hg])]
  rfl
 have hin2:(Tryz.prog.info? 109).map (·.size)=some 2:=by kernel_rfl
 have hT:Tryz.prog.underlying 30=some (.slice 109):=Tryz.underlying30
 have hcl:(n+1)*2≤cur.size:=by rw[hsz];exact Nat.mul_le_mul_right 2 hc
 have hgd:w.drew.heap[g]? = some (.cells cur 109 (0,0)):=hg
 have htl:((cur.toList.drop (i*2)).take ((n - i)*2)).length=(n - i)*2:=by simp;omega
 have hcp1:∀ ty dc sc,(Builtin.copy_ #[30,30] ty #[.slice (some ⟨g,(i+1)*2,none⟩) (n - i) dc,.slice (some ⟨g,i*2,none⟩) (n+1 - i) sc]).run Tryz.prog w.drew =
   .ok (goInt (n - i:Nat)) (w.drew.setRow g (cur.toList.take ((i+1)*2)++(cur.toList.drop (i*2)).take ((n - i)*2)++cur.toList.drop ((i+1)*2+(n - i)*2)).toArray):=fun ty dc sc=>by
  have h:=run_copy_k (P:=Tryz.prog) w.drew 30 30 ty 109 2 g ((i+1)*2) (n - i) dc ⟨g,i*2,none⟩ (n+1 - i) sc (n - i) cur 109 ((cur.toList.drop (i*2)).take ((n - i)*2)) hT hin2 hgd
   (Nat.min_eq_right (by omega)) htl (fun j v hj=>by
    rw[List.getElem?_take]at hj
    split at hj
    ·
     rw[List.getElem?_drop]at hj
     rw[Addr.add_lit]
     simp[World.cell?,hgd]
     simpa using hj
    ·
     cases hj) (by rw[htl];omega) (fun v hv=>?_)
  ·
   rw[htl]at h
   exact h
  ·
   obtain⟨j,hj⟩:=List.getElem?_of_mem hv
   rw[List.getElem?_take]at hj
   split at hj
   ·
    rw[List.getElem?_drop]at hj
    refine hone v (List.mem_of_getElem? (i:=i*2+j) ?_)
    rw[List.getElem?_take,if_pos (by omega)];exact hj
   ·
    cases hj
 generalize hmid:cur.toList.take ((i+1)*2)++(cur.toList.drop (i*2)).take ((n - i)*2)++cur.toList.drop ((i+1)*2+(n - i)*2)=mid at hcp1
 have hml:mid.length=cur.size:=by rw[← hmid];simp;omega
 have hg1:(w.drew.setRow g mid.toArray).heap[g]? = some (.cells mid.toArray 109 (0,0)):=setRow_heap _ _ _ _ _ _ hgd
 have hadc:∀ j v,[c0,c1][j]? = some v→(w.drew.setRow g mid.toArray).cell? (ad.add j)=some v:=fun j v hj=>by
  have hk:∀ q,(w.drew.setRow g mid.toArray).cell? (ad.add q)=w.cell? (ad.add q):=fun q=>by
   have hb:(ad.add q).block=ad.block:=add_block ad q
   simp only[World.cell?,hb]
   rw[setRow_other _ _ _ _ had]
   rfl
  match j,hj with
  |0,hj=>simp at hj;subst hj;rw[hk];exact h0
  |1,hj=>simp at hj;subst hj;rw[hk];exact h1
 have hcp2:∀ ty dc,(Builtin.copy_ #[30,30] ty #[.slice (some ⟨g,i*2,none⟩) (n+1 - i) dc,.slice (some ad) 1 cp]).run Tryz.prog (w.drew.setRow g mid.toArray) =
   .ok (goInt (1:Nat)) ((w.drew.setRow g mid.toArray).setRow g (mid.take (i*2)++[c0,c1]++mid.drop (i*2+2)).toArray):=fun ty dc=>by
  have h:=run_copy_k (P:=Tryz.prog) (w.drew.setRow g mid.toArray) 30 30 ty 109 2 g (i*2) (n+1 - i) dc ad 1 cp 1 mid.toArray 109 [c0,c1] hT hin2 hg1
   (Nat.min_eq_left (by omega)) rfl hadc (by simp;omega) (by simp[hc0,hc1])
  simpa using h
 go_enter Tryz.func108,Tryz.ntmps108
 go_wp2_with (simp only[hov])
 go_region_law_o (refine step_copy_runI rfl _ _ 30 30 rfl _ _ (by simp[Act.eval,Act.put]) (by simp[Act.eval,Act.put]) (hcp1 _ _ _) ?_)
 go_wp2_with (at_builtin;refine wpList_copy_runI _ rfl _ _ 30 30 rfl _ _ rfl rfl (hcp2 _ _) ?_)
 go_ret
 refine⟨rfl,_,_,rfl,by simp;omega,?_⟩
 have:=room_cells (cur:=cur.toList) (n:=n) (i:=i) (c0:=c0) (c1:=c1) hi (by simpa using hcl)
 rw[hmid]at this
 simpa using this
theorem grow_cells {xs zs:List Value}{n i:Nat}{c0 c1:Value}(hi:i < n) (hl:xs.length=n*2) (hz:(n+1 - i)*2≤zs.length) :
  let row:=xs.take (i*2)++zs
  let mid:=row.take (i*2)++[c0,c1]++row.drop (i*2+2)
  (mid.take ((i+1)*2)++xs.drop (i*2)++mid.drop ((i+1)*2+(n - i)*2)).take ((n+1)*2)=xs.take (i*2)++[c0,c1]++xs.drop (i*2):=by
 intro row mid
 have h3:(xs.take (i*2)).length=i*2:=by simp;omega
 have hr:row.take (i*2)=xs.take (i*2):=by
  show(xs.take (i*2)++zs).take (i*2)=_
  rw[List.take_append_of_le_length (by omega),List.take_of_length_le (by omega)]
 have hm:mid.take ((i+1)*2)=xs.take (i*2)++[c0,c1]:=by
  show(row.take (i*2)++[c0,c1]++row.drop (i*2+2)).take ((i+1)*2)=_
  rw[hr,List.take_append_of_le_length (by simp;omega),List.take_of_length_le (by simp;omega)]
 rw[hm,List.take_append_of_le_length (by simp;omega),List.take_of_length_le (by simp;omega)]
set_option maxHeartbeats 4000000 in
set_option maxRecDepth 100000 in
theorem insert_grow (g n cap i:Nat) (ad:Addr) (cp:Nat) (w:World) (cur:Array Value) (c0 c1:Value) (hg:w.heap[g]? = some (.cells cur 109 (0,0))) (hsz:cur.size=cap*2) (hi:i < n) (hn:n≤268435456) (hnc:n≤cap) (hc:cap < n+1) (hcm:cap≤maxLen)
  (hadw:ad.block < w.heap.size) (h0:w.cell? (ad.add 0)=some c0) (h1:w.cell? (ad.add 1)=some c1) (hone:∀ v∈cur.toList.take (n*2),v.oneCell'=true) (hc0:c0.oneCell'=true) (hc1:c1.oneCell'=true) :
  Calls Tryz.prog 108 #[.slice (some ⟨g,0,none⟩) n cap,.int .i64 (i:Int),.slice (some ad) 1 cp] w fun e w' =>
   ∃ G,e = .returned (.slice (some ⟨w.heap.size,0,none⟩) (n+1) G)∧n+1≤G∧G≤maxLen∧Below w.heap.size w w'∧∃ cs',w'.heap[w.heap.size]? = some (.cells cs' 109 (0,0))∧cs'.size=G*2 ∧
    cs'.toList.take ((n+1)*2)=(cur.toList.take (n*2)).take (i*2)++[c0,c1]++(cur.toList.take (n*2)).drop (i*2):=by
 have mixed:=mixed_ok
 have hz1:¬ ((1:Int)=0):=by omega
 have hz2:¬ ((i:Int)=(n:Int)):=by omega
 have hz3:(cap:Int) < (n:Int)+1:=by omega
 have hin:i≤n:=by omega
 have hw1:IntKind.i64.wrap ((i:Int)+1)=(i:Int)+1:=by rw[IntKind.wrap_i64];omega
 have hb1:(0:Int)≤(i:Int)+1:=by omega
 have htn:((i:Int)+1).toNat=i+1:=by omega
 have hb3:(i:Int)≤(n:Int):=by omega
 have hci:¬ (cap=i):=by omega
 have hin2:(Tryz.prog.info? 109).map (·.size)=some 2:=by kernel_rfl
 have hT:Tryz.prog.underlying 30=some (.slice 109):=Tryz.underlying30
 have hcl:n*2≤cur.size:=by rw[hsz];exact Nat.mul_le_mul_right 2 hnc
 have hgw:g < w.heap.size:=by
  rcases Nat.lt_or_ge g w.heap.size with h|h
  ·
   exact h
  ·
   rw[Array.getElem?_eq_none h]at hg;cases hg
 generalize hxs:cur.toList.take (n*2)=xs at hone
 have hxl:xs.length=n*2:=by rw[← hxs];simp;omega
 have hcell:∀ (W:World),W.heap[g]? = w.heap[g]? → ∀ j v,xs[j]? = some v→W.cell? ⟨g,j,none⟩=some v:=fun W hW j v hj=>by
  rw[← hxs,List.getElem?_take]at hj
  split at hj
  ·
   simp[World.cell?,hW,hg]
   simpa using hj
  ·
   cases hj
 have htb:∃ ti,tget tbl 109=some ti∧ti.n=2∧ti.bytes=40∧ti.zero=[.string ⟨#[]⟩,.slice none 0 0]:=⟨_,rfl,rfl,rfl,rfl⟩
 obtain⟨ti,ht1,ht2,ht3,ht4⟩:=htb
 obtain⟨i0,hi0,hzs,hzb,z,hz0,hzc⟩:=(tbl_ok _ _ ht1).info
 rw[ht2]at hzs
 rw[ht3]at hzb
 rw[ht4]at hzc
 have hzz:z.cells.size=2:=by rw[← Array.length_toList,hzc];rfl
 have hold:(Builtin.firstCells i0.size i (.slice (some ⟨g,0,none⟩) i cap)).run Tryz.prog w.drew = .ok (xs.take (i*2)).toArray w.drew:=by
  rw[hzs]
  exact run_firstCells_some w.drew 2 i ⟨g,0,none⟩ i cap (xs.take (i*2)) (by rw[List.length_take];omega) (fun j v hj=>by
   rw[Addr.add_lit,Nat.zero_add]
   rw[List.getElem?_take]at hj
   split at hj
   ·
    exact hcell w.drew rfl j v hj
   ·
    cases hj)
 obtain⟨G,hG⟩:∃ G,G=grownCap w (n+1) cap 109:=⟨_,rfl⟩
 have hGn:n+1≤G:=by rw[hG];exact grownCap_ge w _ _ _
 have hGm:G≤maxLen:=by rw[hG];exact grownCap_le_maxLen w (n+1) cap 109 (by unfold maxLen;omega)
 have hG63:G≤9223372036854775807:=by unfold maxLen at hGm;omega
 obtain⟨zs,hzs2⟩:∃ zs:Array Value,zs=Builtin.zeroCells z.cells (n+1 - i)++Builtin.zeroCells z.cells (G - (n+1)):=⟨_,rfl⟩
 have hzl:zs.size=(G - i)*2:=by rw[hzs2];simp[size_zeroCells,hzz];omega
 obtain⟨ROW,hROW⟩:∃ ROW:Array Value,ROW=(xs.take (i*2)).toArray++zs:=⟨_,rfl⟩
 have hRl:ROW.size=G*2:=by rw[hROW];simp[hzl];omega
 have hrz:∀ ty,(Builtin.append_ #[30,3] ty #[.slice (some ⟨g,0,none⟩) i cap,.int .i64 ((n:Int)+1 - (i:Int))]).run Tryz.prog w =
   .ok (.slice (some ⟨w.heap.size,0,none⟩) (n+1) G) (w.drew.alloc (.cells ROW 109)):=fun ty=>by
  have h:=Lib.run_append_grow_zeros (P:=Tryz.prog) w 30 3 ty 109 i0 z .i64 .i64 hT Tryz.underlying3 hi0 hz0 (some ⟨g,0,none⟩) i cap (xs.take (i*2)) hold (n+1 - i) (by omega) (by omega) (by omega) (by omega) (by rw[hzb];omega)
   (by rw[hzb,show i+(n+1 - i)=n+1 by omega];exact growslice_fits hc (by omega))
  rw[show i+(n+1 - i)=n+1 by omega,← hG,Array.append_assoc,← hzs2,← hROW]at h
  rw[show(n:Int)+1 - (i:Int)=((n+1 - i:Nat):Int) by omega]
  exact h
 have hGi:¬ (G=i):=by omega
 have hGim:¬ (G=i+1):=by omega
 have hgs:¬ w.heap.size=g:=by omega
 obtain⟨mid,hmid⟩:∃ mid:List Value,mid=ROW.toList.take (i*2)++[c0,c1]++ROW.toList.drop (i*2+2):=⟨_,rfl⟩
 have hml:mid.length=G*2:=by rw[hmid];simp;omega
 obtain⟨fin,hfin⟩:∃ fin:List Value,fin=mid.take ((i+1)*2)++xs.drop (i*2)++mid.drop ((i+1)*2+(n - i)*2):=⟨_,rfl⟩
 have hfl:fin.length=G*2:=by rw[hfin];simp;omega
 have hN:(w.alloc (.cells ROW 109)).heap[w.heap.size]? = some (.cells ROW 109 (0,0)):=alloc_new_at w _
 have hadc:∀ (W:World),W.heap=(w.alloc (.cells ROW 109)).heap→∀ j v,[c0,c1][j]? = some v→W.cell? (ad.add j)=some v:=fun W hW j v hj=>by
  have hk:∀ q,W.cell? (ad.add q)=w.cell? (ad.add q):=fun q=>by
   have hb:(ad.add q).block=ad.block:=add_block ad q
   simp only[World.cell?,hb,hW]
   rw[Below.heap_alloc w _ _ hadw]
  match j,hj with
  |0,hj=>simp at hj;subst hj;rw[hk];exact h0
  |1,hj=>simp at hj;subst hj;rw[hk];exact h1
 have hcpA:∀ (W:World),W.heap=(w.alloc (.cells ROW 109)).heap→∀ ty dc,(Builtin.copy_ #[30,30] ty #[.slice (some ⟨w.heap.size,i*2,none⟩) (n+1 - i) dc,.slice (some ad) 1 cp]).run Tryz.prog W =
   .ok (goInt (1:Nat)) (W.setRow w.heap.size mid.toArray):=fun W hW ty dc=>by
  have h:=run_copy_k (P:=Tryz.prog) W 30 30 ty 109 2 w.heap.size (i*2) (n+1 - i) dc ad 1 cp 1 ROW 109 [c0,c1] hT hin2 (by rw[hW];exact hN)
   (Nat.min_eq_left (by omega)) rfl (hadc W hW) (by simp;omega) (by simp[hc0,hc1])
  rw[hmid]
  simpa using h
 have hdl:(xs.drop (i*2)).length=(n - i)*2:=by rw[List.length_drop,hxl];omega
 have hcpB:∀ (W:World),W.heap[w.heap.size]? = some (.cells mid.toArray 109 (0,0))→W.heap[g]? = w.heap[g]? → ∀ ty dc sc,(Builtin.copy_ #[30,30] ty #[.slice (some ⟨w.heap.size,(i+1)*2,none⟩) (n - i) dc,.slice (some ⟨g,i*2,none⟩) (n - i) sc]).run Tryz.prog W =
   .ok (goInt (n - i:Nat)) (W.setRow w.heap.size fin.toArray):=fun W hW hWg ty dc sc=>by
  have h:=run_copy_k (P:=Tryz.prog) W 30 30 ty 109 2 w.heap.size ((i+1)*2) (n - i) dc ⟨g,i*2,none⟩ (n - i) sc (n - i) mid.toArray 109 (xs.drop (i*2)) hT hin2 hW
   (Nat.min_self _) hdl (fun j v hj=>by
    rw[Addr.add_lit]
    rw[List.getElem?_drop]at hj
    exact hcell W hWg _ v hj) (by rw[hdl];simp;omega) (fun v hv=>hone v (List.mem_of_mem_drop hv))
  rw[hdl]at h
  rw[hfin]
  simpa using h
 have hE:((w.alloc (.cells ROW 109)).drew).heap=(w.alloc (.cells ROW 109)).heap:=rfl
 have hB1:∀ (W:World),W.heap=(w.alloc (.cells ROW 109)).heap→(W.setRow w.heap.size mid.toArray).drew.heap[w.heap.size]? = some (.cells mid.toArray 109 (0,0)):=fun W hW=>setRow_heap W _ _ _ _ _ (by rw[hW];exact hN)
 have hB2:∀ (W:World),W.heap=(w.alloc (.cells ROW 109)).heap→(W.setRow w.heap.size mid.toArray).drew.heap[g]? = w.heap[g]? := fun W hW=>by
  show(W.setRow w.heap.size mid.toArray).heap[g]? = _
  rw[setRow_other _ _ _ _ (by omega),hW]
  exact Below.heap_alloc w _ _ hgw
 have hlast:fin.take ((n+1)*2)=xs.take (i*2)++[c0,c1]++xs.drop (i*2):=by
  have h:=grow_cells (xs:=xs) (zs:=zs.toList) (n:=n) (i:=i) (c0:=c0) (c1:=c1) hi hxl (by rw[Array.length_toList,hzl];exact Nat.mul_le_mul_right 2 (by omega))
  rw[hfin,hmid,hROW]
  simpa using h
 clear hzs2 hROW hmid hfin hG
 go_enter Tryz.func108,Tryz.ntmps108
 go_wp2_with (first
  |(at_builtin;refine Lib.wpList_append_run _ rfl _ _ _ _ rfl _ _ rfl rfl _ _ (hrz _) ?_)
  |(at_builtin;refine wpList_copy_runI _ rfl _ _ 30 30 rfl _ _ rfl rfl (hcpA _ rfl _ _) ?_))
 go_region_law_o (refine step_copy_runI rfl _ _ 30 30 rfl (.slice (some ⟨w.heap.size,(i+1)*2,none⟩) (n - i) (G - (i+1))) (.slice (some ⟨g,i*2,none⟩) (n - i) (cap - i)) (by simp[Act.eval,Act.put]) (by simp[Act.eval,Act.put]) (hcpB ((w.alloc (.cells ROW 109)).drew.setRow w.heap.size mid.toArray).drew (hB1 _ hE) (hB2 _ hE) _ _ _) ?_)
 go_wp2
 go_ret
 refine⟨G,rfl,hGn,hGm,⟨rfl,rfl,rfl,by simp[setRow_size],fun k hk=>?_⟩,fin.toArray,setRow_heap _ _ _ _ _ _ (hB1 _ hE),by simp[hfl],by simpa using hlast⟩
 rw[setRow_other _ _ _ _ (by omega)]
 show((w.alloc (.cells ROW 109)).drew.setRow w.heap.size mid.toArray).heap[k]? = _
 rw[setRow_other _ _ _ _ (by omega)]
 exact Below.heap_alloc w _ _ hk
set_option maxHeartbeats 4000000 in
set_option maxRecDepth 100000 in
theorem insert_end (v:Value) (n:Nat) (xs:List Value) (ad:Addr) (cp:Nat) (w:World) (c0 c1:Value) (hown:w.ownsRow 0 109 2 v n xs) (hn:n≤268435456)
  (h0:w.cell? (ad.add 0)=some c0) (h1:w.cell? (ad.add 1)=some c1) (hc0:c0.oneCell'=true) (hc1:c1.oneCell'=true) :
  Calls Tryz.prog 108 #[v,.int .i64 (n:Int),.slice (some ad) 1 cp] w fun e w' =>
   ∃ v',e = .returned v'∧w'.ownsRow 0 109 2 v' (n+1) (xs++[c0,c1])∧w.grownBy w' v.ownBlock∧(v'.ownBlock=v.ownBlock∨v'.ownBlock=some w.heap.size):=by
 have mixed:=mixed_ok
 have hz1:¬ ((1:Int)=0):=by omega
 have hT:Tryz.prog.underlying 30=some (.slice 109):=Tryz.underlying30
 have htb:∃ ti,tget tbl 109=some ti∧ti.n=2∧ti.bytes=40∧ti.zero=[.string ⟨#[]⟩,.slice none 0 0]:=⟨_,rfl,rfl,rfl,rfl⟩
 obtain⟨ti,ht1,ht2,ht3,ht4⟩:=htb
 obtain⟨i0,hi0,hzs,hzb,z,hz0,hzc⟩:=(tbl_ok _ _ ht1).info
 rw[ht2]at hzs
 rw[ht3]at hzb
 rw[ht4]at hzc
 have hzz:z.cells.size=2:=by rw[← Array.length_toList,hzc];rfl
 have hnews:∀ j u,[c0,c1][j]? = some u→w.cell? (ad.add j)=some u:=fun j u hj=>by
  match j,hj with
  |0,hj=>simp at hj;subst hj;exact h0
  |1,hj=>simp at hj;subst hj;exact h1
 have hone:∀ u∈[c0,c1],u.oneCell'=true:=by simp[hc0,hc1]
 obtain⟨R,hR⟩:∃ R:Value→World→Prop,R=fun v' w'=>w'.ownsRow 0 109 2 v' (n+1) (xs++[c0,c1])∧w.grownBy w' v.ownBlock∧(v'.ownBlock=v.ownBlock∨v'.ownBlock=some w.heap.size):=⟨_,rfl⟩
 have hmk:∀ v' w',w'.ownsRow 0 109 2 v' (n+1) (xs++[c0,c1])→w.grownBy w' v.ownBlock→(v'.ownBlock=v.ownBlock∨v'.ownBlock=some w.heap.size)→R v' w':=fun v' w' a b c=>by rw[hR];exact⟨a,b,c⟩
 suffices h:Calls Tryz.prog 108 #[v,.int .i64 (n:Int),.slice (some ad) 1 cp] w fun e w'=>∃ v',e = .returned v'∧R v' w' by
  refine h.mono fun e w'=>?_
  rintro ⟨v',a,b⟩
  rw[hR]at b
  exact⟨v',a,b⟩
 clear hR
 have hb:n+1≤maxLen:=by unfold maxLen;omega
 have hv:(v = .slice none 0 0∧n=0)∨∃ g cap,v = .slice (some ⟨g,0,none⟩) n cap∧n≤cap:=by
  rcases hown.2 with h|⟨g,cap,cur,e,_,_,h,_⟩
  ·
   exact .inl h
  ·
   exact .inr ⟨g,cap,e,h⟩
 obtain⟨v',w',hr,q1,q2,_,q4⟩:=run_append_own_at (P:=Tryz.prog) w 0 30 0 109 i0 z 2 40 hT hi0 hz0 hzs hzb hzz (by decide) v n xs hown ad 1 cp [c0,c1] rfl hnews hone hb (by omega) (Nat.zero_le _)
 have hR:=hmk v' w' q1 q2 q4
 have hap:∀ ty,(Builtin.append_ #[30,30] ty #[v,.slice (some ad) 1 cp]).run Tryz.prog w = .ok v' w':=fun ty=>(append_types hT Tryz.underlying30 ty _ w).trans ((append_ty _ _ _ w).trans hr)
 clear hmk q1 q2 q4 hr hown hnews
 rcases hv with ⟨rfl,rfl⟩|⟨g,cap,rfl,hnc⟩
 ·
  go_enter Tryz.func108,Tryz.ntmps108
  go_wp2_with (at_builtin;refine Lib.wpList_append_run _ rfl _ _ 30 30 rfl _ _ rfl rfl _ _ (hap _) ?_)
  go_ret
  exact⟨_,rfl,hR⟩
 ·
  go_enter Tryz.func108,Tryz.ntmps108
  go_wp2_with (at_builtin;refine Lib.wpList_append_run _ rfl _ _ 30 30 rfl _ _ rfl rfl _ _ (hap _) ?_)
  all_goals
   go_ret
   exact⟨_,rfl,hR⟩
end Go.Proofs.YtfpkamiobdkcpaaGreatDoor
namespace Go.AX
open Go.RowKit
theorem getElem?_ins {α:Type}{l:List α}{m:Nat}{x:α}(hm:m≤l.length) (i:Nat) :
  (l.take m++x::l.drop m)[i]? = if i < m then l[i]? else if i=m then some x else l[i - 1]? := by
 have hl:(l.take m).length=m:=by simp;omega
 by_cases h1:i < m
 ·
  rw[if_pos h1,List.getElem?_append_left (by omega),List.getElem?_take,if_pos h1]
 ·
  rw[if_neg h1,List.getElem?_append_right (by omega),hl]
  by_cases h2:i=m
  ·
   subst h2;simp
  ·
   rw[if_neg h2]
   obtain⟨j,rfl⟩:∃ j,i=m+(j+1):=⟨i - m - 1,by omega⟩
   rw[show m+(j+1) - m=j+1 by omega,List.getElem?_cons_succ,List.getElem?_drop]
   congr 1
theorem getElem?_ins2 {α:Type}{l:List α}{m n:Nat}{a b:α}(hl:l.length=n*2) (hm:m≤n) (i j:Nat) (hj:j < 2) :
  (l.take (m*2)++[a,b]++l.drop (m*2))[i*2+j]? = if i < m then l[i*2+j]? else if i=m then [a,b][j]? else l[(i - 1)*2+j]? := by
 have hm2:m*2≤n*2:=Nat.mul_le_mul_right 2 hm
 have h1:(l.take (m*2)).length=m*2:=by simp;omega
 rw[List.append_assoc]
 by_cases hi:i < m
 ·
  have:(i+1)*2≤m*2:=Nat.mul_le_mul_right 2 hi
  rw[if_pos hi,List.getElem?_append_left (by omega),List.getElem?_take,if_pos (by omega)]
 ·
  rw[if_neg hi,List.getElem?_append_right (by omega),h1]
  by_cases he:i=m
  ·
   subst he
   rw[if_pos rfl,show i*2+j - i*2=j by omega,List.getElem?_append_left (by simpa using hj)]
  ·
   rw[if_neg he]
   have:(m+1)*2≤i*2:=Nat.mul_le_mul_right 2 (by omega)
   rw[List.getElem?_append_right (by simp;omega),List.getElem?_drop]
   congr 1
   simp;omega
theorem rows_ins {w w':World}{own:Nat→Prop}{v v':Value}{e m:Nat}{rows:List (List D)}{xs:List Value}{c0 c1:Value}{d0 d1:D}
  (hm:m≤rows.length) (hb:BelowBut v w w') (hp:∀ b,blk v'=some b→blk v=some b∨w.heap.size≤b)
  (hlen:xs.length=rows.length*2) (hone:∀ x∈xs,Value.oneCell' x=true) (hrl:∀ r∈rows,r.length=2)
  (hrd:∀ (i j:Nat) (r:List D) (d:D) (x:Value),rows[i]? = some r→r[j]? = some d→xs[i*2+j]? = some x→Rd w (with1 own v) x d)
  (h0:Rd w (with1 own v) c0 d0) (h1:Rd w (with1 own v) c1 d1) (o0:c0.oneCell'=true) (o1:c1.oneCell'=true)
  (hown:w'.ownsRow 0 e 2 v' (rows.length+1) (xs.take (m*2)++[c0,c1]++xs.drop (m*2))) :
  RowsAt w' 0 (with1 own v') e 2 v' (rows.take m++[d0,d1]::rows.drop m):=by
 have hext:Ext (with1 own v) w w':=⟨hb.size,fun b h1 h2=>hb.block b h1 fun h=>h2 (.inr h)⟩
 have ho:∀ b,with1 own v' b→with1 own v b∨w.heap.size≤b:=by
  rintro b (h|h)
  ·
   exact .inl (.inl h)
  ·
   rcases hp b h with h|h
   ·
    exact .inl (.inr h)
   ·
    exact .inr h
 refine⟨xs.take (m*2)++[c0,c1]++xs.drop (m*2),?_,fun x hx=>?_,fun r hr=>?_,fun i j r d x hi hj hx=>?_⟩
 ·
  have:(rows.take m++[d0,d1]::rows.drop m).length=rows.length+1:=by simp;omega
  rw[this];exact hown
 ·
  rcases List.mem_append.1 hx with hx|hx
  ·
   rcases List.mem_append.1 hx with hx|hx
   ·
    exact hone x (List.mem_of_mem_take hx)
   ·
    simp at hx;rcases hx with rfl|rfl
    ·
     exact o0
    ·
     exact o1
  ·
   exact hone x (List.mem_of_mem_drop hx)
 ·
  rcases List.mem_append.1 hr with h|h
  ·
   exact hrl r (List.mem_of_mem_take h)
  ·
   rcases List.mem_cons.1 h with rfl|h
   ·
    rfl
   ·
    exact hrl r (List.mem_of_mem_drop h)
 ·
  refine Rd.step hext ho ?_
  rw[getElem?_ins hm]at hi
  have hj2:j < 2:=by
   have hjl:=(List.getElem?_eq_some_iff.1 hj).1
   split at hi
   ·
    rw[hrl r (List.mem_of_getElem? hi)]at hjl;exact hjl
   ·
    split at hi
    ·
     cases hi;simpa using hjl
    ·
     rw[hrl r (List.mem_of_getElem? hi)]at hjl;exact hjl
  rw[getElem?_ins2 hlen hm i j hj2]at hx
  split at hi
  ·
   next h=>rw[if_pos h]at hx;exact hrd i j r d x hi hj hx
  ·
   next h =>
   rw[if_neg h]at hx
   split at hi
   ·
    next h' =>
    rw[if_pos h']at hx
    cases hi
    match j,hj2,hj,hx with
    |0,_,hj,hx=>simp at hj hx;subst hj;subst hx;exact h0
    |1,_,hj,hx=>simp at hj hx;subst hj;subst hx;exact h1
   ·
    next h'=>rw[if_neg h']at hx;exact hrd (i - 1) j r d x hi hj hx
theorem getElem?_del {α:Type}{l:List α}{m:Nat}(hm:m < l.length) (i:Nat):(l.take m++l.drop (m+1))[i]? = if i < m then l[i]? else l[i+1]? := by
 have hl:(l.take m).length=m:=by simp;omega
 by_cases h1:i < m
 ·
  rw[if_pos h1,List.getElem?_append_left (by omega),List.getElem?_take,if_pos h1]
 ·
  rw[if_neg h1,List.getElem?_append_right (by omega),hl,List.getElem?_drop]
  congr 1;omega
theorem getElem?_del2 {α:Type}{l:List α}{m n:Nat}(hl:l.length=n*2) (hm:m < n) (i j:Nat) (hj:j < 2) :
  (l.take (m*2)++l.drop ((m+1)*2))[i*2+j]? = if i < m then l[i*2+j]? else l[(i+1)*2+j]? := by
 have hm2:m*2≤n*2:=Nat.mul_le_mul_right 2 (by omega)
 have h1:(l.take (m*2)).length=m*2:=by simp;omega
 by_cases hi:i < m
 ·
  have:(i+1)*2≤m*2:=Nat.mul_le_mul_right 2 hi
  rw[if_pos hi,List.getElem?_append_left (by omega),List.getElem?_take,if_pos (by omega)]
 ·
  rw[if_neg hi,List.getElem?_append_right (by omega),h1,List.getElem?_drop]
  congr 1;omega
theorem rows_del {w w':World}{own:Nat→Prop}{v v':Value}{e m:Nat}{rows:List (List D)}{xs:List Value}
  (hm:m < rows.length) (hb:BelowBut v w w') (hp:∀ b,blk v'=some b→blk v=some b∨w.heap.size≤b)
  (hlen:xs.length=rows.length*2) (hone:∀ x∈xs,Value.oneCell' x=true) (hrl:∀ r∈rows,r.length=2)
  (hrd:∀ (i j:Nat) (r:List D) (d:D) (x:Value),rows[i]? = some r→r[j]? = some d→xs[i*2+j]? = some x→Rd w (with1 own v) x d)
  (hown:w'.ownsRow 0 e 2 v' (rows.length - 1) (xs.take (m*2)++xs.drop ((m+1)*2))) :
  RowsAt w' 0 (with1 own v') e 2 v' (rows.take m++rows.drop (m+1)):=by
 have hext:Ext (with1 own v) w w':=⟨hb.size,fun b h1 h2=>hb.block b h1 fun h=>h2 (.inr h)⟩
 have ho:∀ b,with1 own v' b→with1 own v b∨w.heap.size≤b:=by
  rintro b (h|h)
  ·
   exact .inl (.inl h)
  ·
   rcases hp b h with h|h
   ·
    exact .inl (.inr h)
   ·
    exact .inr h
 refine⟨xs.take (m*2)++xs.drop ((m+1)*2),?_,fun x hx=>?_,fun r hr=>?_,fun i j r d x hi hj hx=>?_⟩
 ·
  have:(rows.take m++rows.drop (m+1)).length=rows.length - 1:=by simp;omega
  rw[this];exact hown
 ·
  rcases List.mem_append.1 hx with hx|hx
  ·
   exact hone x (List.mem_of_mem_take hx)
  ·
   exact hone x (List.mem_of_mem_drop hx)
 ·
  rcases List.mem_append.1 hr with h|h
  ·
   exact hrl r (List.mem_of_mem_take h)
  ·
   exact hrl r (List.mem_of_mem_drop h)
 ·
  refine Rd.step hext ho ?_
  rw[getElem?_del hm]at hi
  have hj2:j < 2:=by
   have hjl:=(List.getElem?_eq_some_iff.1 hj).1
   split at hi <;> (rw[hrl r (List.mem_of_getElem? hi)]at hjl;exact hjl)
  rw[getElem?_del2 hlen hm i j hj2]at hx
  split at hi
  ·
   next h=>rw[if_pos h]at hx;exact hrd i j r d x hi hj hx
  ·
   next h=>rw[if_neg h]at hx;exact hrd (i+1) j r d x hi hj hx
theorem rd_pair {w:World}{own:Nat→Prop}{v:Value}{d0 d1:D}(h:Rd w own v (.sl 2 [[d0,d1]])) :
  ∃ ad cp c0 c1,v = .slice (some ad) 1 cp∧¬ own ad.block∧ad.block < w.heap.size∧w.cell? (ad.add 0)=some c0∧w.cell? (ad.add 1)=some c1 ∧
   c0.oneCell'=true∧c1.oneCell'=true∧Rd w own c0 d0∧Rd w own c1 d1:=by
 cases h with
 |sl ad cap k rows f hb hs hcap hk hc h1 hr =>
  exact⟨ad,cap,f 0 0,f 0 1,rfl,hb,hs,by simpa using hc 0 0 _ d0 rfl rfl,by simpa using hc 0 1 _ d1 rfl rfl,h1 0 0 _ d0 rfl rfl,h1 0 1 _ d1 rfl rfl,hr 0 0 _ d0 rfl rfl,hr 0 1 _ d1 rfl rfl⟩
end Go.AX
namespace Go.Proofs.YtfpkamiobdkcpaaGreatDoor
open Go.AX Go.RF
theorem upd_insert (rows:List (List D)) (m:Nat) (d0 d1:D) (hm:m≤rows.length) (hl:rows.length≤268435456) :
  FnUpd Tryz.prog 108 109 2 rows [.d (dint m),.d (.sl 2 [[d0,d1]])] (rows.take m++[d0,d1]::rows.drop m):=by
 refine⟨⟨_,Tryz.func108,by kernel_rfl,by kernel_rfl⟩,fun w own v vs hown hR hsep ha=>?_⟩
 match vs,ha with
 | [v1,v2],⟨h1,h2,_⟩ =>
  have e1:=rd_v h1
  subst e1
  obtain⟨ad,cp,c0,c1,rfl,hnb,hadw,hc0,hc1,o0,o1,r0,r1⟩:=rd_pair h2
  obtain⟨xs,hrow,hone,hrl,hrd⟩:=hR
  have hbv:blk v=v.ownBlock:=blk_own hrow
  have hxl:=hrow.1
  by_cases hmn:m=rows.length
  ·
   subst hmn
   refine(insert_end v rows.length xs ad cp w c0 c1 hrow hl hc0 hc1 o0 o1).mono fun e w'=>?_
   rintro ⟨v',rfl,q1,q2,q3⟩
   have hp:∀ b,blk v'=some b→blk v=some b∨w.heap.size≤b:=fun b hb=>by
    rw[blk_own q1]at hb
    rw[hbv]
    rcases q3 with h|h
    ·
     rw[h]at hb;exact .inl hb
    ·
     rw[h]at hb;cases hb;exact .inr (Nat.le_refl _)
   have hbb:BelowBut v w w':=⟨q2.os,q2.tape,q2.output,q2.size,fun b hb hn=>q2.block b hb fun h=>hn (by rw[hbv,h])⟩
   refine⟨v',rfl,hbb,hp,rows_ins (Nat.le_refl _) hbb hp hxl hone hrl hrd r0 r1 o0 o1 ?_⟩
   rw[List.take_of_length_le (by omega),List.drop_eq_nil_of_le (by omega),List.append_nil]
   exact q1
  ·
   rcases hrow.2 with ⟨_,h0⟩|⟨g,cap,cur,rfl,_,hg,hnc,hcm,hsz,htk⟩
   ·
    omega
   ·
    have hadg:ad.block≠g:=fun h=>hnb (.inr (by rw[h];rfl))
    by_cases hroom:rows.length+1≤cap
    ·
     refine(insert_room g rows.length cap m ad cp w cur c0 c1 hg hsz (by omega) hl hroom hcm hadg hc0 hc1 (by rw[htk];exact hone) o0 o1).mono fun e w'=>?_
     rintro ⟨rfl,m1,cs',rfl,q1,q2⟩
     have hp:∀ b,blk (.slice (some ⟨g,0,none⟩) (rows.length+1) cap)=some b→blk (.slice (some ⟨g,0,none⟩) rows.length cap)=some b∨w.heap.size≤b:=fun b hb => .inl hb
     have hbb:BelowBut (.slice (some ⟨g,0,none⟩) rows.length cap) w ((w.drew.setRow g m1).setRow g cs'):=⟨rfl,rfl,rfl,by simp[setRow_size],fun b hb hn=>by
      have hbg:b≠g:=fun h=>hn (by rw[h];rfl)
      rw[setRow_other _ _ _ _ hbg,setRow_other _ _ _ _ hbg];rfl⟩
     refine⟨_,rfl,hbb,hp,rows_ins hm hbb hp hxl hone hrl hrd r0 r1 o0 o1 ⟨by simp;omega,.inr ⟨g,cap,cs',rfl,Nat.zero_le _,setRow_heap _ _ _ _ _ _ (setRow_heap _ _ _ _ _ _ hg),hroom,hcm,q1,?_⟩⟩⟩
     rw[q2,htk]
    ·
     refine(insert_grow g rows.length cap m ad cp w cur c0 c1 hg hsz (by omega) hl hnc (by omega) hcm hadw hc0 hc1 (by rw[htk];exact hone) o0 o1).mono fun e w'=>?_
     rintro ⟨G,rfl,q1,q2,hB,cs',q3,q4,q5⟩
     have hp:∀ b,blk (.slice (some ⟨w.heap.size,0,none⟩) (rows.length+1) G)=some b→blk (.slice (some ⟨g,0,none⟩) rows.length cap)=some b∨w.heap.size≤b:=fun b hb => .inr (by cases hb;exact Nat.le_refl _)
     have hbb:BelowBut (.slice (some ⟨g,0,none⟩) rows.length cap) w w':=⟨hB.os,hB.tape,hB.output,hB.size,fun b hb _=>hB.block b hb⟩
     refine⟨_,rfl,hbb,hp,rows_ins hm hbb hp hxl hone hrl hrd r0 r1 o0 o1 ⟨by simp;omega,.inr ⟨_,G,cs',rfl,Nat.zero_le _,q3,q1,q2,q4,?_⟩⟩⟩
     rw[q5,htk]
end Go.Proofs.YtfpkamiobdkcpaaGreatDoor
namespace Go.Proofs.YtfpkamiobdkcpaaGreatDoor
open Go.AX Go.RF Go.RowKit Go.Shelf Go.Lib
theorem step_append_runI {P:Program}{ops:Array Oper}{o:Oper}{a:Act}{w:World}{K:Act→World→Prop}{Q:Exit→Act→World→Prop}{E:Prop}
  (hg:o.guard=none) (d x:Operand) (dT sT:TypeId) (hop:o.op=Op.call { callee:=Callee.builtin Builtin.append,args := #[d,x],argTypes := #[dT,sT] })
  (v u:Value) (hd:a.eval d=v) (hx:a.eval x=u) {v':Value} {w':World} (hr:(Builtin.append_ #[dT,sT] o.type #[v,u]).run P w = .ok v' w') (hK:K (a.put o.dst v') w') :
  if Region.wanted o (yielded ops a.tmps)=true then Oper.wp P o a w K Q else E:=by
 have hw:Region.wanted o (yielded ops a.tmps)=true:=by simp[Region.wanted,hg]
 rw[if_pos hw]
 unfold Oper.wp
 simp[execOp,hop,resolve,invoke,builtin,hd,hx,hr,Result.andThen]
 exact hK
theorem wpList_clear_runI {P:Program}{ops:Array Oper}{rest:List Oper}{o:Oper}{a:Act}{w:World}{Q:Exit→Act→World→Prop}(hgd:o.guard=none) (x:Operand) (t:TypeId)
  (ho:o.op = .call { callee := .builtin .clear,args := #[x],argTypes := #[t] }) (u:Value) (hx:a.eval x=u) {v':Value} {w':World}
  (hr:(Builtin.clear_ #[t] o.type #[u]).run P w = .ok v' w') (h:wpList P ops Q rest (a.put o.dst v') w'):wpList P ops Q (o::rest) a w:=by
 refine wpList_plain hgd fun K hK=>?_
 unfold Oper.wp
 simp[execOp,ho,resolve,invoke,builtin,hx,hr,Result.andThen]
 exact hK _ _ h
theorem del_cells {cur zs:List Value}{n m:Nat}(hm:m < n) (hl:n*2≤cur.length) :
  let news:=(cur.drop ((m+1)*2)).take ((n - (m+1))*2)
  let m1:=cur.take (m*2)++news++cur.drop (m*2+news.length)
  (m1.take ((m+(n - (m+1)))*2)++zs++m1.drop ((m+(n - (m+1)))*2+zs.length)).take ((n - 1)*2)=(cur.take (n*2)).take (m*2)++(cur.take (n*2)).drop ((m+1)*2):=by
 intro news m1
 have h1:(cur.take (m*2)).length=m*2:=by simp;omega
 have h2:news.length=(n - (m+1))*2:=by simp[news];omega
 have hk:(m+(n - (m+1)))*2=(n - 1)*2:=by congr 1;omega
 have h3:m1.take ((n - 1)*2)=cur.take (m*2)++news:=by
  show(cur.take (m*2)++news++cur.drop (m*2+news.length)).take ((n - 1)*2)=_
  rw[List.take_append_of_le_length (by rw[List.length_append,h1,h2];omega),List.take_of_length_le (by rw[List.length_append,h1,h2];omega)]
 rw[hk,h3,List.append_assoc,List.take_append_of_le_length (by rw[List.length_append,h1,h2];omega),List.take_of_length_le (by rw[List.length_append,h1,h2];omega)]
 rw[List.take_take,Nat.min_eq_left (by omega),List.drop_take,show n*2 - (m+1)*2=(n - (m+1))*2 by omega]
end Go.Proofs.YtfpkamiobdkcpaaGreatDoor
namespace Go.Proofs.YtfpkamiobdkcpaaGreatDoor
open Go.AX Go.RF Go.RowKit
set_option maxRecDepth 100000
set_option maxHeartbeats 8000000
def putS (k:Str) (n:Int):List Pair→List Pair
 | []=>[⟨k,n⟩]
 |p::r=>if p.key=k then ⟨k,n⟩::r else if slt p.key k=true then p::putS k n r else ⟨k,n⟩::p::r
def dropS (k:Str):List Pair→List Pair
 | []=>[]
 |p::r=>if p.key=k then r else p::dropS k r
theorem dropS_none {k:Str}:∀ {l:List Pair},(∀ p∈l,p.key≠k)→dropS k l=l
 | [],_=>rfl
 |d::l,h=>by
  simp only[dropS]
  rw[if_neg (h d (List.mem_cons_self ..)),dropS_none fun p hp=>h p (List.mem_cons_of_mem _ hp)]
theorem putGo_done {k:Str}{n:Int}{h:Bool}:∀ {l out:List Pair},(∀ p∈l,p.key≠k)→putGo k n h true out l=out++l
 | [],out,_=>by simp[putGo]
 |p::l,out,hl=>by
  simp only[putGo]
  rw[if_neg (hl p (List.mem_cons_self ..))]
  simp only[Bool.true_or,Bool.not_true,Bool.false_and,Bool.false_eq_true,if_false]
  rw[putGo_done fun q hq=>hl q (List.mem_cons_of_mem _ hq)]
  simp
theorem putGo_srt {k:Str}{n:Int}{h:Bool}:∀ {l out:List Pair},Srt Pair.key l→putGo k n h false out l=out++(if h=true then putS k n l else dropS k l)
 | [],out,_=>by cases h <;> simp[putGo,putS,dropS]
 |p::l,out,hs=>by
  obtain⟨h1,h2⟩:=List.pairwise_cons.1 hs
  cases hl:slt p.key k with
  |true =>
   have hk:p.key≠k:=slt_ne hl
   simp only[putGo,hl]
   rw[if_neg hk]
   simp only[Bool.not_true,Bool.or_false,Bool.not_false,Bool.and_false,Bool.false_and,Bool.false_eq_true,if_false]
   rw[putGo_srt h2]
   cases h <;> simp[putS,dropS,hk,hl]
  |false =>
   have hne:∀ q∈l,q.key≠k:=fun q hq e=>by
    have h3:=h1 q hq
    rw[e]at h3
    rw[h3]at hl;cases hl
   simp only[putGo,hl]
   simp only[Bool.not_false,Bool.or_true,Bool.true_and,Bool.and_true]
   rw[putGo_done hne]
   by_cases hk:p.key=k
   ·
    cases h <;> simp[putS,dropS,hk]
   ·
    cases h <;> simp[putS,dropS,hk,hl,dropS_none hne]
theorem put_true {l:List Pair}(hs:Srt Pair.key l) (k:Str) (n:Int):put l k n true=putS k n l:=by
 unfold put;rw[putGo_srt hs];rfl
theorem put_false {l:List Pair}(hs:Srt Pair.key l) (k:Str) (n:Int):put l k n false=dropS k l:=by
 unfold put;rw[putGo_srt hs];rfl
theorem putS_mem {k:Str}{n:Int}:∀ {l:List Pair}{p:Pair},p∈putS k n l→p∈l∨p=⟨k,n⟩
 | [],p,h=>by simp[putS]at h;exact .inr h
 |q::l,p,h=>by
  simp only[putS]at h
  split at h
  ·
   rcases List.mem_cons.1 h with h|h
   ·
    exact .inr h
   ·
    exact .inl (List.mem_cons_of_mem _ h)
  ·
   split at h
   ·
    rcases List.mem_cons.1 h with h|h
    ·
     exact .inl (h▸List.mem_cons_self ..)
    ·
     rcases putS_mem h with h|h
     ·
      exact .inl (List.mem_cons_of_mem _ h)
     ·
      exact .inr h
   ·
    rcases List.mem_cons.1 h with h|h
    ·
     exact .inr h
    ·
     exact .inl h
theorem dropS_sub {k:Str}:∀ l:List Pair,(dropS k l).Sublist l
 | []=>List.Sublist.slnil
 |p::l=>by
  simp only[dropS]
  split
  ·
   exact List.sublist_cons_self ..
  ·
   exact(dropS_sub l).cons_cons _
theorem putS_srt {k:Str}{n:Int}:∀ {l:List Pair},Srt Pair.key l→Srt Pair.key (putS k n l)
 | [],_=>List.pairwise_singleton ..
 |c::l,hs=>by
  obtain⟨h1,h2⟩:=List.pairwise_cons.1 hs
  simp only[putS]
  by_cases hk:c.key=k
  ·
   rw[if_pos hk]
   exact List.pairwise_cons.2 ⟨fun d hd=>by show slt k d.key=true;rw[← hk];exact h1 d hd,h2⟩
  ·
   rw[if_neg hk]
   split
   ·
    next h3 =>
    refine List.pairwise_cons.2 ⟨fun d hd=>?_,putS_srt h2⟩
    rcases putS_mem hd with h|rfl
    ·
     exact h1 d h
    ·
     exact h3
   ·
    next h3 =>
    have h4:slt k c.key=true:=by
     rcases slt_tri c.key k with h|h|h
     ·
      exact absurd h h3
     ·
      exact absurd h hk
     ·
      exact h
    refine List.pairwise_cons.2 ⟨fun d hd=>?_,hs⟩
    rcases List.mem_cons.1 hd with rfl|hd
    ·
     exact h4
    ·
     exact slt_trans h4 (h1 d hd)
theorem dropS_srt {k:Str}{l:List Pair}(hs:Srt Pair.key l):Srt Pair.key (dropS k l):=hs.sublist (dropS_sub l)
theorem ok_pround (n:Int) (hn:inI n):FnOk Tryz.prog 158 [.d (dint n)] (.one (dint (round n))):=by
 refine fnOk_of tbl_ok mixed_ok Tryz.func158 rfl (by kernel_rfl) rfl rfl fun w0 own0=>?_
 repeat(first|refine wa ?_|((with_reducible apply s5);(first|((with_reducible apply a_bin);(iterate 2 exact rfl);exact bin_rem (by omega);exact rfl)|exact by_oa|exact by_ca);exact by_g)|refine wb ?_)
 refine .one (.tmp rfl (.one (.d (dle_eq ?_))))
 have h1:n.tdiv 1073741825*1073741825+n.tmod 1073741825=n:=Int.tdiv_mul_add_tmod n 1073741825
 show dint _=dint _
 congr 1
 unfold round
 omega
end Go.Proofs.YtfpkamiobdkcpaaGreatDoor
