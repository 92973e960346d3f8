/-
  Part 6 of what the claim leans on: J7 P22 L10 L17 AxDec3 P23 ShNum2 AxErr H6 ShTxt AxGen2 AxLit H9 H12 H8 J8 J10 J11 H7 H10 H11 J9 J12 L19 P24 AxMake J13 P25 J14 J15 J19 AxDec4.
-/
import Derived.Test.YtfpkamiobdkcpaaGreatDoorK5
import Derived.Shelf.Strconv.Itoa3
import Derived.Test.YtfpkamiobdkcpaaGreatDoorProg
import Derived.Shelf.Strconv.ErrVarAll
import Derived.Shelf.Strings.Split
import Derived.Shelf.Small.Wraps
import Derived.Shelf.Strings.OnBuilder
import Derived.Laws.MakeOwn
set_option linter.all false

namespace Go.Proofs.YtfpkamiobdkcpaaGreatDoor
open Go.AX Go.RF
set_option maxRecDepth 100000
set_option maxHeartbeats 8000000
def pickR (r:Replica):Option Int→Replica
 |none=>r
 |some p=>if 0≤p∧p < (ready r.engine).length then (goR r p).1 else if p=7 then clearR r else r
def buildR:Replica→List Entry→List Int→Replica
 |r,[],_=>r
 |r,e::l,ps=>buildR (if wrongEntry e=0 then pickR (comeE r e).1 ps.head? else r) l ps.tail
theorem RInv.pick {r:Replica}(h:RInv r) (p:Option Int):RInv (pickR r p):=by
 unfold pickR
 split
 ·
  exact h
 split
 ·
  exact h.go _
 split
 ·
  exact h.clear
 ·
  exact h
theorem buildR_inv:∀ {l:List Entry}{ps:List Int}{r:Replica},RInv r→RInv (buildR r l ps)
 | [],_,r,h=>h
 |e::l,ps,r,h=>by
  simp only[buildR]
  split
  ·
   next he=>exact buildR_inv ((comeE_inv h he).pick _)
  ·
   exact buildR_inv h
theorem ok_build10 (l:List Entry) (ps:List Int) (hl:l.length≤10000000) (hd:∀ e∈l,e.deeds.length≤10000000∧∀ d∈e.deeds,d.Sm) (hp:ps.length≤10000000) :
  FnOk Tryz.prog 24 [.d (encEntries l),.d (encInts ps)] (.one (.agg (buildR noR l ps).enc)):=by
 refine fnOk_of tbl_ok mixed_ok Tryz.func24 rfl (by kernel_rfl) rfl rfl fun w0 own0=>?_
 have hst0:StopR 2:=⟨rfl⟩
 repeat(first|refine waS ?_|((with_reducible apply s5);(first|((with_reducible apply a_buildA);(iterate 4 exact rfl);(repeat(first|exact PartsV.nil|(apply PartsV.cons;exact rfl;exact rfl;(first|exact⟨rfl,trivial⟩|(apply nw_own;exact rfl;(focus first|exact rfl|(simp;done)|(simp;omega)))))));exact rfl)|exact by_oa|exact by_ca);exact by_g)|refine wb ?_)
 clear hst0
 refine Stop.go (CW.stut (stut_boxle (id:=1) noR_le) ⟨rfl,trivial⟩ ?_)
 try refine wk ?_
 refine CW.loopT (fun t:Nat×Replica=>[sd 0 (encEntries l),sd 1 (encInts ps),sp 4 0,ob 0 noR0,sp 5 1,ob 1 t.2.enc,sd 12 (encEntries l),sd 13 (dint l.length),sd 14 (dint t.1),nxt 2])
  (fun t=>t.1≤l.length∧RInv t.2∧buildR t.2 (l.drop t.1) (ps.drop t.1)=buildR noR l ps) (fun t=>l.length - t.1) (0,noR) ⟨by dsimp only;omega,noR_inv,rfl⟩ ?_ ?_
 ·
  exact by_less
 ·
  rintro ⟨i,r⟩ ⟨hi,hR,hI⟩
  dsimp only at hi hR hI ⊢
  rcases drop_case hi with ⟨h1,h2⟩|⟨e,h1,h2,h3⟩
  ·
   rw[h1,buildR]at hI
   try refine wk ?_
   rw[← hI]
   exact .one (.cell rfl rfl rfl rfl (.aggd (ds:=r.enc) rfl (.refl _)))
  ·
   obtain⟨hel,hed⟩:=hd e (List.mem_of_getElem? h2)
   rw[h1]at hI
   simp only[buildR]at hI
   rw[List.tail_drop,List.head?_drop]at hI
   have c1:=ok_rwrongEntry e hed (by omega)
   by_cases h4:wrongEntry e=0
   ·
    rw[if_pos h4]at hI
    rw[h4]at c1
    have c2:=ok_rcome r e hR h4
    have hR2:=comeE_inv hR h4
    generalize (comeE r e).1=x at *
    generalize (comeE r e).2=v at *
    have hs:=hR2.sm.e
    have c3:=ok_ready x.engine hs hR2.e.z.s
    have hrl:=ready_small hs
    rcases Nat.lt_or_ge i ps.length with h5|h5
    ·
     obtain⟨p,h6⟩:∃ p,ps[i]? = some p:=⟨ps[i],List.getElem?_eq_getElem h5⟩
     rw[h6]at hI
     unfold pickR at hI
     dsimp only at hI
     have h6m:(ps.map encInt1)[i]? = some (encInt1 p):=by rw[List.getElem?_map,h6];rfl
     by_cases h7:0≤p∧p < (ready x.engine).length
     ·
      rw[if_pos h7]at hI
      obtain⟨h7a,h7b⟩:=h7
      obtain⟨P,rfl⟩:=Int.eq_ofNat_of_zero_le h7a
      obtain⟨y,hy⟩:∃ y,(ready x.engine)[P]? = some y:=⟨(ready x.engine)[P]'(by omega),List.getElem?_eq_getElem (by omega)⟩
      have hgo:goR x P=(⟨(goE x.engine y).1,x.next,x.early⟩,0):=by
       unfold goR
       rw[if_neg (by omega),Int.toNat_natCast,hy]
      rw[hgo]at hI
      have hR3:=hR2.go (P:Int)
      rw[hgo]at hR3
      have c4:=ok_go x.engine y _ hR2.e.z (by have:=hR2.n;omega) hR2.e.o hR2.e.c
      generalize ready x.engine=L at *
      generalize (goE x.engine y).1=E at *
      generalize (goE x.engine y).2=u at *
      have hym:(L.map encInt1)[P]? = some (encInt1 y):=by rw[List.getElem?_map,hy];rfl
      try refine wk ?_
      refine q_loopT (i+1,⟨E,x.next,x.early⟩) ⟨by dsimp only;omega,hR3,hI⟩ (by dsimp only;omega) ?_
      exact by_less
     ·
      rw[if_neg h7]at hI
      generalize ready x.engine=L at *
      by_cases h8:p=7
      ·
       rw[if_pos h8]at hI
       have c5:=ok_clearE x.engine hs hR2.e.z.s hR2.e.z.n
       have hR3:=hR2.clear
       unfold clearR at hI hR3
       generalize clearE x.engine=E at *
       try refine wk ?_
       refine q_loopT (i+1,⟨E,x.next,x.early⟩) ⟨by dsimp only;omega,hR3,hI⟩ (by dsimp only;omega) ?_
       exact by_less
      ·
       rw[if_neg h8]at hI
       by_cases h9:0≤p
       ·
        try refine wk ?_
        refine q_loopT (i+1,x) ⟨by dsimp only;omega,hR2,hI⟩ (by dsimp only;omega) ?_
        exact by_less
       ·
        try refine wk ?_
        refine q_loopT (i+1,x) ⟨by dsimp only;omega,hR2,hI⟩ (by dsimp only;omega) ?_
        exact by_less
    ·
     rw[List.getElem?_eq_none h5]at hI
     try refine wk ?_
     refine q_loopT (i+1,x) ⟨by dsimp only;omega,hR2,hI⟩ (by dsimp only;omega) ?_
     exact by_less
   ·
    rw[if_neg h4]at hI
    generalize wrongEntry e=we at *
    try refine wk ?_
    refine q_loopT (i+1,r) ⟨by dsimp only;omega,hR,hI⟩ (by dsimp only;omega) ?_
    exact by_less
theorem come_had {r:Replica}{e:Entry}(h:e.number < r.next∨hasN e.number r.early=true):comeE r e=(r,11):=by
 unfold comeE;rw[if_pos h]
theorem come_twice {r:Replica}(h:RInv r) {e:Entry}(he:wrongEntry e=0) :
  ((comeE r e).2=5∧(comeE r e).1=r)∨((comeE r e).2=11∧(comeE r e).1=r)∨(((comeE r e).2=12∨(comeE r e).2=0)∧comeE (comeE r e).1 e=((comeE r e).1,11)):=by
 by_cases h1:e.number < r.next∨hasN e.number r.early=true
 ·
  rw[come_had h1];exact .inr (.inl ⟨rfl,rfl⟩)
 have h2:hasN e.number r.early=false:=by cases hh:hasN e.number r.early with
  |false=>rfl
  |true=>exact absurd (.inr hh) h1
 have h3:¬ e.number < r.next:=fun hh=>h1 (.inl hh)
 by_cases h4:r.next < e.number
 ·
  by_cases h5:4≤r.early.length
  ·
   have:comeE r e=(r,5):=by unfold comeE;rw[if_neg h1,if_pos h4,if_pos h5]
   rw[this];exact .inl ⟨rfl,rfl⟩
  ·
   have:comeE r e=(⟨r.engine,r.next,r.early++[e]⟩,12):=by unfold comeE;rw[if_neg h1,if_pos h4,if_neg h5]
   rw[this]
   refine .inr (.inr ⟨.inl rfl,come_had (.inr (hasN_true.2 ⟨e,by simp,rfl⟩))⟩)
 ·
  have hn:e.number=r.next:=by omega
  have hD:=snoc_inv h he h3 h2
  have hT:=take_inv hD (k:=r.early.length) (x:=e) (by simp) hn
  rw[List.eraseIdx_append_of_length_le (Nat.le_refl _)]at hT
  simp at hT
  obtain⟨_,_,_,_,k5⟩:=drainR_inv (f:=r.early.length) hT (Nat.le_refl _)
  have:comeE r e=(drainR r.early.length ⟨(addE r.engine e.deeds).1,r.next+1,r.early⟩,0):=by unfold comeE;rw[if_neg h1,if_neg h4]
  rw[this]
  dsimp only at k5 ⊢
  exact .inr (.inr ⟨.inr rfl,come_had (.inl (by omega))⟩)
structure CInv (L:List Entry) (Q:Nat→Engine→Prop) (r:Replica):Prop where
 n:∃ k:Nat,r.next=k∧k≤L.length∧Q k r.engine
 e:∀ x∈r.early,r.next≤x.number∧∃ i:Nat,x.number=i∧L[i]? = some x
 d:(r.early.map Entry.number).Nodup
def Adds (L:List Entry) (Q:Nat→Engine→Prop):Prop:=∀ (k:Nat) (e:Engine) (x:Entry),Q k e→L[k]? = some x→Q (k+1) (addE e x.deeds).1
theorem CInv.take {L:List Entry}{Q:Nat→Engine→Prop}(hQ:Adds L Q) {r:Replica}(h:CInv L Q r) {k:Nat}{x:Entry}(hx:r.early[k]? = some x) (hn:x.number=r.next) :
  CInv L Q ⟨(addE r.engine x.deeds).1,r.next+1,r.early.eraseIdx k⟩:=by
 obtain⟨⟨m,hm,hml,hq⟩,he,hd⟩:=h
 obtain⟨h1,i,h2,h3⟩:=he x (List.mem_of_getElem? hx)
 obtain rfl:i=m:=by omega
 have hil:=(List.getElem?_eq_some_iff.1 h3).1
 refine⟨⟨i+1,by dsimp only;omega,hil,hQ i _ x hq h3⟩,fun y hy=>?_,hd.sublist ((List.eraseIdx_sublist _ _).map _)⟩
 obtain⟨g1,g2⟩:=he y (erase_sub hy)
 refine⟨?_,g2⟩
 dsimp only
 refine Classical.byContradiction fun hlt=>?_
 have h4:y.number=r.next:=by omega
 obtain⟨j,hj⟩:=List.mem_iff_getElem?.1 hy
 rw[List.getElem?_eraseIdx]at hj
 have key:∀ (a:Nat),a≠k→r.early[a]? = some y→False:=fun a hak ha=>by
  have ha':(r.early.map Entry.number)[a]? = some r.next:=by rw[List.getElem?_map,ha];simp[h4]
  have hk':(r.early.map Entry.number)[k]? = some r.next:=by rw[List.getElem?_map,hx];simp[hn]
  exact hak ((List.getElem?_inj (List.getElem?_eq_some_iff.1 ha').1 hd).1 (by rw[ha',hk']))
 split at hj
 ·
  exact key j (by omega) hj
 ·
  exact key (j+1) (by omega) hj
theorem CInv.drain {L:List Entry}{Q:Nat→Engine→Prop}(hQ:Adds L Q):∀ {f:Nat}{r:Replica},CInv L Q r→r.early.length≤f →
  CInv L Q (drainR f r)∧(∀ x∈(drainR f r).early,(drainR f r).next < x.number)∧r.next≤(drainR f r).next∧∀ x∈r.early,x.number < (drainR f r).next∨x∈(drainR f r).early
 |0,r,h,hf=>by
  have:r.early=[]:=List.eq_nil_of_length_eq_zero (by omega)
  have hd:drainR 0 r=r:=rfl
  rw[hd]
  exact⟨h,by rw[this];simp,Int.le_refl _,fun x hx => .inr hx⟩
 |f+1,r,h,hf=>by
  rcases firstN_cases (n:=r.next) (l:=r.early) (i:=0) with ⟨h1,h2⟩|⟨k,x,h1,h2,h3⟩
  ·
   rw[drainR_none (by omega)]
   exact⟨h,fun x hx=>by have:=(h.e x hx).1;have:=h2 x hx;omega,Int.le_refl _,fun x hx => .inr hx⟩
  ·
   rw[Nat.zero_add]at h1
   rw[drainR_some h1 h2]
   have hkl:=(List.getElem?_eq_some_iff.1 h2).1
   have hlen:=List.length_eraseIdx_of_lt hkl
   obtain⟨g1,g2,g3,g4⟩:=CInv.drain hQ (f:=f) (h.take hQ h2 h3) (by dsimp only;omega)
   dsimp only at g3 g4
   refine⟨g1,g2,by omega,fun y hy=>?_⟩
   obtain⟨j,hj⟩:=List.mem_iff_getElem?.1 hy
   by_cases hjk:j=k
   ·
    subst hjk
    rw[h2]at hj
    cases hj
    exact .inl (by omega)
   ·
    refine g4 y (List.mem_iff_getElem?.2 ?_)
    rcases Nat.lt_or_ge j k with hlt|hge
    ·
     exact⟨j,by rw[List.getElem?_eraseIdx,if_pos hlt];exact hj⟩
    ·
     exact⟨j - 1,by rw[List.getElem?_eraseIdx,if_neg (by omega),show j - 1+1=j by omega];exact hj⟩
def Has (r:Replica) (x:Entry):Prop:=x.number < r.next∨hasN x.number r.early=true
theorem CInv.come {L:List Entry}{Q:Nat→Engine→Prop}(hQ:Adds L Q) {r:Replica}(h:CInv L Q r) {i:Nat}{x:Entry}(hx:L[i]? = some x) (hn:x.number=i) :
  CInv L Q (comeE r x).1∧r.next≤(comeE r x).1.next∧(∀ y,Has r y→Has (comeE r x).1 y)∧((∀ y∈r.early,r.next < y.number)→∀ y∈(comeE r x).1.early,(comeE r x).1.next < y.number)∧(Has (comeE r x).1 x∨(4≤r.early.length∧(comeE r x).1=r)):=by
 by_cases h1:x.number < r.next∨hasN x.number r.early=true
 ·
  rw[come_had h1]
  exact⟨h,Int.le_refl _,fun y hy=>hy,fun h=>h,.inl h1⟩
 have h2:hasN x.number r.early=false:=by cases hh:hasN x.number r.early with
  |false=>rfl
  |true=>exact absurd (.inr hh) h1
 have h3:¬ x.number < r.next:=fun hh=>h1 (.inl hh)
 by_cases h4:r.next < x.number
 ·
  by_cases h5:4≤r.early.length
  ·
   have:comeE r x=(r,5):=by unfold comeE;rw[if_neg h1,if_pos h4,if_pos h5]
   rw[this]
   exact⟨h,Int.le_refl _,fun y hy=>hy,fun h=>h,.inr ⟨h5,rfl⟩⟩
  ·
   have:comeE r x=(⟨r.engine,r.next,r.early++[x]⟩,12):=by unfold comeE;rw[if_neg h1,if_pos h4,if_neg h5]
   rw[this]
   refine⟨⟨h.n,fun y hy=>?_,snoc_nodup h.d h2⟩,Int.le_refl _,fun y hy=>?_,fun hg y hy=>?_,.inl (.inr (hasN_true.2 ⟨x,by simp,rfl⟩))⟩
   ·
    rcases List.mem_append.1 hy with hy|hy
    ·
     exact h.e y hy
    ·
     rw[List.mem_singleton.1 hy];exact⟨by dsimp only;omega,i,hn,hx⟩
   ·
    rcases hy with hy|hy
    ·
     exact .inl hy
    ·
     obtain⟨z,hz,he⟩:=hasN_true.1 hy
     exact .inr (hasN_true.2 ⟨z,List.mem_append.2 (.inl hz),he⟩)
   ·
    dsimp only at hy ⊢
    rcases List.mem_append.1 hy with hy|hy
    ·
     exact hg y hy
    ·
     rw[List.mem_singleton.1 hy];exact h4
 ·
  have hnx:x.number=r.next:=by omega
  have:comeE r x=(drainR r.early.length ⟨(addE r.engine x.deeds).1,r.next+1,r.early⟩,0):=by unfold comeE;rw[if_neg h1,if_neg h4]
  rw[this,← drainR_snoc hnx h2]
  have hC:CInv L Q ⟨r.engine,r.next,r.early++[x]⟩:=by
   refine⟨h.n,fun y hy=>?_,snoc_nodup h.d h2⟩
   rcases List.mem_append.1 hy with hy|hy
   ·
    exact h.e y hy
   ·
    rw[List.mem_singleton.1 hy];exact⟨by dsimp only;omega,i,hn,hx⟩
  obtain⟨g1,g2,g3,g4⟩:=hC.drain hQ (f:=r.early.length+1) (by simp)
  dsimp only at g3 g4 ⊢
  have hh:∀ y,y∈r.early++[x]→Has (drainR (r.early.length+1) ⟨r.engine,r.next,r.early++[x]⟩) y:=fun y hy=>by
   rcases g4 y hy with h|h
   ·
    exact .inl h
   ·
    exact .inr (hasN_true.2 ⟨y,h,rfl⟩)
  refine⟨g1,g3,fun y hy=>?_,fun _=>g2,.inl (hh x (by simp))⟩
  rcases hy with hy|hy
  ·
   exact .inl (by omega)
  ·
   obtain⟨z,hz,he⟩:=hasN_true.1 hy
   have:=hh z (List.mem_append.2 (.inl hz))
   unfold Has at this ⊢
   rw[← he];exact this
def dOf (L:List Entry) (n:Nat):List Deed:=(L.take n).flatMap Entry.deeds
theorem dOf_succ {L:List Entry}{n:Nat}{x:Entry}(h:L[n]? = some x):dOf L (n+1)=dOf L n++x.deeds:=by
 unfold dOf
 rw[List.take_add_one,h]
 simp
def comes:Replica→List Entry→Replica
 |r,[]=>r
 |r,x::l=>comes (comeE r x).1 l
def Behind (a b:Engine):Prop:=∃ (q:List Pair) (m:Nat),BInv a q∧BInv b (sq q a.deeds m)∧m≤a.deeds.length∧b.deeds=a.deeds.drop m
theorem Behind.add {a b:Engine}(h:Behind a b) {l:List Deed}(hl:wrongs l=0):Behind (addE a l).1 (addE b l).1:=by
 obtain⟨q,m,h1,h2,h3,h4⟩:=h
 rw[addE_right hl,addE_right hl]
 dsimp only
 have hw:=wrongs_mem hl
 have ha:=(addAll_deeds (l:=l) (e:=a)).1
 have hb:=(addAll_deeds (l:=l) (e:=b)).1
 refine⟨q,m,h1.addAll hw,?_,by rw[ha];simp;omega,by rw[ha,hb,h4,List.drop_append_of_le_length h3]⟩
 rw[ha,sq_append h3]
 exact h2.addAll hw
theorem Behind.ok {a b:Engine}(h:Behind a b):(∃ q,BInv a q)∧∃ q,BInv b q:=by
 obtain⟨q,m,h1,h2,_,_⟩:=h
 exact⟨⟨_,h1⟩,⟨_,h2⟩⟩
def egS:Str:=[114,101,97,100,115,32,97,59,32,119,114,105,116,101,115,32,97,59,32,108,111,97,100,32,114,48,32,97,59,32,99,111,110,115,116,32,114,49,32,49,59,32,97,100,100,32,114,48,32,114,49,59,32,115,116,111,114,101,32,114,48,32,97]
def eg:Deed:=⟨[[97]],[[97]],[⟨1,0,0,0,[97]⟩,⟨2,1,0,1,[]⟩,⟨3,0,1,0,[]⟩,⟨6,0,0,0,[97]⟩]⟩
theorem eg_parse:parseD egS=some eg:=by decide +kernel
theorem eg_small:smallS egS=true:=by decide +kernel
theorem ok_read10 (s:Str) (d:Deed) (h:parseD s=some d) (hm:smallS s=true):FnOk Tryz.prog 98 [.d (dstr s)] (.one (.agg d.enc)):=by
 refine fnOk_of tbl_ok mixed_ok Tryz.func98 rfl (by kernel_rfl) rfl rfl fun w0 own0=>?_
 have c1:=ok_parseS s d h hm
 try refine wk ?_
 exact .one (.cell rfl rfl rfl rfl (.aggd rfl (.refl _)))
def eg1:Entry:=⟨1,[eg]⟩
def eg0:Entry:=⟨0,[eg]⟩
def egA:Replica:=(comeE noR eg1).1
def egB:Replica:=(comeE egA eg0).1
theorem a10_w:wrongEntry eg1=0∧wrongEntry eg0=0:=by decide +kernel
theorem a10_a:(comeE noR eg1).2=12∧egA.early.length=1:=by decide +kernel
theorem a10_b:(comeE egA eg0).2=0∧egB.next=2∧egB.engine.deeds.length=2:=by decide +kernel
theorem a10_c:(goR egB 0).2=0∧(seenE (goR egB 0).1.engine (markN (goR egB 0).1.engine.state)).1.length=1∧(clearR (goR egB 0).1).engine.deeds.length=1:=by decide +kernel
theorem a10_d:(goR (goR egB 0).1 5).2=6∧(goR (goR egB 0).1 5).1.engine.deeds.length=2:=by decide +kernel
theorem ok_alive10:FnOk Tryz.prog 51 [] (.one (dbool true)):=by
 refine fnOk_of tbl_ok mixed_ok Tryz.func51 rfl (by kernel_rfl) rfl rfl fun w0 own0=>?_
 have c1:=ok_read10 egS eg eg_parse eg_small
 have c2:=ok_repNew
 have c3:=ok_come noR eg1 noR_inv a10_w.1
 have hA:=comeE_inv noR_inv a10_w.1
 obtain⟨f1,f2⟩:=a10_a
 obtain⟨f3,f4,f5⟩:=a10_b
 obtain⟨f6,f7,f8⟩:=a10_c
 obtain⟨f9,f10⟩:=a10_d
 rw[f1]at c3
 have c4:=ok_come egA eg0 hA a10_w.2
 have hB:=comeE_inv hA a10_w.2
 rw[f3]at c4
 have c5:=ok_repGo egB 0 hB
 rw[f6]at c5
 have hC:=hB.go 0
 have c6:=ok_repGo (goR egB 0).1 5 hC
 rw[f9]at c6
 have c7:=ok_repSeen (goR egB 0).1 hC
 have c8:=ok_repClear (goR egB 0).1 hC
 have c9:=ok_repOwn (goR (goR egB 0).1 5).1 (hC.go 5).sm
 change FnOk _ _ _ (.tup [.agg egA.enc,_]) at c3
 change FnOk _ _ _ (.tup [.agg egB.enc,_]) at c4
 clear hA hB hC f1 f3 f6 f9
 generalize seenE (goR egB 0).1.engine (markN (goR egB 0).1.engine.state)=p at *
 generalize (goR (goR egB 0).1 5).1=x at *
 generalize clearR (goR egB 0).1=y at *
 generalize (goR egB 0).1=c at *
 generalize egB=b at *
 generalize egA=a at *
 obtain⟨p1,p2⟩:=p
 dsimp only at f7 c7
 repeat(first|((with_reducible apply s5);((with_reducible apply a_bs [eg.enc]);(iterate 9 exact rfl);(repeat(first|exact PartsE.nil|(apply PartsE.cons;exact rfl;exact rfl))));exact by_g)|refine wa1 ?_|((with_reducible apply s5);(first|((with_reducible apply a_buildA);(iterate 4 exact rfl);(repeat(first|exact PartsV.nil|(apply PartsV.cons;exact rfl;exact rfl;(first|exact⟨rfl,trivial⟩|(apply nw_own;exact rfl;(focus first|exact rfl|(simp;done)|(simp;omega)))))));exact rfl)|exact a_call c3 rfl by_sub|exact a_call c4 rfl by_sub|exact a_call c5 rfl by_sub|exact a_call c6 rfl by_sub|(focus (with_reducible apply(a_fieldS (t2:=33)));exact rfl;exact rfl;exact rfl;exact⟨_,_,Tryz.underlying52,rfl,rfl,rfl⟩;exact rfl;exact rfl)|exact by_oa|exact by_ca);exact by_g)|refine wb ?_)
 exact .one (.tmp rfl (.one (.d (dle_bool (by simp[f2,f4,f5,f7,f8,f10])))))
theorem ok_ReplicaTwice (l:List Entry) (ps:List Int) (e:Entry) (hl:l.length≤10000000) (hd:∀ e∈l,e.deeds.length≤10000000∧∀ d∈e.deeds,d.Sm) (hp:ps.length≤10000000) (he:e.deeds.length≤10000000∧∀ d∈e.deeds,d.Sm) :
  FnOk Tryz.prog 8 [.d (encEntries l),.d (encInts ps),.d (.agg e.enc)] (.one (dbool true)):=by
 refine fnOk_of tbl_ok mixed_ok Tryz.func8 rfl (by kernel_rfl) rfl rfl fun w0 own0=>?_
 have c0:=ok_alive10
 have c1:=ok_rwrongEntry e he.2 (by omega)
 by_cases hw:wrongEntry e=0
 ·
  rw[hw]at c1
  have c2:=ok_build10 l ps hl hd hp
  have hR:=buildR_inv (l:=l) (ps:=ps) noR_inv
  generalize buildR noR l ps=r at *
  have c3:=ok_come r e hR hw
  have hX:=comeE_inv hR hw
  have c4:=ok_come (comeE r e).1 e hX hw
  have c5:=ok_sameR r r hR.sm
  rw[sameR_refl]at c5
  have c6:=ok_sameR (comeE r e).1 (comeE r e).1 hX.sm
  rw[sameR_refl]at c6
  rcases come_twice hR hw with ⟨h1,h2⟩|⟨h1,h2⟩|⟨h1,h2⟩
  ·
   rw[h2]at c3 c4 c6
   rw[h1]at c3 c4
   rw[h2]at c4
   repeat(first|refine wa ?_|((with_reducible apply s5);(first|exact a_call c3 rfl by_sub|exact a_call c5 rfl by_sub|exact by_oa|exact by_ca);exact by_g)|refine wb ?_)
   exact .one (.tmp rfl (.one (.d (.refl _))))
  ·
   rw[h2]at c3 c4 c6
   rw[h1]at c3 c4
   rw[h2]at c4
   repeat(first|refine wa ?_|((with_reducible apply s5);(first|exact a_call c3 rfl by_sub|exact a_call c5 rfl by_sub|exact by_oa|exact by_ca);exact by_g)|refine wb ?_)
   exact .one (.tmp rfl (.one (.d (.refl _))))
  ·
   rw[h2]at c4
   generalize (comeE r e).1=x at *
   rcases h1 with h1|h1
   ·
    rw[h1]at c3
    repeat(first|refine wa ?_|((with_reducible apply s5);(first|exact a_call c3 rfl by_sub|exact a_call c4 rfl by_sub|exact a_call c6 rfl by_sub|exact by_oa|exact by_ca);exact by_g)|refine wb ?_)
    exact .one (.tmp rfl (.one (.d (.refl _))))
   ·
    rw[h1]at c3
    repeat(first|refine wa ?_|((with_reducible apply s5);(first|exact a_call c3 rfl by_sub|exact a_call c4 rfl by_sub|exact a_call c6 rfl by_sub|exact by_oa|exact by_ca);exact by_g)|refine wb ?_)
    exact .one (.tmp rfl (.one (.d (.refl _))))
 ·
  generalize wrongEntry e=we at *
  try refine wk ?_
  exact .one (.tmp rfl (.one (.d (.refl _))))
abbrev u8s:Sh := .num .u8
theorem dec_byte {m:Nat}{d:D}(h:Fits u8s m d):∃ c:UInt8,d = .v (.int .u8 c.toNat):=by
 cases h with
 |num k n m h =>
  have hn:0≤n∧n≤255:=by simpa[Lit.wf,IntKind.min,IntKind.max,IntKind.signed,IntKind.bits] using h
  refine⟨UInt8.ofNat n.toNat,?_⟩
  have:((UInt8.ofNat n.toNat).toNat:Int)=n:=by
   rw[UInt8.toNat_ofNat',Nat.mod_eq_of_lt (by omega)];omega
  rw[this]
theorem dec_byte1 (r:List D) (m:Nat) (h:FitsL [u8s] m r):∃ c:UInt8,r=byteD c∧True:=by
 obtain⟨d,rfl,h1⟩:=dec_one h
 obtain⟨c,rfl⟩:=dec_byte h1
 exact⟨c,rfl,trivial⟩
theorem dec_bytes {m:Nat}{d:D}(h:Fits (.sl [u8s]) m d):∃ l:List UInt8,d = .sl 1 (l.map byteD)∧l.length≤m:=by
 obtain⟨rows,rfl,hr⟩:=dec_sl h
 obtain⟨l,rfl,_,hn⟩:=fitsR_all dec_byte1 hr
 exact⟨l,rfl,hn⟩
theorem sumN_lt:∀ {l:Str}{s:Nat},s < 65521→sumN s l < 65521
 | [],s,h=>h
 |c::r,s,h=>by simp only[sumN];exact sumN_lt (Nat.mod_lt _ (by omega))
theorem toNat_ofNat {n:Nat}(h:n < 256):(UInt8.ofNat n).toNat=n:=by
 rw[UInt8.toNat_ofNat'];omega
def hiS (w:Str):Prop:=∀ c∈w,32≤c.toNat
theorem hiS_app {a b:Str}(ha:hiS a) (hb:hiS b):hiS (a++b):=fun c hc=>by
 rcases List.mem_append.1 hc with h|h
 ·
  exact ha c h
 ·
  exact hb c h
theorem key_hi {k:Str}(h:key k=true):hiS k:=by
 have:∀ r:Str,keyGo k r=true→hiS r:=by
  intro r
  induction r with
  |nil=>intro _ c hc;cases hc
  |cons x r ih =>
   intro h
   simp only[keyGo]at h
   split at h
   ·
    cases h
   ·
    next hx =>
    intro c hc
    rcases List.mem_cons.1 hc with rfl|hc
    ·
     simp only[bad,Bool.or_eq_true,decide_eq_true_eq,not_or]at hx
     omega
    ·
     exact ih h c hc
 exact this k h
theorem words_hi:∀ k:Nat,hiS (words.getD k []):=by
 intro k
 rcases Nat.lt_or_ge k 10 with h|h
 ·
  have:∀ k:Fin 10,∀ c∈words.getD k.val [],32≤c.toNat:=by decide
  exact this ⟨k,h⟩
 ·
  rw[List.getD_eq_getElem?_getD,List.getElem?_eq_none (show words.length≤k from h)]
  intro c hc;cases hc
theorem itoa_hi (n:Int):hiS (Lib.itoa n):=fun c hc=>by
 have key:∀ u:Nat,c∈Lib.decDigits u→32≤c.toNat:=fun u h=>by have:=dec_clean u c h;omega
 unfold Lib.itoa at hc
 split at hc
 ·
  rcases List.mem_cons.1 hc with rfl|hc
  ·
   decide
  ·
   exact key _ hc
 ·
  exact key _ hc
theorem reg_hi (n:Int):hiS (114::Lib.itoa n):=fun c hc=>by
 rcases List.mem_cons.1 hc with rfl|hc
 ·
  decide
 ·
  exact itoa_hi n c hc
theorem field_hi {i:Ins}{c:UInt8}(hk:hiS i.key):hiS (fieldW i c):=by
 unfold fieldW
 split
 ·
  exact reg_hi _
 split
 ·
  exact reg_hi _
 split
 ·
  exact itoa_hi _
 ·
  exact hk
theorem join_hi {sep:Str}(hs:hiS sep):∀ {ws:List Str},(∀ w∈ws,hiS w)→hiS (joinS sep ws)
 | [],_=>fun c hc=>by cases hc
 | [w],h=>h w (List.mem_cons_self ..)
 |w::x::r,h=>by
  simp only[joinS]
  exact hiS_app (h w (List.mem_cons_self ..)) (hiS_app hs (join_hi hs fun y hy=>h y (List.mem_cons_of_mem _ hy)))
theorem insW_hi {d:Deed}(h:wrongDeed d=0) {i:Ins}(hi:i∈d.code):∀ w∈insW i,hiS w:=by
 obtain⟨m,_,hm⟩:=ins_wrong h hi
 obtain⟨h1,h2⟩:=wrong_key h
 have hk:hiS i.key:=by
  rcases wrongIns_key hm with h3|h3|h3
  ·
   rw[h3];intro c hc;cases hc
  ·
   exact key_hi (h1 _ h3)
  ·
   exact key_hi (h2 _ h3)
 intro w hw
 unfold insW at hw
 rcases List.mem_cons.1 hw with rfl|hw
 ·
  exact words_hi _
 ·
  obtain⟨c,_,rfl⟩:=List.mem_map.1 hw
  exact field_hi hk
theorem printD_hi {d:Deed}(h:wrongDeed d=0):hiS (printD d):=by
 obtain⟨h1,h2⟩:=wrong_key h
 have c0:hiS wReads:=by intro c hc;revert c;decide
 have c1:hiS wWrites:=by intro c hc;revert c;decide
 have s1:hiS [32]:=by intro c hc;revert c;decide
 have s2:hiS [59,32]:=by intro c hc;revert c;decide
 refine join_hi s2 fun w hm=>?_
 unfold partsD at hm
 rcases List.mem_cons.1 hm with rfl|hm
 ·
  refine join_hi s1 fun w hw=>?_
  rcases List.mem_cons.1 hw with rfl|hw
  ·
   exact c0
  ·
   exact key_hi (h1 w hw)
 rcases List.mem_cons.1 hm with rfl|hm
 ·
  refine join_hi s1 fun w hw=>?_
  rcases List.mem_cons.1 hw with rfl|hw
  ·
   exact c1
  ·
   exact key_hi (h2 w hw)
 obtain⟨i,hi,rfl⟩:=List.mem_map.1 hm
 exact join_hi s1 (insW_hi h hi)
theorem printD_no10 {d:Deed}(h:wrongDeed d=0):(10:UInt8)∉printD d:=fun hm=>absurd (printD_hi h 10 hm) (by decide)
theorem split_lines:∀ {l:List Str},(∀ s∈l,(10:UInt8)∉s)→split (l.flatMap fun s=>s++[10]) [10]=l++[[]]:=by
 intro l h
 have key:(l.flatMap fun s=>s++[10])=joinS [10] (l++[[]]):=by
  induction l with
  |nil=>rfl
  |cons s l ih =>
   rw[List.flatMap_cons,ih fun x hx=>h x (List.mem_cons_of_mem _ hx),List.cons_append,joinS_cons]
   cases l with
   |nil=>simp[joinS,tailS]
   |cons x l=>rw[List.cons_append,joinS_cons];simp[tailS]
 rw[key]
 exact join_split_id (by simp) fun w hw=>by
  rcases List.mem_append.1 hw with hw|hw
  ·
   exact h w hw
  ·
   rw[List.mem_singleton.1 hw];simp
theorem lines_join {ls:List Str}:joinS [10] (ls++[[]])=ls.flatMap fun s=>s++[10]:=by
 induction ls with
 |nil=>rfl
 |cons s l ih =>
  rw[List.flatMap_cons,← ih,List.cons_append,joinS_cons]
  cases l with
  |nil=>simp[joinS,tailS]
  |cons x l=>rw[List.cons_append,joinS_cons];simp[tailS]
theorem linesD_eq (l:List Deed):linesD l=(l.map printD).flatMap fun s=>s++[10]:=by
 unfold linesD
 rw[List.flatMap_map]
theorem parseL_of:∀ {l:List Deed},(∀ d∈l,wrongDeed d=0)→parseL (l.map printD) = .ok l
 | [],_=>rfl
 |d::l,h=>by
  simp only[List.map_cons,parseL]
  rw[parse_print (h d (List.mem_cons_self ..)),parseL_of fun x hx=>h x (List.mem_cons_of_mem _ hx)]
theorem parseL_print:∀ {ls:List Str}{l:List Deed},parseL ls = .ok l→l.map printD=ls
 | [],l,h=>by simp only[parseL]at h;cases h;rfl
 |s::ls,l,h=>by
  simp only[parseL]at h
  cases hp:parseE s with
  |error e=>rw[hp]at h;cases h
  |ok d =>
   rw[hp]at h
   dsimp only at h
   cases hr:parseL ls with
   |error e=>rw[hr]at h;cases h
   |ok r =>
    rw[hr]at h
    cases h
    rw[List.map_cons,print_parse hp,parseL_print hr]
def goL:Str→List Deed→Str→Except Int (List Deed)
 |_,acc,[] => .ok acc
 |cur,acc,c::r=>if c=10 then (match parseE cur with
  |.error e => .error e
  |.ok d=>goL [] (acc++[d]) r) else goL (cur++[c]) acc r
def accL (acc:List Deed):Except Int (List Deed)→Except Int (List Deed)
 |.error e => .error e
 |.ok l => .ok (acc++l)
theorem goL_split:∀ (r:Str) (n:Nat) (cur:Str) (acc:List Deed),r.length≤n→(splitF [10] n cur r).getLast? = some []→goL cur acc r=accL acc (parseL (splitF [10] n cur r).dropLast)
 | [],n,cur,acc,_,h=>by
  have h1:splitF [10] n cur []=[cur]:=by
   cases n with
   |zero=>simp[splitF]
   |succ n=>rw[splitF_succ];simp
  rw[h1]
  simp[goL,parseL,accL]
 |c::r,0,cur,acc,hn,h=>by simp at hn
 |c::r,n+1,cur,acc,hn,h=>by
  rw[splitF_succ]at h ⊢
  have hlen:¬ (c::r).length < ([10]:Str).length:=by simp
  rw[if_neg hlen]at h ⊢
  have hn':r.length≤n:=by simpa using hn
  by_cases hc:c=10
  ·
   subst hc
   have ht:((10:UInt8)::r).take ([10]:Str).length=[10]:=rfl
   rw[if_pos ht]at h ⊢
   have hd:((10:UInt8)::r).drop ([10]:Str).length=r:=rfl
   rw[hd]at h ⊢
   have hne:=splitF_ne [10] n [] r
   have h2:(splitF [10] n [] r).getLast? = some []:=by
    obtain⟨x,t,hx⟩:∃ x t,splitF [10] n [] r=x::t:=by
     cases hs:splitF [10] n [] r with
     |nil=>exact absurd hs hne
     |cons x t=>exact⟨x,t,rfl⟩
    rw[hx]at h ⊢
    simpa using h
   rw[List.dropLast_cons_of_ne_nil hne]
   simp only[goL,if_pos,parseL]
   cases hp:parseE cur with
   |error e=>simp[accL]
   |ok d =>
    dsimp only
    rw[goL_split r n [] (acc++[d]) hn' h2]
    cases parseL (splitF [10] n [] r).dropLast with
    |error e=>rfl
    |ok l=>simp[accL]
  ·
   have ht:(c::r).take ([10]:Str).length≠[10]:=by simp[hc]
   rw[if_neg ht]at h ⊢
   dsimp only at h ⊢
   simp only[goL]
   rw[if_neg hc]
   exact goL_split r n (cur++[c]) acc hn' h
theorem split_last:∀ (r:Str) (n:Nat) (cur:Str),r.length≤n→((splitF [10] n cur r).getLast? = some []↔(r=[]∧cur=[])∨r.getLast? = some 10)
 | [],n,cur,_=>by
  have h1:splitF [10] n cur []=[cur]:=by
   cases n with
   |zero=>simp[splitF]
   |succ n=>rw[splitF_succ];simp
  rw[h1];simp
 |c::r,0,cur,hn=>by simp at hn
 |c::r,n+1,cur,hn=>by
  have hn':r.length≤n:=by simpa using hn
  rw[splitF_succ,if_neg (by simp)]
  by_cases hc:c=10
  ·
   subst hc
   rw[if_pos (show((10:UInt8)::r).take ([10]:Str).length=[10] from rfl),show((10:UInt8)::r).drop ([10]:Str).length=r from rfl]
   have hne:=splitF_ne [10] n [] r
   obtain⟨x,t,hx⟩:∃ x t,splitF [10] n [] r=x::t:=by
    cases hs:splitF [10] n [] r with
    |nil=>exact absurd hs hne
    |cons x t=>exact⟨x,t,rfl⟩
   have h3:(cur::splitF [10] n [] r).getLast? = (splitF [10] n [] r).getLast? := by rw[hx];simp
   rw[h3,split_last r n [] hn']
   cases r with
   |nil=>simp
   |cons y r=>simp
  ·
   rw[if_neg (show ¬ (c::r).take ([10]:Str).length=[10] by simp[hc])]
   dsimp only
   rw[split_last r n (cur++[c]) hn']
   cases r with
   |nil=>simp[hc]
   |cons y r=>simp
theorem parseB_app (h0:UInt8) (L:Str) (u v:UInt8):parseB (h0::(L++[u,v])) =
  if sumN 1 (h0::L)=u.toNat*256+v.toNat then
   (if (split L [10]).getLast? = some [] then match parseL (split L [10]).dropLast with
    |.error e => .error e
    |.ok ds=>if wrongEntry ⟨h0.toNat,ds⟩=0 then .ok ⟨h0.toNat,ds⟩ else .error (wrongEntry ⟨h0.toNat,ds⟩)
   else .error 2)
  else .error 2:=by
 have hl:(h0::(L++[u,v])).length=L.length+3:=by simp
 have h1:(h0::(L++[u,v])).take (L.length+1)=h0::L:=by simp
 have h2:byteN (h0::(L++[u,v])) (L.length+1)=u.toNat:=by simp[byteN]
 have h3:byteN (h0::(L++[u,v])) (L.length+2)=v.toNat:=by simp[byteN,List.getElem?_append_right]
 have h4:byteN (h0::(L++[u,v])) 0=h0.toNat:=by simp[byteN]
 have h5:bodyB (h0::(L++[u,v]))=L:=by
  unfold bodyB
  rw[hl,show L.length+3 - 2=L.length+1 by omega,h1]
  rfl
 unfold parseB
 rw[hl,if_neg (by omega),show L.length+3 - 2=L.length+1 by omega,show L.length+3 - 1=L.length+2 by omega,h1,h2,h3,h4,h5]
 all_goals rfl
theorem bytes_form {b:Str}(h:3≤b.length):∃ h0 L u v,b=h0::(L++[u,v]):=by
 match b,h with
 |c::r,h =>
  have hl:r.length=(r.length - 2)+2:=by simp at h;omega
  have h1:r=r.take (r.length - 2)++r.drop (r.length - 2):=(List.take_append_drop _ _).symm
  have h2:(r.drop (r.length - 2)).length=2:=by rw[List.length_drop];omega
  match hd:r.drop (r.length - 2),h2 with
  | [u,v],_=>exact⟨c,r.take (r.length - 2),u,v,by rw[hd]at h1;rw[← h1]⟩
theorem sum2_eq {s:Nat}(h:s < 65521):(UInt8.ofNat (s / 256)).toNat*256+(UInt8.ofNat (s%256)).toNat=s:=by
 rw[toNat_ofNat (by omega),toNat_ofNat (by omega)];omega
theorem bytesE_eq (e:Entry):bytesE e=UInt8.ofNat e.number.toNat::(linesD e.deeds++[UInt8.ofNat (sumN 1 (headE e) / 256),UInt8.ofNat (sumN 1 (headE e)%256)]):=rfl
theorem parse_bytes {e:Entry}(h:wrongEntry e=0):parseB (bytesE e) = .ok e:=by
 obtain⟨h1,h2,h3,h4⟩:=wrongEntry_out h
 have hs:=sumN_lt (l:=headE e) (s:=1) (by omega)
 have hsp:split (linesD e.deeds) [10]=e.deeds.map printD++[[]]:=by
  rw[linesD_eq]
  exact split_lines fun s hs=>by
   obtain⟨d,hd,rfl⟩:=List.mem_map.1 hs
   exact printD_no10 (h4 d hd)
 have hhd:UInt8.ofNat e.number.toNat::linesD e.deeds=headE e:=rfl
 rw[bytesE_eq,parseB_app,hhd,if_pos (sum2_eq hs).symm,hsp,if_pos (by simp),List.dropLast_concat,parseL_of h4]
 have hn:((UInt8.ofNat e.number.toNat).toNat:Int)=e.number:=by rw[toNat_ofNat (by omega)];omega
 dsimp only
 rw[hn,if_pos h]
theorem ofNat_toNat (c:UInt8):UInt8.ofNat c.toNat=c:=by
 apply UInt8.toNat_inj.1
 rw[toNat_ofNat c.toNat_lt]
theorem bytes_parse {b:Str}{e:Entry}(h:parseB b = .ok e):wrongEntry e=0∧bytesE e=b:=by
 have h3:3≤b.length:=by
  refine Classical.byContradiction fun hlt=>?_
  unfold parseB at h
  rw[if_pos (by omega)]at h
  cases h
 obtain⟨h0,L,u,v,rfl⟩:=bytes_form h3
 rw[parseB_app]at h
 split at h
 ·
  next hs =>
  split at h
  ·
   next hl =>
   split at h
   ·
    cases h
   ·
    next ds hp =>
    split at h
    ·
     next hw =>
     cases h
     refine⟨hw,?_⟩
     have hlin:linesD ds=L:=by
      have hj:=split_join_id L [10]
      have hne:split L [10]≠[]:=splitF_ne [10] L.length [] L
      have hds:split L [10]=(split L [10]).dropLast++[[]]:=by
       have hlx:(split L [10]).getLast hne=[]:=by
        rw[List.getLast?_eq_some_getLast hne]at hl
        exact Option.some.inj hl
       have:=List.dropLast_concat_getLast hne
       rw[hlx]at this
       exact this.symm
      rw[linesD_eq,parseL_print hp,← lines_join,← hds,hj]
     have hhd:headE ⟨(h0.toNat:Int),ds⟩=h0::L:=by
      unfold headE
      rw[hlin,Int.toNat_natCast,ofNat_toNat]
     unfold bytesE
     rw[hhd,hs]
     unfold sum2
     have hu:=u.toNat_lt
     have hv:=v.toNat_lt
     rw[show(u.toNat*256+v.toNat) / 256=u.toNat by omega,show(u.toNat*256+v.toNat)%256=v.toNat by omega,ofNat_toNat,ofNat_toNat]
     rfl
    ·
     cases h
  ·
   cases h
 ·
  cases h
end Go.Proofs.YtfpkamiobdkcpaaGreatDoor
namespace Go.Proofs
open Go.Shelf Go.RowKit
noncomputable def Tryz.laysM171_ren : Go.Shelf.Ren := ⟨fun | 129 => 156 | 171 => 129 | 243 => 162 | 246 => 180 | 283 => 200 | 284 => 201 | 285 => 202 | 286 => 203 | 317 => 218 | 318 => 219 | 319 => 220 | 320 => 221 | 337 => 229 | 338 => 230 | n => n, fun | 0 => 0 | 2 => 2 | 3 => 3 | 4 => 4 | 5 => 5 | 9 => 9 | 20 => 20 | 37 => 69 | 46 => 137 | 51 => 196 | 53 => 198 | 171 => 246 | 173 => 248 | 212 => 260 | 213 => 261 | 232 => 280 | 233 => 281 | n => n, fun | 17 => (Tryz.prog.globals.findIdx? (·.name == "internal/strconv.uint64pow10")).getD 0 | 18 => (Tryz.prog.globals.findIdx? (·.name == "math/bits.deBruijn32tab")).getD 0 | 19 => (Tryz.prog.globals.findIdx? (·.name == "math/bits.deBruijn64tab")).getD 0 | n => n⟩
theorem Tryz.laysM171:Go.Proofs.LaysM.n171 Tryz.prog Tryz.laysM171_ren:={
 mixed:=by kernel_rfl
 f129:=Tryz.func156.trans (congrArg some (by kernel_rfl))
 f171:=Tryz.func129.trans (congrArg some (by kernel_rfl))
 f243:=Tryz.func162.trans (congrArg some (by kernel_rfl))
 f246:=Tryz.func180.trans (congrArg some (by kernel_rfl))
 f283:=Tryz.func200.trans (congrArg some (by kernel_rfl))
 f284:=Tryz.func201.trans (congrArg some (by kernel_rfl))
 f285:=Tryz.func202.trans (congrArg some (by kernel_rfl))
 f286:=Tryz.func203.trans (congrArg some (by kernel_rfl))
 f317:=Tryz.func218.trans (congrArg some (by kernel_rfl))
 f318:=Tryz.func219.trans (congrArg some (by kernel_rfl))
 f319:=Tryz.func220.trans (congrArg some (by kernel_rfl))
 f320:=Tryz.func221.trans (congrArg some (by kernel_rfl))
 f337:=Tryz.func229.trans (congrArg some (by kernel_rfl))
 f338:=Tryz.func230.trans (congrArg some (by kernel_rfl))
 t0:=Tryz.underlying0
 a0:=Tryz.isAgg0
 z0:=Tryz.sizeOf0
 v0:=Tryz.zeroValue0
 t2:=Tryz.underlying2
 a2:=Tryz.isAgg2
 z2:=Tryz.sizeOf2
 v2:=Tryz.zeroValue2
 t3:=Tryz.underlying3
 a3:=Tryz.isAgg3
 z3:=Tryz.sizeOf3
 v3:=Tryz.zeroValue3
 t4:=Tryz.underlying4
 a4:=Tryz.isAgg4
 z4:=Tryz.sizeOf4
 v4:=Tryz.zeroValue4
 t5:=Tryz.underlying5
 a5:=Tryz.isAgg5
 z5:=Tryz.sizeOf5
 v5:=Tryz.zeroValue5
 t9:=Tryz.underlying9
 a9:=Tryz.isAgg9
 z9:=Tryz.sizeOf9
 v9:=Tryz.zeroValue9
 t20:=Tryz.underlying20
 a20:=Tryz.isAgg20
 z20:=Tryz.sizeOf20
 v20:=Tryz.zeroValue20
 t37:=Tryz.underlying69
 a37:=Tryz.isAgg69
 z37:=Tryz.sizeOf69
 v37:=Tryz.zeroValue69
 t46:=Tryz.underlying137
 a46:=Tryz.isAgg137
 z46:=Tryz.sizeOf137
 v46:=Tryz.zeroValue137
 t51:=Tryz.underlying196
 a51:=Tryz.isAgg196
 z51:=Tryz.sizeOf196
 v51:=Tryz.zeroValue196
 t53:=Tryz.underlying198
 a53:=Tryz.isAgg198
 z53:=Tryz.sizeOf198
 v53:=Tryz.zeroValue198
 t171:=Tryz.underlying246
 a171:=Tryz.isAgg246
 z171:=Tryz.sizeOf246
 v171:=Tryz.zeroValue246
 t173:=Tryz.underlying248
 a173:=Tryz.isAgg248
 z173:=Tryz.sizeOf248
 v173:=Tryz.zeroValue248
 t212:=Tryz.underlying260
 a212:=Tryz.isAgg260
 z212:=Tryz.sizeOf260
 v212:=Tryz.zeroValue260
 t213:=Tryz.underlying261
 a213:=Tryz.isAgg261
 z213:=Tryz.sizeOf261
 t232:=Tryz.underlying280
 a232:=Tryz.isAgg280
 z232:=Tryz.sizeOf280
 v232:=Tryz.zeroValue280
 t233:=Tryz.underlying281
 a233:=Tryz.isAgg281
 z233:=Tryz.sizeOf281
 v233:=Tryz.zeroValue281
 g17:=by kernel_rfl
 g18:=by kernel_rfl
 g19:=by kernel_rfl
 i0:=by kernel_rfl
 i2:=by kernel_rfl
 i3:=by kernel_rfl
 i4:=by kernel_rfl
 i5:=by kernel_rfl
 i9:=by kernel_rfl
 i20:=by kernel_rfl
 i37:=by kernel_rfl
 i46:=by kernel_rfl
 i51:=by kernel_rfl
 i53:=by kernel_rfl
 i171:=by kernel_rfl
 i173:=by kernel_rfl
 i212:=by kernel_rfl
 i232:=by kernel_rfl
 i233:=by kernel_rfl
 m17:=by kernel_rfl
 m18:=by kernel_rfl
 m19:=by kernel_rfl
 }
end Go.Proofs
namespace Go.AX
open Go.RowKit
variable {cx:Cx}{g:Nat→Value}{σ σ':St}{a:Act}{w w':World}{nx:Nat}
variable {ty:TypeId}{pos:String}{af:Array Edge}{gd:Option (Nat×Bool)}{d:Nat}
def errP (_w:World) (_own:Nat→Prop) (v:Value):Prop:=∃ t p,v = .iface t p
def errD:D := .x errP
theorem err_stable:Stable errP:=fun _ _ _ _ _ _ _ h=>h
theorem rd_err {own:Nat→Prop}{t:TypeId}{p:Value}:Rd w own (.iface t p) errD := .x errP _ rfl err_stable ⟨t,p,rfl⟩
theorem a_err {t t':TypeId}{x:Operand}{ms:Array (String×TypeId)}(hx:ev σ x=some (.d errD)) (ht:cx.P.underlying t=some (.interface ms)) (hd:Nat.blt d cx.n=true) :
  OA cx σ ⟨some d,.binOp .eql t x (.const .nilIface) t',ty,pos,af,gd⟩ ⟨rdOf x (.d errD),[(.s d,.av (.d (.v (.bool false))))]⟩:=by
 refine⟨ok_val rfl (lt_of_blt hd) fun σ1 a w g nx hs hr=>?_,(ev_out hx).2⟩
 obtain⟨t1,p1,hv⟩:=rd_x (hs.ev (ev_out hx).1 hr).1
 refine⟨.bool false,w,?_,Below.refl _ _,Rd.v _,trivial⟩
 have h:∀ d:Nat,(Op.equalIn (d+1) t (.iface t1 p1) .nilIface).run cx.P w = .ok false w:=fun d=>by
  simp[Op.equalIn,run_underlying ht]
 have hg:eqGuard .eql t x (.const .nilIface) (.iface t1 p1) .nilIface=pure ():=by cases x <;> rfl
 have hc:a.eval (.const .nilIface) = .nilIface:=rfl
 simp[execOp,hv,hc,hg,binOp,Op.equal,Op.maxDepth,h 9999]
theorem a_callc {f:FuncId}{z:Operand}{xs:List Operand}{avs:List AV}{ys:List Arg}{l:List (Key×Val)}{r:Res}{ats:Array TypeId}(hc:FnOk cx.P f ys r)
  (hz:ev σ z=some (.d (.v (.func (.func f) #[] #[])))) (hd:Nat.blt d cx.n=true) (hsub:SubsE σ xs avs ys l) :
  OA cx σ ⟨some d,.call { callee := .value z,args:=⟨xs⟩,argTypes:=ats },ty,pos,af,gd⟩ ⟨rdOf z (.d (.v (.func (.func f) #[] #[])))++l,[(.s d,.av r.av)]⟩:=by
 refine⟨?_,(ev_out hz).2.append hsub.out.2⟩
 rintro σ1 a w K Q ⟨g,nx,hs⟩ hr hK
 have hv:=rep_v (hs.ev (ev_out hz).1 hr.left).1
 have hcall:=hc.calls w (cx.own g σ1) (xs.map a.eval) ⟨fun b hb=>own_lt hs hb,hs.gl⟩ (hsub.out.1.ok hs hr.right)
 have hrun:=callfn_run (xs:=xs) (ats:=ats) (ty:=ty) (pos:=pos) (af:=af) (gd:=gd) (dd:=some d) (w:=w) hc hv
 simp only[List.append_nil]at hrun
 unfold Oper.wp
 rw[hrun]
 refine hcall.mono fun e w' he=>?_
 obtain⟨v,rfl,hb,hres⟩:=he
 obtain⟨h1,h2⟩:=Res.rep (nx:=nx) hres
 exact hK _ _ (Sim.put hs (lt_of_blt hd) hb h1 h2)
end Go.AX
namespace Go.Proofs.YtfpkamiobdkcpaaGreatDoor
open Go.AX Go.RF Go.RowKit
set_option maxRecDepth 100000
set_option maxHeartbeats 4000000
def atoiV (s:Str):Int:=match Lib.atoiAll s with
 |.ok v=>v
 |.range=>Lib.atoiSat s
 |_=>0
def atoiE (s:Str):D:=match Lib.atoiAll s with
 |.ok _ => .v .nilIface
 |_=>errD
theorem tup2 {w:World}{own:Nat→Prop}{u v:Value}{x y:D}(h1:Rd w own u x) (h2:Rd w own v y):ResOk w own (.tuple #[u,v]) (.tup [x,y]):=by
 refine⟨_,rfl,rfl,fun j c z hj hc=>?_⟩
 match j,hj,hc with
 |0,hj,hc=>simp at hj hc;subst hj hc;exact h1
 |1,hj,hc=>simp at hj hc;subst hj hc;exact h2
 |j+2,hj,hc=>simp at hj
theorem ok_atoiG (s:Str) (hs:s.length≤1073741824):FnOk Tryz.prog 168 [.d (dstr s)] (.tup [dint (atoiV s),atoiE s]):=by
 refine⟨⟨_,Tryz.func168,by kernel_rfl,by kernel_rfl⟩,fun w own vs hown ha=>?_⟩
 match vs,ha with
 | [x],⟨h1,_⟩ =>
  obtain rfl:x=str s:=rd_v h1
  have hsz:(⟨s.toArray⟩:ByteArray).size=s.length:=by show s.toArray.size=_;simp
  cases hc:Lib.atoiAll s with
  |ok v =>
   refine(Any.strconv_Atoi_ok Tryz.laysC172 ⟨s.toArray⟩ (by rw[hsz];omega) v (by simpa using hc) w).mono fun e w' he=>?_
   obtain⟨rfl,hw⟩:=he
   refine⟨_,rfl,?_,?_⟩
   ·
    rcases hw with rfl|⟨t,rfl⟩
    ·
     exact Below.refl _ _
    ·
     exact Lib.bytesWorld_below _ _ _
   ·
    unfold atoiV atoiE;rw[hc];exact tup2 (Rd.v _) (Rd.v _)
  |range =>
   obtain⟨cs,hv,tp,p,rfl⟩:=hown.2.er _ Tryz.laysC172.m16
   refine(Any.strconv_Atoi_range_var Tryz.laysC172 ⟨s.toArray⟩ (by rw[hsz];omega) (by simpa using hc) tp p w hv).mono fun e w' he=>?_
   obtain⟨N,rfl,_,_,hb⟩:=he
   refine⟨_,rfl,hb,?_⟩
   unfold atoiV atoiE;rw[hc];exact tup2 (Rd.v _) rd_err
  |_ =>
   obtain⟨cs,hv,tp,p,rfl⟩:=hown.2.es _ Tryz.laysC172.m15
   refine(Any.strconv_Atoi_syntax_var Tryz.laysC172 ⟨s.toArray⟩ (by rw[hsz];omega) (by simpa using hc) tp p w hv).mono fun e w' he=>?_
   obtain⟨N,rfl,_,_,hb⟩:=he
   refine⟨_,rfl,hb,?_⟩
   unfold atoiV atoiE;rw[hc];exact tup2 (Rd.v _) rd_err
theorem ok_itoaG (n:Int) (h0 : -9223372036854775808≤n) (h1:n≤9223372036854775807):FnOk Tryz.prog 129 [.d (dint n)] (.one (dstr (Lib.itoa n))):=by
 refine⟨⟨_,Tryz.func129,by kernel_rfl,by kernel_rfl⟩,fun w own vs hown ha=>?_⟩
 match vs,ha with
 | [x],⟨h2,_⟩ =>
  obtain rfl:x=i64 n:=rd_v h2
  have htab : Lib.TabIs Tryz.prog w "internal/strconv.uint64pow10" .u64 Lib.pow10Tab := by
   obtain⟨cs,hv,rfl⟩:=hown.2.pow _ Tryz.laysM171.m17
   exact hv
  refine(Any.strconv_Itoa Tryz.laysM171 n h0 h1 w htab).mono fun e w' he=>?_
  obtain⟨rfl,k,os,rfl⟩:=he
  refine⟨_,rfl,?_,Rd.v _⟩
  exact⟨rfl,rfl,rfl,(by show w.heap.size≤(w.heap++os).size;simp),fun k hk=>(by show(w.heap++os)[k]? = w.heap[k]?;exact Array.getElem?_append_left hk)⟩
theorem atoi_in {s:Str}{v:Int}(h:Lib.atoiAll s = .ok v) : -9223372036854775808≤v∧v≤9223372036854775807:=Lib.atoiAll_bounds h
theorem ok_num (s:Str) (hs:s.length≤1073741824):FnOk Tryz.prog 136 [.d (dstr s)] (.tup [dint (atoiV s),dbool (numV s).isSome]):=by
 refine fnOk_of tbl_ok mixed_ok Tryz.func136 rfl (by kernel_rfl) rfl rfl fun w0 own0=>?_
 have c1:=ok_atoiG s hs
 unfold atoiV atoiE at c1
 unfold atoiV numV
 cases hc:Lib.atoiAll s with
 |ok v =>
  rw[hc]at c1
  have hb:=atoi_in hc
  have c2:=ok_itoaG v hb.1 hb.2
  dsimp only at c1 ⊢
  generalize Lib.itoa v=t at c2 ⊢
  by_cases hv:t=s
  ·
   rw[if_pos hv]
   repeat(first|refine wa ?_|((with_reducible apply s5);(first|((with_reducible apply a_noerr);exact rfl;exact Tryz.underlying211;exact rfl)|exact by_oa|exact by_ca);exact by_g)|refine wb ?_)
   exact .two (.tmp rfl (.one (.d (.refl _)))) (.tmp rfl (.one (.d (dle_bool (by simp[hv])))))
  ·
   rw[if_neg hv]
   repeat(first|refine wa ?_|((with_reducible apply s5);(first|((with_reducible apply a_noerr);exact rfl;exact Tryz.underlying211;exact rfl)|exact by_oa|exact by_ca);exact by_g)|refine wb ?_)
   exact .two (.tmp rfl (.one (.d (.refl _)))) (.tmp rfl (.one (.d (dle_bool (by simp[hv])))))
 |range =>
  rw[hc]at c1
  dsimp only at c1 ⊢
  generalize Lib.atoiSat s=q at c1 ⊢
  repeat(first|refine wa ?_|((with_reducible apply s5);(first|((with_reducible apply a_err);exact rfl;exact Tryz.underlying211;exact rfl)|exact by_oa|exact by_ca);exact by_g)|refine wb ?_)
  exact .two (.tmp rfl (.one (.d (.refl _)))) (.tmp rfl (.one (.d (.refl _))))
 |_ =>
  rw[hc]at c1
  dsimp only at c1 ⊢
  repeat(first|refine wa ?_|((with_reducible apply s5);(first|((with_reducible apply a_err);exact rfl;exact Tryz.underlying211;exact rfl)|exact by_oa|exact by_ca);exact by_g)|refine wb ?_)
  exact .two (.tmp rfl (.one (.d (.refl _)))) (.tmp rfl (.one (.d (.refl _))))
end Go.Proofs.YtfpkamiobdkcpaaGreatDoor
namespace Go.Proofs
open Go.Shelf Go.RowKit
noncomputable def Tryz.lays146_ren : Go.Shelf.Ren := ⟨fun | 138 => 164 | 143 => 165 | 146 => 94 | 195 => 181 | 197 => 182 | 217 => 205 | 218 => 183 | 219 => 184 | 221 => 132 | 224 => 207 | 225 => 206 | 260 => 204 | 266 => 222 | 267 => 208 | 268 => 163 | 314 => 223 | n => n, fun | 0 => 0 | 3 => 3 | 4 => 4 | 5 => 5 | 9 => 9 | 21 => 21 | 31 => 39 | 46 => 137 | 51 => 196 | 105 => 228 | 119 => 262 | 138 => 264 | 139 => 265 | 146 => 266 | n => n, fun | 1 => (Tryz.prog.globals.findIdx? (·.name == "internal/bytealg.MaxLen")).getD 0 | 3 => (Tryz.prog.globals.findIdx? (·.name == "unicode/utf8.first")).getD 0 | 4 => (Tryz.prog.globals.findIdx? (·.name == "unicode/utf8.acceptRanges")).getD 0 | n => n⟩
theorem Tryz.lays146:Go.Proofs.Lays.n146 Tryz.prog Tryz.lays146_ren:={
 mixed:=by kernel_rfl
 f138:=Tryz.func164.trans (congrArg some (by kernel_rfl))
 f143:=Tryz.func165.trans (congrArg some (by kernel_rfl))
 f146:=Tryz.func94.trans (congrArg some (by kernel_rfl))
 f195:=Tryz.func181.trans (congrArg some (by kernel_rfl))
 f197:=Tryz.func182.trans (congrArg some (by kernel_rfl))
 f217:=Tryz.func205.trans (congrArg some (by kernel_rfl))
 f218:=Tryz.func183.trans (congrArg some (by kernel_rfl))
 f219:=Tryz.func184.trans (congrArg some (by kernel_rfl))
 f221:=Tryz.func132.trans (congrArg some (by kernel_rfl))
 f224:=Tryz.func207.trans (congrArg some (by kernel_rfl))
 f225:=Tryz.func206.trans (congrArg some (by kernel_rfl))
 f260:=Tryz.func204.trans (congrArg some (by kernel_rfl))
 f266:=Tryz.func222.trans (congrArg some (by kernel_rfl))
 f267:=Tryz.func208.trans (congrArg some (by kernel_rfl))
 f268:=Tryz.func163.trans (congrArg some (by kernel_rfl))
 f314:=Tryz.func223.trans (congrArg some (by kernel_rfl))
 t0:=Tryz.underlying0
 a0:=Tryz.isAgg0
 z0:=Tryz.sizeOf0
 v0:=Tryz.zeroValue0
 t3:=Tryz.underlying3
 a3:=Tryz.isAgg3
 z3:=Tryz.sizeOf3
 v3:=Tryz.zeroValue3
 t4:=Tryz.underlying4
 a4:=Tryz.isAgg4
 z4:=Tryz.sizeOf4
 v4:=Tryz.zeroValue4
 t5:=Tryz.underlying5
 a5:=Tryz.isAgg5
 z5:=Tryz.sizeOf5
 v5:=Tryz.zeroValue5
 t9:=Tryz.underlying9
 a9:=Tryz.isAgg9
 z9:=Tryz.sizeOf9
 v9:=Tryz.zeroValue9
 t21:=Tryz.underlying21
 a21:=Tryz.isAgg21
 z21:=Tryz.sizeOf21
 v21:=Tryz.zeroValue21
 t31:=Tryz.underlying39
 a31:=Tryz.isAgg39
 z31:=Tryz.sizeOf39
 v31:=Tryz.zeroValue39
 t46:=Tryz.underlying137
 a46:=Tryz.isAgg137
 z46:=Tryz.sizeOf137
 v46:=Tryz.zeroValue137
 t51:=Tryz.underlying196
 a51:=Tryz.isAgg196
 z51:=Tryz.sizeOf196
 v51:=Tryz.zeroValue196
 t105:=Tryz.underlying228
 a105:=Tryz.isAgg228
 z105:=Tryz.sizeOf228
 v105:=Tryz.zeroValue228
 t119:=Tryz.underlying262
 a119:=Tryz.isAgg262
 z119:=Tryz.sizeOf262
 t138:=Tryz.underlying264
 a138:=Tryz.isAgg264
 z138:=Tryz.sizeOf264
 v138:=Tryz.zeroValue264
 t139:=Tryz.underlying265
 a139:=Tryz.isAgg265
 z139:=Tryz.sizeOf265
 v139:=Tryz.zeroValue265
 t146:=Tryz.underlying266
 a146:=Tryz.isAgg266
 z146:=Tryz.sizeOf266
 v146:=Tryz.zeroValue266
 g1:=by kernel_rfl
 g3:=by kernel_rfl
 g4:=by kernel_rfl
 }
noncomputable def Tryz.lays103_ren:Go.Shelf.Ren:=⟨fun|103=>166|206=>209|210=>185|n=>n,fun|3=>3|4=>4|9=>9|24=>216|n=>n,fun|n=>n⟩
theorem Tryz.lays103:Go.Proofs.Lays.n103 Tryz.prog Tryz.lays103_ren:={
 mixed:=by kernel_rfl
 f103:=Tryz.func166.trans (congrArg some (by kernel_rfl))
 f206:=Tryz.func209.trans (congrArg some (by kernel_rfl))
 f210:=Tryz.func185.trans (congrArg some (by kernel_rfl))
 t3:=Tryz.underlying3
 a3:=Tryz.isAgg3
 z3:=Tryz.sizeOf3
 v3:=Tryz.zeroValue3
 t4:=Tryz.underlying4
 a4:=Tryz.isAgg4
 z4:=Tryz.sizeOf4
 v4:=Tryz.zeroValue4
 t9:=Tryz.underlying9
 a9:=Tryz.isAgg9
 z9:=Tryz.sizeOf9
 v9:=Tryz.zeroValue9
 t24:=Tryz.underlying216
 a24:=Tryz.isAgg216
 z24:=Tryz.sizeOf216
 v24:=Tryz.zeroValue216
 }
noncomputable def Tryz.lays156_ren:Go.Shelf.Ren:=⟨fun|156=>126|165=>159|166=>160|169=>161|240=>178|241=>179|276=>198|277=>199|n=>n,fun|0=>0|3=>3|4=>4|5=>5|9=>9|20=>20|31=>39|37=>69|70=>206|72=>208|75=>211|76=>212|80=>214|127=>226|164=>243|n=>n,fun|n=>n⟩
theorem Tryz.lays156:Go.Proofs.Lays.n156 Tryz.prog Tryz.lays156_ren:={
 mixed:=by kernel_rfl
 f156:=Tryz.func126.trans (congrArg some (by kernel_rfl))
 f165:=Tryz.func159.trans (congrArg some (by kernel_rfl))
 f166:=Tryz.func160.trans (congrArg some (by kernel_rfl))
 f169:=Tryz.func161.trans (congrArg some (by kernel_rfl))
 f240:=Tryz.func178.trans (congrArg some (by kernel_rfl))
 f241:=Tryz.func179.trans (congrArg some (by kernel_rfl))
 f276:=Tryz.func198.trans (congrArg some (by kernel_rfl))
 f277:=Tryz.func199.trans (congrArg some (by kernel_rfl))
 t0:=Tryz.underlying0
 a0:=Tryz.isAgg0
 z0:=Tryz.sizeOf0
 v0:=Tryz.zeroValue0
 t3:=Tryz.underlying3
 a3:=Tryz.isAgg3
 z3:=Tryz.sizeOf3
 v3:=Tryz.zeroValue3
 t4:=Tryz.underlying4
 a4:=Tryz.isAgg4
 z4:=Tryz.sizeOf4
 v4:=Tryz.zeroValue4
 t9:=Tryz.underlying9
 a9:=Tryz.isAgg9
 z9:=Tryz.sizeOf9
 v9:=Tryz.zeroValue9
 t20:=Tryz.underlying20
 a20:=Tryz.isAgg20
 z20:=Tryz.sizeOf20
 v20:=Tryz.zeroValue20
 t31:=Tryz.underlying39
 a31:=Tryz.isAgg39
 z31:=Tryz.sizeOf39
 v31:=Tryz.zeroValue39
 t37:=Tryz.underlying69
 a37:=Tryz.isAgg69
 z37:=Tryz.sizeOf69
 v37:=Tryz.zeroValue69
 t70:=Tryz.underlying206
 a70:=Tryz.isAgg206
 z70:=Tryz.sizeOf206
 v70:=Tryz.zeroValue206
 t72:=Tryz.underlying208
 a72:=Tryz.isAgg208
 z72:=Tryz.sizeOf208
 v72:=Tryz.zeroValue208
 t75:=Tryz.underlying211
 a75:=Tryz.isAgg211
 z75:=Tryz.sizeOf211
 v75:=Tryz.zeroValue211
 t76:=Tryz.underlying212
 a76:=Tryz.isAgg212
 z76:=Tryz.sizeOf212
 v76:=Tryz.zeroValue212
 t127:=Tryz.underlying226
 a127:=Tryz.isAgg226
 z127:=Tryz.sizeOf226
 v127:=Tryz.zeroValue226
 t164:=Tryz.underlying243
 a164:=Tryz.isAgg243
 z164:=Tryz.sizeOf243
 v164:=Tryz.zeroValue243
 }
theorem Tryz.bld156:Go.Proofs.Builder.Extra Tryz.prog Tryz.lays156_ren:={
 sizeBuilder:=by kernel_rfl
 liesBuilder:=by kernel_rfl
 t5:=Tryz.underlying5
 a5:=Tryz.isAgg5
 z5:=Tryz.sizeOf5
 v5:=Tryz.zeroValue5
 infoByte:=by kernel_rfl
 cellsByte:=by kernel_rfl
 sizeByte:=by kernel_rfl
 neB5:=by decide
 }
end Go.Proofs
namespace Go.AX
open Go.RowKit
variable {cx:Cx}{g:Nat→Value}{σ σ':St}{a:Act}{w w':World}{nx:Nat}{kk:IntKind}
variable {ty:TypeId}{pos:String}{af:Array Edge}{gd:Option (Nat×Bool)}{d:Nat}
def MapIsK (kk:IntKind) (es:Array MapEntry) (M:List (Int×Value)):Prop:=es.toList.map (fun e=>(e.key,e.val))=M.map fun p=>(Value.int kk p.1,p.2)
structure MapTyK (cx:Cx) (kk:IntKind) (t te:TypeId) (zv:Value):Prop where
 u:∃ tk,cx.P.underlying t=some (.map tk te)∧cx.P.underlying tk=some (.int kk)
 z:∀ w,(zeroValue te).run cx.P w = .ok zv w
theorem findNow_eqK (k:Int):∀ {es:List MapEntry}{M:List (Int×Value)}(i:Nat),es.map (fun e=>(e.key,e.val))=M.map (fun p=>(Value.int kk p.1,p.2)) →
  Instr.findNow (.int kk) (.int kk k) es i=some ((mfindI k M i).map fun p=>(p.1,p.2))
 | [],[],i,_=>rfl
 | [],p::M,i,h=>by simp at h
 |e::es,[],i,h=>by simp at h
 |e::es,(s,v)::M,i,h=>by
  simp only[List.map_cons,List.cons.injEq,Prod.mk.injEq]at h
  obtain⟨⟨h1,h2⟩,h3⟩:=h
  obtain⟨r,hr,hiff⟩:=MapKept.sameNow_of_keys (d := .int kk) (a := .int kk k) (b := .int kk s) (by simp[MapKept.IsKey]) (by simp[MapKept.IsKey])
  rw[← h1]at hr
  have hs':r=true↔s=k:=by
   rw[hiff]
   simp only[Value.int.injEq,true_and]
   exact eq_comm
  simp only[Instr.findNow,hr,mfindI]
  by_cases hs:s=k
  ·
   rw[if_pos hs]
   have hrt:=hs'.2 hs
   subst hrt
   simp[h2]
  ·
   rw[if_neg hs]
   have hrf:r=false:=by
    cases r with
    |false=>rfl
    |true=>exact absurd (hs'.1 rfl) hs
   subst hrf
   exact findNow_eqK k (i+1) h3
theorem run_mlookK {t te:TypeId}{zv:Value}(h:MapTyK cx kk t te zv) {b:Nat}{es:Array MapEntry}{clock:Nat}{M:List (Int×Value)}(hb:w.heap[b]? = some (.map es clock)) (hm:MapIsK kk es M) (k:Int) :
  (Instr.lookup t (.map (some b)) (.int kk k) false).run cx.P w = .ok (mlookI zv M k) w:=by
 obtain⟨tk,h1,h2⟩:=h.u
 have hf:=findNow_eqK k 0 hm
 have hg:=mfindI_get k M 0
 have hck:(Instr.checkKey es.isEmpty 10000 tk (.int kk k)).run cx.P w = .ok () w:=MapKept.run_checkKey h2 (by simp[MapKept.IsKey]) _ 9999
 have hz:=h.z w
 cases hfd:mfindI k M 0 with
 |none =>
  rw[hfd]at hf hg
  simp only[Option.map_none]at hf hg
  simp[Instr.lookup,run_underlying h1,MapKept.run_getObj_map hb,hck,Instr.findKey,run_underlying h2,hf,hz,mlookI,← hg,Result.andThen]
 |some p =>
  rw[hfd]at hf hg
  simp only[Option.map_some]at hf hg
  simp[Instr.lookup,run_underlying h1,MapKept.run_getObj_map hb,hck,Instr.findKey,run_underlying h2,hf,mlookI,← hg,Result.andThen]
theorem run_msetK {t te:TypeId}{zv:Value}(h:MapTyK cx kk t te zv) {b:Nat}{es:Array MapEntry}{clock:Nat}{M:List (Int×Value)}(hb:w.heap[b]? = some (.map es clock)) (hm:MapIsK kk es M) (k:Int) (us:Value) :
  ∃ es' clock',(Instr.mapUpdate t (.map (some b)) (.int kk k) us).run cx.P w = .ok () { w with heap:=w.heap.setIfInBounds b (.map es' clock') }∧MapIsK kk es' (msetI M k us):=by
 obtain⟨tk,h1,h2⟩:=h.u
 have hf:=findNow_eqK k 0 hm
 have hck:(Instr.checkKey false 10000 tk (.int kk k)).run cx.P w = .ok () w:=MapKept.run_checkKey h2 (by simp[MapKept.IsKey]) _ 9999
 have hset:∀ o,(setObj b o).run cx.P w = .ok () { w with heap:=w.heap.setIfInBounds b o }:=fun o=>MapKept.run_setObj_map o hb
 cases hfd:mfindI k M 0 with
 |none =>
  rw[hfd]at hf
  simp only[Option.map_none]at hf
  refine⟨es.push ⟨.int kk k,us,clock⟩,clock+1,?_,?_⟩
  ·
   simp[Instr.mapUpdate,run_underlying h1,MapKept.run_getObj_map hb,hck,Instr.findKey,run_underlying h2,hf,hset,Result.andThen]
  ·
   rw[mfindI_none hfd]
   unfold MapIsK at hm ⊢
   simp[hm]
 |some p =>
  obtain⟨i,v⟩:=p
  rw[hfd]at hf
  simp only[Option.map_some]at hf
  obtain⟨n,hn,h3,h4⟩:=mfindI_some (us:=us) hfd
  obtain rfl:i=n:=by omega
  have hes:(es.toList.map fun e=>(e.key,e.val))[i]? = some (Value.int kk k,v):=by
   unfold MapIsK at hm
   rw[hm,List.getElem?_map,h3];rfl
  obtain⟨e,he,hek⟩:∃ e,es[i]? = some e∧e.key=Value.int kk k:=by
   rw[List.getElem?_map]at hes
   cases hx:es.toList[i]? with
   |none=>rw[hx]at hes;cases hes
   |some e =>
    rw[hx]at hes
    simp at hes
    exact⟨e,by simpa using hx,hes.1⟩
  refine⟨es.modify i fun e=>{ e with key := .int kk k,val:=us },clock,?_,?_⟩
  ·
   have hst:(Instr.keyThatStays (((es[i]?).map (·.key)).getD (.int kk k)) (.int kk k)).run cx.P w = .ok (.int kk k) w:=by
    rw[he]
    simp only[Option.map_some,Option.getD_some,hek]
    exact MapKept.run_keyThatStays (d := .int kk) (by simp[MapKept.IsKey])
   simp[Instr.mapUpdate,run_underlying h1,MapKept.run_getObj_map hb,hck,Instr.findKey,run_underlying h2,hf,hst,hset,Result.andThen]
  ·
   rw[h4]
   unfold MapIsK at hm ⊢
   rw[List.map_set,← hm]
   apply List.ext_getElem?
   intro j
   rw[List.getElem?_map,Array.getElem?_toList,Array.getElem?_modify]
   by_cases hj:i=j
   ·
    subst hj
    have hlt:=(Array.getElem?_eq_some_iff.1 he).1
    rw[if_pos rfl,List.getElem?_set_self (by simpa using hlt),he]
    rfl
   ·
    rw[if_neg hj,List.getElem?_set_ne hj,List.getElem?_map,Array.getElem?_toList]
theorem bytes_append (a b:List UInt8):(⟨a.toArray⟩:ByteArray)++⟨b.toArray⟩=⟨(a++b).toArray⟩:=by
 apply ByteArray.ext
 simp
theorem bin_sadd {P:Program}{t:TypeId}{a b:List UInt8}(h:a.length+b.length≤4611686018427387904):BinR P .add t (str a) (str b) (str (a++b)):=by
 intro w x y
 have h1:(⟨a.toArray⟩:ByteArray).size=a.length:=by show a.toArray.size=_;simp
 have h2:(⟨b.toArray⟩:ByteArray).size=b.length:=by show b.toArray.size=_;simp
 have h3:¬ (((⟨a.toArray⟩:ByteArray).size+(⟨b.toArray⟩:ByteArray).size:Nat):Int) > IntKind.i64.max:=by
  rw[h1,h2]
  show ¬ ((a.length+b.length:Nat):Int) > 9223372036854775807
  omega
 simp only[str,Sem.run_bind,eqGuard,Sem.run_pure,Result.andThen_ok,binOp,Op.stringOp]
 rw[if_neg h3,bytes_append]
 rfl
end Go.AX
namespace Go.AX
open Go.RowKit
variable {cx:Cx}{g:Nat→Value}{σ σ':St}{a:Act}{w w':World}{nx:Nat}{kk:IntKind}
variable {ty:TypeId}{pos:String}{af:Array Edge}{gd:Option (Nat×Bool)}{d:Nat}
theorem stut_tok (o:Nat):Stut cx ⟨[(.nx,.num nx)],[(.o nx,.ob (.tok o false)),(.nx,.num (nx+1))]⟩:=by
 rintro σ a w ⟨g,n',hs⟩ hr
 have hnx:n'=nx:=by
  have h2:=hr.1
  rw[hs.hnx]at h2
  simpa using h2
 subst hnx
 exact⟨_,_,SimG.obj (o' := .tok o false) (hv:=nilS) hs ⟨.inl ⟨rfl,rfl⟩,Below.refl _ _,fun b _ _=>rfl,fun b hb=>by simp[blk]at hb⟩ (fun _=>upd_same _ _ _) trivial⟩
section
variable {i o:Nat}{b:Bool}
theorem tok_get (k:Key) (hk:k ≠ .o i):get ((.o i,.ob (.tok o true))::σ) k=get σ k:=get_cons_ne (fun e=>hk e.symm)
theorem tok_own (hi:get σ (.o i) = .ob (.tok o b)):cx.own g ((.o i,.ob (.tok o true))::σ)=cx.own g σ:=by
 funext c
 apply propext
 refine or_congr Iff.rfl ⟨?_,?_⟩
 ·
  rintro ⟨id,ob,h1,h2⟩
  by_cases h:id=i
  ·
   subst h;exact⟨id,_,hi,h2⟩
  ·
   exact⟨id,ob,by rw[tok_get _ (by simpa using h)]at h1;exact h1,h2⟩
 ·
  rintro ⟨id,ob,h1,h2⟩
  by_cases h:id=i
  ·
   subst h;exact⟨id,_,get_cons_same,h2⟩
  ·
   exact⟨id,ob,by rw[tok_get _ (by simpa using h)];exact h1,h2⟩
theorem tok_ob {id:Nat}{ob:Ob}(h:get ((.o i,.ob (.tok o true))::σ) (.o id) = .ob ob) (hn:∀ q c,ob ≠ .tok q c):get σ (.o id) = .ob ob:=by
 by_cases he:id=i
 ·
  subst he
  rw[get_cons_same]at h
  exact absurd (by simpa using h.symm) (hn o true)
 ·
  rw[tok_get _ (by simpa using he)]at h;exact h
theorem tok_nr {id:Nat}(h:NR σ id):NR ((.o i,.ob (.tok o true))::σ) id:=fun hg=>h (tok_ob hg (by simp))
theorem tok_rep1 (hi:get σ (.o i) = .ob (.tok o b)) {x:Value}{av:AV}(h:Rep1 cx g σ w x av):Rep1 cx g ((.o i,.ob (.tok o true))::σ) w x av:=by
 cases av with
 |d y=>show Rd w _ x y;rw[tok_own hi];exact h
 |pd ds =>
  obtain⟨ad,h1,h2,h3,h4⟩:=h
  refine⟨ad,h1,?_,h3,?_⟩
  ·
   rw[tok_own hi];exact h2
  ·
   rw[tok_own hi];exact h4
 |ptr id off=>exact⟨tok_nr h.1,fun cells hg=>h.2 cells (tok_ob hg (by simp))⟩
 |own id n=>exact⟨tok_nr h.1,fun e k rows hg=>h.2 e k rows (tok_ob hg (by simp))⟩
 |pe id n p q=>exact⟨tok_nr h.1,fun e k rows hg=>h.2 e k rows (tok_ob hg (by simp))⟩
 |h id=>exact⟨tok_nr h.1,fun ob hg hh=>h.2 ob (tok_ob hg (by rintro q c rfl;cases hh)) hh⟩
 |any=>trivial
 |agg c=>exact h
 |tup c=>exact h
theorem tok_rep2 (hi:get σ (.o i) = .ob (.tok o b)) {x:Value}{av:AV}(h:Rep2 cx g σ w x av):Rep2 cx g ((.o i,.ob (.tok o true))::σ) w x av:=by
 cases av with
 |agg cells =>
  obtain⟨cs,h1,h2,h3,h4⟩:=h
  exact⟨cs,h1,h2,h3,fun j c av hj hc=>tok_rep1 hi (h4 j c av hj hc)⟩
 |d y=>exact tok_rep1 (cx:=cx) (g:=g) (w:=w) (av := .d y) hi h
 |pd y=>exact tok_rep1 (cx:=cx) (g:=g) (w:=w) (av := .pd y) hi h
 |ptr n m=>exact tok_rep1 (cx:=cx) (g:=g) (w:=w) (av := .ptr n m) hi h
 |own n m=>exact tok_rep1 (cx:=cx) (g:=g) (w:=w) (av := .own n m) hi h
 |pe n m p q=>exact tok_rep1 (cx:=cx) (g:=g) (w:=w) (av := .pe n m p q) hi h
 |h n=>exact tok_rep1 (cx:=cx) (g:=g) (w:=w) (av := .h n) hi h
 |any=>exact trivial
 |tup c=>exact h
theorem tok_rep (hi:get σ (.o i) = .ob (.tok o b)) {x:Value}{av:AV}(h:Rep cx g σ w x av):Rep cx g ((.o i,.ob (.tok o true))::σ) w x av:=by
 cases av with
 |tup avs =>
  obtain⟨vs,h1,h2,h3⟩:=h
  exact⟨vs,h1,h2,fun j c av hj hc=>tok_rep2 hi (h3 j c av hj hc)⟩
 |agg cells=>exact tok_rep2 (cx:=cx) (g:=g) (w:=w) (av := .agg cells) hi h
 |d y=>exact tok_rep2 (cx:=cx) (g:=g) (w:=w) (av := .d y) hi h
 |pd y=>exact tok_rep2 (cx:=cx) (g:=g) (w:=w) (av := .pd y) hi h
 |ptr n m=>exact tok_rep2 (cx:=cx) (g:=g) (w:=w) (av := .ptr n m) hi h
 |own n m=>exact tok_rep2 (cx:=cx) (g:=g) (w:=w) (av := .own n m) hi h
 |pe n m p q=>exact tok_rep2 (cx:=cx) (g:=g) (w:=w) (av := .pe n m p q) hi h
 |h n=>exact tok_rep2 (cx:=cx) (g:=g) (w:=w) (av := .h n) hi h
 |any=>exact trivial
theorem tok_set (hs:SimG cx σ a w g nx) (hi:get σ (.o i) = .ob (.tok o b))
  (hp:∀ kk V ids (j:Nat) p,get σ (.o o) = .ob (.lit kk V ids)→ids[j]? = some i→V[j]? = some p→∃ bb es clock,g o = .map (some bb)∧w.heap[bb]? = some (.map es clock)∧∃ e∈es.toList,e.key = .int kk p.1) :
  SimG cx ((.o i,.ob (.tok o true))::σ) a w g nx:=by
 refine⟨by rw[tok_get _ (by simp)];exact hs.hnx,hs.size,hs.defers,hs.below,hs.own0,fun s av h=>?_,fun id ob h=>?_,fun id id' o1 o2 c h1 h2 h3 h4=>?_,hs.gh.1,fun p hp=>⟨tok_rep hi (hs.gh.2 p hp).1,(hs.gh.2 p hp).2⟩⟩
 ·
  rw[tok_get _ (by simp)]at h
  obtain⟨h1,h2⟩:=hs.slots s av h
  exact⟨tok_rep hi h1,h2⟩
 ·
  by_cases he:id=i
  ·
   subst he
   rw[get_cons_same]at h
   obtain rfl:Ob.tok o true=ob:=by simpa using h
   obtain⟨h1,h2,_⟩:=hs.objs id _ hi
   exact⟨h1,h2,trivial⟩
  ·
   rw[tok_get _ (by simpa using he)]at h
   obtain⟨h1,h2,h3⟩:=hs.objs id ob h
   refine⟨h1,?_,h3⟩
   cases ob with
   |box cells =>
    obtain⟨b0,cs,t,q0,q1,q2,q3,q4,q5⟩:=h2
    exact⟨b0,cs,t,q0,q1,q2,q3,q4,fun j c av hj hc=>tok_rep1 hi (q5 j c av hj hc)⟩
   |arr e k rows =>
    obtain⟨xs,q1,q2,q3,q4⟩:=h2
    exact⟨xs,q1,q2,q3,fun i' j r d x u1 u2 u3=>by rw[tok_own hi];exact q4 i' j r d x u1 u2 u3⟩
   |pin e k rows x0 =>
    obtain⟨q0,xs,q1,q2,q3,q4⟩:=h2
    exact⟨q0,xs,q1,q2,q3,fun i' j r d x u1 u2 u3=>by rw[tok_own hi];exact q4 i' j r d x u1 u2 u3⟩
   |mp M x0=>exact h2
   |mi M x0=>exact h2
   |gen p=>exact h2
   |tok q c=>exact h2
   |res=>exact h2
   |lit kk V ids =>
    obtain⟨b0,es,clock,q0,q1,q2,q3,q4⟩:=h2
    refine⟨b0,es,clock,q0,q1,q2,q3,fun j i' p u1 u2 u3=>?_⟩
    by_cases h':i'=i
    ·
     subst h'
     rw[get_cons_same]at u3
     obtain rfl:o=id:=by simpa using u3
     obtain⟨bb,es',clock',r1,r2,r3⟩:=hp kk V ids j p h u1 u2
     rw[q0]at r1
     obtain rfl:b0=bb:=by simpa using r1
     rw[q2]at r2
     simp only[Option.some.injEq,Obj.map.injEq]at r2
     rw[r2.1]
     exact r3
    ·
     rw[tok_get _ (by simpa using h')]at u3
     exact q4 j i' p u1 u2 u3
 ·
  have key:∀ (id:Nat) (o1:Ob),get ((.o i,.ob (.tok o true))::σ) (.o id) = .ob o1→∃ o',get σ (.o id) = .ob o':=fun id o1 h=>by
   by_cases he:id=i
   ·
    subst he;exact⟨_,hi⟩
   ·
    rw[tok_get _ (by simpa using he)]at h;exact⟨_,h⟩
  obtain⟨p1,q1⟩:=key _ _ h1
  obtain⟨p2,q2⟩:=key _ _ h2
  exact hs.sep id id' p1 p2 c q1 q2 h3 h4
end
theorem msetI_mem {M:List (Int×Value)}{k:Int}{us:Value}{q:Int×Value}(h:q∈msetI M k us):q∈M∨q=(k,us):=by
 induction M with
 |nil=>simp[msetI]at h;exact .inr h
 |cons p M ih =>
  obtain⟨s,v⟩:=p
  simp only[msetI]at h
  split at h
  ·
   next hs =>
   rcases List.mem_cons.1 h with rfl|h
   ·
    exact .inr (by rw[hs])
   ·
    exact .inl (List.mem_cons_of_mem _ h)
  ·
   rcases List.mem_cons.1 h with rfl|h
   ·
    exact .inl (List.mem_cons_self ..)
   ·
    rcases ih h with h|h
    ·
     exact .inl (List.mem_cons_of_mem _ h)
    ·
     exact .inr h
theorem msetI_keys {M:List (Int×Value)}{k:Int}{us:Value}:(∀ q∈M,∃ v,(q.1,v)∈msetI M k us)∧∃ v,(k,v)∈msetI M k us:=by
 induction M with
 |nil=>exact⟨by simp,us,by simp[msetI]⟩
 |cons p M ih =>
  obtain⟨s,v⟩:=p
  obtain⟨h1,h2⟩:=ih
  simp only[msetI]
  split
  ·
   next hs =>
   refine⟨fun q hq=>?_,us,by rw[hs];exact List.mem_cons_self ..⟩
   rcases List.mem_cons.1 hq with rfl|hq
   ·
    exact⟨us,List.mem_cons_self ..⟩
   ·
    exact⟨q.2,List.mem_cons_of_mem _ hq⟩
  ·
   refine⟨fun q hq=>?_,?_⟩
   ·
    rcases List.mem_cons.1 hq with rfl|hq
    ·
     exact⟨v,List.mem_cons_self ..⟩
    ·
     obtain⟨u,hu⟩:=h1 q hq
     exact⟨u,List.mem_cons_of_mem _ hu⟩
   ·
    obtain⟨u,hu⟩:=h2
    exact⟨u,List.mem_cons_of_mem _ hu⟩
theorem entries_list {es:Array MapEntry}{V:List (Int×Value)}(h:∀ e∈es.toList,∃ p∈V,e.key = .int kk p.1∧e.val=p.2):∃ M:List (Int×Value),MapIsK kk es M∧∀ q∈M,q∈V:=by
 unfold MapIsK
 generalize es.toList=l at h
 induction l with
 |nil=>exact⟨[],rfl,by simp⟩
 |cons e l ih =>
  obtain⟨M,h1,h2⟩:=ih fun e he=>h e (List.mem_cons_of_mem _ he)
  obtain⟨p,hp,h3,h4⟩:=h e (List.mem_cons_self ..)
  refine⟨p::M,by simp[h1,h3,h4],fun q hq=>?_⟩
  rcases List.mem_cons.1 hq with rfl|hq
  ·
   exact hp
  ·
   exact h2 q hq
theorem list_entry {es:Array MapEntry}{M:List (Int×Value)}(h:MapIsK kk es M):(∀ e∈es.toList,∃ q∈M,e.key = .int kk q.1∧e.val=q.2)∧∀ q∈M,∃ e∈es.toList,e.key = .int kk q.1:=by
 unfold MapIsK at h
 refine⟨fun e he=>?_,fun q hq=>?_⟩
 ·
  have:(e.key,e.val)∈M.map fun p=>(Value.int kk p.1,p.2):=by rw[← h];exact List.mem_map.2 ⟨e,he,rfl⟩
  obtain⟨q,hq,h1⟩:=List.mem_map.1 this
  simp only[Prod.mk.injEq]at h1
  exact⟨q,hq,h1.1.symm,h1.2.symm⟩
 ·
  have:(Value.int kk q.1,q.2)∈es.toList.map fun e=>(e.key,e.val):=by rw[h];exact List.mem_map.2 ⟨q,hq,rfl⟩
  obtain⟨e,he,h1⟩:=List.mem_map.1 this
  simp only[Prod.mk.injEq]at h1
  exact⟨e,he,h1.1⟩
theorem lit_at (hs:SimG cx σ a w g nx) {id:Nat}{V:List (Int×Value)}{ids:List Nat}{x:Value}(ho:get σ (.o id) = .ob (.lit kk V ids)) (hr:Rep cx g σ w x (.h id)) :
  ∃ b es clock,x = .map (some b)∧g id = .map (some b)∧cx.w0.heap.size≤b∧b < w.heap.size∧w.heap[b]? = some (.map es clock)∧(∀ e∈es.toList,∃ p∈V,e.key = .int kk p.1∧e.val=p.2) ∧
   ∀ (j i:Nat) (p:Int×Value),ids[j]? = some i→V[j]? = some p→get σ (.o i) = .ob (.tok id true)→∃ e∈es.toList,e.key = .int kk p.1:=by
 obtain⟨_,⟨b,es,clock,h1,h2,h3,h4,h5⟩,_⟩:=hs.objs id _ ho
 have hx:x=g id:=hr.2 _ ho rfl
 refine⟨b,es,clock,by rw[hx];exact h1,h1,h2,?_,h3,h4,h5⟩
 rcases Nat.lt_or_ge b w.heap.size with h|h
 ·
  exact h
 ·
  rw[Array.getElem?_eq_none h]at h3;cases h3
def toksRd (o:Nat) (ids:List Nat):List (Key×Val):=ids.map fun i=>(.o i,.ob (.tok o false))
theorem toks_app {o:Nat}:∀ {ids:List Nat},(∀ i∈ids,get σ (.o i) = .ob (.tok o false))→App σ (toksRd o ids)
 | [],_=>trivial
 |i::ids,h=>⟨h i (List.mem_cons_self ..),toks_app fun j hj=>h j (List.mem_cons_of_mem _ hj)⟩
theorem toks_at {o:Nat}:∀ {ids:List Nat},App σ (toksRd o ids)→∀ i∈ids,get σ (.o i) = .ob (.tok o false)
 | [],_,i,hi=>by cases hi
 |j::ids,h,i,hi=>by
  rcases List.mem_cons.1 hi with rfl|hi
  ·
   exact h.1
  ·
   exact toks_at h.2 i hi
theorem a_mklit {t:TypeId}{n0:Nat}(kk:IntKind) (V:List (Int×Value)) (ids:List Nat) (hn:get σ .nx = .num n0) (hd:Nat.blt d cx.n=true) (ht:∀ i∈ids,get σ (.o i) = .ob (.tok n0 false)) :
  OA cx σ ⟨some d,.makeMap t none,ty,pos,af,gd⟩ ⟨(.nx,.num n0)::toksRd n0 ids,[(.s d,.av (.h n0)),(.o n0,.ob (.lit kk V ids)),(.nx,.num (n0+1))]⟩:=by
 refine⟨?_,hn,toks_app ht⟩
 rintro σ a w K Q ⟨g,nx,hs⟩ hr hK
 obtain⟨hn,hl⟩:=hr
 have htk:=toks_at hl
 have hnx:nx=n0:=by
  have h2:=hs.hnx
  rw[hn]at h2
  simpa using h2.symm
 subst hnx
 have hrun:(execOp a.eval ⟨some d,.makeMap t none,ty,pos,af,gd⟩).run cx.P w = .ok (.value (.map (some w.heap.size))) (w.alloc (.map #[] 0)):=by
  simp[execOp,Instr.makeMap,newObj]
  rfl
 have hb:Below w.heap.size w (w.alloc (.map #[] 0)):=(Below.refl _ _).alloc (Nat.le_refl _) _
 have hst:ObjStep cx σ g nx (nx+1) w (w.alloc (.map #[] 0)) nx (.lit kk V ids) (.map (some w.heap.size)) :=
  ⟨.inl ⟨rfl,rfl⟩,hb.mono hs.below.size,fun c hc _=>hb.block c hc,fun c hc => .inr (by cases hc;exact Nat.le_refl _)⟩
 have hG:=SimG.obj hs hst (fun _=>⟨w.heap.size,#[],0,upd_same _ _ _,hs.below.size,heap_alloc_new w _,by simp,fun j i p hj hp hi=>by
   exfalso
   have him:=List.mem_of_getElem? hj
   have h1:=htk i him
   have hlt:=(hs.objs i _ h1).1
   rw[objSt_o (by omega),h1]at hi
   simp at hi⟩) (fun i hi=>by have:=(hs.objs i _ (htk i hi)).1;omega)
 refine wp_val rfl hrun (hK _ _ ?_)
 refine Sim.eqv (Sim.put hG (lt_of_blt hd) (Below.refl _ _) (av := .h nx) ⟨.of get_cons_same,fun _ _ _=>(upd_same _ _ _).symm⟩ (Nat.lt_succ_self nx)) fun q=>?_
 cases q with
 |s i =>
  by_cases hi:i=d
  ·
   subst hi;rw[get_cons_same];exact get_cons_same.symm
  ·
   rw[get_cons_ne (by simpa using fun e=>hi e.symm),objSt_s]
   exact((get_cons_ne (by simpa using fun e=>hi e.symm)).trans ((get_cons_ne (by simp)).trans (get_cons_ne (by simp)))).symm
 |o i =>
  rw[get_cons_ne (by simp)]
  by_cases hi:i=nx
  ·
   subst hi;rw[get_cons_same];exact((get_cons_ne (by simp)).trans get_cons_same).symm
  ·
   rw[objSt_o hi]
   exact((get_cons_ne (by simp)).trans ((get_cons_ne (by simpa using fun e=>hi e.symm)).trans (get_cons_ne (by simp)))).symm
 |nx =>
  rw[get_cons_ne (by simp),objSt_nx]
  exact((get_cons_ne (by simp)).trans ((get_cons_ne (by simp)).trans get_cons_same)).symm
theorem a_inslit {t te:TypeId}{zv:Value}{x y z:Operand}{av:AV}{k:Int}{us:Value}{V:List (Int×Value)}{ids:List Nat}(id j i:Nat) (h:MapTyK cx kk t te zv)
  (hx:ev σ x=some (.h id)) (hy:ev σ y=some (.d (.v (.int kk k)))) (hz:ev σ z=some av) (hu:ValV av us) (ho:get σ (.o id) = .ob (.lit kk V ids)) (hi:get σ (.o i) = .ob (.tok id false))
  (hj:ids[j]? = some i) (hV:V[j]? = some (k,us)) (hnd:ids.Nodup) :
  OA cx σ ⟨none,.insert t x y z,ty,pos,af,gd⟩ ⟨rdOf x (.h id)++(rdOf y (.d (.v (.int kk k)))++(rdOf z av++[(.o id,.ob (.lit kk V ids)),(.o i,.ob (.tok id false))])),[(.o i,.ob (.tok id true))]⟩:=by
 refine⟨?_,(ev_out hx).2.append ((ev_out hy).2.append ((ev_out hz).2.append ⟨ho,hi,trivial⟩))⟩
 rintro σ1 a w K Q ⟨g,nx,hs⟩ hr hK
 have hk:=rep_v (hs.ev (ev_out hy).1 hr.right.left).1
 have hzv:=rep_valv hu (hs.ev (ev_out hz).1 hr.right.right.left).1
 have ho1:get σ1 (.o id) = .ob (.lit kk V ids):=hr.right.right.right.1
 have hi1:get σ1 (.o i) = .ob (.tok id false):=hr.right.right.right.2.1
 obtain⟨b,es,clock,h1,h2,h3,h4,h5,h6,h7⟩:=lit_at hs ho1 (hs.ev (ev_out hx).1 hr.left).1
 obtain⟨M,hM1,hM2⟩:=entries_list h6
 obtain⟨es',clock',hrun,hmi'⟩:=run_msetK (w:=w) h h5 hM1 k us
 obtain⟨q1,q2⟩:=list_entry hmi'
 obtain⟨r1,r2⟩:=msetI_keys (M:=M) (k:=k) (us:=us)
 have hup:∀ e∈es'.toList,∃ p∈V,e.key = .int kk p.1∧e.val=p.2:=fun e he=>by
  obtain⟨q,hq,h8,h9⟩:=q1 e he
  rcases msetI_mem hq with h|rfl
  ·
   exact⟨q,hM2 q h,h8,h9⟩
  ·
   exact⟨_,List.mem_of_getElem? hV,h8,h9⟩
 have hold:∀ n,(∃ e∈es.toList,e.key = .int kk n)→∃ e∈es'.toList,e.key = .int kk n:=by
  rintro n ⟨e,he,hek⟩
  obtain⟨q,hq,h8,_⟩:=(list_entry hM1).1 e he
  obtain⟨v,hv⟩:=r1 q hq
  obtain⟨e',he',h9⟩:=q2 _ hv
  exact⟨e',he',by rw[h9,← h8,hek]⟩
 have hnew:∃ e∈es'.toList,e.key = .int kk k:=by
  obtain⟨v,hv⟩:=r2
  obtain⟨e',he',h9⟩:=q2 _ hv
  exact⟨e',he',h9⟩
 have hoth:∀ c,c≠b→({ w with heap:=w.heap.setIfInBounds b (.map es' clock') }:World).heap[c]? = w.heap[c]? := fun c hc=>by
  show(w.heap.setIfInBounds b _)[c]? = _
  rw[Array.getElem?_setIfInBounds,if_neg (fun e=>hc e.symm)]
 have hsame:({ w with heap:=w.heap.setIfInBounds b (.map es' clock') }:World).heap[b]? = some (.map es' clock'):=by
  show(w.heap.setIfInBounds b _)[b]? = _
  rw[Array.getElem?_setIfInBounds,if_pos rfl,if_pos h4]
 have hblk:blk (g id)=some b:=by rw[h2];rfl
 have hst:ObjStep cx σ1 g nx nx w { w with heap:=w.heap.setIfInBounds b (.map es' clock') } id (.lit kk V ids) (g id) :=
  ⟨.inr ⟨rfl,_,ho1,by simp[ObLe,upd_same]⟩,⟨rfl,rfl,rfl,by simp,fun c hc=>hoth c (by omega)⟩,fun c hc hn=>hoth c fun e=>hn _ ho1 (by rw[hblk,e]),fun c hc => .inl ⟨_,ho1,hc⟩⟩
 have hG:=SimG.obj hs hst (fun _=>⟨b,es',clock',by rw[upd_same];exact h2,h3,hsame,hup,fun j' i' p u1 u2 u3=>by
   have hne:i'≠id:=fun e=>by subst e;rw[get_cons_same]at u3;cases u3
   rw[objSt_o hne]at u3
   exact hold _ (h7 j' i' p u1 u2 u3)⟩) (fun i' hi'=>(hs.objs id _ ho1).2.2 i' hi')
 have hne:i≠id:=fun e=>by subst e;rw[ho1]at hi1;cases hi1
 have hG2:=tok_set hG (i:=i) (o:=id) (b:=false) (by rw[objSt_o hne];exact hi1) fun kk' V' ids' j' p u1 u2 u3=>by
  rw[get_cons_same]at u1
  simp only[Val.ob.injEq,Ob.lit.injEq]at u1
  obtain⟨rfl,rfl,rfl⟩:=u1
  have hjj:j'=j:=(List.getElem?_inj (List.getElem?_eq_some_iff.1 u2).1 hnd).1 (u2.trans hj.symm)
  subst hjj
  rw[hV]at u3
  cases u3
  exact⟨b,es',clock',by rw[upd_same];exact h2,hsame,hnew⟩
 unfold Oper.wp
 have hex:(execOp a.eval ⟨none,.insert t x y z,ty,pos,af,gd⟩).run cx.P w = .ok .skip { w with heap:=w.heap.setIfInBounds b (.map es' clock') }:=by
  simp[execOp,h1,hk,hzv,hrun]
 rw[hex]
 refine hK _ _ (Sim.eqv ⟨_,_,hG2⟩ fun q=>?_)
 cases q with
 |s n=>exact(get_cons_ne (by simp)).trans ((objSt_s n).trans (get_cons_ne (by simp)).symm)
 |o n =>
  by_cases hn:n=i
  ·
   subst hn;rw[get_cons_same];exact get_cons_same.symm
  ·
   rw[tok_get _ (by simpa using hn)]
   have hr':get ([(Key.o i,Val.ob (.tok id true))]++σ1) (.o n)=get σ1 (.o n):=get_cons_ne (by simpa using fun e=>hn e.symm)
   rw[hr']
   by_cases hn2:n=id
   ·
    subst hn2;rw[get_cons_same];exact ho1.symm
   ·
    exact objSt_o hn2
 |nx=>exact(get_cons_ne (by simp)).trans (objSt_nx.trans (hs.hnx.symm.trans (get_cons_ne (by simp)).symm))
theorem a_looklit {t te:TypeId}{zv:Value}{x y:Operand}{k:Int}{us:Value}{V:List (Int×Value)}{ids:List Nat}(id j i:Nat) (h:MapTyK cx kk t te zv) (hfl:flat us) (hun:∀ p∈V,p.1=k→p.2=us)
  (hx:ev σ x=some (.h id)) (hy:ev σ y=some (.d (.v (.int kk k)))) (ho:get σ (.o id) = .ob (.lit kk V ids)) (hi:get σ (.o i) = .ob (.tok id true)) (hj:ids[j]? = some i) (hV:V[j]? = some (k,us)) (hd:Nat.blt d cx.n=true) :
  OA cx σ ⟨some d,.lookup t x y false,ty,pos,af,gd⟩ ⟨rdOf x (.h id)++(rdOf y (.d (.v (.int kk k)))++[(.o id,.ob (.lit kk V ids)),(.o i,.ob (.tok id true))]),[(.s d,.av (.d (dv us)))]⟩:=by
 refine⟨ok_val rfl (lt_of_blt hd) fun σ1 a w g nx hs hr=>?_,(ev_out hx).2.append ((ev_out hy).2.append ⟨ho,hi,trivial⟩)⟩
 have hk:=rep_v (hs.ev (ev_out hy).1 hr.right.left).1
 obtain⟨b,es,clock,h1,h2,h3,h4,h5,h6,h7⟩:=lit_at hs hr.right.right.1 (hs.ev (ev_out hx).1 hr.left).1
 obtain⟨M,hM1,hM2⟩:=entries_list h6
 have:=run_mlookK (w:=w) h h5 hM1 k
 have hml:mlookI zv M k=us:=by
  obtain⟨e,he,hek⟩:=h7 j i _ hj hV hr.right.right.2.1
  obtain⟨q,hq,h8,_⟩:=(list_entry hM1).1 e he
  have hqk:q.1=k:=by rw[hek]at h8;simpa using h8.symm
  unfold mlookI
  have hex:∀ {M:List (Int×Value)},(∀ q∈M,q∈V)→(∃ q∈M,q.1=k)→mgetI M k=some us:=by
   intro M
   induction M with
   |nil=>rintro _ ⟨q,hq,_⟩;cases hq
   |cons p M ih =>
    obtain⟨s,v⟩:=p
    rintro hMV ⟨q,hq,hqk⟩
    simp only[mgetI]
    by_cases hs:s=k
    ·
     rw[if_pos hs,show v=us from hun (s,v) (hMV _ (List.mem_cons_self ..)) hs]
    ·
     rw[if_neg hs]
     refine ih (fun q hq=>hMV q (List.mem_cons_of_mem _ hq)) ?_
     rcases List.mem_cons.1 hq with rfl|hq
     ·
      exact absurd hqk hs
     ·
      exact⟨q,hq,hqk⟩
  rw[hex hM2 ⟨q,hq,hqk⟩]
  rfl
 rw[hml]at this
 exact⟨_,w,by simp[execOp,hk,h1,this],Below.refl _ _,rd_dv hfl,trivial⟩
end Go.AX
namespace Go.Proofs.YtfpkamiobdkcpaaGreatDoor
open Go.AX Go.RF Go.RowKit
set_option maxRecDepth 100000
set_option maxHeartbeats 8000000
theorem ok_lsplit (s sep:Str) (hs:s.length≤1000000000) (hp:sep≠[]):FnOk Tryz.prog 94 [.d (dstr s),.d (dstr sep)] (.one (encStrs (split s sep))):=by
 refine⟨⟨_,Tryz.func94,by kernel_rfl,by kernel_rfl⟩,fun w own vs hown ha=>?_⟩
 match vs,ha with
 | [x,y],⟨h1,h2,_⟩ =>
  obtain rfl:x=str s:=rd_v h1
  obtain rfl:y=str sep:=rd_v h2
  obtain ⟨cs, hv, m, hm⟩ := hown.2.mx _ (show Tryz.prog.globalNamed "internal/bytealg.MaxLen" = some (Tryz.lays146_ren.g 1) by kernel_rfl)
  have hm':w.cell? ⟨Tryz.lays146_ren.g 1,0,none⟩=some (.int .i64 m):=by rw[World.var?_cell (by kernel_rfl) hv 0];exact hm
  have hl:1≤(⟨sep.toArray⟩:ByteArray).size:=by
   show 1≤sep.toArray.size
   have:=List.length_pos_iff.2 hp
   rw[List.size_toArray];omega
  refine(Any.strings_Split Tryz.lays146 (by kernel_rfl) ⟨s.toArray⟩ ⟨sep.toArray⟩ m w (by show s.toArray.size < _;simp;omega) hm' hl).mono fun e w' he=>?_
  obtain⟨rfl,rfl⟩:=he
  have hmap:=Lib.splitB_data ⟨sep.toArray⟩ 0 (Lib.countB ⟨s.toArray⟩ ⟨sep.toArray⟩) ⟨s.toArray⟩
  have hlen:=Lib.splitB_all ⟨sep.toArray⟩ hl 0 _ ⟨s.toArray⟩ rfl
  have hsp:(Lib.splitB ⟨sep.toArray⟩ 0 (Lib.countB ⟨s.toArray⟩ ⟨sep.toArray⟩) ⟨s.toArray⟩).map (·.data.toList)=split s sep:=by
   rw[hmap,split_lib hp];rfl
  generalize Lib.splitB ⟨sep.toArray⟩ 0 (Lib.countB ⟨s.toArray⟩ ⟨sep.toArray⟩) ⟨s.toArray⟩=L at hsp hlen
  refine⟨_,rfl,(Below.refl _ _).alloc (Nat.le_refl _) _,?_⟩
  rw[← hlen]
  refine rd_new hown.1 ?_ (fun r hr=>?_) L.length ?_
  ·
   have hfl:((split s sep).map encStr1).flatten=(split s sep).map dstr:=by
    induction split s sep with
    |nil=>rfl
    |cons x l ih=>simp[encStr1,ih]
   rw[hfl,← hsp]
   refine⟨by simp,fun c hc=>?_,fun j c x hj hc=>?_⟩
   ·
    simp at hc
    obtain⟨b,_,rfl⟩:=hc
    rfl
   ·
    simp only[List.map_map,List.getElem?_map,Option.map_eq_some_iff]at hj hc
    obtain⟨b,hb,rfl⟩:=hj
    obtain⟨b',hb',rfl⟩:=hc
    rw[hb]at hb'
    cases hb'
    exact Rd.v _
  ·
   obtain⟨q,_,rfl⟩:=List.mem_map.1 hr
   rfl
  ·
   rw[List.length_map,← hsp,List.length_map]
theorem ok_join (l:List Str) (sep:Str) (hl:l.length≤1000000) (hj:(joinS sep l).length≤1000000):FnOk Tryz.prog 126 [.d (encStrs l),.d (dstr sep)] (.one (dstr (joinS sep l))):=by
 refine⟨⟨_,Tryz.func126,by kernel_rfl,by kernel_rfl⟩,fun w own vs hown ha=>?_⟩
 match vs,ha with
 | [x,y],⟨h1,h2,_⟩ =>
  obtain rfl:y=str sep:=rd_v h2
  have h1':Rd w own x (.sl 1 (l.map encStr1)):=h1
  generalize hr:l.map encStr1=rows at h1'
  generalize hd:D.sl 1 rows=dd at h1'
  cases h1' with
  |v=>cases hd
  |x=>cases hd
  |agg=>cases hd
  |nil a cap k =>
   cases hd
   have:l=[]:=by simpa using hr
   subst this
   refine(Any.strings_Join_none Tryz.lays156 Tryz.bld156 a cap ⟨sep.toArray⟩ w).mono fun e w' he=>?_
   obtain⟨rfl,rfl⟩:=he
   exact⟨_,rfl,Below.refl _ _,Rd.v _⟩
  |sl ad cap k rows' f hb hs hcap hk hc h3 hrd =>
   cases hd
   have hrl:rows.length=l.length:=by rw[← hr,List.length_map]
   by_cases h0:l=[]
   ·
    subst h0
    rw[show rows.length=0 by rw[hrl];rfl]
    refine(Any.strings_Join_none Tryz.lays156 Tryz.bld156 (some ad) cap ⟨sep.toArray⟩ w).mono fun e w' he=>?_
    obtain⟨rfl,rfl⟩:=he
    exact⟨_,rfl,Below.refl _ _,Rd.v _⟩
   have hcell:∀ (j:Nat) (u:Str),l[j]? = some u→w.cell? (ad.add j)=some (str u):=fun j u hj=>by
    have h4:rows[j]? = some [dstr u]:=by rw[← hr,List.getElem?_map,hj];rfl
    have h5:=hc j 0 _ _ h4 rfl
    rw[Nat.mul_one,Nat.add_zero]at h5
    rw[h5,rd_v (hrd j 0 _ _ h4 rfl)]
   obtain⟨u0,hu0⟩:∃ u,l[0]? = some u:=by
    cases l with
    |nil=>exact absurd rfl h0
    |cons u l=>exact⟨u,rfl⟩
   obtain⟨bk,o,sp⟩:=ad
   have hsp:sp=none:=by
    have h6:=hcell 0 u0 hu0
    rw[add_zero]at h6
    unfold World.cell? at h6
    split at h6
    ·
     cases sp with
     |none=>rfl
     |some q=>simp at h6
    ·
     cases h6
   subst hsp
   rw[hrl]at hcap ⊢
   have hjl:Lib.join ((l.map fun u:Str=>(⟨u.toArray⟩:ByteArray)).map (·.data.toList)) (⟨sep.toArray⟩:ByteArray).data.toList=joinS sep l:=by
    have hml:(l.map fun u:Str=>(⟨u.toArray⟩:ByteArray)).map (·.data.toList)=l:=by rw[List.map_map];exact(List.map_congr_left (fun u _=>rfl)).trans (List.map_id l)
    rw[hml,← join_lib]
   have key:=Any.strings_Join Tryz.lays156 Tryz.bld156 bk o cap (l.map fun u=>⟨u.toArray⟩) ⟨sep.toArray⟩ w (fun j b hj=>by
    rw[List.getElem?_map]at hj
    cases hlj:l[j]? with
    |none=>rw[hlj]at hj;cases hj
    |some u =>
     rw[hlj]at hj
     obtain rfl:(⟨u.toArray⟩:ByteArray)=b:=by simpa using hj
     have:=hcell j u hlj
     rw[add_lit]at this
     exact this) hs (by simp;omega) (by simpa using hcap) (by rw[hjl];omega)
   rw[hjl,List.length_map]at key
   refine key.mono fun e w' he=>?_
   obtain⟨rfl,hb'⟩:=he
   exact⟨_,rfl,hb',Rd.v _⟩
theorem ok_cutp (s p:Str):FnOk Tryz.prog 166 [.d (dstr s),.d (dstr p)] (.tup [dstr (Lib.trimPrefix s p),dbool (Lib.hasPrefix s p)]):=by
 refine⟨⟨_,Tryz.func166,by kernel_rfl,by kernel_rfl⟩,fun w own vs hown ha=>?_⟩
 match vs,ha with
 | [x,y],⟨h1,h2,_⟩ =>
  obtain rfl:x=str s:=rd_v h1
  obtain rfl:y=str p:=rd_v h2
  refine(Any.strings_CutPrefix Tryz.lays103 ⟨s.toArray⟩ ⟨p.toArray⟩ w).mono fun e w' he=>?_
  obtain⟨rfl,rfl⟩:=he
  exact⟨_,rfl,Below.refl _ _,tup2 (Rd.v _) (Rd.v _)⟩
theorem ok_number (s:Str) (hs:s.length≤1073741824):FnOk Tryz.prog 167 [.d (dstr s)] (.tup [dint (atoiV s),dbool (numV s).isSome]):=by
 refine fnOk_of tbl_ok mixed_ok Tryz.func167 rfl (by kernel_rfl) rfl rfl fun w0 own0=>?_
 have c1:=ok_atoiG s hs
 unfold atoiV atoiE at c1
 unfold atoiV numV
 cases hc:Lib.atoiAll s with
 |ok v =>
  rw[hc]at c1
  have hb:=atoi_in hc
  have c2:=ok_itoaG v hb.1 hb.2
  dsimp only at c1 ⊢
  generalize Lib.itoa v=t at c2 ⊢
  by_cases hv:t=s
  ·
   rw[if_pos hv]
   repeat(first|refine wa ?_|((with_reducible apply s5);(first|((with_reducible apply a_noerr);exact rfl;exact Tryz.underlying211;exact rfl)|exact by_oa|exact by_ca);exact by_g)|refine wb ?_)
   exact .two (.tmp rfl (.one (.d (.refl _)))) (.tmp rfl (.one (.d (dle_bool (by simp[hv])))))
  ·
   rw[if_neg hv]
   repeat(first|refine wa ?_|((with_reducible apply s5);(first|((with_reducible apply a_noerr);exact rfl;exact Tryz.underlying211;exact rfl)|exact by_oa|exact by_ca);exact by_g)|refine wb ?_)
   exact .two (.tmp rfl (.one (.d (.refl _)))) (.tmp rfl (.one (.d (dle_bool (by simp[hv])))))
 |range =>
  rw[hc]at c1
  dsimp only at c1 ⊢
  generalize Lib.atoiSat s=q at c1 ⊢
  repeat(first|refine wa ?_|((with_reducible apply s5);(first|((with_reducible apply a_err);exact rfl;exact Tryz.underlying211;exact rfl)|exact by_oa|exact by_ca);exact by_g)|refine wb ?_)
  exact .two (.tmp rfl (.one (.d (.refl _)))) (.tmp rfl (.one (.d (.refl _))))
 |_ =>
  rw[hc]at c1
  dsimp only at c1 ⊢
  repeat(first|refine wa ?_|((with_reducible apply s5);(first|((with_reducible apply a_err);exact rfl;exact Tryz.underlying211;exact rfl)|exact by_oa|exact by_ca);exact by_g)|refine wb ?_)
  exact .two (.tmp rfl (.one (.d (.refl _)))) (.tmp rfl (.one (.d (.refl _))))
theorem ok_twords:FnOk Tryz.prog 127 [] (.one (encStrs words.tail)):=by
 refine fnOk_of tbl_ok mixed_ok Tryz.func127 rfl (by kernel_rfl) rfl rfl fun w0 own0=>?_
 repeat(first|((with_reducible apply s5);((with_reducible apply a_bs (words.tail.map encStr1));(iterate 9 exact rfl);(repeat(first|exact PartsE.nil|(apply PartsE.cons;exact rfl;exact rfl))));exact by_g)|refine wa1 ?_|((with_reducible apply s5);(first|exact by_oa|exact by_ca);exact by_g)|refine wb ?_)
 exact .one (.tmp rfl (.one (.d (.refl _))))
theorem fields_at {k:Nat}(h:k < 9):forms.tail[k]? = some (form (k+1)):=by
 have:∀ k:Fin 9,forms.tail[k.val]? = some (form (k.val+1)):=by decide
 exact this ⟨k,h⟩
theorem ok_fields (k:Nat) (h1:1≤k) (h9:k≤9):FnOk Tryz.prog 128 [.d (dint k)] (.one (dstr (form k))):=by
 refine fnOk_of tbl_ok mixed_ok Tryz.func128 rfl (by kernel_rfl) rfl rfl fun w0 own0=>?_
 obtain⟨j,rfl⟩:∃ j,k=j+1:=⟨k - 1,by omega⟩
 have h:=fields_at (k:=j) (by omega)
 have hx:((j+1:Nat):Int) - 1=(j:Int):=by omega
 repeat(first|((with_reducible apply s5);((with_reducible apply a_bs (forms.tail.map encStr1));(iterate 9 exact rfl);(repeat(first|exact PartsE.nil|(apply PartsE.cons;exact rfl;exact rfl))));exact by_g)|refine wa1 ?_|((with_reducible apply s5);(first|((with_reducible apply a_ia);(iterate 5 exact rfl);rw[hx];exact idx_map h)|exact by_oa|exact by_ca);exact by_g)|refine wb ?_)
 exact .one (.tmp rfl (.one (.d (.refl _))))
set_option maxHeartbeats 16000000
theorem tailS_len {sep w:Str}{l:List Str}(h:w∈l):w.length≤(tailS sep l).length:=by
 induction l with
 |nil=>cases h
 |cons x l ih =>
  simp only[tailS,List.length_append]
  rcases List.mem_cons.1 h with rfl|h
  ·
   omega
  ·
   have:=ih h;omega
theorem joinS_part {sep w:Str}{l:List Str}(h:w∈l):w.length≤(joinS sep l).length:=by
 cases l with
 |nil=>cases h
 |cons x l =>
  rw[joinS_cons]
  simp only[List.length_append]
  rcases List.mem_cons.1 h with rfl|h
  ·
   omega
  ·
   have:=tailS_len (sep:=sep) h;omega
theorem words_tail {K:Nat}(h1:1≤K) (h9:K≤9):words.tail[K - 1]? = some (words.getD K []):=by
 have:∀ k:Fin 9,words.tail[k.val]? = some (words.getD (k.val+1) []):=by decide
 have:=this ⟨K - 1,by omega⟩
 rwa [show K - 1+1=K by omega]at this
theorem take_snoc {α:Type}{l:List α}{n:Nat}{x:α}(h:l[n]? = some x):l.take n++[x]=l.take (n+1):=by
 rw[List.take_add_one,h];rfl
theorem ok_tprint (d:Deed) (hw:wrongDeed d=0) (hd:d.Sm) (hF:(printD d).length≤1000000):FnOk Tryz.prog 92 [.d (.agg d.enc)] (.one (dstr (printD d))):=by
 refine fnOk_of tbl_ok mixed_ok Tryz.func92 rfl (by kernel_rfl) rfl rfl fun w0 own0=>?_
 have hok:=wrongDeed_ok hw
 have hnn:=wrong_n hw
 have hr:=hok.r
 have hwl:=hok.w
 have hcl:=hok.c
 have cj:=fun(l:List Str) (hl:l.length≤1000000) (h:joinS [32] l∈partsD d)=>ok_join l [32] hl (Nat.le_trans (joinS_part (sep:=[59,32]) h) hF)
 have cJ:=ok_join (partsD d) [59,32] (by simp[partsD];omega) hF
 have hpl:(partsD d).length=2+d.code.length:=by simp[partsD];omega
 have hp0:(partsD d)[0]? = some (joinS [32] (wReads::d.reads)):=rfl
 have hp1:(partsD d)[1]? = some (joinS [32] (wWrites::d.writes)):=rfl
 have hp2:∀ z i,d.code[z]? = some i→(partsD d)[2+z]? = some (joinS [32] (insW i)):=fun z i h=>by
  rw[Nat.add_comm]
  simp[partsD,h]
 have cw:=ok_twords
 rw[show printD d=joinS [59,32] (partsD d) from rfl]
 rw[show printD d=joinS [59,32] (partsD d) from rfl]at hF
 generalize hPD:partsD d=PD at *
 have hst0:StopA 2:=⟨rfl⟩
 repeat(first|((with_reducible apply s5);((with_reducible apply a_bs ([d.reads,d.writes].map fun l=>[encStrs l]));(iterate 9 exact rfl);(repeat(first|exact PartsE.nil|(apply PartsE.cons;exact rfl;exact rfl))));exact by_g)|refine wa1S ?_|((with_reducible apply s5);(first|exact by_oa|exact by_ca);exact by_g)|refine wb ?_)
 clear hst0
 refine Stop.go (CW.stut (stut_promote (i:=3) 9 1) ⟨rfl,rfl,trivial⟩ ?_)
 repeat(first|((with_reducible apply s5);((with_reducible apply a_bs ([d.reads,d.writes].map fun l=>[encStrs l]));(iterate 9 exact rfl);(repeat(first|exact PartsE.nil|(apply PartsE.cons;exact rfl;exact rfl))));exact by_g)|refine wa1 ?_|((with_reducible apply s5);(first|exact by_oa|exact by_ca);exact by_g)|refine wb ?_)
 refine CW.loopT (fun t:Nat=>[sp 1 0,ob 0 d.enc,so 3 1 (PD.take t).length,oa 1 9 1 ((PD.take t).map encStr1),sd 15 (.sl 1 ([d.reads,d.writes].map fun l=>[encStrs l])),sd 16 (dint 2),sd 17 (dint t),nxt 2])
  (fun t=>t≤2) (fun t=>2 - t) 0 (by omega) ?_ ?_
 ·
  exact by_less
 ·
  intro t ht
  have hn0:([wReads,wWrites]:List Str)[0]? = some wReads:=rfl
  have hn1:([wReads,wWrites]:List Str)[1]? = some wWrites:=rfl
  have hd0:([d.reads,d.writes]:List (List Str))[0]? = some d.reads:=rfl
  have hd1:([d.reads,d.writes]:List (List Str))[1]? = some d.writes:=rfl
  match t,ht with
  |0,_ =>
   have c1:=cj (wReads::d.reads) (by simp;omega) (List.mem_of_getElem? hp0)
   have hts:=take_snoc hp0
   generalize joinS [32] (wReads::d.reads)=J at c1 hts
   repeat(first|((with_reducible apply s5);((with_reducible apply a_bs (([wReads,wWrites]:List Str).map encStr1));(iterate 9 exact rfl);(repeat(first|exact PartsE.nil|(apply PartsE.cons;exact rfl;exact rfl))));exact by_g)|((with_reducible apply s5);(with_reducible apply(a_bsO [encStr1 wReads]));(iterate 10 exact rfl);(repeat(first|exact PartsE.nil|(apply PartsE.cons;exact rfl;exact rfl)));exact by_g)|refine wa1 ?_|((with_reducible apply s5);(first|((with_reducible apply a_ia);(iterate 5 exact rfl);exact idx_map (k:=0) hd0)|((with_reducible apply a_ia);(iterate 5 exact rfl);exact idx_map (k:=0) hn0)|(focus ((with_reducible apply a_lend);exact c1;exact rfl;exact .plain rfl;(focus first|exact rfl|(simp;done)|(simp;omega));(iterate 2 exact rfl);exact by_sub))|exact by_oa|exact by_ca);exact by_g)|refine wb ?_)
   refine q_loopT 1 (by omega) (by omega) ?_
   rw[← hts]
   exact by_less
  |1,_ =>
   have c1:=cj (wWrites::d.writes) (by simp;omega) (List.mem_of_getElem? hp1)
   have hts:=take_snoc hp1
   have htl:(PD.take 1).length=1:=by rw[List.length_take];omega
   generalize joinS [32] (wWrites::d.writes)=J at c1 hts
   generalize PD.take 1=P1 at *
   repeat(first|((with_reducible apply s5);((with_reducible apply a_bs (([wReads,wWrites]:List Str).map encStr1));(iterate 9 exact rfl);(repeat(first|exact PartsE.nil|(apply PartsE.cons;exact rfl;exact rfl))));exact by_g)|((with_reducible apply s5);(with_reducible apply(a_bsO [encStr1 wWrites]));(iterate 10 exact rfl);(repeat(first|exact PartsE.nil|(apply PartsE.cons;exact rfl;exact rfl)));exact by_g)|refine wa1 ?_|((with_reducible apply s5);(first|((with_reducible apply a_ia);(iterate 5 exact rfl);exact idx_map (k:=1) hd1)|((with_reducible apply a_ia);(iterate 5 exact rfl);exact idx_map (k:=1) hn1)|(focus ((with_reducible apply a_lend);exact c1;exact rfl;exact .plain rfl;(focus first|exact rfl|(simp;done)|(simp;omega));(iterate 2 exact rfl);exact by_sub))|exact by_oa|exact by_ca);exact by_g)|refine wb ?_)
   refine q_loopT 2 (by omega) (by omega) ?_
   rw[← hts]
   exact by_less
  |2,_ =>
   try refine wk ?_
   refine CW.loopT (fun z:Nat=>[sp 1 0,ob 0 d.enc,so 3 1 (PD.take (2+z)).length,oa 1 9 1 ((PD.take (2+z)).map encStr1),sd 35 (encCode d.code),sd 36 (dint d.code.length),sd 37 (dint z),nxt 2])
    (fun z=>z≤d.code.length) (fun z=>d.code.length - z) 0 (by omega) ?_ ?_
   ·
    exact by_less
   ·
    intro z hz
    have htl:(PD.take (2+z)).length=2+z:=by rw[List.length_take];omega
    rcases drop_case hz with ⟨h1,h2⟩|⟨i,h1,h2,h3⟩
    ·
     rw[show PD.take (2+z)=PD by rw[List.take_of_length_le (by omega)]]
     repeat(first|refine wa ?_|((with_reducible apply s5);(first|(focus ((with_reducible apply a_lend);exact cJ;exact rfl;exact .plain rfl;(focus first|exact rfl|(simp;done)|(simp;omega));(iterate 2 exact rfl);exact by_sub))|exact by_oa|exact by_ca);exact by_g)|refine wb ?_)
     exact .one (.tmp rfl (.one (.d (.refl _))))
    ·
     have him:=List.mem_of_getElem? h2
     have hi:=hok.i i him
     have hin:=hnn i him
     have hik:=hi.k
     have hia:=hi.a
     have hib:=hi.b
     have ca:=ok_itoaG i.a (by omega) (by omega)
     have cb:=ok_itoaG i.b (by omega) (by omega)
     have cn:=ok_itoaG i.n (by omega) (by omega)
     have la:=itoa_len i.a (by omega) (by omega)
     have lb:=itoa_len i.b (by omega) (by omega)
     have hp:=hp2 z i h2
     have hts:=take_snoc hp
     have cJ1:=cj (insW i) (by simp[insW];have:=form_len i.kind.toNat;omega) (List.mem_of_getElem? hp)
     generalize joinS [32] (insW i)=J at cJ1 hts hp
     have hk0:0≤i.kind:=by omega
     obtain⟨K,hK⟩:=Int.eq_ofNat_of_zero_le hk0
     unfold insW at cJ1
     have cf:=ok_fields K (by omega) (by omega)
     have hwk:=words_tail (K:=K) (by omega) (by omega)
     have hfl:=form_len K
     have hlet:∀ c∈form K,c=114∨c=115∨c=110∨c=107:=fun c hc=>form_let hc
     rw[hK,Int.toNat_natCast]at cJ1
     generalize words.getD K []=wd at hwk cJ1
     generalize form K=f at *
     obtain⟨ik,ia,ib,inn,ikey⟩:=i
     dsimp only at hK ca cb cn la lb hik
     subst hK
     have hix:idx (words.tail.map encStr1) ((K:Int) - 1)=some (encStr1 wd):=by
      have:=idx_map (f:=encStr1) hwk
      rwa [show((K - 1:Nat):Int)=(K:Int) - 1 by omega]at this
     generalize hPe:PD.take (2+z)=P at *
     repeat(first|((with_reducible apply s5);(with_reducible apply(a_bsO [encStr1 wd]));(iterate 10 exact rfl);(repeat(first|exact PartsE.nil|(apply PartsE.cons;exact rfl;exact rfl)));exact by_g)|refine wa1 ?_|((with_reducible apply s5);(first|((with_reducible apply a_ia);(iterate 5 exact rfl);exact hix)|((with_reducible apply a_range);exact rfl;exact rfl;exact Tryz.underlying9;exact rfl)|exact by_oa|exact by_ca);exact by_g)|refine wb ?_)
     refine CW.loopT (fun j:Nat=>[sp 1 0,ob 0 d.enc,so 3 1 P.length,oa 1 9 1 (P.map encStr1),sd 35 (encCode d.code),sd 36 (dint d.code.length),sd 37 (dint z),sp 7 2,ob 2 (Ins.enc ⟨K,ia,ib,inn,ikey⟩),so 8 3 (wd::(f.take j).map (fieldW ⟨K,ia,ib,inn,ikey⟩)).length,oa 3 9 1 ((wd::(f.take j).map (fieldW ⟨K,ia,ib,inn,ikey⟩)).map encStr1),(.s 51,.av (.h 4)),(.o 4,.ob (.gen (ItP f j))),nxt 5])
      (fun j=>j≤f.length) (fun j=>f.length - j) 0 (by omega) ?_ ?_
     ·
      exact by_less
     ·
      intro j hj
      have hjl:(wd::(f.take j).map (fieldW ⟨K,ia,ib,inn,ikey⟩)).length=j+1:=by simp;omega
      rcases drop_case hj with ⟨b1,b2⟩|⟨c,b1,b2,b3⟩
      ·
       rw[b2,List.take_length]at *
       generalize wd::f.map (fieldW ⟨K,ia,ib,inn,ikey⟩)=L at *
       repeat(first|refine wa ?_|((with_reducible apply s5);(first|(focus ((with_reducible apply a_lend);exact cJ1;exact rfl;exact .plain rfl;(focus first|exact rfl|(simp;done)|(simp;omega));(iterate 2 exact rfl);exact by_sub))|((with_reducible apply(a_nextE (k:=f.length) 4));exact rfl;exact rfl;exact Nat.le_refl _;exact rfl)|exact by_oa|exact by_ca);exact by_g)|refine wb ?_)
       refine q_loopT (z+1) (by omega) (by omega) ?_
       rw[show 2+(z+1)=2+z+1 by omega,← hts]
       exact by_less
      ·
       have hc:=hlet c (List.mem_of_getElem? b2)
       have hc1:c.toNat < 128:=by rcases hc with rfl|rfl|rfl|rfl <;> decide
       have hsn:(wd::(f.take j).map (fieldW ⟨K,ia,ib,inn,ikey⟩))++[fieldW ⟨K,ia,ib,inn,ikey⟩ c]=wd::(f.take (j+1)).map (fieldW ⟨K,ia,ib,inn,ikey⟩):=by
        rw[← take_snoc b2];simp
       have hql:∀ x:Str,x=fieldW ⟨K,ia,ib,inn,ikey⟩ c→((wd::(f.take j).map (fieldW ⟨K,ia,ib,inn,ikey⟩))++[x])=wd::(f.take (j+1)).map (fieldW ⟨K,ia,ib,inn,ikey⟩):=fun x hx=>by rw[hx];exact hsn
       rcases hc with rfl|rfl|rfl|rfl
       ·
        have hq:=hql (114::Lib.itoa ia) rfl
        generalize wd::(f.take j).map (fieldW ⟨K,ia,ib,inn,ikey⟩)=L at *
        repeat(first|refine wa ?_|((with_reducible apply s5);(first|exact a_call ca rfl by_sub|((with_reducible apply a_bin);exact rfl;exact rfl;exact bin_sadd (by simp;omega);exact rfl)|((with_reducible apply(a_next (k:=j) 4));exact rfl;exact rfl;exact b2;exact hc1;exact rfl)|exact by_oa|exact by_ca);exact by_g)|refine wb ?_)
        refine q_loopT (j+1) (by omega) (by omega) ?_
        rw[← hq]
        exact by_less
       ·
        have hq:=hql (114::Lib.itoa ib) rfl
        generalize wd::(f.take j).map (fieldW ⟨K,ia,ib,inn,ikey⟩)=L at *
        repeat(first|refine wa ?_|((with_reducible apply s5);(first|exact a_call cb rfl by_sub|((with_reducible apply a_bin);exact rfl;exact rfl;exact bin_sadd (by simp;omega);exact rfl)|((with_reducible apply(a_next (k:=j) 4));exact rfl;exact rfl;exact b2;exact hc1;exact rfl)|exact by_oa|exact by_ca);exact by_g)|refine wb ?_)
        refine q_loopT (j+1) (by omega) (by omega) ?_
        rw[← hq]
        exact by_less
       ·
        have hq:=hql (Lib.itoa inn) rfl
        generalize wd::(f.take j).map (fieldW ⟨K,ia,ib,inn,ikey⟩)=L at *
        repeat(first|refine wa ?_|((with_reducible apply s5);(first|exact a_call cn rfl by_sub|((with_reducible apply(a_next (k:=j) 4));exact rfl;exact rfl;exact b2;exact hc1;exact rfl)|exact by_oa|exact by_ca);exact by_g)|refine wb ?_)
        refine q_loopT (j+1) (by omega) (by omega) ?_
        rw[← hq]
        exact by_less
       ·
        have hq:=hql ikey rfl
        generalize wd::(f.take j).map (fieldW ⟨K,ia,ib,inn,ikey⟩)=L at *
        repeat(first|refine wa ?_|((with_reducible apply s5);(first|((with_reducible apply(a_next (k:=j) 4));exact rfl;exact rfl;exact b2;exact hc1;exact rfl)|exact by_oa|exact by_ca);exact by_g)|refine wb ?_)
        refine q_loopT (j+1) (by omega) (by omega) ?_
        rw[← hq]
        exact by_less
set_option maxHeartbeats 8000000
theorem mapR {n:Nat}{w0:World}{own0:Nat→Prop}:MapTyK ⟨Tryz.prog,tbl,tbl_ok,mixed_ok,n,w0,own0,0,[]⟩ .i32 176 9 (.string ⟨#[]⟩) :=
 ⟨⟨21,Tryz.underlying176,Tryz.underlying21⟩,fun w=>by exact Tryz.zeroValue9 w⟩
def fieldM (i:Ins):List (Int×Value):=[(114,str (114::Lib.itoa i.a)),(115,str (114::Lib.itoa i.b)),(110,str (Lib.itoa i.n)),(107,str i.key)]
theorem fieldM_at {i:Ins}{c:UInt8}(h:c=114∨c=115∨c=110∨c=107):(∀ p∈fieldM i,p.1=(c.toNat:Int)→p.2=str (fieldW i c)) ∧
  ((fieldM i)[0]? = some ((c.toNat:Int),str (fieldW i c))∨(fieldM i)[1]? = some ((c.toNat:Int),str (fieldW i c))∨(fieldM i)[2]? = some ((c.toNat:Int),str (fieldW i c))∨(fieldM i)[3]? = some ((c.toNat:Int),str (fieldW i c))):=by
 refine⟨fun p hp hk=>?_,?_⟩
 ·
  simp only[fieldM,List.mem_cons,List.not_mem_nil,or_false]at hp
  rcases h with rfl|rfl|rfl|rfl <;> rcases hp with rfl|rfl|rfl|rfl <;> first|rfl|(exact absurd hk (by dsimp only;decide))
 ·
  rcases h with rfl|rfl|rfl|rfl
  ·
   exact .inl rfl
  ·
   exact .inr (.inl rfl)
  ·
   exact .inr (.inr (.inl rfl))
  ·
   exact .inr (.inr (.inr rfl))
theorem words_at {K:Nat}(h:K < 10):words[K]? = some (words.getD K []):=by
 have hl:K < words.length:=h
 rw[List.getD_eq_getElem?_getD,List.getElem?_eq_getElem hl]
 rfl
theorem ok_rprint (d:Deed) (hw:wrongDeed d=0) (hd:d.Sm) (hF:(printD d).length≤1000000):FnOk Tryz.prog 93 [.d (.agg d.enc)] (.one (dstr (printD d))):=by
 refine fnOk_of tbl_ok mixed_ok Tryz.func93 rfl (by kernel_rfl) rfl rfl fun w0 own0=>?_
 have hFe:=printD_eq d
 have hok:=wrongDeed_ok hw
 have hnn:=wrong_n hw
 have hr:=hok.r
 have hwl:=hok.w
 have hcl:=hok.c
 generalize printD d=F at hF hFe ⊢
 have hm:=mapR (n:=Tryz.f93.ntmps) (w0:=w0) (own0:=own0)
 have cw:=ok_words
 try refine wk ?_
 refine CW.loopT (fun t:Nat×Str=>[sp 1 0,ob 0 d.enc,sd 3 (dstr t.2),sd 13 (encStrs d.reads),sd 14 (dint d.reads.length),sd 15 (dint t.1),nxt 1])
  (fun t=>t.1≤d.reads.length∧t.2++(tailS [32] (d.reads.drop t.1)++([59,32]++((wWrites++tailS [32] d.writes)++tailS [59,32] (d.code.map fun i=>joinS [32] (insW i)))))=F) (fun t=>d.reads.length - t.1) (0,wReads) ⟨by dsimp only;omega,by rw[hFe];simp⟩ ?_ ?_
 ·
  exact by_less
 ·
  rintro ⟨x,s⟩ ⟨hx,hI⟩
  dsimp only at hx hI ⊢
  have hlen:=congrArg List.length hI
  rcases drop_case hx with ⟨h1,h2⟩|⟨k,h1,h2,h3⟩
  ·
   rw[h1]at hI
   simp only[tailS,List.nil_append]at hI
   simp only[List.length_append]at hlen
   have hWl:([59,32,119,114,105,116,101,115]:Str)=[59,32]++wWrites:=rfl
   repeat(first|refine wa ?_|((with_reducible apply s5);(first|((with_reducible apply a_bin);exact rfl;exact rfl;exact bin_sadd (by simp;omega);exact rfl)|exact by_oa|exact by_ca);exact by_g)|refine wb ?_)
   refine CW.loopT (fun t:Nat×Str=>[sp 1 0,ob 0 d.enc,sd 3 (dstr t.2),sd 27 (encStrs d.writes),sd 28 (dint d.writes.length),sd 29 (dint t.1),nxt 1])
    (fun t=>t.1≤d.writes.length∧t.2++(tailS [32] (d.writes.drop t.1)++tailS [59,32] (d.code.map fun i=>joinS [32] (insW i)))=F) (fun t=>d.writes.length - t.1) (0,s++[59,32,119,114,105,116,101,115]) ⟨by dsimp only;omega,by rw[hWl,← hI];simp⟩ ?_ ?_
   ·
    exact by_less
   ·
    rintro ⟨y,s⟩ ⟨hy,hI⟩
    dsimp only at hy hI ⊢
    have hlen:=congrArg List.length hI
    rcases drop_case hy with ⟨h1,h2⟩|⟨k,h1,h2,h3⟩
    ·
     rw[h1]at hI
     simp only[tailS,List.nil_append]at hI
     try refine wk ?_
     refine CW.loopT (fun t:Nat×Str=>[sp 1 0,ob 0 d.enc,sd 3 (dstr t.2),sd 39 (encCode d.code),sd 40 (dint d.code.length),sd 41 (dint t.1),nxt 1])
      (fun t=>t.1≤d.code.length∧t.2++tailS [59,32] ((d.code.drop t.1).map fun i=>joinS [32] (insW i))=F) (fun t=>d.code.length - t.1) (0,s) ⟨by dsimp only;omega,hI⟩ ?_ ?_
     ·
      exact by_less
     ·
      rintro ⟨z,s⟩ ⟨hz,hI⟩
      dsimp only at hz hI ⊢
      rcases drop_case hz with ⟨h1,h2⟩|⟨i,h1,h2,h3⟩
      ·
       rw[h1]at hI
       simp only[List.map_nil,tailS,List.append_nil]at hI
       subst hI
       try refine wk ?_
       exact .one (.tmp rfl (.one (.d (.refl _))))
      ·
       have him:=List.mem_of_getElem? h2
       have hi:=hok.i i him
       have hin:=hnn i him
       have hik:=hi.k
       have hia:=hi.a
       have hib:=hi.b
       rw[h1]at hI
       simp only[List.map_cons,tailS]at hI
       rw[insW_eq]at hI
       generalize hT:tailS [59,32] ((d.code.drop (z+1)).map fun i=>joinS [32] (insW i))=T at hI
       have ca:=ok_itoaG i.a (by omega) (by omega)
       have cb:=ok_itoaG i.b (by omega) (by omega)
       have cn:=ok_itoaG i.n (by omega) (by omega)
       have la:=itoa_len i.a (by omega) (by omega)
       have lb:=itoa_len i.b (by omega) (by omega)
       have hfA:=fun(c:UInt8) (h:c=114∨c=115∨c=110∨c=107)=>fieldM_at (i:=i) h
       have hk0:0≤i.kind:=by omega
       obtain⟨K,hK⟩:=Int.eq_ofNat_of_zero_le hk0
       have cf:=ok_form K (by omega)
       have hwk:=words_at (K:=K) (by omega)
       rw[hK,Int.toNat_natCast]at hI
       have hlet:∀ c∈form K,c=114∨c=115∨c=110∨c=107:=fun c hc=>form_let hc
       generalize words.getD K []=wd at hI hwk
       generalize form K=f at hI cf hlet
       have hlen:=congrArg List.length hI
       simp only[List.length_append,List.length_cons,List.length_nil]at hlen
       obtain⟨ik,ia,ib,inn,ikey⟩:=i
       dsimp only at hK ca cb cn la lb
       subst hK
       repeat(first|refine wa ?_|((with_reducible apply s5);(first|((with_reducible apply a_bin);exact rfl;exact rfl;exact bin_sadd (by simp;omega);exact rfl)|((with_reducible apply a_range);exact rfl;exact rfl;exact Tryz.underlying9;exact rfl)|exact by_oa|exact by_ca);exact by_g)|refine wb ?_)
       refine CW.loopT (fun t:Nat×Str=>[sp 1 0,ob 0 d.enc,sd 3 (dstr t.2),sd 39 (encCode d.code),sd 40 (dint d.code.length),sd 41 (dint z),sp 9 1,ob 1 (Ins.enc ⟨K,ia,ib,inn,ikey⟩),(.s 56,.av (.h 2)),(.o 2,.ob (.gen (ItP f t.1))),nxt 3])
        (fun t=>t.1≤f.length∧t.2++(tailS [32] ((f.drop t.1).map (fieldW ⟨K,ia,ib,inn,ikey⟩))++T)=F) (fun t=>f.length - t.1) (0,(s++[59,32])++wd) ⟨by dsimp only;omega,by rw[← hI];simp⟩ ?_ ?_
       ·
        exact by_less
       ·
        rintro ⟨j,s⟩ ⟨hj,hI⟩
        dsimp only at hj hI ⊢
        rcases drop_case hj with ⟨b1,b2⟩|⟨c,b1,b2,b3⟩
        ·
         rw[b1]at hI
         simp only[List.map_nil,tailS,List.nil_append]at hI
         repeat(first|refine wa ?_|((with_reducible apply s5);(first|((with_reducible apply(a_nextE (k:=j) 2));exact rfl;exact rfl;exact Nat.le_of_eq b2.symm;exact rfl)|exact by_oa|exact by_ca);exact by_g)|refine wb ?_)
         refine q_loopT (z+1,s) ⟨by dsimp only;omega,by dsimp only;rw[hT];exact hI⟩ (by dsimp only;omega) ?_
         exact by_less
        ·
         have hc:=hlet c (List.mem_of_getElem? b2)
         have hc1:c.toNat < 128:=by rcases hc with rfl|rfl|rfl|rfl <;> decide
         rw[b1]at hI
         simp only[List.map_cons,tailS]at hI
         have hlen:=congrArg List.length hI
         simp only[List.length_append,List.length_cons,List.length_nil]at hlen
         obtain⟨hun,hat⟩:=hfA c hc
         generalize fieldW ⟨K,ia,ib,inn,ikey⟩ c=fw at hI hlen hun hat
         have hst0:StopX 20:=⟨rfl⟩
         repeat(first|refine waS ?_|((with_reducible apply s5);(first|((with_reducible apply a_bin);exact rfl;exact rfl;exact bin_sadd (by simp;omega);exact rfl)|((with_reducible apply(a_next (k:=j) 2));exact rfl;exact rfl;exact b2;exact hc1;exact rfl)|exact by_oa|exact by_ca);exact by_g)|refine wb ?_)
         clear hst0
         refine Stop.go (CW.stut (stut_tok 7) ⟨rfl,trivial⟩ ?_)
         refine CW.stut (stut_tok 7) ⟨rfl,trivial⟩ ?_
         refine CW.stut (stut_tok 7) ⟨rfl,trivial⟩ ?_
         refine CW.stut (stut_tok 7) ⟨rfl,trivial⟩ ?_
         rcases hat with hat|hat|hat|hat
         ·
          repeat(first|refine wa ?_|((with_reducible apply s5);(first|exact a_call ca rfl by_sub|exact a_call cb rfl by_sub|exact a_call cn rfl by_sub|((with_reducible apply a_bin);exact rfl;exact rfl;exact bin_sadd (by simp;omega);exact rfl)|((with_reducible apply(a_mklit .i32 (fieldM ⟨K,ia,ib,inn,ikey⟩) [3,4,5,6]));exact rfl;exact rfl;(intro q hq;simp only[List.mem_cons,List.not_mem_nil,or_false]at hq;rcases hq with rfl|rfl|rfl|rfl <;> rfl))|((with_reducible apply(a_inslit 7 0 3 hm));(iterate 3 exact rfl);exact .v;(iterate 4 exact rfl);decide)|((with_reducible apply(a_inslit 7 1 4 hm));(iterate 3 exact rfl);exact .v;(iterate 4 exact rfl);decide)|((with_reducible apply(a_inslit 7 2 5 hm));(iterate 3 exact rfl);exact .v;(iterate 4 exact rfl);decide)|((with_reducible apply(a_inslit 7 3 6 hm));(iterate 3 exact rfl);exact .v;(iterate 4 exact rfl);decide)|((with_reducible apply(a_looklit (us:=str fw) 7 0 3 hm));exact trivial;exact hun;(iterate 5 exact rfl);exact hat;exact rfl)|exact by_oa|exact by_ca);exact by_g)|refine wb ?_)
          refine q_loopT (j+1,(s++[32])++fw) ⟨by dsimp only;omega,by dsimp only;rw[← hI];simp⟩ (by dsimp only;omega) ?_
          exact by_less
         ·
          repeat(first|refine wa ?_|((with_reducible apply s5);(first|exact a_call ca rfl by_sub|exact a_call cb rfl by_sub|exact a_call cn rfl by_sub|((with_reducible apply a_bin);exact rfl;exact rfl;exact bin_sadd (by simp;omega);exact rfl)|((with_reducible apply(a_mklit .i32 (fieldM ⟨K,ia,ib,inn,ikey⟩) [3,4,5,6]));exact rfl;exact rfl;(intro q hq;simp only[List.mem_cons,List.not_mem_nil,or_false]at hq;rcases hq with rfl|rfl|rfl|rfl <;> rfl))|((with_reducible apply(a_inslit 7 0 3 hm));(iterate 3 exact rfl);exact .v;(iterate 4 exact rfl);decide)|((with_reducible apply(a_inslit 7 1 4 hm));(iterate 3 exact rfl);exact .v;(iterate 4 exact rfl);decide)|((with_reducible apply(a_inslit 7 2 5 hm));(iterate 3 exact rfl);exact .v;(iterate 4 exact rfl);decide)|((with_reducible apply(a_inslit 7 3 6 hm));(iterate 3 exact rfl);exact .v;(iterate 4 exact rfl);decide)|((with_reducible apply(a_looklit (us:=str fw) 7 1 4 hm));exact trivial;exact hun;(iterate 5 exact rfl);exact hat;exact rfl)|exact by_oa|exact by_ca);exact by_g)|refine wb ?_)
          refine q_loopT (j+1,(s++[32])++fw) ⟨by dsimp only;omega,by dsimp only;rw[← hI];simp⟩ (by dsimp only;omega) ?_
          exact by_less
         ·
          repeat(first|refine wa ?_|((with_reducible apply s5);(first|exact a_call ca rfl by_sub|exact a_call cb rfl by_sub|exact a_call cn rfl by_sub|((with_reducible apply a_bin);exact rfl;exact rfl;exact bin_sadd (by simp;omega);exact rfl)|((with_reducible apply(a_mklit .i32 (fieldM ⟨K,ia,ib,inn,ikey⟩) [3,4,5,6]));exact rfl;exact rfl;(intro q hq;simp only[List.mem_cons,List.not_mem_nil,or_false]at hq;rcases hq with rfl|rfl|rfl|rfl <;> rfl))|((with_reducible apply(a_inslit 7 0 3 hm));(iterate 3 exact rfl);exact .v;(iterate 4 exact rfl);decide)|((with_reducible apply(a_inslit 7 1 4 hm));(iterate 3 exact rfl);exact .v;(iterate 4 exact rfl);decide)|((with_reducible apply(a_inslit 7 2 5 hm));(iterate 3 exact rfl);exact .v;(iterate 4 exact rfl);decide)|((with_reducible apply(a_inslit 7 3 6 hm));(iterate 3 exact rfl);exact .v;(iterate 4 exact rfl);decide)|((with_reducible apply(a_looklit (us:=str fw) 7 2 5 hm));exact trivial;exact hun;(iterate 5 exact rfl);exact hat;exact rfl)|exact by_oa|exact by_ca);exact by_g)|refine wb ?_)
          refine q_loopT (j+1,(s++[32])++fw) ⟨by dsimp only;omega,by dsimp only;rw[← hI];simp⟩ (by dsimp only;omega) ?_
          exact by_less
         ·
          repeat(first|refine wa ?_|((with_reducible apply s5);(first|exact a_call ca rfl by_sub|exact a_call cb rfl by_sub|exact a_call cn rfl by_sub|((with_reducible apply a_bin);exact rfl;exact rfl;exact bin_sadd (by simp;omega);exact rfl)|((with_reducible apply(a_mklit .i32 (fieldM ⟨K,ia,ib,inn,ikey⟩) [3,4,5,6]));exact rfl;exact rfl;(intro q hq;simp only[List.mem_cons,List.not_mem_nil,or_false]at hq;rcases hq with rfl|rfl|rfl|rfl <;> rfl))|((with_reducible apply(a_inslit 7 0 3 hm));(iterate 3 exact rfl);exact .v;(iterate 4 exact rfl);decide)|((with_reducible apply(a_inslit 7 1 4 hm));(iterate 3 exact rfl);exact .v;(iterate 4 exact rfl);decide)|((with_reducible apply(a_inslit 7 2 5 hm));(iterate 3 exact rfl);exact .v;(iterate 4 exact rfl);decide)|((with_reducible apply(a_inslit 7 3 6 hm));(iterate 3 exact rfl);exact .v;(iterate 4 exact rfl);decide)|((with_reducible apply(a_looklit (us:=str fw) 7 3 6 hm));exact trivial;exact hun;(iterate 5 exact rfl);exact hat;exact rfl)|exact by_oa|exact by_ca);exact by_g)|refine wb ?_)
          refine q_loopT (j+1,(s++[32])++fw) ⟨by dsimp only;omega,by dsimp only;rw[← hI];simp⟩ (by dsimp only;omega) ?_
          exact by_less
    ·
     rw[h1]at hI
     simp only[tailS]at hI
     simp only[List.length_append]at hlen
     have hlen:=congrArg List.length hI
     simp only[List.length_append,List.length_cons,List.length_nil]at hlen
     repeat(first|refine wa ?_|((with_reducible apply s5);(first|((with_reducible apply a_bin);exact rfl;exact rfl;exact bin_sadd (by simp;omega);exact rfl)|exact by_oa|exact by_ca);exact by_g)|refine wb ?_)
     refine q_loopT (y+1,(s++[32])++k) ⟨by dsimp only;omega,by dsimp only;rw[← hI];simp⟩ (by dsimp only;omega) ?_
     exact by_less
  ·
   rw[h1]at hI
   simp only[tailS]at hI
   have hlen:=congrArg List.length hI
   simp only[List.length_append,List.length_cons,List.length_nil]at hlen
   repeat(first|refine wa ?_|((with_reducible apply s5);(first|((with_reducible apply a_bin);exact rfl;exact rfl;exact bin_sadd (by simp;omega);exact rfl)|exact by_oa|exact by_ca);exact by_g)|refine wb ?_)
   refine q_loopT (x+1,(s++[32])++k) ⟨by dsimp only;omega,by dsimp only;rw[← hI];simp⟩ (by dsimp only;omega) ?_
   exact by_less
end Go.Proofs.YtfpkamiobdkcpaaGreatDoor
namespace Go.Proofs.YtfpkamiobdkcpaaGreatDoor
open Go.AX Go.RF
set_option maxRecDepth 100000
set_option maxHeartbeats 8000000
theorem ok_lsum (b:Str) (hl:b.length≤1000000000):FnOk Tryz.prog 41 [.d (encBytes b)] (.one (dint (sumN 1 b))):=by
 refine fnOk_of tbl_ok mixed_ok Tryz.func41 rfl (by kernel_rfl) rfl rfl fun w0 own0=>?_
 try refine wk ?_
 refine CW.loopT (fun t:Nat×Nat=>[sd 3 (dint t.2),sd 6 (encBytes b),sd 7 (dint b.length),sd 8 (dint t.1),nxt 0])
  (fun t=>t.1≤b.length∧t.2 < 65521∧sumN t.2 (b.drop t.1)=sumN 1 b) (fun t=>b.length - t.1) (0,1) ⟨by dsimp only;omega,by dsimp only;omega,rfl⟩ ?_ ?_
 ·
  exact by_less
 ·
  rintro ⟨i,s⟩ ⟨hi,hs,hI⟩
  dsimp only at hi hs hI ⊢
  rcases drop_case hi with ⟨h1,h2⟩|⟨c,h1,h2,h3⟩
  ·
   rw[h1,sumN]at hI
   subst hI
   try refine wk ?_
   exact .one (.tmp rfl (.one (.d (.refl _))))
  ·
   rw[h1,sumN]at hI
   have hc:=c.toNat_lt
   have hb:=tmod_sum (s:=s) (c:=c.toNat)
   have hs2:(s*257+c.toNat+1)%65521 < 65521:=Nat.mod_lt _ (by omega)
   generalize (s*257+c.toNat+1)%65521=s2 at *
   repeat(first|refine wa ?_|((with_reducible apply s5);(first|((with_reducible apply a_bin);exact rfl;exact rfl;(with_reducible apply bin_mul);omega;exact rfl)|((with_reducible apply a_bin);exact rfl;exact rfl;(with_reducible apply bin_remI);(exact by decide);exact hb;exact rfl)|exact by_oa|exact by_ca);exact by_g)|refine wb ?_)
   refine q_loopT (i+1,s2) ⟨by dsimp only;omega,hs2,hI⟩ (by dsimp only;omega) ?_
   exact by_less
theorem ok_rsum (b:Str) (hl:b.length≤1000000000):FnOk Tryz.prog 42 [.d (encBytes b)] (.one (dint (sumN 1 b))):=by
 refine fnOk_of tbl_ok mixed_ok Tryz.func42 rfl (by kernel_rfl) rfl rfl fun w0 own0=>?_
 try refine wk ?_
 refine CW.loopT (fun t:Nat×Nat=>[sd 3 (dint t.2),sd 6 (encBytes b),sd 7 (dint b.length),sd 8 (dint t.1),nxt 0])
  (fun t=>t.1≤b.length∧t.2 < 65521∧sumN t.2 (b.drop t.1)=sumN 1 b) (fun t=>b.length - t.1) (0,1) ⟨by dsimp only;omega,by dsimp only;omega,rfl⟩ ?_ ?_
 ·
  exact by_less
 ·
  rintro ⟨i,s⟩ ⟨hi,hs,hI⟩
  dsimp only at hi hs hI ⊢
  rcases drop_case hi with ⟨h1,h2⟩|⟨c,h1,h2,h3⟩
  ·
   rw[h1,sumN]at hI
   subst hI
   try refine wk ?_
   exact .one (.tmp rfl (.one (.d (.refl _))))
  ·
   rw[h1,sumN]at hI
   have hc:=c.toNat_lt
   have hb:=tmod_sum' (s:=s) (c:=c.toNat)
   have hs2:(s*257+c.toNat+1)%65521 < 65521:=Nat.mod_lt _ (by omega)
   generalize (s*257+c.toNat+1)%65521=s2 at *
   repeat(first|refine wa ?_|((with_reducible apply s5);(first|((with_reducible apply a_bin);exact rfl;exact rfl;(with_reducible apply bin_mul);omega;exact rfl)|((with_reducible apply a_bin);exact rfl;exact rfl;(with_reducible apply bin_remI);(exact by decide);exact hb;exact rfl)|exact by_oa|exact by_ca);exact by_g)|refine wb ?_)
   refine q_loopT (i+1,s2) ⟨by dsimp only;omega,hs2,hI⟩ (by dsimp only;omega) ?_
   exact by_less
theorem ok_lwrong (e:Entry) (hd:∀ d∈e.deeds,d.Sm) (hl:e.deeds.length≤1000000000):FnOk Tryz.prog 40 [.d (.agg e.enc)] (.one (dint (wrongEntry e))):=by
 refine fnOk_of tbl_ok mixed_ok Tryz.func40 rfl (by kernel_rfl) rfl rfl fun w0 own0=>?_
 unfold wrongEntry
 by_cases h0:e.number < 0
 ·
  rw[if_pos (.inl h0)]
  try refine wk ?_
  exact .one (.tmp rfl (.one (.d (.refl _))))
 by_cases h1:11 < e.number
 ·
  rw[if_pos (.inr h1)]
  try refine wk ?_
  exact .one (.tmp rfl (.one (.d (.refl _))))
 rw[if_neg (by omega)]
 by_cases h2:6 < e.deeds.length
 ·
  rw[if_pos h2]
  try refine wk ?_
  exact .one (.tmp rfl (.one (.d (.refl _))))
 rw[if_neg h2]
 try refine wk ?_
 refine CW.loopT (fun t:Nat=>[sp 1 0,ob 0 e.enc,sd 19 (encDeeds e.deeds),sd 20 (dint e.deeds.length),sd 21 (dint t),nxt 1])
  (fun t=>t≤e.deeds.length∧wrongs (e.deeds.drop t)=wrongs e.deeds) (fun t=>e.deeds.length - t) 0 ⟨by omega,rfl⟩ ?_ ?_
 ·
  exact by_less
 ·
  rintro i ⟨hi,hI⟩
  rcases drop_case hi with ⟨h3,h4⟩|⟨d,h3,h4,h5⟩
  ·
   rw[h3,wrongs]at hI
   try refine wk ?_
   exact .one (.tmp rfl (.one (.d (dle_int hI))))
  ·
   rw[h3]at hI
   simp only[wrongs]at hI
   have hds:=hd d (List.mem_of_getElem? h4)
   have hc:=ok_pwrongDeed d hds
   by_cases h6:wrongDeed d=0
   ·
    rw[if_pos h6]at hI
    have hp:=printD_len h6
    have hc2:=ok_tprint d h6 hds (by omega)
    rw[h6]at hc
    try refine wk ?_
    refine q_loopT (i+1) ⟨by omega,hI⟩ (by omega) ?_
    exact by_less
   ·
    rw[if_neg h6]at hI
    try refine wk ?_
    exact .one (.tmp rfl (.one (.d (dle_int hI))))
theorem linesD_take {l:List Deed}{j:Nat}{d:Deed}(h:l[j]? = some d):linesD (l.take (j+1))=linesD (l.take j)++(printD d++[10]):=by
 unfold linesD
 rw[List.take_add_one,h]
 simp
theorem linesD_len {l:List Deed}(hw:∀ d∈l,wrongDeed d=0) (hl:l.length≤6) (j:Nat):(linesD (l.take j)).length≤2406:=by
 have:∀ m:List Deed,(∀ d∈m,wrongDeed d=0)→(linesD m).length≤401*m.length:=by
  intro m
  induction m with
  |nil=>intro _;simp[linesD]
  |cons d m ih =>
   intro h
   have h1:=printD_len (h d (List.mem_cons_self ..))
   have h2:=ih fun x hx=>h x (List.mem_cons_of_mem _ hx)
   have h3:linesD (d::m)=printD d++[10]++linesD m:=by simp[linesD]
   rw[h3,List.length_append,List.length_append,List.length_cons,List.length_cons,List.length_nil]
   omega
 have h3:=this (l.take j) fun d hd=>hw d (List.mem_of_mem_take hd)
 have h4:(l.take j).length≤6:=by rw[List.length_take];omega
 omega
theorem bytes_len {e:Entry}(he:wrongEntry e=0):(bytesE e).length≤2409:=by
 obtain⟨_,h3,_,h4⟩:=wrongEntry_out he
 have hlen:=linesD_len h4 h3 e.deeds.length
 rw[List.take_length]at hlen
 have:bytesE e=UInt8.ofNat e.number.toNat::linesD e.deeds++sum2 (sumN 1 (headE e)):=rfl
 rw[this]
 simp[sum2]
 omega
theorem ok_lbytes (e:Entry) (he:wrongEntry e=0):FnOk Tryz.prog 45 [.d (.agg e.enc)] (.one (encBytes (bytesE e))):=by
 obtain⟨⟨h1,h2⟩,h3,_,h4⟩:=wrongEntry_out he
 have hB:bytesE e=headE e++sum2 (sumN 1 (headE e)):=rfl
 have hH:headE e=UInt8.ofNat e.number.toNat::linesD e.deeds:=rfl
 have hlen:=linesD_len h4 h3 e.deeds.length
 rw[List.take_length]at hlen
 have hs:=sumN_lt (l:=headE e) (s:=1) (by omega)
 have c1:=ok_lsum (headE e) (by rw[hH];simp;omega)
 rw[hB]
 have hr0':[[D.v (.int .u8 e.number)]]=[UInt8.ofNat e.number.toNat].map byteD:=by
  have:=byte_row (s:=e.number.toNat) (by omega)
  rw[show((e.number.toNat:Nat):Int)=e.number by omega]at this
  rw[this];rfl
 generalize sumN 1 (headE e)=S at *
 generalize UInt8.ofNat e.number.toNat=c0 at *
 rw[hH]at c1 ⊢
 refine fnOk_of tbl_ok mixed_ok Tryz.func45 rfl (by kernel_rfl) rfl rfl fun w0 own0=>?_
 have hr0:[[D.v (.int .u8 e.number)]]=(c0::linesD (e.deeds.take 0)).map byteD:=by
  rw[hr0'];simp[linesD]
 repeat(first|((with_reducible apply s5);(with_reducible apply(a_bsO [[D.v (.int .u8 e.number)]]));(iterate 10 exact rfl);(repeat(first|exact PartsE.nil|(apply PartsE.cons;exact rfl;exact rfl)));exact by_g)|refine wa1 ?_|((with_reducible apply s5);(first|((with_reducible apply a_conv);(iterate 6 exact rfl);(apply wrap_u8_in;omega))|exact by_oa|exact by_ca);exact by_g)|refine wb ?_)
 refine CW.loopT (fun j:Nat=>[sp 1 0,ob 0 e.enc,so 3 1 ((linesD (e.deeds.take j)).length+1),oa 1 5 1 ((c0::linesD (e.deeds.take j)).map byteD),sd 12 (encDeeds e.deeds),sd 13 (dint e.deeds.length),sd 14 (dint j),nxt 2]) (fun j=>j≤e.deeds.length) (fun j=>e.deeds.length - j) 0 (by omega) ?_ ?_
 ·
  exact by_less
 ·
  rintro j hj
  rcases drop_case hj with ⟨g1,g2⟩|⟨d,g1,g2,g3⟩
  ·
   subst g2
   rw[List.take_length]
   have hr1:[[D.v (.int .u8 ((S / 256:Nat):Int))],[.v (.int .u8 ((S%256:Nat):Int))]]=(sum2 S).map byteD:=by
    unfold sum2
    rw[byte_row (show S / 256 < 256 by omega),byte_row (show S%256 < 256 by omega)];rfl
   repeat(first|((with_reducible apply s5);((with_reducible apply a_bs [[D.v (.int .u8 ((S / 256:Nat):Int))],[.v (.int .u8 ((S%256:Nat):Int))]]);(iterate 9 exact rfl);(repeat(first|exact PartsE.nil|(apply PartsE.cons;exact rfl;exact rfl))));exact by_g)|refine wa1 ?_|((with_reducible apply s5);(first|(focus ((with_reducible apply a_lend);exact c1;exact rfl;exact .plain rfl;(focus first|exact rfl|(simp;done)|(simp;omega));(iterate 2 exact rfl);exact by_sub))|((with_reducible apply a_bin);exact rfl;exact rfl;(with_reducible apply bin_shrJ);exact rfl;exact div_256;exact rfl)|((with_reducible apply a_conv);(iterate 6 exact rfl);(apply wrap_u8_in;omega))|((with_reducible apply a_convW);(iterate 6 exact rfl);exact wrap_u8_n)|exact by_oa|exact by_ca);exact by_g)|refine wb ?_)
   rw[hr1]
   exact .one (.tmp rfl (.one (.own rfl (by simp;omega) (dle_eq (by simp[encBytes])))))
  ·
   have hds:=wrong_sm (h4 d (List.mem_of_getElem? g2))
   have hp:=printD_len (h4 d (List.mem_of_getElem? g2))
   have c2:=ok_tprint d (h4 d (List.mem_of_getElem? g2)) hds (by omega)
   have hlj:=linesD_len h4 h3 j
   have hstep:((c0::linesD (e.deeds.take j)).map byteD++(printD d).map byteD)++[[D.v (.int .u8 10)]]=(c0::linesD (e.deeds.take (j+1))).map byteD:=by
    rw[linesD_take g2]
    simp[byteD]
   have hlen2:(linesD (e.deeds.take (j+1))).length=(linesD (e.deeds.take j)).length+(printD d).length+1:=by
    rw[linesD_take g2];simp;omega
   repeat(first|((with_reducible apply s5);((with_reducible apply a_bs [[D.v (.int .u8 10)]]);(iterate 9 exact rfl);(repeat(first|exact PartsE.nil|(apply PartsE.cons;exact rfl;exact rfl))));exact by_g)|refine wa1 ?_|((with_reducible apply s5);(first|(focus (with_reducible apply a_appstr);exact rfl;exact rfl;exact rfl;exact rfl;exact rfl;exact rfl;exact Tryz.zeroValue5;exact rfl;exact rfl;exact rfl;exact rfl;exact rfl;(all_goals first|(simp;done)|(simp;omega)))|exact by_oa|exact by_ca);exact by_g)|refine wb ?_)
   refine q_loopT (j+1) (by omega) (by omega) ?_
   exact by_less
theorem ok_rbytes (e:Entry) (he:wrongEntry e=0):FnOk Tryz.prog 46 [.d (.agg e.enc)] (.one (encBytes (bytesE e))):=by
 obtain⟨⟨h1,h2⟩,h3,_,h4⟩:=wrongEntry_out he
 have hB:bytesE e=headE e++sum2 (sumN 1 (headE e)):=rfl
 have hH:headE e=UInt8.ofNat e.number.toNat::linesD e.deeds:=rfl
 have hlen:=linesD_len h4 h3 e.deeds.length
 rw[List.take_length]at hlen
 have hs:=sumN_lt (l:=headE e) (s:=1) (by omega)
 have c1:=ok_rsum (headE e) (by rw[hH];simp;omega)
 rw[hB]
 have hr0':[[D.v (.int .u8 e.number)]]=[UInt8.ofNat e.number.toNat].map byteD:=by
  have:=byte_row (s:=e.number.toNat) (by omega)
  rw[show((e.number.toNat:Nat):Int)=e.number by omega]at this
  rw[this];rfl
 generalize sumN 1 (headE e)=S at *
 generalize UInt8.ofNat e.number.toNat=c0 at *
 rw[hH]at c1 ⊢
 refine fnOk_of tbl_ok mixed_ok Tryz.func46 rfl (by kernel_rfl) rfl rfl fun w0 own0=>?_
 have hr0:[[D.v (.int .u8 e.number)]]=[c0].map byteD:=by
  exact hr0'
 have hl0:c0::linesD (e.deeds.take 0)=[c0]:=rfl
 repeat(first|((with_reducible apply s5);((with_reducible apply a_bs [[D.v (.int .u8 e.number)]]);(iterate 9 exact rfl);(repeat(first|exact PartsE.nil|(apply PartsE.cons;exact rfl;exact rfl))));exact by_g)|refine wa1 ?_|((with_reducible apply s5);(first|((with_reducible apply a_conv);(iterate 6 exact rfl);(apply wrap_u8_in;omega))|(focus (with_reducible apply(a_b2s (s:=[c0])));exact congrArg (fun r=>some (AV.d (D.sl 1 r))) hr0;(iterate 7 exact rfl))|exact by_oa|exact by_ca);exact by_g)|refine wb ?_)
 refine CW.loopT (fun j:Nat=>[sp 1 0,ob 0 e.enc,sd 3 (dstr (c0::linesD (e.deeds.take j))),sd 13 (encDeeds e.deeds),sd 14 (dint e.deeds.length),sd 15 (dint j),nxt 1]) (fun j=>j≤e.deeds.length) (fun j=>e.deeds.length - j) 0 (by omega) ?_ ?_
 ·
  exact by_less
 ·
  rintro j hj
  rcases drop_case hj with ⟨g1,g2⟩|⟨d,g1,g2,g3⟩
  ·
   subst g2
   rw[List.take_length]
   have hr1:[[D.v (.int .u8 ((S / 256:Nat):Int))],[.v (.int .u8 ((S%256:Nat):Int))]]=(sum2 S).map byteD:=by
    unfold sum2
    rw[byte_row (show S / 256 < 256 by omega),byte_row (show S%256 < 256 by omega)];rfl
   have hlS:(c0::linesD e.deeds).length+(sum2 S).length≤1073741824:=by simp[sum2];omega
   have hst0:StopA 8:=⟨rfl⟩
   repeat(first|((with_reducible apply s5);((with_reducible apply a_bs [[D.v (.int .u8 ((S / 256:Nat):Int))],[.v (.int .u8 ((S%256:Nat):Int))]]);(iterate 9 exact rfl);(repeat(first|exact PartsE.nil|(apply PartsE.cons;exact rfl;exact rfl))));exact by_g)|refine wa1S ?_|((with_reducible apply s5);(first|((with_reducible apply a_bin);exact rfl;exact rfl;(with_reducible apply bin_quoI);(exact by decide);exact tdiv_256;(exact by omega);exact rfl)|((with_reducible apply a_bin);exact rfl;exact rfl;(with_reducible apply bin_remI);(exact by decide);exact tmod_256;exact rfl)|((with_reducible apply a_conv);(iterate 6 exact rfl);apply wrap_u8_in;omega)|(focus (with_reducible apply(a_appb (r:=sum2 S)));exact rfl;exact rfl;exact congrArg (fun r=>some (AV.d (D.sl 1 r))) hr1;(iterate 6 exact rfl);exact Nat.zero_lt_succ _;exact hlS)|((with_reducible apply a_s2b);(iterate 8 exact rfl))|exact by_oa|exact by_ca);exact by_g)|refine wb ?_)
   clear hst0
   refine Stop.go ?_
   repeat(first|((with_reducible apply s5);((with_reducible apply a_bs [[D.v (.int .u8 ((S / 256:Nat):Int))],[.v (.int .u8 ((S%256:Nat):Int))]]);(iterate 9 exact rfl);(repeat(first|exact PartsE.nil|(apply PartsE.cons;exact rfl;exact rfl))));exact by_g)|refine wa1 ?_|((with_reducible apply s5);(first|((with_reducible apply a_bin);exact rfl;exact rfl;(with_reducible apply bin_quoI);(exact by decide);exact tdiv_256;(exact by omega);exact rfl)|((with_reducible apply a_bin);exact rfl;exact rfl;(with_reducible apply bin_remI);(exact by decide);exact tmod_256;exact rfl)|((with_reducible apply a_conv);(iterate 6 exact rfl);apply wrap_u8_in;omega)|(focus (with_reducible apply(a_appb (r:=sum2 S)));exact rfl;exact rfl;exact congrArg (fun r=>some (AV.d (D.sl 1 r))) hr1;(iterate 6 exact rfl);exact Nat.zero_lt_succ _;exact hlS)|((with_reducible apply a_s2bO);(iterate 9 exact rfl))|exact by_oa|exact by_ca);exact by_g)|refine wb ?_)
   exact .one (.tmp rfl (.one (.d (dle_eq (by simp[encBytes])))))
  ·
   have hds:=wrong_sm (h4 d (List.mem_of_getElem? g2))
   have hp:=printD_len (h4 d (List.mem_of_getElem? g2))
   have c2:=ok_rprint d (h4 d (List.mem_of_getElem? g2)) hds (by omega)
   have hlj:=linesD_len h4 h3 j
   have hstep:(c0::linesD (e.deeds.take j))++printD d++[10]=c0::linesD (e.deeds.take (j+1)):=by
    rw[linesD_take g2]
    simp
   repeat(first|refine wa ?_|((with_reducible apply s5);(first|(focus (with_reducible apply a_bin);exact rfl;exact rfl;(with_reducible apply bin_sadd);(all_goals first|exact rfl|(simp;omega)))|(focus (with_reducible apply a_bin);exact rfl;exact rfl;refine(bin_sadd (b:=[10]) ?_);(all_goals first|exact rfl|(simp;omega)))|exact by_oa|exact by_ca);exact by_g)|refine wb ?_)
   refine q_loopT (j+1) (by omega) (by omega) ?_
   rw[← hstep]
   exact by_less
end Go.Proofs.YtfpkamiobdkcpaaGreatDoor
namespace Go.Proofs.YtfpkamiobdkcpaaGreatDoor
open Go.AX Go.RF Go.RowKit
set_option maxRecDepth 100000
set_option maxHeartbeats 16000000
def noEnc:List D:=[.v nilS,.v nilS,.v nilS]
theorem ok_no (e:Int):FnOk Tryz.prog 134 [.d (dint e)] (.tup [.agg noEnc,dint e]):=by
 refine fnOk_of tbl_ok mixed_ok Tryz.func134 rfl (by kernel_rfl) rfl rfl fun w0 own0=>?_
 try refine wk ?_
 exact .two (.cell rfl rfl rfl rfl (.aggd (ds:=noEnc) rfl (.refl _))) (.tmp rfl (.one (.d (.refl _))))
theorem no_le {s:Str}{e:Int}(h:parseE s = .error e):DLe (.agg noEnc) (.agg (parseR s).1.enc):=by
 unfold parseR;rw[h]
 exact(DLes.cons (dle_nil 1) (.cons (dle_nil 1) (.cons (dle_nil 5) .nil))).agg
theorem er_le {s:Str}{e:Int}(h:parseE s = .error e):DLe (dint e) (dint (parseR s).2):=by
 unfold parseR;rw[h]
 exact .refl _
theorem numV_atoi {u:Str}{n:Int}(h:numV u=some n):atoiV u=n:=by
 unfold atoiV;rw[(numV_ok h).1]
theorem split_cons (s sep:Str):∃ w r,split s sep=w::r:=by
 cases h:split s sep with
 |nil=>exact absurd h (splitF_ne sep _ _ _)
 |cons w r=>exact⟨w,r,rfl⟩
theorem regV_none {u:Str}(h:regV u=none):u=[]∨(∃ c r,u=c::r∧c.toNat≠114)∨∃ r,u=114::r∧numV r=none:=by
 match u,h with
 | [],_=>exact .inl rfl
 |c::r,h =>
  by_cases hc:c=114
  ·
   subst hc;exact .inr (.inr ⟨r,rfl,h⟩)
  ·
   exact .inr (.inl ⟨c,r,rfl,fun e=>hc (UInt8.toNat_inj.1 e)⟩)
theorem regV_some {u:Str}{x:Int}(h:regV u=some x):∃ r,u=114::r∧numV r=some x:=by
 match u,h with
 | [],h=>simp[regV]at h
 |c::r,h =>
  by_cases hc:c=114
  ·
   subst hc;exact⟨r,rfl,h⟩
  ·
   unfold regV at h
   split at h
   ·
    next r' he=>cases he;exact absurd rfl hc
   ·
    cases h
theorem ok_parse (s:Str) (hbig:s.length≤1073741000):FnOk Tryz.prog 96 [.d (dstr s)] (.tup [.agg (parseR s).1.enc,dint (parseR s).2]):=by
 refine fnOk_of tbl_ok mixed_ok Tryz.func96 rfl (by kernel_rfl) rfl rfl fun w0 own0=>?_
 by_cases hs:400 < s.length
 ·
  have hP:parseE s = .error 4:=by unfold parseE;rw[if_pos hs]
  have cn:=ok_no 4
  repeat(first|refine wa ?_|((with_reducible apply s5);(first|exact a_callc cn rfl rfl by_sub|exact by_oa|exact by_ca);exact by_g)|refine wb ?_)
  exact .two (.cell rfl rfl rfl rfl (.aggd rfl (no_le hP))) (.tmp rfl (.one (.d (er_le hP))))
 have c1:=ok_split s [59,32] (by omega) (by simp) (by simp)
 have hsl:=split_len s [59,32]
 have hsp:∀ p∈split s [59,32],p.length≤400:=fun p hp=>Nat.le_trans (split_part hp) (by omega)
 by_cases h2:(split s [59,32]).length < 2
 ·
  have hP:parseE s = .error 8:=by
   unfold parseE
   rw[if_neg hs]
   match split s [59,32],h2 with
   | [],_=>rfl
   | [_],_=>rfl
   |_::_::_,h=>simp at h;omega
  have cn:=ok_no 8
  generalize split s [59,32]=l at *
  repeat(first|refine wa ?_|((with_reducible apply s5);(first|exact a_callc cn rfl rfl by_sub|exact by_oa|exact by_ca);exact by_g)|refine wb ?_)
  exact .two (.cell rfl rfl rfl rfl (.aggd rfl (no_le hP))) (.tmp rfl (.one (.d (er_le hP))))
 obtain⟨p0,p1,ps,e0⟩:∃ p0 p1 ps,split s [59,32]=p0::p1::ps:=by
  match split s [59,32],h2 with
  | [],h=>simp at h
  | [_],h=>simp at h
  |a::b::r,_=>exact⟨a,b,r,rfl⟩
 obtain⟨v0,rs,e1⟩:=split_cons p0 [32]
 obtain⟨v1,ws,e2⟩:=split_cons p1 [32]
 have hPF:=parseE_fin (by omega) e0 e1 e2
 have cn2:=ok_no 2
 generalize hl:split s [59,32]=l at *
 have h2l:2≤l.length:=by omega
 have hst0:StopA 8:=⟨rfl⟩
 try refine wkS ?_
 clear hst0
 refine Stop.go (CW.stut (stut_promote_cell (id:=1) (j:=2) 153 5 rfl) ⟨rfl,rfl,trivial⟩ ?_)
 try refine wk ?_
 refine CW.loopT (fun t:Nat×D×D×List Ins=>[sp 2 0,ob 0 [.v nilS,.v nilS,.v nilS],sd 4 (.v (.func (.func 134) #[] #[])),sp 6 1,(.o 1,.ob (.box [.d t.2.1,.d t.2.2.1,.own 2 t.2.2.2.length])),oa 2 153 5 (t.2.2.2.map Ins.enc),sd 36 (encStrs l),sd 37 (dint l.length),sd 38 (dint t.1),nxt 3])
  (fun t=>t.1≤l.length∧(t.1 < 2→t.2.2.2=[])∧(1≤t.1→v0=wReads∧t.2.1=encStrs rs)∧(2≤t.1→v1=wWrites∧t.2.2.1=encStrs ws)∧t.2.2.2.length≤t.1∧(2≤t.1→parseE s=finE rs ws t.2.2.2 (l.drop t.1))) (fun t=>l.length - t.1) (0,.v nilS,.v nilS,[])
  ⟨by dsimp only;omega,fun _=>rfl,fun h=>by dsimp only at h;omega,fun h=>by dsimp only at h;omega,by simp,fun h=>by dsimp only at h;omega⟩ ?_ ?_
 ·
  exact by_less
 ·
  rintro ⟨x,R,W,code⟩ ⟨hx,hc0,hR,hW,hc,hF⟩
  dsimp only at hx hc0 hR hW hc hF ⊢
  rcases drop_case hx with ⟨h1,h2⟩|⟨p,h1,h2,h3⟩
  ·
   obtain⟨_,rfl⟩:=hR (by omega)
   obtain⟨_,rfl⟩:=hW (by omega)
   have hF:=hF (by omega)
   rw[h1]at hF
   unfold finE at hF
   simp only[codeE,List.append_nil]at hF
   have hrs:∀ k∈rs,k.length≤400:=fun k hk=>Nat.le_trans (split_part (s:=p0) (sep:=[32]) (by rw[e1];exact List.mem_cons_of_mem _ hk)) (hsp p0 (by rw[e0];simp))
   have hws:∀ k∈ws,k.length≤400:=fun k hk=>Nat.le_trans (split_part (s:=p1) (sep:=[32]) (by rw[e2];exact List.mem_cons_of_mem _ hk)) (hsp p1 (by rw[e0];simp))
   have hrl:rs.length≤400:=by have:=split_len p0 [32];rw[e1]at this;have:=hsp p0 (by rw[e0];simp);simp at *;omega
   have hwl:ws.length≤400:=by have:=split_len p1 [32];rw[e2]at this;have:=hsp p1 (by rw[e0];simp);simp at *;omega
   have cw:=ok_wrongDeed ⟨rs,ws,code⟩ (by dsimp only;omega) (by dsimp only;omega) (by dsimp only;omega) (fun k hk=>by have:=hrs k hk;omega) (fun k hk=>by have:=hws k hk;omega)
   by_cases hw:wrongDeed ⟨rs,ws,code⟩=0
   ·
    rw[if_pos hw]at hF
    rw[hw]at cw
    have hr:parseR s=(⟨rs,ws,code⟩,0):=by unfold parseR;rw[hF];rfl
    rw[hr]
    have hst0:StopA 52:=⟨rfl⟩
    try refine wkS ?_
    clear hst0
    refine Stop.go (CW.stut (stut_freeze_cell (id:=1) (j:=2) (i:=2) rfl (by simp)) ⟨rfl,rfl,trivial⟩ ?_)
    try refine wk ?_
    exact .two (.cell rfl rfl rfl rfl (.aggd rfl (.refl _))) (.tmp rfl (.one (.d (.refl _))))
   ·
    rw[if_neg hw]at hF
    have cn:=ok_no (wrongDeed ⟨rs,ws,code⟩)
    generalize wrongDeed ⟨rs,ws,code⟩=we at *
    have hst0:StopA 52:=⟨rfl⟩
    try refine wkS ?_
    clear hst0
    refine Stop.go (CW.stut (stut_freeze_cell (id:=1) (j:=2) (i:=2) rfl (by simp)) ⟨rfl,rfl,trivial⟩ ?_)
    repeat(first|refine wa ?_|((with_reducible apply s5);(first|exact a_callc cn rfl rfl by_sub|exact by_oa|exact by_ca);exact by_g)|refine wb ?_)
    exact .two (.cell rfl rfl rfl rfl (.aggd rfl (no_le hF))) (.tmp rfl (.one (.d (er_le hF))))
  ·
   have hp:p∈l:=List.mem_of_getElem? h2
   have hpl:=hsp p hp
   have c2:=ok_split p [32] (by omega) (by simp) (by simp)
   by_cases hx0:x=0
   ·
    subst hx0
    obtain rfl:=hc0 (by omega)
    have h2':=h2
    rw[e0]at h2
    obtain rfl:p0=p:=by simpa using h2
    rw[e1]at c2
    have hrl:rs.length≤400:=by have:=split_len p0 [32];rw[e1]at this;simp at *;omega
    have hw0:(v0::rs)[0]? = some v0:=rfl
    have hn0:([wReads,wWrites]:List Str)[0]? = some wReads:=rfl
    by_cases hv:v0=wReads
    ·
     repeat(first|((with_reducible apply s5);((with_reducible apply a_bs (([wReads,wWrites]:List Str).map encStr1));(iterate 9 exact rfl);(repeat(first|exact PartsE.nil|(apply PartsE.cons;exact rfl;exact rfl))));exact by_g)|refine wa1 ?_|((with_reducible apply s5);(first|exact a_call c2 rfl by_sub|exact by_oa|exact by_ca);exact by_g)|refine wb ?_)
     refine q_loopT (1,encStrs rs,W,[]) ⟨by dsimp only;omega,fun _=>rfl,fun _=>⟨hv,rfl⟩,fun h=>by dsimp only at h;omega,by simp,fun h=>by dsimp only at h;omega⟩ (by dsimp only;omega) ?_
     exact by_less
    ·
     have hP:parseE s = .error 2:=by rw[hPF,if_neg hv]
     repeat(first|((with_reducible apply s5);((with_reducible apply a_bs (([wReads,wWrites]:List Str).map encStr1));(iterate 9 exact rfl);(repeat(first|exact PartsE.nil|(apply PartsE.cons;exact rfl;exact rfl))));exact by_g)|refine wa1 ?_|((with_reducible apply s5);(first|exact a_call c2 rfl by_sub|exact a_callc cn2 rfl rfl by_sub|exact by_oa|exact by_ca);exact by_g)|refine wb ?_)
     exact .two (.cell rfl rfl rfl rfl (.aggd rfl (no_le hP))) (.tmp rfl (.one (.d (er_le hP))))
   by_cases hx1:x=1
   ·
    subst hx1
    obtain rfl:=hc0 (by omega)
    obtain⟨hv0,hR⟩:=hR (by omega)
    have h2':=h2
    rw[e0]at h2
    obtain rfl:p1=p:=by simpa using h2
    rw[e2]at c2
    have hwl:ws.length≤400:=by have:=split_len p1 [32];rw[e2]at this;simp at *;omega
    have hw0:(v1::ws)[0]? = some v1:=rfl
    have hn0:([wReads,wWrites]:List Str)[1]? = some wWrites:=rfl
    by_cases hv:v1=wWrites
    ·
     repeat(first|((with_reducible apply s5);((with_reducible apply a_bs (([wReads,wWrites]:List Str).map encStr1));(iterate 9 exact rfl);(repeat(first|exact PartsE.nil|(apply PartsE.cons;exact rfl;exact rfl))));exact by_g)|refine wa1 ?_|((with_reducible apply s5);(first|exact a_call c2 rfl by_sub|exact by_oa|exact by_ca);exact by_g)|refine wb ?_)
     refine q_loopT (2,R,encStrs ws,[]) ⟨by dsimp only;omega,fun h=>by dsimp only at h;omega,fun _=>⟨hv0,hR⟩,fun _=>⟨hv,rfl⟩,by simp,fun _=>by rw[hPF,if_pos hv0,if_pos hv,e0];rfl⟩ (by dsimp only;omega) ?_
     exact by_less
    ·
     have hP:parseE s = .error 2:=by rw[hPF,if_pos hv0,if_neg hv]
     repeat(first|((with_reducible apply s5);((with_reducible apply a_bs (([wReads,wWrites]:List Str).map encStr1));(iterate 9 exact rfl);(repeat(first|exact PartsE.nil|(apply PartsE.cons;exact rfl;exact rfl))));exact by_g)|refine wa1 ?_|((with_reducible apply s5);(first|exact a_call c2 rfl by_sub|exact a_callc cn2 rfl rfl by_sub|exact by_oa|exact by_ca);exact by_g)|refine wb ?_)
     exact .two (.cell rfl rfl rfl rfl (.aggd rfl (no_le hP))) (.tmp rfl (.one (.d (er_le hP))))
   have hF:=hF (by omega)
   rw[h1,finE_cons]at hF
   generalize hwds:split p [32]=wds at *
   obtain⟨w,wz,rfl⟩:∃ w wz,wds=w::wz:=by
    obtain⟨w,wz,h⟩:=split_cons p [32]
    exact⟨w,wz,hwds.symm.trans h⟩
   have hwl:wz.length≤400:=by have:=split_len p [32];rw[hwds]at this;simp at *;omega
   have cw:=ok_words
   have hw0:(w::wz)[0]? = some w:=rfl
   repeat(first|refine wa ?_|((with_reducible apply s5);(first|exact a_call c2 rfl by_sub|exact a_call cw rfl by_sub|exact by_oa|exact by_ca);exact by_g)|refine wb ?_)
   refine CW.loopT (fun t:Nat×Int=>[sp 2 0,ob 0 [.v nilS,.v nilS,.v nilS],sd 4 (.v (.func (.func 134) #[] #[])),sp 6 1,(.o 1,.ob (.box [.d R,.d W,.own 2 code.length])),oa 2 153 5 (code.map Ins.enc),sd 36 (encStrs l),sd 37 (dint l.length),sd 38 (dint x),
     sd 9 (encStrs (w::wz)),sp 10 3,ob 3 [dint t.2,dint 0,dint 0,dint 0,dstr []],sd 68 (encStrs words),sd 69 (dint words.length),sd 70 (dint t.1),nxt 4])
    (fun t=>t.1≤words.length∧0≤t.2∧t.2 < 10∧kindGo w t.1 t.2 (words.drop t.1)=kindOf w) (fun t=>words.length - t.1) (0,0) ⟨by dsimp only;omega,by dsimp only;omega,by dsimp only;omega,rfl⟩ ?_ ?_
   ·
    exact by_less
   ·
    rintro ⟨y,k⟩ ⟨hy,hk1,hk2,hK⟩
    dsimp only at hy hk1 hk2 hK ⊢
    have hwn:words.length=10:=rfl
    rcases drop_case hy with ⟨g1,g2⟩|⟨u,g1,g2,g3⟩
    ·
     rw[g1,kindGo]at hK
     subst hK
     obtain⟨K,hKe⟩:=Int.eq_ofNat_of_zero_le hk1
     by_cases hk0:kindOf w=0
     ·
      have hP:parseE s = .error 1:=by rw[hF];simp only[insE];rw[if_pos hk0]
      have cn1:=ok_no 1
      rw[hk0]
      repeat(first|refine wa ?_|((with_reducible apply s5);(first|exact a_callc cn1 rfl rfl by_sub|exact by_oa|exact by_ca);exact by_g)|refine wb ?_)
      exact .two (.cell rfl rfl rfl rfl (.aggd rfl (no_le hP))) (.tmp rfl (.one (.d (er_le hP))))
     have hins:=insE_fill (w:=w) (ws:=wz) hk0
     have hins2:¬ wz.length=(form (kindOf w).toNat).length→insE (w::wz) = .error 2:=fun h=>by simp only[insE];rw[if_neg hk0,if_neg h]
     rw[hKe]at hins hins2 hk0 hk2 ⊢
     rw[Int.toNat_natCast]at hins hins2
     have cf:=ok_form K (by omega)
     have hfl:=form_len K
     generalize form K=f at *
     by_cases hlen:wz.length=f.length
     ·
      have hins:=hins hlen
      rw[hins]at hF
      obtain⟨tg,htg⟩:∃ tg,fillI ⟨K,0,0,0,[]⟩ f wz=tg:=⟨_,rfl⟩
      rw[htg]at hF
      try refine wk ?_
      refine CW.loopT (fun t:Nat×Ins=>[sp 2 0,ob 0 [.v nilS,.v nilS,.v nilS],sd 4 (.v (.func (.func 134) #[] #[])),sp 6 1,(.o 1,.ob (.box [.d R,.d W,.own 2 code.length])),oa 2 153 5 (code.map Ins.enc),sd 36 (encStrs l),sd 37 (dint l.length),sd 38 (dint x),
        sd 9 (encStrs (w::wz)),sp 10 3,ob 3 t.2.enc,sd 13 (dstr f),sd 108 (dint f.length),sd 109 (dint t.1),nxt 4])
       (fun t=>t.1≤f.length∧fillI t.2 (f.drop t.1) (wz.drop t.1)=tg) (fun t=>f.length - t.1) (0,⟨K,0,0,0,[]⟩) ⟨by dsimp only;omega,htg⟩ ?_ ?_
      ·
       exact by_less
      ·
       rintro ⟨j,i⟩ ⟨hj,hI⟩
       dsimp only at hj hI ⊢
       rcases drop_case hj with ⟨b1,b2⟩|⟨c,b1,b2,b3⟩
       ·
        rw[b1,fillI]at hI
        subst hI
        dsimp only at hF
        try refine wk ?_
        refine q_loopT (x+1,R,W,code++[i]) ⟨by dsimp only;omega,fun h=>by dsimp only at h;omega,fun _=>hR (by omega),fun _=>hW (by omega),by dsimp only;simp;omega,fun _=>hF⟩ (by dsimp only;omega) ?_
        exact by_less
       ·
        have hwj:j < wz.length:=by omega
        have hwa:(w::wz)[j+1]? = some wz[j]:=by simp[List.getElem?_eq_getElem hwj]
        rw[b1,List.drop_eq_getElem_cons hwj]at hI
        have hwjl:wz[j].length≤400:=Nat.le_trans (split_part (s:=p) (sep:=[32]) (by rw[hwds];exact List.mem_cons_of_mem _ (List.getElem_mem hwj))) hpl
        generalize wz[j]=u at hwa hI hwjl
        simp only[fillI]at hI
        have hcn:∀ k:UInt8,c=k↔c.toNat=k.toNat:=fun k=>by rw[UInt8.toNat_inj]
        by_cases q1:c=107
        ·
         rw[if_pos q1]at hI
         have q1':c.toNat=107:=(hcn 107).1 q1
         try refine wk ?_
         refine q_loopT (j+1,{ i with key:=u }) ⟨by dsimp only;omega,hI⟩ (by dsimp only;omega) ?_
         exact by_less
        rw[if_neg q1]at hI
        have q1':c.toNat≠107:=fun e=>q1 ((hcn 107).2 e)
        by_cases q2:c=110
        ·
         rw[if_pos q2]at hI
         have q2':c.toNat=110:=(hcn 110).1 q2
         have cm:=ok_num u (by omega)
         cases hn:numV u with
         |some n =>
          rw[hn]at hI cm
          rw[numV_atoi hn]at cm
          try refine wk ?_
          refine q_loopT (j+1,{ i with n:=n }) ⟨by dsimp only;omega,hI⟩ (by dsimp only;omega) ?_
          exact by_less
         |none =>
          rw[hn]at hI cm
          dsimp only at hI
          subst hI
          generalize atoiV u=na at cm
          repeat(first|refine wa ?_|((with_reducible apply s5);(first|exact a_callc cn2 rfl rfl by_sub|exact by_oa|exact by_ca);exact by_g)|refine wb ?_)
          exact .two (.cell rfl rfl rfl rfl (.aggd rfl (no_le hF))) (.tmp rfl (.one (.d (er_le hF))))
        rw[if_neg q2]at hI
        have q2':c.toNat≠110:=fun e=>q2 ((hcn 110).2 e)
        cases hrv:regV u with
        |some n =>
         rw[hrv]at hI
         dsimp only at hI
         obtain⟨r,rfl,q3⟩:=regV_some hrv
         have cm:=ok_num r (by simp at hwjl;omega)
         rw[q3,numV_atoi q3]at cm
         have hu0:(114::r:Str)[0]? = some 114:=rfl
         by_cases q4:c=114
         ·
          rw[if_pos q4]at hI
          have q4':c.toNat=114:=(hcn 114).1 q4
          repeat(first|refine wa ?_|((with_reducible apply s5);(first|((with_reducible apply(a_is (k:=0)));(iterate 5 exact rfl);exact rfl)|((with_reducible apply(a_subF (l:=1)));(iterate 5 exact rfl);exact Nat.succ_le_succ (Nat.zero_le _))|exact by_oa|exact by_ca);exact by_g)|refine wb ?_)
          refine q_loopT (j+1,{ i with a:=n }) ⟨by dsimp only;omega,hI⟩ (by dsimp only;omega) ?_
          exact by_less
         ·
          rw[if_neg q4]at hI
          have q4':c.toNat≠114:=fun e=>q4 ((hcn 114).2 e)
          repeat(first|refine wa ?_|((with_reducible apply s5);(first|((with_reducible apply(a_is (k:=0)));(iterate 5 exact rfl);exact rfl)|((with_reducible apply(a_subF (l:=1)));(iterate 5 exact rfl);exact Nat.succ_le_succ (Nat.zero_le _))|exact by_oa|exact by_ca);exact by_g)|refine wb ?_)
          refine q_loopT (j+1,{ i with b:=n }) ⟨by dsimp only;omega,hI⟩ (by dsimp only;omega) ?_
          exact by_less
        |none =>
         rw[hrv]at hI
         dsimp only at hI
         subst hI
         rcases regV_none hrv with rfl|⟨c0,r,rfl,q3⟩|⟨r,rfl,q3⟩
         ·
          repeat(first|refine wa ?_|((with_reducible apply s5);(first|exact a_callc cn2 rfl rfl by_sub|exact by_oa|exact by_ca);exact by_g)|refine wb ?_)
          exact .two (.cell rfl rfl rfl rfl (.aggd rfl (no_le hF))) (.tmp rfl (.one (.d (er_le hF))))
         ·
          have hu0:(c0::r:Str)[0]? = some c0:=rfl
          repeat(first|refine wa ?_|((with_reducible apply s5);(first|exact a_callc cn2 rfl rfl by_sub|((with_reducible apply(a_is (k:=0)));(iterate 5 exact rfl);exact rfl)|exact by_oa|exact by_ca);exact by_g)|refine wb ?_)
          exact .two (.cell rfl rfl rfl rfl (.aggd rfl (no_le hF))) (.tmp rfl (.one (.d (er_le hF))))
         ·
          have cm:=ok_num r (by simp at hwjl;omega)
          rw[q3]at cm
          have hu0:(114::r:Str)[0]? = some 114:=rfl
          generalize atoiV r=na at cm
          by_cases q4:c=114
          ·
           have q4':c.toNat=114:=(hcn 114).1 q4
           repeat(first|refine wa ?_|((with_reducible apply s5);(first|exact a_callc cn2 rfl rfl by_sub|((with_reducible apply(a_is (k:=0)));(iterate 5 exact rfl);exact rfl)|((with_reducible apply(a_subF (l:=1)));(iterate 5 exact rfl);exact Nat.succ_le_succ (Nat.zero_le _))|exact by_oa|exact by_ca);exact by_g)|refine wb ?_)
           exact .two (.cell rfl rfl rfl rfl (.aggd rfl (no_le hF))) (.tmp rfl (.one (.d (er_le hF))))
          ·
           have q4':c.toNat≠114:=fun e=>q4 ((hcn 114).2 e)
           repeat(first|refine wa ?_|((with_reducible apply s5);(first|exact a_callc cn2 rfl rfl by_sub|((with_reducible apply(a_is (k:=0)));(iterate 5 exact rfl);exact rfl)|((with_reducible apply(a_subF (l:=1)));(iterate 5 exact rfl);exact Nat.succ_le_succ (Nat.zero_le _))|exact by_oa|exact by_ca);exact by_g)|refine wb ?_)
           exact .two (.cell rfl rfl rfl rfl (.aggd rfl (no_le hF))) (.tmp rfl (.one (.d (er_le hF))))
     ·
      rw[hins2 hlen]at hF
      repeat(first|refine wa ?_|((with_reducible apply s5);(first|exact a_callc cn2 rfl rfl by_sub|exact by_oa|exact by_ca);exact by_g)|refine wb ?_)
      exact .two (.cell rfl rfl rfl rfl (.aggd rfl (no_le hF))) (.tmp rfl (.one (.d (er_le hF))))
    ·
     rw[g1,kindGo]at hK
     by_cases hy0:0 < y
     ·
      by_cases hu:u=w
      ·
       rw[if_pos ⟨hy0,hu⟩]at hK
       try refine wk ?_
       refine q_loopT (y+1,(y:Int)) ⟨by dsimp only;omega,by dsimp only;omega,by dsimp only;omega,hK⟩ (by dsimp only;omega) ?_
       exact by_less
      ·
       rw[if_neg (fun h=>hu h.2)]at hK
       try refine wk ?_
       refine q_loopT (y+1,k) ⟨by dsimp only;omega,by dsimp only;omega,by dsimp only;omega,hK⟩ (by dsimp only;omega) ?_
       exact by_less
     ·
      rw[if_neg (fun h=>hy0 h.1)]at hK
      try refine wk ?_
      refine q_loopT (y+1,k) ⟨by dsimp only;omega,by dsimp only;omega,by dsimp only;omega,hK⟩ (by dsimp only;omega) ?_
      exact by_less
theorem kind_idx (w:Str):idxS 0 words.tail w=kindOf w - 1∧0≤kindOf w∧kindOf w < 10:=by
 by_cases h1:w=[108,111,97,100]
 ·
  subst h1;decide
 by_cases h2:w=[99,111,110,115,116]
 ·
  subst h2;decide
 by_cases h3:w=[97,100,100]
 ·
  subst h3;decide
 by_cases h4:w=[115,117,98]
 ·
  subst h4;decide
 by_cases h5:w=[109,117,108]
 ·
  subst h5;decide
 by_cases h6:w=[115,116,111,114,101]
 ·
  subst h6;decide
 by_cases h7:w=[100,114,111,112]
 ·
  subst h7;decide
 by_cases h8:w=[115,107,105,112]
 ·
  subst h8;decide
 by_cases h9:w=[102,97,105,108]
 ·
  subst h9;decide
 have hk:kindOf w=0:=by
  unfold kindOf
  simp[words,kindGo,Ne.symm h1,Ne.symm h2,Ne.symm h3,Ne.symm h4,Ne.symm h5,Ne.symm h6,Ne.symm h7,Ne.symm h8,Ne.symm h9]
 have hi:idxS 0 words.tail w = -1:=by
  simp[words,idxS,Ne.symm h1,Ne.symm h2,Ne.symm h3,Ne.symm h4,Ne.symm h5,Ne.symm h6,Ne.symm h7,Ne.symm h8,Ne.symm h9]
 rw[hk,hi]
 decide
def noIns:Ins:=⟨0,0,0,0,[]⟩
def resI:Except Int Ins→Ins×Int
 |.ok i=>(i,0)
 |.error e=>(noIns,e)
theorem bin_kind {P:Program}{t:TypeId}{k:Int}(h:0≤k∧k < 10):BinR P .add t (.int .i64 (k - 1)) (.int .i64 1) (.int .i64 k):=by
 have:=bin_add (P:=P) (t:=t) (a:=k - 1) (b:=1) (by omega)
 rwa [show k - 1+1=k by omega]at this
theorem cutp_yes (r:Str):Lib.trimPrefix (114::r) [114]=r∧Lib.hasPrefix (114::r) [114]=true:=by
 have h:Lib.hasPrefix (114::r) [114]=true:=by simp[Lib.hasPrefix,List.isPrefixOf]
 exact⟨by unfold Lib.trimPrefix;rw[if_pos h];rfl,h⟩
theorem cutp_no {u:Str}(h:∀ r,u≠114::r):Lib.hasPrefix u [114]=false∧(Lib.trimPrefix u [114])=u:=by
 have h1:Lib.hasPrefix u [114]=false:=by
  cases u with
  |nil=>rfl
  |cons c r =>
   have:c≠114:=fun e=>h r (by rw[e])
   simp[Lib.hasPrefix,List.isPrefixOf,this.symm]
 exact⟨h1,by unfold Lib.trimPrefix;rw[h1];rfl⟩
theorem ok_tinstr (w:Str) (ws:List Str) (hl:ws.length≤1000000) (hu:∀ u∈ws,u.length≤1000000) :
  FnOk Tryz.prog 133 [.d (encStrs (w::ws))] (.tup [.agg (resI (insE (w::ws))).1.enc,dint (resI (insE (w::ws))).2]):=by
 refine fnOk_of tbl_ok mixed_ok Tryz.func133 rfl (by kernel_rfl) rfl rfl fun w0 own0=>?_
 have cw:=ok_twords
 obtain⟨hki,hk0,hk9⟩:=kind_idx w
 have ci:=ok_indexS words.tail w (by decide)
 rw[hki]at ci
 have hbk:=fun {t:TypeId}=>bin_kind (P:=Tryz.prog) (t:=t) ⟨hk0,hk9⟩
 have hw0:(w::ws)[0]? = some w:=rfl
 obtain⟨K,hKe⟩:=Int.eq_ofNat_of_zero_le hk0
 by_cases hkz:kindOf w=0
 ·
  have hE:insE (w::ws) = .error 1:=by simp only[insE];rw[if_pos hkz]
  rw[hE]
  rw[hkz]at ci hbk
  repeat(first|refine wa ?_|((with_reducible apply s5);(first|((with_reducible apply a_bin);exact rfl;exact rfl;exact hbk;exact rfl)|exact by_oa|exact by_ca);exact by_g)|refine wb ?_)
  exact .two (.cell rfl rfl rfl rfl (.aggd (ds:=noIns.enc) rfl (.refl _))) (.tmp rfl (.one (.d (.refl _))))
 have hins:=insE_fill (w:=w) (ws:=ws) hkz
 have hins2:¬ ws.length=(form (kindOf w).toNat).length→insE (w::ws) = .error 2:=fun h=>by simp only[insE];rw[if_neg hkz,if_neg h]
 rw[hKe]at hins hins2 hkz hk9 ci hbk
 rw[Int.toNat_natCast]at hins hins2
 have cf:=ok_fields K (by omega) (by omega)
 have hlet:∀ c∈form K,c=114∨c=115∨c=110∨c=107:=fun c hc=>form_let hc
 have hfl:=form_len K
 generalize form K=f at *
 by_cases hlen:ws.length=f.length
 ·
  have hins:=hins hlen
  obtain⟨tg,htg⟩:∃ tg,fillI ⟨K,0,0,0,[]⟩ f ws=tg:=⟨_,rfl⟩
  rw[htg]at hins
  repeat(first|refine wa ?_|((with_reducible apply s5);(first|((with_reducible apply a_bin);exact rfl;exact rfl;exact hbk;exact rfl)|((with_reducible apply a_range);exact rfl;exact rfl;exact Tryz.underlying9;exact rfl)|exact by_oa|exact by_ca);exact by_g)|refine wb ?_)
  refine CW.loopT (fun t:Nat×Ins=>[sd 0 (encStrs (w::ws)),sp 2 0,ob 0 noIns.enc,sp 4 1,ob 1 t.2.enc,(.s 34,.av (.h 2)),(.o 2,.ob (.gen (ItP f t.1))),nxt 3])
   (fun t=>t.1≤f.length∧fillI t.2 (f.drop t.1) (ws.drop t.1)=tg) (fun t=>f.length - t.1) (0,⟨K,0,0,0,[]⟩) ⟨by dsimp only;omega,htg⟩ ?_ ?_
  ·
   exact by_less
  ·
   rintro ⟨j,i⟩ ⟨hj,hI⟩
   dsimp only at hj hI ⊢
   rcases drop_case hj with ⟨b1,b2⟩|⟨c,b1,b2,b3⟩
   ·
    rw[b1,fillI]at hI
    subst hI
    dsimp only at hins
    rw[hins]
    repeat(first|refine wa ?_|((with_reducible apply s5);(first|((with_reducible apply(a_nextE (k:=j) 2));exact rfl;exact rfl;exact Nat.le_of_eq b2.symm;exact rfl)|exact by_oa|exact by_ca);exact by_g)|refine wb ?_)
    exact .two (.cell rfl rfl rfl rfl (.aggd (ds:=i.enc) rfl (.refl _))) (.tmp rfl (.one (.d (.refl _))))
   ·
    have hc:=hlet c (List.mem_of_getElem? b2)
    have hc1:c.toNat < 128:=by rcases hc with rfl|rfl|rfl|rfl <;> decide
    have hwj:j < ws.length:=by omega
    have hwa:(w::ws)[j+1]? = some ws[j]:=by simp[List.getElem?_eq_getElem hwj]
    rw[show j+1=1+j by omega]at hwa
    rw[b1,List.drop_eq_getElem_cons hwj]at hI
    have hul:=hu ws[j] (List.getElem_mem hwj)
    generalize ws[j]=u at hwa hI hul
    simp only[fillI]at hI
    have hix:idx ((w::ws).map encStr1) (1+(j:Int))=some (encStr1 u):=by
     have:=idx_map (f:=encStr1) hwa
     rwa [show((1+j:Nat):Int)=1+(j:Int) by omega]at this
    by_cases q1:c=107
    ·
     rw[if_pos q1]at hI
     subst q1
     repeat(first|refine wa ?_|((with_reducible apply s5);(first|((with_reducible apply(a_next (k:=j) 2));exact rfl;exact rfl;exact b2;exact hc1;exact rfl)|((with_reducible apply a_ia);(iterate 5 exact rfl);exact hix)|exact by_oa|exact by_ca);exact by_g)|refine wb ?_)
     refine q_loopT (j+1,{ i with key:=u }) ⟨by dsimp only;omega,hI⟩ (by dsimp only;omega) ?_
     exact by_less
    rw[if_neg q1]at hI
    by_cases q2:c=110
    ·
     rw[if_pos q2]at hI
     subst q2
     have cm:=ok_number u (by omega)
     cases hn:numV u with
     |some n =>
      rw[hn]at hI cm
      rw[numV_atoi hn]at cm
      repeat(first|refine wa ?_|((with_reducible apply s5);(first|((with_reducible apply(a_next (k:=j) 2));exact rfl;exact rfl;exact b2;exact hc1;exact rfl)|((with_reducible apply a_ia);(iterate 5 exact rfl);exact hix)|exact by_oa|exact by_ca);exact by_g)|refine wb ?_)
      refine q_loopT (j+1,{ i with n:=n }) ⟨by dsimp only;omega,hI⟩ (by dsimp only;omega) ?_
      exact by_less
     |none =>
      rw[hn]at hI cm
      dsimp only at hI
      subst hI
      dsimp only at hins
      rw[hins]
      generalize atoiV u=na at cm
      repeat(first|refine wa ?_|((with_reducible apply s5);(first|((with_reducible apply(a_next (k:=j) 2));exact rfl;exact rfl;exact b2;exact hc1;exact rfl)|((with_reducible apply a_ia);(iterate 5 exact rfl);exact hix)|exact by_oa|exact by_ca);exact by_g)|refine wb ?_)
      exact .two (.cell rfl rfl rfl rfl (.aggd (ds:=noIns.enc) rfl (.refl _))) (.tmp rfl (.one (.d (.refl _))))
    rw[if_neg q2]at hI
    have cc:=ok_cutp u [114]
    cases hrv:regV u with
    |some n =>
     rw[hrv]at hI
     dsimp only at hI
     obtain⟨r,rfl,q3⟩:=regV_some hrv
     have cm:=ok_number r (by simp at hul;omega)
     rw[q3,numV_atoi q3]at cm
     rw[(cutp_yes r).1,(cutp_yes r).2]at cc
     by_cases q4:c=114
     ·
      rw[if_pos q4]at hI
      subst q4
      repeat(first|refine wa ?_|((with_reducible apply s5);(first|((with_reducible apply(a_next (k:=j) 2));exact rfl;exact rfl;exact b2;exact hc1;exact rfl)|((with_reducible apply a_ia);(iterate 5 exact rfl);exact hix)|exact by_oa|exact by_ca);exact by_g)|refine wb ?_)
      refine q_loopT (j+1,{ i with a:=n }) ⟨by dsimp only;omega,hI⟩ (by dsimp only;omega) ?_
      exact by_less
     ·
      rw[if_neg q4]at hI
      obtain rfl:c=115:=by rcases hc with h|h|h|h <;> first|exact h|exact absurd h ‹_›
      repeat(first|refine wa ?_|((with_reducible apply s5);(first|((with_reducible apply(a_next (k:=j) 2));exact rfl;exact rfl;exact b2;exact hc1;exact rfl)|((with_reducible apply a_ia);(iterate 5 exact rfl);exact hix)|exact by_oa|exact by_ca);exact by_g)|refine wb ?_)
      refine q_loopT (j+1,{ i with b:=n }) ⟨by dsimp only;omega,hI⟩ (by dsimp only;omega) ?_
      exact by_less
    |none =>
     rw[hrv]at hI
     dsimp only at hI
     subst hI
     dsimp only at hins
     rw[hins]
     have hall:∃ u' b,FnOk Tryz.prog 166 [.d (dstr u),.d (dstr [114])] (.tup [dstr u',dbool b])∧u'.length≤u.length∧(b&&(numV u').isSome)=false:=by
      rcases regV_none hrv with rfl|⟨c0,r,rfl,q3⟩|⟨r,rfl,q3⟩
      ·
       refine⟨_,_,cc,?_,?_⟩
       ·
        rw[(cutp_no (u:=[]) (by simp)).2];exact Nat.le_refl _
       ·
        rw[(cutp_no (u:=[]) (by simp)).1];rfl
      ·
       have hne:∀ r',(c0::r:Str)≠114::r':=fun r' e=>by cases e;exact q3 rfl
       refine⟨_,_,cc,?_,?_⟩
       ·
        rw[(cutp_no hne).2];exact Nat.le_refl _
       ·
        rw[(cutp_no hne).1];rfl
      ·
       refine⟨_,_,cc,?_,?_⟩
       ·
        rw[(cutp_yes r).1];simp
       ·
        rw[(cutp_yes r).1,(cutp_yes r).2,q3];rfl
     obtain⟨u',b,cc,hul',hb⟩:=hall
     have cm:=ok_number u' (by omega)
     generalize atoiV u'=na at cm
     generalize (numV u').isSome=is at cm hb
     have hcs:c=114∨c=115:=by rcases hc with h|h|h|h <;> first|exact .inl h|exact .inr h|exact absurd h ‹_›
     rcases hcs with rfl|rfl
     ·
      cases b with
      |true =>
       obtain rfl:is=false:=by simpa using hb
       repeat(first|refine wa ?_|((with_reducible apply s5);(first|((with_reducible apply(a_next (k:=j) 2));exact rfl;exact rfl;exact b2;exact hc1;exact rfl)|((with_reducible apply a_ia);(iterate 5 exact rfl);exact hix)|exact by_oa|exact by_ca);exact by_g)|refine wb ?_)
       exact .two (.cell rfl rfl rfl rfl (.aggd (ds:=noIns.enc) rfl (.refl _))) (.tmp rfl (.one (.d (.refl _))))
      |false =>
       repeat(first|refine wa ?_|((with_reducible apply s5);(first|((with_reducible apply(a_next (k:=j) 2));exact rfl;exact rfl;exact b2;exact hc1;exact rfl)|((with_reducible apply a_ia);(iterate 5 exact rfl);exact hix)|exact by_oa|exact by_ca);exact by_g)|refine wb ?_)
       exact .two (.cell rfl rfl rfl rfl (.aggd (ds:=noIns.enc) rfl (.refl _))) (.tmp rfl (.one (.d (.refl _))))
     ·
      cases b with
      |true =>
       obtain rfl:is=false:=by simpa using hb
       repeat(first|refine wa ?_|((with_reducible apply s5);(first|((with_reducible apply(a_next (k:=j) 2));exact rfl;exact rfl;exact b2;exact hc1;exact rfl)|((with_reducible apply a_ia);(iterate 5 exact rfl);exact hix)|exact by_oa|exact by_ca);exact by_g)|refine wb ?_)
       exact .two (.cell rfl rfl rfl rfl (.aggd (ds:=noIns.enc) rfl (.refl _))) (.tmp rfl (.one (.d (.refl _))))
      |false =>
       repeat(first|refine wa ?_|((with_reducible apply s5);(first|((with_reducible apply(a_next (k:=j) 2));exact rfl;exact rfl;exact b2;exact hc1;exact rfl)|((with_reducible apply a_ia);(iterate 5 exact rfl);exact hix)|exact by_oa|exact by_ca);exact by_g)|refine wb ?_)
       exact .two (.cell rfl rfl rfl rfl (.aggd (ds:=noIns.enc) rfl (.refl _))) (.tmp rfl (.one (.d (.refl _))))
 ·
  rw[hins2 hlen]
  repeat(first|refine wa ?_|((with_reducible apply s5);(first|((with_reducible apply a_bin);exact rfl;exact rfl;exact hbk;exact rfl)|exact by_oa|exact by_ca);exact by_g)|refine wb ?_)
  exact .two (.cell rfl rfl rfl rfl (.aggd (ds:=noIns.enc) rfl (.refl _))) (.tmp rfl (.one (.d (.refl _))))
theorem ok_tparse (s:Str) (hbig:s.length≤1000000000):FnOk Tryz.prog 95 [.d (dstr s)] (.tup [.agg (parseR s).1.enc,dint (parseR s).2]):=by
 refine fnOk_of tbl_ok mixed_ok Tryz.func95 rfl (by kernel_rfl) rfl rfl fun w0 own0=>?_
 by_cases hs:400 < s.length
 ·
  have hP:parseE s = .error 4:=by unfold parseE;rw[if_pos hs]
  try refine wk ?_
  exact .two (.cell rfl rfl rfl rfl (.aggd rfl (no_le hP))) (.tmp rfl (.one (.d (er_le hP))))
 have c1:=ok_lsplit s [59,32] (by omega) (by simp)
 have hsl:=split_len s [59,32]
 have hsp:∀ p∈split s [59,32],p.length≤400:=fun p hp=>Nat.le_trans (split_part hp) (by omega)
 by_cases h2:(split s [59,32]).length < 2
 ·
  have hP:parseE s = .error 8:=by
   unfold parseE
   rw[if_neg hs]
   match split s [59,32],h2 with
   | [],_=>rfl
   | [_],_=>rfl
   |_::_::_,h=>simp at h;omega
  generalize split s [59,32]=l at *
  try refine wk ?_
  exact .two (.cell rfl rfl rfl rfl (.aggd rfl (no_le hP))) (.tmp rfl (.one (.d (er_le hP))))
 obtain⟨p0,p1,ps,e0⟩:∃ p0 p1 ps,split s [59,32]=p0::p1::ps:=by
  match split s [59,32],h2 with
  | [],h=>simp at h
  | [_],h=>simp at h
  |a::b::r,_=>exact⟨a,b,r,rfl⟩
 obtain⟨v0,rs,e1⟩:=split_cons p0 [32]
 obtain⟨v1,ws,e2⟩:=split_cons p1 [32]
 have hPF:=parseE_fin (by omega) e0 e1 e2
 generalize hl:split s [59,32]=l at *
 have h2l:2≤l.length:=by omega
 have hst0:StopA 7:=⟨rfl⟩
 try refine wkS ?_
 clear hst0
 refine Stop.go (CW.stut (stut_promote_cell (id:=1) (j:=2) 153 5 rfl) ⟨rfl,rfl,trivial⟩ ?_)
 try refine wk ?_
 refine CW.loopT (fun t:Nat×D×D×List Ins=>[sp 2 0,ob 0 noEnc,sp 5 1,(.o 1,.ob (.box [.d t.2.1,.d t.2.2.1,.own 2 t.2.2.2.length])),oa 2 153 5 (t.2.2.2.map Ins.enc),sd 22 (encStrs l),sd 23 (dint l.length),sd 24 (dint t.1),nxt 3])
  (fun t=>t.1≤l.length∧(t.1 < 2→t.2.2.2=[])∧(1≤t.1→v0=wReads∧t.2.1=encStrs rs)∧(2≤t.1→v1=wWrites∧t.2.2.1=encStrs ws)∧t.2.2.2.length≤t.1∧(2≤t.1→parseE s=finE rs ws t.2.2.2 (l.drop t.1))) (fun t=>l.length - t.1) (0,.v nilS,.v nilS,[])
  ⟨by dsimp only;omega,fun _=>rfl,fun h=>by dsimp only at h;omega,fun h=>by dsimp only at h;omega,by simp,fun h=>by dsimp only at h;omega⟩ ?_ ?_
 ·
  exact by_less
 ·
  rintro ⟨x,R,W,code⟩ ⟨hx,hc0,hR,hW,hc,hF⟩
  dsimp only at hx hc0 hR hW hc hF ⊢
  rcases drop_case hx with ⟨h1,h2⟩|⟨p,h1,h2,h3⟩
  ·
   obtain⟨_,rfl⟩:=hR (by omega)
   obtain⟨_,rfl⟩:=hW (by omega)
   have hF:=hF (by omega)
   rw[h1]at hF
   unfold finE at hF
   simp only[codeE,List.append_nil]at hF
   have hrs:∀ k∈rs,k.length≤400:=fun k hk=>Nat.le_trans (split_part (s:=p0) (sep:=[32]) (by rw[e1];exact List.mem_cons_of_mem _ hk)) (hsp p0 (by rw[e0];simp))
   have hws:∀ k∈ws,k.length≤400:=fun k hk=>Nat.le_trans (split_part (s:=p1) (sep:=[32]) (by rw[e2];exact List.mem_cons_of_mem _ hk)) (hsp p1 (by rw[e0];simp))
   have hrl:rs.length≤400:=by have:=split_len p0 [32];rw[e1]at this;have:=hsp p0 (by rw[e0];simp);simp at *;omega
   have hwl:ws.length≤400:=by have:=split_len p1 [32];rw[e2]at this;have:=hsp p1 (by rw[e0];simp);simp at *;omega
   have hsm:Deed.Sm ⟨rs,ws,code⟩:=⟨by dsimp only;omega,by dsimp only;omega,by dsimp only;omega,fun k hk=>by have:=hrs k hk;omega,fun k hk=>by have:=hws k hk;omega⟩
   have cw:=ok_pwrongDeed ⟨rs,ws,code⟩ hsm
   have co:=ok_deedOwn ⟨rs,ws,code⟩ hsm
   by_cases hw:wrongDeed ⟨rs,ws,code⟩=0
   ·
    rw[if_pos hw]at hF
    rw[hw]at cw
    have hr:parseR s=(⟨rs,ws,code⟩,0):=by unfold parseR;rw[hF];rfl
    rw[hr]
    have hst0:StopA 22:=⟨rfl⟩
    try refine wkS ?_
    clear hst0
    refine Stop.go (CW.stut (stut_freeze_cell (id:=1) (j:=2) (i:=2) rfl (by simp)) ⟨rfl,rfl,trivial⟩ ?_)
    try refine wk ?_
    exact .two (.cell rfl rfl rfl rfl (.aggd rfl (.refl _))) (.tmp rfl (.one (.d (.refl _))))
   ·
    rw[if_neg hw]at hF
    generalize wrongDeed ⟨rs,ws,code⟩=we at *
    have hst0:StopA 22:=⟨rfl⟩
    try refine wkS ?_
    clear hst0
    refine Stop.go (CW.stut (stut_freeze_cell (id:=1) (j:=2) (i:=2) rfl (by simp)) ⟨rfl,rfl,trivial⟩ ?_)
    try refine wk ?_
    exact .two (.cell rfl rfl rfl rfl (.aggd rfl (no_le hF))) (.tmp rfl (.one (.d (er_le hF))))
  ·
   have hp:p∈l:=List.mem_of_getElem? h2
   have hpl:=hsp p hp
   have c2:=ok_lsplit p [32] (by omega) (by simp)
   by_cases hx0:x=0
   ·
    subst hx0
    obtain rfl:=hc0 (by omega)
    have h2':=h2
    rw[e0]at h2
    obtain rfl:p0=p:=by simpa using h2
    rw[e1]at c2
    have hrl:rs.length≤400:=by have:=split_len p0 [32];rw[e1]at this;simp at *;omega
    have hw0:(v0::rs)[0]? = some v0:=rfl
    have hWd:wReads=[114,101,97,100,115]:=rfl
    by_cases hv:v0=wReads
    ·
     rw[hWd]at hv
     repeat(first|refine wa ?_|((with_reducible apply s5);(first|exact a_call c2 rfl by_sub|exact by_oa|exact by_ca);exact by_g)|refine wb ?_)
     refine q_loopT (1,encStrs rs,W,[]) ⟨by dsimp only;omega,fun _=>rfl,fun _=>⟨hv,rfl⟩,fun h=>by dsimp only at h;omega,by simp,fun h=>by dsimp only at h;omega⟩ (by dsimp only;omega) ?_
     exact by_less
    ·
     have hP:parseE s = .error 2:=by rw[hPF,if_neg hv]
     rw[hWd]at hv
     repeat(first|refine wa ?_|((with_reducible apply s5);(first|exact a_call c2 rfl by_sub|exact by_oa|exact by_ca);exact by_g)|refine wb ?_)
     exact .two (.cell rfl rfl rfl rfl (.aggd rfl (no_le hP))) (.tmp rfl (.one (.d (er_le hP))))
   by_cases hx1:x=1
   ·
    subst hx1
    obtain rfl:=hc0 (by omega)
    obtain⟨hv0,hR⟩:=hR (by omega)
    have h2':=h2
    rw[e0]at h2
    obtain rfl:p1=p:=by simpa using h2
    rw[e2]at c2
    have hwl:ws.length≤400:=by have:=split_len p1 [32];rw[e2]at this;simp at *;omega
    have hw0:(v1::ws)[0]? = some v1:=rfl
    have hWd:wWrites=[119,114,105,116,101,115]:=rfl
    by_cases hv:v1=wWrites
    ·
     have hv':=hv
     rw[hWd]at hv
     repeat(first|refine wa ?_|((with_reducible apply s5);(first|exact a_call c2 rfl by_sub|exact by_oa|exact by_ca);exact by_g)|refine wb ?_)
     refine q_loopT (2,R,encStrs ws,[]) ⟨by dsimp only;omega,fun h=>by dsimp only at h;omega,fun _=>⟨hv0,hR⟩,fun _=>⟨hv,rfl⟩,by simp,fun _=>by rw[hPF,if_pos hv0,if_pos hv',e0];rfl⟩ (by dsimp only;omega) ?_
     exact by_less
    ·
     have hP:parseE s = .error 2:=by rw[hPF,if_pos hv0,if_neg hv]
     rw[hWd]at hv
     repeat(first|refine wa ?_|((with_reducible apply s5);(first|exact a_call c2 rfl by_sub|exact by_oa|exact by_ca);exact by_g)|refine wb ?_)
     exact .two (.cell rfl rfl rfl rfl (.aggd rfl (no_le hP))) (.tmp rfl (.one (.d (er_le hP))))
   have hF:=hF (by omega)
   rw[h1,finE_cons]at hF
   obtain⟨w,wz,hwds⟩:=split_cons p [32]
   rw[hwds]at hF c2
   have hwl:wz.length≤400:=by have:=split_len p [32];rw[hwds]at this;simp at *;omega
   have ci:=ok_tinstr w wz (by omega) (fun u hu=>Nat.le_trans (split_part (s:=p) (sep:=[32]) (by rw[hwds];exact List.mem_cons_of_mem _ hu)) (by omega))
   have hw0:(w::wz)[0]? = some w:=rfl
   cases hI:insE (w::wz) with
   |error e =>
    rw[hI]at hF ci
    dsimp only at hF
    have he0:e≠0:=by
     intro e0'
     subst e0'
     simp only[insE]at hI
     split at hI
     ·
      cases hI
     ·
      split at hI
      ·
       split at hI <;> cases hI
      ·
       cases hI
    repeat(first|refine wa ?_|((with_reducible apply s5);(first|exact a_call c2 rfl by_sub|exact by_oa|exact by_ca);exact by_g)|refine wb ?_)
    exact .two (.cell rfl rfl rfl rfl (.aggd rfl (no_le hF))) (.tmp rfl (.one (.d (er_le hF))))
   |ok i =>
    rw[hI]at hF ci
    dsimp only at hF
    repeat(first|refine wa ?_|((with_reducible apply s5);(first|exact a_call c2 rfl by_sub|exact by_oa|exact by_ca);exact by_g)|refine wb ?_)
    refine q_loopT (x+1,R,W,code++[i]) ⟨by dsimp only;omega,fun h=>by dsimp only at h;omega,fun _=>hR (by omega),fun _=>hW (by omega),by dsimp only;simp;omega,fun _=>hF⟩ (by dsimp only;omega) ?_
    exact by_less
end Go.Proofs.YtfpkamiobdkcpaaGreatDoor
namespace Go.Proofs.YtfpkamiobdkcpaaGreatDoor
open Go.AX Go.RF
set_option maxRecDepth 100000
set_option maxHeartbeats 16000000
theorem noEntry_le:DLes [dint 0,.v nilS] noEntry.enc := .cons (.refl _) (.cons (dle_nil 3) .nil)
structure BForm (b:Str) (K:Nat) (h0 u v:UInt8) (L:Str):Prop where
 len:b.length=K+2
 k:1≤K
 l:L.length+1=K
 ph:b[0]? = some h0
 pu:b[K]? = some u
 pv:b[K+1]? = some v
 t:b.take K=h0::L
 pb:(b.take K).drop 1=L
 p:parseB b=if sumN 1 (b.take K)=u.toNat*256+v.toNat then
   (if (split L [10]).getLast? = some [] then match parseL (split L [10]).dropLast with
    |.error e => .error e
    |.ok ds=>if wrongEntry ⟨h0.toNat,ds⟩=0 then .ok ⟨h0.toNat,ds⟩ else .error (wrongEntry ⟨h0.toNat,ds⟩)
   else .error 2)
  else .error 2
theorem bform {b:Str}(h:3≤b.length):∃ K h0 u v L,BForm b K h0 u v L:=by
 obtain⟨h0,L,u,v,rfl⟩:=bytes_form h
 refine⟨L.length+1,h0,u,v,L,⟨by simp,by omega,rfl,rfl,by simp,by simp,by simp,by simp,?_⟩⟩
 rw[parseB_app]
 simp
 all_goals rfl
theorem idx_i {α:Type}{l:List α}{f:α→List D}{k:Nat}{m:Int}{x:α}(h:l[k]? = some x) (hm:m=(k:Int)):idx (l.map f) m=some (f x):=by
 subst hm;exact idx_map h
theorem cut_toI {l:Str}{k:Nat}{m:Int}(h:k≤l.length) (hm:m=(k:Int)):cutI (l.map byteD) none (some m)=some ((l.take k).map byteD):=by
 subst hm
 rw[cut_to (by simpa using h),List.map_take]
theorem cut_ftI {l:Str}{j k:Nat}{m q:Int}(hj:j≤k) (h:k≤l.length) (hm:m=(j:Int)) (hq:q=(k:Int)):cutI (l.map byteD) (some m) (some q)=some (((l.take k).drop j).map byteD):=by
 subst hm hq
 rw[cut_ft hj (by simpa using h),List.map_drop,List.map_take]
theorem ok_lparse (b:Str) (hb:b.length≤100000000):FnOk Tryz.prog 47 [.d (encBytes b)] (.tup [.agg (resB (parseB b)).1.enc,dint (resB (parseB b)).2]):=by
 refine fnOk_of tbl_ok mixed_ok Tryz.func47 rfl (by kernel_rfl) rfl rfl fun w0 own0=>?_
 by_cases h3:b.length < 3
 ·
  have hp:parseB b = .error 8:=by unfold parseB;rw[if_pos h3]
  rw[hp]
  try refine wk ?_
  exact .two (.cell rfl rfl rfl rfl (.aggd (ds:=[dint 0,.v nilS]) rfl noEntry_le.agg)) (.tmp rfl (.one (.d (.refl _))))
 obtain⟨K,h0,u,v,L,⟨f1,f2,f3,f4,f5,f6,f7,f8,f9⟩⟩:=bform (b:=b) (by omega)
 have hu:=u.toNat_lt
 have hv:=v.toNat_lt
 have hh:=h0.toNat_lt
 have c1:=ok_lsum (b.take K) (by rw[List.length_take];omega)
 rw[f9]
 by_cases g1:sumN 1 (b.take K)=u.toNat*256+v.toNat
 rotate_left
 ·
  rw[if_neg g1]
  generalize sumN 1 (b.take K)=S at *
  repeat(first|refine wa ?_|((with_reducible apply s5);(first|((with_reducible apply a_ia);(iterate 5 exact rfl);first|exact idx_i f5 (by simp;omega)|exact idx_i f6 (by simp;omega)|exact idx_i f4 rfl)|((with_reducible apply a_to);(iterate 5 exact rfl);exact cut_toI (k:=K) (by omega) (by simp;omega))|((with_reducible apply a_bin);exact rfl;exact rfl;(first|((with_reducible apply bin_shlJ);exact rfl;exact hu)|((with_reducible apply bin_or8);exact hu;exact hv));exact rfl)|exact by_oa|exact by_ca);exact by_g)|refine wb ?_)
  exact .two (.cell rfl rfl rfl rfl (.aggd (ds:=[dint 0,.v nilS]) rfl noEntry_le.agg)) (.tmp rfl (.one (.d (.refl _))))
 rw[if_pos g1]
 rw[g1]at c1
 have c2:=ok_lsplit L [10] (by omega) (by simp)
 have hsl:=split_len L [10]
 have hsp:∀ p∈split L [10],p.length≤L.length:=fun p hp=>split_part hp
 have hne:split L [10]≠[]:=splitF_ne [10] L.length [] L
 generalize split L [10]=ls at *
 obtain⟨x,hx⟩:∃ x,ls.getLast? = some x:=⟨_,List.getLast?_eq_some_getLast hne⟩
 have hxi:ls[ls.length - 1]? = some x:=by rw[← List.getLast?_eq_getElem?];exact hx
 have hlp:=List.length_pos_iff.2 hne
 have hdl:ls.dropLast=ls.take (ls.length - 1):=List.dropLast_eq_take
 have hcutd:∀ m:Int,m=(ls.length:Int) - 1→cutI (ls.map encStr1) none (some m)=some (ls.dropLast.map encStr1):=fun m hm=>by
  rw[hm,show(ls.length:Int) - 1=((ls.length - 1:Nat):Int) by omega,cut_to (by simp),hdl,List.map_take]
 have hcut:∀ m:Int,m=(K:Int)→cutI (b.map byteD) (some 1) (some m)=some (L.map byteD):=fun m hm=>by
  have:=cut_ftI (l:=b) (j:=1) (k:=K) (m:=1) (q:=m) (by omega) (by omega) rfl hm
  rwa [f8]at this
 rw[hx]
 by_cases g2:x=[]
 rotate_left
 ·
  rw[if_neg (by simpa using g2)]
  repeat(first|refine wa ?_|((with_reducible apply s5);(first|((with_reducible apply a_ia);(iterate 5 exact rfl);first|exact idx_i f5 (by simp;omega)|exact idx_i f6 (by simp;omega)|exact idx_i f4 rfl)|((with_reducible apply a_to);(iterate 5 exact rfl);exact cut_toI (k:=K) (by omega) (by simp;omega))|((with_reducible apply a_bin);exact rfl;exact rfl;(first|((with_reducible apply bin_shlJ);exact rfl;exact hu)|((with_reducible apply bin_or8);exact hu;exact hv));exact rfl)|((with_reducible apply a_ft);(iterate 6 exact rfl);exact hcut _ (by first|(simp;done)|(simp;omega)))|((with_reducible apply a_b2s);(iterate 8 exact rfl))|((with_reducible apply a_ia);(iterate 5 exact rfl);exact idx_i hxi (by first|(simp;omega)|omega))|exact by_oa|exact by_ca);exact by_g)|refine wb ?_)
  exact .two (.cell rfl rfl rfl rfl (.aggd (ds:=[dint 0,.v nilS]) rfl noEntry_le.agg)) (.tmp rfl (.one (.d (.refl _))))
 subst g2
 rw[if_pos rfl]
 have hml:ls.dropLast.length≤L.length+1:=by rw[List.length_dropLast];omega
 have hmp:∀ p∈ls.dropLast,p.length≤L.length:=fun p hp=>hsp p (by rw[hdl]at hp;exact List.mem_of_mem_take hp)
 repeat(first|refine wa ?_|((with_reducible apply s5);(first|((with_reducible apply a_ia);(iterate 5 exact rfl);first|exact idx_i f5 (by simp;omega)|exact idx_i f6 (by simp;omega)|exact idx_i f4 rfl)|((with_reducible apply a_to);(iterate 5 exact rfl);exact cut_toI (k:=K) (by omega) (by simp;omega))|((with_reducible apply a_bin);exact rfl;exact rfl;(first|((with_reducible apply bin_shlJ);exact rfl;exact hu)|((with_reducible apply bin_or8);exact hu;exact hv));exact rfl)|((with_reducible apply a_ft);(iterate 6 exact rfl);exact hcut _ (by first|(simp;done)|(simp;omega)))|((with_reducible apply a_b2s);(iterate 8 exact rfl))|((with_reducible apply a_ia);(iterate 5 exact rfl);exact idx_i hxi (by first|(simp;omega)|omega))|((with_reducible apply a_to);(iterate 5 exact rfl);exact hcutd _ (by simp))|exact by_oa|exact by_ca);exact by_g)|refine wb ?_)
 refine CW.stut (stut_promote_cell (id:=1) (j:=1) 42 3 rfl) ⟨rfl,rfl,trivial⟩ ?_
 generalize ls.dropLast=ms at *
 refine CW.loopT (fun t:Nat×List Deed=>[sp 2 0,ob 0 [dint 0,.v nilS],sd 3 (dint 0),sp 5 1,(.o 1,.ob (.box [.d (dint h0.toNat),.own 2 t.1])),oa 2 42 3 (t.2.map Deed.enc),sd 60 (encStrs ms),sd 61 (dint ms.length),sd 62 (dint t.1),nxt 3])
  (fun t=>t.1≤ms.length∧t.2.length=t.1∧(∀ d∈t.2,wrongDeed d=0)∧accL t.2 (parseL (ms.drop t.1))=parseL ms) (fun t=>ms.length - t.1) (0,[]) ⟨by dsimp only;omega,rfl,by simp,by dsimp only;rw[List.drop_zero];cases parseL ms <;> rfl⟩ ?_ ?_
 ·
  exact by_less
 ·
  rintro ⟨j,ds⟩ ⟨hj,hl,hw,hI⟩
  dsimp only at hj hl hw hI ⊢
  rcases drop_case hj with ⟨k1,k2⟩|⟨s,k1,k2,k3⟩
  ·
   rw[k1,parseL]at hI
   simp only[accL,List.append_nil]at hI
   rw[← hI]
   dsimp only
   have c3:=ok_lwrong ⟨h0.toNat,ds⟩ (fun d hd=>wrong_sm (hw d hd)) (by dsimp only;omega)
   have hst0:StopA 18:=⟨rfl⟩
   try refine wkS ?_
   clear hst0
   refine Stop.go (CW.stut (stut_freeze_cell (id:=1) (j:=1) (i:=2) rfl (by simp;omega)) ⟨rfl,rfl,trivial⟩ ?_)
   by_cases g3:wrongEntry ⟨h0.toNat,ds⟩=0
   ·
    rw[if_pos g3]
    rw[g3]at c3
    try refine wk ?_
    exact .two (.cell rfl rfl rfl rfl (.aggd (ds:=Entry.enc ⟨h0.toNat,ds⟩) rfl (.refl _))) (.tmp rfl (.one (.d (.refl _))))
   ·
    rw[if_neg g3]
    generalize wrongEntry ⟨h0.toNat,ds⟩=W at *
    try refine wk ?_
    exact .two (.cell rfl rfl rfl rfl (.aggd (ds:=[dint 0,.v nilS]) rfl noEntry_le.agg)) (.tmp rfl (.one (.d (.refl _))))
  ·
   rw[k1]at hI
   simp only[parseL]at hI
   have hsl:=hmp s (List.mem_of_getElem? k2)
   have c3:=ok_tparse s (by omega)
   cases hp:parseE s with
   |error e =>
    rw[hp]at hI
    rw[parseR_err hp]at c3
    have he:=parseE_err hp
    simp only[accL]at hI
    rw[← hI]
    repeat(first|refine wa ?_|((with_reducible apply s5);(first|exact a_call c3 rfl by_sub|exact by_oa|exact by_ca);exact by_g)|refine wb ?_)
    exact .two (.cell rfl rfl rfl rfl (.aggd (ds:=[dint 0,.v nilS]) rfl noEntry_le.agg)) (.tmp rfl (.one (.d (.refl _))))
   |ok d =>
    rw[hp]at hI
    rw[parseR_ok hp]at c3
    have hd:=parseE_right hp
    dsimp only at hI c3
    have hI2:accL (ds++[d]) (parseL (ms.drop (j+1)))=parseL ms:=by
     rw[← hI]
     cases parseL (ms.drop (j+1)) with
     |error e=>rfl
     |ok l=>simp[accL]
    repeat(first|((with_reducible apply s5);((with_reducible apply a_bs [d.enc]);(iterate 9 exact rfl);(repeat(first|exact PartsE.nil|(apply PartsE.cons;exact rfl;exact rfl))));exact by_g)|refine wa1 ?_|((with_reducible apply s5);(first|exact a_call c3 rfl by_sub|exact by_oa|exact by_ca);exact by_g)|refine wb ?_)
    refine q_loopT (j+1,ds++[d]) ⟨by dsimp only;omega,by simp;omega,fun y hy=>?_,hI2⟩ (by dsimp only;omega) ?_
    ·
     rcases List.mem_append.1 hy with hy|hy
     ·
      exact hw y hy
     ·
      rw[List.mem_singleton.1 hy];exact hd
    exact by_less
theorem ok_rparse6 (b:Str) (hb:b.length≤100000000):FnOk Tryz.prog 48 [.d (encBytes b)] (.tup [.agg (resB (parseB b)).1.enc,dint (resB (parseB b)).2]):=by
 refine fnOk_of tbl_ok mixed_ok Tryz.func48 rfl (by kernel_rfl) rfl rfl fun w0 own0=>?_
 by_cases h3:b.length < 3
 ·
  have hp:parseB b = .error 8:=by unfold parseB;rw[if_pos h3]
  rw[hp]
  try refine wk ?_
  exact .two (.cell rfl rfl rfl rfl (.aggd (ds:=[dint 0,.v nilS]) rfl noEntry_le.agg)) (.tmp rfl (.one (.d (.refl _))))
 obtain⟨K,h0,u,v,L,⟨f1,f2,f3,f4,f5,f6,f7,f8,f9⟩⟩:=bform (b:=b) (by omega)
 have hu:=u.toNat_lt
 have hv:=v.toNat_lt
 have hh:=h0.toNat_lt
 have c1:=ok_rsum (b.take K) (by rw[List.length_take];omega)
 rw[f9]
 by_cases g1:sumN 1 (b.take K)=u.toNat*256+v.toNat
 rotate_left
 ·
  rw[if_neg g1]
  generalize sumN 1 (b.take K)=S at *
  repeat(first|refine wa ?_|((with_reducible apply s5);(first|((with_reducible apply a_ia);(iterate 5 exact rfl);first|exact idx_i f5 (by simp;omega)|exact idx_i f6 (by simp;omega)|exact idx_i f4 rfl)|((with_reducible apply a_to);(iterate 5 exact rfl);exact cut_toI (k:=K) (by omega) (by simp;omega))|((with_reducible apply a_bin);exact rfl;exact rfl;(with_reducible apply bin_mul);(exact by omega);exact rfl)|exact by_oa|exact by_ca);exact by_g)|refine wb ?_)
  exact .two (.cell rfl rfl rfl rfl (.aggd (ds:=[dint 0,.v nilS]) rfl noEntry_le.agg)) (.tmp rfl (.one (.d (.refl _))))
 rw[if_pos g1]
 rw[g1]at c1
 have hlast:=split_last L L.length [] (Nat.le_refl _)
 have hgo:=goL_split L L.length [] [] (Nat.le_refl _)
 have hspl:split L [10]=splitF [10] L.length [] L:=rfl
 rw[hspl]
 by_cases g2:(splitF [10] L.length [] L).getLast? = some []
 rotate_left
 ·
  rw[if_neg g2]
  have hL:L≠[]:=fun h=>g2 (hlast.2 (.inl ⟨h,rfl⟩))
  obtain⟨z,hz⟩:∃ z,L.getLast? = some z:=⟨_,List.getLast?_eq_some_getLast hL⟩
  have hz10:z≠10:=fun h=>g2 (hlast.2 (.inr (by rw[hz,h])))
  have hLp:=List.length_pos_iff.2 hL
  have hzb:b[K - 1]? = some z:=by
   rw[List.getLast?_eq_getElem?]at hz
   have h1:(b.take K)[K - 1]? = some z:=by
    rw[f7,show K - 1=(L.length - 1)+1 by omega,List.getElem?_cons_succ];exact hz
   rw[List.getElem?_take,if_pos (by omega)]at h1
   exact h1
  have hzn:z.toNat≠10:=fun h=>hz10 (UInt8.toNat_inj.1 h)
  have hzl:=z.toNat_lt
  repeat(first|refine wa ?_|((with_reducible apply s5);(first|((with_reducible apply a_ia);(iterate 5 exact rfl);first|exact idx_i f5 (by simp;omega)|exact idx_i f6 (by simp;omega)|exact idx_i f4 rfl)|((with_reducible apply a_to);(iterate 5 exact rfl);exact cut_toI (k:=K) (by omega) (by simp;omega))|((with_reducible apply a_bin);exact rfl;exact rfl;(with_reducible apply bin_mul);(exact by omega);exact rfl)|((with_reducible apply a_ia);(iterate 5 exact rfl);exact idx_i hzb (by first|(simp;omega)|omega))|exact by_oa|exact by_ca);exact by_g)|refine wb ?_)
  exact .two (.cell rfl rfl rfl rfl (.aggd (ds:=[dint 0,.v nilS]) rfl noEntry_le.agg)) (.tmp rfl (.one (.d (.refl _))))
 rw[if_pos g2]
 have hgo2:=hgo g2
 have hfin:accL [] (parseL (splitF [10] L.length [] L).dropLast)=parseL (splitF [10] L.length [] L).dropLast:=by
  cases parseL (splitF [10] L.length [] L).dropLast <;> rfl
 rw[hfin]at hgo2
 rw[← hgo2]
 have hz10:L=[]∨b[K - 1]? = some 10:=by
  rcases hlast.1 g2 with h|h
  ·
   exact .inl h.1
  ·
   by_cases hL:L=[]
   ·
    exact .inl hL
   ·
    right
    have hLp:=List.length_pos_iff.2 hL
    rw[List.getLast?_eq_getElem?]at h
    have h1:(b.take K)[K - 1]? = some 10:=by
     rw[f7,show K - 1=(L.length - 1)+1 by omega,List.getElem?_cons_succ];exact h
    rw[List.getElem?_take,if_pos (by omega)]at h1
    exact h1
 have hz2:¬ 1 < K∨(1 < K∧b[K - 1]? = some 10):=by
  rcases hz10 with h|h
  ·
   left;rw[h]at f3;simp at f3;omega
  ·
   by_cases hk:1 < K
   ·
    exact .inr ⟨hk,h⟩
   ·
    exact .inl hk
 clear hlast hgo hfin hz10
 obtain⟨tgt,htg⟩:∃ tgt,goL [] [] L=tgt:=⟨_,rfl⟩
 rw[htg]
 have hcf:∀ (m q:Nat),m≤q→q≤K→cutI (b.map byteD) (some (m:Int)) (some (q:Int))=some (((b.take q).drop m).map byteD):=fun m q h1 h2=>cut_ftI h1 (by omega) rfl rfl
 have hst0:StopA 6:=⟨rfl⟩
 repeat(first|refine waS ?_|((with_reducible apply s5);(first|((with_reducible apply a_ia);(iterate 5 exact rfl);first|exact idx_i f5 (by simp;omega)|exact idx_i f6 (by simp;omega)|exact idx_i f4 rfl)|((with_reducible apply a_to);(iterate 5 exact rfl);exact cut_toI (k:=K) (by omega) (by simp;omega))|((with_reducible apply a_bin);exact rfl;exact rfl;(with_reducible apply bin_mul);(exact by omega);exact rfl)|exact by_oa|exact by_ca);exact by_g)|refine wb ?_)
 clear hst0
 refine Stop.cutk [] [.s 0,.s 2,.s 3,.s 4,.o 0,.nx] ?_ ?_
 ·
  rcases hz2 with hk|⟨hk,hz⟩
  ·
   repeat(first|refine wa ?_|((with_reducible apply s5);(first|((with_reducible apply a_ia);(iterate 5 exact rfl);first|exact idx_i f5 (by simp;omega)|exact idx_i f6 (by simp;omega)|exact idx_i f4 rfl)|((with_reducible apply a_to);(iterate 5 exact rfl);exact cut_toI (k:=K) (by omega) (by simp;omega))|((with_reducible apply a_bin);exact rfl;exact rfl;(with_reducible apply bin_mul);(exact by omega);exact rfl)|exact by_oa|exact by_ca);exact by_g)|refine wb ?_)
   refine q_cut ?_
   exact by_less
  ·
   repeat(first|refine wa ?_|((with_reducible apply s5);(first|((with_reducible apply a_ia);(iterate 5 exact rfl);first|exact idx_i f5 (by simp;omega)|exact idx_i f6 (by simp;omega)|exact idx_i f4 rfl)|((with_reducible apply a_to);(iterate 5 exact rfl);exact cut_toI (k:=K) (by omega) (by simp;omega))|((with_reducible apply a_bin);exact rfl;exact rfl;(with_reducible apply bin_mul);(exact by omega);exact rfl)|((with_reducible apply a_ia);(iterate 5 exact rfl);exact idx_i hz (by simp;omega))|exact by_oa|exact by_ca);exact by_g)|refine wb ?_)
   refine q_cut ?_
   exact by_less
 clear hz2
 repeat(first|refine wa ?_|((with_reducible apply s5);(first|((with_reducible apply a_ia);(iterate 5 exact rfl);first|exact idx_i f5 (by simp;omega)|exact idx_i f6 (by simp;omega)|exact idx_i f4 rfl)|((with_reducible apply a_to);(iterate 5 exact rfl);exact cut_toI (k:=K) (by omega) (by simp;omega))|((with_reducible apply a_bin);exact rfl;exact rfl;(with_reducible apply bin_mul);(exact by omega);exact rfl)|exact by_oa|exact by_ca);exact by_g)|refine wb ?_)
 refine CW.stut (stut_promote_cell (id:=1) (j:=1) 42 3 rfl) ⟨rfl,rfl,trivial⟩ ?_
 refine CW.loopT (fun t:Nat×Nat×List Deed=>[sd 0 (encBytes b),sp 2 0,ob 0 [dint 0,.v nilS],sd 3 (dint 0),sd 4 (dint K),sp 5 1,(.o 1,.ob (.box [.d (dint h0.toNat),.own 2 t.2.2.length])),oa 2 42 3 (t.2.2.map Deed.enc),sd 6 (dint t.2.1),sd 7 (dint t.1),nxt 3])
  (fun t=>(1≤t.2.1∧t.2.1≤t.1∧t.1≤K)∧t.2.2.length≤t.1∧(∀ d∈t.2.2,wrongDeed d=0)∧goL ((b.take t.1).drop t.2.1) t.2.2 ((b.take K).drop t.1)=tgt) (fun t=>K - t.1) (1,1,[]) ⟨⟨by dsimp only;omega,by dsimp only;omega,by dsimp only;omega⟩,by simp,by simp,?_⟩ ?_ ?_
 ·
  dsimp only
  rw[f8,List.drop_eq_nil_of_le (by rw[List.length_take];omega)]
  exact htg
 ·
  exact by_less
 ·
  rintro ⟨i,fr,ds⟩ ⟨⟨i1,i2,i3⟩,hl,hw,hI⟩
  dsimp only at i1 i2 i3 hl hw hI ⊢
  by_cases hiK:i < K
  ·
   obtain⟨c,hc⟩:∃ c,b[i]? = some c:=⟨b[i]'(by omega),List.getElem?_eq_getElem (by omega)⟩
   have hcl:=c.toNat_lt
   have hdr:(b.take K).drop i=c::(b.take K).drop (i+1):=by
    have h1:(b.take K)[i]? = some c:=by rw[List.getElem?_take,if_pos hiK];exact hc
    obtain⟨h2,h3⟩:=List.getElem?_eq_some_iff.1 h1
    rw[List.drop_eq_getElem_cons h2,h3]
   have hcur:(b.take (i+1)).drop fr=(b.take i).drop fr++[c]:=by
    rw[List.take_add_one,hc]
    exact List.drop_append_of_le_length (by rw[List.length_take];omega)
   rw[hdr]at hI
   simp only[goL]at hI
   by_cases hc10:c=10
   ·
    rw[if_pos hc10]at hI
    have hcn:c.toNat=10:=by rw[hc10];rfl
    have c3:=ok_parse ((b.take i).drop fr) (by rw[List.length_drop,List.length_take];omega)
    have hcut:=hcf fr i i2 i3
    cases hp:parseE ((b.take i).drop fr) with
    |error e =>
     rw[hp]at hI
     rw[parseR_err hp]at c3
     have he:=parseE_err hp
     dsimp only at hI c3
     subst hI
     repeat(first|refine wa ?_|((with_reducible apply s5);(first|((with_reducible apply a_ia);(iterate 5 exact rfl);first|exact idx_i f5 (by simp;omega)|exact idx_i f6 (by simp;omega)|exact idx_i f4 rfl)|((with_reducible apply a_ft);(iterate 6 exact rfl);exact hcut)|((with_reducible apply a_b2s);(iterate 8 exact rfl))|exact by_oa|exact by_ca);exact by_g)|refine wb ?_)
     exact .two (.cell rfl rfl rfl rfl (.aggd (ds:=[dint 0,.v nilS]) rfl noEntry_le.agg)) (.tmp rfl (.one (.d (.refl _))))
    |ok d =>
     rw[hp]at hI
     rw[parseR_ok hp]at c3
     have hd:=parseE_right hp
     dsimp only at hI c3
     generalize (b.take i).drop fr=cur at *
     repeat(first|((with_reducible apply s5);((with_reducible apply a_bs [d.enc]);(iterate 9 exact rfl);(repeat(first|exact PartsE.nil|(apply PartsE.cons;exact rfl;exact rfl))));exact by_g)|refine wa1 ?_|((with_reducible apply s5);(first|((with_reducible apply a_ia);(iterate 5 exact rfl);first|exact idx_i f5 (by simp;omega)|exact idx_i f6 (by simp;omega)|exact idx_i f4 rfl)|((with_reducible apply a_ft);(iterate 6 exact rfl);exact hcut)|((with_reducible apply a_b2s);(iterate 8 exact rfl))|exact by_oa|exact by_ca);exact by_g)|refine wb ?_)
     refine q_loopT (i+1,i+1,ds++[d]) ⟨⟨by dsimp only;omega,by dsimp only;omega,by dsimp only;omega⟩,by simp;omega,fun y hy=>?_,?_⟩ (by dsimp only;omega) ?_
     ·
      rcases List.mem_append.1 hy with hy|hy
      ·
       exact hw y hy
      ·
       rw[List.mem_singleton.1 hy];exact hd
     ·
      dsimp only
      rw[List.drop_eq_nil_of_le (by rw[List.length_take];omega)]
      exact hI
     exact by_less
   ·
    rw[if_neg hc10]at hI
    have hcn:c.toNat≠10:=fun h=>hc10 (UInt8.toNat_inj.1 h)
    repeat(first|refine wa ?_|((with_reducible apply s5);(first|((with_reducible apply a_ia);(iterate 5 exact rfl);first|exact idx_i f5 (by simp;omega)|exact idx_i f6 (by simp;omega)|exact idx_i f4 rfl)|exact by_oa|exact by_ca);exact by_g)|refine wb ?_)
    refine q_loopT (i+1,fr,ds) ⟨⟨i1,by dsimp only;omega,by dsimp only;omega⟩,by dsimp only;omega,hw,by dsimp only;rw[hcur];exact hI⟩ (by dsimp only;omega) ?_
    exact by_less
  ·
   obtain rfl:i=K:=by omega
   have hnil:(b.take i).drop i=[]:=List.drop_eq_nil_of_le (by rw[List.length_take];omega)
   rw[hnil]at hI
   simp only[goL]at hI
   subst hI
   dsimp only
   have c3:=ok_rwrongEntry ⟨h0.toNat,ds⟩ (fun d hd=>wrong_sm (hw d hd)) (by dsimp only;omega)
   have hst0:StopA 19:=⟨rfl⟩
   try refine wkS ?_
   clear hst0
   refine Stop.go (CW.stut (stut_freeze_cell (id:=1) (j:=1) (i:=2) rfl (by simp)) ⟨rfl,rfl,trivial⟩ ?_)
   by_cases g3:wrongEntry ⟨h0.toNat,ds⟩=0
   ·
    rw[if_pos g3]
    rw[g3]at c3
    repeat(first|refine wa ?_|((with_reducible apply s5);(first|exact a_call c3 rfl by_sub|exact by_oa|exact by_ca);exact by_g)|refine wb ?_)
    exact .two (.cell rfl rfl rfl rfl (.aggd (ds:=Entry.enc ⟨h0.toNat,ds⟩) rfl (.refl _))) (.tmp rfl (.one (.d (.refl _))))
   ·
    rw[if_neg g3]
    generalize wrongEntry ⟨h0.toNat,ds⟩=W at *
    repeat(first|refine wa ?_|((with_reducible apply s5);(first|exact a_call c3 rfl by_sub|exact by_oa|exact by_ca);exact by_g)|refine wb ?_)
    exact .two (.cell rfl rfl rfl rfl (.aggd (ds:=[dint 0,.v nilS]) rfl noEntry_le.agg)) (.tmp rfl (.one (.d (.refl _))))
set_option maxHeartbeats 8000000
theorem resB_sm (b:Str):(resB (parseB b)).1.deeds.length≤268435456∧∀ d∈(resB (parseB b)).1.deeds,d.Sm:=by
 cases hp:parseB b with
 |error e=>exact⟨by simp[resB,noEntry],by simp[resB,noEntry]⟩
 |ok e =>
  obtain⟨h1,_⟩:=bytes_parse hp
  obtain⟨_,h2,_,h4⟩:=wrongEntry_out h1
  exact⟨by simp only[resB];omega,fun d hd=>wrong_sm (h4 d hd)⟩
theorem ok_LogTells (e:Entry) (l:List Entry) (b:Str) (he:e.deeds.length≤10000000∧∀ d∈e.deeds,d.Sm) (hl:l.length≤10000000) (hd:∀ e∈l,e.deeds.length≤10000000∧∀ d∈e.deeds,d.Sm) (hb:b.length≤10000000) :
  FnOk Tryz.prog 5 [.d (.agg e.enc),.d (encEntries l),.d (encBytes b)] (.one (dbool true)):=by
 refine fnOk_of tbl_ok mixed_ok Tryz.func5 rfl (by kernel_rfl) rfl rfl fun w0 own0=>?_
 have c1:=ok_lwrong e he.2 (by omega)
 have c2:=ok_rwrongEntry e he.2 (by omega)
 have c3:=ok_lsum b (by omega)
 have c4:=ok_rsum b (by omega)
 have c5:=ok_logOwn l (by omega) fun x hx=>⟨by have:=(hd x hx).1;omega,(hd x hx).2⟩
 have c6:=ok_sameEnts l l (by omega) fun x hx=>⟨by have:=(hd x hx).1;omega,(hd x hx).2⟩
 rw[allB_refl sameEnt_refl]at c6
 have c9:=ok_lparse b (by omega)
 have c10:=ok_rparse6 b (by omega)
 have hx:=resB_sm b
 generalize resB (parseB b)=p at *
 obtain⟨x,w⟩:=p
 dsimp only at c9 c10 hx
 have c11:=ok_sameEnts [x] [x] (by simp) (by simpa using hx)
 rw[allB_refl sameEnt_refl]at c11
 have hS:sumN 1 b < 65521:=sumN_lt (by omega)
 generalize sumN 1 b=S at *
 by_cases hw:wrongEntry e=0
 ·
  have c7:=ok_lbytes e hw
  have c8:=ok_rbytes e hw
  rw[hw]at c1 c2
  generalize bytesE e=B at *
  repeat(first|((with_reducible apply s5);((with_reducible apply a_bs [x.enc]);(iterate 9 exact rfl);(repeat(first|exact PartsE.nil|(apply PartsE.cons;exact rfl;exact rfl))));exact by_g)|refine wa1 ?_|((with_reducible apply s5);(first|exact a_call c6 rfl by_sub|exact a_call c11 rfl by_sub|((with_reducible apply a_b2s);(iterate 8 exact rfl))|exact by_oa|exact by_ca);exact by_g)|refine wb ?_)
  exact .one (.tmp rfl (.one (.d (dle_bool (by simp)))))
 ·
  generalize wrongEntry e=W at *
  repeat(first|((with_reducible apply s5);((with_reducible apply a_bs [x.enc]);(iterate 9 exact rfl);(repeat(first|exact PartsE.nil|(apply PartsE.cons;exact rfl;exact rfl))));exact by_g)|refine wa1 ?_|((with_reducible apply s5);(first|exact a_call c6 rfl by_sub|exact a_call c11 rfl by_sub|exact by_oa|exact by_ca);exact by_g)|refine wb ?_)
  exact .one (.tmp rfl (.one (.d (dle_bool (by simp)))))
def QC (L:List Entry) (k:Nat) (e:Engine):Prop:=∃ m:Nat,e.base=m∧m≤(dOf L k).length∧e.deeds=(dOf L k).drop m∧BInv e (sq [] (dOf L k) m)
theorem dOf_ext {L M:List Entry}{k:Nat}(h:k≤L.length):dOf (L++M) k=dOf L k:=by
 unfold dOf
 rw[List.take_append_of_le_length h]
theorem QC.adds {L:List Entry}(hw:∀ x∈L,wrongEntry x=0):Adds L (QC L):=by
 rintro k e x ⟨m,h1,h2,h3,h4⟩ hx
 obtain⟨_,_,hx3,hx4⟩:=wrongEntry_out (hw x (List.mem_of_getElem? hx))
 rw[addE_right hx3]
 have hd:=addAll_deeds (l:=x.deeds) (e:=e)
 refine⟨m,hd.2.trans h1,?_,?_,?_⟩
 ·
  rw[dOf_succ hx,List.length_append];omega
 ·
  rw[hd.1,h3,dOf_succ hx,List.drop_append_of_le_length h2]
 ·
  rw[dOf_succ hx,sq_append h2]
  exact h4.addAll hx4
theorem QC.go {L:List Entry}{k:Nat}{e:Engine}(h:QC L k e) (x:Int):QC L k (goE e x).1:=by
 obtain⟨m,h1,h2,h3,h4⟩:=h
 obtain⟨g1,g2⟩:=goE_deeds e x
 exact⟨m,g2.trans h1,h2,g1.trans h3,h4.goE x⟩
theorem QC.clear {L:List Entry}{k:Nat}{e:Engine}(h:QC L k e):QC L k (clearE e):=by
 obtain⟨m,h1,h2,h3,h4⟩:=h
 have hm:=markN_le e.state
 have hl:=h4.W.l
 have hdl:e.deeds.length=(dOf L k).length - m:=by rw[h3,List.length_drop]
 refine⟨m+markN e.state,?_,by omega,?_,?_⟩
 ·
  show e.base+(markN e.state:Int)=_
  rw[h1];omega
 ·
  show e.deeds.drop (markN e.state)=_
  rw[h3,List.drop_drop]
 ·
  have hc:=h4.clearE
  rw[h3,sq_drop _ (by omega)]at hc
  exact hc
theorem CInv.ext {L M:List Entry}{r:Replica}(h:CInv L (QC L) r):CInv (L++M) (QC (L++M)) r:=by
 obtain⟨⟨k,h1,h2,h3⟩,he,hd⟩:=h
 refine⟨⟨k,h1,by rw[List.length_append];omega,?_⟩,fun x hx=>?_,hd⟩
 ·
  unfold QC at h3 ⊢
  rw[dOf_ext h2];exact h3
 ·
  obtain⟨g1,i,g2,g3⟩:=he x hx
  refine⟨g1,i,g2,?_⟩
  rw[List.getElem?_append_left (List.getElem?_eq_some_iff.1 g3).1];exact g3
theorem CInv.go {L:List Entry}{r:Replica}(h:CInv L (QC L) r) (n:Int):CInv L (QC L) (goR r n).1:=by
 unfold goR
 split
 ·
  exact h
 split
 ·
  obtain⟨⟨k,h1,h2,h3⟩,he,hd⟩:=h
  exact⟨⟨k,h1,h2,h3.go _⟩,he,hd⟩
 ·
  exact h
theorem CInv.clear {L:List Entry}{r:Replica}(h:CInv L (QC L) r):CInv L (QC L) (clearR r):=by
 obtain⟨⟨k,h1,h2,h3⟩,he,hd⟩:=h
 exact⟨⟨k,h1,h2,h3.clear⟩,he,hd⟩
theorem noR_c (L:List Entry):CInv L (QC L) noR :=
 ⟨⟨0,rfl,by omega,0,rfl,by omega,rfl,newE_b (r:=[]) (by decide)⟩,by simp[noR],by simp[noR]⟩
structure KInv (c:Cluster):Prop where
 l:c.log.length≤12
 w:∀ (i:Nat) (x:Entry),c.log[i]? = some x→x.number=i∧wrongEntry x=0
 k:c.reps.length≤3
 r:∀ r∈c.reps,RInv r∧CInv c.log (QC c.log) r
 p:c.net.length≤16
 d:∀ p∈c.net,(0≤p.dst∧p.dst < c.reps.length)∧∃ (i:Nat) (e:Entry),c.log[i]? = some e∧p.data=bytesE e
theorem KInv.right {c:Cluster}(h:KInv c):∀ x∈c.log,wrongEntry x=0:=fun x hx=>by
 obtain⟨i,hi⟩:=List.mem_iff_getElem?.1 hx
 exact(h.w i x hi).2
theorem newC_inv {n:Int}(h:n≤3):KInv (newC n):=by
 refine⟨by simp[newC],fun i x hx=>by simp[newC]at hx,by simp[newC];omega,fun r hr=>?_,by simp[newC],fun p hp=>by simp[newC]at hp⟩
 obtain rfl:r=noR:=by simp[newC]at hr;exact hr.2
 exact⟨noR_inv,noR_c _⟩
theorem KInv.batch {c:Cluster}(h:KInv c) (l:List Deed):KInv (batchC c l).1:=by
 unfold batchC
 split
 ·
  exact h
 split
 ·
  next h1 h2 =>
  refine⟨by simp;omega,fun i x hx=>?_,h.k,fun r hr=>⟨(h.r r hr).1,(h.r r hr).2.ext⟩,h.p,fun p hp=>?_⟩
  ·
   dsimp only at hx
   rcases Nat.lt_or_ge i c.log.length with hi|hi
   ·
    rw[List.getElem?_append_left hi]at hx;exact h.w i x hx
   ·
    rw[List.getElem?_append_right hi]at hx
    have hi0:i=c.log.length:=by
     have:=(List.getElem?_eq_some_iff.1 hx).1
     simp at this;omega
    subst hi0
    simp at hx
    subst hx
    exact⟨rfl,h2⟩
  ·
   obtain⟨h3,i,e,h4,h5⟩:=h.d p hp
   exact⟨h3,i,e,by dsimp only;rw[List.getElem?_append_left (List.getElem?_eq_some_iff.1 h4).1];exact h4,h5⟩
 ·
  exact h
theorem KInv.send {c:Cluster}(h:KInv c) (n m:Int):KInv (sendC c n m).1:=by
 unfold sendC
 split
 ·
  exact h
 next r hr =>
 split
 ·
  exact h
 next e he =>
 obtain⟨j,rfl,hj⟩:=nth_some hr
 obtain⟨i,rfl,hi⟩:=nth_some he
 dsimp only
 split
 ·
  refine⟨h.l,h.w,h.k,h.r,by simp;omega,fun p hp=>?_⟩
  dsimp only at hp ⊢
  rcases List.mem_append.1 hp with hp|hp
  ·
   exact h.d p hp
  ·
   rw[List.mem_singleton.1 hp]
   have:=(List.getElem?_eq_some_iff.1 hj).1
   exact⟨by dsimp only;omega,i,e,hi,rfl⟩
 ·
  exact h
theorem KInv.drop {c:Cluster}(h:KInv c) (n:Nat):KInv { c with net:=c.net.eraseIdx n } :=
 ⟨h.l,h.w,h.k,h.r,Nat.le_trans (List.eraseIdx_sublist _ _).length_le h.p,fun p hp=>h.d p (List.mem_of_mem_eraseIdx hp)⟩
theorem KInv.setR {c:Cluster}(h:KInv c) {n:Nat}{r:Replica}(hr:RInv r∧CInv c.log (QC c.log) r):KInv { c with reps:=c.reps.set n r }:=by
 refine⟨h.l,h.w,by simp;exact h.k,fun x hx=>?_,h.p,fun p hp=>?_⟩
 ·
  rcases List.mem_or_eq_of_mem_set hx with hx|rfl
  ·
   exact h.r x hx
  ·
   exact hr
 ·
  have:=h.d p hp
  dsimp only
  rw[List.length_set];exact this
theorem KInv.come1 {c:Cluster}(h:KInv c) {r:Replica}(hr:r∈c.reps) {i:Nat}{e:Entry}(he:c.log[i]? = some e):RInv (comeE r e).1∧CInv c.log (QC c.log) (comeE r e).1:=by
 obtain⟨h1,h2⟩:=h.r r hr
 obtain⟨h3,h4⟩:=h.w i e he
 exact⟨comeE_inv h1 h4,(h2.come (QC.adds h.right) he h3).1⟩
theorem KInv.come {c:Cluster}(h:KInv c) {p:Packet}(hp:∃ (i:Nat) (e:Entry),c.log[i]? = some e∧p.data=bytesE e):KInv (comeC c p):=by
 obtain⟨i,e,h1,h2⟩:=hp
 unfold comeC
 split
 ·
  exact h
 next r hr =>
 obtain⟨j,hj1,hj⟩:=nth_some hr
 rw[h2,parse_bytes (h.w i e h1).2]
 exact h.setR (h.come1 (List.mem_of_getElem? hj) h1)
theorem KInv.packet {c:Cluster}(h:KInv c) (k n:Int):KInv (packetC c k n).1:=by
 unfold packetC
 split
 ·
  exact h
 next p hp =>
 obtain⟨j,rfl,hj⟩:=nth_some hp
 have hd:=h.d p (List.mem_of_getElem? hj)
 split
 ·
  dsimp only
  split
  ·
   refine⟨h.l,h.w,h.k,h.r,by simp;omega,fun q hq=>?_⟩
   rcases List.mem_append.1 hq with hq|hq
   ·
    exact h.d q hq
   ·
    rw[List.mem_singleton.1 hq];exact hd
  ·
   exact h
 split
 ·
  exact h.drop _
 ·
  exact(h.drop _).come hd.2
theorem KInv.run {c:Cluster}(h:KInv c) (n m:Int):KInv (runC c n m).1:=by
 unfold runC
 split
 ·
  exact h
 next r hr =>
 obtain⟨j,rfl,hj⟩:=nth_some hr
 obtain⟨h1,h2⟩:=h.r r (List.mem_of_getElem? hj)
 exact h.setR ⟨h1.go m,h2.go m⟩
theorem KInv.clr {c:Cluster}(h:KInv c) (n:Int):KInv (clrC c n).1:=by
 unfold clrC
 split
 ·
  exact h
 next r hr =>
 obtain⟨j,rfl,hj⟩:=nth_some hr
 obtain⟨h1,h2⟩:=h.r r (List.mem_of_getElem? hj)
 exact h.setR ⟨h1.clear,h2.clear⟩
theorem KInv.step {c:Cluster}(h:KInv c) (s:Step):KInv (doC c s).1:=by
 unfold doC
 split
 ·
  exact h.batch _
 split
 ·
  exact h.send _ _
 split
 ·
  exact h.packet _ _
 split
 ·
  exact h.run _ _
 split
 ·
  exact h.clr _
 ·
  exact h
theorem KInv.play:∀ {l:List Step}{c:Cluster},KInv c→KInv (playC c l)
 | [],_,h=>h
 |s::l,c,h=>by
  simp only[playC]
  exact KInv.play (h.step s)
end Go.Proofs.YtfpkamiobdkcpaaGreatDoor
namespace Go.AX
open Go.RowKit
variable {cx:Cx}{g:Nat→Value}{σ σ':St}{a:Act}{w w':World}{nx:Nat}
variable {ty:TypeId}{pos:String}{af:Array Edge}{gd:Option (Nat×Bool)}{d:Nat}
theorem rep_flat {α:Type}{l:List α}:∀ {n q:Nat},q < n*l.length→(List.replicate n l).flatten[q]? = l[q%l.length]?
 |0,q,h=>by omega
 |n+1,q,h=>by
  rw[List.replicate_succ,List.flatten_cons]
  rcases Nat.lt_or_ge q l.length with h1|h1
  ·
   rw[List.getElem?_append_left h1,Nat.mod_eq_of_lt h1]
  ·
   rw[List.getElem?_append_right h1,rep_flat (by rw[Nat.add_mul,Nat.one_mul]at h;omega),← Nat.mod_eq_sub_mod h1]
theorem a_make {t:TypeId}{e k n:Nat}{kl kc:IntKind}{x y:Operand}{ti te:TI}(hx:ev σ x=some (.d (.v (.int kl (n:Int))))) (hy:ev σ y=some (.d (.v (.int kc (n:Int))))) (ht:tget cx.T t=some ti) (hk:ti.kind = .sl e k)
  (hte:tget cx.T e=some te) (h1:(te.zero.all Value.oneCell')=true) (hk0:Nat.blt 0 k=true) (hby:Nat.ble te.bytes 65536=true) (hd:Nat.blt d cx.n=true) (hn:n≤1000000) :
  OA cx σ ⟨some d,.makeSlice t x y,ty,pos,af,gd⟩ ⟨rdOf x (.d (.v (.int kl (n:Int))))++rdOf y (.d (.v (.int kc (n:Int)))),[(.s d,.av (.d (.sl k (List.replicate n (te.zero.map D.v)))))]⟩:=by
 refine⟨ok_val rfl (lt_of_blt hd) fun σ1 a w g nx hs hr=>?_,(ev_out hx).2.append (ev_out hy).2⟩
 have hvx:=rep_v (hs.ev (ev_out hx).1 hr.left).1
 have hvy:=rep_v (hs.ev (ev_out hy).1 hr.right).1
 have hF:=(cx.hT t ti ht).kind
 rw[hk]at hF
 obtain⟨hu,⟨ie,hie,hks⟩,_⟩:=hF
 obtain⟨ie',hie',hes,heb,z,hz,hzc⟩:=(cx.hT e te hte).info
 rw[hie]at hie'
 cases hie'
 have hzl:z.cells.size=k:=by
  have:=(cx.hT e te hte).len
  rw[← hzc]at this
  simp at this
  omega
 have hk0':0 < k:=lt_of_blt hk0
 have hby':te.bytes≤65536:=by simpa using hby
 have hbb:ie.bytes*n≤65536*1000000:=Nat.mul_le_mul (by omega) hn
 have hbn:(ie.bytes:Int)*(n:Int)≤281474976710656:=by
  have:((ie.bytes*n:Nat):Int)≤281474976710656:=by omega
  rwa [Int.natCast_mul]at this
 have hrun:=run_make (P:=cx.P) w t e ie z hu hie hz kl kc n n (by omega) (Int.le_refl _) hbn (by omega)
 simp only[Int.toNat_natCast,hks]at hrun
 have hzt:te.zero=z.cells.toList:=hzc.symm
 have hmade:∀ q,q < n*k→(madeCells z.cells (n*k)).toList[q]? = (te.zero)[q%k]? := fun q hq=>by
  have hlt:q%k < z.cells.size:=by rw[hzl];exact Nat.mod_lt _ hk0'
  have h2:(madeCells z.cells (n*k))[q]? = some (z.cells[q%z.cells.size]!):=by simp[madeCells,hq]
  rw[Array.getElem?_toList,h2,hzt,Array.getElem?_toList,hzl,getElem!_pos z.cells _ hlt,Array.getElem?_eq_getElem hlt]
 have hzlen:(te.zero.map D.v).length=k:=by rw[hzt];simp[hzl]
 have hflat:∀ q,q < n*k→(List.replicate n (te.zero.map D.v)).flatten[q]? = (te.zero.map D.v)[q%k]? := fun q hq=>by
  have:=rep_flat (l:=te.zero.map D.v) (n:=n) (q:=q) (by rw[hzlen];exact hq)
  rwa [hzlen]at this
 have hfl:(List.replicate n (te.zero.map D.v)).flatten.length=n*k:=by
  rw[List.length_flatten,List.map_replicate,hzlen,List.sum_replicate_nat]
 refine⟨.slice (some ⟨w.heap.size,0,none⟩) n n,w.alloc (.cells (madeCells z.cells (n*k)) e),by simp only[execOp,hvx,hvy];simp[hrun],(Below.refl _ _).alloc (Nat.le_refl _) _,rd_new (fun b hb=>own_lt hs hb) ⟨?_,fun c hc=>?_,fun j c x hj hc=>?_⟩ (fun r hr=>by rw[List.eq_of_mem_replicate hr];exact hzlen) n (by simp),trivial⟩
 ·
  rw[hfl];simp[size_madeCells]
 ·
  obtain⟨q,hq⟩:=List.mem_iff_getElem?.1 hc
  have hql:q < n*k:=by
   have:=(List.getElem?_eq_some_iff.1 hq).1
   simpa[size_madeCells] using this
  rw[hmade q hql]at hq
  exact List.all_eq_true.1 h1 c (List.mem_of_getElem? hq)
 ·
  have hql:j < n*k:=by
   have:=(List.getElem?_eq_some_iff.1 hj).1
   rw[hfl]at this
   exact this
  rw[hmade j hql]at hc
  rw[hflat j hql,List.getElem?_map,hc]at hj
  obtain rfl:D.v c=x:=by simpa using hj
  exact Rd.v _
end Go.AX
namespace Go.Proofs.YtfpkamiobdkcpaaGreatDoor
open Go.AX Go.RF
set_option maxRecDepth 100000
set_option maxHeartbeats 8000000
def noC:Cluster:=⟨[],[],[]⟩
def madeC (n:Int):Cluster×Int:=if n < 1∨3 < n then (noC,3) else (newC n,0)
theorem noC_le:DLes [.v nilS,.v nilS,.v nilS] noC.enc := .cons (dle_nil 2) (.cons (dle_nil 7) (.cons (dle_nil 2) .nil))
theorem ok_cnew (n:Int):FnOk Tryz.prog 52 [.d (dint n)] (.tup [.agg (madeC n).1.enc,dint (madeC n).2]):=by
 refine fnOk_of tbl_ok mixed_ok Tryz.func52 rfl (by kernel_rfl) rfl rfl fun w0 own0=>?_
 unfold madeC
 by_cases h1:n < 1
 ·
  rw[if_pos (.inl h1)]
  try refine wk ?_
  exact .two (.cell rfl rfl rfl rfl (.aggd (ds:=[.v nilS,.v nilS,.v nilS]) rfl noC_le.agg)) (.tmp rfl (.one (.d (.refl _))))
 by_cases h2:3 < n
 ·
  rw[if_pos (.inr h2)]
  try refine wk ?_
  exact .two (.cell rfl rfl rfl rfl (.aggd (ds:=[.v nilS,.v nilS,.v nilS]) rfl noC_le.agg)) (.tmp rfl (.one (.d (.refl _))))
 rw[if_neg (by omega)]
 obtain⟨N,rfl⟩:=Int.eq_ofNat_of_zero_le (show 0≤n by omega)
 unfold newC
 rw[Int.toNat_natCast]
 have c1:=ok_repNew
 try refine wk ?_
 refine CW.stut (stut_promote_cell (id:=1) (j:=1) 52 7 rfl) ⟨rfl,rfl,trivial⟩ ?_
 refine CW.loopT (fun i:Nat=>[sp 2 0,ob 0 [.v nilS,.v nilS,.v nilS],sd 3 (dint 0),sp 4 1,(.o 1,.ob (.box [.d (.v nilS),.own 2 i,.d (.v nilS)])),oa 2 52 7 (List.replicate i noR.enc),sd 12 (dint N),sd 13 (dint i),nxt 3]) (fun i=>i≤N) (fun i=>N - i) 0 (by omega) ?_ ?_
 ·
  exact by_less
 ·
  rintro i hi
  by_cases h3:i=N
  ·
   subst h3
   try refine wk ?_
   exact .two (.cell rfl rfl rfl rfl (.agg (.cons (.d (dle_nil 2)) (.cons (.own rfl (by simp) (dle_eq (by simp[encReps]))) (.cons (.d (dle_nil 2)) .nil))))) (.tmp rfl (.one (.d (.refl _))))
  ·
   have h4:List.replicate i noR.enc++[noR.enc]=List.replicate (i+1) noR.enc:=by rw[List.replicate_succ']
   repeat(first|((with_reducible apply s5);((with_reducible apply a_bs [noR.enc]);(iterate 9 exact rfl);(repeat(first|exact PartsE.nil|(apply PartsE.cons;exact rfl;exact rfl))));exact by_g)|refine wa1 ?_|((with_reducible apply s5);(first|exact by_oa|exact by_ca);exact by_g)|refine wb ?_)
   refine q_loopT (i+1) (by omega) (by omega) ?_
   exact by_less
theorem made_le (N:Nat):DLe (.sl 7 (List.replicate N noR0)) (encReps (List.replicate N noR)):=by
 have hrow:∀ (i:Nat) (r s:List D),(List.replicate N noR0)[i]? = some r→((List.replicate N noR).map Replica.enc)[i]? = some s→r=noR0∧s=noR.enc:=fun i r s hr hs=>by
  rw[List.map_replicate]at hs
  exact⟨List.eq_of_mem_replicate (List.mem_of_getElem? hr),List.eq_of_mem_replicate (List.mem_of_getElem? hs)⟩
 refine .sl 7 _ _ (by simp) (fun i r s hr hs=>?_) fun i j r s x y hr hs hx hy=>?_
 ·
  obtain⟨rfl,rfl⟩:=hrow i r s hr hs;rfl
 ·
  obtain⟨rfl,rfl⟩:=hrow i r s hr hs
  exact noR_le.at.2 j x y hx hy
theorem ok_rcnew (n:Int):FnOk Tryz.prog 53 [.d (dint n)] (.tup [.agg (madeC n).1.enc,dint (madeC n).2]):=by
 refine fnOk_of tbl_ok mixed_ok Tryz.func53 rfl (by kernel_rfl) rfl rfl fun w0 own0=>?_
 unfold madeC
 by_cases h1:n < 1
 ·
  rw[if_pos (.inl h1)]
  try refine wk ?_
  exact .two (.cell rfl rfl rfl rfl (.aggd (ds:=[.v nilS,.v nilS,.v nilS]) rfl noC_le.agg)) (.tmp rfl (.one (.d (.refl _))))
 by_cases h2:3 < n
 ·
  rw[if_pos (.inr h2)]
  try refine wk ?_
  exact .two (.cell rfl rfl rfl rfl (.aggd (ds:=[.v nilS,.v nilS,.v nilS]) rfl noC_le.agg)) (.tmp rfl (.one (.d (.refl _))))
 rw[if_neg (by omega)]
 obtain⟨N,rfl⟩:=Int.eq_ofNat_of_zero_le (show 0≤n by omega)
 unfold newC
 rw[Int.toNat_natCast]
 repeat(first|refine wa ?_|((with_reducible apply s5);(first|((with_reducible apply a_buildA);(iterate 4 exact rfl);(repeat(first|exact PartsV.nil|(apply PartsV.cons;exact rfl;exact rfl;(first|exact⟨rfl,trivial⟩|(apply nw_own;exact rfl;(focus first|exact rfl|(simp;done)|(simp;omega)))))));exact rfl)|((with_reducible apply a_make);(iterate 9 exact rfl);(exact by omega))|exact by_oa|exact by_ca);exact by_g)|refine wb ?_)
 exact .two (.cell rfl rfl rfl rfl (.aggd (ds:=[.v nilS,.sl 7 (List.replicate N noR0),.v nilS]) rfl (DLes.agg (.cons (dle_nil 2) (.cons (made_le N) (.cons (dle_nil 2) .nil)))))) (.tmp rfl (.one (.d (.refl _))))
theorem ok_clone_byte (rows:List (List D)) (hl:rows.length≤536870912):FnOk Tryz.prog 103 [.d (.sl 1 rows)] (.one (.sl 1 rows)):=by
 refine FnNew.ok (e:=5) (k:=1) ?_
 refine fnNew_of tbl_ok mixed_ok Tryz.func103 rfl (by kernel_rfl) rfl rfl fun w0 own0=>?_
 cases rows with
 |nil =>
  refine CW.empty 0 rfl fun p cp=>?_
  cases p with
  |none =>
   try refine wk ?_
   exact RetNew.nil rfl rfl
  |some ad =>
   have hst0:StopR 3:=⟨rfl⟩
   try refine wkS ?_
   clear hst0
   refine Stop.go (CW.stut (stut_nilv (i:=0) (k:=1)) ⟨rfl,trivial⟩ ?_)
   try refine wk ?_
   exact RetNew.own rfl rfl rfl
 |cons r rows =>
  have hl2:rows.length≤536870911:=by simp at hl;omega
  try refine wk ?_
  exact RetNew.own rfl rfl (by simp)
structure Cluster.Sm (c:Cluster):Prop where
 l:c.log.length≤1000
 w:∀ x∈c.log,wrongEntry x=0
 k:c.reps.length≤1000
 r:∀ r∈c.reps,Replica.Sm r
 p:c.net.length≤1000
 d:∀ p∈c.net,p.data.length≤100000
theorem KInv.sm {c:Cluster}(h:KInv c):c.Sm:=by
 refine⟨by have:=h.l;omega,h.right,by have:=h.k;omega,fun r hr=>(h.r r hr).1.sm,by have:=h.p;omega,fun p hp=>?_⟩
 obtain⟨_,i,e,h1,h2⟩:=h.d p hp
 rw[h2]
 have:=bytes_len (h.w i e h1).2
 omega
theorem entry_sm {e:Entry}(h:wrongEntry e=0):e.deeds.length≤134217728∧∀ d∈e.deeds,d.Sm:=by
 obtain⟨_,h2,_,h4⟩:=wrongEntry_out h
 exact⟨by omega,fun d hd=>wrong_sm (h4 d hd)⟩
abbrev ownC (c:Cluster):List Part:=[.own 50 2 (c.log.map Entry.enc),.own 52 7 (c.reps.map Replica.enc),.own 143 2 (c.net.map Packet.enc)]
theorem news_cown (c:Cluster) (h:c.Sm):FnNews Tryz.prog 58 [.d (.agg c.enc)] (ownC c):=by
 refine fnNews_of tbl_ok mixed_ok Tryz.func58 rfl (by kernel_rfl) rfl rfl fun w0 own0=>?_
 have hl:=h.l
 have hk:=h.k
 have hp:=h.p
 have c1:=new_logOwn c.log (by omega) fun e he=>entry_sm (h.w e he)
 repeat(first|refine wa ?_|((with_reducible apply s5);(first|((with_reducible apply a_buildA);(iterate 4 exact rfl);(repeat(first|exact PartsV.nil|(apply PartsV.cons;exact rfl;exact rfl;(first|exact⟨rfl,trivial⟩|(apply nw_own;exact rfl;(focus first|exact rfl|(simp;done)|(simp;omega)))))));exact rfl)|exact a_callnew c1 rfl rfl by_sub|exact by_oa|exact by_ca);exact by_g)|refine wb ?_)
 refine CW.stut (stut_promote_cell (id:=3) (j:=1) 52 7 rfl) ⟨rfl,rfl,trivial⟩ ?_
 refine CW.loopT (fun i:Nat=>[sp 1 0,ob 0 c.enc,sp 2 1,ob 1 [.v nilS,.v nilS,.v nilS],sp 3 3,(.o 3,.ob (.box [.own 2 c.log.length,.own 4 i,.d (.v nilS)])),oa 2 50 2 (c.log.map Entry.enc),oa 4 52 7 ((c.reps.take i).map Replica.enc),sd 13 (encReps c.reps),sd 14 (dint c.reps.length),sd 15 (dint i),nxt 5])
  (fun i=>i≤c.reps.length) (fun i=>c.reps.length - i) 0 (by omega) ?_ ?_
 ·
  exact by_less
 ·
  rintro i hi
  rcases drop_case hi with ⟨h1,h2⟩|⟨r,h1,h2,h3⟩
  ·
   subst h2
   rw[List.take_length]
   try refine wk ?_
   refine CW.stut (stut_promote_cell (id:=3) (j:=2) 143 2 rfl) ⟨rfl,rfl,trivial⟩ ?_
   refine CW.loopT (fun j:Nat=>[sp 2 1,ob 1 [.v nilS,.v nilS,.v nilS],sp 3 3,(.o 3,.ob (.box [.own 2 c.log.length,.own 4 c.reps.length,.own 5 j])),oa 2 50 2 (c.log.map Entry.enc),oa 4 52 7 (c.reps.map Replica.enc),oa 5 143 2 ((c.net.take j).map Packet.enc),sd 28 (encNet c.net),sd 29 (dint c.net.length),sd 30 (dint j),nxt 6])
    (fun j=>j≤c.net.length) (fun j=>c.net.length - j) 0 (by omega) ?_ ?_
   ·
    exact by_less
   ·
    rintro j hj
    rcases drop_case hj with ⟨h4,h5⟩|⟨p,h4,h5,h6⟩
    ·
     subst h5
     rw[List.take_length]
     try refine wk ?_
     exact .cell rfl rfl rfl rfl (.cons (.own rfl (by simp)) (.cons (.own rfl (by simp)) (.cons (.own rfl (by simp)) .nil))) (show([2,4,5]:List Nat).Nodup by decide)
    ·
     have hpd:=h.d p (List.mem_of_getElem? h5)
     have c3:=ok_clone_byte (p.data.map byteD) (by simp;omega)
     have h7:(c.net.take j).map Packet.enc++[p.enc]=(c.net.take (j+1)).map Packet.enc:=by rw[List.take_add_one,h5];simp
     repeat(first|((with_reducible apply s5);((with_reducible apply a_bs [p.enc]);(iterate 9 exact rfl);(repeat(first|exact PartsE.nil|(apply PartsE.cons;exact rfl;exact rfl))));exact by_g)|refine wa1 ?_|((with_reducible apply s5);(first|((with_reducible apply a_buildA);(iterate 4 exact rfl);(repeat(first|exact PartsV.nil|(apply PartsV.cons;exact rfl;exact rfl;(first|exact⟨rfl,trivial⟩|(apply nw_own;exact rfl;(focus first|exact rfl|(simp;done)|(simp;omega)))))));exact rfl)|exact by_oa|exact by_ca);exact by_g)|refine wb ?_)
     refine q_loopT (j+1) (by omega) (by omega) ?_
     exact by_less
  ·
   have c2:=ok_repOwn r (h.r r (List.mem_of_getElem? h2))
   have h7:(c.reps.take i).map Replica.enc++[r.enc]=(c.reps.take (i+1)).map Replica.enc:=by rw[List.take_add_one,h2];simp
   repeat(first|((with_reducible apply s5);((with_reducible apply a_bs [r.enc]);(iterate 9 exact rfl);(repeat(first|exact PartsE.nil|(apply PartsE.cons;exact rfl;exact rfl))));exact by_g)|refine wa1 ?_|((with_reducible apply s5);(first|exact by_oa|exact by_ca);exact by_g)|refine wb ?_)
   refine q_loopT (i+1) (by omega) (by omega) ?_
   exact by_less
theorem ok_cown (c:Cluster) (h:c.Sm):FnOk Tryz.prog 58 [.d (.agg c.enc)] (.one (.agg c.enc)):=(news_cown c h).ok
theorem ok_sameCl (c:Cluster) (h:c.Sm):FnOk Tryz.prog 54 [.d (.agg c.enc),.d (.agg c.enc)] (.one (dbool true)):=by
 refine fnOk_of tbl_ok mixed_ok Tryz.func54 rfl (by kernel_rfl) rfl rfl fun w0 own0=>?_
 have hl:=h.l
 have hk:=h.k
 have hp:=h.p
 have c1:=ok_sameEnts c.log c.log (by omega) fun e he=>⟨by have:=(entry_sm (h.w e he)).1;omega,(entry_sm (h.w e he)).2⟩
 rw[allB_refl sameEnt_refl]at c1
 try refine wk ?_
 refine CW.loopT (fun i:Nat=>[sp 2 0,ob 0 c.enc,sp 3 1,ob 1 c.enc,sd 32 (encReps c.reps),sd 33 (dint c.reps.length),sd 34 (dint i),nxt 2])
  (fun i=>i≤c.reps.length) (fun i=>c.reps.length - i) 0 (by omega) ?_ ?_
 ·
  exact by_less
 ·
  rintro i hi
  rcases drop_case hi with ⟨h1,h2⟩|⟨r,h1,h2,h3⟩
  ·
   subst h2
   try refine wk ?_
   refine CW.loopT (fun j:Nat=>[sp 2 0,ob 0 c.enc,sp 3 1,ob 1 c.enc,sd 51 (encNet c.net),sd 52 (dint c.net.length),sd 53 (dint j),nxt 2])
    (fun j=>j≤c.net.length) (fun j=>c.net.length - j) 0 (by omega) ?_ ?_
   ·
    exact by_less
   ·
    rintro j hj
    rcases drop_case hj with ⟨h4,h5⟩|⟨p,h4,h5,h6⟩
    ·
     subst h5
     try refine wk ?_
     exact .one (.tmp rfl (.one (.d (.refl _))))
    ·
     repeat(first|refine wa ?_|((with_reducible apply s5);(first|((with_reducible apply a_b2s);(iterate 8 exact rfl))|exact by_oa|exact by_ca);exact by_g)|refine wb ?_)
     refine q_loopT (j+1) (by omega) (by omega) ?_
     exact by_less
  ·
   have c2:=ok_sameR r r (h.r r (List.mem_of_getElem? h2))
   rw[sameR_refl]at c2
   try refine wk ?_
   refine q_loopT (i+1) (by omega) (by omega) ?_
   exact by_less
theorem KInv.next {c:Cluster}(h:KInv c) {r:Replica}(hr:r∈c.reps) {i:Nat}{e:Entry}(he:c.log[i]? = some e):r.next≤(comeE r e).1.next :=
 ((h.r r hr).2.come (QC.adds h.right) he (h.w i e he).1).2.1
theorem set_same {α:Type}{l:List α}{n:Nat}{x:α}(h:l[n]? = some x):l.set n x=l:=by
 refine List.ext_getElem? fun i=>?_
 by_cases hi:n=i
 ·
  subst hi
  rw[List.getElem?_set_self (List.getElem?_eq_some_iff.1 h).1,h]
 ·
  rw[List.getElem?_set_ne hi]
set_option maxHeartbeats 16000000
theorem ok_rset (c:Cluster) (n:Int) (r x:Replica) (h:c.Sm) (hx:nth c.reps n=some x) :
  FnOk Tryz.prog 102 [.d (.agg c.enc),.d (dint n),.d (.agg r.enc)] (.one (.agg (Cluster.enc { c with reps:=c.reps.set n.toNat r }))):=by
 refine fnOk_of tbl_ok mixed_ok Tryz.func102 rfl (by kernel_rfl) rfl rfl fun w0 own0=>?_
 obtain⟨i,rfl,hi⟩:=nth_some hx
 rw[Int.toNat_natCast]
 have hk:=h.k
 have hil:=(List.getElem?_eq_some_iff.1 hi).1
 have hxm:([]++c.reps.map Replica.enc)[i]? = some x.enc:=by rw[List.nil_append,List.getElem?_map,hi];rfl
 try refine wk ?_
 exact .one (.cell rfl rfl rfl rfl (.agg (.cons (.d (.refl _)) (.cons (.own rfl (by simp) (dle_eq (by simp[encReps,List.map_set];rfl))) (.cons (.d (.refl _)) .nil)))))
theorem set_c {c:Cluster}{i:Nat}{r:Replica}(h:c.reps[i]? = some r):({ c with reps:=c.reps.set i r }:Cluster)=c:=by
 rw[set_same h]
theorem rdo_batch (c:Cluster) (s:Step) (h:KInv c) (hd:∀ d∈s.deeds,d.Sm) (hl:s.deeds.length≤100000000) (k1:s.kind=1) :
  FnOk Tryz.prog 57 [.d (.agg c.enc),.d (.agg s.enc)] (.tup [.agg (batchC c s.deeds).1.enc,dint (batchC c s.deeds).2]):=by
 refine fnOk_of tbl_ok mixed_ok Tryz.func57 rfl (by kernel_rfl) rfl rfl fun w0 own0=>?_
 have hL:=h.l
 have hP:=h.p
 have hR:=h.k
 have hS:=h.sm
 have hst0:StopA 1:=⟨rfl⟩
 try refine wkS ?_
 clear hst0
 refine Stop.cutk [sd 6 (dbool (decide (0≤s.n∧s.n < c.reps.length)))] [.s 2,.s 3,.s 4,.s 5,.o 0,.o 1,.o 2,.nx] ?_ ?_
 ·
  by_cases b0:0≤s.n
  ·
   try refine wk ?_
   refine q_cut ?_
   exact by_less
  ·
   try refine wk ?_
   refine q_cut ?_
   exact by_less
 unfold batchC
 by_cases b1:12≤c.log.length
 ·
  rw[if_pos b1]
  try refine wk ?_
  exact .two (.cell rfl rfl rfl rfl (.aggd (ds:=c.enc) rfl (.refl _))) (.tmp rfl (.one (.d (.refl _))))
 rw[if_neg b1]
 have c1:FnOk Tryz.prog 28 [.d (.agg [dint ((c.log.map Entry.enc).length:Int),encDeeds s.deeds])] (.one (dint (wrongEntry ⟨c.log.length,s.deeds⟩))):=by
  rw[List.length_map]
  exact ok_rwrongEntry ⟨c.log.length,s.deeds⟩ hd (by dsimp only;omega)
 by_cases b2:wrongEntry ⟨c.log.length,s.deeds⟩=0
 ·
  rw[if_pos b2]
  rw[b2]at c1
  repeat(first|((with_reducible apply s5);((with_reducible apply a_bs [[dint ((c.log.map Entry.enc).length:Int),encDeeds s.deeds]]);(iterate 9 exact rfl);(repeat(first|exact PartsE.nil|(apply PartsE.cons;exact rfl;exact rfl))));exact by_g)|refine wa1 ?_|((with_reducible apply s5);(first|exact a_call c1 rfl by_sub|((with_reducible apply a_buildA);(iterate 4 exact rfl);(repeat(first|exact PartsV.nil|(apply PartsV.cons;exact rfl;exact rfl;(first|exact⟨rfl,trivial⟩|(apply nw_own;exact rfl;(focus first|exact rfl|(simp;done)|(simp;omega)))))));exact rfl)|exact by_oa|exact by_ca);exact by_g)|refine wb ?_)
  exact .two (.cell rfl rfl rfl rfl (.agg (.cons (.own rfl (by simp) (dle_eq (by simp[encEntries];rfl))) (.cons (.d (.refl _)) (.cons (.d (.refl _)) .nil))))) (.tmp rfl (.one (.d (.refl _))))
 ·
  rw[if_neg b2]
  generalize wrongEntry ⟨c.log.length,s.deeds⟩=W at *
  repeat(first|refine wa ?_|((with_reducible apply s5);(first|exact a_call c1 rfl by_sub|((with_reducible apply a_buildA);(iterate 4 exact rfl);(repeat(first|exact PartsV.nil|(apply PartsV.cons;exact rfl;exact rfl;(first|exact⟨rfl,trivial⟩|(apply nw_own;exact rfl;(focus first|exact rfl|(simp;done)|(simp;omega)))))));exact rfl)|exact by_oa|exact by_ca);exact by_g)|refine wb ?_)
  exact .two (.cell rfl rfl rfl rfl (.aggd (ds:=c.enc) rfl (.refl _))) (.tmp rfl (.one (.d (.refl _))))
theorem rdo_send (c:Cluster) (s:Step) (h:KInv c) (k2:s.kind=2) :
  FnOk Tryz.prog 57 [.d (.agg c.enc),.d (.agg s.enc)] (.tup [.agg (sendC c s.n s.m).1.enc,dint (sendC c s.n s.m).2]):=by
 refine fnOk_of tbl_ok mixed_ok Tryz.func57 rfl (by kernel_rfl) rfl rfl fun w0 own0=>?_
 have hL:=h.l
 have hP:=h.p
 have hR:=h.k
 have hS:=h.sm
 have hst0:StopA 1:=⟨rfl⟩
 try refine wkS ?_
 clear hst0
 refine Stop.cutk [sd 6 (dbool (decide (0≤s.n∧s.n < c.reps.length)))] [.s 2,.s 3,.s 4,.s 5,.o 0,.o 1,.o 2,.nx] ?_ ?_
 ·
  by_cases b0:0≤s.n
  ·
   try refine wk ?_
   refine q_cut ?_
   exact by_less
  ·
   try refine wk ?_
   refine q_cut ?_
   exact by_less
 unfold sendC
 cases hn:nth c.reps s.n with
 |none =>
  have hn':=nth_none hn
  dsimp only
  try refine wk ?_
  exact .two (.cell rfl rfl rfl rfl (.aggd (ds:=c.enc) rfl (.refl _))) (.tmp rfl (.one (.d (.refl _))))
 |some r =>
  obtain⟨i,hi1,hi⟩:=nth_some hn
  have hil:=(List.getElem?_eq_some_iff.1 hi).1
  dsimp only
  cases hm:nth c.log s.m with
  |none =>
   have hm':=nth_none hm
   dsimp only
   by_cases b1:0≤s.m
   ·
    try refine wk ?_
    exact .two (.cell rfl rfl rfl rfl (.aggd (ds:=c.enc) rfl (.refl _))) (.tmp rfl (.one (.d (.refl _))))
   ·
    try refine wk ?_
    exact .two (.cell rfl rfl rfl rfl (.aggd (ds:=c.enc) rfl (.refl _))) (.tmp rfl (.one (.d (.refl _))))
  |some e =>
   obtain⟨j,hj1,hj⟩:=nth_some hm
   have hjl:=(List.getElem?_eq_some_iff.1 hj).1
   dsimp only
   by_cases b1:c.net.length < 16
   ·
    rw[if_pos b1]
    have c1:=ok_rbytes e (h.w j e hj).2
    have hix:idx (c.log.map Entry.enc) s.m=some e.enc:=by rw[hj1];exact idx_map hj
    generalize bytesE e=B at *
    repeat(first|((with_reducible apply s5);((with_reducible apply a_bs [[dint s.n,encBytes B]]);(iterate 9 exact rfl);(repeat(first|exact PartsE.nil|(apply PartsE.cons;exact rfl;exact rfl))));exact by_g)|refine wa1 ?_|((with_reducible apply s5);(first|((with_reducible apply a_buildA);(iterate 4 exact rfl);(repeat(first|exact PartsV.nil|(apply PartsV.cons;exact rfl;exact rfl;(first|exact⟨rfl,trivial⟩|(apply nw_own;exact rfl;(focus first|exact rfl|(simp;done)|(simp;omega)))))));exact rfl)|((with_reducible apply a_ia);(iterate 5 exact rfl);exact hix)|exact by_oa|exact by_ca);exact by_g)|refine wb ?_)
    exact .two (.cell rfl rfl rfl rfl (.agg (.cons (.d (.refl _)) (.cons (.d (.refl _)) (.cons (.own rfl (by simp) (dle_eq (by simp[encNet];rfl))) .nil))))) (.tmp rfl (.one (.d (.refl _))))
   ·
    rw[if_neg b1]
    try refine wk ?_
    exact .two (.cell rfl rfl rfl rfl (.aggd (ds:=c.enc) rfl (.refl _))) (.tmp rfl (.one (.d (.refl _))))
theorem rdo_clr (c:Cluster) (s:Step) (h:KInv c) (k7:s.kind=7) :
  FnOk Tryz.prog 57 [.d (.agg c.enc),.d (.agg s.enc)] (.tup [.agg (clrC c s.n).1.enc,dint (clrC c s.n).2]):=by
 refine fnOk_of tbl_ok mixed_ok Tryz.func57 rfl (by kernel_rfl) rfl rfl fun w0 own0=>?_
 have hL:=h.l
 have hP:=h.p
 have hR:=h.k
 have hS:=h.sm
 have hst0:StopA 1:=⟨rfl⟩
 try refine wkS ?_
 clear hst0
 refine Stop.cutk [sd 6 (dbool (decide (0≤s.n∧s.n < c.reps.length)))] [.s 2,.s 3,.s 4,.s 5,.o 0,.o 1,.o 2,.nx] ?_ ?_
 ·
  by_cases b0:0≤s.n
  ·
   try refine wk ?_
   refine q_cut ?_
   exact by_less
  ·
   try refine wk ?_
   refine q_cut ?_
   exact by_less
 unfold clrC
 cases hn:nth c.reps s.n with
 |none =>
  have hn':=nth_none hn
  dsimp only
  try refine wk ?_
  exact .two (.cell rfl rfl rfl rfl (.aggd (ds:=c.enc) rfl (.refl _))) (.tmp rfl (.one (.d (.refl _))))
 |some r =>
  obtain⟨i,hi1,hi⟩:=nth_some hn
  have hil:=(List.getElem?_eq_some_iff.1 hi).1
  have hix:idx (c.reps.map Replica.enc) s.n=some r.enc:=by rw[hi1];exact idx_map hi
  have hit:s.n.toNat=i:=by omega
  have hRI:=(h.r r (List.mem_of_getElem? hi)).1
  have hs:=hRI.sm.e
  have c1:=ok_clearE r.engine hs hRI.e.z.s hRI.e.z.n
  have c2:=ok_rset c s.n (clearR r) r hS hn
  dsimp only
  rw[hit]at c2 ⊢
  unfold clearR at c2 ⊢
  generalize clearE r.engine=E at *
  repeat(first|refine wa ?_|((with_reducible apply s5);(first|((with_reducible apply a_ia);(iterate 5 exact rfl);exact hix)|exact by_oa|exact by_ca);exact by_g)|refine wb ?_)
  exact .two (.cell rfl rfl rfl rfl (.aggd (ds:=Cluster.enc ({ c with reps:=c.reps.set i ⟨E,r.next,r.early⟩ })) rfl (.refl _))) (.tmp rfl (.one (.d (.refl _))))
theorem rdo_none (c:Cluster) (s:Step) (h:KInv c) (k1:s.kind≠1) (k2:s.kind≠2) (k3:s.kind≠3) (k4:s.kind≠4) (k5:s.kind≠5) (k6:s.kind≠6) (k7:s.kind≠7) :
  FnOk Tryz.prog 57 [.d (.agg c.enc),.d (.agg s.enc)] (.tup [.agg c.enc,dint 1]):=by
 refine fnOk_of tbl_ok mixed_ok Tryz.func57 rfl (by kernel_rfl) rfl rfl fun w0 own0=>?_
 have hL:=h.l
 have hP:=h.p
 have hR:=h.k
 have hS:=h.sm
 have hst0:StopA 1:=⟨rfl⟩
 try refine wkS ?_
 clear hst0
 refine Stop.cutk [sd 6 (dbool (decide (0≤s.n∧s.n < c.reps.length)))] [.s 2,.s 3,.s 4,.s 5,.o 0,.o 1,.o 2,.nx] ?_ ?_
 ·
  by_cases b0:0≤s.n
  ·
   try refine wk ?_
   refine q_cut ?_
   exact by_less
  ·
   try refine wk ?_
   refine q_cut ?_
   exact by_less
 try refine wk ?_
 exact .two (.cell rfl rfl rfl rfl (.aggd (ds:=c.enc) rfl (.refl _))) (.tmp rfl (.one (.d (.refl _))))
theorem rdo_run (c:Cluster) (s:Step) (h:KInv c) (k6:s.kind=6) :
  FnOk Tryz.prog 57 [.d (.agg c.enc),.d (.agg s.enc)] (.tup [.agg (runC c s.n s.m).1.enc,dint (runC c s.n s.m).2]):=by
 refine fnOk_of tbl_ok mixed_ok Tryz.func57 rfl (by kernel_rfl) rfl rfl fun w0 own0=>?_
 have hL:=h.l
 have hP:=h.p
 have hR:=h.k
 have hS:=h.sm
 have hst0:StopA 1:=⟨rfl⟩
 try refine wkS ?_
 clear hst0
 refine Stop.cutk [sd 6 (dbool (decide (0≤s.n∧s.n < c.reps.length)))] [.s 2,.s 3,.s 4,.s 5,.o 0,.o 1,.o 2,.nx] ?_ ?_
 ·
  by_cases b0:0≤s.n
  ·
   try refine wk ?_
   refine q_cut ?_
   exact by_less
  ·
   try refine wk ?_
   refine q_cut ?_
   exact by_less
 unfold runC
 cases hn:nth c.reps s.n with
 |none =>
  have hn':=nth_none hn
  dsimp only
  try refine wk ?_
  exact .two (.cell rfl rfl rfl rfl (.aggd (ds:=c.enc) rfl (.refl _))) (.tmp rfl (.one (.d (.refl _))))
 |some r =>
  obtain⟨i,hi1,hi⟩:=nth_some hn
  have hil:=(List.getElem?_eq_some_iff.1 hi).1
  have hix:idx (c.reps.map Replica.enc) s.n=some r.enc:=by rw[hi1];exact idx_map hi
  have hit:s.n.toNat=i:=by omega
  have hRI:=(h.r r (List.mem_of_getElem? hi)).1
  have hs:=hRI.sm.e
  have c1:=ok_ready r.engine hs hRI.e.z.s
  have c2:=fun x=>ok_go r.engine x _ hRI.e.z (by have:=hRI.n;omega) hRI.e.o hRI.e.c
  have hrl:=ready_small hs
  obtain⟨q,hb⟩:=hRI.b
  dsimp only
  rw[hit]
  by_cases m0:s.m < 0
  ·
   have hg:goR r s.m=(r,6):=by unfold goR;rw[if_pos m0]
   rw[hg]
   dsimp only
   rw[set_c hi]
   generalize ready r.engine=l at *
   repeat(first|refine wa ?_|((with_reducible apply s5);(first|((with_reducible apply a_ia);(iterate 5 exact rfl);exact hix)|exact by_oa|exact by_ca);exact by_g)|refine wb ?_)
   exact .two (.cell rfl rfl rfl rfl (.aggd (ds:=c.enc) rfl (.refl _))) (.tmp rfl (.one (.d (.refl _))))
  obtain⟨M,hM⟩:=Int.eq_ofNat_of_zero_le (show 0≤s.m by omega)
  cases hx:(ready r.engine)[M]? with
  |none =>
   have hle:=List.getElem?_eq_none_iff.1 hx
   have hg:goR r s.m=(r,6):=by unfold goR;rw[if_neg m0,hM,Int.toNat_natCast,hx]
   rw[hg]
   dsimp only
   rw[set_c hi]
   generalize ready r.engine=l at *
   repeat(first|refine wa ?_|((with_reducible apply s5);(first|((with_reducible apply a_ia);(iterate 5 exact rfl);exact hix)|exact by_oa|exact by_ca);exact by_g)|refine wb ?_)
   exact .two (.cell rfl rfl rfl rfl (.aggd (ds:=c.enc) rfl (.refl _))) (.tmp rfl (.one (.d (.refl _))))
  |some x =>
   have hlt:=(List.getElem?_eq_some_iff.1 hx).1
   have hg:goR r s.m=(⟨(goE r.engine x).1,r.next,r.early⟩,0):=by unfold goR;rw[if_neg m0,hM,Int.toNat_natCast,hx]
   rw[hg]
   dsimp only
   have c3:=c2 x
   rw[ready_ok hb.W (List.mem_of_getElem? hx)]at c3
   have c4:=ok_rset c s.n ⟨(goE r.engine x).1,r.next,r.early⟩ r hS hn
   rw[hit]at c4
   have hixm:idx ((ready r.engine).map encInt1) s.m=some (encInt1 x):=by rw[hM];exact idx_map hx
   generalize (goE r.engine x).1=E at *
   generalize ready r.engine=l at *
   repeat(first|refine wa ?_|((with_reducible apply s5);(first|exact a_call c3 rfl by_sub|((with_reducible apply a_ia);(iterate 5 exact rfl);first|exact hix|exact hixm)|exact by_oa|exact by_ca);exact by_g)|refine wb ?_)
   exact .two (.cell rfl rfl rfl rfl (.aggd (ds:=Cluster.enc ({ c with reps:=c.reps.set i ⟨E,r.next,r.early⟩ })) rfl (.refl _))) (.tmp rfl (.one (.d (.refl _))))
theorem rdo_packet (c:Cluster) (s:Step) (h:KInv c) (k3:s.kind=3∨s.kind=4∨s.kind=5) :
  FnOk Tryz.prog 57 [.d (.agg c.enc),.d (.agg s.enc)] (.tup [.agg (packetC c s.kind s.n).1.enc,dint (packetC c s.kind s.n).2]):=by
 refine fnOk_of tbl_ok mixed_ok Tryz.func57 rfl (by kernel_rfl) rfl rfl fun w0 own0=>?_
 have hL:=h.l
 have hP:=h.p
 have hR:=h.k
 have hS:=h.sm
 have hst0:StopA 1:=⟨rfl⟩
 try refine wkS ?_
 clear hst0
 refine Stop.cutk [sd 6 (dbool (decide (0≤s.n∧s.n < c.reps.length)))] [.s 2,.s 3,.s 4,.s 5,.o 0,.o 1,.o 2,.nx] ?_ ?_
 ·
  by_cases b0:0≤s.n
  ·
   try refine wk ?_
   refine q_cut ?_
   exact by_less
  ·
   try refine wk ?_
   refine q_cut ?_
   exact by_less
 unfold packetC
 cases hn:nth c.net s.n with
 |none =>
  have hn':=nth_none hn
  dsimp only
  rcases k3 with k3|k3|k3
  all_goals by_cases b1:0≤s.n
  all_goals
   try refine wk ?_
   exact .two (.cell rfl rfl rfl rfl (.aggd (ds:=c.enc) rfl (.refl _))) (.tmp rfl (.one (.d (.refl _))))
 |some p =>
  obtain⟨i,hi1,hi⟩:=nth_some hn
  have hil:=(List.getElem?_eq_some_iff.1 hi).1
  have hix:idx (c.net.map Packet.enc) s.n=some p.enc:=by rw[hi1];exact idx_map hi
  have hit:s.n.toNat=i:=by omega
  dsimp only
  rw[hit]
  have hc1:cutI (c.net.map Packet.enc) none (some s.n)=some ((c.net.map Packet.enc).take i):=by rw[hi1];exact cut_to (by simp;omega)
  have hc2:cutI (c.net.map Packet.enc) (some (s.n+1)) none=some ((c.net.map Packet.enc).drop (i+1)):=by
   rw[hi1,show(i:Int)+1=((i+1:Nat):Int) by omega];exact cut_from (by simp;omega)
  have hrows:([]++(c.net.map Packet.enc).take i)++(c.net.map Packet.enc).drop (i+1)=(c.net.eraseIdx i).map Packet.enc:=by
   rw[List.eraseIdx_eq_take_drop_succ,List.map_append,List.map_take,List.map_drop,List.nil_append]
  have hlen:((c.net.map Packet.enc).take i).length+((c.net.map Packet.enc).drop (i+1)).length=c.net.length - 1:=by simp;omega
  by_cases k5:s.kind=5
  ·
   rw[if_pos k5]
   by_cases b1:c.net.length < 16
   ·
    rw[if_pos b1]
    repeat(first|((with_reducible apply s5);((with_reducible apply a_bs [p.enc]);(iterate 9 exact rfl);(repeat(first|exact PartsE.nil|(apply PartsE.cons;exact rfl;exact rfl))));exact by_g)|refine wa1 ?_|((with_reducible apply s5);(first|((with_reducible apply a_ia);(iterate 5 exact rfl);exact hix)|exact by_oa|exact by_ca);exact by_g)|refine wb ?_)
    exact .two (.cell rfl rfl rfl rfl (.agg (.cons (.d (.refl _)) (.cons (.d (.refl _)) (.cons (.own rfl (by simp) (dle_eq (by simp[encNet]))) .nil))))) (.tmp rfl (.one (.d (.refl _))))
   ·
    rw[if_neg b1]
    repeat(first|refine wa ?_|((with_reducible apply s5);(first|((with_reducible apply a_ia);(iterate 5 exact rfl);exact hix)|exact by_oa|exact by_ca);exact by_g)|refine wb ?_)
    exact .two (.cell rfl rfl rfl rfl (.aggd (ds:=c.enc) rfl (.refl _))) (.tmp rfl (.one (.d (.refl _))))
  rw[if_neg k5]
  by_cases k4:s.kind=4
  ·
   rw[if_pos k4]
   repeat(first|refine wa ?_|((with_reducible apply s5);(first|((with_reducible apply a_to);(iterate 5 exact rfl);exact hc1)|((with_reducible apply a_from);(iterate 5 exact rfl);exact hc2)|((with_reducible apply a_ia);(iterate 5 exact rfl);exact hix)|exact by_oa|exact by_ca);exact by_g)|refine wb ?_)
   exact .two (.cell rfl rfl rfl rfl (.agg (.cons (.d (.refl _)) (.cons (.d (.refl _)) (.cons (.own rfl (by simp) (dle_eq (congrArg (D.sl 2) hrows))) .nil))))) (.tmp rfl (.one (.d (.refl _))))
  rw[if_neg k4]
  obtain⟨⟨hd1,hd2⟩,j,e,he1,he2⟩:=h.d p (List.mem_of_getElem? hi)
  have hw:=(h.w j e he1).2
  obtain⟨r,hr⟩:∃ r,c.reps[p.dst.toNat]? = some r:=⟨c.reps[p.dst.toNat]'(by omega),List.getElem?_eq_getElem (by omega)⟩
  have hnr:nth c.reps p.dst=some r:=by unfold nth;rw[if_neg (by omega)];exact hr
  have c1:=ok_rparse6 p.data (by rw[he2];have:=bytes_len hw;omega)
  rw[he2,parse_bytes hw,← he2]at c1
  dsimp only[resB]at c1
  have c2:=ok_rcome r e (h.r r (List.mem_of_getElem? hr)).1 hw
  have hcome:comeC { c with net:=c.net.eraseIdx i } p={ c with net:=c.net.eraseIdx i,reps:=c.reps.set p.dst.toNat (comeE r e).1 }:=by
   unfold comeC
   dsimp only
   rw[hnr]
   dsimp only
   rw[he2,parse_bytes hw]
  rw[hcome]
  have c3:=ok_rset { c with net:=c.net.eraseIdx i } p.dst (comeE r e).1 r (h.drop i).sm hnr
  have hixr:idx (c.reps.map Replica.enc) p.dst=some r.enc:=by rw[show p.dst=((p.dst.toNat:Nat):Int) by omega];exact idx_map hr
  generalize (comeE r e).1=x at *
  generalize (comeE r e).2=v at *
  have hst0:StopA 28:=⟨rfl⟩
  repeat(first|refine waS ?_|((with_reducible apply s5);(first|((with_reducible apply a_to);(iterate 5 exact rfl);exact hc1)|((with_reducible apply a_from);(iterate 5 exact rfl);exact hc2)|((with_reducible apply a_ia);(iterate 5 exact rfl);exact hix)|exact by_oa|exact by_ca);exact by_g)|refine wb ?_)
  clear hst0
  rw[hrows]
  refine Stop.go (CW.stut (stut_freeze_cell (id:=0) (j:=2) (i:=4) rfl (by rw[List.length_map,List.length_eraseIdx_of_lt hil];first|exact hlen|(rw[Nat.zero_add];exact hlen))) ⟨rfl,rfl,trivial⟩ ?_)
  repeat(first|refine wa ?_|((with_reducible apply s5);(first|((with_reducible apply a_ia);(iterate 5 exact rfl);exact hixr)|exact by_oa|exact by_ca);exact by_g)|refine wb ?_)
  exact .two (.cell rfl rfl rfl rfl (.aggd (ds:=Cluster.enc ({ c with net:=c.net.eraseIdx i,reps:=c.reps.set p.dst.toNat x })) rfl (.refl _))) (.tmp rfl (.one (.d (.refl _))))
theorem ok_rdo (c:Cluster) (s:Step) (h:KInv c) (hd:∀ d∈s.deeds,d.Sm) (hl:s.deeds.length≤100000000):FnOk Tryz.prog 57 [.d (.agg c.enc),.d (.agg s.enc)] (.tup [.agg (doC c s).1.enc,dint (doC c s).2]):=by
 unfold doC
 by_cases k1:s.kind=1
 ·
  rw[if_pos k1];exact rdo_batch c s h hd hl k1
 rw[if_neg k1]
 by_cases k2:s.kind=2
 ·
  rw[if_pos k2];exact rdo_send c s h k2
 rw[if_neg k2]
 by_cases k3:s.kind=3∨s.kind=4∨s.kind=5
 ·
  rw[if_pos k3];exact rdo_packet c s h k3
 rw[if_neg k3]
 by_cases k6:s.kind=6
 ·
  rw[if_pos k6];exact rdo_run c s h k6
 rw[if_neg k6]
 by_cases k7:s.kind=7
 ·
  rw[if_pos k7];exact rdo_clr c s h k7
 rw[if_neg k7]
 exact rdo_none c s h k1 k2 (by omega) (by omega) (by omega) k6 k7
set_option maxHeartbeats 8000000
structure Step.Sm (s:Step):Prop where
 l:s.deeds.length≤10000000
 d:∀ d∈s.deeds,d.Sm
theorem ok_rplay (n:Int) (l:List Step) (h1:1≤n) (h3:n≤3) (hl:l.length≤10000000) (hs:∀ s∈l,s.Sm) :
  FnOk Tryz.prog 55 [.d (dint n),.d (encSteps l)] (.tup [.agg (playC (newC n) (l.take 120)).enc,encInts (errsC (newC n) (l.take 120))]):=by
 refine fnOk_of tbl_ok mixed_ok Tryz.func55 rfl (by kernel_rfl) rfl rfl fun w0 own0=>?_
 have c1:=ok_rcnew n
 have hm:madeC n=(newC n,0):=by unfold madeC;rw[if_neg (by omega)]
 rw[hm]at c1
 have hK:=newC_inv h3
 generalize newC n=c0 at *
 obtain⟨tg,htg⟩:∃ tg,playC c0 (l.take 120)=tg:=⟨_,rfl⟩
 obtain⟨te,hte⟩:∃ te,errsC c0 (l.take 120)=te:=⟨_,rfl⟩
 rw[htg,hte]
 try refine wk ?_
 refine CW.stut (stut_promote (i:=8) 27 1) ⟨rfl,rfl,trivial⟩ ?_
 refine CW.loopT (fun t:Nat×Cluster×List Int=>[sp 4 0,ob 0 [.v nilS,.v nilS,.v nilS],sd 5 (.v nilS),sp 6 1,ob 1 t.2.1.enc,so 8 2 t.1,oa 2 27 1 (t.2.2.map encInt1),sd 18 (encSteps l),sd 19 (dint l.length),sd 20 (dint t.1),nxt 3])
  (fun t=>(t.1≤l.length∧t.1≤120)∧t.2.2.length=t.1∧KInv t.2.1∧playC t.2.1 ((l.take 120).drop t.1)=tg∧t.2.2++errsC t.2.1 ((l.take 120).drop t.1)=te) (fun t=>l.length - t.1) (0,c0,[]) ⟨⟨by dsimp only;omega,by dsimp only;omega⟩,rfl,hK,htg,hte⟩ ?_ ?_
 ·
  exact by_less
 ·
  rintro ⟨i,c,es⟩ ⟨⟨hi,hi2⟩,he,hc,hI,hE⟩
  dsimp only at hi hi2 he hc hI hE ⊢
  have fin:(l.take 120).drop i=[]→c=tg∧es=te:=fun h0=>by
   rw[h0]at hI hE
   simp only[playC,errsC,List.append_nil]at hI hE
   exact⟨hI,hE⟩
  rcases drop_case hi with ⟨h5,h6⟩|⟨s,h5,h6,h7⟩
  ·
   obtain⟨rfl,rfl⟩:=fin (List.drop_eq_nil_of_le (by rw[List.length_take];omega))
   try refine wk ?_
   exact .two (.cell rfl rfl rfl rfl (.aggd (ds:=c.enc) rfl (.refl _))) (.tmp rfl (.one (.own rfl (by simp;omega) (.refl _))))
  ·
   by_cases h8:i=120
   ·
    obtain⟨rfl,rfl⟩:=fin (List.drop_eq_nil_of_le (by rw[List.length_take];omega))
    subst h8
    try refine wk ?_
    exact .two (.cell rfl rfl rfl rfl (.aggd (ds:=c.enc) rfl (.refl _))) (.tmp rfl (.one (.own rfl (by simp;omega) (.refl _))))
   ·
    have hdr:(l.take 120).drop i=s::(l.take 120).drop (i+1):=by
     have h9:(l.take 120)[i]? = some s:=by rw[List.getElem?_take,if_pos (by omega)];exact h6
     obtain⟨q1,q2⟩:=List.getElem?_eq_some_iff.1 h9
     rw[List.drop_eq_getElem_cons q1,q2]
    rw[hdr]at hI hE
    simp only[playC,errsC]at hI hE
    have hsm:=hs s (List.mem_of_getElem? h6)
    have c2:=ok_rdo c s hc hsm.d (by have:=hsm.l;omega)
    have hc2:=hc.step s
    generalize (doC c s).1=x at *
    generalize (doC c s).2=v at *
    have h10:es.map encInt1++[[dint v]]=(es++[v]).map encInt1:=by simp[encInt1]
    repeat(first|((with_reducible apply s5);((with_reducible apply a_bs [[dint v]]);(iterate 9 exact rfl);(repeat(first|exact PartsE.nil|(apply PartsE.cons;exact rfl;exact rfl))));exact by_g)|refine wa1 ?_|((with_reducible apply s5);(first|exact by_oa|exact by_ca);exact by_g)|refine wb ?_)
    refine q_loopT (i+1,x,es++[v]) ⟨⟨by dsimp only;omega,by dsimp only;omega⟩,by simp;omega,hc2,hI,by rw[List.append_assoc];exact hE⟩ (by dsimp only;omega) ?_
    exact by_less
abbrev shStep:List Sh:=[i64s,i64s,i64s,.sl shDeed]
structure Step.In (s:Step) (m:Nat):Prop where
 l:s.deeds.length≤m
 d:∀ x∈s.deeds,Deed.In x m
theorem Step.In.mono {s:Step}{m n:Nat}(h:Step.In s m) (hm:m≤n):Step.In s n:=⟨by have:=h.l;omega,fun x hx=>(h.d x hx).mono hm⟩
theorem Step.In.sm {s:Step}{m:Nat}(h:Step.In s m) (hm:m≤1048576):s.Sm:=⟨by have:=h.l;omega,fun d hd=>(h.d d hd).sm hm⟩
theorem dec_step (r:List D) (m:Nat) (h:FitsL shStep m r):∃ s:Step,r=s.enc∧Step.In s m:=by
 obtain⟨d,e,f,g,rfl,h1,h2,h3,h4⟩:=dec_four h
 obtain⟨k,rfl,_⟩:=dec_int h1
 obtain⟨n,rfl,_⟩:=dec_int h2
 obtain⟨q,rfl,_⟩:=dec_int h3
 obtain⟨l,rfl,hl,hd⟩:=dec_deeds h4
 exact⟨⟨k,n,q,l⟩,rfl,hl,hd⟩
theorem dec_steps {m:Nat}{d:D}(h:Fits (.sl shStep) m d):∃ l:List Step,d=encSteps l∧l.length≤m∧∀ s∈l,Step.In s m:=by
 obtain⟨rows,rfl,hr⟩:=dec_sl h
 obtain⟨l,rfl,hl,hn⟩:=fitsR_all dec_step hr
 exact⟨l,rfl,hn,fun p hp=>let ⟨_,h1,h2⟩:=hl p hp;h2.mono h1⟩
end Go.Proofs.YtfpkamiobdkcpaaGreatDoor
