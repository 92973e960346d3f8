/-
  Part 6 of what the claim leans on: J21 AxMin J22 L5 L24 L25 L26 AxLaid.
-/
import Derived.Test.YtccblhpfjlgmbabGreatDoorK5
import Derived.Laws.Small
import Derived.Shelf.Vars
import Derived.FnData
set_option linter.all false

namespace Go.Proofs.YtccblhpfjlgmbabGreatDoor
open Go.AX Go.RF
set_option maxRecDepth 100000
set_option maxHeartbeats 8000000
theorem doneGo {c:Cluster}{i:Nat}:doneC c=(decide (c.net=[])&&((c.reps.take i).all (doneR c.log.length)&&(c.reps.drop i).all (doneR c.log.length))):=by
 unfold doneC
 rw[← List.all_append,List.take_append_drop]
theorem net_nil {c:Cluster}:decide (c.net=[])=decide (((c.net.map Packet.enc).length:Int)=0):=by
 cases h:c.net with
 |nil=>simp
 |cons p l=>simp;omega
theorem ok_fdone (c:Cluster) (h:KInv c):FnOk Tryz.prog 19 [.d (.agg c.enc)] (.one (dbool (doneC c))):=by
 refine fnOk_of tbl_ok mixed_ok Tryz.func19 rfl (by kernel_rfl) rfl rfl fun w0 own0=>?_
 have hk:=h.k
 try refine wk ?_
 refine CW.loopT (fun i:Nat=>[sp 1 0,ob 0 c.enc,sd 6 (encReps c.reps),sd 7 (dint c.reps.length),sd 8 (dint i),nxt 1]) (fun i=>i≤c.reps.length∧(c.reps.take i).all (doneR c.log.length)=true) (fun i=>c.reps.length - i) 0 ⟨by omega,rfl⟩ ?_ ?_
 ·
  exact by_less
 ·
  rintro i ⟨hi,hI⟩
  rcases drop_case hi with ⟨h1,h2⟩|⟨r,h1,h2,h3⟩
  ·
   have hd:doneC c=decide (c.net=[]):=by rw[doneGo (i:=i),hI,h1];simp
   rw[hd,net_nil]
   try refine wk ?_
   exact .one (.tmp rfl (.one (.d (.refl _))))
  ·
   obtain⟨hRI,_⟩:=h.r r (List.mem_of_getElem? h2)
   obtain⟨q,hb⟩:=hRI.b
   have hs:=hRI.sm.e
   have c1:=ok_pready r.engine hs hRI.e.z.s (fun d hd=>(wrong_keys (hb.W.d d hd)).1) hb.S.k hb.W.nb
   have hnot:doneR c.log.length r=false→doneC c=false:=fun hr=>by
    rw[doneGo (i:=i),h1]
    simp[hr]
   by_cases h4:r.next < c.log.length
   ·
    rw[hnot (by unfold doneR;simp;omega)]
    try refine wk ?_
    exact .one (.tmp rfl (.one (.d (.refl _))))
   ·
    by_cases h5:ready r.engine=[]
    ·
     rw[h5]at c1
     try refine wk ?_
     refine q_loopT (i+1) ⟨by omega,?_⟩ (by omega) ?_
     ·
      rw[List.take_add_one,h2,List.all_append,hI]
      unfold doneR
      simp[h5]
      omega
     exact by_less
    ·
     rw[hnot (by unfold doneR;simp[h5])]
     have h6:=List.length_pos_iff.2 h5
     generalize ready r.engine=l at *
     try refine wk ?_
     exact .one (.tmp rfl (.one (.d (.refl _))))
def waitR (c:Cluster) (n:Nat):Nat:=((c.reps[n]?).map fun r=>waitN r.engine.state).getD 0
theorem ok_fround (c:Cluster) (h:KInv c):FnOk Tryz.prog 24 [.d (.agg c.enc)] (.one (.agg (roundC c).enc)):=by
 refine fnOk_of tbl_ok mixed_ok Tryz.func24 rfl (by kernel_rfl) rfl rfl fun w0 own0=>?_
 unfold roundC
 have c0:=ok_cown c h.sm
 obtain⟨d,hd⟩:∃ d,drainN c.net c=d:=⟨_,rfl⟩
 rw[hd]
 try refine wk ?_
 refine CW.loopT (fun t:Cluster=>[sp 2 1,ob 1 [.v nilS,.v nilS,.v nilS],sp 3 2,ob 2 t.enc,nxt 3]) (fun t=>KInv t∧drainN t.net t=d) (fun t=>t.net.length) c ⟨h,hd⟩ ?_ ?_
 ·
  exact by_less
 ·
  rintro c ⟨hK,hI⟩
  cases hn:c.net with
  |cons p l =>
   have hs:=come_step hn
   have c1:=fnOk_le (ok_cdo c stepCome hK (by simp[stepCome]) (by simp[stepCome])) (.d (.refl _) (.d (DLes.agg (.cons (.refl _) (.cons (.refl _) (.cons (.refl _) (.cons (dle_nil 3) .nil))))) .nil))
   have hK2:=hK.step stepCome
   have h2:(doC c stepCome).1.net=l:=by rw[hs];exact(comeC_keep _ _).2.1
   have hI2:drainN (doC c stepCome).1.net (doC c stepCome).1=d:=by
    rw[h2,← hI,hn]
    rfl
   have hlt:(doC c stepCome).1.net.length < c.net.length:=by rw[h2,hn];simp
   change FnOk _ _ [_,.d (.agg [dint 3,dint 0,dint 0,.v nilS])] _ at c1
   generalize (doC c stepCome).1=x at *
   generalize (doC c stepCome).2=v at *
   have hpos:0 < c.net.length:=by rw[hn];simp
   repeat(first|refine wa ?_|((with_reducible apply s5);(first|((with_reducible apply a_buildA);(iterate 4 exact rfl);(repeat(first|exact PartsV.nil|(apply PartsV.cons;exact rfl;exact rfl;(first|exact⟨rfl,trivial⟩|(apply nw_own;exact rfl;(focus first|exact rfl|(simp;done)|(simp;omega)))))));exact rfl)|exact by_oa|exact by_ca);exact by_g)|refine wb ?_)
   refine q_loopT x ⟨hK2,hI2⟩ hlt ?_
   exact by_less
  |nil =>
   rw[hn]at hI
   simp only[drainN]at hI
   subst hI
   obtain⟨tg,htg⟩:∃ tg,turnsC c.reps.length 0 c=tg:=⟨_,rfl⟩
   rw[htg]
   have hR:=hK.k
   obtain⟨R,hRl⟩:∃ R,c.reps.length=R:=⟨_,rfl⟩
   have hnil:c.net.length=0:=by rw[hn];rfl
   try refine wk ?_
   refine CW.loopT (fun t:Nat×Cluster=>[sp 2 1,ob 1 [.v nilS,.v nilS,.v nilS],sp 3 2,ob 2 t.2.enc,sd 20 (dint R),sd 21 (dint t.1),nxt 3])
    (fun t=>t.1≤R∧KInv t.2∧t.2.reps.length=R∧t.2.net=[]∧turnsC (R - t.1) t.1 t.2=tg) (fun t=>R - t.1) (0,c) ⟨by dsimp only;omega,hK,hRl,hn,by rw[← hRl];exact htg⟩ ?_ ?_
   ·
    exact by_less
   ·
    rintro ⟨n,c⟩ ⟨hnR,hK,hcl,hcn,hT⟩
    dsimp only at hnR hK hcl hcn hT ⊢
    by_cases he:n=R
    ·
     rw[he,Nat.sub_self]at hT
     simp only[turnsC]at hT
     subst hT
     try refine wk ?_
     exact .one (.cell rfl rfl rfl rfl (.aggd (ds:=c.enc) rfl (.refl _)))
    ·
     have hT2:turnsC (R - (n+1)) (n+1) (turnC c n)=tg:=by
      rw[show R - n=(R - (n+1))+1 by omega]at hT
      exact hT
     obtain⟨r,hr⟩:∃ r,c.reps[n]? = some r:=⟨c.reps[n]'(by omega),List.getElem?_eq_getElem (by omega)⟩
     obtain⟨hRI,hRC⟩:=hK.r r (List.mem_of_getElem? hr)
     have hir:idx (c.reps.map Replica.enc) (n:Int)=some r.enc:=idx_map hr
     have hnx:=hRI.n
     obtain⟨n1,n2,n3,n4,n5,n6⟩:=nextC_inv hK n
     -- what comes next
     have hst0:StopA 7:=⟨rfl⟩
     try refine wkS ?_
     clear hst0
     refine Stop.cutk [ob 2 (nextC c n).enc] [.s 2,.s 3,.s 4,.s 20,.s 21,.o 1,.nx] ?_ ?_
     ·
      cases he2:nth c.log r.next with
      |none =>
       have hge:=nth_none he2
       have hN:nextC c n=c:=by unfold nextC;rw[hr];dsimp only;rw[he2]
       rw[hN]
       repeat(first|refine wa ?_|((with_reducible apply s5);(first|((with_reducible apply a_ia);(iterate 5 exact rfl);exact hir)|exact by_oa|exact by_ca);exact by_g)|refine wb ?_)
       refine q_cut ?_
       exact by_less
      |some e =>
       obtain⟨j,hj1,hj⟩:=nth_some he2
       have hjl:=(List.getElem?_eq_some_iff.1 hj).1
       have hsc:=send_come hK hcn hr he2
       have c1:=fnOk_le (ok_cdo c (stepSend n r.next) hK (by simp[stepSend]) (by simp[stepSend])) (.d (.refl _) (.d (DLes.agg (.cons (.refl _) (.cons (.refl _) (.cons (.refl _) (.cons (dle_nil 3) .nil))))) .nil))
       have c2:=fnOk_le (ok_cdo (doC c (stepSend n r.next)).1 stepCome (hK.step _) (by simp[stepCome]) (by simp[stepCome])) (.d (.refl _) (.d (DLes.agg (.cons (.refl _) (.cons (.refl _) (.cons (.refl _) (.cons (dle_nil 3) .nil))))) .nil))
       rw[hsc]at c2
       change FnOk _ _ [_,.d (.agg [dint 2,dint (n:Int),dint r.next,.v nilS])] _ at c1
       change FnOk _ _ [_,.d (.agg [dint 3,dint 0,dint 0,.v nilS])] _ at c2
       generalize (doC (doC c (stepSend n r.next)).1 stepCome).2=v2 at *
       generalize (doC c (stepSend n r.next)).1=x1 at *
       generalize (doC c (stepSend n r.next)).2=v1 at *
       repeat(first|refine wa ?_|((with_reducible apply s5);(first|exact a_call c1 rfl by_sub|exact a_call c2 rfl by_sub|((with_reducible apply a_buildA);(iterate 4 exact rfl);(repeat(first|exact PartsV.nil|(apply PartsV.cons;exact rfl;exact rfl;(first|exact⟨rfl,trivial⟩|(apply nw_own;exact rfl;(focus first|exact rfl|(simp;done)|(simp;omega)))))));exact rfl)|((with_reducible apply a_ia);(iterate 5 exact rfl);exact hir)|exact by_oa|exact by_ca);exact by_g)|refine wb ?_)
       refine q_cut ?_
       exact by_less
     -- what waits
     try refine wk ?_
     refine CW.loopT (fun t:Cluster=>[sp 2 1,ob 1 [.v nilS,.v nilS,.v nilS],sp 3 2,ob 2 t.enc,sd 4 (dint n),sd 20 (dint R),sd 21 (dint n),nxt 3])
      (fun t=>KInv t∧t.reps.length=R∧t.net=[]∧finC t n=turnC c n) (fun t=>waitR t n) (nextC c n) ⟨n1,n4.trans hcl,n3.trans hcn,rfl⟩ ?_ ?_
     ·
      exact by_less
     ·
      rintro t ⟨t1,t2,t3,t4⟩
      obtain⟨q,hq⟩:∃ q,t.reps[n]? = some q:=⟨t.reps[n]'(by omega),List.getElem?_eq_getElem (by omega)⟩
      obtain⟨hQI,_⟩:=t1.r q (List.mem_of_getElem? hq)
      obtain⟨b,hb⟩:=hQI.b
      have hs:=hQI.sm.e
      have hiq:idx (t.reps.map Replica.enc) (n:Int)=some q.enc:=idx_map hq
      have c1:=ok_pready q.engine hs hQI.e.z.s (fun d hd=>(wrong_keys (hb.W.d d hd)).1) hb.S.k hb.W.nb
      cases h0:ready q.engine with
      |nil =>
       rw[fin_end hq h0]at t4
       rw[h0]at c1
       have hK2:=t1
       rw[t4]at hK2
       have hl2:=t2
       rw[t4]at hl2
       have hn2:=t3
       rw[t4]at hn2
       rw[t4]at hiq
       rw[t4]
       generalize turnC c n=c2 at *
       repeat(first|refine wa ?_|((with_reducible apply s5);(first|exact a_call c1 rfl by_sub|((with_reducible apply a_ia);(iterate 5 exact rfl);exact hiq)|exact by_oa|exact by_ca);exact by_g)|refine wb ?_)
       refine q_loopT (n+1,c2) ⟨by dsimp only;omega,hK2,hl2,hn2,hT2⟩ (by dsimp only;omega) ?_
       exact by_less
      |cons x l =>
       have hx:(ready q.engine)[0]? = some x:=by rw[h0];rfl
       have hrs:=run_step hq hx
       obtain⟨f1,f2⟩:=fin_step hq hx hb.W.l
       rw[h0]at c1
       have c2:=fnOk_le (ok_cdo t (stepRun n) t1 (by simp[stepRun]) (by simp[stepRun])) (.d (.refl _) (.d (DLes.agg (.cons (.refl _) (.cons (.refl _) (.cons (.refl _) (.cons (dle_nil 3) .nil))))) .nil))
       change FnOk _ _ [_,.d (.agg [dint 6,dint (n:Int),dint 0,.v nilS])] _ at c2
       have hK2:=t1.step (stepRun n)
       have hw1:waitR t n=waitN q.engine.state:=by unfold waitR;rw[hq];rfl
       have hw2:waitR (doC t (stepRun n)).1 n=waitN (goE q.engine x).1.state:=by
        unfold waitR
        rw[hrs]
        dsimp only
        rw[List.getElem?_set_self (by omega)]
        rfl
       have hl2:(doC t (stepRun n)).1.reps.length=R:=by rw[hrs];simp[t2]
       have hn2:(doC t (stepRun n)).1.net=[]:=by rw[hrs];exact t3
       have hf2:finC (doC t (stepRun n)).1 n=turnC c n:=by rw[hrs,f1,t4]
       have hlt:waitR (doC t (stepRun n)).1 n < waitR t n:=by rw[hw1,hw2];omega
       clear hw1 hw2 hrs f1 f2
       generalize (doC t (stepRun n)).1=y at *
       generalize (doC t (stepRun n)).2=v at *
       repeat(first|refine wa ?_|((with_reducible apply s5);(first|exact a_call c1 rfl by_sub|exact a_call c2 rfl by_sub|((with_reducible apply a_buildA);(iterate 4 exact rfl);(repeat(first|exact PartsV.nil|(apply PartsV.cons;exact rfl;exact rfl;(first|exact⟨rfl,trivial⟩|(apply nw_own;exact rfl;(focus first|exact rfl|(simp;done)|(simp;omega)))))));exact rfl)|((with_reducible apply a_ia);(iterate 5 exact rfl);exact hiq)|exact by_oa|exact by_ca);exact by_g)|refine wb ?_)
       refine q_loopT y ⟨hK2,hl2,hn2,hf2⟩ hlt ?_
       exact by_less
theorem ok_fsettle (c:Cluster) (h:KInv c):FnOk Tryz.prog 15 [.d (.agg c.enc)] (.tup [.agg (settleC 40 c).1.enc,dint (settleC 40 c).2]):=by
 refine fnOk_of tbl_ok mixed_ok Tryz.func15 rfl (by kernel_rfl) rfl rfl fun w0 own0=>?_
 have c0:=ok_cown c h.sm
 obtain⟨tx,htx⟩:∃ tx,(settleC 40 c).1=tx:=⟨_,rfl⟩
 obtain⟨tn,htn⟩:∃ tn,(settleC 40 c).2=tn:=⟨_,rfl⟩
 rw[htx,htn]
 try refine wk ?_
 refine CW.loopT (fun t:Nat×Cluster=>[sp 2 1,ob 1 [.v nilS,.v nilS,.v nilS],sd 3 (dint 0),sp 4 2,ob 2 t.2.enc,sd 5 (dint t.1),nxt 3])
  (fun t=>t.1≤40∧KInv t.2∧(settleC (40 - t.1) t.2).1=tx∧t.1+(settleC (40 - t.1) t.2).2=tn) (fun t=>40 - t.1) (0,c) ⟨by dsimp only;omega,h,htx,by simpa using htn⟩ ?_ ?_
 ·
  exact by_less
 ·
  rintro ⟨n,x⟩ ⟨hn,hK,hX,hN⟩
  dsimp only at hn hK hX hN ⊢
  by_cases h40:n=40
  ·
   subst h40
   simp only[Nat.sub_self,settleC]at hX hN
   subst hX
   try refine wk ?_
   exact .two (.cell rfl rfl rfl rfl (.aggd (ds:=x.enc) rfl (.refl _))) (.tmp rfl (.one (.d (dle_int (by omega)))))
  ·
   rw[show 40 - n=(39 - n)+1 by omega]at hX hN
   simp only[settleC]at hX hN
   have c1:=ok_fdone x hK
   by_cases hd:doneC x=true
   ·
    rw[if_pos hd]at hX hN
    rw[hd]at c1
    subst hX
    try refine wk ?_
    exact .two (.cell rfl rfl rfl rfl (.aggd (ds:=x.enc) rfl (.refl _))) (.tmp rfl (.one (.d (dle_int (by omega)))))
   ·
    rw[if_neg hd]at hX hN
    have hdf:doneC x=false:=by cases hb:doneC x <;> simp_all
    rw[hdf]at c1
    have c2:=ok_fround x hK
    have hK2:=(roundC_inv hK (lvl_zero hK)).1
    dsimp only at hX hN
    rw[show 39 - n=40 - (n+1) by omega]at hX hN
    generalize roundC x=y at *
    try refine wk ?_
    refine q_loopT (n+1,y) ⟨by dsimp only;omega,hK2,hX,by dsimp only;omega⟩ (by dsimp only;omega) ?_
    exact by_less
def fplay (n:Int) (l:List Step):Cluster×List Int×Int:=if n < 1∨3 < n then (noC,[],3) else if 120 < l.length then (noC,[],5) else (playC (newC n) l,errsC (newC n) l,0)
theorem ok_fplay (n:Int) (l:List Step) (hl:l.length≤10000000) (hs:∀ s∈l,s.Sm) :
  FnOk Tryz.prog 14 [.d (dint n),.d (encSteps l)] (.tup [.agg (fplay n l).1.enc,encInts (fplay n l).2.1,dint (fplay n l).2.2]):=by
 refine fnOk_of tbl_ok mixed_ok Tryz.func14 rfl (by kernel_rfl) rfl rfl fun w0 own0=>?_
 have c1:=ok_cnew n
 unfold fplay
 by_cases hn:n < 1∨3 < n
 ·
  rw[if_pos hn]
  have hm:madeC n=(noC,3):=by unfold madeC;rw[if_pos hn]
  rw[hm]at c1
  try refine wk ?_
  exact .three (.cell rfl rfl rfl rfl (.aggd (ds:=[.v nilS,.v nilS,.v nilS]) rfl noC_le.agg)) (.tmp rfl (.one (.d (dle_nil 1)))) (.tmp rfl (.one (.d (.refl _))))
 rw[if_neg hn]
 have hm:madeC n=(newC n,0):=by unfold madeC;rw[if_neg hn]
 rw[hm]at c1
 have hK:=newC_inv (n:=n) (by omega)
 by_cases h120:120 < l.length
 ·
  rw[if_pos h120]
  try refine wk ?_
  exact .three (.cell rfl rfl rfl rfl (.aggd (ds:=[.v nilS,.v nilS,.v nilS]) rfl noC_le.agg)) (.tmp rfl (.one (.d (dle_nil 1)))) (.tmp rfl (.one (.d (.refl _))))
 rw[if_neg h120]
 dsimp only
 generalize newC n=c0 at *
 obtain⟨tg,htg⟩:∃ tg,playC c0 l=tg:=⟨_,rfl⟩
 obtain⟨te,hte⟩:∃ te,errsC c0 l=te:=⟨_,rfl⟩
 rw[htg,hte]
 try refine wk ?_
 refine CW.stut (stut_promote (i:=9) 54 1) ⟨rfl,rfl,trivial⟩ ?_
 refine CW.loopT (fun t:Nat×Cluster×List Int=>[sp 4 0,ob 0 [.v nilS,.v nilS,.v nilS],sd 5 (.v nilS),sd 6 (dint 0),sp 7 1,ob 1 t.2.1.enc,so 9 2 t.1,oa 2 54 1 (t.2.2.map encInt1),sd 27 (encSteps l),sd 28 (dint l.length),sd 29 (dint t.1),nxt 3])
  (fun t=>t.1≤l.length∧t.2.2.length=t.1∧KInv t.2.1∧playC t.2.1 (l.drop t.1)=tg∧t.2.2++errsC t.2.1 (l.drop t.1)=te) (fun t=>l.length - t.1) (0,c0,[]) ⟨by dsimp only;omega,rfl,hK,htg,hte⟩ ?_ ?_
 ·
  exact by_less
 ·
  rintro ⟨i,c,es⟩ ⟨hi,he,hc,hI,hE⟩
  dsimp only at hi he hc hI hE ⊢
  rcases drop_case hi with ⟨h5,h6⟩|⟨s,h5,h6,h7⟩
  ·
   rw[h5]at hI hE
   simp only[playC,errsC,List.append_nil]at hI hE
   subst hI hE
   try refine wk ?_
   exact .three (.cell rfl rfl rfl rfl (.aggd (ds:=c.enc) rfl (.refl _))) (.tmp rfl (.one (.own rfl (by simp;omega) (.refl _)))) (.tmp rfl (.one (.d (.refl _))))
  ·
   rw[h5]at hI hE
   simp only[playC,errsC]at hI hE
   have hsm:=hs s (List.mem_of_getElem? h6)
   have c2:=ok_cdo c s hc hsm.d (by have:=hsm.l;omega)
   have hc2:=hc.step s
   generalize (doC c s).1=x at *
   generalize (doC c s).2=v at *
   have h10:es.map encInt1++[[dint v]]=(es++[v]).map encInt1:=by simp[encInt1]
   repeat(first|((with_reducible apply s5);((with_reducible apply a_bs [[dint v]]);(iterate 9 exact rfl);(repeat(first|exact PartsE.nil|(apply PartsE.cons;exact rfl;exact rfl))));exact by_g)|refine wa1 ?_|((with_reducible apply s5);(first|exact by_oa|exact by_ca);exact by_g)|refine wb ?_)
   refine q_loopT (i+1,x,es++[v]) ⟨by dsimp only;omega,by simp;omega,hc2,hI,by rw[List.append_assoc];exact hE⟩ (by dsimp only;omega) ?_
   exact by_less
end Go.Proofs.YtccblhpfjlgmbabGreatDoor
namespace Go.AX
open Go.RowKit
variable {cx:Cx}{g:Nat→Value}{σ σ':St}{a:Act}{w w':World}{nx:Nat}
variable {ty:TypeId}{pos:String}{af:Array Edge}{gd:Option (Nat×Bool)}{d:Nat}
theorem a_min {x y:Operand}{kx ky:IntKind}{m n r:Int}{ats:Array TypeId}(hx:ev σ x=some (.d (.v (.int kx m)))) (hy:ev σ y=some (.d (.v (.int ky n)))) (hd:Nat.blt d cx.n=true) (hr:r=if n < m then n else m) :
  OA cx σ ⟨some d,.call { callee := .builtin .min,args := #[x,y],argTypes:=ats },ty,pos,af,gd⟩ ⟨rdOf x (.d (.v (.int kx m)))++rdOf y (.d (.v (.int ky n))),[(.s d,.av (.d (.v (.int kx r))))]⟩:=by
 refine⟨ok_val rfl (lt_of_blt hd) fun σ1 a w g nx hs hrd=>?_,(ev_out hx).2.append (ev_out hy).2⟩
 have hvx:=rep_v (hs.ev (ev_out hx).1 hrd.left).1
 have hvy:=rep_v (hs.ev (ev_out hy).1 hrd.right).1
 exact⟨.int kx r,w,by simp[execOp,resolve,invoke,builtin,hvx,hvy,run_min_int2,hr],Below.refl _ _,Rd.v _,trivial⟩
end Go.AX
namespace Go.Proofs.YtccblhpfjlgmbabGreatDoor
open Go.AX Go.RF
set_option maxRecDepth 100000
set_option maxHeartbeats 8000000
theorem ok_readT (s:Str) (d:Deed) (h:parseE s = .ok d) (hs:s.length≤1000000):FnOk Tryz.prog 8 [.d (dstr s)] (.one (.agg d.enc)):=by
 refine fnOk_of tbl_ok mixed_ok Tryz.func8 rfl (by kernel_rfl) rfl rfl fun w0 own0=>?_
 have c1:=ok_tparse s (by omega)
 rw[parseR_ok h]at c1
 dsimp only at c1
 try refine wk ?_
 exact .one (.cell rfl rfl rfl rfl (.aggd rfl (.refl _)))
theorem min_cut {l:List Deed}{a:Nat}(hl:l.length≤a):l.take a=l.take l.length∧l.drop a=l.drop l.length:=by
 rw[List.take_of_length_le hl,List.take_length,List.drop_eq_nil_of_le hl,List.drop_length]
 exact⟨rfl,rfl⟩
theorem new_batches (l:List Deed) (a:Nat) (ha:1≤a) (hA:a≤1000) (hl:l.length≤1000):FnNew Tryz.prog 11 [.d (encDeeds l),.d (dint a)] 34 4 ((batchesD l a).map Step.enc):=by
 refine fnNew_of tbl_ok mixed_ok Tryz.func11 rfl (by kernel_rfl) rfl rfl fun w0 own0=>?_
 unfold batchesD
 obtain⟨tg,htg⟩:∃ tg,(chunks a l.length l).map bstep=tg:=⟨_,rfl⟩
 rw[htg]
 try refine wk ?_
 refine CW.stut (stut_promote (i:=5) 34 4) ⟨rfl,rfl,trivial⟩ ?_
 refine CW.loopT (fun t:List Deed×List Step=>[sd 0 (encDeeds t.1),sd 1 (dint a),sd 4 (.v nilS),so 5 0 t.2.length,oa 0 34 4 (t.2.map Step.enc),nxt 1])
  (fun t=>t.2.length+t.1.length≤1000∧t.2++(chunks a t.1.length t.1).map bstep=tg) (fun t=>t.1.length) (l,[]) ⟨by simp;omega,by simpa using htg⟩ ?_ ?_
 ·
  exact by_less
 ·
  rintro ⟨l,o⟩ ⟨h1,hI⟩
  dsimp only at h1 hI ⊢
  by_cases h0:l=[]
  ·
   subst h0
   simp[chunks]at hI
   subst hI
   try refine wk ?_
   exact RetNew.own rfl rfl (by simp)
  ·
   have hp:=List.length_pos_iff.2 h0
   rw[chunks_cons ha h0,List.map_cons]at hI
   obtain⟨m,hm1,hm2,hm3,hm4,hm5⟩:∃ m:Nat,(m:Int)=(if (l.length:Int) < (a:Int) then (l.length:Int) else (a:Int))∧l.take a=l.take m∧l.drop a=l.drop m∧1≤m∧m≤l.length:=by
    by_cases h:(l.length:Int) < (a:Int)
    ·
     exact⟨l.length,by rw[if_pos h],(min_cut (by omega)).1,(min_cut (by omega)).2,by omega,by omega⟩
    ·
     exact⟨a,by rw[if_neg h],rfl,rfl,ha,by omega⟩
   rw[hm2,hm3]at hI
   have hq:o.map Step.enc++[[dint 1,dint 0,dint 0,encDeeds (l.take m)]]=(o++[bstep (l.take m)]).map Step.enc:=by simp[bstep,Step.enc]
   have hc1:cutI (l.map Deed.enc) none (some (m:Int))=some ((l.take m).map Deed.enc):=by rw[cut_to (by simp;omega),List.map_take]
   have hc2:cutI (l.map Deed.enc) (some (m:Int)) none=some ((l.drop m).map Deed.enc):=by rw[cut_from (by simp;omega),List.map_drop]
   have hlen:(l.drop m).length < l.length:=by rw[List.length_drop];omega
   have hm6:(m:Int)=if (((l.map Deed.enc).length:Nat):Int) < (a:Int) then (((l.map Deed.enc).length:Nat):Int) else (a:Int):=by rw[List.length_map];exact hm1
   repeat(first|((with_reducible apply s5);((with_reducible apply a_bs [[dint 1,dint 0,dint 0,encDeeds (l.take m)]]);(iterate 9 exact rfl);(repeat(first|exact PartsE.nil|(apply PartsE.cons;exact rfl;exact rfl))));exact by_g)|refine wa1 ?_|((with_reducible apply s5);(first|((with_reducible apply a_min);exact rfl;exact rfl;exact rfl;exact hm6)|((with_reducible apply a_to);(iterate 5 exact rfl);exact hc1)|((with_reducible apply a_from);(iterate 5 exact rfl);exact hc2)|((with_reducible apply a_buildA);(iterate 4 exact rfl);(repeat(first|exact PartsV.nil|(apply PartsV.cons;exact rfl;exact rfl;(first|exact⟨rfl,trivial⟩|(apply nw_own;exact rfl;(focus first|exact rfl|(simp;done)|(simp;omega)))))));exact rfl)|exact by_oa|exact by_ca);exact by_g)|refine wb ?_)
   refine q_loopT (l.drop m,o++[bstep (l.take m)]) ⟨by dsimp only;simp;omega,by dsimp only;rw[List.append_assoc];exact hI⟩ hlen ?_
   exact by_less
theorem ok_settled (n:Int) (l:List Step) (h1:1≤n) (h3:n≤3) (hl:l.length≤120) (hs:∀ s∈l,s.Sm) :
  FnOk Tryz.prog 10 [.d (dint n),.d (encSteps l)] (.tup [encRows (allD [] (dAll (playC (newC n) l).log)).1,dbool true]):=by
 refine fnOk_of tbl_ok mixed_ok Tryz.func10 rfl (by kernel_rfl) rfl rfl fun w0 own0=>?_
 have c1:=ok_fplay n l (by omega) hs
 have hp:fplay n l=(playC (newC n) l,errsC (newC n) l,0):=by unfold fplay;rw[if_neg (by omega),if_neg (by omega)]
 rw[hp]at c1
 have hC:KInv (playC (newC n) l):=(newC_inv h3).play
 have hrl:((playC (newC n) l).reps.length:Int)=n:=by
  rw[play_reps];simp[newC];omega
 have hrows:=fun r hr=>settled_rows hC (r:=r) hr
 generalize playC (newC n) l=c at *
 generalize errsC (newC n) l=es at *
 have c2:=ok_fsettle c hC
 obtain⟨hX,hL,hR,hN,hD⟩:=settle_done hC
 generalize (settleC 40 c).1=x at *
 generalize (settleC 40 c).2=k at *
 have c3:=ok_fdone x hX
 rw[hD]at c3
 generalize (allD [] (dAll c.log)).1=R at *
 have c4:∀ r∈x.reps,FnOk Tryz.prog 16 [.d (.agg r.enc)] (.one (encRows R)):=fun r hr=>by
  have:=ok_repSeen r (hX.r r hr).1
  rw[hrows r hr]at this
  exact this
 dsimp only at c1
 have hXk:=hX.k
 obtain⟨r0,hr0⟩:∃ r,x.reps[0]? = some r:=⟨x.reps[0]'(by omega),List.getElem?_eq_getElem (by omega)⟩
 have hRl:R.length≤134217728:=by
  have h5:=hrows r0 (List.mem_of_getElem? hr0)
  have h6:=seenE_len r0.engine (markN r0.engine.state)
  rw[h5]at h6
  have h7:=(hX.r r0 (List.mem_of_getElem? hr0)).1.sm.e.c
  dsimp only at h6
  omega
 have c5:=c4 r0 (List.mem_of_getElem? hr0)
 have c6:=ok_SameRows R R (by omega)
 rw[allB_refl (by simp)]at c6
 have hix:idx (x.reps.map Replica.enc) 0=some r0.enc:=idx_map (k:=0) hr0
 repeat(first|refine wa ?_|((with_reducible apply s5);(first|exact a_call c5 rfl by_sub|((with_reducible apply a_ia);(iterate 5 exact rfl);exact hix)|exact by_oa|exact by_ca);exact by_g)|refine wb ?_)
 refine CW.loopT (fun i:Nat=>[sd 4 (.v nilS),sd 5 (dbool false),sd 11 (encRows R),sd 44 (encReps x.reps),sd 45 (dint x.reps.length),sd 46 (dint i),nxt 2]) (fun i=>i≤x.reps.length) (fun i=>x.reps.length - i) 0 (by omega) ?_ ?_
 ·
  exact by_less
 ·
  rintro i hi
  rcases drop_case hi with ⟨g1,g2⟩|⟨r,g1,g2,g3⟩
  ·
   try refine wk ?_
   exact .two (.tmp rfl (.one (.d (.refl _)))) (.tmp rfl (.one (.d (.refl _))))
  ·
   have c7:=c4 r (List.mem_of_getElem? g2)
   repeat(first|refine wa ?_|((with_reducible apply s5);(first|exact a_call c7 rfl by_sub|exact by_oa|exact by_ca);exact by_g)|refine wb ?_)
   refine q_loopT (i+1) (by omega) (by omega) ?_
   exact by_less
theorem tPay_len (i j:Nat) (n:Int) (hn:0≤n∧n≤1000):(tPay (nameP i) (nameP j) n).length≤400:=by
 have h1:∀ k,(nameP k).length=1:=fun k=>by unfold nameP;split <;> rfl
 have h2:=itoa_len n (by omega) (by omega)
 unfold tPay
 simp only[List.length_append,h1,List.length_cons,List.length_nil]
 omega
theorem ok_pay (i j:Nat) (hi:i < 3) (hj:j < 3) (hij:i≠j) (n:Int) (hn:0≤n∧n≤1000) :
  FnOk Tryz.prog 9 [.d (dstr (nameP i)),.d (dstr (nameP j)),.d (dint n)] (.one (.agg (dPay (nameP i) (nameP j) n).enc)):=by
 refine fnOk_of tbl_ok mixed_ok Tryz.func9 rfl (by kernel_rfl) rfl rfl fun w0 own0=>?_
 have c1:=ok_itoaG n (by omega) (by omega)
 have hw:wrongDeed (dPay (nameP i) (nameP j) n)=0:=by
  obtain⟨k,rfl⟩:=Int.eq_ofNat_of_zero_le hn.1
  exact dPay_right ⟨i,hi⟩ ⟨j,hj⟩ (fun h=>hij (by simpa using h)) ⟨k,by omega⟩
 have c2:=ok_readT (tPay (nameP i) (nameP j) n) (dPay (nameP i) (nameP j) n) (by rw[← pay_print];exact parse_print hw) (by have:=tPay_len i j n hn;omega)
 have hl:=tPay_len i j n hn
 unfold tPay at c2 hl
 have hi1:(nameP i).length=1:=by unfold nameP;split <;> rfl
 have hj1:(nameP j).length=1:=by unfold nameP;split <;> rfl
 have hnl:=itoa_len n (by omega) (by omega)
 generalize dPay (nameP i) (nameP j) n=dd at *
 generalize nameP i=a at *
 generalize nameP j=b at *
 generalize Lib.itoa n=s at *
 repeat(first|refine wa ?_|((with_reducible apply s5);(first|((with_reducible apply a_bin);exact rfl;exact rfl;exact bin_sadd (by simp;omega);exact rfl)|exact by_oa|exact by_ca);exact by_g)|refine wb ?_)
 exact .one (.cell rfl rfl rfl rfl (.aggd rfl (.refl _)))
theorem right_mem:∀ {l:List Deed},right l=true→∀ d∈l,wrongDeed d=0
 |x::l,h,d,hd=>by
  simp only[right]at h
  by_cases h0:wrongDeed x=0
  ·
   rw[if_pos h0]at h
   rcases List.mem_cons.1 hd with rfl|hd
   ·
    exact h0
   ·
    exact right_mem h d hd
  ·
   rw[if_neg h0]at h;cases h
theorem allD_len1:∀ {l:List Deed}{r:List Pair},(∀ d∈l,Deed.Ok d)→(allD r l).1.length≤r.length+12*l.length
 | [],r,_=>by simp[allD]
 |d::l,r,h=>by
  have h1:=doD_len r d
  have h2:=(h d (List.mem_cons_self ..)).c
  have:=allD_len1 (l:=l) (r:=(doD r d).1) fun x hx=>h x (List.mem_cons_of_mem _ hx)
  simp only[allD,List.length_cons]
  omega
def tG:Str:=[114,101,97,100,115,59,32,119,114,105,116,101,115,32,97,59,32,99,111,110,115,116,32,114,48,32,55,59,32,115,116,111,114,101,32,114,48,32,97]
def dG:Deed:=⟨[],[[97]],[⟨2,0,0,7,[]⟩,⟨6,0,0,0,[97]⟩]⟩
theorem pG:printD dG=tG:=by decide +kernel
theorem wG:wrongDeed dG=0:=by decide +kernel
def tK:Str:=[114,101,97,100,115,32,107,59,32,119,114,105,116,101,115,32,107,59,32,108,111,97,100,32,114,48,32,107,59,32,99,111,110,115,116,32,114,49,32,49,59,32,97,100,100,32,114,48,32,114,49,59,32,115,116,111,114,101,32,114,48,32,107]
theorem pK:printD dK=tK:=by decide +kernel
def tS:Str:=[114,101,97,100,115,59,32,119,114,105,116,101,115,32,97,32,98,32,99,59,32,99,111,110,115,116,32,114,48,32,49,48,48,59,32,115,116,111,114,101,32,114,48,32,97,59,32,115,116,111,114,101,32,114,48,32,98,59,32,115,116,111,114,101,32,114,48,32,99]
theorem pS:printD dStart=tS:=by decide +kernel
def sG:Step:=bstep [dG]
def kG:Cluster:=playC (newC 1) [sG]
theorem aT_a:fplay 1 [sG]=(kG,errsC (newC 1) [sG],0):=rfl
theorem aT_b:(allD [] (dAll kG.log)).1=[⟨[97],7⟩]∧kG.reps.length=1:=by decide +kernel
theorem ok_aliveT:FnOk Tryz.prog 7 [] (.one (dbool true)):=by
 refine fnOk_of tbl_ok mixed_ok Tryz.func7 rfl (by kernel_rfl) rfl rfl fun w0 own0=>?_
 have c1:=ok_readT tG dG (by rw[← pG];exact parse_print wG) (by decide)
 have hsm:sG.Sm:=⟨by simp[sG,bstep],fun d hd=>by
  rw[List.mem_singleton.1 (show d∈[dG] from hd)]
  exact wrong_sm wG⟩
 have c2:=ok_fplay 1 [sG] (by simp) (fun s hs=>by rw[List.mem_singleton.1 hs];exact hsm)
 rw[aT_a]at c2
 have hK:KInv kG:=(newC_inv (n:=1) (by omega)).play
 have c3:=ok_fsettle kG hK
 obtain⟨hX,hL,hR,hN,hD⟩:=settle_done hK
 rw[aT_b.2]at hR
 have hrows:=fun r hr=>settled_rows hK (r:=r) hr
 rw[aT_b.1]at hrows
 generalize (settleC 40 kG).1=x at *
 generalize (settleC 40 kG).2=k at *
 obtain⟨r,hr⟩:∃ r,x.reps[0]? = some r:=⟨x.reps[0]'(by omega),List.getElem?_eq_getElem (by omega)⟩
 have c4:=ok_repSeen r (hX.r r (List.mem_of_getElem? hr)).1
 rw[hrows r (List.mem_of_getElem? hr)]at c4
 have hix:idx (x.reps.map Replica.enc) 0=some r.enc:=idx_map (k:=0) hr
 change FnOk _ _ [_,.d (.sl 4 [[dint 1,dint 0,dint 0,.sl 3 [dG.enc]]])] (.tup [.agg kG.enc,encInts (errsC (newC 1) [sG]),dint 0]) at c2
 change FnOk _ _ _ (.one (.sl 2 [[dstr [97],dint 7]])) at c4
 clear hK hX hrows
 generalize kG=c at *
 generalize errsC (newC 1) [sG]=es at *
 repeat(first|((with_reducible apply s5);((with_reducible apply a_bs [dG.enc]);(iterate 9 exact rfl);(repeat(first|exact PartsE.nil|(apply PartsE.cons;exact rfl;exact rfl))));exact by_g)|((with_reducible apply s5);((with_reducible apply a_bs [[dint 1,dint 0,dint 0,.sl 3 [dG.enc]]]);(iterate 9 exact rfl);(repeat(first|exact PartsE.nil|(apply PartsE.cons;exact rfl;exact rfl))));exact by_g)|refine wa1 ?_|((with_reducible apply s5);(first|((with_reducible apply a_buildA);(iterate 4 exact rfl);(repeat(first|exact PartsV.nil|(apply PartsV.cons;exact rfl;exact rfl;(first|exact⟨rfl,trivial⟩|(apply nw_own;exact rfl;(focus first|exact rfl|(simp;done)|(simp;omega)))))));exact rfl)|((with_reducible apply a_ia);(iterate 5 exact rfl);exact hix)|exact by_oa|exact by_ca);exact by_g)|refine wb ?_)
 exact .one (.tmp rfl (.one (.d (.refl _))))
theorem bstep_sm {l:List Deed}(hl:l.length≤1000) (h:∀ d∈l,wrongDeed d=0) {a:Nat}:∀ s∈batchesD l a,s.Sm:=fun s hs=>by
 unfold batchesD at hs
 obtain⟨b,hb,rfl⟩:=List.mem_map.1 hs
 obtain⟨h1,h2⟩:=chunks_mem b hb
 exact⟨by
  have:b.length≤l.length:=chunks_sub b hb
  show b.length≤_
  omega,fun d hd=>wrong_sm (h d (h2 d hd))⟩
theorem ok_batches (l:List Deed) (a:Nat) (ha:1≤a) (hA:a≤1000) (hl:l.length≤1000):FnOk Tryz.prog 11 [.d (encDeeds l),.d (dint a)] (.one (encSteps (batchesD l a))):=(new_batches l a ha hA hl).ok
theorem ok_settledB (l:List Deed) (a:Nat) (n:Int) (ha:1≤a∧a≤6) (hl:l.length≤12) (hw:∀ d∈l,wrongDeed d=0) (h1:1≤n) (h3:n≤3) :
  FnOk Tryz.prog 10 [.d (dint n),.d (encSteps (batchesD l a))] (.tup [encRows (allD [] l).1,dbool true]):=by
 have hb:=batches_len ha.1 (l:=l)
 have c:=ok_settled n (batchesD l a) h1 h3 (by omega) (bstep_sm (by omega) hw)
 have hch:(chunks a l.length l).length≤12:=by
  unfold batchesD at hb
  rw[List.length_map]at hb
  omega
 have:=settled_deeds (l:=l) (a:=a) (n:=n) (bw:=[]) ha hch hw (by simp)
 rw[List.append_nil]at this
 rw[this]at c
 exact c
theorem allD_small {l:List Deed}(hl:l.length≤1000) (hw:∀ d∈l,wrongDeed d=0):(allD [] l).1.length≤1073741824:=by
 have:=allD_len1 (l:=l) (r:=[]) (fun d hd=>wrongDeed_ok (hw d hd))
 simp at this
 omega
theorem ok_TopBatch (l:List Deed) (a b n m:Int) (hl:l.length≤1048576) (hd:∀ d∈l,d.Sm) :
  FnOk Tryz.prog 4 [.d (encDeeds l),.d (dint a),.d (dint b),.d (dint n),.d (dint m)] (.one (dbool true)):=by
 refine fnOk_of tbl_ok mixed_ok Tryz.func4 rfl (by kernel_rfl) rfl rfl fun w0 own0=>?_
 have c0:=ok_aliveT
 have c1:=ok_right l (by omega) hd
 by_cases g0:12 < l.length
 ·
  try refine wk ?_
  exact .one (.tmp rfl (.one (.d (.refl _))))
 cases hr:right l with
 |false =>
  rw[hr]at c1
  try refine wk ?_
  exact .one (.tmp rfl (.one (.d (.refl _))))
 |true =>
  rw[hr]at c1
  by_cases ok:(1≤a∧a≤6)∧(1≤b∧b≤6)∧(1≤n∧n≤3)∧(1≤m∧m≤3)
  ·
   obtain⟨ga,gb,gn,gm⟩:=ok
   have hw:=right_mem hr
   obtain⟨A,rfl⟩:=Int.eq_ofNat_of_zero_le (show 0≤a by omega)
   obtain⟨B,rfl⟩:=Int.eq_ofNat_of_zero_le (show 0≤b by omega)
   have c2:=ok_batches l A (by omega) (by omega) (by omega)
   have c3:=ok_batches l B (by omega) (by omega) (by omega)
   have c4:=ok_settledB l A n (by omega) (by omega) hw (by omega) (by omega)
   have c5:=ok_settledB l B m (by omega) (by omega) hw (by omega) (by omega)
   have c6:=ok_SameRows (allD [] l).1 (allD [] l).1 (allD_small (by omega) hw)
   rw[allB_refl (by simp)]at c6
   generalize (allD [] l).1=R at *
   generalize batchesD l A=bA at *
   generalize batchesD l B=bB at *
   repeat(first|refine wa ?_|((with_reducible apply s5);(first|(focus ((with_reducible apply(a_call c2));exact rfl;(repeat(first|exact SubsE.nil|(apply SubsE.cons;exact rfl;(first|exact .d (.refl _)|exact .d (.nil _)|exact .agg rfl (.refl _)|exact .pd|exact .ptr rfl);(first|exact trivial|exact⟨rfl,trivial⟩))));done))|(focus ((with_reducible apply(a_call c3));exact rfl;(repeat(first|exact SubsE.nil|(apply SubsE.cons;exact rfl;(first|exact .d (.refl _)|exact .d (.nil _)|exact .agg rfl (.refl _)|exact .pd|exact .ptr rfl);(first|exact trivial|exact⟨rfl,trivial⟩))));done))|(focus ((with_reducible apply(a_call c4));exact rfl;(repeat(first|exact SubsE.nil|(apply SubsE.cons;exact rfl;(first|exact .d (.refl _)|exact .d (.nil _)|exact .agg rfl (.refl _)|exact .pd|exact .ptr rfl);(first|exact trivial|exact⟨rfl,trivial⟩))));done))|(focus ((with_reducible apply(a_call c5));exact rfl;(repeat(first|exact SubsE.nil|(apply SubsE.cons;exact rfl;(first|exact .d (.refl _)|exact .d (.nil _)|exact .agg rfl (.refl _)|exact .pd|exact .ptr rfl);(first|exact trivial|exact⟨rfl,trivial⟩))));done))|exact by_oa|exact by_ca);exact by_g)|refine wb ?_)
   exact .one (.tmp rfl (.one (.d (.refl _))))
  ·
   rcases(show a < 1∨(1≤a∧6 < a)∨((1≤a∧a≤6)∧b < 1)∨((1≤a∧a≤6)∧1≤b∧6 < b)∨((1≤a∧a≤6)∧(1≤b∧b≤6)∧n < 1)∨((1≤a∧a≤6)∧(1≤b∧b≤6)∧1≤n∧3 < n)∨((1≤a∧a≤6)∧(1≤b∧b≤6)∧(1≤n∧n≤3)∧m < 1)∨((1≤a∧a≤6)∧(1≤b∧b≤6)∧(1≤n∧n≤3)∧1≤m∧3 < m) by omega) with k|k|k|k|k|k|k|k
   all_goals
    try refine wk ?_
    exact .one (.tmp rfl (.one (.d (.refl _))))
theorem ok_TopReads (l:List Deed) (n:Int) (hl:l.length≤1048576) (hd:∀ d∈l,d.Sm) :
  FnOk Tryz.prog 6 [.d (encDeeds l),.d (dint n)] (.one (dbool true)):=by
 refine fnOk_of tbl_ok mixed_ok Tryz.func6 rfl (by kernel_rfl) rfl rfl fun w0 own0=>?_
 have c0:=ok_aliveT
 have c1:=ok_right l (by omega) hd
 by_cases g0:12 < l.length
 ·
  try refine wk ?_
  exact .one (.tmp rfl (.one (.d (.refl _))))
 cases hr:right l with
 |false =>
  rw[hr]at c1
  try refine wk ?_
  exact .one (.tmp rfl (.one (.d (.refl _))))
 |true =>
  rw[hr]at c1
  by_cases g1:n < 1
  ·
   try refine wk ?_
   exact .one (.tmp rfl (.one (.d (.refl _))))
  by_cases g2:3 < n
  ·
   try refine wk ?_
   exact .one (.tmp rfl (.one (.d (.refl _))))
  have hw:=right_mem hr
  obtain⟨F,hF⟩:∃ F:Nat→List Deed,F=fun i=>(l.take i).filter fun d=>decide (0 < d.writes.length):=⟨_,rfl⟩
  have hF0:F 0=[]:=by rw[hF];simp
  have hFl:∀ i,(F i).length≤i:=fun i=>by
   rw[hF]
   have:=List.length_filter_le (fun d:Deed=>decide (0 < d.writes.length)) (l.take i)
   rw[List.length_take]at this
   dsimp only
   omega
  try refine wk ?_
  refine CW.stut (stut_promote (i:=5) 28 3) ⟨rfl,rfl,trivial⟩ ?_
  refine CW.loopT (fun i:Nat=>[sd 0 (encDeeds l),sd 1 (dint n),so 5 0 (F i).length,oa 0 28 3 ((F i).map Deed.enc),sd 30 (encDeeds l),sd 31 (dint l.length),sd 32 (dint i),nxt 1]) (fun i=>i≤l.length) (fun i=>l.length - i) 0 (by omega) ?_ ?_
  ·
   rw[hF0]
   exact by_less
  ·
   rintro i hi
   have hfi:=hFl i
   rcases drop_case hi with ⟨h1,h2⟩|⟨d,h1,h2,h3⟩
   ·
    subst h2
    have hFF:F l.length=l.filter fun d=>decide (0 < d.writes.length):=by rw[hF];dsimp only;rw[List.take_length]
    have hwF:∀ d∈F l.length,wrongDeed d=0:=fun d hd=>by rw[hFF]at hd;exact hw d ((List.mem_filter.1 hd).1)
    have c2:=ok_batches l 6 (by omega) (by omega) (by omega)
    have c3:=ok_batches (F l.length) 6 (by omega) (by omega) (by omega)
    have c4:=ok_settledB l 6 n (by omega) (by omega) hw (by omega) (by omega)
    have c5:=ok_settledB (F l.length) 6 n (by omega) (by omega) hwF (by omega) (by omega)
    have hlk:(allD [] (F l.length)).1=(allD [] l).1:=by rw[hFF];exact allD_look hw
    rw[hlk]at c5
    have c6:=ok_SameRows (allD [] l).1 (allD [] l).1 (allD_small (by omega) hw)
    rw[allB_refl (by simp)]at c6
    generalize (allD [] l).1=R at *
    generalize batchesD l 6=bA at *
    generalize batchesD (F l.length) 6=bB at *
    refine CW.stut (stut_freeze (i:=5) (id:=0) (by simp)) ⟨rfl,rfl,trivial⟩ ?_
    repeat(first|refine wa ?_|((with_reducible apply s5);(first|(focus ((with_reducible apply(a_call c2));exact rfl;(repeat(first|exact SubsE.nil|(apply SubsE.cons;exact rfl;(first|exact .d (.refl _)|exact .d (.nil _)|exact .agg rfl (.refl _)|exact .pd|exact .ptr rfl);(first|exact trivial|exact⟨rfl,trivial⟩))));done))|(focus ((with_reducible apply(a_call c3));exact rfl;(repeat(first|exact SubsE.nil|(apply SubsE.cons;exact rfl;(first|exact .d (.refl _)|exact .d (.nil _)|exact .agg rfl (.refl _)|exact .pd|exact .ptr rfl);(first|exact trivial|exact⟨rfl,trivial⟩))));done))|(focus ((with_reducible apply(a_call c4));exact rfl;(repeat(first|exact SubsE.nil|(apply SubsE.cons;exact rfl;(first|exact .d (.refl _)|exact .d (.nil _)|exact .agg rfl (.refl _)|exact .pd|exact .ptr rfl);(first|exact trivial|exact⟨rfl,trivial⟩))));done))|(focus ((with_reducible apply(a_call c5));exact rfl;(repeat(first|exact SubsE.nil|(apply SubsE.cons;exact rfl;(first|exact .d (.refl _)|exact .d (.nil _)|exact .agg rfl (.refl _)|exact .pd|exact .ptr rfl);(first|exact trivial|exact⟨rfl,trivial⟩))));done))|exact by_oa|exact by_ca);exact by_g)|refine wb ?_)
    exact .one (.tmp rfl (.one (.d (.refl _))))
   ·
    have hFs:F (i+1)=if 0 < d.writes.length then F i++[d] else F i:=by
     rw[hF]
     dsimp only
     rw[List.take_add_one,h2,List.filter_append]
     by_cases hq:0 < d.writes.length
     ·
      rw[if_pos hq];simp[List.filter,hq]
     ·
      rw[if_neg hq];simp[List.filter,hq]
    by_cases hq:0 < d.writes.length
    ·
     rw[if_pos hq]at hFs
     have hen:(F i).map Deed.enc++[d.enc]=(F (i+1)).map Deed.enc:=by rw[hFs];simp
     repeat(first|((with_reducible apply s5);((with_reducible apply a_bs [d.enc]);(iterate 9 exact rfl);(repeat(first|exact PartsE.nil|(apply PartsE.cons;exact rfl;exact rfl))));exact by_g)|refine wa1 ?_|((with_reducible apply s5);(first|exact by_oa|exact by_ca);exact by_g)|refine wb ?_)
     refine q_loopT (i+1) (by omega) (by omega) ?_
     rw[hFs]
     exact by_less
    ·
     rw[if_neg hq]at hFs
     have hq0:d.writes.length=0:=by omega
     have hq1:d.writes=[]:=List.eq_nil_of_length_eq_zero hq0
     try refine wk ?_
     refine q_loopT (i+1) (by omega) (by omega) ?_
     rw[hFs]
     exact by_less
theorem ok_settledW (l:List Deed) (bw:List Step) (n:Int) (hl:l.length≤60) (hw:∀ d∈l,wrongDeed d=0) (hb:bw.length≤60) (hk:∀ s∈bw,s.kind≠1) (hs:∀ s∈bw,s.Sm) (h1:1≤n) (h3:n≤3) :
  FnOk Tryz.prog 10 [.d (dint n),.d (.sl 4 ((batchesD l 6).map Step.enc++bw.map Step.enc))] (.tup [encRows (allD [] l).1,dbool true]):=by
 have hlen:=chunks_len (a:=6) (by omega) (f:=l.length) (l:=l)
 have hbl:(batchesD l 6).length=(chunks 6 l.length l).length:=by unfold batchesD;rw[List.length_map]
 have c:=ok_settled n (batchesD l 6++bw) h1 h3 (by rw[List.length_append];omega) (fun s h=>by
  rcases List.mem_append.1 h with h|h
  ·
   exact bstep_sm (by omega) hw s h
  ·
   exact hs s h)
 rw[settled_deeds (l:=l) (a:=6) (n:=n) (bw:=bw) (by omega) (by omega) hw hk]at c
 have:encSteps (batchesD l 6++bw) = .sl 4 ((batchesD l 6).map Step.enc++bw.map Step.enc):=by unfold encSteps;rw[List.map_append]
 rw[this]at c
 exact c
theorem ok_TopCount (n k:Int) (bw:List Step) (hl:bw.length≤1048576) (hs:∀ s∈bw,s.Sm) :
  FnOk Tryz.prog 5 [.d (dint n),.d (dint k),.d (encSteps bw)] (.one (dbool true)):=by
 refine fnOk_of tbl_ok mixed_ok Tryz.func5 rfl (by kernel_rfl) rfl rfl fun w0 own0=>?_
 have c0:=ok_aliveT
 by_cases ok:(1≤n∧n≤3)∧(1≤k∧k≤40)∧bw.length≤60
 case neg =>
  rcases(show n < 1∨(1≤n∧3 < n)∨((1≤n∧n≤3)∧k < 1)∨((1≤n∧n≤3)∧1≤k∧40 < k)∨((1≤n∧n≤3)∧(1≤k∧k≤40)∧60 < bw.length) by omega) with q|q|q|q|q
  all_goals
   try refine wk ?_
   exact .one (.tmp rfl (.one (.d (.refl _))))
 obtain⟨gn,gk,gb⟩:=ok
 obtain⟨K,rfl⟩:=Int.eq_ofNat_of_zero_le (show 0≤k by omega)
 have c1:=ok_readT tK dK (by rw[← pK];exact parse_print dK_right) (by decide)
 have hrep:∀ i:Nat,(List.replicate i dK).map Deed.enc++[dK.enc]=(List.replicate (i+1) dK).map Deed.enc:=fun i=>by rw[List.replicate_succ',List.map_append];rfl
 try refine wk ?_
 refine CW.stut (stut_promote (i:=7) 28 3) ⟨rfl,rfl,trivial⟩ ?_
 refine CW.loopT (fun i:Nat=>[sd 0 (dint n),sd 1 (dint K),sd 2 (encSteps bw),so 7 0 i,oa 0 28 3 ((List.replicate i dK).map Deed.enc),sd 33 (dint K),sd 34 (dint i),nxt 1]) (fun i=>i≤K) (fun i=>K - i) 0 (by omega) ?_ ?_
 ·
  exact by_less
 ·
  rintro i hi
  by_cases hik:i=K
  case neg =>
   have hr:=hrep i
   repeat(first|((with_reducible apply s5);((with_reducible apply a_bs [dK.enc]);(iterate 9 exact rfl);(repeat(first|exact PartsE.nil|(apply PartsE.cons;exact rfl;exact rfl))));exact by_g)|refine wa1 ?_|((with_reducible apply s5);(first|exact by_oa|exact by_ca);exact by_g)|refine wb ?_)
   refine q_loopT (i+1) (by omega) (by omega) ?_
   rw[← hr]
   exact by_less
  subst hik
  try refine wk ?_
  refine CW.loopT (fun j:Nat=>[sd 0 (dint n),sd 1 (dint i),sd 2 (encSteps bw),so 7 0 i,oa 0 28 3 ((List.replicate i dK).map Deed.enc),sd 41 (encSteps bw),sd 42 (dint bw.length),sd 43 (dint j),nxt 1]) (fun j=>j≤bw.length∧∀ s∈bw.take j,s.kind≠1) (fun j=>bw.length - j) 0 ⟨by omega,by simp⟩ ?_ ?_
  ·
   exact by_less
  ·
   rintro j ⟨hj,hI⟩
   rcases drop_case hj with ⟨h1,h2⟩|⟨s,h1,h2,h3⟩
   ·
    subst h2
    rw[List.take_length]at hI
    have hwK:∀ d∈List.replicate i dK,wrongDeed d=0:=fun d hd=>by rw[List.eq_of_mem_replicate hd];exact dK_right
    have c2:=new_batches (List.replicate i dK) 6 (by omega) (by omega) (by simp;omega)
    have c3:=ok_settledW (List.replicate i dK) bw n (by simp;omega) hwK gb hI hs (by omega) (by omega)
    rw[dK_all (by omega) (by omega)]at c3
    have hbl:=batches_len (a:=6) (by omega) (l:=List.replicate i dK)
    rw[List.length_replicate]at hbl
    change FnOk _ _ [_,.d (.sl 4 _)] (.tup [.sl 2 [[dstr [107],dint (i:Int)]],dbool true]) at c3
    refine CW.stut (stut_freeze (i:=7) (id:=0) (by simp)) ⟨rfl,rfl,trivial⟩ ?_
    change FnNew _ _ [.d (.sl 3 ((List.replicate i dK).map Deed.enc)),_] _ _ _ at c2
    generalize batchesD (List.replicate i dK) 6=B at *
    have hst0:StopX 16:=⟨rfl⟩
    try refine wkS ?_
    clear hst0
    refine Stop.go (CW.regionS ?_)
    repeat(first|((with_reducible apply SW.s1);exact rfl)|((with_reducible apply SW.s5);exact by_oa;exact rfl))
    refine SW.s5 (a_callnew c2 rfl rfl by_sub) rfl ?_
    repeat(first|((with_reducible apply SW.s1);exact rfl)|((with_reducible apply SW.s5);exact by_oa;exact rfl))
    refine SW.stut (stut_freeze (i:=56) (id:=1) (by simp)) ⟨rfl,rfl,trivial⟩ ?_
    refine SW.s5 (a_call c3 rfl by_sub) rfl ?_
    repeat(first|((with_reducible apply SW.s1);exact rfl)|((with_reducible apply SW.s5);exact by_oa;exact rfl))
    refine SW.nil ?_
    repeat(first|refine wa ?_|((with_reducible apply s5);(first|((with_reducible apply a_ia);(iterate 5 exact rfl);exact rfl)|exact by_oa|exact by_ca);exact by_g)|refine wb ?_)
    exact .one (.tmp rfl (.one (.d (dle_bool (by simp)))))
   ·
    by_cases hk:s.kind=1
    ·
     try refine wk ?_
     exact .one (.tmp rfl (.one (.d (.refl _))))
    ·
     try refine wk ?_
     refine q_loopT (j+1) ⟨by omega,fun x hx=>?_⟩ (by omega) ?_
     ·
      rw[List.take_add_one,h2]at hx
      rcases List.mem_append.1 hx with hx|hx
      ·
       exact hI x hx
      ·
       simp at hx;rw[hx];exact hk
     exact by_less
structure PayOk (p:Int×Int×Int):Prop where
 a:0≤p.1∧p.1≤2
 b:0≤p.2.1∧p.2.1≤2
 ne:p.1≠p.2.1
 n:0≤p.2.2∧p.2.2≤1000
def deedP (p:Int×Int×Int):Deed:=dPay (nameP p.1.toNat) (nameP p.2.1.toNat) p.2.2
theorem deedP_right {p:Int×Int×Int}(h:PayOk p):wrongDeed (deedP p)=0:=by
 obtain⟨ha,hb,hne,hn⟩:=h
 obtain⟨a,b,n⟩:=p
 dsimp only at ha hb hne hn
 obtain⟨A,rfl⟩:=Int.eq_ofNat_of_zero_le ha.1
 obtain⟨B,rfl⟩:=Int.eq_ofNat_of_zero_le hb.1
 obtain⟨k,rfl⟩:=Int.eq_ofNat_of_zero_le hn.1
 have:=dPay_right ⟨A,by omega⟩ ⟨B,by omega⟩ (fun h=>hne (by rw[show A=B by simpa using h])) ⟨k,by omega⟩
 exact this
theorem paid_purse {l:List (Int×Int×Int)}(h:∀ p∈l,PayOk p):Purse (allD [] (dStart::l.map deedP)).1:=by
 simp only[allD]
 rw[dStart_do]
 have h0:Purse [⟨[97],100⟩,⟨[98],100⟩,⟨[99],100⟩]:=⟨100,100,100,rfl,by omega,by omega,by omega,by omega⟩
 have hp:=pays_purse (l:=l.map fun p=>(p.1.toNat,p.2.1.toNat,p.2.2)) h0 fun q hq=>by
  obtain⟨p,hp,rfl⟩:=List.mem_map.1 hq
  obtain⟨ha,hb,hne,hn⟩:=h p hp
  refine⟨by dsimp only;omega,by dsimp only;omega,by dsimp only;omega,by dsimp only;omega,by dsimp only;omega⟩
 rw[List.map_map]at hp
 exact hp
theorem purse_sum {R:List Pair}(h:Purse R):R.length=3∧∃ S:Nat→Int,S 0=0∧S 3=300∧∀ (i:Nat) (p:Pair),R[i]? = some p→S (i+1)=S i+p.n∧(0≤p.n∧p.n≤300)∧(0≤S i∧S i≤300):=by
 obtain⟨x,y,z,rfl,h1,h2,h3,h4⟩:=h
 refine⟨rfl,fun i=>if i=0 then 0 else if i=1 then x else if i=2 then x+y else x+y+z,by simp,by simp;omega,fun i p hp=>?_⟩
 match i,hp with
 |0,hp=>cases hp;simp;omega
 |1,hp=>cases hp;simp;omega
 |2,hp=>cases hp;simp;omega
 |i+3,hp=>simp[rows3]at hp
def nmsP:List Str:=[[97],[98],[99]]
theorem nmsP_at (A:Nat) (h:A≤2):nmsP[A]? = some (nameP A):=by
 match A,h with
 |0,_=>rfl
 |1,_=>rfl
 |2,_=>rfl
theorem ok_TopPay (n:Int) (pays:List (Int×Int×Int)) (bw:List Step) (hpl:pays.length≤1048576) (hl:bw.length≤1048576) (hs:∀ s∈bw,s.Sm) :
  FnOk Tryz.prog 3 [.d (dint n),.d (.sl 3 (pays.map encPay)),.d (encSteps bw)] (.one (dbool true)):=by
 refine fnOk_of tbl_ok mixed_ok Tryz.func3 rfl (by kernel_rfl) rfl rfl fun w0 own0=>?_
 have c0:=ok_aliveT
 by_cases ok:(1≤n∧n≤3)∧pays.length≤20∧bw.length≤60
 case neg =>
  rcases(show n < 1∨(1≤n∧3 < n)∨((1≤n∧n≤3)∧20 < pays.length)∨((1≤n∧n≤3)∧pays.length≤20∧60 < bw.length) by omega) with q|q|q|q
  all_goals
   try refine wk ?_
   exact .one (.tmp rfl (.one (.d (.refl _))))
 obtain⟨gn,gp,gb⟩:=ok
 have c1:=ok_readT tS dStart (by rw[← pS];exact parse_print dStart_right) (by decide)
 repeat(first|((with_reducible apply s5);((with_reducible apply a_bs (nmsP.map encStr1));(iterate 9 exact rfl);(repeat(first|exact PartsE.nil|(apply PartsE.cons;exact rfl;exact rfl))));exact by_g)|((with_reducible apply s5);(with_reducible apply(a_bsO [dStart.enc]));(iterate 10 exact rfl);(repeat(first|exact PartsE.nil|(apply PartsE.cons;exact rfl;exact rfl)));exact by_g)|refine wa1 ?_|((with_reducible apply s5);(first|exact by_oa|exact by_ca);exact by_g)|refine wb ?_)
 refine CW.loopT (fun i:Nat=>[sd 0 (dint n),sd 2 (encSteps bw),sd 7 (.sl 1 (nmsP.map encStr1)),so 8 0 (1+i),oa 0 28 3 ((dStart::(pays.take i).map deedP).map Deed.enc),sd 39 (.sl 3 (pays.map encPay)),sd 40 (dint pays.length),sd 41 (dint i),nxt 1])
  (fun i=>i≤pays.length∧∀ p∈pays.take i,PayOk p) (fun i=>pays.length - i) 0 ⟨by omega,by simp⟩ ?_ ?_
 ·
  exact by_less
 ·
  rintro i ⟨hi,hI⟩
  rcases drop_case hi with ⟨h1,h2⟩|⟨p,h1,h2,h3⟩
  ·
   subst h2
   rw[List.take_length]at hI ⊢
   have hw:∀ d∈dStart::pays.map deedP,wrongDeed d=0:=fun d hd=>by
    rcases List.mem_cons.1 hd with rfl|hd
    ·
     exact dStart_right
    ·
     obtain⟨p,hp,rfl⟩:=List.mem_map.1 hd
     exact deedP_right (hI p hp)
   obtain⟨hRl,S,hS0,hS3,hS⟩:=purse_sum (paid_purse hI)
   have hll:(dStart::pays.map deedP).length=1+pays.length:=by simp;omega
   generalize dStart::pays.map deedP=l at *
   try refine wk ?_
   refine CW.loopT (fun j:Nat=>[sd 0 (dint n),sd 2 (encSteps bw),so 8 0 (1+pays.length),oa 0 28 3 (l.map Deed.enc),sd 97 (encSteps bw),sd 98 (dint bw.length),sd 99 (dint j),nxt 1]) (fun j=>j≤bw.length∧∀ s∈bw.take j,s.kind≠1) (fun j=>bw.length - j) 0 ⟨by omega,by simp⟩ ?_ ?_
   ·
    exact by_less
   ·
    rintro j ⟨hj,hJ⟩
    rcases drop_case hj with ⟨k1,k2⟩|⟨s,k1,k2,k3⟩
    ·
     subst k2
     rw[List.take_length]at hJ
     have c2:=new_batches l 6 (by omega) (by omega) (by omega)
     have c3:=ok_settledW l bw n (by omega) hw gb hJ hs (by omega) (by omega)
     have hbl:=batches_len (a:=6) (by omega) (l:=l)
     generalize (allD [] l).1=R at *
     refine CW.stut (stut_freeze (i:=8) (id:=0) (by simp;omega)) ⟨rfl,rfl,trivial⟩ ?_
     generalize batchesD l 6=B at *
     have hst0:StopX 20:=⟨rfl⟩
     try refine wkS ?_
     clear hst0
     refine Stop.go (CW.regionS ?_)
     repeat(first|((with_reducible apply SW.s1);exact rfl)|((with_reducible apply SW.s5);exact by_oa;exact rfl))
     refine SW.s5 (a_callnew c2 rfl rfl by_sub) rfl ?_
     repeat(first|((with_reducible apply SW.s1);exact rfl)|((with_reducible apply SW.s5);exact by_oa;exact rfl))
     refine SW.stut (stut_freeze (i:=112) (id:=1) (by simp)) ⟨rfl,rfl,trivial⟩ ?_
     refine SW.s5 (a_call c3 rfl by_sub) rfl ?_
     repeat(first|((with_reducible apply SW.s1);exact rfl)|((with_reducible apply SW.s5);exact by_oa;exact rfl))
     refine SW.nil ?_
     try refine wk ?_
     refine CW.loopT (fun q:Nat=>[sd 15 (dint (S q)),sd 123 (encRows R),sd 124 (dint R.length),sd 125 (dint q),nxt 2]) (fun q=>q≤R.length) (fun q=>R.length - q) 0 (by omega) ?_ ?_
     ·
      rw[hS0]
      exact by_less
     ·
      rintro q hq
      rcases drop_case hq with ⟨m1,m2⟩|⟨x,m1,m2,m3⟩
      ·
       subst m2
       rw[hRl,hS3]
       try refine wk ?_
       exact .one (.tmp rfl (.one (.d (dle_bool (by simp)))))
      ·
       obtain⟨e1,e2,e3⟩:=hS q x m2
       try refine wk ?_
       refine q_loopT (q+1) (by omega) (by omega) ?_
       rw[e1]
       exact by_less
    ·
     by_cases hk:s.kind=1
     ·
      try refine wk ?_
      exact .one (.tmp rfl (.one (.d (.refl _))))
     ·
      try refine wk ?_
      refine q_loopT (j+1) ⟨by omega,fun x hx=>?_⟩ (by omega) ?_
      ·
       rw[List.take_add_one,k2]at hx
       rcases List.mem_append.1 hx with hx|hx
       ·
        exact hJ x hx
       ·
        simp at hx;rw[hx];exact hk
      exact by_less
  ·
   by_cases hp:PayOk p
   ·
    have hsn:(dStart::(pays.take i).map deedP).map Deed.enc++[(deedP p).enc]=(dStart::(pays.take (i+1)).map deedP).map Deed.enc:=by rw[List.take_add_one,h2];simp
    have hP:=hp
    obtain⟨a,b,c⟩:=p
    obtain⟨ha,hb,hne,hn⟩:=hp
    dsimp only at ha hb hne hn
    obtain⟨A,rfl⟩:=Int.eq_ofNat_of_zero_le ha.1
    obtain⟨B,rfl⟩:=Int.eq_ofNat_of_zero_le hb.1
    have c2:=ok_pay A B (by omega) (by omega) (by omega) c hn
    have hd:deedP ((A:Int),(B:Int),c)=dPay (nameP A) (nameP B) c:=rfl
    rw[hd]at hsn
    have hA:idx (nmsP.map encStr1) (A:Int)=some (encStr1 (nameP A)):=idx_map (nmsP_at A (by omega))
    have hB:idx (nmsP.map encStr1) (B:Int)=some (encStr1 (nameP B)):=idx_map (nmsP_at B (by omega))
    have hne':¬ (A:Int)=(B:Int):=hne
    generalize dPay (nameP A) (nameP B) c=dd at *
    generalize nameP A=nA at *
    generalize nameP B=nB at *
    generalize hL:dStart::(pays.take i).map deedP=L at *
    have hLl:L.length=1+i:=by rw[← hL];simp;omega
    repeat(first|((with_reducible apply s5);((with_reducible apply a_bs [dd.enc]);(iterate 9 exact rfl);(repeat(first|exact PartsE.nil|(apply PartsE.cons;exact rfl;exact rfl))));exact by_g)|refine wa1 ?_|((with_reducible apply s5);(first|((with_reducible apply a_ia);(iterate 5 exact rfl);first|exact hA|exact hB)|exact by_oa|exact by_ca);exact by_g)|refine wb ?_)
    refine q_loopT (i+1) ⟨by omega,fun x hx=>?_⟩ (by omega) ?_
    ·
     rw[List.take_add_one,h2]at hx
     rcases List.mem_append.1 hx with hx|hx
     ·
      exact hI x hx
     ·
      simp at hx;rw[hx];exact hP
    rw[← hsn]
    exact by_less
   ·
    obtain⟨a,b,c⟩:=p
    have hp':¬ ((0≤a∧a≤2)∧(0≤b∧b≤2)∧a≠b∧(0≤c∧c≤1000)):=fun h=>hp ⟨h.1,h.2.1,h.2.2.1,h.2.2.2⟩
    rcases(show a < 0∨(0≤a∧2 < a)∨((0≤a∧a≤2)∧b < 0)∨((0≤a∧a≤2)∧0≤b∧2 < b)∨((0≤a∧a≤2)∧(0≤b∧b≤2)∧a=b)∨((0≤a∧a≤2)∧(0≤b∧b≤2)∧a≠b∧c < 0)∨((0≤a∧a≤2)∧(0≤b∧b≤2)∧a≠b∧0≤c∧1000 < c) by omega) with q|q|q|q|q|q|q
    all_goals
     try refine wk ?_
     exact .one (.tmp rfl (.one (.d (.refl _))))
end Go.Proofs.YtccblhpfjlgmbabGreatDoor
namespace Go.AX
open Go.RowKit
theorem laid_drop {P:Program}{w:World}:∀ {laid:List (String×DataW Unit)}(i:Nat),laidMet P laid w→laidMet P (laid.drop i) w
 |_,0,h=>h
 | [],_+1,h=>h
 |(n,d)::r,i+1,h=>by
  obtain⟨ps,hv,hnd,hrows⟩:=h
  obtain⟨g,t,cs,fuel,p,q,_,_,_,_,hq,rfl⟩:=hv
  exact laid_drop i ⟨q,hq,List.Nodup.sublist (List.sublist_append_right _ _) hnd,fun b off hm=>hrows b off (List.mem_append_right _ hm)⟩
theorem trod_iface {P:Program}{w:World}{ti:TypeId}{ms:Array (String×TypeId)}{sp:Nat→Bool}{fuel:Nat}{cs:List Value}{nm:String}{d:DataW Unit}{p:List MemPlace}(hi:P.underlying ti=some (.interface ms))
  (h:DataW.trod (fun _=>()) P w 0 sp false fuel ti cs=some (.iface nm d,p)):∃ u v,cs=[.iface u v]:=by
 cases fuel with
 |zero=>simp[DataW.trod]at h
 |succ n =>
  rcases cs with _|⟨c,_|⟨c2,r⟩⟩
  ·
   simp[DataW.trod,hi]at h
  ·
   cases c <;> simp[DataW.trod,hi]at h ⊢
  ·
   cases c <;> simp[DataW.trod,hi]at h
theorem gl_iface {P:Program}{w:World}{laid rest:List (String×DataW Unit)}{n nm:String}{d:DataW Unit}{g:Nat}{ti:TypeId}{ms:Array (String×TypeId)}(i:Nat) (hi:laid.drop i=(n,.iface nm d)::rest)
  (hg:P.globalNamed n=some g) (ht:(P.globals[g]?).map (·.type)=some ti) (hu:P.underlying ti=some (.interface ms)) (h:laidMet P laid w):GlAt P w n fun cs=>∃ tp p,cs = #[.iface tp p]:=by
 intro g' hg'
 have h1:=laid_drop i h
 rw[hi]at h1
 obtain⟨ps,⟨g0,t0,cs0,f0,p0,q0,hg0,ht0,hv0,hd0,_,_⟩,_⟩:=h1
 obtain rfl:=Option.some.inj (hg.symm.trans hg0)
 obtain rfl:=Option.some.inj (ht.symm.trans ht0)
 obtain⟨u,v,hc⟩:=trod_iface hu hd0
 refine⟨cs0,hv0,u,v,?_⟩
 rw[← Array.toArray_toList (xs:=cs0),hc]
theorem gl_tab {P:Program}{w:World}{laid rest:List (String×DataW Unit)}{n:String}{k:IntKind}{zs:List Int}{g:Nat}{t e:TypeId}{m:Nat}(i:Nat) (hi:laid.drop i=(n,Lib.tabData k zs)::rest)
  (hg:P.globalNamed n=some g) (hty:(P.globals[g]?).map (·.type)=some t) (ht:P.underlying t=some (.array m e)) (he:P.underlying e=some (.int k)) (hce:P.cellsOf e=1) (hct:P.cellsOf t=m) (h:laidMet P laid w) :
  GlAt P w n fun cs=>cs=(zs.map fun z=>Value.int k z).toArray:=by
 intro g' hg'
 have h1:=laid_drop i h
 rw[hi]at h1
 exact⟨_,Lib.tabIs_of_head hg hty ht he hce hct h1,rfl⟩
theorem gl_int {P:Program}{w:World}{n:String}{g:Nat}{m:Int}(hg:P.globalNamed n=some g) (h:w.cell? ⟨g,0,none⟩=some (.int .i64 m)):GlAt P w n fun cs=>∃ m,cs[0]? = some (.int .i64 m):=by
 intro g' hg'
 have hx:∃ cs,w.var? P n=some cs∧cs[0]? = some (.int .i64 m):=by
  unfold World.var?
  rw[hg]
  simp only[Option.bind_some]
  unfold World.cell? at h
  simp only at h
  split at h
  ·
   next cs _ _ hh=>rw[hh];exact⟨cs,rfl,h⟩
  ·
   cases h
 obtain⟨cs,h1,h2⟩:=hx
 exact⟨cs,h1,m,h2⟩
end Go.AX
