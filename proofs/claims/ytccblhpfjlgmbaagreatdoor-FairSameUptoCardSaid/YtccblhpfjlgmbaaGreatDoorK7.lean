/-
  Part 7 of what the claim leans on: J20 P27 J21 H5 Do2 L5 L23 AxLaid.
-/
import Derived.Test.YtccblhpfjlgmbaaGreatDoorK6
import Derived.Shelf.Vars
import Derived.FnData
set_option linter.all false

namespace Go.Proofs.YtccblhpfjlgmbaaGreatDoor
open Go.AX Go.RF
set_option maxRecDepth 100000
set_option maxHeartbeats 16000000
theorem cdo_run (c:Cluster) (s:Step) (h:KInv c) (k6:s.kind=6) :
  FnOk Tryz.prog 23 [.d (.agg c.enc),.d (.agg s.enc)] (.tup [.agg (runC c s.n s.m).1.enc,dint (runC c s.n s.m).2]):=by
 refine fnOk_of tbl_ok mixed_ok Tryz.func23 rfl (by kernel_rfl) rfl rfl fun w0 own0=>?_
 have hL:=h.l
 have hP:=h.p
 have hR:=h.k
 have hS:=h.sm
 have c1:=news_cown c h.sm
 have hst0:StopA 3:=⟨rfl⟩
 repeat(first|refine waS ?_|((with_reducible apply s5);(first|exact a_callnews c1 rfl rfl by_sub|exact by_oa|exact by_ca);exact by_g)|refine wb ?_)
 clear hst0
 refine Stop.cutk [sd 8 (dbool (decide (0≤s.n∧s.n < c.reps.length)))] [.s 3,.s 4,.s 5,.s 6,.s 7,.o 1,.o 2,.o 3,.o 4,.o 5,.o 6,.nx] ?_ ?_
 ·
  by_cases b0:0≤s.n
  ·
   try refine wk ?_
   refine q_cut ?_
   exact by_less
  ·
   try refine wk ?_
   refine q_cut ?_
   exact by_less
 unfold runC
 cases hn:nth c.reps s.n with
 |none =>
  have hn':=nth_none hn
  dsimp only
  try refine wk ?_
  exact .two (.cell rfl rfl rfl rfl (.agg (.cons (.own rfl (by simp) (.refl _)) (.cons (.own rfl (by simp) (.refl _)) (.cons (.own rfl (by simp) (.refl _)) .nil))))) (.tmp rfl (.one (.d (.refl _))))
 |some r =>
  obtain⟨i,hi1,hi⟩:=nth_some hn
  have hil:=(List.getElem?_eq_some_iff.1 hi).1
  have him:(c.reps.map Replica.enc)[i]? = some r.enc:=by rw[List.getElem?_map,hi];rfl
  have hit:s.n.toNat=i:=by omega
  have hRI:=(h.r r (List.mem_of_getElem? hi)).1
  have c2:=ok_repGo r s.m hRI
  dsimp only
  rw[hit]
  generalize (goR r s.m).1=x at *
  generalize (goR r s.m).2=v at *
  have hse:s.enc=[dint s.kind,dint (i:Int),dint s.m,encDeeds s.deeds]:=by unfold Step.enc;rw[hi1]
  rw[hse]
  try refine wk ?_
  exact .two (.cell rfl rfl rfl rfl (.agg (.cons (.own rfl (by simp) (.refl _)) (.cons (.own rfl (by simp) (dle_eq (by simp[encReps,List.map_set];rfl))) (.cons (.own rfl (by simp) (.refl _)) .nil))))) (.tmp rfl (.one (.d (.refl _))))
theorem cdo_packet (c:Cluster) (s:Step) (h:KInv c) (k3:s.kind=3∨s.kind=4∨s.kind=5) :
  FnOk Tryz.prog 23 [.d (.agg c.enc),.d (.agg s.enc)] (.tup [.agg (packetC c s.kind s.n).1.enc,dint (packetC c s.kind s.n).2]):=by
 refine fnOk_of tbl_ok mixed_ok Tryz.func23 rfl (by kernel_rfl) rfl rfl fun w0 own0=>?_
 have hL:=h.l
 have hP:=h.p
 have hR:=h.k
 have hS:=h.sm
 have c1:=news_cown c h.sm
 have hst0:StopA 3:=⟨rfl⟩
 repeat(first|refine waS ?_|((with_reducible apply s5);(first|exact a_callnews c1 rfl rfl by_sub|exact by_oa|exact by_ca);exact by_g)|refine wb ?_)
 clear hst0
 refine Stop.cutk [sd 8 (dbool (decide (0≤s.n∧s.n < c.reps.length)))] [.s 3,.s 4,.s 5,.s 6,.s 7,.o 1,.o 2,.o 3,.o 4,.o 5,.o 6,.nx] ?_ ?_
 ·
  by_cases b0:0≤s.n
  ·
   try refine wk ?_
   refine q_cut ?_
   exact by_less
  ·
   try refine wk ?_
   refine q_cut ?_
   exact by_less
 have k1:s.kind≠1:=by omega
 have k2:s.kind≠2:=by omega
 unfold packetC
 cases hn:nth c.net s.n with
 |none =>
  have hn':=nth_none hn
  dsimp only
  rcases k3 with k3|k3|k3
  all_goals by_cases b1:0≤s.n
  all_goals
   have hst0:StopX 13:=⟨rfl⟩
   try refine wkS ?_
   clear hst0
   refine Stop.go (CW.regionS ?_)
   repeat(first|((with_reducible apply SW.s1);exact rfl)|((with_reducible apply SW.s5);exact by_oa;exact rfl))
   refine SW.inline (t:=6) Tryz.func39 rfl (by kernel_rfl) rfl rfl rfl (.cons rfl (.cons rfl (.cons rfl .nil))) rfl fun gh=>?_
   repeat(first|refine wa ?_|((with_reducible apply s5);(first|((with_reducible apply a_nilp);(iterate 3 exact rfl))|exact by_oa|exact by_ca);exact by_g)|refine wb ?_)
   refine q_inl rfl ?_
   repeat(first|((with_reducible apply SW.s1);exact rfl)|((with_reducible apply SW.s5);exact by_oa;exact rfl))
   refine SW.nil ?_
   try refine wk ?_
   exact .two (.cell rfl rfl rfl rfl (.agg (.cons (.own rfl (by simp) (.refl _)) (.cons (.own rfl (by simp) (.refl _)) (.cons (.own rfl (by simp) (.refl _)) .nil))))) (.tmp rfl (.one (.d (.refl _))))
 |some p =>
  obtain⟨i,hi1,hi⟩:=nth_some hn
  have hil:=(List.getElem?_eq_some_iff.1 hi).1
  have him:(c.net.map Packet.enc)[i]? = some p.enc:=by rw[List.getElem?_map,hi];rfl
  have hit:s.n.toNat=i:=by omega
  dsimp only
  rw[hit]
  by_cases k5:s.kind=5
  ·
   rw[if_pos k5]
   have hpd:=h.sm.d p (List.mem_of_getElem? hi)
   have c2:=ok_clone_byte (p.data.map byteD) (by simp;omega)
   by_cases b1:c.net.length < 16
   ·
    rw[if_pos b1]
    have hse:s.enc=[dint s.kind,dint (i:Int),dint s.m,encDeeds s.deeds]:=by unfold Step.enc;rw[hi1]
    rw[hse]
    have hst0:StopX 13:=⟨rfl⟩
    try refine wkS ?_
    clear hst0
    refine Stop.go (CW.regionS ?_)
    repeat(first|((with_reducible apply SW.s1);exact rfl)|((with_reducible apply SW.s5);exact by_oa;exact rfl))
    refine SW.inline (t:=6) Tryz.func39 rfl (by kernel_rfl) rfl rfl rfl (.cons rfl (.cons rfl (.cons rfl .nil))) rfl fun gh=>?_
    repeat(first|((with_reducible apply s5);((with_reducible apply a_bs [p.enc]);(iterate 9 exact rfl);(repeat(first|exact PartsE.nil|(apply PartsE.cons;exact rfl;exact rfl))));exact by_g)|refine wa1 ?_|((with_reducible apply s5);(first|((with_reducible apply a_nilp);(iterate 3 exact rfl))|((with_reducible apply a_buildA);(iterate 4 exact rfl);(repeat(first|exact PartsV.nil|(apply PartsV.cons;exact rfl;exact rfl;(first|exact⟨rfl,trivial⟩|(apply nw_own;exact rfl;(focus first|exact rfl|(simp;done)|(simp;omega)))))));exact rfl)|exact by_oa|exact by_ca);exact by_g)|refine wb ?_)
    refine q_inl rfl ?_
    repeat(first|((with_reducible apply SW.s1);exact rfl)|((with_reducible apply SW.s5);exact by_oa;exact rfl))
    refine SW.nil ?_
    try refine wk ?_
    exact .two (.cell rfl rfl rfl rfl (.agg (.cons (.own rfl (by simp) (.refl _)) (.cons (.own rfl (by simp) (.refl _)) (.cons (.own rfl (by simp) (dle_eq (by simp[encNet]))) .nil))))) (.tmp rfl (.one (.d (.refl _))))
   ·
    rw[if_neg b1]
    have hse:s.enc=[dint s.kind,dint (i:Int),dint s.m,encDeeds s.deeds]:=by unfold Step.enc;rw[hi1]
    rw[hse]
    have hst0:StopX 13:=⟨rfl⟩
    try refine wkS ?_
    clear hst0
    refine Stop.go (CW.regionS ?_)
    repeat(first|((with_reducible apply SW.s1);exact rfl)|((with_reducible apply SW.s5);exact by_oa;exact rfl))
    refine SW.inline (t:=6) Tryz.func39 rfl (by kernel_rfl) rfl rfl rfl (.cons rfl (.cons rfl (.cons rfl .nil))) rfl fun gh=>?_
    repeat(first|refine wa ?_|((with_reducible apply s5);(first|((with_reducible apply a_nilp);(iterate 3 exact rfl))|exact by_oa|exact by_ca);exact by_g)|refine wb ?_)
    refine q_inl rfl ?_
    repeat(first|((with_reducible apply SW.s1);exact rfl)|((with_reducible apply SW.s5);exact by_oa;exact rfl))
    refine SW.nil ?_
    try refine wk ?_
    exact .two (.cell rfl rfl rfl rfl (.agg (.cons (.own rfl (by simp) (.refl _)) (.cons (.own rfl (by simp) (.refl _)) (.cons (.own rfl (by simp) (.refl _)) .nil))))) (.tmp rfl (.one (.d (.refl _))))
  rw[if_neg k5]
  have hU:=upd_deleteK (c.net.map Packet.enc) i (by simpa using hil) (by simp;omega)
  have hrows:(c.net.map Packet.enc).take i++(c.net.map Packet.enc).drop (i+1)=(c.net.eraseIdx i).map Packet.enc:=by
   rw[List.eraseIdx_eq_take_drop_succ,List.map_append,List.map_take,List.map_drop]
  rw[hrows]at hU
  have hel:=List.length_eraseIdx_of_lt hil
  obtain⟨⟨hd1,hd2⟩,j,e,he1,he2⟩:=h.d p (List.mem_of_getElem? hi)
  have hw:=(h.w j e he1).2
  by_cases k4:s.kind=4
  ·
   rw[if_pos k4]
   have hse:s.enc=[dint s.kind,dint (i:Int),dint s.m,encDeeds s.deeds]:=by unfold Step.enc;rw[hi1]
   rw[hse]
   have hst0:StopX 13:=⟨rfl⟩
   try refine wkS ?_
   clear hst0
   refine Stop.go (CW.regionS ?_)
   repeat(first|((with_reducible apply SW.s1);exact rfl)|((with_reducible apply SW.s5);exact by_oa;exact rfl))
   refine SW.inline (t:=6) Tryz.func39 rfl (by kernel_rfl) rfl rfl rfl (.cons rfl (.cons rfl (.cons rfl .nil))) rfl fun gh=>?_
   repeat(first|refine wa ?_|((with_reducible apply s5);(first|((with_reducible apply a_nilp);(iterate 3 exact rfl))|(focus ((with_reducible apply a_upd);exact hU;(iterate 3 exact rfl);(focus first|exact rfl|(simp;done)|(simp;omega));exact rfl;exact by_sub))|exact by_oa|exact by_ca);exact by_g)|refine wb ?_)
   refine q_inl rfl ?_
   repeat(first|((with_reducible apply SW.s1);exact rfl)|((with_reducible apply SW.s5);exact by_oa;exact rfl))
   refine SW.nil ?_
   try refine wk ?_
   exact .two (.cell rfl rfl rfl rfl (.agg (.cons (.own rfl (by simp) (.refl _)) (.cons (.own rfl (by simp) (.refl _)) (.cons (.own rfl (by simp) (.refl _)) .nil))))) (.tmp rfl (.one (.d (.refl _))))
  rw[if_neg k4]
  obtain⟨P,hP0⟩:=Int.eq_ofNat_of_zero_le hd1
  obtain⟨r,hr⟩:∃ r,c.reps[P]? = some r:=⟨c.reps[P]'(by omega),List.getElem?_eq_getElem (by omega)⟩
  have hpe:p.enc=[dint (P:Int),encBytes p.data]:=by unfold Packet.enc;rw[hP0]
  rw[hpe]at him
  have hrm:(c.reps.map Replica.enc)[P]? = some r.enc:=by rw[List.getElem?_map,hr];rfl
  have hnr:nth c.reps p.dst=some r:=by rw[hP0,nth_nat];exact hr
  have c2:=ok_lparse p.data (by rw[he2];have:=bytes_len hw;omega)
  rw[he2,parse_bytes hw,← he2]at c2
  dsimp only[resB]at c2
  have c3:=ok_come r e (h.r r (List.mem_of_getElem? hr)).1 hw
  have hcome:comeC { c with net:=c.net.eraseIdx i } p={ c with net:=c.net.eraseIdx i,reps:=c.reps.set P (comeE r e).1 }:=by
   unfold comeC
   dsimp only
   rw[hnr]
   dsimp only
   rw[he2,parse_bytes hw,hP0,Int.toNat_natCast]
  rw[hcome]
  generalize (comeE r e).1=x at *
  generalize (comeE r e).2=v at *
  have hse:s.enc=[dint s.kind,dint (i:Int),dint s.m,encDeeds s.deeds]:=by unfold Step.enc;rw[hi1]
  rw[hse]
  have hst0:StopX 13:=⟨rfl⟩
  try refine wkS ?_
  clear hst0
  refine Stop.go (CW.regionS ?_)
  repeat(first|((with_reducible apply SW.s1);exact rfl)|((with_reducible apply SW.s5);exact by_oa;exact rfl))
  refine SW.inline (t:=6) Tryz.func39 rfl (by kernel_rfl) rfl rfl rfl (.cons rfl (.cons rfl (.cons rfl .nil))) rfl fun gh=>?_
  repeat(first|refine wa ?_|((with_reducible apply s5);(first|((with_reducible apply a_nilp);(iterate 3 exact rfl))|(focus ((with_reducible apply a_upd);exact hU;(iterate 3 exact rfl);(focus first|exact rfl|(simp;done)|(simp;omega));exact rfl;exact by_sub))|exact a_call c2 rfl by_sub|exact by_oa|exact by_ca);exact by_g)|refine wb ?_)
  refine q_inl rfl ?_
  repeat(first|((with_reducible apply SW.s1);exact rfl)|((with_reducible apply SW.s5);exact by_oa;exact rfl))
  refine SW.nil ?_
  try refine wk ?_
  exact .two (.cell rfl rfl rfl rfl (.agg (.cons (.own rfl (by simp) (.refl _)) (.cons (.own rfl (by simp) (dle_eq (by simp[encReps,List.map_set];rfl))) (.cons (.own rfl (by simp) (.refl _)) .nil))))) (.tmp rfl (.one (.d (.refl _))))
theorem ok_cdo (c:Cluster) (s:Step) (h:KInv c) (hd:∀ d∈s.deeds,d.Sm) (hl:s.deeds.length≤100000000):FnOk Tryz.prog 23 [.d (.agg c.enc),.d (.agg s.enc)] (.tup [.agg (doC c s).1.enc,dint (doC c s).2]):=by
 unfold doC
 by_cases k1:s.kind=1
 ·
  rw[if_pos k1];exact cdo_batch c s h hd hl k1
 rw[if_neg k1]
 by_cases k2:s.kind=2
 ·
  rw[if_pos k2];exact cdo_send c s h k2
 rw[if_neg k2]
 by_cases k3:s.kind=3∨s.kind=4∨s.kind=5
 ·
  rw[if_pos k3];exact cdo_packet c s h k3
 rw[if_neg k3]
 by_cases k6:s.kind=6
 ·
  rw[if_pos k6];exact cdo_run c s h k6
 rw[if_neg k6]
 by_cases k7:s.kind=7
 ·
  rw[if_pos k7];exact cdo_clr c s h k7
 rw[if_neg k7]
 exact cdo_none c s h k1 k2 (by omega) (by omega) (by omega) k6 k7
def stepSend (n:Nat) (m:Int):Step:=⟨2,n,m,[]⟩
def stepRun (n:Nat):Step:=⟨6,n,0,[]⟩
theorem send_come {c:Cluster}(h:KInv c) {n:Nat}{r:Replica}{e:Entry}(hn:c.net=[]) (hr:c.reps[n]? = some r) (he:nth c.log r.next=some e) :
  (doC (doC c (stepSend n r.next)).1 stepCome).1=nextC c n:=by
 have h1:(doC c (stepSend n r.next)).1={ c with net:=[⟨n,bytesE e⟩] }:=by
  unfold doC stepSend
  dsimp only
  rw[if_neg (by omega),if_pos rfl]
  unfold sendC
  rw[nth_nat,hr]
  dsimp only
  rw[he]
  dsimp only
  rw[hn,if_pos (by simp)]
  rfl
 obtain⟨i,hi1,hi⟩:=nth_some he
 rw[h1,come_step (c:={ c with net:=[⟨n,bytesE e⟩] }) (p:=⟨n,bytesE e⟩) (t:=[]) rfl]
 dsimp only
 unfold comeC nextC
 dsimp only
 rw[nth_nat,hr]
 dsimp only
 rw[parse_bytes (h.w i e hi).2,he]
 dsimp only
 rw[Int.toNat_natCast,← hn]
theorem run_step {c:Cluster}{n:Nat}{r:Replica}(hr:c.reps[n]? = some r) {x:Int}(hx:(ready r.engine)[0]? = some x) :
  (doC c (stepRun n)).1={ c with reps:=c.reps.set n ⟨(goE r.engine x).1,r.next,r.early⟩ }:=by
 unfold doC stepRun
 dsimp only
 rw[if_neg (by omega),if_neg (by omega),if_neg (by omega),if_pos rfl]
 unfold runC
 rw[nth_nat,hr]
 dsimp only
 have hg:goR r 0=(⟨(goE r.engine x).1,r.next,r.early⟩,0):=by
  unfold goR
  rw[if_neg (by omega),show(0:Int).toNat=0 from rfl,hx]
 rw[hg,Int.toNat_natCast]
theorem fin_step {c:Cluster}{n:Nat}{r:Replica}(hr:c.reps[n]? = some r) {x:Int}(hx:(ready r.engine)[0]? = some x) (hl:r.engine.state.length=r.engine.deeds.length) :
  finC { c with reps:=c.reps.set n ⟨(goE r.engine x).1,r.next,r.early⟩ } n=finC c n∧waitN (goE r.engine x).1.state+1=waitN r.engine.state:=by
 have hx':(ready r.engine)[pickI (ready r.engine) []]? = some x:=hx
 obtain⟨A,d,_,_,_,_,_,h6,h7⟩:=all_step hl hx'
 have hnl:=(List.getElem?_eq_some_iff.1 hr).1
 refine⟨?_,h6⟩
 unfold finC
 dsimp only
 rw[List.getElem?_set_self hnl,hr]
 dsimp only
 rw[List.set_set,h7]
 rfl
theorem fin_end {c:Cluster}{n:Nat}{r:Replica}(hr:c.reps[n]? = some r) (h0:ready r.engine=[]):finC c n=c:=by
 unfold finC
 rw[hr]
 dsimp only
 rw[all_nil h0,set_same hr]
theorem doC_reps (c:Cluster) (s:Step):(doC c s).1.reps.length=c.reps.length:=by
 unfold doC
 split
 ·
  unfold batchC
  split
  ·
   rfl
  split <;> rfl
 split
 ·
  unfold sendC
  split
  ·
   rfl
  split
  ·
   rfl
  ·
   dsimp only;split <;> rfl
 split
 ·
  unfold packetC
  split
  ·
   rfl
  split
  ·
   dsimp only;split <;> rfl
  split
  ·
   rfl
  ·
   exact(comeC_keep _ _).2.2
 split
 ·
  unfold runC
  split
  ·
   rfl
  ·
   simp
 split
 ·
  unfold clrC
  split
  ·
   rfl
  ·
   simp
 ·
  rfl
theorem play_reps:∀ {l:List Step}{c:Cluster},(playC c l).reps.length=c.reps.length
 | [],_=>rfl
 |s::l,c=>by
  simp only[playC]
  rw[play_reps,doC_reps]
set_option maxHeartbeats 8000000
theorem doneGo {c:Cluster}{i:Nat}:doneC c=(decide (c.net=[])&&((c.reps.take i).all (doneR c.log.length)&&(c.reps.drop i).all (doneR c.log.length))):=by
 unfold doneC
 rw[← List.all_append,List.take_append_drop]
theorem net_nil {c:Cluster}:decide (c.net=[])=decide (((c.net.map Packet.enc).length:Int)=0):=by
 cases h:c.net with
 |nil=>simp
 |cons p l=>simp;omega
theorem ok_fdone (c:Cluster) (h:KInv c):FnOk Tryz.prog 11 [.d (.agg c.enc)] (.one (dbool (doneC c))):=by
 refine fnOk_of tbl_ok mixed_ok Tryz.func11 rfl (by kernel_rfl) rfl rfl fun w0 own0=>?_
 have hk:=h.k
 try refine wk ?_
 refine CW.loopT (fun i:Nat=>[sp 1 0,ob 0 c.enc,sd 6 (encReps c.reps),sd 7 (dint c.reps.length),sd 8 (dint i),nxt 1]) (fun i=>i≤c.reps.length∧(c.reps.take i).all (doneR c.log.length)=true) (fun i=>c.reps.length - i) 0 ⟨by omega,rfl⟩ ?_ ?_
 ·
  exact by_less
 ·
  rintro i ⟨hi,hI⟩
  rcases drop_case hi with ⟨h1,h2⟩|⟨r,h1,h2,h3⟩
  ·
   have hd:doneC c=decide (c.net=[]):=by rw[doneGo (i:=i),hI,h1];simp
   rw[hd,net_nil]
   try refine wk ?_
   exact .one (.tmp rfl (.one (.d (.refl _))))
  ·
   obtain⟨hRI,_⟩:=h.r r (List.mem_of_getElem? h2)
   obtain⟨q,hb⟩:=hRI.b
   have hs:=hRI.sm.e
   have c1:=ok_pready r.engine hs hRI.e.z.s (fun d hd=>(wrong_keys (hb.W.d d hd)).1) hb.S.k hb.W.nb
   have hnot:doneR c.log.length r=false→doneC c=false:=fun hr=>by
    rw[doneGo (i:=i),h1]
    simp[hr]
   by_cases h4:r.next < c.log.length
   ·
    rw[hnot (by unfold doneR;simp;omega)]
    try refine wk ?_
    exact .one (.tmp rfl (.one (.d (.refl _))))
   ·
    by_cases h5:ready r.engine=[]
    ·
     rw[h5]at c1
     try refine wk ?_
     refine q_loopT (i+1) ⟨by omega,?_⟩ (by omega) ?_
     ·
      rw[List.take_add_one,h2,List.all_append,hI]
      unfold doneR
      simp[h5]
      omega
     exact by_less
    ·
     rw[hnot (by unfold doneR;simp[h5])]
     have h6:=List.length_pos_iff.2 h5
     generalize ready r.engine=l at *
     try refine wk ?_
     exact .one (.tmp rfl (.one (.d (.refl _))))
theorem ok_rdone (c:Cluster) (h:KInv c):FnOk Tryz.prog 12 [.d (.agg c.enc)] (.one (dbool (doneC c))):=by
 refine fnOk_of tbl_ok mixed_ok Tryz.func12 rfl (by kernel_rfl) rfl rfl fun w0 own0=>?_
 have hk:=h.k
 try refine wk ?_
 refine CW.loopT (fun t:Nat×Bool=>[sp 1 0,ob 0 c.enc,sd 3 (dbool t.2),sd 11 (encReps c.reps),sd 12 (dint c.reps.length),sd 13 (dint t.1),nxt 1]) (fun t=>t.1≤c.reps.length∧t.2=(decide (c.net=[])&&(c.reps.take t.1).all (doneR c.log.length))) (fun t=>c.reps.length - t.1) (0,decide (c.net=[])) ⟨by dsimp only;omega,by simp⟩ ?_ ?_
 ·
  rw[net_nil]
  exact by_less
 ·
  rintro ⟨i,b⟩ ⟨hi,hI⟩
  dsimp only at hi hI ⊢
  rcases drop_case hi with ⟨h1,h2⟩|⟨r,h1,h2,h3⟩
  ·
   have hd:doneC c=b:=by rw[doneGo (i:=i),hI,h1];simp
   rw[hd]
   try refine wk ?_
   exact .one (.tmp rfl (.one (.d (.refl _))))
  ·
   obtain⟨hRI,_⟩:=h.r r (List.mem_of_getElem? h2)
   have hs:=hRI.sm.e
   have c1:=ok_ready r.engine hs hRI.e.z.s
   have hrd:doneR c.log.length r=(decide ((c.log.length:Int)≤r.next)&&decide (ready r.engine=[])):=rfl
   have hnx:(c.reps.take (i+1)).all (doneR c.log.length)=((c.reps.take i).all (doneR c.log.length)&&doneR c.log.length r):=by
    rw[List.take_add_one,h2,List.all_append];simp
   have step:∀ b2,b2=(b&&doneR c.log.length r)→b2=(decide (c.net=[])&&(c.reps.take (i+1)).all (doneR c.log.length)):=fun b2 hb2=>by
    rw[hb2,hnx,hI,Bool.and_assoc]
   cases b with
   |false =>
    try refine wk ?_
    refine q_loopT (i+1,false) ⟨by dsimp only;omega,step false (by simp)⟩ (by dsimp only;omega) ?_
    exact by_less
   |true =>
    by_cases h4:r.next < c.log.length
    ·
     try refine wk ?_
     refine q_loopT (i+1,false) ⟨by dsimp only;omega,step false (by rw[hrd];simp;omega)⟩ (by dsimp only;omega) ?_
     exact by_less
    ·
     by_cases h5:ready r.engine=[]
     ·
      rw[h5]at c1
      try refine wk ?_
      refine q_loopT (i+1,true) ⟨by dsimp only;omega,step true (by rw[hrd];simp[h5];omega)⟩ (by dsimp only;omega) ?_
      exact by_less
     ·
      have h6:=List.length_pos_iff.2 h5
      have h7:doneR c.log.length r=false:=by rw[hrd];simp[h5]
      generalize ready r.engine=l at *
      try refine wk ?_
      refine q_loopT (i+1,false) ⟨by dsimp only;omega,step false (by rw[h7];simp)⟩ (by dsimp only;omega) ?_
      exact by_less
def waitR (c:Cluster) (n:Nat):Nat:=((c.reps[n]?).map fun r=>waitN r.engine.state).getD 0
theorem ok_rround (c:Cluster) (h:KInv c):FnOk Tryz.prog 14 [.d (.agg c.enc)] (.one (.agg (roundC c).enc)):=by
 refine fnOk_of tbl_ok mixed_ok Tryz.func14 rfl (by kernel_rfl) rfl rfl fun w0 own0=>?_
 unfold roundC
 obtain⟨d,hd⟩:∃ d,drainN c.net c=d:=⟨_,rfl⟩
 rw[hd]
 try refine wk ?_
 refine CW.loopT (fun t:Cluster=>[sp 1 0,ob 0 t.enc,sp 2 1,ob 1 [.v nilS,.v nilS,.v nilS],nxt 2]) (fun t=>KInv t∧drainN t.net t=d) (fun t=>t.net.length) c ⟨h,hd⟩ ?_ ?_
 ·
  exact by_less
 ·
  rintro c ⟨hK,hI⟩
  cases hn:c.net with
  |cons p l =>
   have hs:=come_step hn
   have c1:=fnOk_le (ok_rdo c stepCome hK (by simp[stepCome]) (by simp[stepCome])) (.d (.refl _) (.d (DLes.agg (.cons (.refl _) (.cons (.refl _) (.cons (.refl _) (.cons (dle_nil 3) .nil))))) .nil))
   have hK2:=hK.step stepCome
   have hI2:drainN (doC c stepCome).1.net (doC c stepCome).1=d:=by
    have h2:(doC c stepCome).1.net=l:=by rw[hs];exact(comeC_keep _ _).2.1
    rw[h2,← hI,hn]
    rfl
   have hlt:(doC c stepCome).1.net.length < c.net.length:=by
    have h2:(doC c stepCome).1.net=l:=by rw[hs];exact(comeC_keep _ _).2.1
    rw[h2,hn];simp
   change FnOk _ _ [_,.d (.agg [dint 3,dint 0,dint 0,.v nilS])] _ at c1
   generalize (doC c stepCome).1=x at *
   generalize (doC c stepCome).2=v at *
   have hpos:0 < c.net.length:=by rw[hn];simp
   repeat(first|refine wa ?_|((with_reducible apply s5);(first|((with_reducible apply a_buildA);(iterate 4 exact rfl);(repeat(first|exact PartsV.nil|(apply PartsV.cons;exact rfl;exact rfl;(first|exact⟨rfl,trivial⟩|(apply nw_own;exact rfl;(focus first|exact rfl|(simp;done)|(simp;omega)))))));exact rfl)|exact by_oa|exact by_ca);exact by_g)|refine wb ?_)
   refine q_loopT x ⟨hK2,hI2⟩ hlt ?_
   exact by_less
  |nil =>
   rw[hn]at hI
   simp only[drainN]at hI
   subst hI
   obtain⟨tg,htg⟩:∃ tg,turnsC c.reps.length 0 c=tg:=⟨_,rfl⟩
   rw[htg]
   have hR:=hK.k
   obtain⟨R,hRl⟩:∃ R,c.reps.length=R:=⟨_,rfl⟩
   have hnil:c.net.length=0:=by rw[hn];rfl
   try refine wk ?_
   refine CW.loopT (fun t:Nat×Cluster=>[sp 1 0,ob 0 t.2.enc,sp 2 1,ob 1 [.v nilS,.v nilS,.v nilS],sd 20 (dint R),sd 21 (dint t.1),nxt 2])
    (fun t=>t.1≤R∧KInv t.2∧t.2.reps.length=R∧turnsC (R - t.1) t.1 t.2=tg) (fun t=>R - t.1) (0,c) ⟨by dsimp only;omega,hK,hRl,by rw[← hRl];exact htg⟩ ?_ ?_
   ·
    exact by_less
   ·
    rintro ⟨n,c⟩ ⟨hnR,hK,hcl,hT⟩
    dsimp only at hnR hK hcl hT ⊢
    by_cases he:n=R
    ·
     rw[he,Nat.sub_self]at hT
     simp only[turnsC]at hT
     subst hT
     try refine wk ?_
     exact .one (.cell rfl rfl rfl rfl (.aggd (ds:=c.enc) rfl (.refl _)))
    ·
     have hT2:turnsC (R - (n+1)) (n+1) (turnC c n)=tg:=by
      rw[show R - n=(R - (n+1))+1 by omega]at hT
      exact hT
     obtain⟨r,hr⟩:∃ r,c.reps[n]? = some r:=⟨c.reps[n]'(by omega),List.getElem?_eq_getElem (by omega)⟩
     obtain⟨hRI,hRC⟩:=hK.r r (List.mem_of_getElem? hr)
     have hir:idx (c.reps.map Replica.enc) (n:Int)=some r.enc:=idx_map hr
     have hnr:nth c.reps (n:Int)=some r:=by rw[nth_nat];exact hr
     have hnx:=hRI.n
     obtain⟨n1,n2,n3,n4,n5,n6⟩:=nextC_inv hK n
     have hK2:=(finC_inv n1 n).1
     have hl2:(turnC c n).reps.length=R:=by unfold turnC;rw[(finC_inv n1 n).2.2.2.1,n4,hcl]
     change KInv (turnC c n) at hK2
     cases he2:nth c.log r.next with
     |none =>
      have hge:=nth_none he2
      have hN:nextC c n=c:=by unfold nextC;rw[hr];dsimp only;rw[he2]
      have hF:turnC c n={ c with reps:=c.reps.set n ⟨allE r.engine [],r.next,r.early⟩ }:=by unfold turnC;rw[hN];unfold finC;rw[hr]
      have c1:=ok_finish r.engine _ hRI.e (by omega)
      have c2:=ok_rset c n ⟨allE r.engine [],r.next,r.early⟩ r hK.sm hnr
      rw[Int.toNat_natCast,← hF]at c2
      generalize turnC c n=c2' at *
      generalize allE r.engine []=F at *
      repeat(first|refine wa ?_|((with_reducible apply s5);(first|exact a_call c1 rfl by_sub|exact by_oa|exact by_ca);exact by_g)|refine wb ?_)
      refine q_loopT (n+1,c2') ⟨by dsimp only;omega,hK2,hl2,hT2⟩ (by dsimp only;omega) ?_
      exact by_less
     |some e =>
      obtain⟨j,hj1,hj⟩:=nth_some he2
      have hjl:=(List.getElem?_eq_some_iff.1 hj).1
      have hie:idx (c.log.map Entry.enc) r.next=some e.enc:=by rw[hj1];exact idx_map hj
      have hw:=(hK.w j e hj).2
      have c1:=ok_rcome r e hRI hw
      have hR2:=comeE_inv hRI hw
      have hR2n:=hR2.n
      have c2:=ok_rset c n (comeE r e).1 r hK.sm hnr
      rw[Int.toNat_natCast]at c2
      have hN:nextC c n={ c with reps:=c.reps.set n (comeE r e).1 }:=by unfold nextC;rw[hr];dsimp only;rw[he2]
      have hrn:(nextC c n).reps[n]? = some (comeE r e).1:=by rw[hN];dsimp only;rw[List.getElem?_set_self (by omega)]
      have hir2:idx ((c.reps.set n (comeE r e).1).map Replica.enc) (n:Int)=some (comeE r e).1.enc:=idx_map (by rw[List.getElem?_set_self (by omega)])
      have c3:=ok_finish (comeE r e).1.engine _ hR2.e (by omega)
      have c4:=ok_rset (nextC c n) n ⟨allE (comeE r e).1.engine [],(comeE r e).1.next,(comeE r e).1.early⟩ (comeE r e).1 n1.sm (by rw[nth_nat];exact hrn)
      have hF:turnC c n={ nextC c n with reps:=(nextC c n).reps.set n ⟨allE (comeE r e).1.engine [],(comeE r e).1.next,(comeE r e).1.early⟩ }:=by unfold turnC finC;rw[hrn]
      rw[Int.toNat_natCast,← hF,hN]at c4
      clear n1 n2 n3 n4 n5 n6 hrn hN hF
      generalize turnC c n=c2' at *
      generalize (comeE r e).1=x at *
      generalize (comeE r e).2=v at *
      generalize allE x.engine []=F at *
      repeat(first|refine wa ?_|((with_reducible apply s5);(first|exact a_call c1 rfl by_sub|exact a_call c2 rfl by_sub|exact a_call c3 rfl by_sub|exact a_call c4 rfl by_sub|((with_reducible apply a_ia);(iterate 5 exact rfl);first|exact hie|exact hir2|exact hir)|exact by_oa|exact by_ca);exact by_g)|refine wb ?_)
      refine q_loopT (n+1,c2') ⟨by dsimp only;omega,hK2,hl2,hT2⟩ (by dsimp only;omega) ?_
      exact by_less
theorem ok_fround (c:Cluster) (h:KInv c):FnOk Tryz.prog 13 [.d (.agg c.enc)] (.one (.agg (roundC c).enc)):=by
 refine fnOk_of tbl_ok mixed_ok Tryz.func13 rfl (by kernel_rfl) rfl rfl fun w0 own0=>?_
 unfold roundC
 have c0:=ok_cown c h.sm
 obtain⟨d,hd⟩:∃ d,drainN c.net c=d:=⟨_,rfl⟩
 rw[hd]
 try refine wk ?_
 refine CW.loopT (fun t:Cluster=>[sp 2 1,ob 1 [.v nilS,.v nilS,.v nilS],sp 3 2,ob 2 t.enc,nxt 3]) (fun t=>KInv t∧drainN t.net t=d) (fun t=>t.net.length) c ⟨h,hd⟩ ?_ ?_
 ·
  exact by_less
 ·
  rintro c ⟨hK,hI⟩
  cases hn:c.net with
  |cons p l =>
   have hs:=come_step hn
   have c1:=fnOk_le (ok_cdo c stepCome hK (by simp[stepCome]) (by simp[stepCome])) (.d (.refl _) (.d (DLes.agg (.cons (.refl _) (.cons (.refl _) (.cons (.refl _) (.cons (dle_nil 3) .nil))))) .nil))
   have hK2:=hK.step stepCome
   have h2:(doC c stepCome).1.net=l:=by rw[hs];exact(comeC_keep _ _).2.1
   have hI2:drainN (doC c stepCome).1.net (doC c stepCome).1=d:=by
    rw[h2,← hI,hn]
    rfl
   have hlt:(doC c stepCome).1.net.length < c.net.length:=by rw[h2,hn];simp
   change FnOk _ _ [_,.d (.agg [dint 3,dint 0,dint 0,.v nilS])] _ at c1
   generalize (doC c stepCome).1=x at *
   generalize (doC c stepCome).2=v at *
   have hpos:0 < c.net.length:=by rw[hn];simp
   repeat(first|refine wa ?_|((with_reducible apply s5);(first|((with_reducible apply a_buildA);(iterate 4 exact rfl);(repeat(first|exact PartsV.nil|(apply PartsV.cons;exact rfl;exact rfl;(first|exact⟨rfl,trivial⟩|(apply nw_own;exact rfl;(focus first|exact rfl|(simp;done)|(simp;omega)))))));exact rfl)|exact by_oa|exact by_ca);exact by_g)|refine wb ?_)
   refine q_loopT x ⟨hK2,hI2⟩ hlt ?_
   exact by_less
  |nil =>
   rw[hn]at hI
   simp only[drainN]at hI
   subst hI
   obtain⟨tg,htg⟩:∃ tg,turnsC c.reps.length 0 c=tg:=⟨_,rfl⟩
   rw[htg]
   have hR:=hK.k
   obtain⟨R,hRl⟩:∃ R,c.reps.length=R:=⟨_,rfl⟩
   have hnil:c.net.length=0:=by rw[hn];rfl
   try refine wk ?_
   refine CW.loopT (fun t:Nat×Cluster=>[sp 2 1,ob 1 [.v nilS,.v nilS,.v nilS],sp 3 2,ob 2 t.2.enc,sd 20 (dint R),sd 21 (dint t.1),nxt 3])
    (fun t=>t.1≤R∧KInv t.2∧t.2.reps.length=R∧t.2.net=[]∧turnsC (R - t.1) t.1 t.2=tg) (fun t=>R - t.1) (0,c) ⟨by dsimp only;omega,hK,hRl,hn,by rw[← hRl];exact htg⟩ ?_ ?_
   ·
    exact by_less
   ·
    rintro ⟨n,c⟩ ⟨hnR,hK,hcl,hcn,hT⟩
    dsimp only at hnR hK hcl hcn hT ⊢
    by_cases he:n=R
    ·
     rw[he,Nat.sub_self]at hT
     simp only[turnsC]at hT
     subst hT
     try refine wk ?_
     exact .one (.cell rfl rfl rfl rfl (.aggd (ds:=c.enc) rfl (.refl _)))
    ·
     have hT2:turnsC (R - (n+1)) (n+1) (turnC c n)=tg:=by
      rw[show R - n=(R - (n+1))+1 by omega]at hT
      exact hT
     obtain⟨r,hr⟩:∃ r,c.reps[n]? = some r:=⟨c.reps[n]'(by omega),List.getElem?_eq_getElem (by omega)⟩
     obtain⟨hRI,hRC⟩:=hK.r r (List.mem_of_getElem? hr)
     have hir:idx (c.reps.map Replica.enc) (n:Int)=some r.enc:=idx_map hr
     have hnx:=hRI.n
     obtain⟨n1,n2,n3,n4,n5,n6⟩:=nextC_inv hK n
     -- what comes next
     have hst0:StopA 7:=⟨rfl⟩
     try refine wkS ?_
     clear hst0
     refine Stop.cutk [ob 2 (nextC c n).enc] [.s 2,.s 3,.s 4,.s 20,.s 21,.o 1,.nx] ?_ ?_
     ·
      cases he2:nth c.log r.next with
      |none =>
       have hge:=nth_none he2
       have hN:nextC c n=c:=by unfold nextC;rw[hr];dsimp only;rw[he2]
       rw[hN]
       repeat(first|refine wa ?_|((with_reducible apply s5);(first|((with_reducible apply a_ia);(iterate 5 exact rfl);exact hir)|exact by_oa|exact by_ca);exact by_g)|refine wb ?_)
       refine q_cut ?_
       exact by_less
      |some e =>
       obtain⟨j,hj1,hj⟩:=nth_some he2
       have hjl:=(List.getElem?_eq_some_iff.1 hj).1
       have hsc:=send_come hK hcn hr he2
       have c1:=fnOk_le (ok_cdo c (stepSend n r.next) hK (by simp[stepSend]) (by simp[stepSend])) (.d (.refl _) (.d (DLes.agg (.cons (.refl _) (.cons (.refl _) (.cons (.refl _) (.cons (dle_nil 3) .nil))))) .nil))
       have c2:=fnOk_le (ok_cdo (doC c (stepSend n r.next)).1 stepCome (hK.step _) (by simp[stepCome]) (by simp[stepCome])) (.d (.refl _) (.d (DLes.agg (.cons (.refl _) (.cons (.refl _) (.cons (.refl _) (.cons (dle_nil 3) .nil))))) .nil))
       rw[hsc]at c2
       change FnOk _ _ [_,.d (.agg [dint 2,dint (n:Int),dint r.next,.v nilS])] _ at c1
       change FnOk _ _ [_,.d (.agg [dint 3,dint 0,dint 0,.v nilS])] _ at c2
       generalize (doC (doC c (stepSend n r.next)).1 stepCome).2=v2 at *
       generalize (doC c (stepSend n r.next)).1=x1 at *
       generalize (doC c (stepSend n r.next)).2=v1 at *
       repeat(first|refine wa ?_|((with_reducible apply s5);(first|exact a_call c1 rfl by_sub|exact a_call c2 rfl by_sub|((with_reducible apply a_buildA);(iterate 4 exact rfl);(repeat(first|exact PartsV.nil|(apply PartsV.cons;exact rfl;exact rfl;(first|exact⟨rfl,trivial⟩|(apply nw_own;exact rfl;(focus first|exact rfl|(simp;done)|(simp;omega)))))));exact rfl)|((with_reducible apply a_ia);(iterate 5 exact rfl);exact hir)|exact by_oa|exact by_ca);exact by_g)|refine wb ?_)
       refine q_cut ?_
       exact by_less
     -- what waits
     try refine wk ?_
     refine CW.loopT (fun t:Cluster=>[sp 2 1,ob 1 [.v nilS,.v nilS,.v nilS],sp 3 2,ob 2 t.enc,sd 4 (dint n),sd 20 (dint R),sd 21 (dint n),nxt 3])
      (fun t=>KInv t∧t.reps.length=R∧t.net=[]∧finC t n=turnC c n) (fun t=>waitR t n) (nextC c n) ⟨n1,n4.trans hcl,n3.trans hcn,rfl⟩ ?_ ?_
     ·
      exact by_less
     ·
      rintro t ⟨t1,t2,t3,t4⟩
      obtain⟨q,hq⟩:∃ q,t.reps[n]? = some q:=⟨t.reps[n]'(by omega),List.getElem?_eq_getElem (by omega)⟩
      obtain⟨hQI,_⟩:=t1.r q (List.mem_of_getElem? hq)
      obtain⟨b,hb⟩:=hQI.b
      have hs:=hQI.sm.e
      have hiq:idx (t.reps.map Replica.enc) (n:Int)=some q.enc:=idx_map hq
      have c1:=ok_pready q.engine hs hQI.e.z.s (fun d hd=>(wrong_keys (hb.W.d d hd)).1) hb.S.k hb.W.nb
      cases h0:ready q.engine with
      |nil =>
       rw[fin_end hq h0]at t4
       rw[h0]at c1
       have hK2:=t1
       rw[t4]at hK2
       have hl2:=t2
       rw[t4]at hl2
       have hn2:=t3
       rw[t4]at hn2
       rw[t4]at hiq
       rw[t4]
       generalize turnC c n=c2 at *
       repeat(first|refine wa ?_|((with_reducible apply s5);(first|exact a_call c1 rfl by_sub|((with_reducible apply a_ia);(iterate 5 exact rfl);exact hiq)|exact by_oa|exact by_ca);exact by_g)|refine wb ?_)
       refine q_loopT (n+1,c2) ⟨by dsimp only;omega,hK2,hl2,hn2,hT2⟩ (by dsimp only;omega) ?_
       exact by_less
      |cons x l =>
       have hx:(ready q.engine)[0]? = some x:=by rw[h0];rfl
       have hrs:=run_step hq hx
       obtain⟨f1,f2⟩:=fin_step hq hx hb.W.l
       rw[h0]at c1
       have c2:=fnOk_le (ok_cdo t (stepRun n) t1 (by simp[stepRun]) (by simp[stepRun])) (.d (.refl _) (.d (DLes.agg (.cons (.refl _) (.cons (.refl _) (.cons (.refl _) (.cons (dle_nil 3) .nil))))) .nil))
       change FnOk _ _ [_,.d (.agg [dint 6,dint (n:Int),dint 0,.v nilS])] _ at c2
       have hK2:=t1.step (stepRun n)
       have hw1:waitR t n=waitN q.engine.state:=by unfold waitR;rw[hq];rfl
       have hw2:waitR (doC t (stepRun n)).1 n=waitN (goE q.engine x).1.state:=by
        unfold waitR
        rw[hrs]
        dsimp only
        rw[List.getElem?_set_self (by omega)]
        rfl
       have hl2:(doC t (stepRun n)).1.reps.length=R:=by rw[hrs];simp[t2]
       have hn2:(doC t (stepRun n)).1.net=[]:=by rw[hrs];exact t3
       have hf2:finC (doC t (stepRun n)).1 n=turnC c n:=by rw[hrs,f1,t4]
       have hlt:waitR (doC t (stepRun n)).1 n < waitR t n:=by rw[hw1,hw2];omega
       clear hw1 hw2 hrs f1 f2
       generalize (doC t (stepRun n)).1=y at *
       generalize (doC t (stepRun n)).2=v at *
       repeat(first|refine wa ?_|((with_reducible apply s5);(first|exact a_call c1 rfl by_sub|exact a_call c2 rfl by_sub|((with_reducible apply a_buildA);(iterate 4 exact rfl);(repeat(first|exact PartsV.nil|(apply PartsV.cons;exact rfl;exact rfl;(first|exact⟨rfl,trivial⟩|(apply nw_own;exact rfl;(focus first|exact rfl|(simp;done)|(simp;omega)))))));exact rfl)|((with_reducible apply a_ia);(iterate 5 exact rfl);exact hiq)|exact by_oa|exact by_ca);exact by_g)|refine wb ?_)
       refine q_loopT y ⟨hK2,hl2,hn2,hf2⟩ hlt ?_
       exact by_less
theorem ok_fsettle (c:Cluster) (h:KInv c):FnOk Tryz.prog 15 [.d (.agg c.enc)] (.tup [.agg (settleC 40 c).1.enc,dint (settleC 40 c).2]):=by
 refine fnOk_of tbl_ok mixed_ok Tryz.func15 rfl (by kernel_rfl) rfl rfl fun w0 own0=>?_
 have c0:=ok_cown c h.sm
 obtain⟨tx,htx⟩:∃ tx,(settleC 40 c).1=tx:=⟨_,rfl⟩
 obtain⟨tn,htn⟩:∃ tn,(settleC 40 c).2=tn:=⟨_,rfl⟩
 rw[htx,htn]
 try refine wk ?_
 refine CW.loopT (fun t:Nat×Cluster=>[sp 2 1,ob 1 [.v nilS,.v nilS,.v nilS],sd 3 (dint 0),sp 4 2,ob 2 t.2.enc,sd 5 (dint t.1),nxt 3])
  (fun t=>t.1≤40∧KInv t.2∧(settleC (40 - t.1) t.2).1=tx∧t.1+(settleC (40 - t.1) t.2).2=tn) (fun t=>40 - t.1) (0,c) ⟨by dsimp only;omega,h,htx,by simpa using htn⟩ ?_ ?_
 ·
  exact by_less
 ·
  rintro ⟨n,x⟩ ⟨hn,hK,hX,hN⟩
  dsimp only at hn hK hX hN ⊢
  by_cases h40:n=40
  ·
   subst h40
   simp only[Nat.sub_self,settleC]at hX hN
   subst hX
   try refine wk ?_
   exact .two (.cell rfl rfl rfl rfl (.aggd (ds:=x.enc) rfl (.refl _))) (.tmp rfl (.one (.d (dle_int (by omega)))))
  ·
   rw[show 40 - n=(39 - n)+1 by omega]at hX hN
   simp only[settleC]at hX hN
   have c1:=ok_fdone x hK
   by_cases hd:doneC x=true
   ·
    rw[if_pos hd]at hX hN
    rw[hd]at c1
    subst hX
    try refine wk ?_
    exact .two (.cell rfl rfl rfl rfl (.aggd (ds:=x.enc) rfl (.refl _))) (.tmp rfl (.one (.d (dle_int (by omega)))))
   ·
    rw[if_neg hd]at hX hN
    have hdf:doneC x=false:=by cases hb:doneC x <;> simp_all
    rw[hdf]at c1
    have c2:=ok_fround x hK
    have hK2:=(roundC_inv hK (lvl_zero hK)).1
    dsimp only at hX hN
    rw[show 39 - n=40 - (n+1) by omega]at hX hN
    generalize roundC x=y at *
    try refine wk ?_
    refine q_loopT (n+1,y) ⟨by dsimp only;omega,hK2,hX,by dsimp only;omega⟩ (by dsimp only;omega) ?_
    exact by_less
def fplay (n:Int) (l:List Step):Cluster×List Int×Int:=if n < 1∨3 < n then (noC,[],3) else if 120 < l.length then (noC,[],5) else (playC (newC n) l,errsC (newC n) l,0)
theorem ok_fplay (n:Int) (l:List Step) (hl:l.length≤10000000) (hs:∀ s∈l,s.Sm) :
  FnOk Tryz.prog 7 [.d (dint n),.d (encSteps l)] (.tup [.agg (fplay n l).1.enc,encInts (fplay n l).2.1,dint (fplay n l).2.2]):=by
 refine fnOk_of tbl_ok mixed_ok Tryz.func7 rfl (by kernel_rfl) rfl rfl fun w0 own0=>?_
 have c1:=ok_cnew n
 unfold fplay
 by_cases hn:n < 1∨3 < n
 ·
  rw[if_pos hn]
  have hm:madeC n=(noC,3):=by unfold madeC;rw[if_pos hn]
  rw[hm]at c1
  try refine wk ?_
  exact .three (.cell rfl rfl rfl rfl (.aggd (ds:=[.v nilS,.v nilS,.v nilS]) rfl noC_le.agg)) (.tmp rfl (.one (.d (dle_nil 1)))) (.tmp rfl (.one (.d (.refl _))))
 rw[if_neg hn]
 have hm:madeC n=(newC n,0):=by unfold madeC;rw[if_neg hn]
 rw[hm]at c1
 have hK:=newC_inv (n:=n) (by omega)
 by_cases h120:120 < l.length
 ·
  rw[if_pos h120]
  try refine wk ?_
  exact .three (.cell rfl rfl rfl rfl (.aggd (ds:=[.v nilS,.v nilS,.v nilS]) rfl noC_le.agg)) (.tmp rfl (.one (.d (dle_nil 1)))) (.tmp rfl (.one (.d (.refl _))))
 rw[if_neg h120]
 dsimp only
 generalize newC n=c0 at *
 obtain⟨tg,htg⟩:∃ tg,playC c0 l=tg:=⟨_,rfl⟩
 obtain⟨te,hte⟩:∃ te,errsC c0 l=te:=⟨_,rfl⟩
 rw[htg,hte]
 try refine wk ?_
 refine CW.stut (stut_promote (i:=9) 29 1) ⟨rfl,rfl,trivial⟩ ?_
 refine CW.loopT (fun t:Nat×Cluster×List Int=>[sp 4 0,ob 0 [.v nilS,.v nilS,.v nilS],sd 5 (.v nilS),sd 6 (dint 0),sp 7 1,ob 1 t.2.1.enc,so 9 2 t.1,oa 2 29 1 (t.2.2.map encInt1),sd 27 (encSteps l),sd 28 (dint l.length),sd 29 (dint t.1),nxt 3])
  (fun t=>t.1≤l.length∧t.2.2.length=t.1∧KInv t.2.1∧playC t.2.1 (l.drop t.1)=tg∧t.2.2++errsC t.2.1 (l.drop t.1)=te) (fun t=>l.length - t.1) (0,c0,[]) ⟨by dsimp only;omega,rfl,hK,htg,hte⟩ ?_ ?_
 ·
  exact by_less
 ·
  rintro ⟨i,c,es⟩ ⟨hi,he,hc,hI,hE⟩
  dsimp only at hi he hc hI hE ⊢
  rcases drop_case hi with ⟨h5,h6⟩|⟨s,h5,h6,h7⟩
  ·
   rw[h5]at hI hE
   simp only[playC,errsC,List.append_nil]at hI hE
   subst hI hE
   try refine wk ?_
   exact .three (.cell rfl rfl rfl rfl (.aggd (ds:=c.enc) rfl (.refl _))) (.tmp rfl (.one (.own rfl (by simp;omega) (.refl _)))) (.tmp rfl (.one (.d (.refl _))))
  ·
   rw[h5]at hI hE
   simp only[playC,errsC]at hI hE
   have hsm:=hs s (List.mem_of_getElem? h6)
   have c2:=ok_cdo c s hc hsm.d (by have:=hsm.l;omega)
   have hc2:=hc.step s
   generalize (doC c s).1=x at *
   generalize (doC c s).2=v at *
   have h10:es.map encInt1++[[dint v]]=(es++[v]).map encInt1:=by simp[encInt1]
   repeat(first|((with_reducible apply s5);((with_reducible apply a_bs [[dint v]]);(iterate 9 exact rfl);(repeat(first|exact PartsE.nil|(apply PartsE.cons;exact rfl;exact rfl))));exact by_g)|refine wa1 ?_|((with_reducible apply s5);(first|exact by_oa|exact by_ca);exact by_g)|refine wb ?_)
   refine q_loopT (i+1,x,es++[v]) ⟨by dsimp only;omega,by simp;omega,hc2,hI,by rw[List.append_assoc];exact hE⟩ (by dsimp only;omega) ?_
   exact by_less
def tA:Str:=[114,101,97,100,115,59,32,119,114,105,116,101,115,32,97,59,32,99,111,110,115,116,32,114,48,32,52,59,32,115,116,111,114,101,32,114,48,32,97]
def dA:Deed:=⟨[],[[97]],[⟨2,0,0,4,[]⟩,⟨6,0,0,0,[97]⟩]⟩
theorem pA:parseD tA=some dA:=by decide +kernel
theorem sA:smallS tA=true:=by decide +kernel
theorem dOf_right {L:List Entry}(hw:∀ x∈L,wrongEntry x=0) (n:Nat):∀ d∈dOf L n,wrongDeed d=0:=fun d hd=>by
 unfold dOf at hd
 obtain⟨x,hx,hdx⟩:=List.mem_flatMap.1 hd
 exact(wrongEntry_out (hw x (List.mem_of_mem_take hx))).2.2.2 d hdx
theorem dOf_len {L:List Entry}(hw:∀ x∈L,wrongEntry x=0) (hl:L.length≤12) (n:Nat):(dOf L n).length≤72:=by
 have:∀ m:List Entry,(∀ x∈m,wrongEntry x=0)→(m.flatMap Entry.deeds).length≤6*m.length:=by
  intro m
  induction m with
  |nil=>simp
  |cons x m ih =>
   intro h
   have h1:=(wrongEntry_out (h x (List.mem_cons_self ..))).2.1
   have h2:=ih fun y hy=>h y (List.mem_cons_of_mem _ hy)
   rw[List.flatMap_cons,List.length_append,List.length_cons]
   omega
 have h1:=this (L.take n) fun x hx=>hw x (List.mem_of_mem_take hx)
 have h2:(L.take n).length≤12:=by rw[List.length_take];omega
 unfold dOf
 omega
theorem ok_all (r:List Pair) (l:List Deed) (hl:r.length≤1048576) (hll:l.length≤1048576) (hr:rowsOk r) (hw:∀ d∈l,Deed.Ok d) :
  FnOk Tryz.prog 18 [.d (encRows r),.d (encDeeds l)] (.tup [encRows (allD r l).1,encEnds (allD r l).2]):=by
 refine fnOk_of tbl_ok mixed_ok Tryz.func18 rfl (by kernel_rfl) rfl rfl fun w0 own0=>?_
 have hst0:StopA 2:=⟨rfl⟩
 try refine wkS ?_
 clear hst0
 refine Stop.go (CW.stut (stut_promote (i:=6) 82 5) ⟨rfl,rfl,trivial⟩ ?_)
 try refine wk ?_
 refine CW.loopT (fun t:Nat×List Pair×List Done=>[sd 4 (.v nilS),sd 5 (.v nilS),sd 0 (encRows t.2.1),so 6 0 t.2.2.length,oa 0 82 5 (t.2.2.map Done.enc),sd 11 (encDeeds l),sd 12 (dint l.length),sd 13 (dint t.1),nxt 1])
  (fun t=>t.1≤l.length∧t.2.2.length≤t.1∧t.2.1.length≤r.length+12*t.1∧rowsOk t.2.1∧(allD t.2.1 (l.drop t.1)).1=(allD r l).1∧t.2.2++(allD t.2.1 (l.drop t.1)).2=(allD r l).2) (fun t=>l.length - t.1) (0,r,[]) ⟨by omega,by simp,by simp,hr,rfl,rfl⟩ ?_ ?_
 ·
  exact by_less
 ·
  rintro ⟨j,out,es⟩ ⟨hj,hes,hol,hor,hJ1,hJ2⟩
  dsimp only at hj hes hol hor hJ1 hJ2 ⊢
  rcases drop_case hj with ⟨h1,h2⟩|⟨c,h1,h2,h3⟩
  ·
   rw[h1]at hJ1 hJ2
   simp only[allD,List.append_nil]at hJ1 hJ2
   try refine wk ?_
   rw[← hJ1,← hJ2]
   exact .two (.tmp rfl (.one (.d (.refl _)))) (.tmp rfl (.one (.own rfl (by simp) (.refl _))))
  ·
   rw[h1]at hJ1 hJ2
   simp only[allD]at hJ1 hJ2
   have hwc:=hw c (List.mem_of_getElem? h2)
   have hwl:=hwc.c
   have c1:=ok_do out c (by omega) hor (by omega) hwc.i
   have hlen:=doD_len out c
   have hd2:=doD_ok hor hwc
   generalize doD out c=q at c1 hlen hd2 hJ1 hJ2
   obtain⟨q1,q2⟩:=q
   dsimp only at c1 hlen hd2 hJ1 hJ2
   try refine wk ?_
   refine q_loopT (j+1,q1,es++[q2]) ⟨by dsimp only;omega,by dsimp only;simp;omega,by dsimp only;omega,hd2,hJ1,by rw[← hJ2];simp⟩ (by dsimp only;omega) ?_
   exact by_less
theorem ok_read12 (s:Str) (d:Deed) (h:parseD s=some d) (hm:smallS s=true):FnOk Tryz.prog 32 [.d (dstr s)] (.one (.agg d.enc)):=by
 refine fnOk_of tbl_ok mixed_ok Tryz.func32 rfl (by kernel_rfl) rfl rfl fun w0 own0=>?_
 have c1:=ok_parseS s d h hm
 try refine wk ?_
 exact .one (.cell rfl rfl rfl rfl (.aggd rfl (.refl _)))
def sA12:Step:=⟨1,0,0,[dA]⟩
def kA12:Cluster:=playC (newC 2) [sA12]
theorem a12_a:fplay 2 [sA12]=(kA12,errsC (newC 2) [sA12],0)∧(errsC (newC 2) [sA12]).length=1:=⟨rfl,rfl⟩
theorem a12_b:doneC kA12=false∧doneC (roundC kA12)=true:=by decide +kernel
theorem a12_c:settleC 40 kA12=(roundC kA12,1):=by
 simp only[settleC]
 rw[if_neg (by rw[a12_b.1];simp),if_pos a12_b.2]
theorem a12_d:∃ r,(roundC kA12).reps[1]? = some r∧r.next=1:=by
 have h:((roundC kA12).reps[1]?.map Replica.next)=some 1:=by decide +kernel
 rw[Option.map_eq_some_iff]at h
 exact h
theorem ok_alive12:FnOk Tryz.prog 16 [] (.one (dbool true)):=by
 refine fnOk_of tbl_ok mixed_ok Tryz.func16 rfl (by kernel_rfl) rfl rfl fun w0 own0=>?_
 have c1:=ok_read12 tA dA pA sA
 have hsm:sA12.Sm:=⟨by simp[sA12],fun d hd=>by
  rw[List.mem_singleton.1 (show d∈[dA] from hd)]
  exact wrong_sm (by decide +kernel)⟩
 have c2:=ok_fplay 2 [sA12] (by simp) (fun s hs=>by rw[List.mem_singleton.1 hs];exact hsm)
 rw[a12_a.1]at c2
 have hK:KInv kA12:=(newC_inv (n:=2) (by omega)).play
 have c3:=ok_fround kA12 hK
 have c4:=ok_fsettle kA12 hK
 rw[a12_c]at c4
 have c5:=ok_fdone kA12 hK
 rw[a12_b.1]at c5
 have hK2:=(roundC_inv hK (lvl_zero hK)).1
 have c6:=ok_fdone (roundC kA12) hK2
 rw[a12_b.2]at c6
 have c7:=ok_sameCl (roundC kA12) hK2.sm
 obtain⟨r,f1,f2⟩:=a12_d
 have f3:=a12_a.2
 change FnOk _ _ [_,.d (.sl 4 [[dint 1,dint 0,dint 0,.sl 3 [dA.enc]]])] (.tup [.agg kA12.enc,encInts (errsC (newC 2) [sA12]),dint 0]) at c2
 dsimp only at c4
 clear hK hK2
 generalize roundC kA12=x at *
 generalize kA12=c at *
 generalize errsC (newC 2) [sA12]=es at *
 have hix:idx (x.reps.map Replica.enc) 1=some r.enc:=idx_map (k:=1) f1
 repeat(first|((with_reducible apply s5);((with_reducible apply a_bs [dA.enc]);(iterate 9 exact rfl);(repeat(first|exact PartsE.nil|(apply PartsE.cons;exact rfl;exact rfl))));exact by_g)|((with_reducible apply s5);((with_reducible apply a_bs [[dint 1,dint 0,dint 0,.sl 3 [dA.enc]]]);(iterate 9 exact rfl);(repeat(first|exact PartsE.nil|(apply PartsE.cons;exact rfl;exact rfl))));exact by_g)|refine wa1 ?_|((with_reducible apply s5);(first|((with_reducible apply a_buildA);(iterate 4 exact rfl);(repeat(first|exact PartsV.nil|(apply PartsV.cons;exact rfl;exact rfl;(first|exact⟨rfl,trivial⟩|(apply nw_own;exact rfl;(focus first|exact rfl|(simp;done)|(simp;omega)))))));exact rfl)|exact a_call c5 rfl by_sub|exact a_call c6 rfl by_sub|((with_reducible apply a_ia);(iterate 5 exact rfl);exact hix)|exact by_oa|exact by_ca);exact by_g)|refine wb ?_)
 exact .one (.tmp rfl (.one (.d (dle_bool (by simp[f2,f3])))))
theorem play_c {n:Int}(h1:¬ n < 1) (h3:¬ 3 < n) (l:List Step):KInv (playC (newC n) (l.take 120)):=(newC_inv (by omega)).play
theorem ok_FairEnds (n:Int) (l:List Step) (hl:l.length≤10000000) (hd:∀ s∈l,s.Sm) :
  FnOk Tryz.prog 4 [.d (dint n),.d (encSteps l)] (.one (dbool true)):=by
 refine fnOk_of tbl_ok mixed_ok Tryz.func4 rfl (by kernel_rfl) rfl rfl fun w0 own0=>?_
 have c0:=ok_alive12
 by_cases hn1:n < 1
 ·
  try refine wk ?_
  exact .one (.tmp rfl (.one (.d (.refl _))))
 by_cases hn3:3 < n
 ·
  try refine wk ?_
  exact .one (.tmp rfl (.one (.d (.refl _))))
 have c1:=ok_rplay n l (by omega) (by omega) hl hd
 have hC:=play_c hn1 hn3 l
 generalize playC (newC n) (l.take 120)=c at *
 generalize errsC (newC n) (l.take 120)=es at *
 have c2:=ok_fsettle c hC
 obtain⟨hX,hL,hR,hN,hD⟩:=settle_done hC
 generalize (settleC 40 c).1=x at *
 generalize (settleC 40 c).2=k at *
 have c3:=ok_fdone x hX
 have c4:=ok_rdone x hX
 rw[hD]at c3 c4
 have hCl:=hC.l
 have c5:=ok_sameEnts c.log c.log (by omega) fun e he=>⟨by have:=(entry_sm (hC.right e he)).1;omega,(entry_sm (hC.right e he)).2⟩
 rw[allB_refl sameEnt_refl]at c5
 have hxe:x.enc=[encEntries c.log,encReps x.reps,encNet x.net]:=by unfold Cluster.enc;rw[hL]
 rw[hxe]at c2 c3 c4
 try refine wk ?_
 exact .one (.tmp rfl (.one (.d (dle_bool (by simp)))))
theorem ok_FairDone (n:Int) (l:List Step) (hl:l.length≤10000000) (hd:∀ s∈l,s.Sm) :
  FnOk Tryz.prog 5 [.d (dint n),.d (encSteps l)] (.one (dbool true)):=by
 refine fnOk_of tbl_ok mixed_ok Tryz.func5 rfl (by kernel_rfl) rfl rfl fun w0 own0=>?_
 have c0:=ok_alive12
 by_cases hn1:n < 1
 ·
  try refine wk ?_
  exact .one (.tmp rfl (.one (.d (.refl _))))
 by_cases hn3:3 < n
 ·
  try refine wk ?_
  exact .one (.tmp rfl (.one (.d (.refl _))))
 have c1:=ok_rplay n l (by omega) (by omega) hl hd
 have hC:=play_c hn1 hn3 l
 generalize playC (newC n) (l.take 120)=c at *
 generalize errsC (newC n) (l.take 120)=es at *
 have c2:=ok_fsettle c hC
 obtain⟨hX,hL,hR,hN,hD⟩:=settle_done hC
 generalize (settleC 40 c).1=x at *
 generalize (settleC 40 c).2=k at *
 have c3:=ok_fsettle x hX
 rw[settleC_done hD]at c3
 have c4:=ok_fround x hX
 rw[roundC_done hD]at c4
 have c5:=ok_sameCl x hX.sm
 dsimp only at c3
 repeat(first|refine wa ?_|((with_reducible apply s5);(first|exact a_call c2 rfl by_sub|exact a_call c3 rfl by_sub|exact by_oa|exact by_ca);exact by_g)|refine wb ?_)
 exact .one (.tmp rfl (.one (.d (dle_bool (by simp)))))
theorem ok_FairSame (n:Int) (l:List Step) (hl:l.length≤10000000) (hd:∀ s∈l,s.Sm) :
  FnOk Tryz.prog 6 [.d (dint n),.d (encSteps l)] (.one (dbool true)):=by
 refine fnOk_of tbl_ok mixed_ok Tryz.func6 rfl (by kernel_rfl) rfl rfl fun w0 own0=>?_
 have c0:=ok_alive12
 by_cases hn1:n < 1
 ·
  try refine wk ?_
  exact .one (.tmp rfl (.one (.d (.refl _))))
 by_cases hn3:3 < n
 ·
  try refine wk ?_
  exact .one (.tmp rfl (.one (.d (.refl _))))
 have c1:=ok_rplay n l (by omega) (by omega) hl hd
 have hC:=play_c hn1 hn3 l
 have hCn:((playC (newC n) (l.take 120)).reps.length:Int)=n:=by rw[play_reps];simp[newC];omega
 generalize playC (newC n) (l.take 120)=c at *
 generalize errsC (newC n) (l.take 120)=es at *
 have c2:=ok_fsettle c hC
 obtain⟨hX,hL,hR,hN,hD⟩:=settle_done hC
 have hCl:=hC.l
 have hw:=dOf_right hC.right c.log.length
 have hdl:=dOf_len hC.right hCl c.log.length
 have c3:FnOk Tryz.prog 19 [.d (encEntries c.log),.d (dint ((c.log.map Entry.enc).length:Int))] (.one (encDeeds (dOf c.log c.log.length))):=by
  have:=ok_rdeeds c.log c.log.length (by omega) (by omega) hC.right
  rw[Int.toNat_natCast]at this
  rw[List.length_map]
  exact this
 have c4:=ok_all [] (dOf c.log c.log.length) (by simp) (by omega) (by simp[rowsOk]) (fun d hd=>wrongDeed_ok (hw d hd))
 have hrows:∀ r∈(settleC 40 c).1.reps,seenE r.engine r.engine.deeds.length=((allD [] (dOf c.log c.log.length)).1,0):=fun r hr=>by
  have:=(done_seen hX hD hr).1
  rw[hL]at this;exact this
 generalize (settleC 40 c).1=x at *
 generalize (settleC 40 c).2=k at *
 generalize (allD [] (dOf c.log c.log.length)).1=R at *
 generalize (allD [] (dOf c.log c.log.length)).2=A at *
 generalize dOf c.log c.log.length=all at *
 have hXk:=hX.k
 repeat(first|refine wa ?_|((with_reducible apply s5);(first|exact a_call c3 rfl by_sub|exact by_oa|exact by_ca);exact by_g)|refine wb ?_)
 refine CW.loopT (fun i:Nat=>[sd 0 (dint n),sp 7 1,ob 1 x.enc,sd 9 (encRows R),sd 45 (encReps x.reps),sd 46 (dint x.reps.length),sd 47 (dint i),nxt 2]) (fun i=>i≤x.reps.length) (fun i=>x.reps.length - i) 0 (by omega) ?_ ?_
 ·
  exact by_less
 ·
  rintro i hi
  rcases drop_case hi with ⟨h1,h2⟩|⟨r,h1,h2,h3⟩
  ·
   try refine wk ?_
   exact .one (.tmp rfl (.one (.d (dle_bool (by simp;omega)))))
  ·
   have hrm:=List.mem_of_getElem? h2
   have hsm:=(hX.r r hrm).1.sm.e
   have hrw:=hrows r hrm
   have c5:FnOk Tryz.prog 20 [.d (.agg r.engine.enc),.d (dint ((r.engine.deeds.map Deed.enc).length:Int))] (.tup [encRows R,dint 0]):=by
    have:=ok_seen r.engine r.engine.deeds.length hsm
    rw[hrw]at this
    rw[List.length_map]
    exact this
   have hsl:=seenE_len r.engine r.engine.deeds.length
   rw[hrw]at hsl
   dsimp only at hsl
   have hcl:=hsm.c
   have c6:=ok_SameRows R R (by omega)
   rw[allB_refl (by simp)]at c6
   repeat(first|refine wa ?_|((with_reducible apply s5);(first|exact a_call c5 rfl by_sub|exact by_oa|exact by_ca);exact by_g)|refine wb ?_)
   refine q_loopT (i+1) (by omega) (by omega) ?_
   exact by_less
theorem errsC_len:∀ {l:List Step}{c:Cluster},(errsC c l).length=l.length
 | [],_=>rfl
 |s::l,c=>by simp only[errsC,List.length_cons];rw[errsC_len]
theorem ok_FairTells (n:Int) (l:List Step) (hl:l.length≤10000000) (hd:∀ s∈l,s.Sm) :
  FnOk Tryz.prog 3 [.d (dint n),.d (encSteps l)] (.one (dbool true)):=by
 refine fnOk_of tbl_ok mixed_ok Tryz.func3 rfl (by kernel_rfl) rfl rfl fun w0 own0=>?_
 have c1:=ok_fplay n l hl hd
 have c2:=ok_rcnew n
 have hz:noC.enc=[.sl 2 [],.sl 7 [],.sl 2 []]:=rfl
 unfold fplay at c1
 by_cases hn:n < 1∨3 < n
 ·
  have hm:madeC n=(noC,3):=by unfold madeC;rw[if_pos hn]
  rw[hm]at c2
  rw[if_pos hn]at c1
  dsimp only at c1 c2
  rw[hz]at c1 c2
  try refine wk ?_
  exact .one (.tmp rfl (.one (.d (.refl _))))
 have hm:madeC n=(newC n,0):=by unfold madeC;rw[if_neg hn]
 rw[hm]at c2
 rw[if_neg hn]at c1
 dsimp only at c2
 by_cases h120:120 < l.length
 ·
  rw[if_pos h120]at c1
  dsimp only at c1
  rw[hz]at c1
  generalize newC n=z at *
  try refine wk ?_
  exact .one (.tmp rfl (.one (.d (.refl _))))
 rw[if_neg h120]at c1
 dsimp only at c1
 have c3:=ok_rplay n l (by omega) (by omega) hl hd
 rw[List.take_of_length_le (by omega)]at c3
 have hC:KInv (playC (newC n) l):=(newC_inv (by omega)).play
 have hes:(errsC (newC n) l).length≤120:=by rw[errsC_len];omega
 generalize playC (newC n) l=c at *
 generalize errsC (newC n) l=es at *
 generalize newC n=z at *
 have c4:=ok_sameCl c hC.sm
 have c5:=ok_fdone c hC
 have c6:=ok_rdone c hC
 have c7:=ok_fround c hC
 have c8:=ok_rround c hC
 have c9:=ok_sameCl (roundC c) (roundC_inv hC (lvl_zero hC)).1.sm
 have c10:=ok_fsettle c hC
 have hX:=(settle_done hC).1
 obtain⟨tx,htx⟩:∃ tx,(settleC 40 c).1=tx:=⟨_,rfl⟩
 obtain⟨tn,htn⟩:∃ tn,(settleC 40 c).2=tn:=⟨_,rfl⟩
 rw[htx]at c10 hX
 rw[htn]at c10
 have c11:=ok_sameCl tx hX.sm
 generalize doneC c=b at c5 c6
 generalize roundC c=rc at c7 c8 c9
 repeat(first|refine wa ?_|((with_reducible apply s5);(first|exact a_call c4 rfl by_sub|exact by_oa|exact by_ca);exact by_g)|refine wb ?_)
 refine CW.loopT (fun i:Nat=>[sp 10 2,ob 2 c.enc,sd 6 (encInts es),sd 11 (encInts es),sd 73 (dint es.length),sd 74 (dint i),nxt 3]) (fun i=>i≤es.length) (fun i=>es.length - i) 0 (by omega) ?_ ?_
 ·
  exact by_less
 ·
  rintro i hi
  rcases drop_case hi with ⟨h1,h2⟩|⟨e,h1,h2,h3⟩
  ·
   repeat(first|refine wa ?_|((with_reducible apply s5);(first|exact a_call c9 rfl by_sub|((with_reducible apply a_bin);(iterate 2 exact rfl);(first|exact bin_bneq (by kernel_rfl)|exact bin_beql (by kernel_rfl));exact rfl)|exact by_oa|exact by_ca);exact by_g)|refine wb ?_)
   refine CW.loopT (fun t:Nat×Cluster=>[sp 10 2,ob 2 t.2.enc,sd 13 (dint t.1),sp 14 3,ob 3 tx.enc,sd 15 (dint tn),nxt 4])
    (fun t=>t.1≤40∧KInv t.2∧(settleC (40 - t.1) t.2).1=tx∧t.1+(settleC (40 - t.1) t.2).2=tn) (fun t=>40 - t.1) (0,c) ⟨by dsimp only;omega,hC,htx,by simpa using htn⟩ ?_ ?_
   ·
    exact by_less
   ·
    rintro ⟨k,x⟩ ⟨hk,hK,hX2,hN⟩
    dsimp only at hk hK hX2 hN ⊢
    by_cases h40:k=40
    ·
     subst h40
     simp only[Nat.sub_self,settleC]at hX2 hN
     subst hX2 hN
     repeat(first|refine wa ?_|((with_reducible apply s5);(first|exact a_call c11 rfl by_sub|exact by_oa|exact by_ca);exact by_g)|refine wb ?_)
     exact .one (.tmp rfl (.one (.d (dle_bool (by simp)))))
    ·
     rw[show 40 - k=(39 - k)+1 by omega]at hX2 hN
     simp only[settleC]at hX2 hN
     have d1:=ok_rdone x hK
     by_cases hd:doneC x=true
     ·
      rw[if_pos hd]at hX2 hN
      rw[hd]at d1
      subst hX2 hN
      repeat(first|refine wa ?_|((with_reducible apply s5);(first|exact a_call c11 rfl by_sub|exact a_call d1 rfl by_sub|exact by_oa|exact by_ca);exact by_g)|refine wb ?_)
      exact .one (.tmp rfl (.one (.d (dle_bool (by simp)))))
     ·
      rw[if_neg hd]at hX2 hN
      have hdf:doneC x=false:=by cases hb:doneC x <;> simp_all
      rw[hdf]at d1
      have d2:=ok_rround x hK
      have hK2:=(roundC_inv hK (lvl_zero hK)).1
      dsimp only at hX2 hN
      rw[show 39 - k=40 - (k+1) by omega]at hX2 hN
      generalize roundC x=y at *
      repeat(first|refine wa ?_|((with_reducible apply s5);(first|exact a_call d1 rfl by_sub|exact a_call d2 rfl by_sub|exact by_oa|exact by_ca);exact by_g)|refine wb ?_)
      refine q_loopT (k+1,y) ⟨by dsimp only;omega,hK2,hX2,by dsimp only;omega⟩ (by dsimp only;omega) ?_
      exact by_less
  ·
   try refine wk ?_
   refine q_loopT (i+1) (by omega) (by omega) ?_
   exact by_less
end Go.Proofs.YtccblhpfjlgmbaaGreatDoor
namespace Go.AX
open Go.RowKit
theorem laid_drop {P:Program}{w:World}:∀ {laid:List (String×DataW Unit)}(i:Nat),laidMet P laid w→laidMet P (laid.drop i) w
 |_,0,h=>h
 | [],_+1,h=>h
 |(n,d)::r,i+1,h=>by
  obtain⟨ps,hv,hnd,hrows⟩:=h
  obtain⟨g,t,cs,fuel,p,q,_,_,_,_,hq,rfl⟩:=hv
  exact laid_drop i ⟨q,hq,List.Nodup.sublist (List.sublist_append_right _ _) hnd,fun b off hm=>hrows b off (List.mem_append_right _ hm)⟩
theorem trod_iface {P:Program}{w:World}{ti:TypeId}{ms:Array (String×TypeId)}{sp:Nat→Bool}{fuel:Nat}{cs:List Value}{nm:String}{d:DataW Unit}{p:List MemPlace}(hi:P.underlying ti=some (.interface ms))
  (h:DataW.trod (fun _=>()) P w 0 sp false fuel ti cs=some (.iface nm d,p)):∃ u v,cs=[.iface u v]:=by
 cases fuel with
 |zero=>simp[DataW.trod]at h
 |succ n =>
  rcases cs with _|⟨c,_|⟨c2,r⟩⟩
  ·
   simp[DataW.trod,hi]at h
  ·
   cases c <;> simp[DataW.trod,hi]at h ⊢
  ·
   cases c <;> simp[DataW.trod,hi]at h
theorem gl_iface {P:Program}{w:World}{laid rest:List (String×DataW Unit)}{n nm:String}{d:DataW Unit}{g:Nat}{ti:TypeId}{ms:Array (String×TypeId)}(i:Nat) (hi:laid.drop i=(n,.iface nm d)::rest)
  (hg:P.globalNamed n=some g) (ht:(P.globals[g]?).map (·.type)=some ti) (hu:P.underlying ti=some (.interface ms)) (h:laidMet P laid w):GlAt P w n fun cs=>∃ tp p,cs = #[.iface tp p]:=by
 intro g' hg'
 have h1:=laid_drop i h
 rw[hi]at h1
 obtain⟨ps,⟨g0,t0,cs0,f0,p0,q0,hg0,ht0,hv0,hd0,_,_⟩,_⟩:=h1
 obtain rfl:=Option.some.inj (hg.symm.trans hg0)
 obtain rfl:=Option.some.inj (ht.symm.trans ht0)
 obtain⟨u,v,hc⟩:=trod_iface hu hd0
 refine⟨cs0,hv0,u,v,?_⟩
 rw[← Array.toArray_toList (xs:=cs0),hc]
theorem gl_tab {P:Program}{w:World}{laid rest:List (String×DataW Unit)}{n:String}{k:IntKind}{zs:List Int}{g:Nat}{t e:TypeId}{m:Nat}(i:Nat) (hi:laid.drop i=(n,Lib.tabData k zs)::rest)
  (hg:P.globalNamed n=some g) (hty:(P.globals[g]?).map (·.type)=some t) (ht:P.underlying t=some (.array m e)) (he:P.underlying e=some (.int k)) (hce:P.cellsOf e=1) (hct:P.cellsOf t=m) (h:laidMet P laid w) :
  GlAt P w n fun cs=>cs=(zs.map fun z=>Value.int k z).toArray:=by
 intro g' hg'
 have h1:=laid_drop i h
 rw[hi]at h1
 exact⟨_,Lib.tabIs_of_head hg hty ht he hce hct h1,rfl⟩
theorem gl_int {P:Program}{w:World}{n:String}{g:Nat}{m:Int}(hg:P.globalNamed n=some g) (h:w.cell? ⟨g,0,none⟩=some (.int .i64 m)):GlAt P w n fun cs=>∃ m,cs[0]? = some (.int .i64 m):=by
 intro g' hg'
 have hx:∃ cs,w.var? P n=some cs∧cs[0]? = some (.int .i64 m):=by
  unfold World.var?
  rw[hg]
  simp only[Option.bind_some]
  unfold World.cell? at h
  simp only at h
  split at h
  ·
   next cs _ _ hh=>rw[hh];exact⟨cs,rfl,h⟩
  ·
   cases h
 obtain⟨cs,h1,h2⟩:=hx
 exact⟨cs,h1,m,h2⟩
end Go.AX
