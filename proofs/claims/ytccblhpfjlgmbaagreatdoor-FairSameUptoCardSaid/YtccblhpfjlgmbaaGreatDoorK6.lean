/-
  Part 6 of what the claim leans on: H9 H12 H8 J8 J10 J11 H2 H3 H4 H7 H10 H11 J9 J12 AxMake J13 J5 G24 P25 J14 J15 J19 AxDec4 J16 AxInl J17 J18.
-/
import Derived.Test.YtccblhpfjlgmbaaGreatDoorK5
import Derived.Laws.MakeOwn
set_option linter.all false

namespace Go.Proofs.YtccblhpfjlgmbaaGreatDoor
open Go.AX Go.RF Go.RowKit
set_option maxRecDepth 100000
set_option maxHeartbeats 8000000
theorem ok_lsplit (s sep:Str) (hs:s.length≤1000000000) (hp:sep≠[]):FnOk Tryz.prog 96 [.d (dstr s),.d (dstr sep)] (.one (encStrs (split s sep))):=by
 refine⟨⟨_,Tryz.func96,by kernel_rfl,by kernel_rfl⟩,fun w own vs hown ha=>?_⟩
 match vs,ha with
 | [x,y],⟨h1,h2,_⟩ =>
  obtain rfl:x=str s:=rd_v h1
  obtain rfl:y=str sep:=rd_v h2
  obtain ⟨cs, hv, m, hm⟩ := hown.2.mx _ (show Tryz.prog.globalNamed "internal/bytealg.MaxLen" = some (Tryz.lays146_ren.g 1) by kernel_rfl)
  have hm':w.cell? ⟨Tryz.lays146_ren.g 1,0,none⟩=some (.int .i64 m):=by rw[World.var?_cell (by kernel_rfl) hv 0];exact hm
  have hl:1≤(⟨sep.toArray⟩:ByteArray).size:=by
   show 1≤sep.toArray.size
   have:=List.length_pos_iff.2 hp
   rw[List.size_toArray];omega
  refine(Any.strings_Split Tryz.lays146 (by kernel_rfl) ⟨s.toArray⟩ ⟨sep.toArray⟩ m w (by show s.toArray.size < _;simp;omega) hm' hl).mono fun e w' he=>?_
  obtain⟨rfl,rfl⟩:=he
  have hmap:=Lib.splitB_data ⟨sep.toArray⟩ 0 (Lib.countB ⟨s.toArray⟩ ⟨sep.toArray⟩) ⟨s.toArray⟩
  have hlen:=Lib.splitB_all ⟨sep.toArray⟩ hl 0 _ ⟨s.toArray⟩ rfl
  have hsp:(Lib.splitB ⟨sep.toArray⟩ 0 (Lib.countB ⟨s.toArray⟩ ⟨sep.toArray⟩) ⟨s.toArray⟩).map (·.data.toList)=split s sep:=by
   rw[hmap,split_lib hp];rfl
  generalize Lib.splitB ⟨sep.toArray⟩ 0 (Lib.countB ⟨s.toArray⟩ ⟨sep.toArray⟩) ⟨s.toArray⟩=L at hsp hlen
  refine⟨_,rfl,(Below.refl _ _).alloc (Nat.le_refl _) _,?_⟩
  rw[← hlen]
  refine rd_new hown.1 ?_ (fun r hr=>?_) L.length ?_
  ·
   have hfl:((split s sep).map encStr1).flatten=(split s sep).map dstr:=by
    induction split s sep with
    |nil=>rfl
    |cons x l ih=>simp[encStr1,ih]
   rw[hfl,← hsp]
   refine⟨by simp,fun c hc=>?_,fun j c x hj hc=>?_⟩
   ·
    simp at hc
    obtain⟨b,_,rfl⟩:=hc
    rfl
   ·
    simp only[List.map_map,List.getElem?_map,Option.map_eq_some_iff]at hj hc
    obtain⟨b,hb,rfl⟩:=hj
    obtain⟨b',hb',rfl⟩:=hc
    rw[hb]at hb'
    cases hb'
    exact Rd.v _
  ·
   obtain⟨q,_,rfl⟩:=List.mem_map.1 hr
   rfl
  ·
   rw[List.length_map,← hsp,List.length_map]
theorem ok_join (l:List Str) (sep:Str) (hl:l.length≤1000000) (hj:(joinS sep l).length≤1000000):FnOk Tryz.prog 125 [.d (encStrs l),.d (dstr sep)] (.one (dstr (joinS sep l))):=by
 refine⟨⟨_,Tryz.func125,by kernel_rfl,by kernel_rfl⟩,fun w own vs hown ha=>?_⟩
 match vs,ha with
 | [x,y],⟨h1,h2,_⟩ =>
  obtain rfl:y=str sep:=rd_v h2
  have h1':Rd w own x (.sl 1 (l.map encStr1)):=h1
  generalize hr:l.map encStr1=rows at h1'
  generalize hd:D.sl 1 rows=dd at h1'
  cases h1' with
  |v=>cases hd
  |x=>cases hd
  |agg=>cases hd
  |nil a cap k =>
   cases hd
   have:l=[]:=by simpa using hr
   subst this
   refine(Any.strings_Join_none Tryz.lays156 Tryz.bld156 a cap ⟨sep.toArray⟩ w).mono fun e w' he=>?_
   obtain⟨rfl,rfl⟩:=he
   exact⟨_,rfl,Below.refl _ _,Rd.v _⟩
  |sl ad cap k rows' f hb hs hcap hk hc h3 hrd =>
   cases hd
   have hrl:rows.length=l.length:=by rw[← hr,List.length_map]
   by_cases h0:l=[]
   ·
    subst h0
    rw[show rows.length=0 by rw[hrl];rfl]
    refine(Any.strings_Join_none Tryz.lays156 Tryz.bld156 (some ad) cap ⟨sep.toArray⟩ w).mono fun e w' he=>?_
    obtain⟨rfl,rfl⟩:=he
    exact⟨_,rfl,Below.refl _ _,Rd.v _⟩
   have hcell:∀ (j:Nat) (u:Str),l[j]? = some u→w.cell? (ad.add j)=some (str u):=fun j u hj=>by
    have h4:rows[j]? = some [dstr u]:=by rw[← hr,List.getElem?_map,hj];rfl
    have h5:=hc j 0 _ _ h4 rfl
    rw[Nat.mul_one,Nat.add_zero]at h5
    rw[h5,rd_v (hrd j 0 _ _ h4 rfl)]
   obtain⟨u0,hu0⟩:∃ u,l[0]? = some u:=by
    cases l with
    |nil=>exact absurd rfl h0
    |cons u l=>exact⟨u,rfl⟩
   obtain⟨bk,o,sp⟩:=ad
   have hsp:sp=none:=by
    have h6:=hcell 0 u0 hu0
    rw[add_zero]at h6
    unfold World.cell? at h6
    split at h6
    ·
     cases sp with
     |none=>rfl
     |some q=>simp at h6
    ·
     cases h6
   subst hsp
   rw[hrl]at hcap ⊢
   have hjl:Lib.join ((l.map fun u:Str=>(⟨u.toArray⟩:ByteArray)).map (·.data.toList)) (⟨sep.toArray⟩:ByteArray).data.toList=joinS sep l:=by
    have hml:(l.map fun u:Str=>(⟨u.toArray⟩:ByteArray)).map (·.data.toList)=l:=by rw[List.map_map];exact(List.map_congr_left (fun u _=>rfl)).trans (List.map_id l)
    rw[hml,← join_lib]
   have key:=Any.strings_Join Tryz.lays156 Tryz.bld156 bk o cap (l.map fun u=>⟨u.toArray⟩) ⟨sep.toArray⟩ w (fun j b hj=>by
    rw[List.getElem?_map]at hj
    cases hlj:l[j]? with
    |none=>rw[hlj]at hj;cases hj
    |some u =>
     rw[hlj]at hj
     obtain rfl:(⟨u.toArray⟩:ByteArray)=b:=by simpa using hj
     have:=hcell j u hlj
     rw[add_lit]at this
     exact this) hs (by simp;omega) (by simpa using hcap) (by rw[hjl];omega)
   rw[hjl,List.length_map]at key
   refine key.mono fun e w' he=>?_
   obtain⟨rfl,hb'⟩:=he
   exact⟨_,rfl,hb',Rd.v _⟩
theorem ok_cutp (s p:Str):FnOk Tryz.prog 163 [.d (dstr s),.d (dstr p)] (.tup [dstr (Lib.trimPrefix s p),dbool (Lib.hasPrefix s p)]):=by
 refine⟨⟨_,Tryz.func163,by kernel_rfl,by kernel_rfl⟩,fun w own vs hown ha=>?_⟩
 match vs,ha with
 | [x,y],⟨h1,h2,_⟩ =>
  obtain rfl:x=str s:=rd_v h1
  obtain rfl:y=str p:=rd_v h2
  refine(Any.strings_CutPrefix Tryz.lays103 ⟨s.toArray⟩ ⟨p.toArray⟩ w).mono fun e w' he=>?_
  obtain⟨rfl,rfl⟩:=he
  exact⟨_,rfl,Below.refl _ _,tup2 (Rd.v _) (Rd.v _)⟩
theorem ok_number (s:Str) (hs:s.length≤1073741824):FnOk Tryz.prog 164 [.d (dstr s)] (.tup [dint (atoiV s),dbool (numV s).isSome]):=by
 refine fnOk_of tbl_ok mixed_ok Tryz.func164 rfl (by kernel_rfl) rfl rfl fun w0 own0=>?_
 have c1:=ok_atoiG s hs
 unfold atoiV atoiE at c1
 unfold atoiV numV
 cases hc:Lib.atoiAll s with
 |ok v =>
  rw[hc]at c1
  have hb:=atoi_in hc
  have c2:=ok_itoaG v hb.1 hb.2
  dsimp only at c1 ⊢
  generalize Lib.itoa v=t at c2 ⊢
  by_cases hv:t=s
  ·
   rw[if_pos hv]
   repeat(first|refine wa ?_|((with_reducible apply s5);(first|((with_reducible apply a_noerr);exact rfl;exact Tryz.underlying170;exact rfl)|exact by_oa|exact by_ca);exact by_g)|refine wb ?_)
   exact .two (.tmp rfl (.one (.d (.refl _)))) (.tmp rfl (.one (.d (dle_bool (by simp[hv])))))
  ·
   rw[if_neg hv]
   repeat(first|refine wa ?_|((with_reducible apply s5);(first|((with_reducible apply a_noerr);exact rfl;exact Tryz.underlying170;exact rfl)|exact by_oa|exact by_ca);exact by_g)|refine wb ?_)
   exact .two (.tmp rfl (.one (.d (.refl _)))) (.tmp rfl (.one (.d (dle_bool (by simp[hv])))))
 |range =>
  rw[hc]at c1
  dsimp only at c1 ⊢
  generalize Lib.atoiSat s=q at c1 ⊢
  repeat(first|refine wa ?_|((with_reducible apply s5);(first|((with_reducible apply a_err);exact rfl;exact Tryz.underlying170;exact rfl)|exact by_oa|exact by_ca);exact by_g)|refine wb ?_)
  exact .two (.tmp rfl (.one (.d (.refl _)))) (.tmp rfl (.one (.d (.refl _))))
 |_ =>
  rw[hc]at c1
  dsimp only at c1 ⊢
  repeat(first|refine wa ?_|((with_reducible apply s5);(first|((with_reducible apply a_err);exact rfl;exact Tryz.underlying170;exact rfl)|exact by_oa|exact by_ca);exact by_g)|refine wb ?_)
  exact .two (.tmp rfl (.one (.d (.refl _)))) (.tmp rfl (.one (.d (.refl _))))
theorem ok_twords:FnOk Tryz.prog 126 [] (.one (encStrs words.tail)):=by
 refine fnOk_of tbl_ok mixed_ok Tryz.func126 rfl (by kernel_rfl) rfl rfl fun w0 own0=>?_
 repeat(first|((with_reducible apply s5);((with_reducible apply a_bs (words.tail.map encStr1));(iterate 9 exact rfl);(repeat(first|exact PartsE.nil|(apply PartsE.cons;exact rfl;exact rfl))));exact by_g)|refine wa1 ?_|((with_reducible apply s5);(first|exact by_oa|exact by_ca);exact by_g)|refine wb ?_)
 exact .one (.tmp rfl (.one (.d (.refl _))))
theorem fields_at {k:Nat}(h:k < 9):forms.tail[k]? = some (form (k+1)):=by
 have:∀ k:Fin 9,forms.tail[k.val]? = some (form (k.val+1)):=by decide
 exact this ⟨k,h⟩
theorem ok_fields (k:Nat) (h1:1≤k) (h9:k≤9):FnOk Tryz.prog 127 [.d (dint k)] (.one (dstr (form k))):=by
 refine fnOk_of tbl_ok mixed_ok Tryz.func127 rfl (by kernel_rfl) rfl rfl fun w0 own0=>?_
 obtain⟨j,rfl⟩:∃ j,k=j+1:=⟨k - 1,by omega⟩
 have h:=fields_at (k:=j) (by omega)
 have hx:((j+1:Nat):Int) - 1=(j:Int):=by omega
 repeat(first|((with_reducible apply s5);((with_reducible apply a_bs (forms.tail.map encStr1));(iterate 9 exact rfl);(repeat(first|exact PartsE.nil|(apply PartsE.cons;exact rfl;exact rfl))));exact by_g)|refine wa1 ?_|((with_reducible apply s5);(first|((with_reducible apply a_ia);(iterate 5 exact rfl);rw[hx];exact idx_map h)|exact by_oa|exact by_ca);exact by_g)|refine wb ?_)
 exact .one (.tmp rfl (.one (.d (.refl _))))
set_option maxHeartbeats 16000000
theorem tailS_len {sep w:Str}{l:List Str}(h:w∈l):w.length≤(tailS sep l).length:=by
 induction l with
 |nil=>cases h
 |cons x l ih =>
  simp only[tailS,List.length_append]
  rcases List.mem_cons.1 h with rfl|h
  ·
   omega
  ·
   have:=ih h;omega
theorem joinS_part {sep w:Str}{l:List Str}(h:w∈l):w.length≤(joinS sep l).length:=by
 cases l with
 |nil=>cases h
 |cons x l =>
  rw[joinS_cons]
  simp only[List.length_append]
  rcases List.mem_cons.1 h with rfl|h
  ·
   omega
  ·
   have:=tailS_len (sep:=sep) h;omega
theorem words_tail {K:Nat}(h1:1≤K) (h9:K≤9):words.tail[K - 1]? = some (words.getD K []):=by
 have:∀ k:Fin 9,words.tail[k.val]? = some (words.getD (k.val+1) []):=by decide
 have:=this ⟨K - 1,by omega⟩
 rwa [show K - 1+1=K by omega]at this
theorem take_snoc {α:Type}{l:List α}{n:Nat}{x:α}(h:l[n]? = some x):l.take n++[x]=l.take (n+1):=by
 rw[List.take_add_one,h];rfl
theorem ok_tprint (d:Deed) (hw:wrongDeed d=0) (hd:d.Sm) (hF:(printD d).length≤1000000):FnOk Tryz.prog 94 [.d (.agg d.enc)] (.one (dstr (printD d))):=by
 refine fnOk_of tbl_ok mixed_ok Tryz.func94 rfl (by kernel_rfl) rfl rfl fun w0 own0=>?_
 have hok:=wrongDeed_ok hw
 have hnn:=wrong_n hw
 have hr:=hok.r
 have hwl:=hok.w
 have hcl:=hok.c
 have cj:=fun(l:List Str) (hl:l.length≤1000000) (h:joinS [32] l∈partsD d)=>ok_join l [32] hl (Nat.le_trans (joinS_part (sep:=[59,32]) h) hF)
 have cJ:=ok_join (partsD d) [59,32] (by simp[partsD];omega) hF
 have hpl:(partsD d).length=2+d.code.length:=by simp[partsD];omega
 have hp0:(partsD d)[0]? = some (joinS [32] (wReads::d.reads)):=rfl
 have hp1:(partsD d)[1]? = some (joinS [32] (wWrites::d.writes)):=rfl
 have hp2:∀ z i,d.code[z]? = some i→(partsD d)[2+z]? = some (joinS [32] (insW i)):=fun z i h=>by
  rw[Nat.add_comm]
  simp[partsD,h]
 have cw:=ok_twords
 rw[show printD d=joinS [59,32] (partsD d) from rfl]
 rw[show printD d=joinS [59,32] (partsD d) from rfl]at hF
 generalize hPD:partsD d=PD at *
 have hst0:StopA 2:=⟨rfl⟩
 repeat(first|((with_reducible apply s5);((with_reducible apply a_bs ([d.reads,d.writes].map fun l=>[encStrs l]));(iterate 9 exact rfl);(repeat(first|exact PartsE.nil|(apply PartsE.cons;exact rfl;exact rfl))));exact by_g)|refine wa1S ?_|((with_reducible apply s5);(first|exact by_oa|exact by_ca);exact by_g)|refine wb ?_)
 clear hst0
 refine Stop.go (CW.stut (stut_promote (i:=3) 9 1) ⟨rfl,rfl,trivial⟩ ?_)
 repeat(first|((with_reducible apply s5);((with_reducible apply a_bs ([d.reads,d.writes].map fun l=>[encStrs l]));(iterate 9 exact rfl);(repeat(first|exact PartsE.nil|(apply PartsE.cons;exact rfl;exact rfl))));exact by_g)|refine wa1 ?_|((with_reducible apply s5);(first|exact by_oa|exact by_ca);exact by_g)|refine wb ?_)
 refine CW.loopT (fun t:Nat=>[sp 1 0,ob 0 d.enc,so 3 1 (PD.take t).length,oa 1 9 1 ((PD.take t).map encStr1),sd 15 (.sl 1 ([d.reads,d.writes].map fun l=>[encStrs l])),sd 16 (dint 2),sd 17 (dint t),nxt 2])
  (fun t=>t≤2) (fun t=>2 - t) 0 (by omega) ?_ ?_
 ·
  exact by_less
 ·
  intro t ht
  have hn0:([wReads,wWrites]:List Str)[0]? = some wReads:=rfl
  have hn1:([wReads,wWrites]:List Str)[1]? = some wWrites:=rfl
  have hd0:([d.reads,d.writes]:List (List Str))[0]? = some d.reads:=rfl
  have hd1:([d.reads,d.writes]:List (List Str))[1]? = some d.writes:=rfl
  match t,ht with
  |0,_ =>
   have c1:=cj (wReads::d.reads) (by simp;omega) (List.mem_of_getElem? hp0)
   have hts:=take_snoc hp0
   generalize joinS [32] (wReads::d.reads)=J at c1 hts
   repeat(first|((with_reducible apply s5);((with_reducible apply a_bs (([wReads,wWrites]:List Str).map encStr1));(iterate 9 exact rfl);(repeat(first|exact PartsE.nil|(apply PartsE.cons;exact rfl;exact rfl))));exact by_g)|((with_reducible apply s5);(with_reducible apply(a_bsO [encStr1 wReads]));(iterate 10 exact rfl);(repeat(first|exact PartsE.nil|(apply PartsE.cons;exact rfl;exact rfl)));exact by_g)|refine wa1 ?_|((with_reducible apply s5);(first|((with_reducible apply a_ia);(iterate 5 exact rfl);exact idx_map (k:=0) hd0)|((with_reducible apply a_ia);(iterate 5 exact rfl);exact idx_map (k:=0) hn0)|(focus ((with_reducible apply a_lend);exact c1;exact rfl;exact .plain rfl;(focus first|exact rfl|(simp;done)|(simp;omega));(iterate 2 exact rfl);exact by_sub))|exact by_oa|exact by_ca);exact by_g)|refine wb ?_)
   refine q_loopT 1 (by omega) (by omega) ?_
   rw[← hts]
   exact by_less
  |1,_ =>
   have c1:=cj (wWrites::d.writes) (by simp;omega) (List.mem_of_getElem? hp1)
   have hts:=take_snoc hp1
   have htl:(PD.take 1).length=1:=by rw[List.length_take];omega
   generalize joinS [32] (wWrites::d.writes)=J at c1 hts
   generalize PD.take 1=P1 at *
   repeat(first|((with_reducible apply s5);((with_reducible apply a_bs (([wReads,wWrites]:List Str).map encStr1));(iterate 9 exact rfl);(repeat(first|exact PartsE.nil|(apply PartsE.cons;exact rfl;exact rfl))));exact by_g)|((with_reducible apply s5);(with_reducible apply(a_bsO [encStr1 wWrites]));(iterate 10 exact rfl);(repeat(first|exact PartsE.nil|(apply PartsE.cons;exact rfl;exact rfl)));exact by_g)|refine wa1 ?_|((with_reducible apply s5);(first|((with_reducible apply a_ia);(iterate 5 exact rfl);exact idx_map (k:=1) hd1)|((with_reducible apply a_ia);(iterate 5 exact rfl);exact idx_map (k:=1) hn1)|(focus ((with_reducible apply a_lend);exact c1;exact rfl;exact .plain rfl;(focus first|exact rfl|(simp;done)|(simp;omega));(iterate 2 exact rfl);exact by_sub))|exact by_oa|exact by_ca);exact by_g)|refine wb ?_)
   refine q_loopT 2 (by omega) (by omega) ?_
   rw[← hts]
   exact by_less
  |2,_ =>
   try refine wk ?_
   refine CW.loopT (fun z:Nat=>[sp 1 0,ob 0 d.enc,so 3 1 (PD.take (2+z)).length,oa 1 9 1 ((PD.take (2+z)).map encStr1),sd 35 (encCode d.code),sd 36 (dint d.code.length),sd 37 (dint z),nxt 2])
    (fun z=>z≤d.code.length) (fun z=>d.code.length - z) 0 (by omega) ?_ ?_
   ·
    exact by_less
   ·
    intro z hz
    have htl:(PD.take (2+z)).length=2+z:=by rw[List.length_take];omega
    rcases drop_case hz with ⟨h1,h2⟩|⟨i,h1,h2,h3⟩
    ·
     rw[show PD.take (2+z)=PD by rw[List.take_of_length_le (by omega)]]
     repeat(first|refine wa ?_|((with_reducible apply s5);(first|(focus ((with_reducible apply a_lend);exact cJ;exact rfl;exact .plain rfl;(focus first|exact rfl|(simp;done)|(simp;omega));(iterate 2 exact rfl);exact by_sub))|exact by_oa|exact by_ca);exact by_g)|refine wb ?_)
     exact .one (.tmp rfl (.one (.d (.refl _))))
    ·
     have him:=List.mem_of_getElem? h2
     have hi:=hok.i i him
     have hin:=hnn i him
     have hik:=hi.k
     have hia:=hi.a
     have hib:=hi.b
     have ca:=ok_itoaG i.a (by omega) (by omega)
     have cb:=ok_itoaG i.b (by omega) (by omega)
     have cn:=ok_itoaG i.n (by omega) (by omega)
     have la:=itoa_len i.a (by omega) (by omega)
     have lb:=itoa_len i.b (by omega) (by omega)
     have hp:=hp2 z i h2
     have hts:=take_snoc hp
     have cJ1:=cj (insW i) (by simp[insW];have:=form_len i.kind.toNat;omega) (List.mem_of_getElem? hp)
     generalize joinS [32] (insW i)=J at cJ1 hts hp
     have hk0:0≤i.kind:=by omega
     obtain⟨K,hK⟩:=Int.eq_ofNat_of_zero_le hk0
     unfold insW at cJ1
     have cf:=ok_fields K (by omega) (by omega)
     have hwk:=words_tail (K:=K) (by omega) (by omega)
     have hfl:=form_len K
     have hlet:∀ c∈form K,c=114∨c=115∨c=110∨c=107:=fun c hc=>form_let hc
     rw[hK,Int.toNat_natCast]at cJ1
     generalize words.getD K []=wd at hwk cJ1
     generalize form K=f at *
     obtain⟨ik,ia,ib,inn,ikey⟩:=i
     dsimp only at hK ca cb cn la lb hik
     subst hK
     have hix:idx (words.tail.map encStr1) ((K:Int) - 1)=some (encStr1 wd):=by
      have:=idx_map (f:=encStr1) hwk
      rwa [show((K - 1:Nat):Int)=(K:Int) - 1 by omega]at this
     generalize hPe:PD.take (2+z)=P at *
     repeat(first|((with_reducible apply s5);(with_reducible apply(a_bsO [encStr1 wd]));(iterate 10 exact rfl);(repeat(first|exact PartsE.nil|(apply PartsE.cons;exact rfl;exact rfl)));exact by_g)|refine wa1 ?_|((with_reducible apply s5);(first|((with_reducible apply a_ia);(iterate 5 exact rfl);exact hix)|((with_reducible apply a_range);exact rfl;exact rfl;exact Tryz.underlying9;exact rfl)|exact by_oa|exact by_ca);exact by_g)|refine wb ?_)
     refine CW.loopT (fun j:Nat=>[sp 1 0,ob 0 d.enc,so 3 1 P.length,oa 1 9 1 (P.map encStr1),sd 35 (encCode d.code),sd 36 (dint d.code.length),sd 37 (dint z),sp 7 2,ob 2 (Ins.enc ⟨K,ia,ib,inn,ikey⟩),so 8 3 (wd::(f.take j).map (fieldW ⟨K,ia,ib,inn,ikey⟩)).length,oa 3 9 1 ((wd::(f.take j).map (fieldW ⟨K,ia,ib,inn,ikey⟩)).map encStr1),(.s 51,.av (.h 4)),(.o 4,.ob (.gen (ItP f j))),nxt 5])
      (fun j=>j≤f.length) (fun j=>f.length - j) 0 (by omega) ?_ ?_
     ·
      exact by_less
     ·
      intro j hj
      have hjl:(wd::(f.take j).map (fieldW ⟨K,ia,ib,inn,ikey⟩)).length=j+1:=by simp;omega
      rcases drop_case hj with ⟨b1,b2⟩|⟨c,b1,b2,b3⟩
      ·
       rw[b2,List.take_length]at *
       generalize wd::f.map (fieldW ⟨K,ia,ib,inn,ikey⟩)=L at *
       repeat(first|refine wa ?_|((with_reducible apply s5);(first|(focus ((with_reducible apply a_lend);exact cJ1;exact rfl;exact .plain rfl;(focus first|exact rfl|(simp;done)|(simp;omega));(iterate 2 exact rfl);exact by_sub))|((with_reducible apply(a_nextE (k:=f.length) 4));exact rfl;exact rfl;exact Nat.le_refl _;exact rfl)|exact by_oa|exact by_ca);exact by_g)|refine wb ?_)
       refine q_loopT (z+1) (by omega) (by omega) ?_
       rw[show 2+(z+1)=2+z+1 by omega,← hts]
       exact by_less
      ·
       have hc:=hlet c (List.mem_of_getElem? b2)
       have hc1:c.toNat < 128:=by rcases hc with rfl|rfl|rfl|rfl <;> decide
       have hsn:(wd::(f.take j).map (fieldW ⟨K,ia,ib,inn,ikey⟩))++[fieldW ⟨K,ia,ib,inn,ikey⟩ c]=wd::(f.take (j+1)).map (fieldW ⟨K,ia,ib,inn,ikey⟩):=by
        rw[← take_snoc b2];simp
       have hql:∀ x:Str,x=fieldW ⟨K,ia,ib,inn,ikey⟩ c→((wd::(f.take j).map (fieldW ⟨K,ia,ib,inn,ikey⟩))++[x])=wd::(f.take (j+1)).map (fieldW ⟨K,ia,ib,inn,ikey⟩):=fun x hx=>by rw[hx];exact hsn
       rcases hc with rfl|rfl|rfl|rfl
       ·
        have hq:=hql (114::Lib.itoa ia) rfl
        generalize wd::(f.take j).map (fieldW ⟨K,ia,ib,inn,ikey⟩)=L at *
        repeat(first|refine wa ?_|((with_reducible apply s5);(first|exact a_call ca rfl by_sub|((with_reducible apply a_bin);exact rfl;exact rfl;exact bin_sadd (by simp;omega);exact rfl)|((with_reducible apply(a_next (k:=j) 4));exact rfl;exact rfl;exact b2;exact hc1;exact rfl)|exact by_oa|exact by_ca);exact by_g)|refine wb ?_)
        refine q_loopT (j+1) (by omega) (by omega) ?_
        rw[← hq]
        exact by_less
       ·
        have hq:=hql (114::Lib.itoa ib) rfl
        generalize wd::(f.take j).map (fieldW ⟨K,ia,ib,inn,ikey⟩)=L at *
        repeat(first|refine wa ?_|((with_reducible apply s5);(first|exact a_call cb rfl by_sub|((with_reducible apply a_bin);exact rfl;exact rfl;exact bin_sadd (by simp;omega);exact rfl)|((with_reducible apply(a_next (k:=j) 4));exact rfl;exact rfl;exact b2;exact hc1;exact rfl)|exact by_oa|exact by_ca);exact by_g)|refine wb ?_)
        refine q_loopT (j+1) (by omega) (by omega) ?_
        rw[← hq]
        exact by_less
       ·
        have hq:=hql (Lib.itoa inn) rfl
        generalize wd::(f.take j).map (fieldW ⟨K,ia,ib,inn,ikey⟩)=L at *
        repeat(first|refine wa ?_|((with_reducible apply s5);(first|exact a_call cn rfl by_sub|((with_reducible apply(a_next (k:=j) 4));exact rfl;exact rfl;exact b2;exact hc1;exact rfl)|exact by_oa|exact by_ca);exact by_g)|refine wb ?_)
        refine q_loopT (j+1) (by omega) (by omega) ?_
        rw[← hq]
        exact by_less
       ·
        have hq:=hql ikey rfl
        generalize wd::(f.take j).map (fieldW ⟨K,ia,ib,inn,ikey⟩)=L at *
        repeat(first|refine wa ?_|((with_reducible apply s5);(first|((with_reducible apply(a_next (k:=j) 4));exact rfl;exact rfl;exact b2;exact hc1;exact rfl)|exact by_oa|exact by_ca);exact by_g)|refine wb ?_)
        refine q_loopT (j+1) (by omega) (by omega) ?_
        rw[← hq]
        exact by_less
set_option maxHeartbeats 8000000
theorem mapR {n:Nat}{w0:World}{own0:Nat→Prop}:MapTyK ⟨Tryz.prog,tbl,tbl_ok,mixed_ok,n,w0,own0,0,[]⟩ .i32 156 9 (.string ⟨#[]⟩) :=
 ⟨⟨21,Tryz.underlying156,Tryz.underlying21⟩,fun w=>by exact Tryz.zeroValue9 w⟩
def fieldM (i:Ins):List (Int×Value):=[(114,str (114::Lib.itoa i.a)),(115,str (114::Lib.itoa i.b)),(110,str (Lib.itoa i.n)),(107,str i.key)]
theorem fieldM_at {i:Ins}{c:UInt8}(h:c=114∨c=115∨c=110∨c=107):(∀ p∈fieldM i,p.1=(c.toNat:Int)→p.2=str (fieldW i c)) ∧
  ((fieldM i)[0]? = some ((c.toNat:Int),str (fieldW i c))∨(fieldM i)[1]? = some ((c.toNat:Int),str (fieldW i c))∨(fieldM i)[2]? = some ((c.toNat:Int),str (fieldW i c))∨(fieldM i)[3]? = some ((c.toNat:Int),str (fieldW i c))):=by
 refine⟨fun p hp hk=>?_,?_⟩
 ·
  simp only[fieldM,List.mem_cons,List.not_mem_nil,or_false]at hp
  rcases h with rfl|rfl|rfl|rfl <;> rcases hp with rfl|rfl|rfl|rfl <;> first|rfl|(exact absurd hk (by dsimp only;decide))
 ·
  rcases h with rfl|rfl|rfl|rfl
  ·
   exact .inl rfl
  ·
   exact .inr (.inl rfl)
  ·
   exact .inr (.inr (.inl rfl))
  ·
   exact .inr (.inr (.inr rfl))
theorem words_at {K:Nat}(h:K < 10):words[K]? = some (words.getD K []):=by
 have hl:K < words.length:=h
 rw[List.getD_eq_getElem?_getD,List.getElem?_eq_getElem hl]
 rfl
theorem ok_rprint (d:Deed) (hw:wrongDeed d=0) (hd:d.Sm) (hF:(printD d).length≤1000000):FnOk Tryz.prog 70 [.d (.agg d.enc)] (.one (dstr (printD d))):=by
 refine fnOk_of tbl_ok mixed_ok Tryz.func70 rfl (by kernel_rfl) rfl rfl fun w0 own0=>?_
 have hFe:=printD_eq d
 have hok:=wrongDeed_ok hw
 have hnn:=wrong_n hw
 have hr:=hok.r
 have hwl:=hok.w
 have hcl:=hok.c
 generalize printD d=F at hF hFe ⊢
 have hm:=mapR (n:=Tryz.f70.ntmps) (w0:=w0) (own0:=own0)
 have cw:=ok_words
 try refine wk ?_
 refine CW.loopT (fun t:Nat×Str=>[sp 1 0,ob 0 d.enc,sd 3 (dstr t.2),sd 13 (encStrs d.reads),sd 14 (dint d.reads.length),sd 15 (dint t.1),nxt 1])
  (fun t=>t.1≤d.reads.length∧t.2++(tailS [32] (d.reads.drop t.1)++([59,32]++((wWrites++tailS [32] d.writes)++tailS [59,32] (d.code.map fun i=>joinS [32] (insW i)))))=F) (fun t=>d.reads.length - t.1) (0,wReads) ⟨by dsimp only;omega,by rw[hFe];simp⟩ ?_ ?_
 ·
  exact by_less
 ·
  rintro ⟨x,s⟩ ⟨hx,hI⟩
  dsimp only at hx hI ⊢
  have hlen:=congrArg List.length hI
  rcases drop_case hx with ⟨h1,h2⟩|⟨k,h1,h2,h3⟩
  ·
   rw[h1]at hI
   simp only[tailS,List.nil_append]at hI
   simp only[List.length_append]at hlen
   have hWl:([59,32,119,114,105,116,101,115]:Str)=[59,32]++wWrites:=rfl
   repeat(first|refine wa ?_|((with_reducible apply s5);(first|((with_reducible apply a_bin);exact rfl;exact rfl;exact bin_sadd (by simp;omega);exact rfl)|exact by_oa|exact by_ca);exact by_g)|refine wb ?_)
   refine CW.loopT (fun t:Nat×Str=>[sp 1 0,ob 0 d.enc,sd 3 (dstr t.2),sd 27 (encStrs d.writes),sd 28 (dint d.writes.length),sd 29 (dint t.1),nxt 1])
    (fun t=>t.1≤d.writes.length∧t.2++(tailS [32] (d.writes.drop t.1)++tailS [59,32] (d.code.map fun i=>joinS [32] (insW i)))=F) (fun t=>d.writes.length - t.1) (0,s++[59,32,119,114,105,116,101,115]) ⟨by dsimp only;omega,by rw[hWl,← hI];simp⟩ ?_ ?_
   ·
    exact by_less
   ·
    rintro ⟨y,s⟩ ⟨hy,hI⟩
    dsimp only at hy hI ⊢
    have hlen:=congrArg List.length hI
    rcases drop_case hy with ⟨h1,h2⟩|⟨k,h1,h2,h3⟩
    ·
     rw[h1]at hI
     simp only[tailS,List.nil_append]at hI
     try refine wk ?_
     refine CW.loopT (fun t:Nat×Str=>[sp 1 0,ob 0 d.enc,sd 3 (dstr t.2),sd 39 (encCode d.code),sd 40 (dint d.code.length),sd 41 (dint t.1),nxt 1])
      (fun t=>t.1≤d.code.length∧t.2++tailS [59,32] ((d.code.drop t.1).map fun i=>joinS [32] (insW i))=F) (fun t=>d.code.length - t.1) (0,s) ⟨by dsimp only;omega,hI⟩ ?_ ?_
     ·
      exact by_less
     ·
      rintro ⟨z,s⟩ ⟨hz,hI⟩
      dsimp only at hz hI ⊢
      rcases drop_case hz with ⟨h1,h2⟩|⟨i,h1,h2,h3⟩
      ·
       rw[h1]at hI
       simp only[List.map_nil,tailS,List.append_nil]at hI
       subst hI
       try refine wk ?_
       exact .one (.tmp rfl (.one (.d (.refl _))))
      ·
       have him:=List.mem_of_getElem? h2
       have hi:=hok.i i him
       have hin:=hnn i him
       have hik:=hi.k
       have hia:=hi.a
       have hib:=hi.b
       rw[h1]at hI
       simp only[List.map_cons,tailS]at hI
       rw[insW_eq]at hI
       generalize hT:tailS [59,32] ((d.code.drop (z+1)).map fun i=>joinS [32] (insW i))=T at hI
       have ca:=ok_itoaG i.a (by omega) (by omega)
       have cb:=ok_itoaG i.b (by omega) (by omega)
       have cn:=ok_itoaG i.n (by omega) (by omega)
       have la:=itoa_len i.a (by omega) (by omega)
       have lb:=itoa_len i.b (by omega) (by omega)
       have hfA:=fun(c:UInt8) (h:c=114∨c=115∨c=110∨c=107)=>fieldM_at (i:=i) h
       have hk0:0≤i.kind:=by omega
       obtain⟨K,hK⟩:=Int.eq_ofNat_of_zero_le hk0
       have cf:=ok_form K (by omega)
       have hwk:=words_at (K:=K) (by omega)
       rw[hK,Int.toNat_natCast]at hI
       have hlet:∀ c∈form K,c=114∨c=115∨c=110∨c=107:=fun c hc=>form_let hc
       generalize words.getD K []=wd at hI hwk
       generalize form K=f at hI cf hlet
       have hlen:=congrArg List.length hI
       simp only[List.length_append,List.length_cons,List.length_nil]at hlen
       obtain⟨ik,ia,ib,inn,ikey⟩:=i
       dsimp only at hK ca cb cn la lb
       subst hK
       repeat(first|refine wa ?_|((with_reducible apply s5);(first|((with_reducible apply a_bin);exact rfl;exact rfl;exact bin_sadd (by simp;omega);exact rfl)|((with_reducible apply a_range);exact rfl;exact rfl;exact Tryz.underlying9;exact rfl)|exact by_oa|exact by_ca);exact by_g)|refine wb ?_)
       refine CW.loopT (fun t:Nat×Str=>[sp 1 0,ob 0 d.enc,sd 3 (dstr t.2),sd 39 (encCode d.code),sd 40 (dint d.code.length),sd 41 (dint z),sp 9 1,ob 1 (Ins.enc ⟨K,ia,ib,inn,ikey⟩),(.s 56,.av (.h 2)),(.o 2,.ob (.gen (ItP f t.1))),nxt 3])
        (fun t=>t.1≤f.length∧t.2++(tailS [32] ((f.drop t.1).map (fieldW ⟨K,ia,ib,inn,ikey⟩))++T)=F) (fun t=>f.length - t.1) (0,(s++[59,32])++wd) ⟨by dsimp only;omega,by rw[← hI];simp⟩ ?_ ?_
       ·
        exact by_less
       ·
        rintro ⟨j,s⟩ ⟨hj,hI⟩
        dsimp only at hj hI ⊢
        rcases drop_case hj with ⟨b1,b2⟩|⟨c,b1,b2,b3⟩
        ·
         rw[b1]at hI
         simp only[List.map_nil,tailS,List.nil_append]at hI
         repeat(first|refine wa ?_|((with_reducible apply s5);(first|((with_reducible apply(a_nextE (k:=j) 2));exact rfl;exact rfl;exact Nat.le_of_eq b2.symm;exact rfl)|exact by_oa|exact by_ca);exact by_g)|refine wb ?_)
         refine q_loopT (z+1,s) ⟨by dsimp only;omega,by dsimp only;rw[hT];exact hI⟩ (by dsimp only;omega) ?_
         exact by_less
        ·
         have hc:=hlet c (List.mem_of_getElem? b2)
         have hc1:c.toNat < 128:=by rcases hc with rfl|rfl|rfl|rfl <;> decide
         rw[b1]at hI
         simp only[List.map_cons,tailS]at hI
         have hlen:=congrArg List.length hI
         simp only[List.length_append,List.length_cons,List.length_nil]at hlen
         obtain⟨hun,hat⟩:=hfA c hc
         generalize fieldW ⟨K,ia,ib,inn,ikey⟩ c=fw at hI hlen hun hat
         have hst0:StopX 20:=⟨rfl⟩
         repeat(first|refine waS ?_|((with_reducible apply s5);(first|((with_reducible apply a_bin);exact rfl;exact rfl;exact bin_sadd (by simp;omega);exact rfl)|((with_reducible apply(a_next (k:=j) 2));exact rfl;exact rfl;exact b2;exact hc1;exact rfl)|exact by_oa|exact by_ca);exact by_g)|refine wb ?_)
         clear hst0
         refine Stop.go (CW.stut (stut_tok 7) ⟨rfl,trivial⟩ ?_)
         refine CW.stut (stut_tok 7) ⟨rfl,trivial⟩ ?_
         refine CW.stut (stut_tok 7) ⟨rfl,trivial⟩ ?_
         refine CW.stut (stut_tok 7) ⟨rfl,trivial⟩ ?_
         rcases hat with hat|hat|hat|hat
         ·
          repeat(first|refine wa ?_|((with_reducible apply s5);(first|exact a_call ca rfl by_sub|exact a_call cb rfl by_sub|exact a_call cn rfl by_sub|((with_reducible apply a_bin);exact rfl;exact rfl;exact bin_sadd (by simp;omega);exact rfl)|((with_reducible apply(a_mklit .i32 (fieldM ⟨K,ia,ib,inn,ikey⟩) [3,4,5,6]));exact rfl;exact rfl;(intro q hq;simp only[List.mem_cons,List.not_mem_nil,or_false]at hq;rcases hq with rfl|rfl|rfl|rfl <;> rfl))|((with_reducible apply(a_inslit 7 0 3 hm));(iterate 3 exact rfl);exact .v;(iterate 4 exact rfl);decide)|((with_reducible apply(a_inslit 7 1 4 hm));(iterate 3 exact rfl);exact .v;(iterate 4 exact rfl);decide)|((with_reducible apply(a_inslit 7 2 5 hm));(iterate 3 exact rfl);exact .v;(iterate 4 exact rfl);decide)|((with_reducible apply(a_inslit 7 3 6 hm));(iterate 3 exact rfl);exact .v;(iterate 4 exact rfl);decide)|((with_reducible apply(a_looklit (us:=str fw) 7 0 3 hm));exact trivial;exact hun;(iterate 5 exact rfl);exact hat;exact rfl)|exact by_oa|exact by_ca);exact by_g)|refine wb ?_)
          refine q_loopT (j+1,(s++[32])++fw) ⟨by dsimp only;omega,by dsimp only;rw[← hI];simp⟩ (by dsimp only;omega) ?_
          exact by_less
         ·
          repeat(first|refine wa ?_|((with_reducible apply s5);(first|exact a_call ca rfl by_sub|exact a_call cb rfl by_sub|exact a_call cn rfl by_sub|((with_reducible apply a_bin);exact rfl;exact rfl;exact bin_sadd (by simp;omega);exact rfl)|((with_reducible apply(a_mklit .i32 (fieldM ⟨K,ia,ib,inn,ikey⟩) [3,4,5,6]));exact rfl;exact rfl;(intro q hq;simp only[List.mem_cons,List.not_mem_nil,or_false]at hq;rcases hq with rfl|rfl|rfl|rfl <;> rfl))|((with_reducible apply(a_inslit 7 0 3 hm));(iterate 3 exact rfl);exact .v;(iterate 4 exact rfl);decide)|((with_reducible apply(a_inslit 7 1 4 hm));(iterate 3 exact rfl);exact .v;(iterate 4 exact rfl);decide)|((with_reducible apply(a_inslit 7 2 5 hm));(iterate 3 exact rfl);exact .v;(iterate 4 exact rfl);decide)|((with_reducible apply(a_inslit 7 3 6 hm));(iterate 3 exact rfl);exact .v;(iterate 4 exact rfl);decide)|((with_reducible apply(a_looklit (us:=str fw) 7 1 4 hm));exact trivial;exact hun;(iterate 5 exact rfl);exact hat;exact rfl)|exact by_oa|exact by_ca);exact by_g)|refine wb ?_)
          refine q_loopT (j+1,(s++[32])++fw) ⟨by dsimp only;omega,by dsimp only;rw[← hI];simp⟩ (by dsimp only;omega) ?_
          exact by_less
         ·
          repeat(first|refine wa ?_|((with_reducible apply s5);(first|exact a_call ca rfl by_sub|exact a_call cb rfl by_sub|exact a_call cn rfl by_sub|((with_reducible apply a_bin);exact rfl;exact rfl;exact bin_sadd (by simp;omega);exact rfl)|((with_reducible apply(a_mklit .i32 (fieldM ⟨K,ia,ib,inn,ikey⟩) [3,4,5,6]));exact rfl;exact rfl;(intro q hq;simp only[List.mem_cons,List.not_mem_nil,or_false]at hq;rcases hq with rfl|rfl|rfl|rfl <;> rfl))|((with_reducible apply(a_inslit 7 0 3 hm));(iterate 3 exact rfl);exact .v;(iterate 4 exact rfl);decide)|((with_reducible apply(a_inslit 7 1 4 hm));(iterate 3 exact rfl);exact .v;(iterate 4 exact rfl);decide)|((with_reducible apply(a_inslit 7 2 5 hm));(iterate 3 exact rfl);exact .v;(iterate 4 exact rfl);decide)|((with_reducible apply(a_inslit 7 3 6 hm));(iterate 3 exact rfl);exact .v;(iterate 4 exact rfl);decide)|((with_reducible apply(a_looklit (us:=str fw) 7 2 5 hm));exact trivial;exact hun;(iterate 5 exact rfl);exact hat;exact rfl)|exact by_oa|exact by_ca);exact by_g)|refine wb ?_)
          refine q_loopT (j+1,(s++[32])++fw) ⟨by dsimp only;omega,by dsimp only;rw[← hI];simp⟩ (by dsimp only;omega) ?_
          exact by_less
         ·
          repeat(first|refine wa ?_|((with_reducible apply s5);(first|exact a_call ca rfl by_sub|exact a_call cb rfl by_sub|exact a_call cn rfl by_sub|((with_reducible apply a_bin);exact rfl;exact rfl;exact bin_sadd (by simp;omega);exact rfl)|((with_reducible apply(a_mklit .i32 (fieldM ⟨K,ia,ib,inn,ikey⟩) [3,4,5,6]));exact rfl;exact rfl;(intro q hq;simp only[List.mem_cons,List.not_mem_nil,or_false]at hq;rcases hq with rfl|rfl|rfl|rfl <;> rfl))|((with_reducible apply(a_inslit 7 0 3 hm));(iterate 3 exact rfl);exact .v;(iterate 4 exact rfl);decide)|((with_reducible apply(a_inslit 7 1 4 hm));(iterate 3 exact rfl);exact .v;(iterate 4 exact rfl);decide)|((with_reducible apply(a_inslit 7 2 5 hm));(iterate 3 exact rfl);exact .v;(iterate 4 exact rfl);decide)|((with_reducible apply(a_inslit 7 3 6 hm));(iterate 3 exact rfl);exact .v;(iterate 4 exact rfl);decide)|((with_reducible apply(a_looklit (us:=str fw) 7 3 6 hm));exact trivial;exact hun;(iterate 5 exact rfl);exact hat;exact rfl)|exact by_oa|exact by_ca);exact by_g)|refine wb ?_)
          refine q_loopT (j+1,(s++[32])++fw) ⟨by dsimp only;omega,by dsimp only;rw[← hI];simp⟩ (by dsimp only;omega) ?_
          exact by_less
    ·
     rw[h1]at hI
     simp only[tailS]at hI
     simp only[List.length_append]at hlen
     have hlen:=congrArg List.length hI
     simp only[List.length_append,List.length_cons,List.length_nil]at hlen
     repeat(first|refine wa ?_|((with_reducible apply s5);(first|((with_reducible apply a_bin);exact rfl;exact rfl;exact bin_sadd (by simp;omega);exact rfl)|exact by_oa|exact by_ca);exact by_g)|refine wb ?_)
     refine q_loopT (y+1,(s++[32])++k) ⟨by dsimp only;omega,by dsimp only;rw[← hI];simp⟩ (by dsimp only;omega) ?_
     exact by_less
  ·
   rw[h1]at hI
   simp only[tailS]at hI
   have hlen:=congrArg List.length hI
   simp only[List.length_append,List.length_cons,List.length_nil]at hlen
   repeat(first|refine wa ?_|((with_reducible apply s5);(first|((with_reducible apply a_bin);exact rfl;exact rfl;exact bin_sadd (by simp;omega);exact rfl)|exact by_oa|exact by_ca);exact by_g)|refine wb ?_)
   refine q_loopT (x+1,(s++[32])++k) ⟨by dsimp only;omega,by dsimp only;rw[← hI];simp⟩ (by dsimp only;omega) ?_
   exact by_less
end Go.Proofs.YtccblhpfjlgmbaaGreatDoor
namespace Go.Proofs.YtccblhpfjlgmbaaGreatDoor
open Go.AX Go.RF
set_option maxRecDepth 100000
set_option maxHeartbeats 8000000
theorem ok_lsum (b:Str) (hl:b.length≤1000000000):FnOk Tryz.prog 95 [.d (encBytes b)] (.one (dint (sumN 1 b))):=by
 refine fnOk_of tbl_ok mixed_ok Tryz.func95 rfl (by kernel_rfl) rfl rfl fun w0 own0=>?_
 try refine wk ?_
 refine CW.loopT (fun t:Nat×Nat=>[sd 3 (dint t.2),sd 6 (encBytes b),sd 7 (dint b.length),sd 8 (dint t.1),nxt 0])
  (fun t=>t.1≤b.length∧t.2 < 65521∧sumN t.2 (b.drop t.1)=sumN 1 b) (fun t=>b.length - t.1) (0,1) ⟨by dsimp only;omega,by dsimp only;omega,rfl⟩ ?_ ?_
 ·
  exact by_less
 ·
  rintro ⟨i,s⟩ ⟨hi,hs,hI⟩
  dsimp only at hi hs hI ⊢
  rcases drop_case hi with ⟨h1,h2⟩|⟨c,h1,h2,h3⟩
  ·
   rw[h1,sumN]at hI
   subst hI
   try refine wk ?_
   exact .one (.tmp rfl (.one (.d (.refl _))))
  ·
   rw[h1,sumN]at hI
   have hc:=c.toNat_lt
   have hb:=tmod_sum (s:=s) (c:=c.toNat)
   have hs2:(s*257+c.toNat+1)%65521 < 65521:=Nat.mod_lt _ (by omega)
   generalize (s*257+c.toNat+1)%65521=s2 at *
   repeat(first|refine wa ?_|((with_reducible apply s5);(first|((with_reducible apply a_bin);exact rfl;exact rfl;(with_reducible apply bin_mul);omega;exact rfl)|((with_reducible apply a_bin);exact rfl;exact rfl;(with_reducible apply bin_remI);(exact by decide);exact hb;exact rfl)|exact by_oa|exact by_ca);exact by_g)|refine wb ?_)
   refine q_loopT (i+1,s2) ⟨by dsimp only;omega,hs2,hI⟩ (by dsimp only;omega) ?_
   exact by_less
theorem ok_rsum (b:Str) (hl:b.length≤1000000000):FnOk Tryz.prog 71 [.d (encBytes b)] (.one (dint (sumN 1 b))):=by
 refine fnOk_of tbl_ok mixed_ok Tryz.func71 rfl (by kernel_rfl) rfl rfl fun w0 own0=>?_
 try refine wk ?_
 refine CW.loopT (fun t:Nat×Nat=>[sd 3 (dint t.2),sd 6 (encBytes b),sd 7 (dint b.length),sd 8 (dint t.1),nxt 0])
  (fun t=>t.1≤b.length∧t.2 < 65521∧sumN t.2 (b.drop t.1)=sumN 1 b) (fun t=>b.length - t.1) (0,1) ⟨by dsimp only;omega,by dsimp only;omega,rfl⟩ ?_ ?_
 ·
  exact by_less
 ·
  rintro ⟨i,s⟩ ⟨hi,hs,hI⟩
  dsimp only at hi hs hI ⊢
  rcases drop_case hi with ⟨h1,h2⟩|⟨c,h1,h2,h3⟩
  ·
   rw[h1,sumN]at hI
   subst hI
   try refine wk ?_
   exact .one (.tmp rfl (.one (.d (.refl _))))
  ·
   rw[h1,sumN]at hI
   have hc:=c.toNat_lt
   have hb:=tmod_sum' (s:=s) (c:=c.toNat)
   have hs2:(s*257+c.toNat+1)%65521 < 65521:=Nat.mod_lt _ (by omega)
   generalize (s*257+c.toNat+1)%65521=s2 at *
   repeat(first|refine wa ?_|((with_reducible apply s5);(first|((with_reducible apply a_bin);exact rfl;exact rfl;(with_reducible apply bin_mul);omega;exact rfl)|((with_reducible apply a_bin);exact rfl;exact rfl;(with_reducible apply bin_remI);(exact by decide);exact hb;exact rfl)|exact by_oa|exact by_ca);exact by_g)|refine wb ?_)
   refine q_loopT (i+1,s2) ⟨by dsimp only;omega,hs2,hI⟩ (by dsimp only;omega) ?_
   exact by_less
theorem ok_lwrong (e:Entry) (hd:∀ d∈e.deeds,d.Sm) (hl:e.deeds.length≤1000000000):FnOk Tryz.prog 62 [.d (.agg e.enc)] (.one (dint (wrongEntry e))):=by
 refine fnOk_of tbl_ok mixed_ok Tryz.func62 rfl (by kernel_rfl) rfl rfl fun w0 own0=>?_
 unfold wrongEntry
 by_cases h0:e.number < 0
 ·
  rw[if_pos (.inl h0)]
  try refine wk ?_
  exact .one (.tmp rfl (.one (.d (.refl _))))
 by_cases h1:11 < e.number
 ·
  rw[if_pos (.inr h1)]
  try refine wk ?_
  exact .one (.tmp rfl (.one (.d (.refl _))))
 rw[if_neg (by omega)]
 by_cases h2:6 < e.deeds.length
 ·
  rw[if_pos h2]
  try refine wk ?_
  exact .one (.tmp rfl (.one (.d (.refl _))))
 rw[if_neg h2]
 try refine wk ?_
 refine CW.loopT (fun t:Nat=>[sp 1 0,ob 0 e.enc,sd 19 (encDeeds e.deeds),sd 20 (dint e.deeds.length),sd 21 (dint t),nxt 1])
  (fun t=>t≤e.deeds.length∧wrongs (e.deeds.drop t)=wrongs e.deeds) (fun t=>e.deeds.length - t) 0 ⟨by omega,rfl⟩ ?_ ?_
 ·
  exact by_less
 ·
  rintro i ⟨hi,hI⟩
  rcases drop_case hi with ⟨h3,h4⟩|⟨d,h3,h4,h5⟩
  ·
   rw[h3,wrongs]at hI
   try refine wk ?_
   exact .one (.tmp rfl (.one (.d (dle_int hI))))
  ·
   rw[h3]at hI
   simp only[wrongs]at hI
   have hds:=hd d (List.mem_of_getElem? h4)
   have hc:=ok_pwrongDeed d hds
   by_cases h6:wrongDeed d=0
   ·
    rw[if_pos h6]at hI
    have hp:=printD_len h6
    have hc2:=ok_tprint d h6 hds (by omega)
    rw[h6]at hc
    try refine wk ?_
    refine q_loopT (i+1) ⟨by omega,hI⟩ (by omega) ?_
    exact by_less
   ·
    rw[if_neg h6]at hI
    try refine wk ?_
    exact .one (.tmp rfl (.one (.d (dle_int hI))))
theorem linesD_take {l:List Deed}{j:Nat}{d:Deed}(h:l[j]? = some d):linesD (l.take (j+1))=linesD (l.take j)++(printD d++[10]):=by
 unfold linesD
 rw[List.take_add_one,h]
 simp
theorem linesD_len {l:List Deed}(hw:∀ d∈l,wrongDeed d=0) (hl:l.length≤6) (j:Nat):(linesD (l.take j)).length≤2406:=by
 have:∀ m:List Deed,(∀ d∈m,wrongDeed d=0)→(linesD m).length≤401*m.length:=by
  intro m
  induction m with
  |nil=>intro _;simp[linesD]
  |cons d m ih =>
   intro h
   have h1:=printD_len (h d (List.mem_cons_self ..))
   have h2:=ih fun x hx=>h x (List.mem_cons_of_mem _ hx)
   have h3:linesD (d::m)=printD d++[10]++linesD m:=by simp[linesD]
   rw[h3,List.length_append,List.length_append,List.length_cons,List.length_cons,List.length_nil]
   omega
 have h3:=this (l.take j) fun d hd=>hw d (List.mem_of_mem_take hd)
 have h4:(l.take j).length≤6:=by rw[List.length_take];omega
 omega
theorem bytes_len {e:Entry}(he:wrongEntry e=0):(bytesE e).length≤2409:=by
 obtain⟨_,h3,_,h4⟩:=wrongEntry_out he
 have hlen:=linesD_len h4 h3 e.deeds.length
 rw[List.take_length]at hlen
 have:bytesE e=UInt8.ofNat e.number.toNat::linesD e.deeds++sum2 (sumN 1 (headE e)):=rfl
 rw[this]
 simp[sum2]
 omega
theorem ok_lbytes (e:Entry) (he:wrongEntry e=0):FnOk Tryz.prog 63 [.d (.agg e.enc)] (.one (encBytes (bytesE e))):=by
 obtain⟨⟨h1,h2⟩,h3,_,h4⟩:=wrongEntry_out he
 have hB:bytesE e=headE e++sum2 (sumN 1 (headE e)):=rfl
 have hH:headE e=UInt8.ofNat e.number.toNat::linesD e.deeds:=rfl
 have hlen:=linesD_len h4 h3 e.deeds.length
 rw[List.take_length]at hlen
 have hs:=sumN_lt (l:=headE e) (s:=1) (by omega)
 have c1:=ok_lsum (headE e) (by rw[hH];simp;omega)
 rw[hB]
 have hr0':[[D.v (.int .u8 e.number)]]=[UInt8.ofNat e.number.toNat].map byteD:=by
  have:=byte_row (s:=e.number.toNat) (by omega)
  rw[show((e.number.toNat:Nat):Int)=e.number by omega]at this
  rw[this];rfl
 generalize sumN 1 (headE e)=S at *
 generalize UInt8.ofNat e.number.toNat=c0 at *
 rw[hH]at c1 ⊢
 refine fnOk_of tbl_ok mixed_ok Tryz.func63 rfl (by kernel_rfl) rfl rfl fun w0 own0=>?_
 have hr0:[[D.v (.int .u8 e.number)]]=(c0::linesD (e.deeds.take 0)).map byteD:=by
  rw[hr0'];simp[linesD]
 repeat(first|((with_reducible apply s5);(with_reducible apply(a_bsO [[D.v (.int .u8 e.number)]]));(iterate 10 exact rfl);(repeat(first|exact PartsE.nil|(apply PartsE.cons;exact rfl;exact rfl)));exact by_g)|refine wa1 ?_|((with_reducible apply s5);(first|((with_reducible apply a_conv);(iterate 6 exact rfl);(apply wrap_u8_in;omega))|exact by_oa|exact by_ca);exact by_g)|refine wb ?_)
 refine CW.loopT (fun j:Nat=>[sp 1 0,ob 0 e.enc,so 3 1 ((linesD (e.deeds.take j)).length+1),oa 1 5 1 ((c0::linesD (e.deeds.take j)).map byteD),sd 12 (encDeeds e.deeds),sd 13 (dint e.deeds.length),sd 14 (dint j),nxt 2]) (fun j=>j≤e.deeds.length) (fun j=>e.deeds.length - j) 0 (by omega) ?_ ?_
 ·
  exact by_less
 ·
  rintro j hj
  rcases drop_case hj with ⟨g1,g2⟩|⟨d,g1,g2,g3⟩
  ·
   subst g2
   rw[List.take_length]
   have hr1:[[D.v (.int .u8 ((S / 256:Nat):Int))],[.v (.int .u8 ((S%256:Nat):Int))]]=(sum2 S).map byteD:=by
    unfold sum2
    rw[byte_row (show S / 256 < 256 by omega),byte_row (show S%256 < 256 by omega)];rfl
   repeat(first|((with_reducible apply s5);((with_reducible apply a_bs [[D.v (.int .u8 ((S / 256:Nat):Int))],[.v (.int .u8 ((S%256:Nat):Int))]]);(iterate 9 exact rfl);(repeat(first|exact PartsE.nil|(apply PartsE.cons;exact rfl;exact rfl))));exact by_g)|refine wa1 ?_|((with_reducible apply s5);(first|(focus ((with_reducible apply a_lend);exact c1;exact rfl;exact .plain rfl;(focus first|exact rfl|(simp;done)|(simp;omega));(iterate 2 exact rfl);exact by_sub))|((with_reducible apply a_bin);exact rfl;exact rfl;(with_reducible apply bin_shrJ);exact rfl;exact div_256;exact rfl)|((with_reducible apply a_conv);(iterate 6 exact rfl);(apply wrap_u8_in;omega))|((with_reducible apply a_convW);(iterate 6 exact rfl);exact wrap_u8_n)|exact by_oa|exact by_ca);exact by_g)|refine wb ?_)
   rw[hr1]
   exact .one (.tmp rfl (.one (.own rfl (by simp;omega) (dle_eq (by simp[encBytes])))))
  ·
   have hds:=wrong_sm (h4 d (List.mem_of_getElem? g2))
   have hp:=printD_len (h4 d (List.mem_of_getElem? g2))
   have c2:=ok_tprint d (h4 d (List.mem_of_getElem? g2)) hds (by omega)
   have hlj:=linesD_len h4 h3 j
   have hstep:((c0::linesD (e.deeds.take j)).map byteD++(printD d).map byteD)++[[D.v (.int .u8 10)]]=(c0::linesD (e.deeds.take (j+1))).map byteD:=by
    rw[linesD_take g2]
    simp[byteD]
   have hlen2:(linesD (e.deeds.take (j+1))).length=(linesD (e.deeds.take j)).length+(printD d).length+1:=by
    rw[linesD_take g2];simp;omega
   repeat(first|((with_reducible apply s5);((with_reducible apply a_bs [[D.v (.int .u8 10)]]);(iterate 9 exact rfl);(repeat(first|exact PartsE.nil|(apply PartsE.cons;exact rfl;exact rfl))));exact by_g)|refine wa1 ?_|((with_reducible apply s5);(first|(focus (with_reducible apply a_appstr);exact rfl;exact rfl;exact rfl;exact rfl;exact rfl;exact rfl;exact Tryz.zeroValue5;exact rfl;exact rfl;exact rfl;exact rfl;exact rfl;(all_goals first|(simp;done)|(simp;omega)))|exact by_oa|exact by_ca);exact by_g)|refine wb ?_)
   refine q_loopT (j+1) (by omega) (by omega) ?_
   exact by_less
theorem ok_rbytes (e:Entry) (he:wrongEntry e=0):FnOk Tryz.prog 43 [.d (.agg e.enc)] (.one (encBytes (bytesE e))):=by
 obtain⟨⟨h1,h2⟩,h3,_,h4⟩:=wrongEntry_out he
 have hB:bytesE e=headE e++sum2 (sumN 1 (headE e)):=rfl
 have hH:headE e=UInt8.ofNat e.number.toNat::linesD e.deeds:=rfl
 have hlen:=linesD_len h4 h3 e.deeds.length
 rw[List.take_length]at hlen
 have hs:=sumN_lt (l:=headE e) (s:=1) (by omega)
 have c1:=ok_rsum (headE e) (by rw[hH];simp;omega)
 rw[hB]
 have hr0':[[D.v (.int .u8 e.number)]]=[UInt8.ofNat e.number.toNat].map byteD:=by
  have:=byte_row (s:=e.number.toNat) (by omega)
  rw[show((e.number.toNat:Nat):Int)=e.number by omega]at this
  rw[this];rfl
 generalize sumN 1 (headE e)=S at *
 generalize UInt8.ofNat e.number.toNat=c0 at *
 rw[hH]at c1 ⊢
 refine fnOk_of tbl_ok mixed_ok Tryz.func43 rfl (by kernel_rfl) rfl rfl fun w0 own0=>?_
 have hr0:[[D.v (.int .u8 e.number)]]=[c0].map byteD:=by
  exact hr0'
 have hl0:c0::linesD (e.deeds.take 0)=[c0]:=rfl
 repeat(first|((with_reducible apply s5);((with_reducible apply a_bs [[D.v (.int .u8 e.number)]]);(iterate 9 exact rfl);(repeat(first|exact PartsE.nil|(apply PartsE.cons;exact rfl;exact rfl))));exact by_g)|refine wa1 ?_|((with_reducible apply s5);(first|((with_reducible apply a_conv);(iterate 6 exact rfl);(apply wrap_u8_in;omega))|(focus (with_reducible apply(a_b2s (s:=[c0])));exact congrArg (fun r=>some (AV.d (D.sl 1 r))) hr0;(iterate 7 exact rfl))|exact by_oa|exact by_ca);exact by_g)|refine wb ?_)
 refine CW.loopT (fun j:Nat=>[sp 1 0,ob 0 e.enc,sd 3 (dstr (c0::linesD (e.deeds.take j))),sd 13 (encDeeds e.deeds),sd 14 (dint e.deeds.length),sd 15 (dint j),nxt 1]) (fun j=>j≤e.deeds.length) (fun j=>e.deeds.length - j) 0 (by omega) ?_ ?_
 ·
  exact by_less
 ·
  rintro j hj
  rcases drop_case hj with ⟨g1,g2⟩|⟨d,g1,g2,g3⟩
  ·
   subst g2
   rw[List.take_length]
   have hr1:[[D.v (.int .u8 ((S / 256:Nat):Int))],[.v (.int .u8 ((S%256:Nat):Int))]]=(sum2 S).map byteD:=by
    unfold sum2
    rw[byte_row (show S / 256 < 256 by omega),byte_row (show S%256 < 256 by omega)];rfl
   have hlS:(c0::linesD e.deeds).length+(sum2 S).length≤1073741824:=by simp[sum2];omega
   have hst0:StopA 8:=⟨rfl⟩
   repeat(first|((with_reducible apply s5);((with_reducible apply a_bs [[D.v (.int .u8 ((S / 256:Nat):Int))],[.v (.int .u8 ((S%256:Nat):Int))]]);(iterate 9 exact rfl);(repeat(first|exact PartsE.nil|(apply PartsE.cons;exact rfl;exact rfl))));exact by_g)|refine wa1S ?_|((with_reducible apply s5);(first|((with_reducible apply a_bin);exact rfl;exact rfl;(with_reducible apply bin_quoI);(exact by decide);exact tdiv_256;(exact by omega);exact rfl)|((with_reducible apply a_bin);exact rfl;exact rfl;(with_reducible apply bin_remI);(exact by decide);exact tmod_256;exact rfl)|((with_reducible apply a_conv);(iterate 6 exact rfl);apply wrap_u8_in;omega)|(focus (with_reducible apply(a_appb (r:=sum2 S)));exact rfl;exact rfl;exact congrArg (fun r=>some (AV.d (D.sl 1 r))) hr1;(iterate 6 exact rfl);exact Nat.zero_lt_succ _;exact hlS)|((with_reducible apply a_s2b);(iterate 8 exact rfl))|exact by_oa|exact by_ca);exact by_g)|refine wb ?_)
   clear hst0
   refine Stop.go ?_
   repeat(first|((with_reducible apply s5);((with_reducible apply a_bs [[D.v (.int .u8 ((S / 256:Nat):Int))],[.v (.int .u8 ((S%256:Nat):Int))]]);(iterate 9 exact rfl);(repeat(first|exact PartsE.nil|(apply PartsE.cons;exact rfl;exact rfl))));exact by_g)|refine wa1 ?_|((with_reducible apply s5);(first|((with_reducible apply a_bin);exact rfl;exact rfl;(with_reducible apply bin_quoI);(exact by decide);exact tdiv_256;(exact by omega);exact rfl)|((with_reducible apply a_bin);exact rfl;exact rfl;(with_reducible apply bin_remI);(exact by decide);exact tmod_256;exact rfl)|((with_reducible apply a_conv);(iterate 6 exact rfl);apply wrap_u8_in;omega)|(focus (with_reducible apply(a_appb (r:=sum2 S)));exact rfl;exact rfl;exact congrArg (fun r=>some (AV.d (D.sl 1 r))) hr1;(iterate 6 exact rfl);exact Nat.zero_lt_succ _;exact hlS)|((with_reducible apply a_s2bO);(iterate 9 exact rfl))|exact by_oa|exact by_ca);exact by_g)|refine wb ?_)
   exact .one (.tmp rfl (.one (.d (dle_eq (by simp[encBytes])))))
  ·
   have hds:=wrong_sm (h4 d (List.mem_of_getElem? g2))
   have hp:=printD_len (h4 d (List.mem_of_getElem? g2))
   have c2:=ok_rprint d (h4 d (List.mem_of_getElem? g2)) hds (by omega)
   have hlj:=linesD_len h4 h3 j
   have hstep:(c0::linesD (e.deeds.take j))++printD d++[10]=c0::linesD (e.deeds.take (j+1)):=by
    rw[linesD_take g2]
    simp
   repeat(first|refine wa ?_|((with_reducible apply s5);(first|(focus (with_reducible apply a_bin);exact rfl;exact rfl;(with_reducible apply bin_sadd);(all_goals first|exact rfl|(simp;omega)))|(focus (with_reducible apply a_bin);exact rfl;exact rfl;refine(bin_sadd (b:=[10]) ?_);(all_goals first|exact rfl|(simp;omega)))|exact by_oa|exact by_ca);exact by_g)|refine wb ?_)
   refine q_loopT (j+1) (by omega) (by omega) ?_
   rw[← hstep]
   exact by_less
end Go.Proofs.YtccblhpfjlgmbaaGreatDoor
namespace Go.Proofs.YtccblhpfjlgmbaaGreatDoor
open Go.AX Go.RF Go.RowKit
set_option maxRecDepth 100000
set_option maxHeartbeats 4000000
theorem numV_ok {s:Str}{v:Int}(h:numV s=some v):Lib.atoiAll s = .ok v∧Lib.itoa v=s:=by
 unfold numV at h
 split at h
 ·
  next x hx =>
  split at h
  ·
   next hy=>cases h;exact⟨hx,hy⟩
  ·
   cases h
 ·
  cases h
theorem ok_atoi (s:Str) (v:Int) (hs:s.length≤1073741824) (h:Lib.atoiAll s = .ok v):FnOk Tryz.prog 122 [.d (dstr s)] (.tup [dint v,.v .nilIface]):=by
 refine⟨⟨_,Tryz.func122,by kernel_rfl,by kernel_rfl⟩,fun w own vs hown ha=>?_⟩
 match vs,ha with
 | [x],⟨h1,_⟩ =>
  obtain rfl:x=str s:=rd_v h1
  refine(Any.strconv_Atoi_ok Tryz.laysC172 ⟨s.toArray⟩ (by show s.toArray.size≤_;simp;omega) v (by simpa using h) w).mono fun e w' he=>?_
  obtain⟨rfl,hw⟩:=he
  refine⟨_,rfl,?_,_,rfl,rfl,fun j c x hj hc=>?_⟩
  ·
   rcases hw with rfl|⟨t,rfl⟩
   ·
    exact Below.refl _ _
   ·
    exact Lib.bytesWorld_below _ _ _
  ·
   match j,hj,hc with
   |0,hj,hc=>simp at hj hc;subst hj hc;exact Rd.v _
   |1,hj,hc=>simp at hj hc;subst hj hc;exact Rd.v _
   |j+2,hj,hc=>simp at hj
theorem ok_itoaS (i:Nat) (hi:i < 100):FnOk Tryz.prog 110 [.d (dint i)] (.one (dstr (Lib.itoa i))):=by
 refine⟨⟨_,Tryz.func110,by kernel_rfl,by kernel_rfl⟩,fun w own vs hown ha=>?_⟩
 match vs,ha with
 | [x],⟨h1,_⟩ =>
  obtain rfl:x=i64 i:=rd_v h1
  refine(Any.strconv_Itoa_small Tryz.lays171 i hi w).mono fun e w' he=>?_
  obtain⟨rfl,rfl⟩:=he
  refine⟨_,rfl,Below.refl _ _,?_⟩
  have hx:Lib.itoa i=Lib.decDigits i:=by rw[Lib.itoa,if_neg (by omega)];rfl
  rw[hx]
  exact Rd.v _
theorem ok_numS (s:Str) (v:Int) (hs:s.length≤1073741824) (h:numV s=some v) (h0:0≤v) (h1:v < 100):FnOk Tryz.prog 90 [.d (dstr s)] (.tup [dint v,dbool true]):=by
 refine fnOk_of tbl_ok mixed_ok Tryz.func90 rfl (by kernel_rfl) rfl rfl fun w0 own0=>?_
 obtain⟨ha,hb⟩:=numV_ok h
 obtain⟨i,rfl⟩:=Int.eq_ofNat_of_zero_le h0
 have c1:=ok_atoi s i hs ha
 have c2:=ok_itoaS i (by omega)
 rw[hb]at c2
 repeat(first|refine wa ?_|((with_reducible apply s5);(first|((with_reducible apply a_noerr);exact rfl;exact Tryz.underlying170;exact rfl)|exact by_oa|exact by_ca);exact by_g)|refine wb ?_)
 exact .two (.tmp rfl (.one (.d (.refl _)))) (.tmp rfl (.one (.d (dle_bool (by simp)))))
set_option maxHeartbeats 16000000
theorem splitF_part (sep:Str):∀ (n:Nat) (cur r:Str),∀ p∈splitF sep n cur r,p.length≤cur.length+r.length
 |0,cur,r=>by simp[splitF]
 |n+1,cur,r=>by
  rw[splitF_succ]
  split
  ·
   simp
  split
  ·
   intro p hp
   rcases List.mem_cons.1 hp with rfl|hp
   ·
    omega
   ·
    have:=splitF_part sep n [] _ p hp
    rw[List.length_nil,List.length_drop]at this
    omega
  cases r with
  |nil=>simp
  |cons c t =>
   intro p hp
   have:=splitF_part sep n _ _ p hp
   simp at this ⊢
   omega
theorem split_part {s sep:Str}{p:Str}(h:p∈split s sep):p.length≤s.length:=by
 have:=splitF_part sep _ _ _ p h
 simpa using this
theorem split_len (s sep:Str):(split s sep).length≤s.length+1:=splitF_len sep _ _ _
def smallN (o:Option Int):Bool:=match o with
 |none=>true
 |some v=>decide (0≤v∧v < 100)
def smallS (s:Str):Bool:=(split s [59,32]).all fun p=>(split p [32]).all fun w=>smallN (numV w)&&smallN (regV w)
theorem smallN_of {o:Option Int}{v:Int}(h:smallN o=true) (hv:o=some v):0≤v∧v < 100:=by
 subst hv;simpa[smallN] using h
theorem insAll_cons {p:Str}{r:List Str}{l:List Ins}(h:insAll (p::r)=some l):∃ i l',insP (split p [32])=some i∧insAll r=some l'∧l=i::l':=by
 simp only[insAll]at h
 split at h
 ·
  next i l' h1 h2=>cases h;exact⟨i,l',h1,h2,rfl⟩
 ·
  cases h
theorem insP_some {l:List Str}{i:Ins}(h:insP l=some i):∃ w ws,l=w::ws∧kindOf w≠0∧ws.length=(form (kindOf w).toNat).length∧fillI ⟨kindOf w,0,0,0,[]⟩ (form (kindOf w).toNat) ws=some i:=by
 match l,h with
 | [],h=>simp[insP]at h
 |w::ws,h =>
  simp only[insP]at h
  split at h
  ·
   cases h
  ·
   next h1 =>
   split at h
   ·
    next h2=>exact⟨w,ws,rfl,h1,h2,h⟩
   ·
    cases h
theorem fillI_cons {i i':Ins}{c:UInt8}{f:Str}{w:Str}{ws:List Str}(h:fillI i (c::f) (w::ws)=some i') :
  (c.toNat=107∧fillI { i with key:=w } f ws=some i')∨(c.toNat=110∧∃ n,numV w=some n∧fillI { i with n:=n } f ws=some i') ∨
  (c.toNat≠107∧c.toNat≠110∧∃ r x,w=114::r∧numV r=some x∧((c.toNat=114∧fillI { i with a:=x } f ws=some i')∨(c.toNat≠114∧fillI { i with b:=x } f ws=some i'))):=by
 have hc:∀ k:UInt8,c=k↔c.toNat=k.toNat:=fun k=>by rw[UInt8.toNat_inj]
 simp only[fillI]at h
 split at h
 ·
  next h1=>exact .inl ⟨(hc _).1 h1,h⟩
 ·
  next h1 =>
  have h1':c.toNat≠107:=fun e=>h1 ((hc 107).2 e)
  split at h
  ·
   next h2 =>
   split at h
   ·
    next n hn=>exact .inr (.inl ⟨(hc _).1 h2,n,hn,h⟩)
   ·
    cases h
  ·
   next h2 =>
   have h2':c.toNat≠110:=fun e=>h2 ((hc 110).2 e)
   refine .inr (.inr ⟨h1',h2',?_⟩)
   split at h
   ·
    next x hx =>
    have:∃ r,w=114::r∧numV r=some x:=by
     match w,hx with
     | [],hx=>simp[regV]at hx
     |b::r,hx =>
      by_cases hb:b=114
      ·
       subst hb;exact⟨r,rfl,hx⟩
      ·
       unfold regV at hx
       split at hx
       ·
        next r' he=>cases he;exact absurd rfl hb
       ·
        cases hx
    obtain⟨r,h3,h4⟩:=this
    refine⟨r,x,h3,h4,?_⟩
    split at h
    ·
     next h5=>exact .inl ⟨(hc _).1 h5,h⟩
    ·
     next h5=>exact .inr ⟨fun e=>h5 ((hc 114).2 e),h⟩
   ·
    cases h
theorem parseD_some {s:Str}{d:Deed}(h:parseD s=some d):s.length≤400∧∃ p0 p1 ps,split s [59,32]=p0::p1::ps∧split p0 [32]=[114,101,97,100,115]::d.reads∧split p1 [32]=[119,114,105,116,101,115]::d.writes∧insAll ps=some d.code∧wrongDeed d=0:=by
 unfold parseD at h
 split at h
 ·
  cases h
 ·
  next h0 =>
  refine⟨by omega,?_⟩
  split at h
  ·
   next p0 p1 ps h1 =>
   split at h
   ·
    next w0 rs w1 ws code h2 h3 h4 =>
    split at h
    ·
     next h5 =>
     obtain⟨rfl,rfl,h6⟩:=h5
     cases h
     exact⟨p0,p1,ps,h1,h2,h3,h4,h6⟩
    ·
     cases h
   ·
    cases h
  ·
   cases h
theorem ok_parseS (s:Str) (d:Deed) (h:parseD s=some d) (hm:smallS s=true):FnOk Tryz.prog 54 [.d (dstr s)] (.tup [.agg d.enc,dint 0]):=by
 refine fnOk_of tbl_ok mixed_ok Tryz.func54 rfl (by kernel_rfl) rfl rfl fun w0 own0=>?_
 obtain⟨hs,p0,p1,ps,e0,e1,e2,e3,e4⟩:=parseD_some h
 obtain⟨rs,ws,cd⟩:=d
 dsimp only at e1 e2 e3
 have c1:=ok_split s [59,32] (by omega) (by simp) (by simp)
 have hsl:=split_len s [59,32]
 have hsp:∀ p∈split s [59,32],p.length≤400:=fun p hp=>Nat.le_trans (split_part hp) hs
 have hsm:∀ p∈split s [59,32],∀ w∈split p [32],smallN (numV w)=true∧smallN (regV w)=true:=fun p hp w hw=>by
  have:=List.all_eq_true.1 (List.all_eq_true.1 hm p hp) w hw
  simpa using this
 generalize hl:split s [59,32]=l at *
 have h2l:2≤l.length:=by rw[e0];simp
 have hst0:StopA 8:=⟨rfl⟩
 try refine wkS ?_
 clear hst0
 refine Stop.go (CW.stut (stut_promote_cell (id:=1) (j:=2) 110 5 rfl) ⟨rfl,rfl,trivial⟩ ?_)
 try refine wk ?_
 refine CW.loopT (fun t:Nat×D×D×List Ins=>[sp 2 0,ob 0 [.v nilS,.v nilS,.v nilS],sp 6 1,(.o 1,.ob (.box [.d t.2.1,.d t.2.2.1,.own 2 t.2.2.2.length])),oa 2 110 5 (t.2.2.2.map Ins.enc),sd 36 (encStrs l),sd 37 (dint l.length),sd 38 (dint t.1),nxt 3])
  (fun t=>t.1≤l.length∧(1≤t.1→t.2.1=encStrs rs)∧(2≤t.1→t.2.2.1=encStrs ws)∧t.2.2.2.length≤t.1∧∃ rest,insAll (l.drop (max t.1 2))=some rest∧t.2.2.2++rest=cd) (fun t=>l.length - t.1) (0,.v nilS,.v nilS,[])
  ⟨by dsimp only;omega,fun h=>by dsimp only at h;omega,fun h=>by dsimp only at h;omega,by simp,cd,by rw[e0];exact e3,rfl⟩ ?_ ?_
 ·
  exact by_less
 ·
  rintro ⟨x,R,W,code⟩ ⟨hx,hR,hW,hc,rest,hr,hcd⟩
  dsimp only at hx hR hW hc hr hcd ⊢
  rcases drop_case hx with ⟨h1,h2⟩|⟨p,h1,h2,h3⟩
  ·
   rw[show max x 2=x by omega,h1]at hr
   cases hr
   rw[List.append_nil]at hcd
   obtain rfl:=hR (by omega)
   obtain rfl:=hW (by omega)
   subst hcd
   have hrs:∀ k∈rs,k.length≤400:=fun k hk=>Nat.le_trans (split_part (s:=p0) (sep:=[32]) (by rw[e1];exact List.mem_cons_of_mem _ hk)) (hsp p0 (by rw[e0];simp))
   have hws:∀ k∈ws,k.length≤400:=fun k hk=>Nat.le_trans (split_part (s:=p1) (sep:=[32]) (by rw[e2];exact List.mem_cons_of_mem _ hk)) (hsp p1 (by rw[e0];simp))
   have hrl:rs.length≤400:=by have:=split_len p0 [32];rw[e1]at this;have:=hsp p0 (by rw[e0];simp);simp at *;omega
   have hwl:ws.length≤400:=by have:=split_len p1 [32];rw[e2]at this;have:=hsp p1 (by rw[e0];simp);simp at *;omega
   have cw:=ok_wrongDeed ⟨rs,ws,code⟩ (by dsimp only;omega) (by dsimp only;omega) (by dsimp only;omega) (fun k hk=>by have:=hrs k hk;omega) (fun k hk=>by have:=hws k hk;omega)
   rw[e4]at cw
   have hst0:StopA 52:=⟨rfl⟩
   try refine wkS ?_
   clear hst0
   refine Stop.go (CW.stut (stut_freeze_cell (id:=1) (j:=2) (i:=2) rfl (by simp)) ⟨rfl,rfl,trivial⟩ ?_)
   try refine wk ?_
   exact .two (.cell rfl rfl rfl rfl (.aggd rfl (.refl _))) (.tmp rfl (.one (.d (.refl _))))
  ·
   have hp:p∈l:=List.mem_of_getElem? h2
   have hpl:=hsp p hp
   have c2:=ok_split p [32] (by omega) (by simp) (by simp)
   by_cases hx0:x=0
   ·
    subst hx0
    have h2':=h2
    rw[e0]at h2
    obtain rfl:p0=p:=by simpa using h2
    rw[e1]at c2
    have hrl:rs.length≤400:=by have:=split_len p0 [32];rw[e1]at this;simp at *;omega
    have hw0:(([114,101,97,100,115]:Str)::rs)[0]? = some [114,101,97,100,115]:=rfl
    have hn0:([[114,101,97,100,115],[119,114,105,116,101,115]]:List Str)[0]? = some [114,101,97,100,115]:=rfl
    repeat(first|((with_reducible apply s5);((with_reducible apply a_bs (([[114,101,97,100,115],[119,114,105,116,101,115]]:List Str).map encStr1));(iterate 9 exact rfl);(repeat(first|exact PartsE.nil|(apply PartsE.cons;exact rfl;exact rfl))));exact by_g)|refine wa1 ?_|((with_reducible apply s5);(first|exact a_call c2 rfl by_sub|exact by_oa|exact by_ca);exact by_g)|refine wb ?_)
    refine q_loopT (1,encStrs rs,W,code) ⟨by dsimp only;omega,fun _=>rfl,fun h=>by dsimp only at h;omega,by dsimp only;omega,rest,hr,hcd⟩ (by dsimp only;omega) ?_
    exact by_less
   by_cases hx1:x=1
   ·
    subst hx1
    have h2':=h2
    rw[e0]at h2
    obtain rfl:p1=p:=by simpa using h2
    rw[e2]at c2
    have hwl:ws.length≤400:=by have:=split_len p1 [32];rw[e2]at this;simp at *;omega
    have hw0:(([119,114,105,116,101,115]:Str)::ws)[0]? = some [119,114,105,116,101,115]:=rfl
    have hn0:([[114,101,97,100,115],[119,114,105,116,101,115]]:List Str)[1]? = some [119,114,105,116,101,115]:=rfl
    repeat(first|((with_reducible apply s5);((with_reducible apply a_bs (([[114,101,97,100,115],[119,114,105,116,101,115]]:List Str).map encStr1));(iterate 9 exact rfl);(repeat(first|exact PartsE.nil|(apply PartsE.cons;exact rfl;exact rfl))));exact by_g)|refine wa1 ?_|((with_reducible apply s5);(first|exact a_call c2 rfl by_sub|exact by_oa|exact by_ca);exact by_g)|refine wb ?_)
    refine q_loopT (2,R,encStrs ws,code) ⟨by dsimp only;omega,fun _=>hR (by omega),fun _=>rfl,by dsimp only;omega,rest,hr,hcd⟩ (by dsimp only;omega) ?_
    exact by_less
   rw[show max x 2=x by omega,h1]at hr
   obtain⟨i1,rest',hi,hr',rfl⟩:=insAll_cons hr
   have hsw:=hsm p hp
   generalize hwds:split p [32]=wds at *
   obtain⟨w,wz,rfl,hk0,hlen,hfi⟩:=insP_some hi
   have hwl:wz.length≤400:=by have:=split_len p [32];rw[hwds]at this;simp at *;omega
   have cw:=ok_words
   have hw0:(w::wz)[0]? = some w:=rfl
   repeat(first|refine wa ?_|((with_reducible apply s5);(first|exact a_call c2 rfl by_sub|exact a_call cw rfl by_sub|exact by_oa|exact by_ca);exact by_g)|refine wb ?_)
   refine CW.loopT (fun t:Nat×Int=>[sp 2 0,ob 0 [.v nilS,.v nilS,.v nilS],sp 6 1,(.o 1,.ob (.box [.d R,.d W,.own 2 code.length])),oa 2 110 5 (code.map Ins.enc),sd 36 (encStrs l),sd 37 (dint l.length),sd 38 (dint x),
     sd 9 (encStrs (w::wz)),sp 10 3,ob 3 [dint t.2,dint 0,dint 0,dint 0,dstr []],sd 68 (encStrs words),sd 69 (dint words.length),sd 70 (dint t.1),nxt 4])
    (fun t=>t.1≤words.length∧0≤t.2∧t.2 < 10∧kindGo w t.1 t.2 (words.drop t.1)=kindOf w) (fun t=>words.length - t.1) (0,0) ⟨by dsimp only;omega,by dsimp only;omega,by dsimp only;omega,rfl⟩ ?_ ?_
   ·
    exact by_less
   ·
    rintro ⟨y,k⟩ ⟨hy,hk1,hk2,hK⟩
    dsimp only at hy hk1 hk2 hK ⊢
    have hwn:words.length=10:=rfl
    rcases drop_case hy with ⟨g1,g2⟩|⟨u,g1,g2,g3⟩
    ·
     rw[g1,kindGo]at hK
     subst hK
     obtain⟨K,hKe⟩:=Int.eq_ofNat_of_zero_le hk1
     rw[hKe]at hlen hfi hk0 hk2 ⊢
     rw[Int.toNat_natCast]at hlen hfi
     have cf:=ok_form K (by omega)
     have hfl:=form_len K
     generalize form K=f at *
     try refine wk ?_
     refine CW.loopT (fun t:Nat×Ins=>[sp 2 0,ob 0 [.v nilS,.v nilS,.v nilS],sp 6 1,(.o 1,.ob (.box [.d R,.d W,.own 2 code.length])),oa 2 110 5 (code.map Ins.enc),sd 36 (encStrs l),sd 37 (dint l.length),sd 38 (dint x),
       sd 9 (encStrs (w::wz)),sp 10 3,ob 3 t.2.enc,sd 13 (dstr f),sd 107 (dstr f),sd 108 (dint f.length),sd 109 (dint t.1),nxt 4])
      (fun t=>t.1≤f.length∧fillI t.2 (f.drop t.1) (wz.drop t.1)=some i1) (fun t=>f.length - t.1) (0,⟨K,0,0,0,[]⟩) ⟨by dsimp only;omega,hfi⟩ ?_ ?_
     ·
      exact by_less
     ·
      rintro ⟨j,i⟩ ⟨hj,hI⟩
      dsimp only at hj hI ⊢
      rcases drop_case hj with ⟨b1,b2⟩|⟨c,b1,b2,b3⟩
      ·
       rw[b1,fillI]at hI
       cases hI
       try refine wk ?_
       refine q_loopT (x+1,R,W,code++[i1]) ⟨by dsimp only;omega,fun _=>hR (by omega),fun _=>hW (by omega),by dsimp only;simp;omega,rest',by dsimp only;rw[show max (x+1) 2=x+1 by omega];exact hr',by dsimp only;rw[← hcd];simp⟩ (by dsimp only;omega) ?_
       exact by_less
      ·
       have hwj:j < wz.length:=by omega
       have hwa:(w::wz)[j+1]? = some wz[j]:=by simp[List.getElem?_eq_getElem hwj]
       rw[b1,List.drop_eq_getElem_cons hwj]at hI
       have hsj:=hsw wz[j] (List.mem_cons_of_mem _ (List.getElem_mem hwj))
       have hwjl:wz[j].length≤400:=Nat.le_trans (split_part (s:=p) (sep:=[32]) (by rw[hwds];exact List.mem_cons_of_mem _ (List.getElem_mem hwj))) hpl
       generalize wz[j]=u at hwa hI hsj hwjl
       rcases fillI_cons hI with ⟨q1,q2⟩|⟨q1,n,q2,q3⟩|⟨q1,q2,r,n,rfl,q3,q4⟩
       ·
        try refine wk ?_
        refine q_loopT (j+1,{ i with key:=u }) ⟨by dsimp only;omega,q2⟩ (by dsimp only;omega) ?_
        exact by_less
       ·
        have hn:=smallN_of hsj.1 q2
        have cn:=ok_numS u n (by omega) q2 hn.1 hn.2
        try refine wk ?_
        refine q_loopT (j+1,{ i with n:=n }) ⟨by dsimp only;omega,q3⟩ (by dsimp only;omega) ?_
        exact by_less
       ·
        have hn:=smallN_of hsj.2 (show regV (114::r)=some n from q3)
        have cn:=ok_numS r n (by simp at hwjl;omega) q3 hn.1 hn.2
        have hu0:(114::r:Str)[0]? = some 114:=rfl
        rcases q4 with ⟨q4,q5⟩|⟨q4,q5⟩
        ·
         repeat(first|refine wa ?_|((with_reducible apply s5);(first|((with_reducible apply(a_is (k:=0)));(iterate 5 exact rfl);exact rfl)|((with_reducible apply(a_subF (l:=1)));(iterate 5 exact rfl);exact Nat.succ_le_succ (Nat.zero_le _))|exact by_oa|exact by_ca);exact by_g)|refine wb ?_)
         refine q_loopT (j+1,{ i with a:=n }) ⟨by dsimp only;omega,q5⟩ (by dsimp only;omega) ?_
         exact by_less
        ·
         repeat(first|refine wa ?_|((with_reducible apply s5);(first|((with_reducible apply(a_is (k:=0)));(iterate 5 exact rfl);exact rfl)|((with_reducible apply(a_subF (l:=1)));(iterate 5 exact rfl);exact Nat.succ_le_succ (Nat.zero_le _))|exact by_oa|exact by_ca);exact by_g)|refine wb ?_)
         refine q_loopT (j+1,{ i with b:=n }) ⟨by dsimp only;omega,q5⟩ (by dsimp only;omega) ?_
         exact by_less
    ·
     rw[g1,kindGo]at hK
     by_cases hy0:0 < y
     ·
      by_cases hu:u=w
      ·
       rw[if_pos ⟨hy0,hu⟩]at hK
       try refine wk ?_
       refine q_loopT (y+1,(y:Int)) ⟨by dsimp only;omega,by dsimp only;omega,by dsimp only;omega,hK⟩ (by dsimp only;omega) ?_
       exact by_less
      ·
       rw[if_neg (fun h=>hu h.2)]at hK
       try refine wk ?_
       refine q_loopT (y+1,k) ⟨by dsimp only;omega,by dsimp only;omega,by dsimp only;omega,hK⟩ (by dsimp only;omega) ?_
       exact by_less
     ·
      rw[if_neg (fun h=>hy0 h.1)]at hK
      try refine wk ?_
      refine q_loopT (y+1,k) ⟨by dsimp only;omega,by dsimp only;omega,by dsimp only;omega,hK⟩ (by dsimp only;omega) ?_
      exact by_less
def noEnc:List D:=[.v nilS,.v nilS,.v nilS]
theorem ok_no (e:Int):FnOk Tryz.prog 86 [.d (dint e)] (.tup [.agg noEnc,dint e]):=by
 refine fnOk_of tbl_ok mixed_ok Tryz.func86 rfl (by kernel_rfl) rfl rfl fun w0 own0=>?_
 try refine wk ?_
 exact .two (.cell rfl rfl rfl rfl (.aggd (ds:=noEnc) rfl (.refl _))) (.tmp rfl (.one (.d (.refl _))))
theorem no_le {s:Str}{e:Int}(h:parseE s = .error e):DLe (.agg noEnc) (.agg (parseR s).1.enc):=by
 unfold parseR;rw[h]
 exact(DLes.cons (dle_nil 1) (.cons (dle_nil 1) (.cons (dle_nil 5) .nil))).agg
theorem er_le {s:Str}{e:Int}(h:parseE s = .error e):DLe (dint e) (dint (parseR s).2):=by
 unfold parseR;rw[h]
 exact .refl _
theorem numV_atoi {u:Str}{n:Int}(h:numV u=some n):atoiV u=n:=by
 unfold atoiV;rw[(numV_ok h).1]
theorem split_cons (s sep:Str):∃ w r,split s sep=w::r:=by
 cases h:split s sep with
 |nil=>exact absurd h (splitF_ne sep _ _ _)
 |cons w r=>exact⟨w,r,rfl⟩
theorem regV_none {u:Str}(h:regV u=none):u=[]∨(∃ c r,u=c::r∧c.toNat≠114)∨∃ r,u=114::r∧numV r=none:=by
 match u,h with
 | [],_=>exact .inl rfl
 |c::r,h =>
  by_cases hc:c=114
  ·
   subst hc;exact .inr (.inr ⟨r,rfl,h⟩)
  ·
   exact .inr (.inl ⟨c,r,rfl,fun e=>hc (UInt8.toNat_inj.1 e)⟩)
theorem regV_some {u:Str}{x:Int}(h:regV u=some x):∃ r,u=114::r∧numV r=some x:=by
 match u,h with
 | [],h=>simp[regV]at h
 |c::r,h =>
  by_cases hc:c=114
  ·
   subst hc;exact⟨r,rfl,h⟩
  ·
   unfold regV at h
   split at h
   ·
    next r' he=>cases he;exact absurd rfl hc
   ·
    cases h
theorem ok_parse (s:Str) (hbig:s.length≤1073741000):FnOk Tryz.prog 54 [.d (dstr s)] (.tup [.agg (parseR s).1.enc,dint (parseR s).2]):=by
 refine fnOk_of tbl_ok mixed_ok Tryz.func54 rfl (by kernel_rfl) rfl rfl fun w0 own0=>?_
 by_cases hs:400 < s.length
 ·
  have hP:parseE s = .error 4:=by unfold parseE;rw[if_pos hs]
  have cn:=ok_no 4
  repeat(first|refine wa ?_|((with_reducible apply s5);(first|exact a_callc cn rfl rfl by_sub|exact by_oa|exact by_ca);exact by_g)|refine wb ?_)
  exact .two (.cell rfl rfl rfl rfl (.aggd rfl (no_le hP))) (.tmp rfl (.one (.d (er_le hP))))
 have c1:=ok_split s [59,32] (by omega) (by simp) (by simp)
 have hsl:=split_len s [59,32]
 have hsp:∀ p∈split s [59,32],p.length≤400:=fun p hp=>Nat.le_trans (split_part hp) (by omega)
 by_cases h2:(split s [59,32]).length < 2
 ·
  have hP:parseE s = .error 8:=by
   unfold parseE
   rw[if_neg hs]
   match split s [59,32],h2 with
   | [],_=>rfl
   | [_],_=>rfl
   |_::_::_,h=>simp at h;omega
  have cn:=ok_no 8
  generalize split s [59,32]=l at *
  repeat(first|refine wa ?_|((with_reducible apply s5);(first|exact a_callc cn rfl rfl by_sub|exact by_oa|exact by_ca);exact by_g)|refine wb ?_)
  exact .two (.cell rfl rfl rfl rfl (.aggd rfl (no_le hP))) (.tmp rfl (.one (.d (er_le hP))))
 obtain⟨p0,p1,ps,e0⟩:∃ p0 p1 ps,split s [59,32]=p0::p1::ps:=by
  match split s [59,32],h2 with
  | [],h=>simp at h
  | [_],h=>simp at h
  |a::b::r,_=>exact⟨a,b,r,rfl⟩
 obtain⟨v0,rs,e1⟩:=split_cons p0 [32]
 obtain⟨v1,ws,e2⟩:=split_cons p1 [32]
 have hPF:=parseE_fin (by omega) e0 e1 e2
 have cn2:=ok_no 2
 generalize hl:split s [59,32]=l at *
 have h2l:2≤l.length:=by omega
 have hst0:StopA 8:=⟨rfl⟩
 try refine wkS ?_
 clear hst0
 refine Stop.go (CW.stut (stut_promote_cell (id:=1) (j:=2) 110 5 rfl) ⟨rfl,rfl,trivial⟩ ?_)
 try refine wk ?_
 refine CW.loopT (fun t:Nat×D×D×List Ins=>[sp 2 0,ob 0 [.v nilS,.v nilS,.v nilS],sd 4 (.v (.func (.func 86) #[] #[])),sp 6 1,(.o 1,.ob (.box [.d t.2.1,.d t.2.2.1,.own 2 t.2.2.2.length])),oa 2 110 5 (t.2.2.2.map Ins.enc),sd 36 (encStrs l),sd 37 (dint l.length),sd 38 (dint t.1),nxt 3])
  (fun t=>t.1≤l.length∧(t.1 < 2→t.2.2.2=[])∧(1≤t.1→v0=wReads∧t.2.1=encStrs rs)∧(2≤t.1→v1=wWrites∧t.2.2.1=encStrs ws)∧t.2.2.2.length≤t.1∧(2≤t.1→parseE s=finE rs ws t.2.2.2 (l.drop t.1))) (fun t=>l.length - t.1) (0,.v nilS,.v nilS,[])
  ⟨by dsimp only;omega,fun _=>rfl,fun h=>by dsimp only at h;omega,fun h=>by dsimp only at h;omega,by simp,fun h=>by dsimp only at h;omega⟩ ?_ ?_
 ·
  exact by_less
 ·
  rintro ⟨x,R,W,code⟩ ⟨hx,hc0,hR,hW,hc,hF⟩
  dsimp only at hx hc0 hR hW hc hF ⊢
  rcases drop_case hx with ⟨h1,h2⟩|⟨p,h1,h2,h3⟩
  ·
   obtain⟨_,rfl⟩:=hR (by omega)
   obtain⟨_,rfl⟩:=hW (by omega)
   have hF:=hF (by omega)
   rw[h1]at hF
   unfold finE at hF
   simp only[codeE,List.append_nil]at hF
   have hrs:∀ k∈rs,k.length≤400:=fun k hk=>Nat.le_trans (split_part (s:=p0) (sep:=[32]) (by rw[e1];exact List.mem_cons_of_mem _ hk)) (hsp p0 (by rw[e0];simp))
   have hws:∀ k∈ws,k.length≤400:=fun k hk=>Nat.le_trans (split_part (s:=p1) (sep:=[32]) (by rw[e2];exact List.mem_cons_of_mem _ hk)) (hsp p1 (by rw[e0];simp))
   have hrl:rs.length≤400:=by have:=split_len p0 [32];rw[e1]at this;have:=hsp p0 (by rw[e0];simp);simp at *;omega
   have hwl:ws.length≤400:=by have:=split_len p1 [32];rw[e2]at this;have:=hsp p1 (by rw[e0];simp);simp at *;omega
   have cw:=ok_wrongDeed ⟨rs,ws,code⟩ (by dsimp only;omega) (by dsimp only;omega) (by dsimp only;omega) (fun k hk=>by have:=hrs k hk;omega) (fun k hk=>by have:=hws k hk;omega)
   by_cases hw:wrongDeed ⟨rs,ws,code⟩=0
   ·
    rw[if_pos hw]at hF
    rw[hw]at cw
    have hr:parseR s=(⟨rs,ws,code⟩,0):=by unfold parseR;rw[hF];rfl
    rw[hr]
    have hst0:StopA 52:=⟨rfl⟩
    try refine wkS ?_
    clear hst0
    refine Stop.go (CW.stut (stut_freeze_cell (id:=1) (j:=2) (i:=2) rfl (by simp)) ⟨rfl,rfl,trivial⟩ ?_)
    try refine wk ?_
    exact .two (.cell rfl rfl rfl rfl (.aggd rfl (.refl _))) (.tmp rfl (.one (.d (.refl _))))
   ·
    rw[if_neg hw]at hF
    have cn:=ok_no (wrongDeed ⟨rs,ws,code⟩)
    generalize wrongDeed ⟨rs,ws,code⟩=we at *
    have hst0:StopA 52:=⟨rfl⟩
    try refine wkS ?_
    clear hst0
    refine Stop.go (CW.stut (stut_freeze_cell (id:=1) (j:=2) (i:=2) rfl (by simp)) ⟨rfl,rfl,trivial⟩ ?_)
    repeat(first|refine wa ?_|((with_reducible apply s5);(first|exact a_callc cn rfl rfl by_sub|exact by_oa|exact by_ca);exact by_g)|refine wb ?_)
    exact .two (.cell rfl rfl rfl rfl (.aggd rfl (no_le hF))) (.tmp rfl (.one (.d (er_le hF))))
  ·
   have hp:p∈l:=List.mem_of_getElem? h2
   have hpl:=hsp p hp
   have c2:=ok_split p [32] (by omega) (by simp) (by simp)
   by_cases hx0:x=0
   ·
    subst hx0
    obtain rfl:=hc0 (by omega)
    have h2':=h2
    rw[e0]at h2
    obtain rfl:p0=p:=by simpa using h2
    rw[e1]at c2
    have hrl:rs.length≤400:=by have:=split_len p0 [32];rw[e1]at this;simp at *;omega
    have hw0:(v0::rs)[0]? = some v0:=rfl
    have hn0:([wReads,wWrites]:List Str)[0]? = some wReads:=rfl
    by_cases hv:v0=wReads
    ·
     repeat(first|((with_reducible apply s5);((with_reducible apply a_bs (([wReads,wWrites]:List Str).map encStr1));(iterate 9 exact rfl);(repeat(first|exact PartsE.nil|(apply PartsE.cons;exact rfl;exact rfl))));exact by_g)|refine wa1 ?_|((with_reducible apply s5);(first|exact a_call c2 rfl by_sub|exact by_oa|exact by_ca);exact by_g)|refine wb ?_)
     refine q_loopT (1,encStrs rs,W,[]) ⟨by dsimp only;omega,fun _=>rfl,fun _=>⟨hv,rfl⟩,fun h=>by dsimp only at h;omega,by simp,fun h=>by dsimp only at h;omega⟩ (by dsimp only;omega) ?_
     exact by_less
    ·
     have hP:parseE s = .error 2:=by rw[hPF,if_neg hv]
     repeat(first|((with_reducible apply s5);((with_reducible apply a_bs (([wReads,wWrites]:List Str).map encStr1));(iterate 9 exact rfl);(repeat(first|exact PartsE.nil|(apply PartsE.cons;exact rfl;exact rfl))));exact by_g)|refine wa1 ?_|((with_reducible apply s5);(first|exact a_call c2 rfl by_sub|exact a_callc cn2 rfl rfl by_sub|exact by_oa|exact by_ca);exact by_g)|refine wb ?_)
     exact .two (.cell rfl rfl rfl rfl (.aggd rfl (no_le hP))) (.tmp rfl (.one (.d (er_le hP))))
   by_cases hx1:x=1
   ·
    subst hx1
    obtain rfl:=hc0 (by omega)
    obtain⟨hv0,hR⟩:=hR (by omega)
    have h2':=h2
    rw[e0]at h2
    obtain rfl:p1=p:=by simpa using h2
    rw[e2]at c2
    have hwl:ws.length≤400:=by have:=split_len p1 [32];rw[e2]at this;simp at *;omega
    have hw0:(v1::ws)[0]? = some v1:=rfl
    have hn0:([wReads,wWrites]:List Str)[1]? = some wWrites:=rfl
    by_cases hv:v1=wWrites
    ·
     repeat(first|((with_reducible apply s5);((with_reducible apply a_bs (([wReads,wWrites]:List Str).map encStr1));(iterate 9 exact rfl);(repeat(first|exact PartsE.nil|(apply PartsE.cons;exact rfl;exact rfl))));exact by_g)|refine wa1 ?_|((with_reducible apply s5);(first|exact a_call c2 rfl by_sub|exact by_oa|exact by_ca);exact by_g)|refine wb ?_)
     refine q_loopT (2,R,encStrs ws,[]) ⟨by dsimp only;omega,fun h=>by dsimp only at h;omega,fun _=>⟨hv0,hR⟩,fun _=>⟨hv,rfl⟩,by simp,fun _=>by rw[hPF,if_pos hv0,if_pos hv,e0];rfl⟩ (by dsimp only;omega) ?_
     exact by_less
    ·
     have hP:parseE s = .error 2:=by rw[hPF,if_pos hv0,if_neg hv]
     repeat(first|((with_reducible apply s5);((with_reducible apply a_bs (([wReads,wWrites]:List Str).map encStr1));(iterate 9 exact rfl);(repeat(first|exact PartsE.nil|(apply PartsE.cons;exact rfl;exact rfl))));exact by_g)|refine wa1 ?_|((with_reducible apply s5);(first|exact a_call c2 rfl by_sub|exact a_callc cn2 rfl rfl by_sub|exact by_oa|exact by_ca);exact by_g)|refine wb ?_)
     exact .two (.cell rfl rfl rfl rfl (.aggd rfl (no_le hP))) (.tmp rfl (.one (.d (er_le hP))))
   have hF:=hF (by omega)
   rw[h1,finE_cons]at hF
   generalize hwds:split p [32]=wds at *
   obtain⟨w,wz,rfl⟩:∃ w wz,wds=w::wz:=by
    obtain⟨w,wz,h⟩:=split_cons p [32]
    exact⟨w,wz,hwds.symm.trans h⟩
   have hwl:wz.length≤400:=by have:=split_len p [32];rw[hwds]at this;simp at *;omega
   have cw:=ok_words
   have hw0:(w::wz)[0]? = some w:=rfl
   repeat(first|refine wa ?_|((with_reducible apply s5);(first|exact a_call c2 rfl by_sub|exact a_call cw rfl by_sub|exact by_oa|exact by_ca);exact by_g)|refine wb ?_)
   refine CW.loopT (fun t:Nat×Int=>[sp 2 0,ob 0 [.v nilS,.v nilS,.v nilS],sd 4 (.v (.func (.func 86) #[] #[])),sp 6 1,(.o 1,.ob (.box [.d R,.d W,.own 2 code.length])),oa 2 110 5 (code.map Ins.enc),sd 36 (encStrs l),sd 37 (dint l.length),sd 38 (dint x),
     sd 9 (encStrs (w::wz)),sp 10 3,ob 3 [dint t.2,dint 0,dint 0,dint 0,dstr []],sd 68 (encStrs words),sd 69 (dint words.length),sd 70 (dint t.1),nxt 4])
    (fun t=>t.1≤words.length∧0≤t.2∧t.2 < 10∧kindGo w t.1 t.2 (words.drop t.1)=kindOf w) (fun t=>words.length - t.1) (0,0) ⟨by dsimp only;omega,by dsimp only;omega,by dsimp only;omega,rfl⟩ ?_ ?_
   ·
    exact by_less
   ·
    rintro ⟨y,k⟩ ⟨hy,hk1,hk2,hK⟩
    dsimp only at hy hk1 hk2 hK ⊢
    have hwn:words.length=10:=rfl
    rcases drop_case hy with ⟨g1,g2⟩|⟨u,g1,g2,g3⟩
    ·
     rw[g1,kindGo]at hK
     subst hK
     obtain⟨K,hKe⟩:=Int.eq_ofNat_of_zero_le hk1
     by_cases hk0:kindOf w=0
     ·
      have hP:parseE s = .error 1:=by rw[hF];simp only[insE];rw[if_pos hk0]
      have cn1:=ok_no 1
      rw[hk0]
      repeat(first|refine wa ?_|((with_reducible apply s5);(first|exact a_callc cn1 rfl rfl by_sub|exact by_oa|exact by_ca);exact by_g)|refine wb ?_)
      exact .two (.cell rfl rfl rfl rfl (.aggd rfl (no_le hP))) (.tmp rfl (.one (.d (er_le hP))))
     have hins:=insE_fill (w:=w) (ws:=wz) hk0
     have hins2:¬ wz.length=(form (kindOf w).toNat).length→insE (w::wz) = .error 2:=fun h=>by simp only[insE];rw[if_neg hk0,if_neg h]
     rw[hKe]at hins hins2 hk0 hk2 ⊢
     rw[Int.toNat_natCast]at hins hins2
     have cf:=ok_form K (by omega)
     have hfl:=form_len K
     generalize form K=f at *
     by_cases hlen:wz.length=f.length
     ·
      have hins:=hins hlen
      rw[hins]at hF
      obtain⟨tg,htg⟩:∃ tg,fillI ⟨K,0,0,0,[]⟩ f wz=tg:=⟨_,rfl⟩
      rw[htg]at hF
      try refine wk ?_
      refine CW.loopT (fun t:Nat×Ins=>[sp 2 0,ob 0 [.v nilS,.v nilS,.v nilS],sd 4 (.v (.func (.func 86) #[] #[])),sp 6 1,(.o 1,.ob (.box [.d R,.d W,.own 2 code.length])),oa 2 110 5 (code.map Ins.enc),sd 36 (encStrs l),sd 37 (dint l.length),sd 38 (dint x),
        sd 9 (encStrs (w::wz)),sp 10 3,ob 3 t.2.enc,sd 13 (dstr f),sd 108 (dint f.length),sd 109 (dint t.1),nxt 4])
       (fun t=>t.1≤f.length∧fillI t.2 (f.drop t.1) (wz.drop t.1)=tg) (fun t=>f.length - t.1) (0,⟨K,0,0,0,[]⟩) ⟨by dsimp only;omega,htg⟩ ?_ ?_
      ·
       exact by_less
      ·
       rintro ⟨j,i⟩ ⟨hj,hI⟩
       dsimp only at hj hI ⊢
       rcases drop_case hj with ⟨b1,b2⟩|⟨c,b1,b2,b3⟩
       ·
        rw[b1,fillI]at hI
        subst hI
        dsimp only at hF
        try refine wk ?_
        refine q_loopT (x+1,R,W,code++[i]) ⟨by dsimp only;omega,fun h=>by dsimp only at h;omega,fun _=>hR (by omega),fun _=>hW (by omega),by dsimp only;simp;omega,fun _=>hF⟩ (by dsimp only;omega) ?_
        exact by_less
       ·
        have hwj:j < wz.length:=by omega
        have hwa:(w::wz)[j+1]? = some wz[j]:=by simp[List.getElem?_eq_getElem hwj]
        rw[b1,List.drop_eq_getElem_cons hwj]at hI
        have hwjl:wz[j].length≤400:=Nat.le_trans (split_part (s:=p) (sep:=[32]) (by rw[hwds];exact List.mem_cons_of_mem _ (List.getElem_mem hwj))) hpl
        generalize wz[j]=u at hwa hI hwjl
        simp only[fillI]at hI
        have hcn:∀ k:UInt8,c=k↔c.toNat=k.toNat:=fun k=>by rw[UInt8.toNat_inj]
        by_cases q1:c=107
        ·
         rw[if_pos q1]at hI
         have q1':c.toNat=107:=(hcn 107).1 q1
         try refine wk ?_
         refine q_loopT (j+1,{ i with key:=u }) ⟨by dsimp only;omega,hI⟩ (by dsimp only;omega) ?_
         exact by_less
        rw[if_neg q1]at hI
        have q1':c.toNat≠107:=fun e=>q1 ((hcn 107).2 e)
        by_cases q2:c=110
        ·
         rw[if_pos q2]at hI
         have q2':c.toNat=110:=(hcn 110).1 q2
         have cm:=ok_num u (by omega)
         cases hn:numV u with
         |some n =>
          rw[hn]at hI cm
          rw[numV_atoi hn]at cm
          try refine wk ?_
          refine q_loopT (j+1,{ i with n:=n }) ⟨by dsimp only;omega,hI⟩ (by dsimp only;omega) ?_
          exact by_less
         |none =>
          rw[hn]at hI cm
          dsimp only at hI
          subst hI
          generalize atoiV u=na at cm
          repeat(first|refine wa ?_|((with_reducible apply s5);(first|exact a_callc cn2 rfl rfl by_sub|exact by_oa|exact by_ca);exact by_g)|refine wb ?_)
          exact .two (.cell rfl rfl rfl rfl (.aggd rfl (no_le hF))) (.tmp rfl (.one (.d (er_le hF))))
        rw[if_neg q2]at hI
        have q2':c.toNat≠110:=fun e=>q2 ((hcn 110).2 e)
        cases hrv:regV u with
        |some n =>
         rw[hrv]at hI
         dsimp only at hI
         obtain⟨r,rfl,q3⟩:=regV_some hrv
         have cm:=ok_num r (by simp at hwjl;omega)
         rw[q3,numV_atoi q3]at cm
         have hu0:(114::r:Str)[0]? = some 114:=rfl
         by_cases q4:c=114
         ·
          rw[if_pos q4]at hI
          have q4':c.toNat=114:=(hcn 114).1 q4
          repeat(first|refine wa ?_|((with_reducible apply s5);(first|((with_reducible apply(a_is (k:=0)));(iterate 5 exact rfl);exact rfl)|((with_reducible apply(a_subF (l:=1)));(iterate 5 exact rfl);exact Nat.succ_le_succ (Nat.zero_le _))|exact by_oa|exact by_ca);exact by_g)|refine wb ?_)
          refine q_loopT (j+1,{ i with a:=n }) ⟨by dsimp only;omega,hI⟩ (by dsimp only;omega) ?_
          exact by_less
         ·
          rw[if_neg q4]at hI
          have q4':c.toNat≠114:=fun e=>q4 ((hcn 114).2 e)
          repeat(first|refine wa ?_|((with_reducible apply s5);(first|((with_reducible apply(a_is (k:=0)));(iterate 5 exact rfl);exact rfl)|((with_reducible apply(a_subF (l:=1)));(iterate 5 exact rfl);exact Nat.succ_le_succ (Nat.zero_le _))|exact by_oa|exact by_ca);exact by_g)|refine wb ?_)
          refine q_loopT (j+1,{ i with b:=n }) ⟨by dsimp only;omega,hI⟩ (by dsimp only;omega) ?_
          exact by_less
        |none =>
         rw[hrv]at hI
         dsimp only at hI
         subst hI
         rcases regV_none hrv with rfl|⟨c0,r,rfl,q3⟩|⟨r,rfl,q3⟩
         ·
          repeat(first|refine wa ?_|((with_reducible apply s5);(first|exact a_callc cn2 rfl rfl by_sub|exact by_oa|exact by_ca);exact by_g)|refine wb ?_)
          exact .two (.cell rfl rfl rfl rfl (.aggd rfl (no_le hF))) (.tmp rfl (.one (.d (er_le hF))))
         ·
          have hu0:(c0::r:Str)[0]? = some c0:=rfl
          repeat(first|refine wa ?_|((with_reducible apply s5);(first|exact a_callc cn2 rfl rfl by_sub|((with_reducible apply(a_is (k:=0)));(iterate 5 exact rfl);exact rfl)|exact by_oa|exact by_ca);exact by_g)|refine wb ?_)
          exact .two (.cell rfl rfl rfl rfl (.aggd rfl (no_le hF))) (.tmp rfl (.one (.d (er_le hF))))
         ·
          have cm:=ok_num r (by simp at hwjl;omega)
          rw[q3]at cm
          have hu0:(114::r:Str)[0]? = some 114:=rfl
          generalize atoiV r=na at cm
          by_cases q4:c=114
          ·
           have q4':c.toNat=114:=(hcn 114).1 q4
           repeat(first|refine wa ?_|((with_reducible apply s5);(first|exact a_callc cn2 rfl rfl by_sub|((with_reducible apply(a_is (k:=0)));(iterate 5 exact rfl);exact rfl)|((with_reducible apply(a_subF (l:=1)));(iterate 5 exact rfl);exact Nat.succ_le_succ (Nat.zero_le _))|exact by_oa|exact by_ca);exact by_g)|refine wb ?_)
           exact .two (.cell rfl rfl rfl rfl (.aggd rfl (no_le hF))) (.tmp rfl (.one (.d (er_le hF))))
          ·
           have q4':c.toNat≠114:=fun e=>q4 ((hcn 114).2 e)
           repeat(first|refine wa ?_|((with_reducible apply s5);(first|exact a_callc cn2 rfl rfl by_sub|((with_reducible apply(a_is (k:=0)));(iterate 5 exact rfl);exact rfl)|((with_reducible apply(a_subF (l:=1)));(iterate 5 exact rfl);exact Nat.succ_le_succ (Nat.zero_le _))|exact by_oa|exact by_ca);exact by_g)|refine wb ?_)
           exact .two (.cell rfl rfl rfl rfl (.aggd rfl (no_le hF))) (.tmp rfl (.one (.d (er_le hF))))
     ·
      rw[hins2 hlen]at hF
      repeat(first|refine wa ?_|((with_reducible apply s5);(first|exact a_callc cn2 rfl rfl by_sub|exact by_oa|exact by_ca);exact by_g)|refine wb ?_)
      exact .two (.cell rfl rfl rfl rfl (.aggd rfl (no_le hF))) (.tmp rfl (.one (.d (er_le hF))))
    ·
     rw[g1,kindGo]at hK
     by_cases hy0:0 < y
     ·
      by_cases hu:u=w
      ·
       rw[if_pos ⟨hy0,hu⟩]at hK
       try refine wk ?_
       refine q_loopT (y+1,(y:Int)) ⟨by dsimp only;omega,by dsimp only;omega,by dsimp only;omega,hK⟩ (by dsimp only;omega) ?_
       exact by_less
      ·
       rw[if_neg (fun h=>hu h.2)]at hK
       try refine wk ?_
       refine q_loopT (y+1,k) ⟨by dsimp only;omega,by dsimp only;omega,by dsimp only;omega,hK⟩ (by dsimp only;omega) ?_
       exact by_less
     ·
      rw[if_neg (fun h=>hy0 h.1)]at hK
      try refine wk ?_
      refine q_loopT (y+1,k) ⟨by dsimp only;omega,by dsimp only;omega,by dsimp only;omega,hK⟩ (by dsimp only;omega) ?_
      exact by_less
theorem kind_idx (w:Str):idxS 0 words.tail w=kindOf w - 1∧0≤kindOf w∧kindOf w < 10:=by
 by_cases h1:w=[108,111,97,100]
 ·
  subst h1;decide
 by_cases h2:w=[99,111,110,115,116]
 ·
  subst h2;decide
 by_cases h3:w=[97,100,100]
 ·
  subst h3;decide
 by_cases h4:w=[115,117,98]
 ·
  subst h4;decide
 by_cases h5:w=[109,117,108]
 ·
  subst h5;decide
 by_cases h6:w=[115,116,111,114,101]
 ·
  subst h6;decide
 by_cases h7:w=[100,114,111,112]
 ·
  subst h7;decide
 by_cases h8:w=[115,107,105,112]
 ·
  subst h8;decide
 by_cases h9:w=[102,97,105,108]
 ·
  subst h9;decide
 have hk:kindOf w=0:=by
  unfold kindOf
  simp[words,kindGo,Ne.symm h1,Ne.symm h2,Ne.symm h3,Ne.symm h4,Ne.symm h5,Ne.symm h6,Ne.symm h7,Ne.symm h8,Ne.symm h9]
 have hi:idxS 0 words.tail w = -1:=by
  simp[words,idxS,Ne.symm h1,Ne.symm h2,Ne.symm h3,Ne.symm h4,Ne.symm h5,Ne.symm h6,Ne.symm h7,Ne.symm h8,Ne.symm h9]
 rw[hk,hi]
 decide
def noIns:Ins:=⟨0,0,0,0,[]⟩
def resI:Except Int Ins→Ins×Int
 |.ok i=>(i,0)
 |.error e=>(noIns,e)
theorem bin_kind {P:Program}{t:TypeId}{k:Int}(h:0≤k∧k < 10):BinR P .add t (.int .i64 (k - 1)) (.int .i64 1) (.int .i64 k):=by
 have:=bin_add (P:=P) (t:=t) (a:=k - 1) (b:=1) (by omega)
 rwa [show k - 1+1=k by omega]at this
theorem cutp_yes (r:Str):Lib.trimPrefix (114::r) [114]=r∧Lib.hasPrefix (114::r) [114]=true:=by
 have h:Lib.hasPrefix (114::r) [114]=true:=by simp[Lib.hasPrefix,List.isPrefixOf]
 exact⟨by unfold Lib.trimPrefix;rw[if_pos h];rfl,h⟩
theorem cutp_no {u:Str}(h:∀ r,u≠114::r):Lib.hasPrefix u [114]=false∧(Lib.trimPrefix u [114])=u:=by
 have h1:Lib.hasPrefix u [114]=false:=by
  cases u with
  |nil=>rfl
  |cons c r =>
   have:c≠114:=fun e=>h r (by rw[e])
   simp[Lib.hasPrefix,List.isPrefixOf,this.symm]
 exact⟨h1,by unfold Lib.trimPrefix;rw[h1];rfl⟩
theorem ok_tinstr (w:Str) (ws:List Str) (hl:ws.length≤1000000) (hu:∀ u∈ws,u.length≤1000000) :
  FnOk Tryz.prog 129 [.d (encStrs (w::ws))] (.tup [.agg (resI (insE (w::ws))).1.enc,dint (resI (insE (w::ws))).2]):=by
 refine fnOk_of tbl_ok mixed_ok Tryz.func129 rfl (by kernel_rfl) rfl rfl fun w0 own0=>?_
 have cw:=ok_twords
 obtain⟨hki,hk0,hk9⟩:=kind_idx w
 have ci:=ok_indexS words.tail w (by decide)
 rw[hki]at ci
 have hbk:=fun {t:TypeId}=>bin_kind (P:=Tryz.prog) (t:=t) ⟨hk0,hk9⟩
 have hw0:(w::ws)[0]? = some w:=rfl
 obtain⟨K,hKe⟩:=Int.eq_ofNat_of_zero_le hk0
 by_cases hkz:kindOf w=0
 ·
  have hE:insE (w::ws) = .error 1:=by simp only[insE];rw[if_pos hkz]
  rw[hE]
  rw[hkz]at ci hbk
  repeat(first|refine wa ?_|((with_reducible apply s5);(first|((with_reducible apply a_bin);exact rfl;exact rfl;exact hbk;exact rfl)|exact by_oa|exact by_ca);exact by_g)|refine wb ?_)
  exact .two (.cell rfl rfl rfl rfl (.aggd (ds:=noIns.enc) rfl (.refl _))) (.tmp rfl (.one (.d (.refl _))))
 have hins:=insE_fill (w:=w) (ws:=ws) hkz
 have hins2:¬ ws.length=(form (kindOf w).toNat).length→insE (w::ws) = .error 2:=fun h=>by simp only[insE];rw[if_neg hkz,if_neg h]
 rw[hKe]at hins hins2 hkz hk9 ci hbk
 rw[Int.toNat_natCast]at hins hins2
 have cf:=ok_fields K (by omega) (by omega)
 have hlet:∀ c∈form K,c=114∨c=115∨c=110∨c=107:=fun c hc=>form_let hc
 have hfl:=form_len K
 generalize form K=f at *
 by_cases hlen:ws.length=f.length
 ·
  have hins:=hins hlen
  obtain⟨tg,htg⟩:∃ tg,fillI ⟨K,0,0,0,[]⟩ f ws=tg:=⟨_,rfl⟩
  rw[htg]at hins
  repeat(first|refine wa ?_|((with_reducible apply s5);(first|((with_reducible apply a_bin);exact rfl;exact rfl;exact hbk;exact rfl)|((with_reducible apply a_range);exact rfl;exact rfl;exact Tryz.underlying9;exact rfl)|exact by_oa|exact by_ca);exact by_g)|refine wb ?_)
  refine CW.loopT (fun t:Nat×Ins=>[sd 0 (encStrs (w::ws)),sp 2 0,ob 0 noIns.enc,sp 4 1,ob 1 t.2.enc,(.s 34,.av (.h 2)),(.o 2,.ob (.gen (ItP f t.1))),nxt 3])
   (fun t=>t.1≤f.length∧fillI t.2 (f.drop t.1) (ws.drop t.1)=tg) (fun t=>f.length - t.1) (0,⟨K,0,0,0,[]⟩) ⟨by dsimp only;omega,htg⟩ ?_ ?_
  ·
   exact by_less
  ·
   rintro ⟨j,i⟩ ⟨hj,hI⟩
   dsimp only at hj hI ⊢
   rcases drop_case hj with ⟨b1,b2⟩|⟨c,b1,b2,b3⟩
   ·
    rw[b1,fillI]at hI
    subst hI
    dsimp only at hins
    rw[hins]
    repeat(first|refine wa ?_|((with_reducible apply s5);(first|((with_reducible apply(a_nextE (k:=j) 2));exact rfl;exact rfl;exact Nat.le_of_eq b2.symm;exact rfl)|exact by_oa|exact by_ca);exact by_g)|refine wb ?_)
    exact .two (.cell rfl rfl rfl rfl (.aggd (ds:=i.enc) rfl (.refl _))) (.tmp rfl (.one (.d (.refl _))))
   ·
    have hc:=hlet c (List.mem_of_getElem? b2)
    have hc1:c.toNat < 128:=by rcases hc with rfl|rfl|rfl|rfl <;> decide
    have hwj:j < ws.length:=by omega
    have hwa:(w::ws)[j+1]? = some ws[j]:=by simp[List.getElem?_eq_getElem hwj]
    rw[show j+1=1+j by omega]at hwa
    rw[b1,List.drop_eq_getElem_cons hwj]at hI
    have hul:=hu ws[j] (List.getElem_mem hwj)
    generalize ws[j]=u at hwa hI hul
    simp only[fillI]at hI
    have hix:idx ((w::ws).map encStr1) (1+(j:Int))=some (encStr1 u):=by
     have:=idx_map (f:=encStr1) hwa
     rwa [show((1+j:Nat):Int)=1+(j:Int) by omega]at this
    by_cases q1:c=107
    ·
     rw[if_pos q1]at hI
     subst q1
     repeat(first|refine wa ?_|((with_reducible apply s5);(first|((with_reducible apply(a_next (k:=j) 2));exact rfl;exact rfl;exact b2;exact hc1;exact rfl)|((with_reducible apply a_ia);(iterate 5 exact rfl);exact hix)|exact by_oa|exact by_ca);exact by_g)|refine wb ?_)
     refine q_loopT (j+1,{ i with key:=u }) ⟨by dsimp only;omega,hI⟩ (by dsimp only;omega) ?_
     exact by_less
    rw[if_neg q1]at hI
    by_cases q2:c=110
    ·
     rw[if_pos q2]at hI
     subst q2
     have cm:=ok_number u (by omega)
     cases hn:numV u with
     |some n =>
      rw[hn]at hI cm
      rw[numV_atoi hn]at cm
      repeat(first|refine wa ?_|((with_reducible apply s5);(first|((with_reducible apply(a_next (k:=j) 2));exact rfl;exact rfl;exact b2;exact hc1;exact rfl)|((with_reducible apply a_ia);(iterate 5 exact rfl);exact hix)|exact by_oa|exact by_ca);exact by_g)|refine wb ?_)
      refine q_loopT (j+1,{ i with n:=n }) ⟨by dsimp only;omega,hI⟩ (by dsimp only;omega) ?_
      exact by_less
     |none =>
      rw[hn]at hI cm
      dsimp only at hI
      subst hI
      dsimp only at hins
      rw[hins]
      generalize atoiV u=na at cm
      repeat(first|refine wa ?_|((with_reducible apply s5);(first|((with_reducible apply(a_next (k:=j) 2));exact rfl;exact rfl;exact b2;exact hc1;exact rfl)|((with_reducible apply a_ia);(iterate 5 exact rfl);exact hix)|exact by_oa|exact by_ca);exact by_g)|refine wb ?_)
      exact .two (.cell rfl rfl rfl rfl (.aggd (ds:=noIns.enc) rfl (.refl _))) (.tmp rfl (.one (.d (.refl _))))
    rw[if_neg q2]at hI
    have cc:=ok_cutp u [114]
    cases hrv:regV u with
    |some n =>
     rw[hrv]at hI
     dsimp only at hI
     obtain⟨r,rfl,q3⟩:=regV_some hrv
     have cm:=ok_number r (by simp at hul;omega)
     rw[q3,numV_atoi q3]at cm
     rw[(cutp_yes r).1,(cutp_yes r).2]at cc
     by_cases q4:c=114
     ·
      rw[if_pos q4]at hI
      subst q4
      repeat(first|refine wa ?_|((with_reducible apply s5);(first|((with_reducible apply(a_next (k:=j) 2));exact rfl;exact rfl;exact b2;exact hc1;exact rfl)|((with_reducible apply a_ia);(iterate 5 exact rfl);exact hix)|exact by_oa|exact by_ca);exact by_g)|refine wb ?_)
      refine q_loopT (j+1,{ i with a:=n }) ⟨by dsimp only;omega,hI⟩ (by dsimp only;omega) ?_
      exact by_less
     ·
      rw[if_neg q4]at hI
      obtain rfl:c=115:=by rcases hc with h|h|h|h <;> first|exact h|exact absurd h ‹_›
      repeat(first|refine wa ?_|((with_reducible apply s5);(first|((with_reducible apply(a_next (k:=j) 2));exact rfl;exact rfl;exact b2;exact hc1;exact rfl)|((with_reducible apply a_ia);(iterate 5 exact rfl);exact hix)|exact by_oa|exact by_ca);exact by_g)|refine wb ?_)
      refine q_loopT (j+1,{ i with b:=n }) ⟨by dsimp only;omega,hI⟩ (by dsimp only;omega) ?_
      exact by_less
    |none =>
     rw[hrv]at hI
     dsimp only at hI
     subst hI
     dsimp only at hins
     rw[hins]
     have hall:∃ u' b,FnOk Tryz.prog 163 [.d (dstr u),.d (dstr [114])] (.tup [dstr u',dbool b])∧u'.length≤u.length∧(b&&(numV u').isSome)=false:=by
      rcases regV_none hrv with rfl|⟨c0,r,rfl,q3⟩|⟨r,rfl,q3⟩
      ·
       refine⟨_,_,cc,?_,?_⟩
       ·
        rw[(cutp_no (u:=[]) (by simp)).2];exact Nat.le_refl _
       ·
        rw[(cutp_no (u:=[]) (by simp)).1];rfl
      ·
       have hne:∀ r',(c0::r:Str)≠114::r':=fun r' e=>by cases e;exact q3 rfl
       refine⟨_,_,cc,?_,?_⟩
       ·
        rw[(cutp_no hne).2];exact Nat.le_refl _
       ·
        rw[(cutp_no hne).1];rfl
      ·
       refine⟨_,_,cc,?_,?_⟩
       ·
        rw[(cutp_yes r).1];simp
       ·
        rw[(cutp_yes r).1,(cutp_yes r).2,q3];rfl
     obtain⟨u',b,cc,hul',hb⟩:=hall
     have cm:=ok_number u' (by omega)
     generalize atoiV u'=na at cm
     generalize (numV u').isSome=is at cm hb
     have hcs:c=114∨c=115:=by rcases hc with h|h|h|h <;> first|exact .inl h|exact .inr h|exact absurd h ‹_›
     rcases hcs with rfl|rfl
     ·
      cases b with
      |true =>
       obtain rfl:is=false:=by simpa using hb
       repeat(first|refine wa ?_|((with_reducible apply s5);(first|((with_reducible apply(a_next (k:=j) 2));exact rfl;exact rfl;exact b2;exact hc1;exact rfl)|((with_reducible apply a_ia);(iterate 5 exact rfl);exact hix)|exact by_oa|exact by_ca);exact by_g)|refine wb ?_)
       exact .two (.cell rfl rfl rfl rfl (.aggd (ds:=noIns.enc) rfl (.refl _))) (.tmp rfl (.one (.d (.refl _))))
      |false =>
       repeat(first|refine wa ?_|((with_reducible apply s5);(first|((with_reducible apply(a_next (k:=j) 2));exact rfl;exact rfl;exact b2;exact hc1;exact rfl)|((with_reducible apply a_ia);(iterate 5 exact rfl);exact hix)|exact by_oa|exact by_ca);exact by_g)|refine wb ?_)
       exact .two (.cell rfl rfl rfl rfl (.aggd (ds:=noIns.enc) rfl (.refl _))) (.tmp rfl (.one (.d (.refl _))))
     ·
      cases b with
      |true =>
       obtain rfl:is=false:=by simpa using hb
       repeat(first|refine wa ?_|((with_reducible apply s5);(first|((with_reducible apply(a_next (k:=j) 2));exact rfl;exact rfl;exact b2;exact hc1;exact rfl)|((with_reducible apply a_ia);(iterate 5 exact rfl);exact hix)|exact by_oa|exact by_ca);exact by_g)|refine wb ?_)
       exact .two (.cell rfl rfl rfl rfl (.aggd (ds:=noIns.enc) rfl (.refl _))) (.tmp rfl (.one (.d (.refl _))))
      |false =>
       repeat(first|refine wa ?_|((with_reducible apply s5);(first|((with_reducible apply(a_next (k:=j) 2));exact rfl;exact rfl;exact b2;exact hc1;exact rfl)|((with_reducible apply a_ia);(iterate 5 exact rfl);exact hix)|exact by_oa|exact by_ca);exact by_g)|refine wb ?_)
       exact .two (.cell rfl rfl rfl rfl (.aggd (ds:=noIns.enc) rfl (.refl _))) (.tmp rfl (.one (.d (.refl _))))
 ·
  rw[hins2 hlen]
  repeat(first|refine wa ?_|((with_reducible apply s5);(first|((with_reducible apply a_bin);exact rfl;exact rfl;exact hbk;exact rfl)|exact by_oa|exact by_ca);exact by_g)|refine wb ?_)
  exact .two (.cell rfl rfl rfl rfl (.aggd (ds:=noIns.enc) rfl (.refl _))) (.tmp rfl (.one (.d (.refl _))))
theorem ok_tparse (s:Str) (hbig:s.length≤1000000000):FnOk Tryz.prog 97 [.d (dstr s)] (.tup [.agg (parseR s).1.enc,dint (parseR s).2]):=by
 refine fnOk_of tbl_ok mixed_ok Tryz.func97 rfl (by kernel_rfl) rfl rfl fun w0 own0=>?_
 by_cases hs:400 < s.length
 ·
  have hP:parseE s = .error 4:=by unfold parseE;rw[if_pos hs]
  try refine wk ?_
  exact .two (.cell rfl rfl rfl rfl (.aggd rfl (no_le hP))) (.tmp rfl (.one (.d (er_le hP))))
 have c1:=ok_lsplit s [59,32] (by omega) (by simp)
 have hsl:=split_len s [59,32]
 have hsp:∀ p∈split s [59,32],p.length≤400:=fun p hp=>Nat.le_trans (split_part hp) (by omega)
 by_cases h2:(split s [59,32]).length < 2
 ·
  have hP:parseE s = .error 8:=by
   unfold parseE
   rw[if_neg hs]
   match split s [59,32],h2 with
   | [],_=>rfl
   | [_],_=>rfl
   |_::_::_,h=>simp at h;omega
  generalize split s [59,32]=l at *
  try refine wk ?_
  exact .two (.cell rfl rfl rfl rfl (.aggd rfl (no_le hP))) (.tmp rfl (.one (.d (er_le hP))))
 obtain⟨p0,p1,ps,e0⟩:∃ p0 p1 ps,split s [59,32]=p0::p1::ps:=by
  match split s [59,32],h2 with
  | [],h=>simp at h
  | [_],h=>simp at h
  |a::b::r,_=>exact⟨a,b,r,rfl⟩
 obtain⟨v0,rs,e1⟩:=split_cons p0 [32]
 obtain⟨v1,ws,e2⟩:=split_cons p1 [32]
 have hPF:=parseE_fin (by omega) e0 e1 e2
 generalize hl:split s [59,32]=l at *
 have h2l:2≤l.length:=by omega
 have hst0:StopA 7:=⟨rfl⟩
 try refine wkS ?_
 clear hst0
 refine Stop.go (CW.stut (stut_promote_cell (id:=1) (j:=2) 110 5 rfl) ⟨rfl,rfl,trivial⟩ ?_)
 try refine wk ?_
 refine CW.loopT (fun t:Nat×D×D×List Ins=>[sp 2 0,ob 0 noEnc,sp 5 1,(.o 1,.ob (.box [.d t.2.1,.d t.2.2.1,.own 2 t.2.2.2.length])),oa 2 110 5 (t.2.2.2.map Ins.enc),sd 22 (encStrs l),sd 23 (dint l.length),sd 24 (dint t.1),nxt 3])
  (fun t=>t.1≤l.length∧(t.1 < 2→t.2.2.2=[])∧(1≤t.1→v0=wReads∧t.2.1=encStrs rs)∧(2≤t.1→v1=wWrites∧t.2.2.1=encStrs ws)∧t.2.2.2.length≤t.1∧(2≤t.1→parseE s=finE rs ws t.2.2.2 (l.drop t.1))) (fun t=>l.length - t.1) (0,.v nilS,.v nilS,[])
  ⟨by dsimp only;omega,fun _=>rfl,fun h=>by dsimp only at h;omega,fun h=>by dsimp only at h;omega,by simp,fun h=>by dsimp only at h;omega⟩ ?_ ?_
 ·
  exact by_less
 ·
  rintro ⟨x,R,W,code⟩ ⟨hx,hc0,hR,hW,hc,hF⟩
  dsimp only at hx hc0 hR hW hc hF ⊢
  rcases drop_case hx with ⟨h1,h2⟩|⟨p,h1,h2,h3⟩
  ·
   obtain⟨_,rfl⟩:=hR (by omega)
   obtain⟨_,rfl⟩:=hW (by omega)
   have hF:=hF (by omega)
   rw[h1]at hF
   unfold finE at hF
   simp only[codeE,List.append_nil]at hF
   have hrs:∀ k∈rs,k.length≤400:=fun k hk=>Nat.le_trans (split_part (s:=p0) (sep:=[32]) (by rw[e1];exact List.mem_cons_of_mem _ hk)) (hsp p0 (by rw[e0];simp))
   have hws:∀ k∈ws,k.length≤400:=fun k hk=>Nat.le_trans (split_part (s:=p1) (sep:=[32]) (by rw[e2];exact List.mem_cons_of_mem _ hk)) (hsp p1 (by rw[e0];simp))
   have hrl:rs.length≤400:=by have:=split_len p0 [32];rw[e1]at this;have:=hsp p0 (by rw[e0];simp);simp at *;omega
   have hwl:ws.length≤400:=by have:=split_len p1 [32];rw[e2]at this;have:=hsp p1 (by rw[e0];simp);simp at *;omega
   have hsm:Deed.Sm ⟨rs,ws,code⟩:=⟨by dsimp only;omega,by dsimp only;omega,by dsimp only;omega,fun k hk=>by have:=hrs k hk;omega,fun k hk=>by have:=hws k hk;omega⟩
   have cw:=ok_pwrongDeed ⟨rs,ws,code⟩ hsm
   have co:=ok_deedOwn ⟨rs,ws,code⟩ hsm
   by_cases hw:wrongDeed ⟨rs,ws,code⟩=0
   ·
    rw[if_pos hw]at hF
    rw[hw]at cw
    have hr:parseR s=(⟨rs,ws,code⟩,0):=by unfold parseR;rw[hF];rfl
    rw[hr]
    have hst0:StopA 22:=⟨rfl⟩
    try refine wkS ?_
    clear hst0
    refine Stop.go (CW.stut (stut_freeze_cell (id:=1) (j:=2) (i:=2) rfl (by simp)) ⟨rfl,rfl,trivial⟩ ?_)
    try refine wk ?_
    exact .two (.cell rfl rfl rfl rfl (.aggd rfl (.refl _))) (.tmp rfl (.one (.d (.refl _))))
   ·
    rw[if_neg hw]at hF
    generalize wrongDeed ⟨rs,ws,code⟩=we at *
    have hst0:StopA 22:=⟨rfl⟩
    try refine wkS ?_
    clear hst0
    refine Stop.go (CW.stut (stut_freeze_cell (id:=1) (j:=2) (i:=2) rfl (by simp)) ⟨rfl,rfl,trivial⟩ ?_)
    try refine wk ?_
    exact .two (.cell rfl rfl rfl rfl (.aggd rfl (no_le hF))) (.tmp rfl (.one (.d (er_le hF))))
  ·
   have hp:p∈l:=List.mem_of_getElem? h2
   have hpl:=hsp p hp
   have c2:=ok_lsplit p [32] (by omega) (by simp)
   by_cases hx0:x=0
   ·
    subst hx0
    obtain rfl:=hc0 (by omega)
    have h2':=h2
    rw[e0]at h2
    obtain rfl:p0=p:=by simpa using h2
    rw[e1]at c2
    have hrl:rs.length≤400:=by have:=split_len p0 [32];rw[e1]at this;simp at *;omega
    have hw0:(v0::rs)[0]? = some v0:=rfl
    have hWd:wReads=[114,101,97,100,115]:=rfl
    by_cases hv:v0=wReads
    ·
     rw[hWd]at hv
     repeat(first|refine wa ?_|((with_reducible apply s5);(first|exact a_call c2 rfl by_sub|exact by_oa|exact by_ca);exact by_g)|refine wb ?_)
     refine q_loopT (1,encStrs rs,W,[]) ⟨by dsimp only;omega,fun _=>rfl,fun _=>⟨hv,rfl⟩,fun h=>by dsimp only at h;omega,by simp,fun h=>by dsimp only at h;omega⟩ (by dsimp only;omega) ?_
     exact by_less
    ·
     have hP:parseE s = .error 2:=by rw[hPF,if_neg hv]
     rw[hWd]at hv
     repeat(first|refine wa ?_|((with_reducible apply s5);(first|exact a_call c2 rfl by_sub|exact by_oa|exact by_ca);exact by_g)|refine wb ?_)
     exact .two (.cell rfl rfl rfl rfl (.aggd rfl (no_le hP))) (.tmp rfl (.one (.d (er_le hP))))
   by_cases hx1:x=1
   ·
    subst hx1
    obtain rfl:=hc0 (by omega)
    obtain⟨hv0,hR⟩:=hR (by omega)
    have h2':=h2
    rw[e0]at h2
    obtain rfl:p1=p:=by simpa using h2
    rw[e2]at c2
    have hwl:ws.length≤400:=by have:=split_len p1 [32];rw[e2]at this;simp at *;omega
    have hw0:(v1::ws)[0]? = some v1:=rfl
    have hWd:wWrites=[119,114,105,116,101,115]:=rfl
    by_cases hv:v1=wWrites
    ·
     have hv':=hv
     rw[hWd]at hv
     repeat(first|refine wa ?_|((with_reducible apply s5);(first|exact a_call c2 rfl by_sub|exact by_oa|exact by_ca);exact by_g)|refine wb ?_)
     refine q_loopT (2,R,encStrs ws,[]) ⟨by dsimp only;omega,fun h=>by dsimp only at h;omega,fun _=>⟨hv0,hR⟩,fun _=>⟨hv,rfl⟩,by simp,fun _=>by rw[hPF,if_pos hv0,if_pos hv',e0];rfl⟩ (by dsimp only;omega) ?_
     exact by_less
    ·
     have hP:parseE s = .error 2:=by rw[hPF,if_pos hv0,if_neg hv]
     rw[hWd]at hv
     repeat(first|refine wa ?_|((with_reducible apply s5);(first|exact a_call c2 rfl by_sub|exact by_oa|exact by_ca);exact by_g)|refine wb ?_)
     exact .two (.cell rfl rfl rfl rfl (.aggd rfl (no_le hP))) (.tmp rfl (.one (.d (er_le hP))))
   have hF:=hF (by omega)
   rw[h1,finE_cons]at hF
   obtain⟨w,wz,hwds⟩:=split_cons p [32]
   rw[hwds]at hF c2
   have hwl:wz.length≤400:=by have:=split_len p [32];rw[hwds]at this;simp at *;omega
   have ci:=ok_tinstr w wz (by omega) (fun u hu=>Nat.le_trans (split_part (s:=p) (sep:=[32]) (by rw[hwds];exact List.mem_cons_of_mem _ hu)) (by omega))
   have hw0:(w::wz)[0]? = some w:=rfl
   cases hI:insE (w::wz) with
   |error e =>
    rw[hI]at hF ci
    dsimp only at hF
    have he0:e≠0:=by
     intro e0'
     subst e0'
     simp only[insE]at hI
     split at hI
     ·
      cases hI
     ·
      split at hI
      ·
       split at hI <;> cases hI
      ·
       cases hI
    repeat(first|refine wa ?_|((with_reducible apply s5);(first|exact a_call c2 rfl by_sub|exact by_oa|exact by_ca);exact by_g)|refine wb ?_)
    exact .two (.cell rfl rfl rfl rfl (.aggd rfl (no_le hF))) (.tmp rfl (.one (.d (er_le hF))))
   |ok i =>
    rw[hI]at hF ci
    dsimp only at hF
    repeat(first|refine wa ?_|((with_reducible apply s5);(first|exact a_call c2 rfl by_sub|exact by_oa|exact by_ca);exact by_g)|refine wb ?_)
    refine q_loopT (x+1,R,W,code++[i]) ⟨by dsimp only;omega,fun h=>by dsimp only at h;omega,fun _=>hR (by omega),fun _=>hW (by omega),by dsimp only;simp;omega,fun _=>hF⟩ (by dsimp only;omega) ?_
    exact by_less
end Go.Proofs.YtccblhpfjlgmbaaGreatDoor
namespace Go.Proofs.YtccblhpfjlgmbaaGreatDoor
open Go.AX Go.RF
set_option maxRecDepth 100000
set_option maxHeartbeats 16000000
theorem noEntry_le:DLes [dint 0,.v nilS] noEntry.enc := .cons (.refl _) (.cons (dle_nil 3) .nil)
structure BForm (b:Str) (K:Nat) (h0 u v:UInt8) (L:Str):Prop where
 len:b.length=K+2
 k:1≤K
 l:L.length+1=K
 ph:b[0]? = some h0
 pu:b[K]? = some u
 pv:b[K+1]? = some v
 t:b.take K=h0::L
 pb:(b.take K).drop 1=L
 p:parseB b=if sumN 1 (b.take K)=u.toNat*256+v.toNat then
   (if (split L [10]).getLast? = some [] then match parseL (split L [10]).dropLast with
    |.error e => .error e
    |.ok ds=>if wrongEntry ⟨h0.toNat,ds⟩=0 then .ok ⟨h0.toNat,ds⟩ else .error (wrongEntry ⟨h0.toNat,ds⟩)
   else .error 2)
  else .error 2
theorem bform {b:Str}(h:3≤b.length):∃ K h0 u v L,BForm b K h0 u v L:=by
 obtain⟨h0,L,u,v,rfl⟩:=bytes_form h
 refine⟨L.length+1,h0,u,v,L,⟨by simp,by omega,rfl,rfl,by simp,by simp,by simp,by simp,?_⟩⟩
 rw[parseB_app]
 simp
 all_goals rfl
theorem idx_i {α:Type}{l:List α}{f:α→List D}{k:Nat}{m:Int}{x:α}(h:l[k]? = some x) (hm:m=(k:Int)):idx (l.map f) m=some (f x):=by
 subst hm;exact idx_map h
theorem cut_toI {l:Str}{k:Nat}{m:Int}(h:k≤l.length) (hm:m=(k:Int)):cutI (l.map byteD) none (some m)=some ((l.take k).map byteD):=by
 subst hm
 rw[cut_to (by simpa using h),List.map_take]
theorem cut_ftI {l:Str}{j k:Nat}{m q:Int}(hj:j≤k) (h:k≤l.length) (hm:m=(j:Int)) (hq:q=(k:Int)):cutI (l.map byteD) (some m) (some q)=some (((l.take k).drop j).map byteD):=by
 subst hm hq
 rw[cut_ft hj (by simpa using h),List.map_drop,List.map_take]
theorem ok_lparse (b:Str) (hb:b.length≤100000000):FnOk Tryz.prog 65 [.d (encBytes b)] (.tup [.agg (resB (parseB b)).1.enc,dint (resB (parseB b)).2]):=by
 refine fnOk_of tbl_ok mixed_ok Tryz.func65 rfl (by kernel_rfl) rfl rfl fun w0 own0=>?_
 by_cases h3:b.length < 3
 ·
  have hp:parseB b = .error 8:=by unfold parseB;rw[if_pos h3]
  rw[hp]
  try refine wk ?_
  exact .two (.cell rfl rfl rfl rfl (.aggd (ds:=[dint 0,.v nilS]) rfl noEntry_le.agg)) (.tmp rfl (.one (.d (.refl _))))
 obtain⟨K,h0,u,v,L,⟨f1,f2,f3,f4,f5,f6,f7,f8,f9⟩⟩:=bform (b:=b) (by omega)
 have hu:=u.toNat_lt
 have hv:=v.toNat_lt
 have hh:=h0.toNat_lt
 have c1:=ok_lsum (b.take K) (by rw[List.length_take];omega)
 rw[f9]
 by_cases g1:sumN 1 (b.take K)=u.toNat*256+v.toNat
 rotate_left
 ·
  rw[if_neg g1]
  generalize sumN 1 (b.take K)=S at *
  repeat(first|refine wa ?_|((with_reducible apply s5);(first|((with_reducible apply a_ia);(iterate 5 exact rfl);first|exact idx_i f5 (by simp;omega)|exact idx_i f6 (by simp;omega)|exact idx_i f4 rfl)|((with_reducible apply a_to);(iterate 5 exact rfl);exact cut_toI (k:=K) (by omega) (by simp;omega))|((with_reducible apply a_bin);exact rfl;exact rfl;(first|((with_reducible apply bin_shlJ);exact rfl;exact hu)|((with_reducible apply bin_or8);exact hu;exact hv));exact rfl)|exact by_oa|exact by_ca);exact by_g)|refine wb ?_)
  exact .two (.cell rfl rfl rfl rfl (.aggd (ds:=[dint 0,.v nilS]) rfl noEntry_le.agg)) (.tmp rfl (.one (.d (.refl _))))
 rw[if_pos g1]
 rw[g1]at c1
 have c2:=ok_lsplit L [10] (by omega) (by simp)
 have hsl:=split_len L [10]
 have hsp:∀ p∈split L [10],p.length≤L.length:=fun p hp=>split_part hp
 have hne:split L [10]≠[]:=splitF_ne [10] L.length [] L
 generalize split L [10]=ls at *
 obtain⟨x,hx⟩:∃ x,ls.getLast? = some x:=⟨_,List.getLast?_eq_some_getLast hne⟩
 have hxi:ls[ls.length - 1]? = some x:=by rw[← List.getLast?_eq_getElem?];exact hx
 have hlp:=List.length_pos_iff.2 hne
 have hdl:ls.dropLast=ls.take (ls.length - 1):=List.dropLast_eq_take
 have hcutd:∀ m:Int,m=(ls.length:Int) - 1→cutI (ls.map encStr1) none (some m)=some (ls.dropLast.map encStr1):=fun m hm=>by
  rw[hm,show(ls.length:Int) - 1=((ls.length - 1:Nat):Int) by omega,cut_to (by simp),hdl,List.map_take]
 have hcut:∀ m:Int,m=(K:Int)→cutI (b.map byteD) (some 1) (some m)=some (L.map byteD):=fun m hm=>by
  have:=cut_ftI (l:=b) (j:=1) (k:=K) (m:=1) (q:=m) (by omega) (by omega) rfl hm
  rwa [f8]at this
 rw[hx]
 by_cases g2:x=[]
 rotate_left
 ·
  rw[if_neg (by simpa using g2)]
  repeat(first|refine wa ?_|((with_reducible apply s5);(first|((with_reducible apply a_ia);(iterate 5 exact rfl);first|exact idx_i f5 (by simp;omega)|exact idx_i f6 (by simp;omega)|exact idx_i f4 rfl)|((with_reducible apply a_to);(iterate 5 exact rfl);exact cut_toI (k:=K) (by omega) (by simp;omega))|((with_reducible apply a_bin);exact rfl;exact rfl;(first|((with_reducible apply bin_shlJ);exact rfl;exact hu)|((with_reducible apply bin_or8);exact hu;exact hv));exact rfl)|((with_reducible apply a_ft);(iterate 6 exact rfl);exact hcut _ (by first|(simp;done)|(simp;omega)))|((with_reducible apply a_b2s);(iterate 8 exact rfl))|((with_reducible apply a_ia);(iterate 5 exact rfl);exact idx_i hxi (by first|(simp;omega)|omega))|exact by_oa|exact by_ca);exact by_g)|refine wb ?_)
  exact .two (.cell rfl rfl rfl rfl (.aggd (ds:=[dint 0,.v nilS]) rfl noEntry_le.agg)) (.tmp rfl (.one (.d (.refl _))))
 subst g2
 rw[if_pos rfl]
 have hml:ls.dropLast.length≤L.length+1:=by rw[List.length_dropLast];omega
 have hmp:∀ p∈ls.dropLast,p.length≤L.length:=fun p hp=>hsp p (by rw[hdl]at hp;exact List.mem_of_mem_take hp)
 repeat(first|refine wa ?_|((with_reducible apply s5);(first|((with_reducible apply a_ia);(iterate 5 exact rfl);first|exact idx_i f5 (by simp;omega)|exact idx_i f6 (by simp;omega)|exact idx_i f4 rfl)|((with_reducible apply a_to);(iterate 5 exact rfl);exact cut_toI (k:=K) (by omega) (by simp;omega))|((with_reducible apply a_bin);exact rfl;exact rfl;(first|((with_reducible apply bin_shlJ);exact rfl;exact hu)|((with_reducible apply bin_or8);exact hu;exact hv));exact rfl)|((with_reducible apply a_ft);(iterate 6 exact rfl);exact hcut _ (by first|(simp;done)|(simp;omega)))|((with_reducible apply a_b2s);(iterate 8 exact rfl))|((with_reducible apply a_ia);(iterate 5 exact rfl);exact idx_i hxi (by first|(simp;omega)|omega))|((with_reducible apply a_to);(iterate 5 exact rfl);exact hcutd _ (by simp))|exact by_oa|exact by_ca);exact by_g)|refine wb ?_)
 refine CW.stut (stut_promote_cell (id:=1) (j:=1) 77 3 rfl) ⟨rfl,rfl,trivial⟩ ?_
 generalize ls.dropLast=ms at *
 refine CW.loopT (fun t:Nat×List Deed=>[sp 2 0,ob 0 [dint 0,.v nilS],sd 3 (dint 0),sp 5 1,(.o 1,.ob (.box [.d (dint h0.toNat),.own 2 t.1])),oa 2 77 3 (t.2.map Deed.enc),sd 60 (encStrs ms),sd 61 (dint ms.length),sd 62 (dint t.1),nxt 3])
  (fun t=>t.1≤ms.length∧t.2.length=t.1∧(∀ d∈t.2,wrongDeed d=0)∧accL t.2 (parseL (ms.drop t.1))=parseL ms) (fun t=>ms.length - t.1) (0,[]) ⟨by dsimp only;omega,rfl,by simp,by dsimp only;rw[List.drop_zero];cases parseL ms <;> rfl⟩ ?_ ?_
 ·
  exact by_less
 ·
  rintro ⟨j,ds⟩ ⟨hj,hl,hw,hI⟩
  dsimp only at hj hl hw hI ⊢
  rcases drop_case hj with ⟨k1,k2⟩|⟨s,k1,k2,k3⟩
  ·
   rw[k1,parseL]at hI
   simp only[accL,List.append_nil]at hI
   rw[← hI]
   dsimp only
   have c3:=ok_lwrong ⟨h0.toNat,ds⟩ (fun d hd=>wrong_sm (hw d hd)) (by dsimp only;omega)
   have hst0:StopA 18:=⟨rfl⟩
   try refine wkS ?_
   clear hst0
   refine Stop.go (CW.stut (stut_freeze_cell (id:=1) (j:=1) (i:=2) rfl (by simp;omega)) ⟨rfl,rfl,trivial⟩ ?_)
   by_cases g3:wrongEntry ⟨h0.toNat,ds⟩=0
   ·
    rw[if_pos g3]
    rw[g3]at c3
    try refine wk ?_
    exact .two (.cell rfl rfl rfl rfl (.aggd (ds:=Entry.enc ⟨h0.toNat,ds⟩) rfl (.refl _))) (.tmp rfl (.one (.d (.refl _))))
   ·
    rw[if_neg g3]
    generalize wrongEntry ⟨h0.toNat,ds⟩=W at *
    try refine wk ?_
    exact .two (.cell rfl rfl rfl rfl (.aggd (ds:=[dint 0,.v nilS]) rfl noEntry_le.agg)) (.tmp rfl (.one (.d (.refl _))))
  ·
   rw[k1]at hI
   simp only[parseL]at hI
   have hsl:=hmp s (List.mem_of_getElem? k2)
   have c3:=ok_tparse s (by omega)
   cases hp:parseE s with
   |error e =>
    rw[hp]at hI
    rw[parseR_err hp]at c3
    have he:=parseE_err hp
    simp only[accL]at hI
    rw[← hI]
    repeat(first|refine wa ?_|((with_reducible apply s5);(first|exact a_call c3 rfl by_sub|exact by_oa|exact by_ca);exact by_g)|refine wb ?_)
    exact .two (.cell rfl rfl rfl rfl (.aggd (ds:=[dint 0,.v nilS]) rfl noEntry_le.agg)) (.tmp rfl (.one (.d (.refl _))))
   |ok d =>
    rw[hp]at hI
    rw[parseR_ok hp]at c3
    have hd:=parseE_right hp
    dsimp only at hI c3
    have hI2:accL (ds++[d]) (parseL (ms.drop (j+1)))=parseL ms:=by
     rw[← hI]
     cases parseL (ms.drop (j+1)) with
     |error e=>rfl
     |ok l=>simp[accL]
    repeat(first|((with_reducible apply s5);((with_reducible apply a_bs [d.enc]);(iterate 9 exact rfl);(repeat(first|exact PartsE.nil|(apply PartsE.cons;exact rfl;exact rfl))));exact by_g)|refine wa1 ?_|((with_reducible apply s5);(first|exact a_call c3 rfl by_sub|exact by_oa|exact by_ca);exact by_g)|refine wb ?_)
    refine q_loopT (j+1,ds++[d]) ⟨by dsimp only;omega,by simp;omega,fun y hy=>?_,hI2⟩ (by dsimp only;omega) ?_
    ·
     rcases List.mem_append.1 hy with hy|hy
     ·
      exact hw y hy
     ·
      rw[List.mem_singleton.1 hy];exact hd
    exact by_less
theorem ok_rparse6 (b:Str) (hb:b.length≤100000000):FnOk Tryz.prog 44 [.d (encBytes b)] (.tup [.agg (resB (parseB b)).1.enc,dint (resB (parseB b)).2]):=by
 refine fnOk_of tbl_ok mixed_ok Tryz.func44 rfl (by kernel_rfl) rfl rfl fun w0 own0=>?_
 by_cases h3:b.length < 3
 ·
  have hp:parseB b = .error 8:=by unfold parseB;rw[if_pos h3]
  rw[hp]
  try refine wk ?_
  exact .two (.cell rfl rfl rfl rfl (.aggd (ds:=[dint 0,.v nilS]) rfl noEntry_le.agg)) (.tmp rfl (.one (.d (.refl _))))
 obtain⟨K,h0,u,v,L,⟨f1,f2,f3,f4,f5,f6,f7,f8,f9⟩⟩:=bform (b:=b) (by omega)
 have hu:=u.toNat_lt
 have hv:=v.toNat_lt
 have hh:=h0.toNat_lt
 have c1:=ok_rsum (b.take K) (by rw[List.length_take];omega)
 rw[f9]
 by_cases g1:sumN 1 (b.take K)=u.toNat*256+v.toNat
 rotate_left
 ·
  rw[if_neg g1]
  generalize sumN 1 (b.take K)=S at *
  repeat(first|refine wa ?_|((with_reducible apply s5);(first|((with_reducible apply a_ia);(iterate 5 exact rfl);first|exact idx_i f5 (by simp;omega)|exact idx_i f6 (by simp;omega)|exact idx_i f4 rfl)|((with_reducible apply a_to);(iterate 5 exact rfl);exact cut_toI (k:=K) (by omega) (by simp;omega))|((with_reducible apply a_bin);exact rfl;exact rfl;(with_reducible apply bin_mul);(exact by omega);exact rfl)|exact by_oa|exact by_ca);exact by_g)|refine wb ?_)
  exact .two (.cell rfl rfl rfl rfl (.aggd (ds:=[dint 0,.v nilS]) rfl noEntry_le.agg)) (.tmp rfl (.one (.d (.refl _))))
 rw[if_pos g1]
 rw[g1]at c1
 have hlast:=split_last L L.length [] (Nat.le_refl _)
 have hgo:=goL_split L L.length [] [] (Nat.le_refl _)
 have hspl:split L [10]=splitF [10] L.length [] L:=rfl
 rw[hspl]
 by_cases g2:(splitF [10] L.length [] L).getLast? = some []
 rotate_left
 ·
  rw[if_neg g2]
  have hL:L≠[]:=fun h=>g2 (hlast.2 (.inl ⟨h,rfl⟩))
  obtain⟨z,hz⟩:∃ z,L.getLast? = some z:=⟨_,List.getLast?_eq_some_getLast hL⟩
  have hz10:z≠10:=fun h=>g2 (hlast.2 (.inr (by rw[hz,h])))
  have hLp:=List.length_pos_iff.2 hL
  have hzb:b[K - 1]? = some z:=by
   rw[List.getLast?_eq_getElem?]at hz
   have h1:(b.take K)[K - 1]? = some z:=by
    rw[f7,show K - 1=(L.length - 1)+1 by omega,List.getElem?_cons_succ];exact hz
   rw[List.getElem?_take,if_pos (by omega)]at h1
   exact h1
  have hzn:z.toNat≠10:=fun h=>hz10 (UInt8.toNat_inj.1 h)
  have hzl:=z.toNat_lt
  repeat(first|refine wa ?_|((with_reducible apply s5);(first|((with_reducible apply a_ia);(iterate 5 exact rfl);first|exact idx_i f5 (by simp;omega)|exact idx_i f6 (by simp;omega)|exact idx_i f4 rfl)|((with_reducible apply a_to);(iterate 5 exact rfl);exact cut_toI (k:=K) (by omega) (by simp;omega))|((with_reducible apply a_bin);exact rfl;exact rfl;(with_reducible apply bin_mul);(exact by omega);exact rfl)|((with_reducible apply a_ia);(iterate 5 exact rfl);exact idx_i hzb (by first|(simp;omega)|omega))|exact by_oa|exact by_ca);exact by_g)|refine wb ?_)
  exact .two (.cell rfl rfl rfl rfl (.aggd (ds:=[dint 0,.v nilS]) rfl noEntry_le.agg)) (.tmp rfl (.one (.d (.refl _))))
 rw[if_pos g2]
 have hgo2:=hgo g2
 have hfin:accL [] (parseL (splitF [10] L.length [] L).dropLast)=parseL (splitF [10] L.length [] L).dropLast:=by
  cases parseL (splitF [10] L.length [] L).dropLast <;> rfl
 rw[hfin]at hgo2
 rw[← hgo2]
 have hz10:L=[]∨b[K - 1]? = some 10:=by
  rcases hlast.1 g2 with h|h
  ·
   exact .inl h.1
  ·
   by_cases hL:L=[]
   ·
    exact .inl hL
   ·
    right
    have hLp:=List.length_pos_iff.2 hL
    rw[List.getLast?_eq_getElem?]at h
    have h1:(b.take K)[K - 1]? = some 10:=by
     rw[f7,show K - 1=(L.length - 1)+1 by omega,List.getElem?_cons_succ];exact h
    rw[List.getElem?_take,if_pos (by omega)]at h1
    exact h1
 have hz2:¬ 1 < K∨(1 < K∧b[K - 1]? = some 10):=by
  rcases hz10 with h|h
  ·
   left;rw[h]at f3;simp at f3;omega
  ·
   by_cases hk:1 < K
   ·
    exact .inr ⟨hk,h⟩
   ·
    exact .inl hk
 clear hlast hgo hfin hz10
 obtain⟨tgt,htg⟩:∃ tgt,goL [] [] L=tgt:=⟨_,rfl⟩
 rw[htg]
 have hcf:∀ (m q:Nat),m≤q→q≤K→cutI (b.map byteD) (some (m:Int)) (some (q:Int))=some (((b.take q).drop m).map byteD):=fun m q h1 h2=>cut_ftI h1 (by omega) rfl rfl
 have hst0:StopA 6:=⟨rfl⟩
 repeat(first|refine waS ?_|((with_reducible apply s5);(first|((with_reducible apply a_ia);(iterate 5 exact rfl);first|exact idx_i f5 (by simp;omega)|exact idx_i f6 (by simp;omega)|exact idx_i f4 rfl)|((with_reducible apply a_to);(iterate 5 exact rfl);exact cut_toI (k:=K) (by omega) (by simp;omega))|((with_reducible apply a_bin);exact rfl;exact rfl;(with_reducible apply bin_mul);(exact by omega);exact rfl)|exact by_oa|exact by_ca);exact by_g)|refine wb ?_)
 clear hst0
 refine Stop.cutk [] [.s 0,.s 2,.s 3,.s 4,.o 0,.nx] ?_ ?_
 ·
  rcases hz2 with hk|⟨hk,hz⟩
  ·
   repeat(first|refine wa ?_|((with_reducible apply s5);(first|((with_reducible apply a_ia);(iterate 5 exact rfl);first|exact idx_i f5 (by simp;omega)|exact idx_i f6 (by simp;omega)|exact idx_i f4 rfl)|((with_reducible apply a_to);(iterate 5 exact rfl);exact cut_toI (k:=K) (by omega) (by simp;omega))|((with_reducible apply a_bin);exact rfl;exact rfl;(with_reducible apply bin_mul);(exact by omega);exact rfl)|exact by_oa|exact by_ca);exact by_g)|refine wb ?_)
   refine q_cut ?_
   exact by_less
  ·
   repeat(first|refine wa ?_|((with_reducible apply s5);(first|((with_reducible apply a_ia);(iterate 5 exact rfl);first|exact idx_i f5 (by simp;omega)|exact idx_i f6 (by simp;omega)|exact idx_i f4 rfl)|((with_reducible apply a_to);(iterate 5 exact rfl);exact cut_toI (k:=K) (by omega) (by simp;omega))|((with_reducible apply a_bin);exact rfl;exact rfl;(with_reducible apply bin_mul);(exact by omega);exact rfl)|((with_reducible apply a_ia);(iterate 5 exact rfl);exact idx_i hz (by simp;omega))|exact by_oa|exact by_ca);exact by_g)|refine wb ?_)
   refine q_cut ?_
   exact by_less
 clear hz2
 repeat(first|refine wa ?_|((with_reducible apply s5);(first|((with_reducible apply a_ia);(iterate 5 exact rfl);first|exact idx_i f5 (by simp;omega)|exact idx_i f6 (by simp;omega)|exact idx_i f4 rfl)|((with_reducible apply a_to);(iterate 5 exact rfl);exact cut_toI (k:=K) (by omega) (by simp;omega))|((with_reducible apply a_bin);exact rfl;exact rfl;(with_reducible apply bin_mul);(exact by omega);exact rfl)|exact by_oa|exact by_ca);exact by_g)|refine wb ?_)
 refine CW.stut (stut_promote_cell (id:=1) (j:=1) 77 3 rfl) ⟨rfl,rfl,trivial⟩ ?_
 refine CW.loopT (fun t:Nat×Nat×List Deed=>[sd 0 (encBytes b),sp 2 0,ob 0 [dint 0,.v nilS],sd 3 (dint 0),sd 4 (dint K),sp 5 1,(.o 1,.ob (.box [.d (dint h0.toNat),.own 2 t.2.2.length])),oa 2 77 3 (t.2.2.map Deed.enc),sd 6 (dint t.2.1),sd 7 (dint t.1),nxt 3])
  (fun t=>(1≤t.2.1∧t.2.1≤t.1∧t.1≤K)∧t.2.2.length≤t.1∧(∀ d∈t.2.2,wrongDeed d=0)∧goL ((b.take t.1).drop t.2.1) t.2.2 ((b.take K).drop t.1)=tgt) (fun t=>K - t.1) (1,1,[]) ⟨⟨by dsimp only;omega,by dsimp only;omega,by dsimp only;omega⟩,by simp,by simp,?_⟩ ?_ ?_
 ·
  dsimp only
  rw[f8,List.drop_eq_nil_of_le (by rw[List.length_take];omega)]
  exact htg
 ·
  exact by_less
 ·
  rintro ⟨i,fr,ds⟩ ⟨⟨i1,i2,i3⟩,hl,hw,hI⟩
  dsimp only at i1 i2 i3 hl hw hI ⊢
  by_cases hiK:i < K
  ·
   obtain⟨c,hc⟩:∃ c,b[i]? = some c:=⟨b[i]'(by omega),List.getElem?_eq_getElem (by omega)⟩
   have hcl:=c.toNat_lt
   have hdr:(b.take K).drop i=c::(b.take K).drop (i+1):=by
    have h1:(b.take K)[i]? = some c:=by rw[List.getElem?_take,if_pos hiK];exact hc
    obtain⟨h2,h3⟩:=List.getElem?_eq_some_iff.1 h1
    rw[List.drop_eq_getElem_cons h2,h3]
   have hcur:(b.take (i+1)).drop fr=(b.take i).drop fr++[c]:=by
    rw[List.take_add_one,hc]
    exact List.drop_append_of_le_length (by rw[List.length_take];omega)
   rw[hdr]at hI
   simp only[goL]at hI
   by_cases hc10:c=10
   ·
    rw[if_pos hc10]at hI
    have hcn:c.toNat=10:=by rw[hc10];rfl
    have c3:=ok_parse ((b.take i).drop fr) (by rw[List.length_drop,List.length_take];omega)
    have hcut:=hcf fr i i2 i3
    cases hp:parseE ((b.take i).drop fr) with
    |error e =>
     rw[hp]at hI
     rw[parseR_err hp]at c3
     have he:=parseE_err hp
     dsimp only at hI c3
     subst hI
     repeat(first|refine wa ?_|((with_reducible apply s5);(first|((with_reducible apply a_ia);(iterate 5 exact rfl);first|exact idx_i f5 (by simp;omega)|exact idx_i f6 (by simp;omega)|exact idx_i f4 rfl)|((with_reducible apply a_ft);(iterate 6 exact rfl);exact hcut)|((with_reducible apply a_b2s);(iterate 8 exact rfl))|exact by_oa|exact by_ca);exact by_g)|refine wb ?_)
     exact .two (.cell rfl rfl rfl rfl (.aggd (ds:=[dint 0,.v nilS]) rfl noEntry_le.agg)) (.tmp rfl (.one (.d (.refl _))))
    |ok d =>
     rw[hp]at hI
     rw[parseR_ok hp]at c3
     have hd:=parseE_right hp
     dsimp only at hI c3
     generalize (b.take i).drop fr=cur at *
     repeat(first|((with_reducible apply s5);((with_reducible apply a_bs [d.enc]);(iterate 9 exact rfl);(repeat(first|exact PartsE.nil|(apply PartsE.cons;exact rfl;exact rfl))));exact by_g)|refine wa1 ?_|((with_reducible apply s5);(first|((with_reducible apply a_ia);(iterate 5 exact rfl);first|exact idx_i f5 (by simp;omega)|exact idx_i f6 (by simp;omega)|exact idx_i f4 rfl)|((with_reducible apply a_ft);(iterate 6 exact rfl);exact hcut)|((with_reducible apply a_b2s);(iterate 8 exact rfl))|exact by_oa|exact by_ca);exact by_g)|refine wb ?_)
     refine q_loopT (i+1,i+1,ds++[d]) ⟨⟨by dsimp only;omega,by dsimp only;omega,by dsimp only;omega⟩,by simp;omega,fun y hy=>?_,?_⟩ (by dsimp only;omega) ?_
     ·
      rcases List.mem_append.1 hy with hy|hy
      ·
       exact hw y hy
      ·
       rw[List.mem_singleton.1 hy];exact hd
     ·
      dsimp only
      rw[List.drop_eq_nil_of_le (by rw[List.length_take];omega)]
      exact hI
     exact by_less
   ·
    rw[if_neg hc10]at hI
    have hcn:c.toNat≠10:=fun h=>hc10 (UInt8.toNat_inj.1 h)
    repeat(first|refine wa ?_|((with_reducible apply s5);(first|((with_reducible apply a_ia);(iterate 5 exact rfl);first|exact idx_i f5 (by simp;omega)|exact idx_i f6 (by simp;omega)|exact idx_i f4 rfl)|exact by_oa|exact by_ca);exact by_g)|refine wb ?_)
    refine q_loopT (i+1,fr,ds) ⟨⟨i1,by dsimp only;omega,by dsimp only;omega⟩,by dsimp only;omega,hw,by dsimp only;rw[hcur];exact hI⟩ (by dsimp only;omega) ?_
    exact by_less
  ·
   obtain rfl:i=K:=by omega
   have hnil:(b.take i).drop i=[]:=List.drop_eq_nil_of_le (by rw[List.length_take];omega)
   rw[hnil]at hI
   simp only[goL]at hI
   subst hI
   dsimp only
   have c3:=ok_rwrongEntry ⟨h0.toNat,ds⟩ (fun d hd=>wrong_sm (hw d hd)) (by dsimp only;omega)
   have hst0:StopA 19:=⟨rfl⟩
   try refine wkS ?_
   clear hst0
   refine Stop.go (CW.stut (stut_freeze_cell (id:=1) (j:=1) (i:=2) rfl (by simp)) ⟨rfl,rfl,trivial⟩ ?_)
   by_cases g3:wrongEntry ⟨h0.toNat,ds⟩=0
   ·
    rw[if_pos g3]
    rw[g3]at c3
    repeat(first|refine wa ?_|((with_reducible apply s5);(first|exact a_call c3 rfl by_sub|exact by_oa|exact by_ca);exact by_g)|refine wb ?_)
    exact .two (.cell rfl rfl rfl rfl (.aggd (ds:=Entry.enc ⟨h0.toNat,ds⟩) rfl (.refl _))) (.tmp rfl (.one (.d (.refl _))))
   ·
    rw[if_neg g3]
    generalize wrongEntry ⟨h0.toNat,ds⟩=W at *
    repeat(first|refine wa ?_|((with_reducible apply s5);(first|exact a_call c3 rfl by_sub|exact by_oa|exact by_ca);exact by_g)|refine wb ?_)
    exact .two (.cell rfl rfl rfl rfl (.aggd (ds:=[dint 0,.v nilS]) rfl noEntry_le.agg)) (.tmp rfl (.one (.d (.refl _))))
end Go.Proofs.YtccblhpfjlgmbaaGreatDoor
namespace Go.AX
open Go.RowKit
variable {cx:Cx}{g:Nat→Value}{σ σ':St}{a:Act}{w w':World}{nx:Nat}
variable {ty:TypeId}{pos:String}{af:Array Edge}{gd:Option (Nat×Bool)}{d:Nat}
theorem rep_flat {α:Type}{l:List α}:∀ {n q:Nat},q < n*l.length→(List.replicate n l).flatten[q]? = l[q%l.length]?
 |0,q,h=>by omega
 |n+1,q,h=>by
  rw[List.replicate_succ,List.flatten_cons]
  rcases Nat.lt_or_ge q l.length with h1|h1
  ·
   rw[List.getElem?_append_left h1,Nat.mod_eq_of_lt h1]
  ·
   rw[List.getElem?_append_right h1,rep_flat (by rw[Nat.add_mul,Nat.one_mul]at h;omega),← Nat.mod_eq_sub_mod h1]
theorem a_make {t:TypeId}{e k n:Nat}{kl kc:IntKind}{x y:Operand}{ti te:TI}(hx:ev σ x=some (.d (.v (.int kl (n:Int))))) (hy:ev σ y=some (.d (.v (.int kc (n:Int))))) (ht:tget cx.T t=some ti) (hk:ti.kind = .sl e k)
  (hte:tget cx.T e=some te) (h1:(te.zero.all Value.oneCell')=true) (hk0:Nat.blt 0 k=true) (hby:Nat.ble te.bytes 65536=true) (hd:Nat.blt d cx.n=true) (hn:n≤1000000) :
  OA cx σ ⟨some d,.makeSlice t x y,ty,pos,af,gd⟩ ⟨rdOf x (.d (.v (.int kl (n:Int))))++rdOf y (.d (.v (.int kc (n:Int)))),[(.s d,.av (.d (.sl k (List.replicate n (te.zero.map D.v)))))]⟩:=by
 refine⟨ok_val rfl (lt_of_blt hd) fun σ1 a w g nx hs hr=>?_,(ev_out hx).2.append (ev_out hy).2⟩
 have hvx:=rep_v (hs.ev (ev_out hx).1 hr.left).1
 have hvy:=rep_v (hs.ev (ev_out hy).1 hr.right).1
 have hF:=(cx.hT t ti ht).kind
 rw[hk]at hF
 obtain⟨hu,⟨ie,hie,hks⟩,_⟩:=hF
 obtain⟨ie',hie',hes,heb,z,hz,hzc⟩:=(cx.hT e te hte).info
 rw[hie]at hie'
 cases hie'
 have hzl:z.cells.size=k:=by
  have:=(cx.hT e te hte).len
  rw[← hzc]at this
  simp at this
  omega
 have hk0':0 < k:=lt_of_blt hk0
 have hby':te.bytes≤65536:=by simpa using hby
 have hbb:ie.bytes*n≤65536*1000000:=Nat.mul_le_mul (by omega) hn
 have hbn:(ie.bytes:Int)*(n:Int)≤281474976710656:=by
  have:((ie.bytes*n:Nat):Int)≤281474976710656:=by omega
  rwa [Int.natCast_mul]at this
 have hrun:=run_make (P:=cx.P) w t e ie z hu hie hz kl kc n n (by omega) (Int.le_refl _) hbn (by omega)
 simp only[Int.toNat_natCast,hks]at hrun
 have hzt:te.zero=z.cells.toList:=hzc.symm
 have hmade:∀ q,q < n*k→(madeCells z.cells (n*k)).toList[q]? = (te.zero)[q%k]? := fun q hq=>by
  have hlt:q%k < z.cells.size:=by rw[hzl];exact Nat.mod_lt _ hk0'
  have h2:(madeCells z.cells (n*k))[q]? = some (z.cells[q%z.cells.size]!):=by simp[madeCells,hq]
  rw[Array.getElem?_toList,h2,hzt,Array.getElem?_toList,hzl,getElem!_pos z.cells _ hlt,Array.getElem?_eq_getElem hlt]
 have hzlen:(te.zero.map D.v).length=k:=by rw[hzt];simp[hzl]
 have hflat:∀ q,q < n*k→(List.replicate n (te.zero.map D.v)).flatten[q]? = (te.zero.map D.v)[q%k]? := fun q hq=>by
  have:=rep_flat (l:=te.zero.map D.v) (n:=n) (q:=q) (by rw[hzlen];exact hq)
  rwa [hzlen]at this
 have hfl:(List.replicate n (te.zero.map D.v)).flatten.length=n*k:=by
  rw[List.length_flatten,List.map_replicate,hzlen,List.sum_replicate_nat]
 refine⟨.slice (some ⟨w.heap.size,0,none⟩) n n,w.alloc (.cells (madeCells z.cells (n*k)) e),by simp only[execOp,hvx,hvy];simp[hrun],(Below.refl _ _).alloc (Nat.le_refl _) _,rd_new (fun b hb=>own_lt hs hb) ⟨?_,fun c hc=>?_,fun j c x hj hc=>?_⟩ (fun r hr=>by rw[List.eq_of_mem_replicate hr];exact hzlen) n (by simp),trivial⟩
 ·
  rw[hfl];simp[size_madeCells]
 ·
  obtain⟨q,hq⟩:=List.mem_iff_getElem?.1 hc
  have hql:q < n*k:=by
   have:=(List.getElem?_eq_some_iff.1 hq).1
   simpa[size_madeCells] using this
  rw[hmade q hql]at hq
  exact List.all_eq_true.1 h1 c (List.mem_of_getElem? hq)
 ·
  have hql:j < n*k:=by
   have:=(List.getElem?_eq_some_iff.1 hj).1
   rw[hfl]at this
   exact this
  rw[hmade j hql]at hc
  rw[hflat j hql,List.getElem?_map,hc]at hj
  obtain rfl:D.v c=x:=by simpa using hj
  exact Rd.v _
end Go.AX
namespace Go.Proofs.YtccblhpfjlgmbaaGreatDoor
open Go.AX Go.RF
set_option maxRecDepth 100000
set_option maxHeartbeats 8000000
def noC:Cluster:=⟨[],[],[]⟩
def madeC (n:Int):Cluster×Int:=if n < 1∨3 < n then (noC,3) else (newC n,0)
theorem noC_le:DLes [.v nilS,.v nilS,.v nilS] noC.enc := .cons (dle_nil 2) (.cons (dle_nil 7) (.cons (dle_nil 2) .nil))
theorem ok_cnew (n:Int):FnOk Tryz.prog 22 [.d (dint n)] (.tup [.agg (madeC n).1.enc,dint (madeC n).2]):=by
 refine fnOk_of tbl_ok mixed_ok Tryz.func22 rfl (by kernel_rfl) rfl rfl fun w0 own0=>?_
 unfold madeC
 by_cases h1:n < 1
 ·
  rw[if_pos (.inl h1)]
  try refine wk ?_
  exact .two (.cell rfl rfl rfl rfl (.aggd (ds:=[.v nilS,.v nilS,.v nilS]) rfl noC_le.agg)) (.tmp rfl (.one (.d (.refl _))))
 by_cases h2:3 < n
 ·
  rw[if_pos (.inr h2)]
  try refine wk ?_
  exact .two (.cell rfl rfl rfl rfl (.aggd (ds:=[.v nilS,.v nilS,.v nilS]) rfl noC_le.agg)) (.tmp rfl (.one (.d (.refl _))))
 rw[if_neg (by omega)]
 obtain⟨N,rfl⟩:=Int.eq_ofNat_of_zero_le (show 0≤n by omega)
 unfold newC
 rw[Int.toNat_natCast]
 have c1:=ok_repNew
 try refine wk ?_
 refine CW.stut (stut_promote_cell (id:=1) (j:=1) 56 7 rfl) ⟨rfl,rfl,trivial⟩ ?_
 refine CW.loopT (fun i:Nat=>[sp 2 0,ob 0 [.v nilS,.v nilS,.v nilS],sd 3 (dint 0),sp 4 1,(.o 1,.ob (.box [.d (.v nilS),.own 2 i,.d (.v nilS)])),oa 2 56 7 (List.replicate i noR.enc),sd 12 (dint N),sd 13 (dint i),nxt 3]) (fun i=>i≤N) (fun i=>N - i) 0 (by omega) ?_ ?_
 ·
  exact by_less
 ·
  rintro i hi
  by_cases h3:i=N
  ·
   subst h3
   try refine wk ?_
   exact .two (.cell rfl rfl rfl rfl (.agg (.cons (.d (dle_nil 2)) (.cons (.own rfl (by simp) (dle_eq (by simp[encReps]))) (.cons (.d (dle_nil 2)) .nil))))) (.tmp rfl (.one (.d (.refl _))))
  ·
   have h4:List.replicate i noR.enc++[noR.enc]=List.replicate (i+1) noR.enc:=by rw[List.replicate_succ']
   repeat(first|((with_reducible apply s5);((with_reducible apply a_bs [noR.enc]);(iterate 9 exact rfl);(repeat(first|exact PartsE.nil|(apply PartsE.cons;exact rfl;exact rfl))));exact by_g)|refine wa1 ?_|((with_reducible apply s5);(first|exact by_oa|exact by_ca);exact by_g)|refine wb ?_)
   refine q_loopT (i+1) (by omega) (by omega) ?_
   exact by_less
theorem made_le (N:Nat):DLe (.sl 7 (List.replicate N noR0)) (encReps (List.replicate N noR)):=by
 have hrow:∀ (i:Nat) (r s:List D),(List.replicate N noR0)[i]? = some r→((List.replicate N noR).map Replica.enc)[i]? = some s→r=noR0∧s=noR.enc:=fun i r s hr hs=>by
  rw[List.map_replicate]at hs
  exact⟨List.eq_of_mem_replicate (List.mem_of_getElem? hr),List.eq_of_mem_replicate (List.mem_of_getElem? hs)⟩
 refine .sl 7 _ _ (by simp) (fun i r s hr hs=>?_) fun i j r s x y hr hs hx hy=>?_
 ·
  obtain⟨rfl,rfl⟩:=hrow i r s hr hs;rfl
 ·
  obtain⟨rfl,rfl⟩:=hrow i r s hr hs
  exact noR_le.at.2 j x y hx hy
theorem ok_rcnew (n:Int):FnOk Tryz.prog 8 [.d (dint n)] (.tup [.agg (madeC n).1.enc,dint (madeC n).2]):=by
 refine fnOk_of tbl_ok mixed_ok Tryz.func8 rfl (by kernel_rfl) rfl rfl fun w0 own0=>?_
 unfold madeC
 by_cases h1:n < 1
 ·
  rw[if_pos (.inl h1)]
  try refine wk ?_
  exact .two (.cell rfl rfl rfl rfl (.aggd (ds:=[.v nilS,.v nilS,.v nilS]) rfl noC_le.agg)) (.tmp rfl (.one (.d (.refl _))))
 by_cases h2:3 < n
 ·
  rw[if_pos (.inr h2)]
  try refine wk ?_
  exact .two (.cell rfl rfl rfl rfl (.aggd (ds:=[.v nilS,.v nilS,.v nilS]) rfl noC_le.agg)) (.tmp rfl (.one (.d (.refl _))))
 rw[if_neg (by omega)]
 obtain⟨N,rfl⟩:=Int.eq_ofNat_of_zero_le (show 0≤n by omega)
 unfold newC
 rw[Int.toNat_natCast]
 repeat(first|refine wa ?_|((with_reducible apply s5);(first|((with_reducible apply a_buildA);(iterate 4 exact rfl);(repeat(first|exact PartsV.nil|(apply PartsV.cons;exact rfl;exact rfl;(first|exact⟨rfl,trivial⟩|(apply nw_own;exact rfl;(focus first|exact rfl|(simp;done)|(simp;omega)))))));exact rfl)|((with_reducible apply a_make);(iterate 9 exact rfl);(exact by omega))|exact by_oa|exact by_ca);exact by_g)|refine wb ?_)
 exact .two (.cell rfl rfl rfl rfl (.aggd (ds:=[.v nilS,.sl 7 (List.replicate N noR0),.v nilS]) rfl (DLes.agg (.cons (dle_nil 2) (.cons (made_le N) (.cons (dle_nil 2) .nil)))))) (.tmp rfl (.one (.d (.refl _))))
theorem ok_clone_byte (rows:List (List D)) (hl:rows.length≤536870912):FnOk Tryz.prog 52 [.d (.sl 1 rows)] (.one (.sl 1 rows)):=by
 refine FnNew.ok (e:=5) (k:=1) ?_
 refine fnNew_of tbl_ok mixed_ok Tryz.func52 rfl (by kernel_rfl) rfl rfl fun w0 own0=>?_
 cases rows with
 |nil =>
  refine CW.empty 0 rfl fun p cp=>?_
  cases p with
  |none =>
   try refine wk ?_
   exact RetNew.nil rfl rfl
  |some ad =>
   have hst0:StopR 3:=⟨rfl⟩
   try refine wkS ?_
   clear hst0
   refine Stop.go (CW.stut (stut_nilv (i:=0) (k:=1)) ⟨rfl,trivial⟩ ?_)
   try refine wk ?_
   exact RetNew.own rfl rfl rfl
 |cons r rows =>
  have hl2:rows.length≤536870911:=by simp at hl;omega
  try refine wk ?_
  exact RetNew.own rfl rfl (by simp)
structure Cluster.Sm (c:Cluster):Prop where
 l:c.log.length≤1000
 w:∀ x∈c.log,wrongEntry x=0
 k:c.reps.length≤1000
 r:∀ r∈c.reps,Replica.Sm r
 p:c.net.length≤1000
 d:∀ p∈c.net,p.data.length≤100000
theorem KInv.sm {c:Cluster}(h:KInv c):c.Sm:=by
 refine⟨by have:=h.l;omega,h.right,by have:=h.k;omega,fun r hr=>(h.r r hr).1.sm,by have:=h.p;omega,fun p hp=>?_⟩
 obtain⟨_,i,e,h1,h2⟩:=h.d p hp
 rw[h2]
 have:=bytes_len (h.w i e h1).2
 omega
theorem entry_sm {e:Entry}(h:wrongEntry e=0):e.deeds.length≤134217728∧∀ d∈e.deeds,d.Sm:=by
 obtain⟨_,h2,_,h4⟩:=wrongEntry_out h
 exact⟨by omega,fun d hd=>wrong_sm (h4 d hd)⟩
abbrev ownC (c:Cluster):List Part:=[.own 71 2 (c.log.map Entry.enc),.own 56 7 (c.reps.map Replica.enc),.own 66 2 (c.net.map Packet.enc)]
theorem news_cown (c:Cluster) (h:c.Sm):FnNews Tryz.prog 28 [.d (.agg c.enc)] (ownC c):=by
 refine fnNews_of tbl_ok mixed_ok Tryz.func28 rfl (by kernel_rfl) rfl rfl fun w0 own0=>?_
 have hl:=h.l
 have hk:=h.k
 have hp:=h.p
 have c1:=new_logOwn c.log (by omega) fun e he=>entry_sm (h.w e he)
 repeat(first|refine wa ?_|((with_reducible apply s5);(first|((with_reducible apply a_buildA);(iterate 4 exact rfl);(repeat(first|exact PartsV.nil|(apply PartsV.cons;exact rfl;exact rfl;(first|exact⟨rfl,trivial⟩|(apply nw_own;exact rfl;(focus first|exact rfl|(simp;done)|(simp;omega)))))));exact rfl)|exact a_callnew c1 rfl rfl by_sub|exact by_oa|exact by_ca);exact by_g)|refine wb ?_)
 refine CW.stut (stut_promote_cell (id:=3) (j:=1) 56 7 rfl) ⟨rfl,rfl,trivial⟩ ?_
 refine CW.loopT (fun i:Nat=>[sp 1 0,ob 0 c.enc,sp 2 1,ob 1 [.v nilS,.v nilS,.v nilS],sp 3 3,(.o 3,.ob (.box [.own 2 c.log.length,.own 4 i,.d (.v nilS)])),oa 2 71 2 (c.log.map Entry.enc),oa 4 56 7 ((c.reps.take i).map Replica.enc),sd 13 (encReps c.reps),sd 14 (dint c.reps.length),sd 15 (dint i),nxt 5])
  (fun i=>i≤c.reps.length) (fun i=>c.reps.length - i) 0 (by omega) ?_ ?_
 ·
  exact by_less
 ·
  rintro i hi
  rcases drop_case hi with ⟨h1,h2⟩|⟨r,h1,h2,h3⟩
  ·
   subst h2
   rw[List.take_length]
   try refine wk ?_
   refine CW.stut (stut_promote_cell (id:=3) (j:=2) 66 2 rfl) ⟨rfl,rfl,trivial⟩ ?_
   refine CW.loopT (fun j:Nat=>[sp 2 1,ob 1 [.v nilS,.v nilS,.v nilS],sp 3 3,(.o 3,.ob (.box [.own 2 c.log.length,.own 4 c.reps.length,.own 5 j])),oa 2 71 2 (c.log.map Entry.enc),oa 4 56 7 (c.reps.map Replica.enc),oa 5 66 2 ((c.net.take j).map Packet.enc),sd 28 (encNet c.net),sd 29 (dint c.net.length),sd 30 (dint j),nxt 6])
    (fun j=>j≤c.net.length) (fun j=>c.net.length - j) 0 (by omega) ?_ ?_
   ·
    exact by_less
   ·
    rintro j hj
    rcases drop_case hj with ⟨h4,h5⟩|⟨p,h4,h5,h6⟩
    ·
     subst h5
     rw[List.take_length]
     try refine wk ?_
     exact .cell rfl rfl rfl rfl (.cons (.own rfl (by simp)) (.cons (.own rfl (by simp)) (.cons (.own rfl (by simp)) .nil))) (show([2,4,5]:List Nat).Nodup by decide)
    ·
     have hpd:=h.d p (List.mem_of_getElem? h5)
     have c3:=ok_clone_byte (p.data.map byteD) (by simp;omega)
     have h7:(c.net.take j).map Packet.enc++[p.enc]=(c.net.take (j+1)).map Packet.enc:=by rw[List.take_add_one,h5];simp
     repeat(first|((with_reducible apply s5);((with_reducible apply a_bs [p.enc]);(iterate 9 exact rfl);(repeat(first|exact PartsE.nil|(apply PartsE.cons;exact rfl;exact rfl))));exact by_g)|refine wa1 ?_|((with_reducible apply s5);(first|((with_reducible apply a_buildA);(iterate 4 exact rfl);(repeat(first|exact PartsV.nil|(apply PartsV.cons;exact rfl;exact rfl;(first|exact⟨rfl,trivial⟩|(apply nw_own;exact rfl;(focus first|exact rfl|(simp;done)|(simp;omega)))))));exact rfl)|exact by_oa|exact by_ca);exact by_g)|refine wb ?_)
     refine q_loopT (j+1) (by omega) (by omega) ?_
     exact by_less
  ·
   have c2:=ok_repOwn r (h.r r (List.mem_of_getElem? h2))
   have h7:(c.reps.take i).map Replica.enc++[r.enc]=(c.reps.take (i+1)).map Replica.enc:=by rw[List.take_add_one,h2];simp
   repeat(first|((with_reducible apply s5);((with_reducible apply a_bs [r.enc]);(iterate 9 exact rfl);(repeat(first|exact PartsE.nil|(apply PartsE.cons;exact rfl;exact rfl))));exact by_g)|refine wa1 ?_|((with_reducible apply s5);(first|exact by_oa|exact by_ca);exact by_g)|refine wb ?_)
   refine q_loopT (i+1) (by omega) (by omega) ?_
   exact by_less
theorem ok_cown (c:Cluster) (h:c.Sm):FnOk Tryz.prog 28 [.d (.agg c.enc)] (.one (.agg c.enc)):=(news_cown c h).ok
theorem ok_sameCl (c:Cluster) (h:c.Sm):FnOk Tryz.prog 10 [.d (.agg c.enc),.d (.agg c.enc)] (.one (dbool true)):=by
 refine fnOk_of tbl_ok mixed_ok Tryz.func10 rfl (by kernel_rfl) rfl rfl fun w0 own0=>?_
 have hl:=h.l
 have hk:=h.k
 have hp:=h.p
 have c1:=ok_sameEnts c.log c.log (by omega) fun e he=>⟨by have:=(entry_sm (h.w e he)).1;omega,(entry_sm (h.w e he)).2⟩
 rw[allB_refl sameEnt_refl]at c1
 try refine wk ?_
 refine CW.loopT (fun i:Nat=>[sp 2 0,ob 0 c.enc,sp 3 1,ob 1 c.enc,sd 32 (encReps c.reps),sd 33 (dint c.reps.length),sd 34 (dint i),nxt 2])
  (fun i=>i≤c.reps.length) (fun i=>c.reps.length - i) 0 (by omega) ?_ ?_
 ·
  exact by_less
 ·
  rintro i hi
  rcases drop_case hi with ⟨h1,h2⟩|⟨r,h1,h2,h3⟩
  ·
   subst h2
   try refine wk ?_
   refine CW.loopT (fun j:Nat=>[sp 2 0,ob 0 c.enc,sp 3 1,ob 1 c.enc,sd 51 (encNet c.net),sd 52 (dint c.net.length),sd 53 (dint j),nxt 2])
    (fun j=>j≤c.net.length) (fun j=>c.net.length - j) 0 (by omega) ?_ ?_
   ·
    exact by_less
   ·
    rintro j hj
    rcases drop_case hj with ⟨h4,h5⟩|⟨p,h4,h5,h6⟩
    ·
     subst h5
     try refine wk ?_
     exact .one (.tmp rfl (.one (.d (.refl _))))
    ·
     repeat(first|refine wa ?_|((with_reducible apply s5);(first|((with_reducible apply a_b2s);(iterate 8 exact rfl))|exact by_oa|exact by_ca);exact by_g)|refine wb ?_)
     refine q_loopT (j+1) (by omega) (by omega) ?_
     exact by_less
  ·
   have c2:=ok_sameR r r (h.r r (List.mem_of_getElem? h2))
   rw[sameR_refl]at c2
   try refine wk ?_
   refine q_loopT (i+1) (by omega) (by omega) ?_
   exact by_less
structure PInv (r:Replica) (x:Entry) (tgt:Replica):Prop where
 e:EInv r.engine 400
 w:wrongs x.deeds=0∧x.deeds.length≤6
 d:DInv ⟨(addE r.engine x.deeds).1,r.next+1,r.early⟩
 t:drainR r.early.length ⟨(addE r.engine x.deeds).1,r.next+1,r.early⟩=tgt
theorem ok_rcome (r:Replica) (e:Entry) (h:RInv r) (he:wrongEntry e=0):FnOk Tryz.prog 29 [.d (.agg r.enc),.d (.agg e.enc)] (.tup [.agg (comeE r e).1.enc,dint (comeE r e).2]):=by
 refine fnOk_of tbl_ok mixed_ok Tryz.func29 rfl (by kernel_rfl) rfl rfl fun w0 own0=>?_
 have hl:=h.l
 have hn:=h.n
 obtain⟨hn1,hn2,hn3,hn4⟩:=wrongEntry_out he
 try refine wk ?_
 refine CW.loopT (fun t:Nat×Bool=>[sp 2 0,ob 0 r.enc,sp 3 1,ob 1 e.enc,sp 4 2,ob 2 [.v nilS,.v nilS,.v nilS,.v nilS,dint 0,dint 0,.v nilS],sd 5 (dint 0),sd 6 (dbool t.2),sd 18 (encEntries r.early),sd 19 (dint r.early.length),sd 20 (dint t.1),nxt 3])
  (fun t=>t.1≤r.early.length∧(t.2 || hasN e.number (r.early.drop t.1))=(decide (e.number < r.next) || hasN e.number r.early)) (fun t=>r.early.length - t.1) (0,decide (e.number < r.next)) ⟨by dsimp only;omega,rfl⟩ ?_ ?_
 ·
  exact by_less
 ·
  rintro ⟨i,b⟩ ⟨hi,hI⟩
  dsimp only at hi hI ⊢
  rcases drop_case hi with ⟨h1,h2⟩|⟨x,h1,h2,h3⟩
  ·
   rw[h1,hasN,Bool.or_false]at hI
   unfold comeE
   cases b with
   |true =>
    have hc:e.number < r.next∨hasN e.number r.early=true:=by simpa using hI.symm
    rw[if_pos hc]
    try refine wk ?_
    exact .two (.cell rfl rfl rfl rfl (.aggd (ds:=r.enc) rfl (.refl _))) (.tmp rfl (.one (.d (.refl _))))
   |false =>
    have hc:¬ (e.number < r.next)∧hasN e.number r.early=false:=by simpa using hI.symm
    rw[if_neg (by rw[hc.2];simp;omega)]
    have hc1:=hc.1
    by_cases h4:r.next < e.number
    ·
     rw[if_pos h4]
     by_cases h5:4≤r.early.length
     ·
      rw[if_pos h5]
      try refine wk ?_
      exact .two (.cell rfl rfl rfl rfl (.aggd (ds:=r.enc) rfl (.refl _))) (.tmp rfl (.one (.d (.refl _))))
     ·
      rw[if_neg h5]
      try refine wk ?_
      exact .two (.cell rfl rfl rfl rfl (.agg (.cons (.d (.refl _)) (.cons (.d (.refl _)) (.cons (.d (.refl _)) (.cons (.d (.refl _)) (.cons (.d (.refl _)) (.cons (.d (.refl _)) (.cons (.own rfl (by simp) (dle_eq (by simp[encEntries];rfl))) .nil))))))))) (.tmp rfl (.one (.d (.refl _))))
    ·
     rw[if_neg h4]
     have hnx:e.number=r.next:=by omega
     have hT:=take_inv (snoc_inv h he hc.1 hc.2) (k:=r.early.length) (x:=e) (by simp) hnx
     rw[List.eraseIdx_append_of_length_le (Nat.le_refl _)]at hT
     simp at hT
     have hP:PInv r e (drainR r.early.length ⟨(addE r.engine e.deeds).1,r.next+1,r.early⟩):=⟨h.e.mono (by omega),⟨hn3,hn2⟩,hT,rfl⟩
     generalize drainR r.early.length ⟨(addE r.engine e.deeds).1,r.next+1,r.early⟩=tgt at *
     try refine wk ?_
     refine CW.loopT (fun t:Replica×Entry=>[sp 2 0,ob 0 t.1.enc,sp 3 1,ob 1 t.2.enc,sp 4 2,ob 2 [.v nilS,.v nilS,.v nilS,.v nilS,dint 0,dint 0,.v nilS],sd 5 (dint 0),nxt 3])
      (fun t=>PInv t.1 t.2 tgt) (fun t=>t.1.early.length) (r,e) hP ?_ ?_
     ·
      exact by_less
     ·
      rintro ⟨⟨E,n,y⟩,e'⟩ ⟨p1,⟨p2,p3⟩,p4,p5⟩
      dsimp only at p1 p2 p3 p4 p5 ⊢
      have ca:=ok_addE E e'.deeds _ p1.z (fun d hd=>wrong_sm (wrongs_mem p2 d hd)) (by omega) (by omega)
      generalize (addE E e'.deeds).1=E2 at *
      generalize (addE E e'.deeds).2=v2 at *
      have hyl:=p4.l
      have hyn:=p4.n
      have hlf:=lastN_first (n:=n+1) (i:=0) p4.d
      dsimp only at hyl hyn hlf
      try refine wk ?_
      refine CW.loopT (fun t:Nat×Int=>[sp 2 0,ob 0 (Replica.enc ⟨E2,n+1,y⟩),sp 3 1,ob 1 e'.enc,sp 4 2,ob 2 [.v nilS,.v nilS,.v nilS,.v nilS,dint 0,dint 0,.v nilS],sd 5 (dint 0),sd 9 (dint t.2),sd 68 (encEntries y),sd 69 (dint y.length),sd 70 (dint t.1),nxt 3])
       (fun t=>t.1≤y.length∧lastN (n+1) t.2 t.1 (y.drop t.1)=firstN (n+1) 0 y) (fun t=>y.length - t.1) (0,-1) ⟨by dsimp only;omega,hlf⟩ ?_ ?_
      ·
       exact by_less
      ·
       rintro ⟨j,k⟩ ⟨hj,hJ⟩
       dsimp only at hj hJ ⊢
       rcases drop_case hj with ⟨g1,g2⟩|⟨z,g1,g2,g3⟩
       ·
        rw[g1,lastN]at hJ
        rcases firstN_cases (n:=n+1) (l:=y) (i:=0) with ⟨k1,k2⟩|⟨m,x,k1,k2,k3⟩
        ·
         rw[k1]at hJ
         rw[drainR_none (by dsimp only;omega)]at p5
         subst p5
         try refine wk ?_
         exact .two (.cell rfl rfl rfl rfl (.aggd (ds:=Replica.enc ⟨E2,n+1,y⟩) rfl (.refl _))) (.tmp rfl (.one (.d (.refl _))))
        ·
         rw[Nat.zero_add]at k1
         rw[k1]at hJ
         subst hJ
         have hkl:=(List.getElem?_eq_some_iff.1 k2).1
         have hel:=List.length_eraseIdx_of_lt hkl
         have hxm:(y.map Entry.enc)[m]? = some x.enc:=by rw[List.getElem?_map,k2];rfl
         obtain⟨x1,x2,x3,x4⟩:=wrongEntry_out (p4.w x (List.mem_of_getElem? k2))
         have hI2:=take_inv p4 k2 k3
         have hJ2:drainR (y.eraseIdx m).length ⟨(addE E2 x.deeds).1,n+1+1,y.eraseIdx m⟩=tgt:=by
          rw[hel,← p5]
          obtain⟨q,hq⟩:∃ q,y.length=q+1:=⟨y.length - 1,by omega⟩
          rw[hq,drainR_some (r:=⟨E2,n+1,y⟩) k1 k2,Nat.add_sub_cancel]
         have hml:m≤(y.map Entry.enc).length:=by simp;omega
         have hml2:m+1≤(y.map Entry.enc).length:=by simp;omega
         have hbox:[AV.d (encChains E2.chains),AV.d (encDeeds E2.deeds),AV.d (encInts E2.state),AV.d (encEnds E2.ends),AV.d (dint E2.base),AV.d (dint (n+1)),AV.d (.sl 2 (([]++(y.map Entry.enc).take m)++(y.map Entry.enc).drop (m+1)))]=(Replica.enc ⟨E2,n+1,y.eraseIdx m⟩).map AV.d:=by
          simp[Replica.enc,encEntries,List.eraseIdx_eq_take_drop_succ]
         have hcf:cutI (y.map Entry.enc) (some ((m:Int)+1)) none=some ((y.map Entry.enc).drop (m+1)):=by
          have:=cut_from hml2
          rwa [show((m+1:Nat):Int)=(m:Int)+1 by omega]at this
         have hst0:StopX 26:=⟨rfl⟩
         try refine wkS ?_
         clear hst0
         refine Stop.go (CW.aft (stut_freeze_cell (id:=0) (j:=6) (i:=3) (n:=0+((y.map Entry.enc).take m).length+((y.map Entry.enc).drop (m+1)).length) (e:=71) (k:=2) (cells:=[.d (encChains E2.chains),.d (encDeeds E2.deeds),.d (encInts E2.state),.d (encEnds E2.ends),.d (dint E2.base),.d (dint (n+1)),.own 3 (0+((y.map Entry.enc).take m).length+((y.map Entry.enc).drop (m+1)).length)]) (rows:=([]++(y.map Entry.enc).take m)++(y.map Entry.enc).drop (m+1)) rfl (by simp)) ?_)
         repeat(first|refine wa ?_|((with_reducible apply s5);(first|((with_reducible apply a_from);(iterate 5 exact rfl);exact hcf)|exact by_oa|exact by_ca);exact by_g)|refine wb ?_)
         refine q_aft ⟨rfl,rfl,trivial⟩ ?_
         try refine wk ?_
         refine q_loopT (⟨E2,n+1,y.eraseIdx m⟩,x) ⟨p4.e.mono (by dsimp only;omega),⟨x3,x2⟩,hI2,hJ2⟩ (by dsimp only;omega) ?_
         exact by_less
       ·
        rw[g1]at hJ
        simp only[lastN]at hJ
        by_cases hz:z.number=n+1
        ·
         rw[if_pos hz]at hJ
         try refine wk ?_
         refine q_loopT (j+1,(j:Int)) ⟨by dsimp only;omega,hJ⟩ (by dsimp only;omega) ?_
         exact by_less
        ·
         rw[if_neg hz]at hJ
         try refine wk ?_
         refine q_loopT (j+1,k) ⟨by dsimp only;omega,hJ⟩ (by dsimp only;omega) ?_
         exact by_less
  ·
   rw[h1]at hI
   simp only[hasN]at hI
   cases b with
   |true =>
    try refine wk ?_
    refine q_loopT (i+1,true) ⟨by dsimp only;omega,by simpa using hI⟩ (by dsimp only;omega) ?_
    exact by_less
   |false =>
    by_cases h4:x.number=e.number
    ·
     rw[if_pos h4]at hI
     try refine wk ?_
     refine q_loopT (i+1,true) ⟨by dsimp only;omega,by simpa using hI⟩ (by dsimp only;omega) ?_
     exact by_less
    ·
     rw[if_neg h4]at hI
     try refine wk ?_
     refine q_loopT (i+1,false) ⟨by dsimp only;omega,hI⟩ (by dsimp only;omega) ?_
     exact by_less
theorem EInv.allE {N:Nat}:∀ {f:Nat}{e:Engine}{p:List Int},waitN e.state=f→EInv e N→EInv (allE e p) N
 |f,e,p,hf,h=>by
  by_cases hr:ready e=[]
  ·
   rw[all_nil hr]
   exact h
  ·
   have hp:=pickI_lt hr p
   have hx:(ready e)[pickI (ready e) p]? = some ((ready e)[pickI (ready e) p]'hp):=List.getElem?_eq_getElem hp
   obtain⟨A,d,h1,h2,h3,h4,h5,h6,h7⟩:=all_step h.z.s hx
   rw[h7]
   cases f with
   |zero=>omega
   |succ f=>exact EInv.allE (f:=f) (p:=p.tail) (by omega) (h.goE _)
theorem ok_finish (e:Engine) (N:Nat) (hE:EInv e N) (hN:N≤100000000):FnOk Tryz.prog 31 [.d (.agg e.enc)] (.one (.agg (allE e []).enc)):=by
 refine fnOk_of tbl_ok mixed_ok Tryz.func31 rfl (by kernel_rfl) rfl rfl fun w0 own0=>?_
 try refine wk ?_
 refine CW.loopT (fun t:Engine=>[sp 1 0,ob 0 t.enc,sp 2 1,ob 1 noE.enc0,nxt 2])
  (fun t=>EInv t N∧allE t []=allE e []) (fun t=>waitN t.state) e ⟨hE,rfl⟩ ?_ ?_
 ·
  exact by_less
 ·
  rintro t ⟨hT,hI⟩
  have hsm:=hT.z.sm (by omega)
  have cr:=ok_ready t hsm hT.z.s
  cases hr:ready t with
  |nil =>
   rw[all_nil hr]at hI
   rw[hr]at cr
   try refine wk ?_
   exact .one (.cell rfl rfl rfl rfl (.aggd (ds:=t.enc) rfl (dle_eq (by rw[hI]))))
  |cons x l =>
   have hx:(ready t)[pickI (ready t) []]? = some x:=by rw[hr];rfl
   obtain⟨A,d,h1,h2,h3,h4,h5,h6,h7⟩:=all_step hT.z.s hx
   rw[h7]at hI
   have hrl:(x::l).length≤100000000:=by
    have:=readyGo_len (e:=t) t.state 0
    have h5:=hT.z.d
    have h6:=hT.z.s
    rw[← hr]
    unfold ready;omega
   rw[hr]at cr
   have h0:(x::l)[0]? = some x:=rfl
   have hl0:¬ (x::l).length=0:=by simp
   have cg:=ok_go t x N hT.z (by omega) hT.o hT.c
   repeat(first|refine wa ?_|((with_reducible apply s5);(first|((with_reducible apply a_ia);(iterate 5 exact rfl);exact idx_map (k:=0) h0)|exact by_oa|exact by_ca);exact by_g)|refine wb ?_)
   refine q_loopT (goE t x).1 ⟨hT.goE x,hI⟩ (by omega) ?_
   exact by_less
def stepCome:Step:=⟨3,0,0,[]⟩
def drainN:List Packet→Cluster→Cluster
 | [],c=>c
 |_::t,c=>drainN t (doC c stepCome).1
def nextC (c:Cluster) (n:Nat):Cluster:=match c.reps[n]? with
 |none=>c
 |some r=>match nth c.log r.next with
  |none=>c
  |some e=>{ c with reps:=c.reps.set n (comeE r e).1 }
def finC (c:Cluster) (n:Nat):Cluster:=match c.reps[n]? with
 |none=>c
 |some r=>{ c with reps:=c.reps.set n ⟨allE r.engine [],r.next,r.early⟩ }
def turnC (c:Cluster) (n:Nat):Cluster:=finC (nextC c n) n
def turnsC:Nat→Nat→Cluster→Cluster
 |0,_,c=>c
 |k+1,n,c=>turnsC k (n+1) (turnC c n)
def roundC (c:Cluster):Cluster:=turnsC (drainN c.net c).reps.length 0 (drainN c.net c)
def doneR (L:Nat) (r:Replica):Bool:=decide ((L:Int)≤r.next)&&decide (ready r.engine=[])
def doneC (c:Cluster):Bool:=decide (c.net=[])&&c.reps.all (doneR c.log.length)
def settleC:Nat→Cluster→Cluster×Nat
 |0,c=>(c,0)
 |f+1,c=>if doneC c=true then (c,0) else ((settleC f (roundC c)).1,(settleC f (roundC c)).2+1)
theorem come_step {c:Cluster}{p:Packet}{t:List Packet}(h:c.net=p::t):doC c stepCome=(comeC { c with net:=t } p,0):=by
 unfold doC stepCome
 dsimp only
 rw[if_neg (by omega),if_neg (by omega),if_pos (by omega)]
 unfold packetC
 rw[h]
 have h1:nth (p::t) (0:Int)=some p:=rfl
 rw[h1]
 dsimp only
 rw[if_neg (by omega),if_neg (by omega)]
 rfl
theorem comeC_keep (c:Cluster) (p:Packet):(comeC c p).log=c.log∧(comeC c p).net=c.net∧(comeC c p).reps.length=c.reps.length:=by
 unfold comeC
 split
 ·
  exact⟨rfl,rfl,rfl⟩
 split
 ·
  exact⟨rfl,rfl,rfl⟩
 ·
  exact⟨rfl,rfl,by simp⟩
def Lvl (t:Nat) (c:Cluster):Prop:=∀ r∈c.reps,(t:Int)≤r.next∨(c.log.length:Int)≤r.next
theorem lvl_zero {c:Cluster}(h:KInv c):Lvl 0 c:=fun r hr=>by
 obtain⟨⟨k,h1,_⟩,_,_⟩:=(h.r r hr).2
 exact .inl (by omega)
theorem KInv.next {c:Cluster}(h:KInv c) {r:Replica}(hr:r∈c.reps) {i:Nat}{e:Entry}(he:c.log[i]? = some e):r.next≤(comeE r e).1.next :=
 ((h.r r hr).2.come (QC.adds h.right) he (h.w i e he).1).2.1
theorem lvl_set {t:Nat}{c:Cluster}(h:Lvl t c) {n:Nat}{r:Replica}(hr:(t:Int)≤r.next∨(c.log.length:Int)≤r.next):Lvl t { c with reps:=c.reps.set n r }:=fun x hx=>by
 rcases List.mem_or_eq_of_mem_set hx with hx|rfl
 ·
  exact h x hx
 ·
  exact hr
theorem lvl_come {t:Nat}{c:Cluster}(h:KInv c) (hl:Lvl t c) {p:Packet}(hp:∃ (i:Nat) (e:Entry),c.log[i]? = some e∧p.data=bytesE e):Lvl t (comeC c p):=by
 obtain⟨i,e,h1,h2⟩:=hp
 unfold comeC
 split
 ·
  exact hl
 next r hr =>
 obtain⟨j,hj1,hj⟩:=nth_some hr
 rw[h2,parse_bytes (h.w i e h1).2]
 have hrm:=List.mem_of_getElem? hj
 have hn:=h.next hrm h1
 exact lvl_set hl (by have:=hl r hrm;omega)
theorem drainN_inv:∀ {l:List Packet}{c:Cluster}{t:Nat},c.net=l→KInv c→Lvl t c→KInv (drainN l c)∧Lvl t (drainN l c)∧(drainN l c).net=[]∧(drainN l c).log=c.log∧(drainN l c).reps.length=c.reps.length
 | [],c,t,hn,h,hl=>⟨h,hl,hn,rfl,rfl⟩
 |p::l,c,t,hn,h,hl=>by
  simp only[drainN]
  have hs:=come_step hn
  have hk:=h.step stepCome
  rw[hs]at hk ⊢
  dsimp only at hk ⊢
  have h0:KInv { c with net:=l }:=by
   have:=h.drop 0
   rw[hn]at this
   exact this
  obtain⟨g1,g2,g3⟩:=comeC_keep { c with net:=l } p
  have hd:=(h.d p (by rw[hn];simp)).2
  obtain⟨k1,k2,k3,k4,k5⟩:=drainN_inv (l:=l) (t:=t) (by rw[g2]) hk (lvl_come h0 hl hd)
  exact⟨k1,k2,k3,by rw[k4,g1],by rw[k5,g3]⟩
theorem fin_ok {L:List Entry}{r:Replica}(h:RInv r∧CInv L (QC L) r):RInv ⟨allE r.engine [],r.next,r.early⟩∧CInv L (QC L) ⟨allE r.engine [],r.next,r.early⟩∧ready (allE r.engine [])=[]:=by
 obtain⟨h1,⟨k,h2,h3,m,h4,h5,h6,h7⟩,h8,h9⟩:=h
 obtain⟨q,hb⟩:=h1.b
 have ha:=all_inv (p:=[]) rfl hb
 have hc:=all_inv (p:=[]) rfl h7
 refine⟨⟨h1.e.allE rfl,⟨q,ha.1⟩,h1.n,h1.l,h1.w,h1.g,h1.d⟩,⟨⟨k,h2,h3,m,hc.2.2.1.trans h4,h5,hc.2.1.trans h6,hc.1⟩,h8,h9⟩,?_⟩
 cases hr:ready (allE r.engine []) with
 |nil=>rfl
 |cons x t =>
  obtain⟨A,_,hA,_⟩:=ready_mem.1 (show x∈ready (allE r.engine []) by rw[hr];simp)
  have:=ha.2.2.2 0 (List.mem_of_getElem? hA)
  omega
theorem nextC_inv {c:Cluster}(h:KInv c) (n:Nat):KInv (nextC c n)∧(nextC c n).log=c.log∧(nextC c n).net=c.net∧(nextC c n).reps.length=c.reps.length ∧
  (∀ (i:Nat),i≠n→(nextC c n).reps[i]? = c.reps[i]?)∧∀ r,c.reps[n]? = some r→∃ s,(nextC c n).reps[n]? = some s∧(r.next+1≤s.next∨(c.log.length:Int)≤s.next):=by
 unfold nextC
 cases hr:c.reps[n]? with
 |none=>exact⟨h,rfl,rfl,rfl,fun _ _=>rfl,fun r hr=>by cases hr⟩
 |some r =>
  dsimp only
  cases he:nth c.log r.next with
  |none=>exact⟨h,rfl,rfl,rfl,fun _ _=>rfl,fun r' h'=>by
    cases h'
    refine⟨r,hr,.inr ?_⟩
    have:=(h.r r (List.mem_of_getElem? hr)).1.n
    rcases nth_none he with h1|h1 <;> omega⟩
  |some e =>
   obtain⟨i,hi1,hi⟩:=nth_some he
   have hrm:=List.mem_of_getElem? hr
   have hnl:=(List.getElem?_eq_some_iff.1 hr).1
   refine⟨h.setR (h.come1 hrm hi),rfl,rfl,by simp,fun j hj=>?_,fun r' h'=>?_⟩
   ·
    dsimp only
    rw[List.getElem?_set_ne (Ne.symm hj)]
   ·
    cases h'
    refine⟨(comeE r e).1,by dsimp only;rw[List.getElem?_set_self hnl],.inl ?_⟩
    obtain⟨w1,w2⟩:=h.w i e hi
    obtain⟨_,_,_,hg,h5⟩:=(h.r r hrm).2.come (QC.adds h.right) hi w1
    rcases h5 with h5|⟨h5,_⟩
    ·
     rcases h5 with h5|h5
     ·
      omega
     ·
      obtain⟨y,hy,hn⟩:=hasN_true.1 h5
      have:=hg (h.r r hrm).1.g y hy
      omega
    ·
     -- what is next is taken in,however many came too soon
     have hc:comeE r e=(drainR r.early.length ⟨(addE r.engine e.deeds).1,r.next+1,r.early⟩,0):=by
      unfold comeE
      rw[if_neg,if_neg (by omega)]
      rintro (h6|h6)
      ·
       omega
      ·
       obtain⟨y,hy,hn⟩:=hasN_true.1 h6
       have:=(h.r r hrm).1.g y hy
       omega
     have hR:=(h.r r hrm).1
     have hno:hasN e.number r.early=false:=hasN_false.2 fun y hy=>by have:=hR.g y hy;omega
     have hT:=take_inv (snoc_inv hR w2 (by omega) hno) (k:=r.early.length) (x:=e) (by simp) (show e.number=r.next by omega)
     rw[List.eraseIdx_append_of_length_le (Nat.le_refl _)]at hT
     simp at hT
     have:=(drainR_inv (f:=r.early.length) hT (Nat.le_refl _)).2.2.2.2
     rw[hc]
     exact this
theorem finC_inv {c:Cluster}(h:KInv c) (n:Nat):KInv (finC c n)∧(finC c n).log=c.log∧(finC c n).net=c.net∧(finC c n).reps.length=c.reps.length ∧
  (∀ (i:Nat),i≠n→(finC c n).reps[i]? = c.reps[i]?)∧∀ r,c.reps[n]? = some r→∃ s,(finC c n).reps[n]? = some s∧s.next=r.next∧ready s.engine=[]:=by
 unfold finC
 cases hr:c.reps[n]? with
 |none=>exact⟨h,rfl,rfl,rfl,fun _ _=>rfl,fun r hr=>by cases hr⟩
 |some r =>
  have hnl:=(List.getElem?_eq_some_iff.1 hr).1
  obtain⟨f1,f2,f3⟩:=fin_ok (h.r r (List.mem_of_getElem? hr))
  refine⟨h.setR ⟨f1,f2⟩,rfl,rfl,by simp,fun j hj=>?_,fun r' h'=>?_⟩
  ·
   dsimp only
   rw[List.getElem?_set_ne (Ne.symm hj)]
  ·
   cases h'
   exact⟨⟨allE r.engine [],r.next,r.early⟩,by dsimp only;rw[List.getElem?_set_self hnl],rfl,f3⟩
def Up (t L:Nat) (r:Replica):Prop:=((t:Int)+1≤r.next∨(L:Int)≤r.next)∧ready r.engine=[]
theorem turnC_inv {t:Nat}{c:Cluster}(h:KInv c) (hl:Lvl t c) (n:Nat):KInv (turnC c n)∧(turnC c n).log=c.log∧(turnC c n).net=c.net∧(turnC c n).reps.length=c.reps.length ∧
  (∀ (i:Nat),i≠n→(turnC c n).reps[i]? = c.reps[i]?)∧∀ r,(turnC c n).reps[n]? = some r→Up t c.log.length r:=by
 unfold turnC
 obtain⟨a1,a2,a3,a4,a5,a6⟩:=nextC_inv h n
 obtain⟨b1,b2,b3,b4,b5,b6⟩:=finC_inv a1 n
 refine⟨b1,b2.trans a2,b3.trans a3,b4.trans a4,fun i hi=>(b5 i hi).trans (a5 i hi),fun r hr=>?_⟩
 cases hc:c.reps[n]? with
 |none =>
  have h1:=List.getElem?_eq_none_iff.1 hc
  have h2:=(List.getElem?_eq_some_iff.1 hr).1
  omega
 |some r0 =>
  obtain⟨s,hs,h1⟩:=a6 r0 hc
  obtain⟨u,hu,h2,h3⟩:=b6 s hs
  rw[hu]at hr
  cases hr
  have:=hl r0 (List.mem_of_getElem? hc)
  exact⟨by omega,h3⟩
theorem turnsC_inv {t:Nat}:∀ {k n:Nat}{c:Cluster},n+k=c.reps.length→KInv c→Lvl t c→(∀ (i:Nat) (r:Replica),i < n→c.reps[i]? = some r→Up t c.log.length r) →
  KInv (turnsC k n c)∧(turnsC k n c).log=c.log∧(turnsC k n c).net=c.net∧(turnsC k n c).reps.length=c.reps.length∧∀ r∈(turnsC k n c).reps,Up t c.log.length r
 |0,n,c,hn,h,hl,hu=>⟨h,rfl,rfl,rfl,fun r hr=>by
   obtain⟨i,hi⟩:=List.mem_iff_getElem?.1 hr
   have hi2:c.reps[i]? = some r:=hi
   exact hu i r (by have:=(List.getElem?_eq_some_iff.1 hi2).1;omega) hi2⟩
 |k+1,n,c,hn,h,hl,hu=>by
  obtain⟨a1,a2,a3,a4,a5,a6⟩:=turnC_inv h hl n
  have hu':∀ (i:Nat) (r:Replica),i < n+1→(turnC c n).reps[i]? = some r→Up t c.log.length r:=fun i r hi hr=>by
   by_cases h1:i=n
   ·
    subst h1;exact a6 r hr
   ·
    rw[a5 i h1]at hr;exact hu i r (by omega) hr
  have hl':Lvl t (turnC c n):=fun r hr=>by
   obtain⟨i,hi⟩:=List.mem_iff_getElem?.1 hr
   by_cases h1:i=n
   ·
    subst h1
    have:=(a6 r hi).1
    rw[a2];omega
   ·
    rw[a5 i h1]at hi
    have:=hl r (List.mem_of_getElem? hi)
    rw[a2];exact this
  have ih:=turnsC_inv (t:=t) (k:=k) (n:=n+1) (by rw[a4];omega) a1 hl' (fun i r hi hr=>by rw[a2];exact hu' i r hi hr)
  simp only[turnsC]
  rw[a2,a3,a4]at ih
  exact ih
theorem roundC_inv {t:Nat}{c:Cluster}(h:KInv c) (hl:Lvl t c):KInv (roundC c)∧(roundC c).log=c.log∧(roundC c).net=[]∧(roundC c).reps.length=c.reps.length∧∀ r∈(roundC c).reps,Up t c.log.length r:=by
 obtain⟨g1,g2,g3,g4,g5⟩:=drainN_inv (t:=t) rfl h hl
 unfold roundC
 generalize drainN c.net c=d at *
 obtain⟨k1,k2,k3,k4,k5⟩:=turnsC_inv (t:=t) (k:=d.reps.length) (n:=0) (by omega) g1 g2 (fun i r hi=>by omega)
 exact⟨k1,k2.trans g4,k3.trans g3,k4.trans g5,by rw[← g4];exact k5⟩
theorem doneC_of {c:Cluster}(hn:c.net=[]) (h:∀ r∈c.reps,(c.log.length:Int)≤r.next∧ready r.engine=[]):doneC c=true:=by
 unfold doneC
 rw[decide_eq_true hn,Bool.true_and,List.all_eq_true]
 intro r hr
 unfold doneR
 rw[decide_eq_true (h r hr).1,decide_eq_true (h r hr).2]
 rfl
theorem doneC_out {c:Cluster}(h:doneC c=true):c.net=[]∧∀ r∈c.reps,(c.log.length:Int)≤r.next∧ready r.engine=[]:=by
 unfold doneC at h
 rw[Bool.and_eq_true,List.all_eq_true]at h
 refine⟨of_decide_eq_true h.1,fun r hr=>?_⟩
 have:=h.2 r hr
 unfold doneR at this
 rw[Bool.and_eq_true]at this
 exact⟨of_decide_eq_true this.1,of_decide_eq_true this.2⟩
theorem settleC_inv:∀ {f t:Nat}{c:Cluster},KInv c→Lvl t c→KInv (settleC f c).1∧(settleC f c).1.log=c.log∧(settleC f c).1.reps.length=c.reps.length∧(settleC f c).2≤f∧(c.log.length < f+t→0 < f→doneC (settleC f c).1=true)
 |0,t,c,h,hl=>⟨h,rfl,rfl,Nat.le_refl _,fun _ h0=>by omega⟩
 |f+1,t,c,h,hl=>by
  simp only[settleC]
  by_cases hd:doneC c=true
  ·
   rw[if_pos hd]
   exact⟨h,rfl,rfl,by dsimp only;omega,fun _ _=>hd⟩
  ·
   rw[if_neg hd]
   obtain⟨a1,a2,a3,a4,a5⟩:=roundC_inv (t:=t) h hl
   have hl':Lvl (t+1) (roundC c):=fun r hr=>by
    have:=(a5 r hr).1
    rw[a2];omega
   obtain⟨b1,b2,b3,b4,b5⟩:=settleC_inv (f:=f) (t:=t+1) a1 hl'
   refine⟨b1,b2.trans a2,b3.trans a4,by dsimp only;omega,fun hf _=>?_⟩
   dsimp only
   by_cases h0:0 < f
   ·
    exact b5 (by rw[a2];omega) h0
   ·
    obtain rfl:f=0:=by omega
    refine doneC_of a3 fun r hr=>?_
    obtain⟨h1,h2⟩:=a5 r hr
    exact⟨by dsimp only[settleC]at hr ⊢;rw[a2];omega,h2⟩
theorem settle_done {c:Cluster}(h:KInv c):KInv (settleC 40 c).1∧(settleC 40 c).1.log=c.log∧(settleC 40 c).1.reps.length=c.reps.length∧(settleC 40 c).2≤40∧doneC (settleC 40 c).1=true:=by
 obtain⟨b1,b2,b3,b4,b5⟩:=settleC_inv (f:=40) (t:=0) h (lvl_zero h)
 exact⟨b1,b2,b3,b4,b5 (by have:=h.l;omega) (by omega)⟩
theorem set_same {α:Type}{l:List α}{n:Nat}{x:α}(h:l[n]? = some x):l.set n x=l:=by
 refine List.ext_getElem? fun i=>?_
 by_cases hi:n=i
 ·
  subst hi
  rw[List.getElem?_set_self (List.getElem?_eq_some_iff.1 h).1,h]
 ·
  rw[List.getElem?_set_ne hi]
theorem turnC_done {c:Cluster}(hd:∀ r∈c.reps,(c.log.length:Int)≤r.next∧ready r.engine=[]) (n:Nat):turnC c n=c:=by
 have h1:nextC c n=c:=by
  unfold nextC
  cases hr:c.reps[n]? with
  |none=>rfl
  |some r =>
   dsimp only
   have:=(hd r (List.mem_of_getElem? hr)).1
   cases he:nth c.log r.next with
   |none=>rfl
   |some e =>
    obtain⟨i,h1,h2⟩:=nth_some he
    have:=(List.getElem?_eq_some_iff.1 h2).1
    omega
 unfold turnC
 rw[h1]
 unfold finC
 cases hr:c.reps[n]? with
 |none=>rfl
 |some r =>
  dsimp only
  rw[all_nil (hd r (List.mem_of_getElem? hr)).2,set_same hr]
theorem turnsC_done {c:Cluster}(hd:∀ r∈c.reps,(c.log.length:Int)≤r.next∧ready r.engine=[]):∀ {k n:Nat},turnsC k n c=c
 |0,_=>rfl
 |k+1,n=>by simp only[turnsC];rw[turnC_done hd,turnsC_done hd]
theorem roundC_done {c:Cluster}(hd:doneC c=true):roundC c=c:=by
 obtain⟨h1,h2⟩:=doneC_out hd
 unfold roundC
 rw[h1]
 simp only[drainN]
 exact turnsC_done h2
theorem settleC_done {c:Cluster}(hd:doneC c=true) {f:Nat}:settleC (f+1) c=(c,0):=by
 simp only[settleC];rw[if_pos hd]
theorem done_seen {c:Cluster}(h:KInv c) (hd:doneC c=true) {r:Replica}(hr:r∈c.reps):seenE r.engine r.engine.deeds.length=((allD [] (dOf c.log c.log.length)).1,0)∧markN r.engine.state=r.engine.deeds.length:=by
 obtain⟨h1,h2⟩:=(doneC_out hd).2 r hr
 obtain⟨k,g1,g2,m,g3,g4,g5,g6⟩:=(h.r r hr).2.n
 obtain rfl:k=c.log.length:=by omega
 have h3:=ready_nil g6 h2
 have hdl:r.engine.deeds.length=(dOf c.log c.log.length).length - m:=by rw[g5,List.length_drop]
 have hs:=seen_done g6 h3
 have hsq:=sq_drop (r:=[]) (l:=dOf c.log c.log.length) (m:=m) r.engine.deeds.length (by omega)
 rw[← g5]at hsq
 rw[hs,hsq,markN_all h3,g6.W.l]
 refine⟨?_,rfl⟩
 unfold sq
 rw[List.take_of_length_le (by omega)]
set_option maxHeartbeats 16000000
theorem ok_rset (c:Cluster) (n:Int) (r x:Replica) (h:c.Sm) (hx:nth c.reps n=some x) :
  FnOk Tryz.prog 30 [.d (.agg c.enc),.d (dint n),.d (.agg r.enc)] (.one (.agg (Cluster.enc { c with reps:=c.reps.set n.toNat r }))):=by
 refine fnOk_of tbl_ok mixed_ok Tryz.func30 rfl (by kernel_rfl) rfl rfl fun w0 own0=>?_
 obtain⟨i,rfl,hi⟩:=nth_some hx
 rw[Int.toNat_natCast]
 have hk:=h.k
 have hil:=(List.getElem?_eq_some_iff.1 hi).1
 have hxm:([]++c.reps.map Replica.enc)[i]? = some x.enc:=by rw[List.nil_append,List.getElem?_map,hi];rfl
 try refine wk ?_
 exact .one (.cell rfl rfl rfl rfl (.agg (.cons (.d (.refl _)) (.cons (.own rfl (by simp) (dle_eq (by simp[encReps,List.map_set];rfl))) (.cons (.d (.refl _)) .nil)))))
theorem set_c {c:Cluster}{i:Nat}{r:Replica}(h:c.reps[i]? = some r):({ c with reps:=c.reps.set i r }:Cluster)=c:=by
 rw[set_same h]
theorem rdo_batch (c:Cluster) (s:Step) (h:KInv c) (hd:∀ d∈s.deeds,d.Sm) (hl:s.deeds.length≤100000000) (k1:s.kind=1) :
  FnOk Tryz.prog 24 [.d (.agg c.enc),.d (.agg s.enc)] (.tup [.agg (batchC c s.deeds).1.enc,dint (batchC c s.deeds).2]):=by
 refine fnOk_of tbl_ok mixed_ok Tryz.func24 rfl (by kernel_rfl) rfl rfl fun w0 own0=>?_
 have hL:=h.l
 have hP:=h.p
 have hR:=h.k
 have hS:=h.sm
 have hst0:StopA 1:=⟨rfl⟩
 try refine wkS ?_
 clear hst0
 refine Stop.cutk [sd 6 (dbool (decide (0≤s.n∧s.n < c.reps.length)))] [.s 2,.s 3,.s 4,.s 5,.o 0,.o 1,.o 2,.nx] ?_ ?_
 ·
  by_cases b0:0≤s.n
  ·
   try refine wk ?_
   refine q_cut ?_
   exact by_less
  ·
   try refine wk ?_
   refine q_cut ?_
   exact by_less
 unfold batchC
 by_cases b1:12≤c.log.length
 ·
  rw[if_pos b1]
  try refine wk ?_
  exact .two (.cell rfl rfl rfl rfl (.aggd (ds:=c.enc) rfl (.refl _))) (.tmp rfl (.one (.d (.refl _))))
 rw[if_neg b1]
 have c1:FnOk Tryz.prog 42 [.d (.agg [dint ((c.log.map Entry.enc).length:Int),encDeeds s.deeds])] (.one (dint (wrongEntry ⟨c.log.length,s.deeds⟩))):=by
  rw[List.length_map]
  exact ok_rwrongEntry ⟨c.log.length,s.deeds⟩ hd (by dsimp only;omega)
 by_cases b2:wrongEntry ⟨c.log.length,s.deeds⟩=0
 ·
  rw[if_pos b2]
  rw[b2]at c1
  repeat(first|((with_reducible apply s5);((with_reducible apply a_bs [[dint ((c.log.map Entry.enc).length:Int),encDeeds s.deeds]]);(iterate 9 exact rfl);(repeat(first|exact PartsE.nil|(apply PartsE.cons;exact rfl;exact rfl))));exact by_g)|refine wa1 ?_|((with_reducible apply s5);(first|exact a_call c1 rfl by_sub|((with_reducible apply a_buildA);(iterate 4 exact rfl);(repeat(first|exact PartsV.nil|(apply PartsV.cons;exact rfl;exact rfl;(first|exact⟨rfl,trivial⟩|(apply nw_own;exact rfl;(focus first|exact rfl|(simp;done)|(simp;omega)))))));exact rfl)|exact by_oa|exact by_ca);exact by_g)|refine wb ?_)
  exact .two (.cell rfl rfl rfl rfl (.agg (.cons (.own rfl (by simp) (dle_eq (by simp[encEntries];rfl))) (.cons (.d (.refl _)) (.cons (.d (.refl _)) .nil))))) (.tmp rfl (.one (.d (.refl _))))
 ·
  rw[if_neg b2]
  generalize wrongEntry ⟨c.log.length,s.deeds⟩=W at *
  repeat(first|refine wa ?_|((with_reducible apply s5);(first|exact a_call c1 rfl by_sub|((with_reducible apply a_buildA);(iterate 4 exact rfl);(repeat(first|exact PartsV.nil|(apply PartsV.cons;exact rfl;exact rfl;(first|exact⟨rfl,trivial⟩|(apply nw_own;exact rfl;(focus first|exact rfl|(simp;done)|(simp;omega)))))));exact rfl)|exact by_oa|exact by_ca);exact by_g)|refine wb ?_)
  exact .two (.cell rfl rfl rfl rfl (.aggd (ds:=c.enc) rfl (.refl _))) (.tmp rfl (.one (.d (.refl _))))
theorem rdo_send (c:Cluster) (s:Step) (h:KInv c) (k2:s.kind=2) :
  FnOk Tryz.prog 24 [.d (.agg c.enc),.d (.agg s.enc)] (.tup [.agg (sendC c s.n s.m).1.enc,dint (sendC c s.n s.m).2]):=by
 refine fnOk_of tbl_ok mixed_ok Tryz.func24 rfl (by kernel_rfl) rfl rfl fun w0 own0=>?_
 have hL:=h.l
 have hP:=h.p
 have hR:=h.k
 have hS:=h.sm
 have hst0:StopA 1:=⟨rfl⟩
 try refine wkS ?_
 clear hst0
 refine Stop.cutk [sd 6 (dbool (decide (0≤s.n∧s.n < c.reps.length)))] [.s 2,.s 3,.s 4,.s 5,.o 0,.o 1,.o 2,.nx] ?_ ?_
 ·
  by_cases b0:0≤s.n
  ·
   try refine wk ?_
   refine q_cut ?_
   exact by_less
  ·
   try refine wk ?_
   refine q_cut ?_
   exact by_less
 unfold sendC
 cases hn:nth c.reps s.n with
 |none =>
  have hn':=nth_none hn
  dsimp only
  try refine wk ?_
  exact .two (.cell rfl rfl rfl rfl (.aggd (ds:=c.enc) rfl (.refl _))) (.tmp rfl (.one (.d (.refl _))))
 |some r =>
  obtain⟨i,hi1,hi⟩:=nth_some hn
  have hil:=(List.getElem?_eq_some_iff.1 hi).1
  dsimp only
  cases hm:nth c.log s.m with
  |none =>
   have hm':=nth_none hm
   dsimp only
   by_cases b1:0≤s.m
   ·
    try refine wk ?_
    exact .two (.cell rfl rfl rfl rfl (.aggd (ds:=c.enc) rfl (.refl _))) (.tmp rfl (.one (.d (.refl _))))
   ·
    try refine wk ?_
    exact .two (.cell rfl rfl rfl rfl (.aggd (ds:=c.enc) rfl (.refl _))) (.tmp rfl (.one (.d (.refl _))))
  |some e =>
   obtain⟨j,hj1,hj⟩:=nth_some hm
   have hjl:=(List.getElem?_eq_some_iff.1 hj).1
   dsimp only
   by_cases b1:c.net.length < 16
   ·
    rw[if_pos b1]
    have c1:=ok_rbytes e (h.w j e hj).2
    have hix:idx (c.log.map Entry.enc) s.m=some e.enc:=by rw[hj1];exact idx_map hj
    generalize bytesE e=B at *
    repeat(first|((with_reducible apply s5);((with_reducible apply a_bs [[dint s.n,encBytes B]]);(iterate 9 exact rfl);(repeat(first|exact PartsE.nil|(apply PartsE.cons;exact rfl;exact rfl))));exact by_g)|refine wa1 ?_|((with_reducible apply s5);(first|((with_reducible apply a_buildA);(iterate 4 exact rfl);(repeat(first|exact PartsV.nil|(apply PartsV.cons;exact rfl;exact rfl;(first|exact⟨rfl,trivial⟩|(apply nw_own;exact rfl;(focus first|exact rfl|(simp;done)|(simp;omega)))))));exact rfl)|((with_reducible apply a_ia);(iterate 5 exact rfl);exact hix)|exact by_oa|exact by_ca);exact by_g)|refine wb ?_)
    exact .two (.cell rfl rfl rfl rfl (.agg (.cons (.d (.refl _)) (.cons (.d (.refl _)) (.cons (.own rfl (by simp) (dle_eq (by simp[encNet];rfl))) .nil))))) (.tmp rfl (.one (.d (.refl _))))
   ·
    rw[if_neg b1]
    try refine wk ?_
    exact .two (.cell rfl rfl rfl rfl (.aggd (ds:=c.enc) rfl (.refl _))) (.tmp rfl (.one (.d (.refl _))))
theorem rdo_clr (c:Cluster) (s:Step) (h:KInv c) (k7:s.kind=7) :
  FnOk Tryz.prog 24 [.d (.agg c.enc),.d (.agg s.enc)] (.tup [.agg (clrC c s.n).1.enc,dint (clrC c s.n).2]):=by
 refine fnOk_of tbl_ok mixed_ok Tryz.func24 rfl (by kernel_rfl) rfl rfl fun w0 own0=>?_
 have hL:=h.l
 have hP:=h.p
 have hR:=h.k
 have hS:=h.sm
 have hst0:StopA 1:=⟨rfl⟩
 try refine wkS ?_
 clear hst0
 refine Stop.cutk [sd 6 (dbool (decide (0≤s.n∧s.n < c.reps.length)))] [.s 2,.s 3,.s 4,.s 5,.o 0,.o 1,.o 2,.nx] ?_ ?_
 ·
  by_cases b0:0≤s.n
  ·
   try refine wk ?_
   refine q_cut ?_
   exact by_less
  ·
   try refine wk ?_
   refine q_cut ?_
   exact by_less
 unfold clrC
 cases hn:nth c.reps s.n with
 |none =>
  have hn':=nth_none hn
  dsimp only
  try refine wk ?_
  exact .two (.cell rfl rfl rfl rfl (.aggd (ds:=c.enc) rfl (.refl _))) (.tmp rfl (.one (.d (.refl _))))
 |some r =>
  obtain⟨i,hi1,hi⟩:=nth_some hn
  have hil:=(List.getElem?_eq_some_iff.1 hi).1
  have hix:idx (c.reps.map Replica.enc) s.n=some r.enc:=by rw[hi1];exact idx_map hi
  have hit:s.n.toNat=i:=by omega
  have hRI:=(h.r r (List.mem_of_getElem? hi)).1
  have hs:=hRI.sm.e
  have c1:=ok_clearE r.engine hs hRI.e.z.s hRI.e.z.n
  have c2:=ok_rset c s.n (clearR r) r hS hn
  dsimp only
  rw[hit]at c2 ⊢
  unfold clearR at c2 ⊢
  generalize clearE r.engine=E at *
  repeat(first|refine wa ?_|((with_reducible apply s5);(first|((with_reducible apply a_ia);(iterate 5 exact rfl);exact hix)|exact by_oa|exact by_ca);exact by_g)|refine wb ?_)
  exact .two (.cell rfl rfl rfl rfl (.aggd (ds:=Cluster.enc ({ c with reps:=c.reps.set i ⟨E,r.next,r.early⟩ })) rfl (.refl _))) (.tmp rfl (.one (.d (.refl _))))
theorem rdo_none (c:Cluster) (s:Step) (h:KInv c) (k1:s.kind≠1) (k2:s.kind≠2) (k3:s.kind≠3) (k4:s.kind≠4) (k5:s.kind≠5) (k6:s.kind≠6) (k7:s.kind≠7) :
  FnOk Tryz.prog 24 [.d (.agg c.enc),.d (.agg s.enc)] (.tup [.agg c.enc,dint 1]):=by
 refine fnOk_of tbl_ok mixed_ok Tryz.func24 rfl (by kernel_rfl) rfl rfl fun w0 own0=>?_
 have hL:=h.l
 have hP:=h.p
 have hR:=h.k
 have hS:=h.sm
 have hst0:StopA 1:=⟨rfl⟩
 try refine wkS ?_
 clear hst0
 refine Stop.cutk [sd 6 (dbool (decide (0≤s.n∧s.n < c.reps.length)))] [.s 2,.s 3,.s 4,.s 5,.o 0,.o 1,.o 2,.nx] ?_ ?_
 ·
  by_cases b0:0≤s.n
  ·
   try refine wk ?_
   refine q_cut ?_
   exact by_less
  ·
   try refine wk ?_
   refine q_cut ?_
   exact by_less
 try refine wk ?_
 exact .two (.cell rfl rfl rfl rfl (.aggd (ds:=c.enc) rfl (.refl _))) (.tmp rfl (.one (.d (.refl _))))
theorem rdo_run (c:Cluster) (s:Step) (h:KInv c) (k6:s.kind=6) :
  FnOk Tryz.prog 24 [.d (.agg c.enc),.d (.agg s.enc)] (.tup [.agg (runC c s.n s.m).1.enc,dint (runC c s.n s.m).2]):=by
 refine fnOk_of tbl_ok mixed_ok Tryz.func24 rfl (by kernel_rfl) rfl rfl fun w0 own0=>?_
 have hL:=h.l
 have hP:=h.p
 have hR:=h.k
 have hS:=h.sm
 have hst0:StopA 1:=⟨rfl⟩
 try refine wkS ?_
 clear hst0
 refine Stop.cutk [sd 6 (dbool (decide (0≤s.n∧s.n < c.reps.length)))] [.s 2,.s 3,.s 4,.s 5,.o 0,.o 1,.o 2,.nx] ?_ ?_
 ·
  by_cases b0:0≤s.n
  ·
   try refine wk ?_
   refine q_cut ?_
   exact by_less
  ·
   try refine wk ?_
   refine q_cut ?_
   exact by_less
 unfold runC
 cases hn:nth c.reps s.n with
 |none =>
  have hn':=nth_none hn
  dsimp only
  try refine wk ?_
  exact .two (.cell rfl rfl rfl rfl (.aggd (ds:=c.enc) rfl (.refl _))) (.tmp rfl (.one (.d (.refl _))))
 |some r =>
  obtain⟨i,hi1,hi⟩:=nth_some hn
  have hil:=(List.getElem?_eq_some_iff.1 hi).1
  have hix:idx (c.reps.map Replica.enc) s.n=some r.enc:=by rw[hi1];exact idx_map hi
  have hit:s.n.toNat=i:=by omega
  have hRI:=(h.r r (List.mem_of_getElem? hi)).1
  have hs:=hRI.sm.e
  have c1:=ok_ready r.engine hs hRI.e.z.s
  have c2:=fun x=>ok_go r.engine x _ hRI.e.z (by have:=hRI.n;omega) hRI.e.o hRI.e.c
  have hrl:=ready_small hs
  obtain⟨q,hb⟩:=hRI.b
  dsimp only
  rw[hit]
  by_cases m0:s.m < 0
  ·
   have hg:goR r s.m=(r,6):=by unfold goR;rw[if_pos m0]
   rw[hg]
   dsimp only
   rw[set_c hi]
   generalize ready r.engine=l at *
   repeat(first|refine wa ?_|((with_reducible apply s5);(first|((with_reducible apply a_ia);(iterate 5 exact rfl);exact hix)|exact by_oa|exact by_ca);exact by_g)|refine wb ?_)
   exact .two (.cell rfl rfl rfl rfl (.aggd (ds:=c.enc) rfl (.refl _))) (.tmp rfl (.one (.d (.refl _))))
  obtain⟨M,hM⟩:=Int.eq_ofNat_of_zero_le (show 0≤s.m by omega)
  cases hx:(ready r.engine)[M]? with
  |none =>
   have hle:=List.getElem?_eq_none_iff.1 hx
   have hg:goR r s.m=(r,6):=by unfold goR;rw[if_neg m0,hM,Int.toNat_natCast,hx]
   rw[hg]
   dsimp only
   rw[set_c hi]
   generalize ready r.engine=l at *
   repeat(first|refine wa ?_|((with_reducible apply s5);(first|((with_reducible apply a_ia);(iterate 5 exact rfl);exact hix)|exact by_oa|exact by_ca);exact by_g)|refine wb ?_)
   exact .two (.cell rfl rfl rfl rfl (.aggd (ds:=c.enc) rfl (.refl _))) (.tmp rfl (.one (.d (.refl _))))
  |some x =>
   have hlt:=(List.getElem?_eq_some_iff.1 hx).1
   have hg:goR r s.m=(⟨(goE r.engine x).1,r.next,r.early⟩,0):=by unfold goR;rw[if_neg m0,hM,Int.toNat_natCast,hx]
   rw[hg]
   dsimp only
   have c3:=c2 x
   rw[ready_ok hb.W (List.mem_of_getElem? hx)]at c3
   have c4:=ok_rset c s.n ⟨(goE r.engine x).1,r.next,r.early⟩ r hS hn
   rw[hit]at c4
   have hixm:idx ((ready r.engine).map encInt1) s.m=some (encInt1 x):=by rw[hM];exact idx_map hx
   generalize (goE r.engine x).1=E at *
   generalize ready r.engine=l at *
   repeat(first|refine wa ?_|((with_reducible apply s5);(first|exact a_call c3 rfl by_sub|((with_reducible apply a_ia);(iterate 5 exact rfl);first|exact hix|exact hixm)|exact by_oa|exact by_ca);exact by_g)|refine wb ?_)
   exact .two (.cell rfl rfl rfl rfl (.aggd (ds:=Cluster.enc ({ c with reps:=c.reps.set i ⟨E,r.next,r.early⟩ })) rfl (.refl _))) (.tmp rfl (.one (.d (.refl _))))
theorem rdo_packet (c:Cluster) (s:Step) (h:KInv c) (k3:s.kind=3∨s.kind=4∨s.kind=5) :
  FnOk Tryz.prog 24 [.d (.agg c.enc),.d (.agg s.enc)] (.tup [.agg (packetC c s.kind s.n).1.enc,dint (packetC c s.kind s.n).2]):=by
 refine fnOk_of tbl_ok mixed_ok Tryz.func24 rfl (by kernel_rfl) rfl rfl fun w0 own0=>?_
 have hL:=h.l
 have hP:=h.p
 have hR:=h.k
 have hS:=h.sm
 have hst0:StopA 1:=⟨rfl⟩
 try refine wkS ?_
 clear hst0
 refine Stop.cutk [sd 6 (dbool (decide (0≤s.n∧s.n < c.reps.length)))] [.s 2,.s 3,.s 4,.s 5,.o 0,.o 1,.o 2,.nx] ?_ ?_
 ·
  by_cases b0:0≤s.n
  ·
   try refine wk ?_
   refine q_cut ?_
   exact by_less
  ·
   try refine wk ?_
   refine q_cut ?_
   exact by_less
 unfold packetC
 cases hn:nth c.net s.n with
 |none =>
  have hn':=nth_none hn
  dsimp only
  rcases k3 with k3|k3|k3
  all_goals by_cases b1:0≤s.n
  all_goals
   try refine wk ?_
   exact .two (.cell rfl rfl rfl rfl (.aggd (ds:=c.enc) rfl (.refl _))) (.tmp rfl (.one (.d (.refl _))))
 |some p =>
  obtain⟨i,hi1,hi⟩:=nth_some hn
  have hil:=(List.getElem?_eq_some_iff.1 hi).1
  have hix:idx (c.net.map Packet.enc) s.n=some p.enc:=by rw[hi1];exact idx_map hi
  have hit:s.n.toNat=i:=by omega
  dsimp only
  rw[hit]
  have hc1:cutI (c.net.map Packet.enc) none (some s.n)=some ((c.net.map Packet.enc).take i):=by rw[hi1];exact cut_to (by simp;omega)
  have hc2:cutI (c.net.map Packet.enc) (some (s.n+1)) none=some ((c.net.map Packet.enc).drop (i+1)):=by
   rw[hi1,show(i:Int)+1=((i+1:Nat):Int) by omega];exact cut_from (by simp;omega)
  have hrows:([]++(c.net.map Packet.enc).take i)++(c.net.map Packet.enc).drop (i+1)=(c.net.eraseIdx i).map Packet.enc:=by
   rw[List.eraseIdx_eq_take_drop_succ,List.map_append,List.map_take,List.map_drop,List.nil_append]
  have hlen:((c.net.map Packet.enc).take i).length+((c.net.map Packet.enc).drop (i+1)).length=c.net.length - 1:=by simp;omega
  by_cases k5:s.kind=5
  ·
   rw[if_pos k5]
   by_cases b1:c.net.length < 16
   ·
    rw[if_pos b1]
    repeat(first|((with_reducible apply s5);((with_reducible apply a_bs [p.enc]);(iterate 9 exact rfl);(repeat(first|exact PartsE.nil|(apply PartsE.cons;exact rfl;exact rfl))));exact by_g)|refine wa1 ?_|((with_reducible apply s5);(first|((with_reducible apply a_ia);(iterate 5 exact rfl);exact hix)|exact by_oa|exact by_ca);exact by_g)|refine wb ?_)
    exact .two (.cell rfl rfl rfl rfl (.agg (.cons (.d (.refl _)) (.cons (.d (.refl _)) (.cons (.own rfl (by simp) (dle_eq (by simp[encNet]))) .nil))))) (.tmp rfl (.one (.d (.refl _))))
   ·
    rw[if_neg b1]
    repeat(first|refine wa ?_|((with_reducible apply s5);(first|((with_reducible apply a_ia);(iterate 5 exact rfl);exact hix)|exact by_oa|exact by_ca);exact by_g)|refine wb ?_)
    exact .two (.cell rfl rfl rfl rfl (.aggd (ds:=c.enc) rfl (.refl _))) (.tmp rfl (.one (.d (.refl _))))
  rw[if_neg k5]
  by_cases k4:s.kind=4
  ·
   rw[if_pos k4]
   repeat(first|refine wa ?_|((with_reducible apply s5);(first|((with_reducible apply a_to);(iterate 5 exact rfl);exact hc1)|((with_reducible apply a_from);(iterate 5 exact rfl);exact hc2)|((with_reducible apply a_ia);(iterate 5 exact rfl);exact hix)|exact by_oa|exact by_ca);exact by_g)|refine wb ?_)
   exact .two (.cell rfl rfl rfl rfl (.agg (.cons (.d (.refl _)) (.cons (.d (.refl _)) (.cons (.own rfl (by simp) (dle_eq (congrArg (D.sl 2) hrows))) .nil))))) (.tmp rfl (.one (.d (.refl _))))
  rw[if_neg k4]
  obtain⟨⟨hd1,hd2⟩,j,e,he1,he2⟩:=h.d p (List.mem_of_getElem? hi)
  have hw:=(h.w j e he1).2
  obtain⟨r,hr⟩:∃ r,c.reps[p.dst.toNat]? = some r:=⟨c.reps[p.dst.toNat]'(by omega),List.getElem?_eq_getElem (by omega)⟩
  have hnr:nth c.reps p.dst=some r:=by unfold nth;rw[if_neg (by omega)];exact hr
  have c1:=ok_rparse6 p.data (by rw[he2];have:=bytes_len hw;omega)
  rw[he2,parse_bytes hw,← he2]at c1
  dsimp only[resB]at c1
  have c2:=ok_rcome r e (h.r r (List.mem_of_getElem? hr)).1 hw
  have hcome:comeC { c with net:=c.net.eraseIdx i } p={ c with net:=c.net.eraseIdx i,reps:=c.reps.set p.dst.toNat (comeE r e).1 }:=by
   unfold comeC
   dsimp only
   rw[hnr]
   dsimp only
   rw[he2,parse_bytes hw]
  rw[hcome]
  have c3:=ok_rset { c with net:=c.net.eraseIdx i } p.dst (comeE r e).1 r (h.drop i).sm hnr
  have hixr:idx (c.reps.map Replica.enc) p.dst=some r.enc:=by rw[show p.dst=((p.dst.toNat:Nat):Int) by omega];exact idx_map hr
  generalize (comeE r e).1=x at *
  generalize (comeE r e).2=v at *
  have hst0:StopA 28:=⟨rfl⟩
  repeat(first|refine waS ?_|((with_reducible apply s5);(first|((with_reducible apply a_to);(iterate 5 exact rfl);exact hc1)|((with_reducible apply a_from);(iterate 5 exact rfl);exact hc2)|((with_reducible apply a_ia);(iterate 5 exact rfl);exact hix)|exact by_oa|exact by_ca);exact by_g)|refine wb ?_)
  clear hst0
  rw[hrows]
  refine Stop.go (CW.stut (stut_freeze_cell (id:=0) (j:=2) (i:=4) rfl (by rw[List.length_map,List.length_eraseIdx_of_lt hil];first|exact hlen|(rw[Nat.zero_add];exact hlen))) ⟨rfl,rfl,trivial⟩ ?_)
  repeat(first|refine wa ?_|((with_reducible apply s5);(first|((with_reducible apply a_ia);(iterate 5 exact rfl);exact hixr)|exact by_oa|exact by_ca);exact by_g)|refine wb ?_)
  exact .two (.cell rfl rfl rfl rfl (.aggd (ds:=Cluster.enc ({ c with net:=c.net.eraseIdx i,reps:=c.reps.set p.dst.toNat x })) rfl (.refl _))) (.tmp rfl (.one (.d (.refl _))))
theorem ok_rdo (c:Cluster) (s:Step) (h:KInv c) (hd:∀ d∈s.deeds,d.Sm) (hl:s.deeds.length≤100000000):FnOk Tryz.prog 24 [.d (.agg c.enc),.d (.agg s.enc)] (.tup [.agg (doC c s).1.enc,dint (doC c s).2]):=by
 unfold doC
 by_cases k1:s.kind=1
 ·
  rw[if_pos k1];exact rdo_batch c s h hd hl k1
 rw[if_neg k1]
 by_cases k2:s.kind=2
 ·
  rw[if_pos k2];exact rdo_send c s h k2
 rw[if_neg k2]
 by_cases k3:s.kind=3∨s.kind=4∨s.kind=5
 ·
  rw[if_pos k3];exact rdo_packet c s h k3
 rw[if_neg k3]
 by_cases k6:s.kind=6
 ·
  rw[if_pos k6];exact rdo_run c s h k6
 rw[if_neg k6]
 by_cases k7:s.kind=7
 ·
  rw[if_pos k7];exact rdo_clr c s h k7
 rw[if_neg k7]
 exact rdo_none c s h k1 k2 (by omega) (by omega) (by omega) k6 k7
set_option maxHeartbeats 8000000
structure Step.Sm (s:Step):Prop where
 l:s.deeds.length≤10000000
 d:∀ d∈s.deeds,d.Sm
theorem ok_rplay (n:Int) (l:List Step) (h1:1≤n) (h3:n≤3) (hl:l.length≤10000000) (hs:∀ s∈l,s.Sm) :
  FnOk Tryz.prog 9 [.d (dint n),.d (encSteps l)] (.tup [.agg (playC (newC n) (l.take 120)).enc,encInts (errsC (newC n) (l.take 120))]):=by
 refine fnOk_of tbl_ok mixed_ok Tryz.func9 rfl (by kernel_rfl) rfl rfl fun w0 own0=>?_
 have c1:=ok_rcnew n
 have hm:madeC n=(newC n,0):=by unfold madeC;rw[if_neg (by omega)]
 rw[hm]at c1
 have hK:=newC_inv h3
 generalize newC n=c0 at *
 obtain⟨tg,htg⟩:∃ tg,playC c0 (l.take 120)=tg:=⟨_,rfl⟩
 obtain⟨te,hte⟩:∃ te,errsC c0 (l.take 120)=te:=⟨_,rfl⟩
 rw[htg,hte]
 try refine wk ?_
 refine CW.stut (stut_promote (i:=8) 29 1) ⟨rfl,rfl,trivial⟩ ?_
 refine CW.loopT (fun t:Nat×Cluster×List Int=>[sp 4 0,ob 0 [.v nilS,.v nilS,.v nilS],sd 5 (.v nilS),sp 6 1,ob 1 t.2.1.enc,so 8 2 t.1,oa 2 29 1 (t.2.2.map encInt1),sd 18 (encSteps l),sd 19 (dint l.length),sd 20 (dint t.1),nxt 3])
  (fun t=>(t.1≤l.length∧t.1≤120)∧t.2.2.length=t.1∧KInv t.2.1∧playC t.2.1 ((l.take 120).drop t.1)=tg∧t.2.2++errsC t.2.1 ((l.take 120).drop t.1)=te) (fun t=>l.length - t.1) (0,c0,[]) ⟨⟨by dsimp only;omega,by dsimp only;omega⟩,rfl,hK,htg,hte⟩ ?_ ?_
 ·
  exact by_less
 ·
  rintro ⟨i,c,es⟩ ⟨⟨hi,hi2⟩,he,hc,hI,hE⟩
  dsimp only at hi hi2 he hc hI hE ⊢
  have fin:(l.take 120).drop i=[]→c=tg∧es=te:=fun h0=>by
   rw[h0]at hI hE
   simp only[playC,errsC,List.append_nil]at hI hE
   exact⟨hI,hE⟩
  rcases drop_case hi with ⟨h5,h6⟩|⟨s,h5,h6,h7⟩
  ·
   obtain⟨rfl,rfl⟩:=fin (List.drop_eq_nil_of_le (by rw[List.length_take];omega))
   try refine wk ?_
   exact .two (.cell rfl rfl rfl rfl (.aggd (ds:=c.enc) rfl (.refl _))) (.tmp rfl (.one (.own rfl (by simp;omega) (.refl _))))
  ·
   by_cases h8:i=120
   ·
    obtain⟨rfl,rfl⟩:=fin (List.drop_eq_nil_of_le (by rw[List.length_take];omega))
    subst h8
    try refine wk ?_
    exact .two (.cell rfl rfl rfl rfl (.aggd (ds:=c.enc) rfl (.refl _))) (.tmp rfl (.one (.own rfl (by simp;omega) (.refl _))))
   ·
    have hdr:(l.take 120).drop i=s::(l.take 120).drop (i+1):=by
     have h9:(l.take 120)[i]? = some s:=by rw[List.getElem?_take,if_pos (by omega)];exact h6
     obtain⟨q1,q2⟩:=List.getElem?_eq_some_iff.1 h9
     rw[List.drop_eq_getElem_cons q1,q2]
    rw[hdr]at hI hE
    simp only[playC,errsC]at hI hE
    have hsm:=hs s (List.mem_of_getElem? h6)
    have c2:=ok_rdo c s hc hsm.d (by have:=hsm.l;omega)
    have hc2:=hc.step s
    generalize (doC c s).1=x at *
    generalize (doC c s).2=v at *
    have h10:es.map encInt1++[[dint v]]=(es++[v]).map encInt1:=by simp[encInt1]
    repeat(first|((with_reducible apply s5);((with_reducible apply a_bs [[dint v]]);(iterate 9 exact rfl);(repeat(first|exact PartsE.nil|(apply PartsE.cons;exact rfl;exact rfl))));exact by_g)|refine wa1 ?_|((with_reducible apply s5);(first|exact by_oa|exact by_ca);exact by_g)|refine wb ?_)
    refine q_loopT (i+1,x,es++[v]) ⟨⟨by dsimp only;omega,by dsimp only;omega⟩,by simp;omega,hc2,hI,by rw[List.append_assoc];exact hE⟩ (by dsimp only;omega) ?_
    exact by_less
theorem ok_rdeeds (L:List Entry) (n:Int) (h0:0≤n) (hL:L.length≤1000) (hw:∀ x∈L,wrongEntry x=0):FnOk Tryz.prog 19 [.d (encEntries L),.d (dint n)] (.one (encDeeds (dOf L n.toNat))):=by
 refine fnOk_of tbl_ok mixed_ok Tryz.func19 rfl (by kernel_rfl) rfl rfl fun w0 own0=>?_
 obtain⟨N,rfl⟩:=Int.eq_ofNat_of_zero_le h0
 rw[Int.toNat_natCast]
 have hlen:∀ i,(dOf L (min i N)).length≤6*i:=fun i=>by
  induction i with
  |zero=>simp[dOf]
  |succ i ih =>
   by_cases hi:i < N
   ·
    rw[show min (i+1) N=i+1 by omega]
    rw[show min i N=i by omega]at ih
    cases hx:L[i]? with
    |none =>
     have:=List.getElem?_eq_none_iff.1 hx
     have h2:dOf L (i+1)=dOf L i:=by unfold dOf;rw[List.take_of_length_le (by omega),List.take_of_length_le (by omega)]
     rw[h2];omega
    |some x =>
     have h3:=(wrongEntry_out (hw x (List.mem_of_getElem? hx))).2.1
     rw[dOf_succ hx,List.length_append]
     omega
   ·
    rw[show min (i+1) N=min i N by omega];omega
 try refine wk ?_
 refine CW.stut (stut_promote (i:=5) 77 3) ⟨rfl,rfl,trivial⟩ ?_
 refine CW.loopT (fun i:Nat=>[sd 1 (dint N),sd 4 (.v nilS),so 5 0 (dOf L (min i N)).length,oa 0 77 3 ((dOf L (min i N)).map Deed.enc),sd 8 (encEntries L),sd 9 (dint L.length),sd 10 (dint i),nxt 1]) (fun i=>i≤L.length) (fun i=>L.length - i) 0 (by omega) ?_ ?_
 ·
  exact by_less
 ·
  rintro i hi
  have hli:=hlen i
  rcases drop_case hi with ⟨h1,h2⟩|⟨x,h1,h2,h3⟩
  ·
   subst h2
   have h4:dOf L (min L.length N)=dOf L N:=by
    unfold dOf
    congr 1
    by_cases h:L.length≤N
    ·
     rw[show min L.length N=L.length by omega,List.take_length,List.take_of_length_le h]
    ·
     rw[show min L.length N=N by omega]
   rw[h4]
   try refine wk ?_
   exact .one (.tmp rfl (.one (.own rfl (by simp) (.refl _))))
  ·
   have hx3:=(wrongEntry_out (hw x (List.mem_of_getElem? h2))).2.1
   by_cases h4:i < N
   ·
    have h5:(dOf L (min i N)).map Deed.enc++x.deeds.map Deed.enc=(dOf L (min (i+1) N)).map Deed.enc:=by
     rw[show min (i+1) N=i+1 by omega,show min i N=i by omega,dOf_succ h2,List.map_append]
    have h6:(dOf L (min (i+1) N)).length=(dOf L (min i N)).length+x.deeds.length:=by
     rw[show min (i+1) N=i+1 by omega,show min i N=i by omega,dOf_succ h2,List.length_append]
    try refine wk ?_
    refine q_loopT (i+1) (by omega) (by omega) ?_
    exact by_less
   ·
    have h5:min (i+1) N=min i N:=by omega
    try refine wk ?_
    refine q_loopT (i+1) (by omega) (by omega) ?_
    rw[h5]
    exact by_less
abbrev shStep:List Sh:=[i64s,i64s,i64s,.sl shDeed]
structure Step.In (s:Step) (m:Nat):Prop where
 l:s.deeds.length≤m
 d:∀ x∈s.deeds,Deed.In x m
theorem Step.In.mono {s:Step}{m n:Nat}(h:Step.In s m) (hm:m≤n):Step.In s n:=⟨by have:=h.l;omega,fun x hx=>(h.d x hx).mono hm⟩
theorem Step.In.sm {s:Step}{m:Nat}(h:Step.In s m) (hm:m≤1048576):s.Sm:=⟨by have:=h.l;omega,fun d hd=>(h.d d hd).sm hm⟩
theorem dec_step (r:List D) (m:Nat) (h:FitsL shStep m r):∃ s:Step,r=s.enc∧Step.In s m:=by
 obtain⟨d,e,f,g,rfl,h1,h2,h3,h4⟩:=dec_four h
 obtain⟨k,rfl,_⟩:=dec_int h1
 obtain⟨n,rfl,_⟩:=dec_int h2
 obtain⟨q,rfl,_⟩:=dec_int h3
 obtain⟨l,rfl,hl,hd⟩:=dec_deeds h4
 exact⟨⟨k,n,q,l⟩,rfl,hl,hd⟩
theorem dec_steps {m:Nat}{d:D}(h:Fits (.sl shStep) m d):∃ l:List Step,d=encSteps l∧l.length≤m∧∀ s∈l,Step.In s m:=by
 obtain⟨rows,rfl,hr⟩:=dec_sl h
 obtain⟨l,rfl,hl,hn⟩:=fitsR_all dec_step hr
 exact⟨l,rfl,hn,fun p hp=>let ⟨_,h1,h2⟩:=hl p hp;h2.mono h1⟩
end Go.Proofs.YtccblhpfjlgmbaaGreatDoor
namespace Go.Proofs.YtccblhpfjlgmbaaGreatDoor
open Go.AX Go.RF Go.RowKit Go.Shelf Go.Lib
set_option maxHeartbeats 4000000 in
set_option maxRecDepth 100000 in
theorem delete_walkK (g n cap m:Nat) (w:World) (cur:Array Value) (hg:w.heap[g]? = some (.cells cur 66 (0,0))) (hsz:cur.size=cap*2) (hm:m < n) (hn:n≤268435456) (hnc:n≤cap) (hcm:cap≤maxLen) (hone:∀ v∈cur.toList.take (n*2),v.oneCell'=true) :
  Calls Tryz.prog 64 #[.slice (some ⟨g,0,none⟩) n cap,.int .i64 (m:Int),.int .i64 ((m:Int)+1)] w fun e w' =>
   e = .returned (.slice (some ⟨g,0,none⟩) (n - 1) cap)∧∃ m1 cs',w'=(w.drew.setRow g m1).setRow g cs'∧cs'.size=cap*2∧cs'.toList.take ((n - 1)*2)=(cur.toList.take (n*2)).take (m*2)++(cur.toList.take (n*2)).drop ((m+1)*2):=by
 have mixed:=mixed_ok
 have hnm:¬ ((m:Int)=(m:Int)+1):=by omega
 have hT:Tryz.prog.underlying 25=some (.slice 66):=Tryz.underlying25
 have htb:∃ ti,tget tbl 66=some ti∧ti.n=2∧ti.zero=[.int .i64 0,.slice none 0 0]:=⟨_,rfl,rfl,rfl⟩
 obtain⟨ti,ht1,ht2,ht4⟩:=htb
 obtain⟨i0,hi0,hzs,_,z,hz0,hzc⟩:=(tbl_ok _ _ ht1).info
 rw[ht2]at hzs
 rw[ht4]at hzc
 have hcl:n*2≤cur.size:=by rw[hsz];exact Nat.mul_le_mul_right 2 hnc
 obtain⟨news,hnews⟩:∃ news,news=(cur.toList.drop ((m+1)*2)).take ((n - (m+1))*2):=⟨_,rfl⟩
 have hnl:news.length=(n - (m+1))*2:=by rw[hnews];simp;omega
 obtain⟨m1,hm1⟩:∃ m1:List Value,m1=cur.toList.take (m*2)++news++cur.toList.drop (m*2+news.length):=⟨_,rfl⟩
 have hm1l:m1.length=cur.size:=by rw[hm1];simp;omega
 obtain⟨zs,hzs2⟩:∃ zs:List Value,zs=[.int .i64 0,.slice none 0 0]:=⟨_,rfl⟩
 obtain⟨m2,hm2⟩:∃ m2:List Value,m2=m1.take ((m+(n - (m+1)))*2)++zs++m1.drop ((m+(n - (m+1)))*2+zs.length):=⟨_,rfl⟩
 have hm2l:m2.length=cur.size:=by rw[hm2,hzs2];simp;omega
 have hlast:m2.take ((n - 1)*2)=(cur.toList.take (n*2)).take (m*2)++(cur.toList.take (n*2)).drop ((m+1)*2):=by
  have h:=del_cells (cur:=cur.toList) (zs:=zs) hm (by simpa using hcl)
  rw[hm2,hm1,hnews]
  exact h
 have hap:∀ (A:Addr),(cap=m+1∨A=⟨g,(m+1)*2,none⟩)→∀ ty,(Builtin.append_ #[25,25] ty #[.slice (some ⟨g,0,none⟩) m cap,.slice (some A) (n - (m+1)) (cap - (m+1))]).run Tryz.prog w.drew =
   .ok (.slice (some ⟨g,0,none⟩) (m+(n - (m+1))) cap) (w.drew.setRow g m1.toArray):=fun A hA ty=>by
  have hnw:∀ j u,news[j]? = some u→w.drew.cell? (A.add j)=some u:=fun j u hj=>by
   rcases hA with hA|rfl
   ·
    have:news=[]:=List.eq_nil_of_length_eq_zero (by rw[hnl];omega)
    rw[this]at hj;simp at hj
   ·
    rw[hnews,List.getElem?_take]at hj
    split at hj
    ·
     rw[List.getElem?_drop]at hj
     rw[Addr.add_lit]
     have hgd:w.drew.heap[g]? = some (.cells cur 66 (0,0)):=hg
     simp[World.cell?,hgd]
     simpa using hj
    ·
     cases hj
  have ho1:∀ u∈news,u.oneCell'=true:=fun u hu=>by
   obtain⟨j,hj⟩:=List.getElem?_of_mem hu
   rw[hnews,List.getElem?_take]at hj
   split at hj
   ·
    rw[List.getElem?_drop]at hj
    refine hone u (List.mem_of_getElem? (i:=(m+1)*2+j) ?_)
    rw[List.getElem?_take,if_pos (by omega)];exact hj
   ·
    cases hj
  have h:=run_append_room (P:=Tryz.prog) (w:=w.drew) (ty:=ty) 25 66 i0 hT hi0 g m cap cur hg A (n - (m+1)) (cap - (m+1)) news (by rw[hzs];exact hnl) hnw ho1 (by omega) (by rw[hzs,hnl];omega)
  rw[hzs]at h
  rw[hm1]
  exact h
 have hg1:(w.drew.setRow g m1.toArray).heap[g]? = some (.cells m1.toArray 66 (0,0)):=setRow_heap _ _ _ _ _ _ hg
 have hclr:∀ ty,(Builtin.clear_ #[25] ty #[.slice (some ⟨g,(m+(n - (m+1)))*2,none⟩) (n - (m+(n - (m+1)))) (cap - (m+(n - (m+1))))]).run Tryz.prog (w.drew.setRow g m1.toArray) =
   .ok (.tuple #[]) ((w.drew.setRow g m1.toArray).setRow g m2.toArray):=fun ty=>by
  have e1:n - (m+(n - (m+1)))=1:=by omega
  have hst:=run_storeCells_at Tryz.prog g ((m+(n - (m+1)))*2) 66 zs 0 m1.toArray (w.drew.setRow g m1.toArray) hg1 (by rw[hzs2];simp;omega) (by rw[hzs2];simp[Value.oneCell'])
  have hzz:(Builtin.zeroCells z.cells 1).toList=zs:=by
   rw[hzs2,← hzc]
   have h2:z.cells.size=2:=by rw[← Array.length_toList,hzc];rfl
   apply List.ext_getElem
   ·
    simp[Builtin.zeroCells,h2]
   ·
    intro i h3 h4
    have h5:i < 2:=by simpa[h2] using h4
    simp[Builtin.zeroCells,Nat.mod_eq_of_lt h5,h2]
    exact getElem!_pos z.cells i (by omega)
  have hzv:(zeroValue 66).run Tryz.prog (w.drew.setRow g m1.toArray) = .ok z (w.drew.setRow g m1.toArray):=by simp[zeroValue,typeInfo,hi0,hz0]
  rw[e1]
  simp only[Nat.add_zero]at hst
  simp[Builtin.clear_,run_underlying hT,hzv,hzz,hst,hm2]
 have hi1:m≤cap:=by omega
 have hi2:m+1≤cap:=by omega
 have hi3:m+1≤n:=by omega
 clear hm1 hm2 hnews hzs2
 have hj1:(0:Int)≤(m:Int)+1:=by omega
 have hj2:(m:Int)+1≤(n:Int):=by omega
 have hj3:(m:Int)≤(m:Int)+1:=by omega
 have htn:((m:Int)+1).toNat=m+1:=by omega
 by_cases hcj:cap=m+1
 ·
  have hap1:=hap ⟨g,0,none⟩ (.inl hcj)
  obtain rfl:n=m+1:=by omega
  subst hcj
  have hap2:∀ ty,(Builtin.append_ #[25,25] ty #[.slice (some ⟨g,0,none⟩) m (m+1),.slice (some ⟨g,0,none⟩) 0 0]).run Tryz.prog w.drew = .ok (.slice (some ⟨g,0,none⟩) m (m+1)) (w.drew.setRow g m1.toArray):=fun ty=>by simpa using hap1 ty
  have hclr2:∀ ty,(Builtin.clear_ #[25] ty #[.slice (some ⟨g,m*2,none⟩) 1 1]).run Tryz.prog (w.drew.setRow g m1.toArray) = .ok (.tuple #[]) ((w.drew.setRow g m1.toArray).setRow g m2.toArray):=fun ty=>by
   have h:=hclr ty
   rw[show m+1 - (m+1)=0 by omega,show m+0=m by omega,show m+1 - m=1 by omega]at h
   exact h
  clear hap hap1 hclr
  go_enter Tryz.func64,Tryz.ntmps64
  go_wp2_with fail
  go_region_law_o (refine step_append_runI rfl _ _ 25 25 rfl (.slice (some ⟨g,0,none⟩) m (m+1)) (.slice (some ⟨g,0,none⟩) 0 0) (by simp[Act.eval,Act.put]) (by simp[Act.eval,Act.put]) (hap2 _) ?_)
  go_wp2_with (at_builtin;refine wpList_clear_runI rfl _ 25 rfl _ rfl (hclr2 _) ?_)
  go_ret
  exact⟨by rw[show m+1 - 1=m by omega];rfl,_,_,rfl,by simp[hm2l,hsz],by simpa using hlast⟩
 ·
  have hap1:=hap ⟨g,(m+1)*2,none⟩ (.inr rfl)
  clear hap
  go_enter Tryz.func64,Tryz.ntmps64
  go_wp2_with fail
  go_region_law_o (refine step_append_runI rfl _ _ 25 25 rfl (.slice (some ⟨g,0,none⟩) m cap) (.slice (some ⟨g,(m+1)*2,none⟩) (n - (m+1)) (cap - (m+1))) (by simp[Act.eval,Act.put]) (by simp[Act.eval,Act.put]) (hap1 _) ?_)
  go_wp2_with (at_builtin;refine wpList_clear_runI rfl _ 25 rfl _ rfl (hclr _) ?_)
  go_ret
  exact⟨by rw[show n - 1=m+(n - (m+1)) by omega];rfl,_,_,rfl,by simp[hm2l,hsz],by simpa using hlast⟩
theorem upd_deleteK (rows:List (List D)) (m:Nat) (hm:m < rows.length) (hl:rows.length≤268435456) :
  FnUpd Tryz.prog 64 66 2 rows [.d (dint m),.d (dint ((m:Int)+1))] (rows.take m++rows.drop (m+1)):=by
 refine⟨⟨_,Tryz.func64,by kernel_rfl,by kernel_rfl⟩,fun w own v vs hown hR hsep ha=>?_⟩
 match vs,ha with
 | [v1,v2],⟨h1,h2,_⟩ =>
  have e1:=rd_v h1
  have e2:=rd_v h2
  subst e1 e2
  obtain⟨xs,hrow,hone,hrl,hrd⟩:=hR
  have hxl:=hrow.1
  rcases hrow.2 with ⟨_,h0⟩|⟨g,cap,cur,rfl,_,hg,hnc,hcm,hsz,htk⟩
  ·
   omega
  ·
   refine(delete_walkK g rows.length cap m w cur hg hsz hm hl hnc hcm (by rw[htk];exact hone)).mono fun e w'=>?_
   rintro ⟨rfl,m1,cs',rfl,q1,q2⟩
   have hp:∀ b,blk (.slice (some ⟨g,0,none⟩) (rows.length - 1) cap)=some b→blk (.slice (some ⟨g,0,none⟩) rows.length cap)=some b∨w.heap.size≤b:=fun b hb => .inl hb
   have hbb:BelowBut (.slice (some ⟨g,0,none⟩) rows.length cap) w ((w.drew.setRow g m1).setRow g cs'):=⟨rfl,rfl,rfl,by simp[setRow_size],fun b hb hn=>by
    have hbg:b≠g:=fun h=>hn (by rw[h];rfl)
    rw[setRow_other _ _ _ _ hbg,setRow_other _ _ _ _ hbg];rfl⟩
   refine⟨_,rfl,hbb,hp,rows_del hm hbb hp hxl hone hrl hrd ⟨by simp;omega,.inr ⟨g,cap,cs',rfl,Nat.zero_le _,setRow_heap _ _ _ _ _ _ (setRow_heap _ _ _ _ _ _ hg),by omega,hcm,q1,?_⟩⟩⟩
   rw[q2,htk]
end Go.Proofs.YtccblhpfjlgmbaaGreatDoor
namespace Go.AX
open Go.RowKit
def isS:Key→Bool
 |.s _=>true
 |_=>false
def slotsOf:St→St
 | []=>[]
 |(k,v)::r=>match isS k with
  |true=>(k,v)::slotsOf r
  |false=>slotsOf r
def objsOf:St→St
 | []=>[]
 |(k,v)::r=>match isS k with
  |true=>objsOf r
  |false=>(k,v)::objsOf r
theorem get_slots {i:Nat}:∀ {σ:St},get (slotsOf σ) (.s i)=get σ (.s i)
 | []=>rfl
 |(k,v)::r=>by
  by_cases h:k = .s i
  ·
   subst h
   show get ((Key.s i,v)::slotsOf r) _=_
   rw[get_cons_same,get_cons_same]
  ·
   rw[get_cons_ne h]
   cases k with
   |s j=>exact(get_cons_ne h).trans (get_slots (σ:=r))
   |o j=>exact get_slots (σ:=r)
   |nx=>exact get_slots (σ:=r)
theorem get_slots_ne {k:Key}(hk:isS k=false):∀ {σ:St},get (slotsOf σ) k = .none
 | []=>rfl
 |(q,v)::r=>by
  cases q with
  |s j=>exact(get_cons_ne (fun e=>by rw[← e]at hk;cases hk)).trans (get_slots_ne hk (σ:=r))
  |o j=>exact get_slots_ne hk (σ:=r)
  |nx=>exact get_slots_ne hk (σ:=r)
theorem get_objs {k:Key}(hk:isS k=false):∀ {σ:St},get (objsOf σ) k=get σ k
 | []=>rfl
 |(q,v)::r=>by
  by_cases h:q=k
  ·
   subst h
   cases q with
   |s j=>cases hk
   |o j=>show get ((Key.o j,v)::objsOf r) _=_;rw[get_cons_same,get_cons_same]
   |nx=>show get ((Key.nx,v)::objsOf r) _=_;rw[get_cons_same,get_cons_same]
  ·
   rw[get_cons_ne h]
   cases q with
   |s j=>exact get_objs hk (σ:=r)
   |o j=>exact(get_cons_ne h).trans (get_objs hk (σ:=r))
   |nx=>exact(get_cons_ne h).trans (get_objs hk (σ:=r))
theorem get_objs_s {i:Nat}:∀ {σ:St},get (objsOf σ) (.s i) = .none
 | []=>rfl
 |(q,v)::r=>by
  cases q with
  |s j=>exact get_objs_s (σ:=r)
  |o j=>exact(get_cons_ne (by simp)).trans (get_objs_s (σ:=r))
  |nx=>exact(get_cons_ne (by simp)).trans (get_objs_s (σ:=r))
theorem get_app_none {k:Key}{τ:St}:∀ {σ:St},get σ k = .none→(∀ v,(k,v)∈σ→v ≠ .none)→get (σ++τ) k=get τ k
 | [],_,_=>rfl
 |(q,v)::r,h,hn=>by
  by_cases hq:q=k
  ·
   subst hq
   rw[get_cons_same]at h
   exact absurd h (hn v (List.mem_cons_self ..))
  ·
   rw[get_cons_ne hq]at h
   rw[List.cons_append,get_cons_ne hq]
   exact get_app_none h fun v hv=>hn v (List.mem_cons_of_mem _ hv)
theorem slots_only {k:Key}{v:Val}:∀ {σ:St},(k,v)∈slotsOf σ→isS k=true
 |(q,u)::r,h=>by
  cases q with
  |s j =>
   rcases List.mem_cons.1 h with h|h
   ·
    cases h;rfl
   ·
    exact slots_only h
  |o j=>exact slots_only (σ:=r) h
  |nx=>exact slots_only (σ:=r) h
theorem mem_of_get {k:Key}{av:AV}:∀ {σ:St},get σ k = .av av→(k,Val.av av)∈σ
 |(q,v)::r,h=>by
  by_cases hq:q=k
  ·
   subst hq
   rw[get_cons_same]at h
   subst h
   exact List.mem_cons_self ..
  ·
   rw[get_cons_ne hq]at h
   exact List.mem_cons_of_mem _ (mem_of_get h)
theorem get_back {σ τ:St}{k:Key}:get (slotsOf σ++objsOf τ) k=if isS k=true then get (slotsOf σ++objsOf τ) k else get τ k:=by
 by_cases h:isS k=true
 ·
  rw[if_pos h]
 ·
  rw[if_neg h]
  have hf:isS k=false:=by cases hk:isS k <;> simp_all
  rw[get_app_none (get_slots_ne hf) (fun v hv=>by rw[slots_only hv]at hf;cases hf),get_objs hf]
theorem get_back_o {σ τ:St}{id:Nat}:get (slotsOf σ++objsOf τ) (.o id)=get τ (.o id):=by rw[get_back];rfl
theorem get_back_nx {σ τ:St}:get (slotsOf σ++objsOf τ) .nx=get τ .nx:=by rw[get_back];rfl
theorem get_app_or {k:Key}{τ:St}:∀ {σ:St},get (σ++τ) k=get σ k∨get (σ++τ) k=get τ k
 | [] => .inr rfl
 |(q,u)::r=>by
  by_cases hq:q=k
  ·
   subst hq
   rw[List.cons_append,get_cons_same,get_cons_same];exact .inl rfl
  ·
   rw[List.cons_append,get_cons_ne hq,get_cons_ne hq]
   exact get_app_or
theorem get_back_s {σ τ:St}{i:Nat}{av:AV}(h:get (slotsOf σ++objsOf τ) (.s i) = .av av):get σ (.s i) = .av av:=by
 rcases get_app_or (σ:=slotsOf σ) (τ:=objsOf τ) (k := .s i) with h1|h1
 ·
  rw[h1,get_slots]at h;exact h
 ·
  rw[h1,get_objs_s]at h;cases h
def kept (a:Act) (σ:St):List Key→List (Value×AV)
 | []=>[]
 |.s i::r=>match get σ (.s i) with
  |.av av=>(a.tmps.getD i undef,av)::kept a σ r
  |_=>kept a σ r
 |_::r=>kept a σ r
theorem kept_ok {a:Act}{σ:St}{p:Value×AV}:∀ {l:List Key},p∈kept a σ l→∃ i,get σ (.s i) = .av p.2∧a.tmps.getD i undef=p.1
 |.s i::r,h=>by
  simp only[kept]at h
  split at h
  ·
   next av hav =>
   rcases List.mem_cons.1 h with rfl|h
   ·
    exact⟨i,hav,rfl⟩
   ·
    exact kept_ok h
  ·
   exact kept_ok h
 |.o i::r,h=>kept_ok (l:=r) h
 |.nx::r,h=>kept_ok (l:=r) h
theorem kept_of {a:Act}{σ:St}{i:Nat}{av:AV}(h:get σ (.s i) = .av av):∀ {l:List Key},.s i∈l→(a.tmps.getD i undef,av)∈kept a σ l
 |.s j::r,hm=>by
  by_cases hj:j=i
  ·
   subst hj
   simp only[kept,h]
   exact List.mem_cons_self ..
  ·
   have hr:Key.s i∈r:=by
    rcases List.mem_cons.1 hm with h1|h1
    ·
     cases h1;exact absurd rfl hj
    ·
     exact h1
   simp only[kept]
   split
   ·
    exact List.mem_cons_of_mem _ (kept_of h hr)
   ·
    exact kept_of h hr
 |.o j::r,hm=>by
  rcases List.mem_cons.1 hm with h1|h1
  ·
   cases h1
  ·
   exact kept_of (l:=r) h h1
 |.nx::r,hm=>by
  rcases List.mem_cons.1 hm with h1|h1
  ·
   cases h1
  ·
   exact kept_of (l:=r) h h1
def argAv:Nat→List AV→St
 |_,[]=>[]
 |i,x::xs=>(.s i,.av x)::argAv (i+1) xs
theorem argAv_get {xs:List AV}:∀ {i j:Nat}{av:AV},get (argAv i xs) (.s j) = .av av→i≤j∧xs[j - i]? = some av:=by
 induction xs with
 |nil=>intro i j av h;cases h
 |cons x xs ih =>
  intro i j av h
  by_cases hj:i=j
  ·
   subst hj
   rw[argAv,get_cons_same]at h
   cases h
   simp
  ·
   rw[argAv,get_cons_ne (by simpa using hj)]at h
   obtain⟨h1,h2⟩:=ih h
   refine⟨by omega,?_⟩
   rw[show j - i=(j - (i+1))+1 by omega]
   simpa using h2
theorem argAv_ne {xs:List AV}{k:Key}(hk:isS k=false):∀ {i:Nat},get (argAv i xs) k = .none:=by
 induction xs with
 |nil=>intro i;rfl
 |cons x xs ih=>intro i;rw[argAv,get_cons_ne (fun e=>by rw[← e]at hk;cases hk)];exact ih
theorem argAv_only {xs:List AV}{k:Key}{v:Val}:∀ {i:Nat},(k,v)∈argAv i xs→isS k=true:=by
 induction xs with
 |nil=>intro i h;cases h
 |cons x xs ih =>
  intro i h
  rcases List.mem_cons.1 h with h|h
  ·
   cases h;rfl
  ·
   exact ih h
theorem get_args {xs:List AV}{τ:St}{k:Key}(hk:isS k=false):get (argAv 0 xs++objsOf τ) k=get τ k:=by
 rw[get_app_none (argAv_ne hk) (fun v hv=>by rw[argAv_only hv]at hk;cases hk),get_objs hk]
inductive EvL (σ:St):List Operand→List AV→Prop
 |nil:EvL σ [] []
 |cons {x:Operand} {av:AV} {xs:List Operand} {avs:List AV} (hx:ev σ x=some av) (hr:EvL σ xs avs):EvL σ (x::xs) (av::avs)
variable {cx:Cx}{g:Nat→Value}{σ:St}{a:Act}{w:World}{nx:Nat}{c:Code}{Q:Exit→St→Prop}
variable {ty:TypeId}{pos:String}{af:Array Edge}{gd:Option (Nat×Bool)}{d:Nat}{ops:Array Oper}{rest:List Oper}
theorem EvL.at (hs:SimG cx σ a w g nx) {xs:List Operand}{avs:List AV}(h:EvL σ xs avs):avs.length=xs.length∧∀ (j:Nat) (av:AV),avs[j]? = some av→∃ x,xs[j]? = some x∧Rep cx g σ w (a.eval x) av∧av.bd nx:=by
 induction h with
 |nil=>exact⟨rfl,fun j av h=>by simp at h⟩
 |cons hx hr ih =>
  refine⟨by simp[ih.1],fun j av hj=>?_⟩
  cases j with
  |zero =>
   simp at hj
   subst hj
   exact⟨_,rfl,hs.ev (ev_out hx).1 (ev_out hx).2⟩
  |succ j =>
   obtain⟨x,h1,h2⟩:=ih.2 j av (by simpa using hj)
   exact⟨x,by simpa using h1,h2⟩
def inlQ (cx:Cx) (ops:Array Oper) (Q:Exit→St→Prop) (rest:List Oper) (σ:St) (d t:Nat):Exit→St→Prop
 |.normal,σ'=>∃ x,get σ' (.s t) = .av (.d x)∧SW cx ops Q rest ((.s d,.av (.d x))::(slotsOf σ++objsOf σ'))
 |.ret,σ'=>∃ x,get σ' (.s t) = .av (.d x)∧SW cx ops Q rest ((.s d,.av (.d x))::(slotsOf σ++objsOf σ'))
 |_,_=>False
theorem q_inl {t:Nat}{σ':St}{x:D}(h:get σ' (.s t) = .av (.d x)) (hr:SW cx ops Q rest ((.s d,.av (.d x))::(slotsOf σ++objsOf σ'))):inlQ cx ops Q rest σ d t .ret σ':=⟨x,h,hr⟩
theorem SW.inline {f : FuncId} {fn : Func} {xs : List Operand} {avs : List AV} {ats : Array TypeId} {t n : Nat} (hf : cx.P.funcs[f]? = some fn) (hb : fn.body = some c) (hname : (fn.name == "runtime.NumGoroutine") = false)
  (hr:fn.results = #[.tmp t]) (hd:Nat.blt d cx.n=true) (hn:Nat.ble xs.length fn.ntmps=true) (hev:EvL σ xs avs) (hnx:get σ .nx = .num n)
  (h:∀ gh,CW ⟨cx.P,cx.T,cx.hT,cx.mixed,fn.ntmps,cx.w0,cx.own0,n,gh⟩ c (inlQ cx ops Q rest σ d t) (argAv 0 avs++objsOf σ)) :
  SW cx ops Q (⟨some d,.call { callee := .value (.func f),args:=⟨xs⟩,argTypes:=ats },ty,pos,af,none⟩::rest) σ:=by
 rintro a w ⟨g,nx,hs⟩
 obtain rfl:nx=n:=by
  have:=hs.hnx
  rw[hnx]at this
  simpa using this.symm
 refine wpList_plain rfl fun K hK=>?_
 unfold Oper.wp
 rw[call_run (a:=a) (d:=d) (ty:=ty) (pos:=pos) (af:=af) (gd:=none) (w:=w) (xs:=xs) (ats:=ats) ⟨fn,hf,hname,by rw[hb];rfl⟩]
 obtain⟨hlen,hat⟩:=hev.at hs
 -- the callee's state,at the start
 have hobj:∀ id,get (argAv 0 avs++objsOf σ) (.o id)=get σ (.o id):=fun id=>get_args rfl
 have hlat:Later cx g g σ (argAv 0 avs++objsOf σ) w w nx:=by
  refine⟨Ext.refl _ _,Below.refl _ _,fun b hb=>?_,fun id o' _ ho=>⟨o',(hobj id).symm.trans ho,by cases o' <;> simp[ObLe]⟩⟩
  rcases hb with hb|⟨id,o,h1,h2⟩
  ·
   exact .inl (.inl hb)
  ·
   exact .inl (.inr ⟨id,o,(hobj id).symm.trans h1,h2⟩)
 have hstart:SimG ⟨cx.P,cx.T,cx.hT,cx.mixed,fn.ntmps,cx.w0,cx.own0,nx,kept a σ (σ.map (·.1))++cx.gh⟩ (argAv 0 avs++objsOf σ) { tmps:=(xs.map a.eval).toArray++Array.replicate (fn.ntmps - (xs.map a.eval).toArray.size) undef,defers:=[] } w g nx:=by
  refine⟨(get_args rfl).trans hs.hnx,by simp at hn ⊢;omega,rfl,hs.below,hs.own0,fun i av hi=>?_,fun id o ho=>?_,fun id id' o o' b h1 h2=>hs.sep id id' o o' b ((hobj _).symm.trans h1) ((hobj _).symm.trans h2),Nat.le_refl _,fun p hp=>?_⟩
  ·
   rcases get_app_or (σ:=argAv 0 avs) (τ:=objsOf σ) (k := .s i) with h1|h1
   ·
    rw[h1]at hi
    obtain⟨_,h2⟩:=argAv_get hi
    rw[Nat.sub_zero]at h2
    obtain⟨x,h3,h4,h5⟩:=hat i av h2
    have hlt:i < xs.length:=(List.getElem?_eq_some_iff.1 h3).1
    have hv:((xs.map a.eval).toArray++Array.replicate (fn.ntmps - (xs.map a.eval).toArray.size) undef).getD i undef=a.eval x:=by
     rw[Array.getD_eq_getD_getElem?,Array.getElem?_append_left (by simpa using hlt)]
     simp[h3]
    refine⟨?_,h5⟩
    show Rep cx g (argAv 0 avs++objsOf σ) w _ av
    rw[hv]
    exact h4.step hlat h5
   ·
    rw[h1,get_objs_s]at hi;cases hi
  ·
   obtain⟨h1,h2,h3⟩:=hs.objs id o ((hobj id).symm.trans ho)
   exact⟨h1,h2.step hlat rfl (fun _ _=>rfl) h3,h3⟩
  ·
   rcases List.mem_append.1 hp with hp|hp
   ·
    obtain⟨i,h1,h2⟩:=kept_ok hp
    obtain⟨h3,h4⟩:=hs.slots i _ h1
    rw[h2]at h3
    exact⟨h3.step hlat h4,h4⟩
   ·
    obtain⟨h1,h2⟩:=hs.gh.2 p hp
    exact⟨h1.step hlat (AV.bd_mono hs.gh.1 h2),AV.bd_mono hs.gh.1 h2⟩
 suffices hcall:Calls cx.P f (xs.map a.eval).toArray w fun e w'=>∃ v',e = .returned v'∧K (a.put (some d) v') w' by
  refine hcall.mono fun z w' he=>?_
  obtain⟨v,rfl,hk⟩:=he
  exact hk
 refine calls_of_wp hf hb (wp_mono (h _ _ w ⟨g,nx,hstart⟩) fun e a' w' he=>?_)
 obtain⟨σ',⟨g',nx',hg⟩,hq⟩:=he
 -- and behind it
 have fin:(∃ x,get σ' (.s t) = .av (.d x)∧SW cx ops Q rest ((.s d,.av (.d x))::(slotsOf σ++objsOf σ'))) →
   a'.defers=[]∧∃ v,(results fn a'.tmps).run cx.P w' = .ok v w'∧∃ v',Ending.returned v = .returned v'∧K (a.put (some d) v') w':=by
  rintro ⟨x,hx,hsw⟩
  refine⟨hg.defers,a'.tmps.getD t undef,by rw[results_one hr];simp[rvRun],_,rfl,hK _ _ ?_⟩
  refine hsw _ w' ⟨g',nx',?_⟩
  have hobj2:∀ id,get ((Key.s d,Val.av (.d x))::(slotsOf σ++objsOf σ')) (.o id)=get σ' (.o id):=fun id=>(get_cons_ne (by simp)).trans get_back_o
  have hl2:Later ⟨cx.P,cx.T,cx.hT,cx.mixed,fn.ntmps,cx.w0,cx.own0,nx,kept a σ (σ.map (·.1))++cx.gh⟩ g' g' σ' ((Key.s d,Val.av (.d x))::(slotsOf σ++objsOf σ')) w' w' nx':=by
   refine⟨Ext.refl _ _,Below.refl _ _,fun b hb=>?_,fun id o' _ ho=>⟨o',(hobj2 id).symm.trans ho,by cases o' <;> simp[ObLe]⟩⟩
   rcases hb with hb|⟨id,o,h1,h2⟩
   ·
    exact .inl (.inl hb)
   ·
    exact .inl (.inr ⟨id,o,(hobj2 id).symm.trans h1,h2⟩)
  refine⟨(get_cons_ne (by simp)).trans (get_back_nx.trans hg.hnx),by rw[← hs.size];simp[Act.put],hs.defers,hg.below,hg.own0,fun i av hi=>?_,fun id o ho=>?_,fun id id' o o' b h1 h2=>hg.sep id id' o o' b ((hobj2 _).symm.trans h1) ((hobj2 _).symm.trans h2),Nat.le_trans hs.gh.1 hg.gh.1,fun p hp=>?_⟩
  ·
   by_cases hid:d=i
   ·
    subst hid
    rw[get_cons_same]at hi
    cases hi
    obtain⟨h1,h2⟩:=hg.slots t _ hx
    rw[put_eq (by rw[hs.size];exact lt_of_blt hd)]
    exact⟨h1.step hl2 h2,h2⟩
   ·
    rw[get_cons_ne (by simpa using hid)]at hi
    have h1:=get_back_s hi
    obtain⟨h2,h3⟩:=hg.gh.2 _ (List.mem_append.2 (.inl (kept_of (a:=a) h1 (List.mem_map.2 ⟨_,mem_of_get h1,rfl⟩))))
    rw[put_ne fun e=>hid e.symm]
    exact⟨h2.step hl2 (AV.bd_mono hg.gh.1 h3),AV.bd_mono hg.gh.1 h3⟩
  ·
   obtain⟨h1,h2,h3⟩:=hg.objs id o ((hobj2 id).symm.trans ho)
   exact⟨h1,h2.step hl2 rfl (fun _ _=>rfl) h3,h3⟩
  ·
   obtain⟨h1,h2⟩:=hg.gh.2 p (List.mem_append.2 (.inr hp))
   obtain⟨_,h4⟩:=hs.gh.2 p hp
   exact⟨h1.step hl2 (AV.bd_mono hg.gh.1 h2),h4⟩
 cases e with
 |normal=>exact fin hq
 |ret=>exact fin hq
 |exit j=>exact hq.elim
 |goto j=>exact hq.elim
 |panic c=>exact hq.elim
 |outgrown=>exact hq.elim
end Go.AX
namespace Go.Proofs.YtccblhpfjlgmbaaGreatDoor
open Go.AX Go.RF
set_option maxRecDepth 100000
set_option maxHeartbeats 16000000
theorem cdo_batch (c:Cluster) (s:Step) (h:KInv c) (hd:∀ d∈s.deeds,d.Sm) (hl:s.deeds.length≤100000000) (k1:s.kind=1) :
  FnOk Tryz.prog 23 [.d (.agg c.enc),.d (.agg s.enc)] (.tup [.agg (batchC c s.deeds).1.enc,dint (batchC c s.deeds).2]):=by
 refine fnOk_of tbl_ok mixed_ok Tryz.func23 rfl (by kernel_rfl) rfl rfl fun w0 own0=>?_
 have hL:=h.l
 have hP:=h.p
 have hR:=h.k
 have hS:=h.sm
 have c1:=news_cown c h.sm
 have hst0:StopA 3:=⟨rfl⟩
 repeat(first|refine waS ?_|((with_reducible apply s5);(first|exact a_callnews c1 rfl rfl by_sub|exact by_oa|exact by_ca);exact by_g)|refine wb ?_)
 clear hst0
 refine Stop.cutk [sd 8 (dbool (decide (0≤s.n∧s.n < c.reps.length)))] [.s 3,.s 4,.s 5,.s 6,.s 7,.o 1,.o 2,.o 3,.o 4,.o 5,.o 6,.nx] ?_ ?_
 ·
  by_cases b0:0≤s.n
  ·
   try refine wk ?_
   refine q_cut ?_
   exact by_less
  ·
   try refine wk ?_
   refine q_cut ?_
   exact by_less
 unfold batchC
 by_cases b1:12≤c.log.length
 ·
  rw[if_pos b1]
  have hst0:StopX 7:=⟨rfl⟩
  try refine wkS ?_
  clear hst0
  refine Stop.go (CW.regionS ?_)
  repeat(first|((with_reducible apply SW.s1);exact rfl)|((with_reducible apply SW.s5);exact by_oa;exact rfl))
  refine SW.inline (t:=4) Tryz.func37 rfl (by kernel_rfl) rfl rfl rfl (.cons rfl (.cons rfl .nil)) rfl fun gh=>?_
  repeat(first|refine wa ?_|((with_reducible apply s5);(first|((with_reducible apply a_nilp);(iterate 3 exact rfl))|exact by_oa|exact by_ca);exact by_g)|refine wb ?_)
  refine q_inl rfl ?_
  repeat(first|((with_reducible apply SW.s1);exact rfl)|((with_reducible apply SW.s5);exact by_oa;exact rfl))
  refine SW.nil ?_
  try refine wk ?_
  exact .two (.cell rfl rfl rfl rfl (.agg (.cons (.own rfl (by simp) (.refl _)) (.cons (.own rfl (by simp) (.refl _)) (.cons (.own rfl (by simp) (.refl _)) .nil))))) (.tmp rfl (.one (.d (.refl _))))
 rw[if_neg b1]
 have c2:FnOk Tryz.prog 62 [.d (.agg [dint ((c.log.map Entry.enc).length:Int),encDeeds s.deeds])] (.one (dint (wrongEntry ⟨c.log.length,s.deeds⟩))):=by
  rw[List.length_map]
  exact ok_lwrong ⟨c.log.length,s.deeds⟩ hd (by dsimp only;omega)
 by_cases b2:wrongEntry ⟨c.log.length,s.deeds⟩=0
 ·
  rw[if_pos b2]
  rw[b2]at c2
  have c3:FnOk Tryz.prog 50 [.d (.sl 2 [[dint ((c.log.map Entry.enc).length:Int),encDeeds s.deeds]])] (.one (.sl 2 [[dint ((c.log.map Entry.enc).length:Int),encDeeds s.deeds]])):=by
   rw[List.length_map]
   exact ok_logOwn [⟨c.log.length,s.deeds⟩] (by simp) (fun e he=>by rw[List.mem_singleton.1 he];exact⟨by dsimp only;omega,hd⟩)
  have hst0:StopX 7:=⟨rfl⟩
  try refine wkS ?_
  clear hst0
  refine Stop.go (CW.regionS ?_)
  repeat(first|((with_reducible apply SW.s1);exact rfl)|((with_reducible apply SW.s5);exact by_oa;exact rfl))
  refine SW.inline (t:=4) Tryz.func37 rfl (by kernel_rfl) rfl rfl rfl (.cons rfl (.cons rfl .nil)) rfl fun gh=>?_
  repeat(first|((with_reducible apply s5);((with_reducible apply a_bs [[dint ((c.log.map Entry.enc).length:Int),encDeeds s.deeds]]);(iterate 9 exact rfl);(repeat(first|exact PartsE.nil|(apply PartsE.cons;exact rfl;exact rfl))));exact by_g)|refine wa1 ?_|((with_reducible apply s5);(first|((with_reducible apply a_nilp);(iterate 3 exact rfl))|exact a_call c2 rfl by_sub|exact a_call c3 rfl by_sub|((with_reducible apply a_buildA);(iterate 4 exact rfl);(repeat(first|exact PartsV.nil|(apply PartsV.cons;exact rfl;exact rfl;(first|exact⟨rfl,trivial⟩|(apply nw_own;exact rfl;(focus first|exact rfl|(simp;done)|(simp;omega)))))));exact rfl)|exact by_oa|exact by_ca);exact by_g)|refine wb ?_)
  refine q_inl rfl ?_
  repeat(first|((with_reducible apply SW.s1);exact rfl)|((with_reducible apply SW.s5);exact by_oa;exact rfl))
  refine SW.nil ?_
  try refine wk ?_
  exact .two (.cell rfl rfl rfl rfl (.agg (.cons (.own rfl (by simp) (dle_eq (by simp[encEntries];rfl))) (.cons (.own rfl (by simp) (.refl _)) (.cons (.own rfl (by simp) (.refl _)) .nil))))) (.tmp rfl (.one (.d (.refl _))))
 ·
  rw[if_neg b2]
  generalize wrongEntry ⟨c.log.length,s.deeds⟩=W at *
  have hst0:StopX 7:=⟨rfl⟩
  try refine wkS ?_
  clear hst0
  refine Stop.go (CW.regionS ?_)
  repeat(first|((with_reducible apply SW.s1);exact rfl)|((with_reducible apply SW.s5);exact by_oa;exact rfl))
  refine SW.inline (t:=4) Tryz.func37 rfl (by kernel_rfl) rfl rfl rfl (.cons rfl (.cons rfl .nil)) rfl fun gh=>?_
  repeat(first|refine wa ?_|((with_reducible apply s5);(first|((with_reducible apply a_nilp);(iterate 3 exact rfl))|exact a_call c2 rfl by_sub|((with_reducible apply a_buildA);(iterate 4 exact rfl);(repeat(first|exact PartsV.nil|(apply PartsV.cons;exact rfl;exact rfl;(first|exact⟨rfl,trivial⟩|(apply nw_own;exact rfl;(focus first|exact rfl|(simp;done)|(simp;omega)))))));exact rfl)|exact by_oa|exact by_ca);exact by_g)|refine wb ?_)
  refine q_inl rfl ?_
  repeat(first|((with_reducible apply SW.s1);exact rfl)|((with_reducible apply SW.s5);exact by_oa;exact rfl))
  refine SW.nil ?_
  try refine wk ?_
  exact .two (.cell rfl rfl rfl rfl (.agg (.cons (.own rfl (by simp) (.refl _)) (.cons (.own rfl (by simp) (.refl _)) (.cons (.own rfl (by simp) (.refl _)) .nil))))) (.tmp rfl (.one (.d (.refl _))))
theorem cdo_send (c:Cluster) (s:Step) (h:KInv c) (k2:s.kind=2) :
  FnOk Tryz.prog 23 [.d (.agg c.enc),.d (.agg s.enc)] (.tup [.agg (sendC c s.n s.m).1.enc,dint (sendC c s.n s.m).2]):=by
 refine fnOk_of tbl_ok mixed_ok Tryz.func23 rfl (by kernel_rfl) rfl rfl fun w0 own0=>?_
 have hL:=h.l
 have hP:=h.p
 have hR:=h.k
 have hS:=h.sm
 have c1:=news_cown c h.sm
 have hst0:StopA 3:=⟨rfl⟩
 repeat(first|refine waS ?_|((with_reducible apply s5);(first|exact a_callnews c1 rfl rfl by_sub|exact by_oa|exact by_ca);exact by_g)|refine wb ?_)
 clear hst0
 refine Stop.cutk [sd 8 (dbool (decide (0≤s.n∧s.n < c.reps.length)))] [.s 3,.s 4,.s 5,.s 6,.s 7,.o 1,.o 2,.o 3,.o 4,.o 5,.o 6,.nx] ?_ ?_
 ·
  by_cases b0:0≤s.n
  ·
   try refine wk ?_
   refine q_cut ?_
   exact by_less
  ·
   try refine wk ?_
   refine q_cut ?_
   exact by_less
 unfold sendC
 cases hn:nth c.reps s.n with
 |none =>
  have hn':=nth_none hn
  dsimp only
  by_cases b1:0≤s.n
  all_goals
   have hst0:StopX 9:=⟨rfl⟩
   try refine wkS ?_
   clear hst0
   refine Stop.go (CW.regionS ?_)
   repeat(first|((with_reducible apply SW.s1);exact rfl)|((with_reducible apply SW.s5);exact by_oa;exact rfl))
   refine SW.inline (t:=6) Tryz.func38 rfl (by kernel_rfl) rfl rfl rfl (.cons rfl (.cons rfl (.cons rfl .nil))) rfl fun gh=>?_
   repeat(first|refine wa ?_|((with_reducible apply s5);(first|((with_reducible apply a_nilp);(iterate 3 exact rfl))|exact by_oa|exact by_ca);exact by_g)|refine wb ?_)
   refine q_inl rfl ?_
   repeat(first|((with_reducible apply SW.s1);exact rfl)|((with_reducible apply SW.s5);exact by_oa;exact rfl))
   refine SW.nil ?_
   try refine wk ?_
   exact .two (.cell rfl rfl rfl rfl (.agg (.cons (.own rfl (by simp) (.refl _)) (.cons (.own rfl (by simp) (.refl _)) (.cons (.own rfl (by simp) (.refl _)) .nil))))) (.tmp rfl (.one (.d (.refl _))))
 |some r =>
  obtain⟨i,hi1,hi⟩:=nth_some hn
  have hil:=(List.getElem?_eq_some_iff.1 hi).1
  dsimp only
  cases hm:nth c.log s.m with
  |none =>
   have hm':=nth_none hm
   dsimp only
   by_cases b1:0≤s.m
   all_goals
    have hst0:StopX 9:=⟨rfl⟩
    try refine wkS ?_
    clear hst0
    refine Stop.go (CW.regionS ?_)
    repeat(first|((with_reducible apply SW.s1);exact rfl)|((with_reducible apply SW.s5);exact by_oa;exact rfl))
    refine SW.inline (t:=6) Tryz.func38 rfl (by kernel_rfl) rfl rfl rfl (.cons rfl (.cons rfl (.cons rfl .nil))) rfl fun gh=>?_
    repeat(first|refine wa ?_|((with_reducible apply s5);(first|((with_reducible apply a_nilp);(iterate 3 exact rfl))|exact by_oa|exact by_ca);exact by_g)|refine wb ?_)
    refine q_inl rfl ?_
    repeat(first|((with_reducible apply SW.s1);exact rfl)|((with_reducible apply SW.s5);exact by_oa;exact rfl))
    refine SW.nil ?_
    try refine wk ?_
    exact .two (.cell rfl rfl rfl rfl (.agg (.cons (.own rfl (by simp) (.refl _)) (.cons (.own rfl (by simp) (.refl _)) (.cons (.own rfl (by simp) (.refl _)) .nil))))) (.tmp rfl (.one (.d (.refl _))))
  |some e =>
   obtain⟨j,hj1,hj⟩:=nth_some hm
   have hjl:=(List.getElem?_eq_some_iff.1 hj).1
   have hjm:(c.log.map Entry.enc)[j]? = some e.enc:=by rw[List.getElem?_map,hj];rfl
   dsimp only
   by_cases b1:c.net.length < 16
   ·
    rw[if_pos b1]
    have c2:=ok_lbytes e (h.w j e hj).2
    generalize bytesE e=B at *
    have hse:s.enc=[dint s.kind,dint s.n,dint (j:Int),encDeeds s.deeds]:=by unfold Step.enc;rw[hj1]
    rw[hse]
    have hst0:StopX 9:=⟨rfl⟩
    try refine wkS ?_
    clear hst0
    refine Stop.go (CW.regionS ?_)
    repeat(first|((with_reducible apply SW.s1);exact rfl)|((with_reducible apply SW.s5);exact by_oa;exact rfl))
    refine SW.inline (t:=6) Tryz.func38 rfl (by kernel_rfl) rfl rfl rfl (.cons rfl (.cons rfl (.cons rfl .nil))) rfl fun gh=>?_
    repeat(first|((with_reducible apply s5);((with_reducible apply a_bs [[dint s.n,encBytes B]]);(iterate 9 exact rfl);(repeat(first|exact PartsE.nil|(apply PartsE.cons;exact rfl;exact rfl))));exact by_g)|refine wa1 ?_|((with_reducible apply s5);(first|((with_reducible apply a_nilp);(iterate 3 exact rfl))|((with_reducible apply a_buildA);(iterate 4 exact rfl);(repeat(first|exact PartsV.nil|(apply PartsV.cons;exact rfl;exact rfl;(first|exact⟨rfl,trivial⟩|(apply nw_own;exact rfl;(focus first|exact rfl|(simp;done)|(simp;omega)))))));exact rfl)|exact by_oa|exact by_ca);exact by_g)|refine wb ?_)
    refine q_inl rfl ?_
    repeat(first|((with_reducible apply SW.s1);exact rfl)|((with_reducible apply SW.s5);exact by_oa;exact rfl))
    refine SW.nil ?_
    try refine wk ?_
    exact .two (.cell rfl rfl rfl rfl (.agg (.cons (.own rfl (by simp) (.refl _)) (.cons (.own rfl (by simp) (.refl _)) (.cons (.own rfl (by simp) (dle_eq (by simp[encNet];rfl))) .nil))))) (.tmp rfl (.one (.d (.refl _))))
   ·
    rw[if_neg b1]
    have hst0:StopX 9:=⟨rfl⟩
    try refine wkS ?_
    clear hst0
    refine Stop.go (CW.regionS ?_)
    repeat(first|((with_reducible apply SW.s1);exact rfl)|((with_reducible apply SW.s5);exact by_oa;exact rfl))
    refine SW.inline (t:=6) Tryz.func38 rfl (by kernel_rfl) rfl rfl rfl (.cons rfl (.cons rfl (.cons rfl .nil))) rfl fun gh=>?_
    repeat(first|refine wa ?_|((with_reducible apply s5);(first|((with_reducible apply a_nilp);(iterate 3 exact rfl))|exact by_oa|exact by_ca);exact by_g)|refine wb ?_)
    refine q_inl rfl ?_
    repeat(first|((with_reducible apply SW.s1);exact rfl)|((with_reducible apply SW.s5);exact by_oa;exact rfl))
    refine SW.nil ?_
    try refine wk ?_
    exact .two (.cell rfl rfl rfl rfl (.agg (.cons (.own rfl (by simp) (.refl _)) (.cons (.own rfl (by simp) (.refl _)) (.cons (.own rfl (by simp) (.refl _)) .nil))))) (.tmp rfl (.one (.d (.refl _))))
theorem cdo_clr (c:Cluster) (s:Step) (h:KInv c) (k7:s.kind=7) :
  FnOk Tryz.prog 23 [.d (.agg c.enc),.d (.agg s.enc)] (.tup [.agg (clrC c s.n).1.enc,dint (clrC c s.n).2]):=by
 refine fnOk_of tbl_ok mixed_ok Tryz.func23 rfl (by kernel_rfl) rfl rfl fun w0 own0=>?_
 have hL:=h.l
 have hP:=h.p
 have hR:=h.k
 have hS:=h.sm
 have c1:=news_cown c h.sm
 have hst0:StopA 3:=⟨rfl⟩
 repeat(first|refine waS ?_|((with_reducible apply s5);(first|exact a_callnews c1 rfl rfl by_sub|exact by_oa|exact by_ca);exact by_g)|refine wb ?_)
 clear hst0
 refine Stop.cutk [sd 8 (dbool (decide (0≤s.n∧s.n < c.reps.length)))] [.s 3,.s 4,.s 5,.s 6,.s 7,.o 1,.o 2,.o 3,.o 4,.o 5,.o 6,.nx] ?_ ?_
 ·
  by_cases b0:0≤s.n
  ·
   try refine wk ?_
   refine q_cut ?_
   exact by_less
  ·
   try refine wk ?_
   refine q_cut ?_
   exact by_less
 unfold clrC
 cases hn:nth c.reps s.n with
 |none =>
  have hn':=nth_none hn
  dsimp only
  try refine wk ?_
  exact .two (.cell rfl rfl rfl rfl (.agg (.cons (.own rfl (by simp) (.refl _)) (.cons (.own rfl (by simp) (.refl _)) (.cons (.own rfl (by simp) (.refl _)) .nil))))) (.tmp rfl (.one (.d (.refl _))))
 |some r =>
  obtain⟨i,hi1,hi⟩:=nth_some hn
  have hil:=(List.getElem?_eq_some_iff.1 hi).1
  have him:(c.reps.map Replica.enc)[i]? = some r.enc:=by rw[List.getElem?_map,hi];rfl
  have hit:s.n.toNat=i:=by omega
  have hRI:=(h.r r (List.mem_of_getElem? hi)).1
  have c2:=ok_repClear r hRI
  dsimp only
  rw[hit]
  generalize clearR r=x at *
  have hse:s.enc=[dint s.kind,dint (i:Int),dint s.m,encDeeds s.deeds]:=by unfold Step.enc;rw[hi1]
  rw[hse]
  try refine wk ?_
  exact .two (.cell rfl rfl rfl rfl (.agg (.cons (.own rfl (by simp) (.refl _)) (.cons (.own rfl (by simp) (dle_eq (by simp[encReps,List.map_set];rfl))) (.cons (.own rfl (by simp) (.refl _)) .nil))))) (.tmp rfl (.one (.d (.refl _))))
theorem cdo_none (c:Cluster) (s:Step) (h:KInv c) (k1:s.kind≠1) (k2:s.kind≠2) (k3:s.kind≠3) (k4:s.kind≠4) (k5:s.kind≠5) (k6:s.kind≠6) (k7:s.kind≠7) :
  FnOk Tryz.prog 23 [.d (.agg c.enc),.d (.agg s.enc)] (.tup [.agg c.enc,dint 1]):=by
 refine fnOk_of tbl_ok mixed_ok Tryz.func23 rfl (by kernel_rfl) rfl rfl fun w0 own0=>?_
 have hL:=h.l
 have hP:=h.p
 have hR:=h.k
 have hS:=h.sm
 have c1:=news_cown c h.sm
 have hst0:StopA 3:=⟨rfl⟩
 repeat(first|refine waS ?_|((with_reducible apply s5);(first|exact a_callnews c1 rfl rfl by_sub|exact by_oa|exact by_ca);exact by_g)|refine wb ?_)
 clear hst0
 refine Stop.cutk [sd 8 (dbool (decide (0≤s.n∧s.n < c.reps.length)))] [.s 3,.s 4,.s 5,.s 6,.s 7,.o 1,.o 2,.o 3,.o 4,.o 5,.o 6,.nx] ?_ ?_
 ·
  by_cases b0:0≤s.n
  ·
   try refine wk ?_
   refine q_cut ?_
   exact by_less
  ·
   try refine wk ?_
   refine q_cut ?_
   exact by_less
 try refine wk ?_
 exact .two (.cell rfl rfl rfl rfl (.agg (.cons (.own rfl (by simp) (.refl _)) (.cons (.own rfl (by simp) (.refl _)) (.cons (.own rfl (by simp) (.refl _)) .nil))))) (.tmp rfl (.one (.d (.refl _))))
end Go.Proofs.YtccblhpfjlgmbaaGreatDoor
