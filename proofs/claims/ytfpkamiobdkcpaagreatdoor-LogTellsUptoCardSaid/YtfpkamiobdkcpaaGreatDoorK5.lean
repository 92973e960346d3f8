/-
  Part 5 of what the claim leans on: H4 H5 ShTrim R3 G20 G21 G22 G7 F4 L1 L14 AxLaid Rp AxDec2 J1 Tx2 P14 P15 P16 P17 P18 P19 P20 P21 AxRen J5 AxLend J2 J3 J4 AxBsO AxByt AxMapI AxGen AxS2b Lg Cl L6 J6.
-/
import Derived.Test.YtfpkamiobdkcpaaGreatDoorK4
import Derived.Shelf.Strings.SlTrimAscii
import Derived.Test.YtfpkamiobdkcpaaGreatDoorProg
import Derived.Shelf.Vars
import Derived.FnData
import Derived.Lib.ItoaLen
import Derived.Lib.Split
import Derived.Lib.Join
import Derived.Lib.AppendStr
import Derived.Lib.ConvBytes
import Derived.Laws.BytesString
set_option linter.all false

namespace Go.Proofs.YtfpkamiobdkcpaaGreatDoor
open Go.AX Go.RF Go.RowKit
set_option maxRecDepth 100000
set_option maxHeartbeats 16000000
theorem ok_parseS (s:Str) (d:Deed) (h:parseD s=some d) (hm:smallS s=true):FnOk Tryz.prog 96 [.d (dstr s)] (.tup [.agg d.enc,dint 0]):=by
 refine fnOk_of tbl_ok mixed_ok Tryz.func96 rfl (by kernel_rfl) rfl rfl fun w0 own0=>?_
 obtain⟨hs,p0,p1,ps,e0,e1,e2,e3,e4⟩:=parseD_some h
 obtain⟨rs,ws,cd⟩:=d
 dsimp only at e1 e2 e3
 have c1:=ok_split s [59,32] (by omega) (by simp) (by simp)
 have hsl:=split_len s [59,32]
 have hsp:∀ p∈split s [59,32],p.length≤400:=fun p hp=>Nat.le_trans (split_part hp) hs
 have hsm:∀ p∈split s [59,32],∀ w∈split p [32],smallN (numV w)=true∧smallN (regV w)=true:=fun p hp w hw=>by
  have:=List.all_eq_true.1 (List.all_eq_true.1 hm p hp) w hw
  simpa using this
 generalize hl:split s [59,32]=l at *
 have h2l:2≤l.length:=by rw[e0];simp
 have hst0:StopA 8:=⟨rfl⟩
 try refine wkS ?_
 clear hst0
 refine Stop.go (CW.stut (stut_promote_cell (id:=1) (j:=2) 153 5 rfl) ⟨rfl,rfl,trivial⟩ ?_)
 try refine wk ?_
 refine CW.loopT (fun t:Nat×D×D×List Ins=>[sp 2 0,ob 0 [.v nilS,.v nilS,.v nilS],sp 6 1,(.o 1,.ob (.box [.d t.2.1,.d t.2.2.1,.own 2 t.2.2.2.length])),oa 2 153 5 (t.2.2.2.map Ins.enc),sd 36 (encStrs l),sd 37 (dint l.length),sd 38 (dint t.1),nxt 3])
  (fun t=>t.1≤l.length∧(1≤t.1→t.2.1=encStrs rs)∧(2≤t.1→t.2.2.1=encStrs ws)∧t.2.2.2.length≤t.1∧∃ rest,insAll (l.drop (max t.1 2))=some rest∧t.2.2.2++rest=cd) (fun t=>l.length - t.1) (0,.v nilS,.v nilS,[])
  ⟨by dsimp only;omega,fun h=>by dsimp only at h;omega,fun h=>by dsimp only at h;omega,by simp,cd,by rw[e0];exact e3,rfl⟩ ?_ ?_
 ·
  exact by_less
 ·
  rintro ⟨x,R,W,code⟩ ⟨hx,hR,hW,hc,rest,hr,hcd⟩
  dsimp only at hx hR hW hc hr hcd ⊢
  rcases drop_case hx with ⟨h1,h2⟩|⟨p,h1,h2,h3⟩
  ·
   rw[show max x 2=x by omega,h1]at hr
   cases hr
   rw[List.append_nil]at hcd
   obtain rfl:=hR (by omega)
   obtain rfl:=hW (by omega)
   subst hcd
   have hrs:∀ k∈rs,k.length≤400:=fun k hk=>Nat.le_trans (split_part (s:=p0) (sep:=[32]) (by rw[e1];exact List.mem_cons_of_mem _ hk)) (hsp p0 (by rw[e0];simp))
   have hws:∀ k∈ws,k.length≤400:=fun k hk=>Nat.le_trans (split_part (s:=p1) (sep:=[32]) (by rw[e2];exact List.mem_cons_of_mem _ hk)) (hsp p1 (by rw[e0];simp))
   have hrl:rs.length≤400:=by have:=split_len p0 [32];rw[e1]at this;have:=hsp p0 (by rw[e0];simp);simp at *;omega
   have hwl:ws.length≤400:=by have:=split_len p1 [32];rw[e2]at this;have:=hsp p1 (by rw[e0];simp);simp at *;omega
   have cw:=ok_wrongDeed ⟨rs,ws,code⟩ (by dsimp only;omega) (by dsimp only;omega) (by dsimp only;omega) (fun k hk=>by have:=hrs k hk;omega) (fun k hk=>by have:=hws k hk;omega)
   rw[e4]at cw
   have hst0:StopA 52:=⟨rfl⟩
   try refine wkS ?_
   clear hst0
   refine Stop.go (CW.stut (stut_freeze_cell (id:=1) (j:=2) (i:=2) rfl (by simp)) ⟨rfl,rfl,trivial⟩ ?_)
   try refine wk ?_
   exact .two (.cell rfl rfl rfl rfl (.aggd rfl (.refl _))) (.tmp rfl (.one (.d (.refl _))))
  ·
   have hp:p∈l:=List.mem_of_getElem? h2
   have hpl:=hsp p hp
   have c2:=ok_split p [32] (by omega) (by simp) (by simp)
   by_cases hx0:x=0
   ·
    subst hx0
    have h2':=h2
    rw[e0]at h2
    obtain rfl:p0=p:=by simpa using h2
    rw[e1]at c2
    have hrl:rs.length≤400:=by have:=split_len p0 [32];rw[e1]at this;simp at *;omega
    have hw0:(([114,101,97,100,115]:Str)::rs)[0]? = some [114,101,97,100,115]:=rfl
    have hn0:([[114,101,97,100,115],[119,114,105,116,101,115]]:List Str)[0]? = some [114,101,97,100,115]:=rfl
    repeat(first|((with_reducible apply s5);((with_reducible apply a_bs (([[114,101,97,100,115],[119,114,105,116,101,115]]:List Str).map encStr1));(iterate 9 exact rfl);(repeat(first|exact PartsE.nil|(apply PartsE.cons;exact rfl;exact rfl))));exact by_g)|refine wa1 ?_|((with_reducible apply s5);(first|exact a_call c2 rfl by_sub|exact by_oa|exact by_ca);exact by_g)|refine wb ?_)
    refine q_loopT (1,encStrs rs,W,code) ⟨by dsimp only;omega,fun _=>rfl,fun h=>by dsimp only at h;omega,by dsimp only;omega,rest,hr,hcd⟩ (by dsimp only;omega) ?_
    exact by_less
   by_cases hx1:x=1
   ·
    subst hx1
    have h2':=h2
    rw[e0]at h2
    obtain rfl:p1=p:=by simpa using h2
    rw[e2]at c2
    have hwl:ws.length≤400:=by have:=split_len p1 [32];rw[e2]at this;simp at *;omega
    have hw0:(([119,114,105,116,101,115]:Str)::ws)[0]? = some [119,114,105,116,101,115]:=rfl
    have hn0:([[114,101,97,100,115],[119,114,105,116,101,115]]:List Str)[1]? = some [119,114,105,116,101,115]:=rfl
    repeat(first|((with_reducible apply s5);((with_reducible apply a_bs (([[114,101,97,100,115],[119,114,105,116,101,115]]:List Str).map encStr1));(iterate 9 exact rfl);(repeat(first|exact PartsE.nil|(apply PartsE.cons;exact rfl;exact rfl))));exact by_g)|refine wa1 ?_|((with_reducible apply s5);(first|exact a_call c2 rfl by_sub|exact by_oa|exact by_ca);exact by_g)|refine wb ?_)
    refine q_loopT (2,R,encStrs ws,code) ⟨by dsimp only;omega,fun _=>hR (by omega),fun _=>rfl,by dsimp only;omega,rest,hr,hcd⟩ (by dsimp only;omega) ?_
    exact by_less
   rw[show max x 2=x by omega,h1]at hr
   obtain⟨i1,rest',hi,hr',rfl⟩:=insAll_cons hr
   have hsw:=hsm p hp
   generalize hwds:split p [32]=wds at *
   obtain⟨w,wz,rfl,hk0,hlen,hfi⟩:=insP_some hi
   have hwl:wz.length≤400:=by have:=split_len p [32];rw[hwds]at this;simp at *;omega
   have cw:=ok_words
   have hw0:(w::wz)[0]? = some w:=rfl
   repeat(first|refine wa ?_|((with_reducible apply s5);(first|exact a_call c2 rfl by_sub|exact a_call cw rfl by_sub|exact by_oa|exact by_ca);exact by_g)|refine wb ?_)
   refine CW.loopT (fun t:Nat×Int=>[sp 2 0,ob 0 [.v nilS,.v nilS,.v nilS],sp 6 1,(.o 1,.ob (.box [.d R,.d W,.own 2 code.length])),oa 2 153 5 (code.map Ins.enc),sd 36 (encStrs l),sd 37 (dint l.length),sd 38 (dint x),
     sd 9 (encStrs (w::wz)),sp 10 3,ob 3 [dint t.2,dint 0,dint 0,dint 0,dstr []],sd 68 (encStrs words),sd 69 (dint words.length),sd 70 (dint t.1),nxt 4])
    (fun t=>t.1≤words.length∧0≤t.2∧t.2 < 10∧kindGo w t.1 t.2 (words.drop t.1)=kindOf w) (fun t=>words.length - t.1) (0,0) ⟨by dsimp only;omega,by dsimp only;omega,by dsimp only;omega,rfl⟩ ?_ ?_
   ·
    exact by_less
   ·
    rintro ⟨y,k⟩ ⟨hy,hk1,hk2,hK⟩
    dsimp only at hy hk1 hk2 hK ⊢
    have hwn:words.length=10:=rfl
    rcases drop_case hy with ⟨g1,g2⟩|⟨u,g1,g2,g3⟩
    ·
     rw[g1,kindGo]at hK
     subst hK
     obtain⟨K,hKe⟩:=Int.eq_ofNat_of_zero_le hk1
     rw[hKe]at hlen hfi hk0 hk2 ⊢
     rw[Int.toNat_natCast]at hlen hfi
     have cf:=ok_form K (by omega)
     have hfl:=form_len K
     generalize form K=f at *
     try refine wk ?_
     refine CW.loopT (fun t:Nat×Ins=>[sp 2 0,ob 0 [.v nilS,.v nilS,.v nilS],sp 6 1,(.o 1,.ob (.box [.d R,.d W,.own 2 code.length])),oa 2 153 5 (code.map Ins.enc),sd 36 (encStrs l),sd 37 (dint l.length),sd 38 (dint x),
       sd 9 (encStrs (w::wz)),sp 10 3,ob 3 t.2.enc,sd 13 (dstr f),sd 107 (dstr f),sd 108 (dint f.length),sd 109 (dint t.1),nxt 4])
      (fun t=>t.1≤f.length∧fillI t.2 (f.drop t.1) (wz.drop t.1)=some i1) (fun t=>f.length - t.1) (0,⟨K,0,0,0,[]⟩) ⟨by dsimp only;omega,hfi⟩ ?_ ?_
     ·
      exact by_less
     ·
      rintro ⟨j,i⟩ ⟨hj,hI⟩
      dsimp only at hj hI ⊢
      rcases drop_case hj with ⟨b1,b2⟩|⟨c,b1,b2,b3⟩
      ·
       rw[b1,fillI]at hI
       cases hI
       try refine wk ?_
       refine q_loopT (x+1,R,W,code++[i1]) ⟨by dsimp only;omega,fun _=>hR (by omega),fun _=>hW (by omega),by dsimp only;simp;omega,rest',by dsimp only;rw[show max (x+1) 2=x+1 by omega];exact hr',by dsimp only;rw[← hcd];simp⟩ (by dsimp only;omega) ?_
       exact by_less
      ·
       have hwj:j < wz.length:=by omega
       have hwa:(w::wz)[j+1]? = some wz[j]:=by simp[List.getElem?_eq_getElem hwj]
       rw[b1,List.drop_eq_getElem_cons hwj]at hI
       have hsj:=hsw wz[j] (List.mem_cons_of_mem _ (List.getElem_mem hwj))
       have hwjl:wz[j].length≤400:=Nat.le_trans (split_part (s:=p) (sep:=[32]) (by rw[hwds];exact List.mem_cons_of_mem _ (List.getElem_mem hwj))) hpl
       generalize wz[j]=u at hwa hI hsj hwjl
       rcases fillI_cons hI with ⟨q1,q2⟩|⟨q1,n,q2,q3⟩|⟨q1,q2,r,n,rfl,q3,q4⟩
       ·
        try refine wk ?_
        refine q_loopT (j+1,{ i with key:=u }) ⟨by dsimp only;omega,q2⟩ (by dsimp only;omega) ?_
        exact by_less
       ·
        have hn:=smallN_of hsj.1 q2
        have cn:=ok_numS u n (by omega) q2 hn.1 hn.2
        try refine wk ?_
        refine q_loopT (j+1,{ i with n:=n }) ⟨by dsimp only;omega,q3⟩ (by dsimp only;omega) ?_
        exact by_less
       ·
        have hn:=smallN_of hsj.2 (show regV (114::r)=some n from q3)
        have cn:=ok_numS r n (by simp at hwjl;omega) q3 hn.1 hn.2
        have hu0:(114::r:Str)[0]? = some 114:=rfl
        rcases q4 with ⟨q4,q5⟩|⟨q4,q5⟩
        ·
         repeat(first|refine wa ?_|((with_reducible apply s5);(first|((with_reducible apply(a_is (k:=0)));(iterate 5 exact rfl);exact rfl)|((with_reducible apply(a_subF (l:=1)));(iterate 5 exact rfl);exact Nat.succ_le_succ (Nat.zero_le _))|exact by_oa|exact by_ca);exact by_g)|refine wb ?_)
         refine q_loopT (j+1,{ i with a:=n }) ⟨by dsimp only;omega,q5⟩ (by dsimp only;omega) ?_
         exact by_less
        ·
         repeat(first|refine wa ?_|((with_reducible apply s5);(first|((with_reducible apply(a_is (k:=0)));(iterate 5 exact rfl);exact rfl)|((with_reducible apply(a_subF (l:=1)));(iterate 5 exact rfl);exact Nat.succ_le_succ (Nat.zero_le _))|exact by_oa|exact by_ca);exact by_g)|refine wb ?_)
         refine q_loopT (j+1,{ i with b:=n }) ⟨by dsimp only;omega,q5⟩ (by dsimp only;omega) ?_
         exact by_less
    ·
     rw[g1,kindGo]at hK
     by_cases hy0:0 < y
     ·
      by_cases hu:u=w
      ·
       rw[if_pos ⟨hy0,hu⟩]at hK
       try refine wk ?_
       refine q_loopT (y+1,(y:Int)) ⟨by dsimp only;omega,by dsimp only;omega,by dsimp only;omega,hK⟩ (by dsimp only;omega) ?_
       exact by_less
      ·
       rw[if_neg (fun h=>hu h.2)]at hK
       try refine wk ?_
       refine q_loopT (y+1,k) ⟨by dsimp only;omega,by dsimp only;omega,by dsimp only;omega,hK⟩ (by dsimp only;omega) ?_
       exact by_less
     ·
      rw[if_neg (fun h=>hy0 h.1)]at hK
      try refine wk ?_
      refine q_loopT (y+1,k) ⟨by dsimp only;omega,by dsimp only;omega,by dsimp only;omega,hK⟩ (by dsimp only;omega) ?_
      exact by_less
end Go.Proofs.YtfpkamiobdkcpaaGreatDoor
namespace Go.Proofs.YtfpkamiobdkcpaaGreatDoor
open Go.AX Go.RF
def tE:Str:=[114,101,97,100,115,59,32,119,114,105,116,101,115,32,97,59,32,99,111,110,115,116,32,114,48,32,49,59,32,115,116,111,114,101,32,114,48,32,97]
def dE:Deed:=⟨[],[[97]],[⟨2,0,0,1,[]⟩,⟨6,0,0,0,[97]⟩]⟩
theorem pE:parseD tE=some dE:=by decide +kernel
theorem sE:smallS tE=true:=by decide +kernel
def tF:Str:=[114,101,97,100,115,32,97,32,98,59,32,119,114,105,116,101,115,32,98,59,32,108,111,97,100,32,114,48,32,97]
def dF:Deed:=⟨[[97],[98]],[[98]],[⟨1,0,0,0,[97]⟩]⟩
theorem pF:parseD tF=some dF:=by decide +kernel
theorem sF:smallS tF=true:=by decide +kernel
end Go.Proofs.YtfpkamiobdkcpaaGreatDoor
namespace Go.Proofs
open Go.Shelf Go.RowKit
set_option maxRecDepth 100000
noncomputable def Tryz.lays160_ren : Go.Shelf.Ren := ⟨fun | 119 => 234 | 120 => 228 | 137 => 233 | 151 => 216 | 152 => 227 | 160 => 169 | 197 => 182 | 217 => 205 | 224 => 207 | 225 => 206 | 227 => 190 | 228 => 215 | 231 => 188 | 232 => 189 | 233 => 191 | 234 => 192 | 235 => 193 | 236 => 194 | 260 => 204 | 266 => 222 | 271 => 217 | n => n, fun | 0 => 0 | 3 => 3 | 4 => 4 | 5 => 5 | 9 => 9 | 21 => 21 | 46 => 137 | 105 => 228 | 116 => 234 | 117 => 235 | 119 => 262 | 124 => 238 | 138 => 264 | 139 => 265 | n => n, fun | 3 => (Tryz.prog.globals.findIdx? (·.name == "unicode/utf8.first")).getD 0 | 4 => (Tryz.prog.globals.findIdx? (·.name == "unicode/utf8.acceptRanges")).getD 0 | n => n⟩
theorem Tryz.lays160:Go.Proofs.Lays.n160 Tryz.prog Tryz.lays160_ren:={
 mixed:=by kernel_rfl
 f119:=Tryz.func234.trans (congrArg some (by kernel_rfl))
 f120:=Tryz.func228.trans (congrArg some (by kernel_rfl))
 f137:=Tryz.func233.trans (congrArg some (by kernel_rfl))
 f151:=Tryz.func216.trans (congrArg some (by kernel_rfl))
 f152:=Tryz.func227.trans (congrArg some (by kernel_rfl))
 f160:=Tryz.func169.trans (congrArg some (by kernel_rfl))
 f197:=Tryz.func182.trans (congrArg some (by kernel_rfl))
 f217:=Tryz.func205.trans (congrArg some (by kernel_rfl))
 f224:=Tryz.func207.trans (congrArg some (by kernel_rfl))
 f225:=Tryz.func206.trans (congrArg some (by kernel_rfl))
 f227:=Tryz.func190.trans (congrArg some (by kernel_rfl))
 f228:=Tryz.func215.trans (congrArg some (by kernel_rfl))
 f231:=Tryz.func188.trans (congrArg some (by kernel_rfl))
 f232:=Tryz.func189.trans (congrArg some (by kernel_rfl))
 f233:=Tryz.func191.trans (congrArg some (by kernel_rfl))
 f234:=Tryz.func192.trans (congrArg some (by kernel_rfl))
 f235:=Tryz.func193.trans (congrArg some (by kernel_rfl))
 f236:=Tryz.func194.trans (congrArg some (by kernel_rfl))
 f260:=Tryz.func204.trans (congrArg some (by kernel_rfl))
 f266:=Tryz.func222.trans (congrArg some (by kernel_rfl))
 f271:=Tryz.func217.trans (congrArg some (by kernel_rfl))
 t0:=Tryz.underlying0
 a0:=Tryz.isAgg0
 z0:=Tryz.sizeOf0
 v0:=Tryz.zeroValue0
 t3:=Tryz.underlying3
 a3:=Tryz.isAgg3
 z3:=Tryz.sizeOf3
 v3:=Tryz.zeroValue3
 t4:=Tryz.underlying4
 a4:=Tryz.isAgg4
 z4:=Tryz.sizeOf4
 v4:=Tryz.zeroValue4
 t5:=Tryz.underlying5
 a5:=Tryz.isAgg5
 z5:=Tryz.sizeOf5
 v5:=Tryz.zeroValue5
 t9:=Tryz.underlying9
 a9:=Tryz.isAgg9
 z9:=Tryz.sizeOf9
 v9:=Tryz.zeroValue9
 t21:=Tryz.underlying21
 a21:=Tryz.isAgg21
 z21:=Tryz.sizeOf21
 v21:=Tryz.zeroValue21
 t46:=Tryz.underlying137
 a46:=Tryz.isAgg137
 z46:=Tryz.sizeOf137
 v46:=Tryz.zeroValue137
 t105:=Tryz.underlying228
 a105:=Tryz.isAgg228
 z105:=Tryz.sizeOf228
 v105:=Tryz.zeroValue228
 t116:=Tryz.underlying234
 a116:=Tryz.isAgg234
 z116:=Tryz.sizeOf234
 t117:=Tryz.underlying235
 a117:=Tryz.isAgg235
 z117:=Tryz.sizeOf235
 v117:=Tryz.zeroValue235
 t119:=Tryz.underlying262
 a119:=Tryz.isAgg262
 z119:=Tryz.sizeOf262
 t124:=Tryz.underlying238
 a124:=Tryz.isAgg238
 z124:=Tryz.sizeOf238
 v124:=Tryz.zeroValue238
 t138:=Tryz.underlying264
 a138:=Tryz.isAgg264
 z138:=Tryz.sizeOf264
 v138:=Tryz.zeroValue264
 t139:=Tryz.underlying265
 a139:=Tryz.isAgg265
 z139:=Tryz.sizeOf265
 v139:=Tryz.zeroValue265
 g3:=by kernel_rfl
 g4:=by kernel_rfl
 }
end Go.Proofs
namespace Go.Proofs.YtfpkamiobdkcpaaGreatDoor
open Go.AX Go.RF Go.RowKit
set_option maxRecDepth 100000
set_option maxHeartbeats 8000000
theorem ok_trim (s:Str) (hs:s.length≤1073741824):FnOk Tryz.prog 169 [.d (dstr s),.d (dstr alpha)] (.one (dstr (Lib.trimS s alpha))):=by
 refine⟨⟨_,Tryz.func169,by kernel_rfl,by kernel_rfl⟩,fun w own vs hown ha=>?_⟩
 match vs,ha with
 | [x,y],⟨h1,h2,_⟩ =>
  obtain rfl:x=str s:=rd_v h1
  obtain rfl:y=str alpha:=rd_v h2
  refine(Any.strings_Trim_laid Tryz.lays160 (by kernel_rfl) ⟨s.toArray⟩ ⟨alpha.toArray⟩ w (by show s.toArray.size≤_;simp;omega) (by decide) (ascii_of_all (by decide))).mono fun e w' he=>?_
  obtain⟨rfl,hb⟩:=he
  exact⟨_,rfl,hb,Rd.v _⟩
theorem ok_pkey (s:Str) (hs:s.length≤1073741824):FnOk Tryz.prog 138 [.d (dstr s)] (.one (dbool (key s))):=by
 refine fnOk_of tbl_ok mixed_ok Tryz.func138 rfl (by kernel_rfl) rfl rfl fun w0 own0=>?_
 have ht:=ok_trim s hs
 rw[key_trim]
 by_cases h1:1≤s.length
 ·
  by_cases h2:s.length≤6
  ·
   try refine wk ?_
   exact .one (.tmp rfl (.one (.d (dle_bool (by simp[h1,h2])))))
  ·
   try refine wk ?_
   exact .one (.tmp rfl (.one (.d (dle_bool (by simp[h2])))))
 ·
  try refine wk ?_
  exact .one (.tmp rfl (.one (.d (dle_bool (by simp[h1])))))
end Go.Proofs.YtfpkamiobdkcpaaGreatDoor
namespace Go.Proofs.YtfpkamiobdkcpaaGreatDoor
open Go.AX Go.RF
set_option maxRecDepth 100000
set_option maxHeartbeats 8000000
def regsN (k:Int):Int:=if k=3∨k=4∨k=5 then 2 else if k=7 then 0 else 1
def keyedB (k:Int):Bool:=decide (k=1∨k=6∨k=7)
def loI (k:Int):Int:=if k=2 then -1073741824 else if k=8 then 1 else 0
def hiI (k m:Int):Int:=if k=2 then 1073741824 else if k=8 then m else 0
def outI (n lo hi a b x:Int):Bool:=decide (a < 0∨4≤a∨(n < 1∧a≠0)∨b < 0∨4≤b∨(n < 2∧b≠0)∨x < lo∨hi < x)
def pwrongIns (d:Deed) (m:Int) (i:Ins):Int :=
 if i.kind < 1∨9 < i.kind then 1
 else if outI (regsN i.kind) (loI i.kind) (hiI i.kind m) i.a i.b i.n=true then 3
 else if keyedB i.kind=false∧i.key≠[] then 2
 else if (i.kind=1∧isIn d.reads i.key=false)∨(keyedB i.kind=true∧i.kind≠1∧isIn d.writes i.key=false) then 9 else 0
theorem pwrong_eq (d:Deed) (m:Int) (i:Ins):pwrongIns d m i=wrongIns d m i:=by
 unfold pwrongIns wrongIns
 by_cases h:i.kind < 1∨9 < i.kind
 ·
  rw[if_pos h,if_pos h]
 rw[if_neg h,if_neg h]
 obtain⟨kd,a,b,n,key⟩:=i
 dsimp only at h ⊢
 have hout:outI (regsN kd) (loI kd) (hiI kd m) a b n=insOut kd.toNat a b n m:=by
  have hkd:kd=1∨kd=2∨kd=3∨kd=4∨kd=5∨kd=6∨kd=7∨kd=8∨kd=9:=by omega
  unfold outI insOut
  rw[Bool.eq_iff_iff]
  simp only[Bool.or_eq_true,decide_eq_true_eq]
  rcases hkd with rfl|rfl|rfl|rfl|rfl|rfl|rfl|rfl|rfl
  ·
   rw[show regsN 1=1 from rfl,show loI 1=0 from rfl,show hiI 1 m=0 from rfl,show insA (Int.toNat 1)=3 from rfl,show insB (Int.toNat 1)=0 from rfl,show insLow (Int.toNat 1)=0 from rfl,show insHigh (Int.toNat 1) m=0 from rfl]
   omega
  ·
   rw[show regsN 2=1 from rfl,show loI 2 = -1073741824 from rfl,show hiI 2 m=1073741824 from rfl,show insA (Int.toNat 2)=3 from rfl,show insB (Int.toNat 2)=0 from rfl,show insLow (Int.toNat 2) = -1073741824 from rfl,show insHigh (Int.toNat 2) m=1073741824 from rfl]
   omega
  ·
   rw[show regsN 3=2 from rfl,show loI 3=0 from rfl,show hiI 3 m=0 from rfl,show insA (Int.toNat 3)=3 from rfl,show insB (Int.toNat 3)=3 from rfl,show insLow (Int.toNat 3)=0 from rfl,show insHigh (Int.toNat 3) m=0 from rfl]
   omega
  ·
   rw[show regsN 4=2 from rfl,show loI 4=0 from rfl,show hiI 4 m=0 from rfl,show insA (Int.toNat 4)=3 from rfl,show insB (Int.toNat 4)=3 from rfl,show insLow (Int.toNat 4)=0 from rfl,show insHigh (Int.toNat 4) m=0 from rfl]
   omega
  ·
   rw[show regsN 5=2 from rfl,show loI 5=0 from rfl,show hiI 5 m=0 from rfl,show insA (Int.toNat 5)=3 from rfl,show insB (Int.toNat 5)=3 from rfl,show insLow (Int.toNat 5)=0 from rfl,show insHigh (Int.toNat 5) m=0 from rfl]
   omega
  ·
   rw[show regsN 6=1 from rfl,show loI 6=0 from rfl,show hiI 6 m=0 from rfl,show insA (Int.toNat 6)=3 from rfl,show insB (Int.toNat 6)=0 from rfl,show insLow (Int.toNat 6)=0 from rfl,show insHigh (Int.toNat 6) m=0 from rfl]
   omega
  ·
   rw[show regsN 7=0 from rfl,show loI 7=0 from rfl,show hiI 7 m=0 from rfl,show insA (Int.toNat 7)=0 from rfl,show insB (Int.toNat 7)=0 from rfl,show insLow (Int.toNat 7)=0 from rfl,show insHigh (Int.toNat 7) m=0 from rfl]
   omega
  ·
   rw[show regsN 8=1 from rfl,show loI 8=1 from rfl,show hiI 8 m=m from rfl,show insA (Int.toNat 8)=3 from rfl,show insB (Int.toNat 8)=0 from rfl,show insLow (Int.toNat 8)=1 from rfl,show insHigh (Int.toNat 8) m=m from rfl]
   omega
  ·
   rw[show regsN 9=1 from rfl,show loI 9=0 from rfl,show hiI 9 m=0 from rfl,show insA (Int.toNat 9)=3 from rfl,show insB (Int.toNat 9)=0 from rfl,show insLow (Int.toNat 9)=0 from rfl,show insHigh (Int.toNat 9) m=0 from rfl]
   omega
 rw[hout]
 split
 ·
  rfl
 have hkd:kd=1∨kd=2∨kd=3∨kd=4∨kd=5∨kd=6∨kd=7∨kd=8∨kd=9:=by omega
 have hk9:has kd.toNat 107=keyedB kd:=by rcases hkd with rfl|rfl|rfl|rfl|rfl|rfl|rfl|rfl|rfl <;> decide
 rw[hk9]
 cases hkb:keyedB kd with
 |false =>
  have h1:¬ kd=1:=fun e=>by subst e;cases hkb
  by_cases hk0:key=[]
  ·
   simp[hk0,h1]
  ·
   simp[hk0]
 |true =>
  simp only[Bool.true_eq_false,false_and,if_false,true_and]
  by_cases h1:kd=1
  ·
   simp only[h1,if_true,ne_eq,not_true_eq_false,false_and,or_false,true_and]
   cases isIn d.reads key <;> rfl
  ·
   simp only[h1,if_false,false_and,ne_eq,not_false_eq_true,true_and,false_or]
   cases isIn d.writes key <;> rfl
theorem ok_regs (k:Int):FnOk Tryz.prog 139 [.d (dint k)] (.one (dint (regsN k))):=by
 refine fnOk_of tbl_ok mixed_ok Tryz.func139 rfl (by kernel_rfl) rfl rfl fun w0 own0=>?_
 unfold regsN
 by_cases h3:k=3
 ·
  rw[if_pos (.inl h3)]
  try refine wk ?_
  exact .one (.tmp rfl (.one (.d (.refl _))))
 by_cases h4:k=4
 ·
  rw[if_pos (.inr (.inl h4))]
  try refine wk ?_
  exact .one (.tmp rfl (.one (.d (.refl _))))
 by_cases h5:k=5
 ·
  rw[if_pos (.inr (.inr h5))]
  try refine wk ?_
  exact .one (.tmp rfl (.one (.d (.refl _))))
 rw[if_neg (by omega)]
 by_cases h7:k=7
 ·
  rw[if_pos h7]
  try refine wk ?_
  exact .one (.tmp rfl (.one (.d (.refl _))))
 ·
  rw[if_neg h7]
  try refine wk ?_
  exact .one (.tmp rfl (.one (.d (.refl _))))
theorem ok_instr (d:Deed) (i:Ins) (m:Int) (hr:d.reads.length≤268435456) (hw:d.writes.length≤268435456) :
  FnOk Tryz.prog 106 [.pd d.enc,.d (.agg i.enc),.d (dint m)] (.one (dint (wrongIns d m i))):=by
 refine fnOk_of tbl_ok mixed_ok Tryz.func106 rfl (by kernel_rfl) rfl rfl fun w0 own0=>?_
 rw[← pwrong_eq]
 have cr:=ok_regs i.kind
 have c1:=ok_containsS d.reads i.key (by omega)
 have c2:=ok_containsS d.writes i.key (by omega)
 have hst0:StopR 1:=⟨rfl⟩
 try refine wkS ?_
 clear hst0
 refine Stop.cutk [sd 7 (dbool (keyedB i.kind))] [.s 0,.s 2,.s 4,.o 0,.nx] ?_ ?_
 ·
  by_cases h1:i.kind=1
  ·
   rw[show keyedB i.kind=true from decide_eq_true (.inl h1)]
   try refine wk ?_
   refine q_cut ?_
   exact by_less
  by_cases h6:i.kind=6
  ·
   rw[show keyedB i.kind=true from decide_eq_true (.inr (.inl h6))]
   try refine wk ?_
   refine q_cut ?_
   exact by_less
  by_cases h7:i.kind=7
  ·
   rw[show keyedB i.kind=true from decide_eq_true (.inr (.inr h7))]
   try refine wk ?_
   refine q_cut ?_
   exact by_less
  ·
   rw[show keyedB i.kind=false from decide_eq_false (by omega)]
   try refine wk ?_
   refine q_cut ?_
   exact by_less
 have hst0:StopA 3:=⟨rfl⟩
 try refine wkS ?_
 clear hst0
 refine Stop.cutk [sd 8 (dint (loI i.kind)),sd 9 (dint (hiI i.kind m))] [.s 0,.s 4,.s 7,.o 0,.nx] ?_ ?_
 ·
  by_cases h2:i.kind=2
  ·
   rw[show loI i.kind = -1073741824 from if_pos h2,show hiI i.kind m=1073741824 from if_pos h2]
   try refine wk ?_
   refine q_cut ?_
   exact by_less
  by_cases h8:i.kind=8
  ·
   rw[show loI i.kind=1 by unfold loI;rw[if_neg h2,if_pos h8],show hiI i.kind m=m by unfold hiI;rw[if_neg h2,if_pos h8]]
   try refine wk ?_
   refine q_cut ?_
   exact by_less
  ·
   rw[show loI i.kind=0 by unfold loI;rw[if_neg h2,if_neg h8],show hiI i.kind m=0 by unfold hiI;rw[if_neg h2,if_neg h8]]
   try refine wk ?_
   refine q_cut ?_
   exact by_less
 unfold pwrongIns
 generalize regsN i.kind=n at cr ⊢
 generalize loI i.kind=lo
 generalize hiI i.kind m=hi
 by_cases hk0:i.kind < 1
 ·
  rw[if_pos (.inl hk0)]
  try refine wk ?_
  exact .one (.tmp rfl (.one (.d (.refl _))))
 by_cases hk9:9 < i.kind
 ·
  rw[if_pos (.inr hk9)]
  try refine wk ?_
  exact .one (.tmp rfl (.one (.d (.refl _))))
 rw[if_neg (by omega)]
 have hst0:StopA 11:=⟨rfl⟩
 try refine wkS ?_
 clear hst0
 refine Stop.cutk [sd 43 (dbool (outI n lo hi i.a i.b i.n))] [.s 0,.s 4,.s 7,.o 0,.nx] ?_ ?_
 ·
  have T:(i.a < 0∨4≤i.a∨(n < 1∧i.a≠0)∨i.b < 0∨4≤i.b∨(n < 2∧i.b≠0)∨i.n < lo∨hi < i.n)→outI n lo hi i.a i.b i.n=true:=fun h=>decide_eq_true h
  have F:¬ (i.a < 0∨4≤i.a∨(n < 1∧i.a≠0)∨i.b < 0∨4≤i.b∨(n < 2∧i.b≠0)∨i.n < lo∨hi < i.n)→outI n lo hi i.a i.b i.n=false:=fun h=>decide_eq_false h
  by_cases ha0:i.a < 0
  ·
   rw[T (by omega)]
   try refine wk ?_
   refine q_cut ?_
   exact by_less
  by_cases ha4:4≤i.a
  ·
   rw[T (by omega)]
   try refine wk ?_
   refine q_cut ?_
   exact by_less
  by_cases hn1:n < 1
  ·
   by_cases ha:i.a=0
   ·
    skip
    by_cases hb0:i.b < 0
    ·
     rw[T (by omega)]
     try refine wk ?_
     refine q_cut ?_
     exact by_less
    by_cases hb4:4≤i.b
    ·
     rw[T (by omega)]
     try refine wk ?_
     refine q_cut ?_
     exact by_less
    by_cases hn2:n < 2
    ·
     by_cases hb:i.b=0
     ·
      skip
      by_cases hx0:i.n < lo
      ·
       rw[T (by omega)]
       try refine wk ?_
       refine q_cut ?_
       exact by_less
      by_cases hx1:hi < i.n
      ·
       rw[T (by omega)]
       try refine wk ?_
       refine q_cut ?_
       exact by_less
      rw[F (by omega)]
      try refine wk ?_
      refine q_cut ?_
      exact by_less
     ·
      rw[T (by omega)]
      try refine wk ?_
      refine q_cut ?_
      exact by_less
    by_cases hx0:i.n < lo
    ·
     rw[T (by omega)]
     try refine wk ?_
     refine q_cut ?_
     exact by_less
    by_cases hx1:hi < i.n
    ·
     rw[T (by omega)]
     try refine wk ?_
     refine q_cut ?_
     exact by_less
    rw[F (by omega)]
    try refine wk ?_
    refine q_cut ?_
    exact by_less
   ·
    rw[T (by omega)]
    try refine wk ?_
    refine q_cut ?_
    exact by_less
  by_cases hb0:i.b < 0
  ·
   rw[T (by omega)]
   try refine wk ?_
   refine q_cut ?_
   exact by_less
  by_cases hb4:4≤i.b
  ·
   rw[T (by omega)]
   try refine wk ?_
   refine q_cut ?_
   exact by_less
  by_cases hn2:n < 2
  ·
   by_cases hb:i.b=0
   ·
    skip
    by_cases hx0:i.n < lo
    ·
     rw[T (by omega)]
     try refine wk ?_
     refine q_cut ?_
     exact by_less
    by_cases hx1:hi < i.n
    ·
     rw[T (by omega)]
     try refine wk ?_
     refine q_cut ?_
     exact by_less
    rw[F (by omega)]
    try refine wk ?_
    refine q_cut ?_
    exact by_less
   ·
    rw[T (by omega)]
    try refine wk ?_
    refine q_cut ?_
    exact by_less
  by_cases hx0:i.n < lo
  ·
   rw[T (by omega)]
   try refine wk ?_
   refine q_cut ?_
   exact by_less
  by_cases hx1:hi < i.n
  ·
   rw[T (by omega)]
   try refine wk ?_
   refine q_cut ?_
   exact by_less
  rw[F (by omega)]
  try refine wk ?_
  refine q_cut ?_
  exact by_less
 cases ho:outI n lo hi i.a i.b i.n with
 |true =>
  rw[if_pos rfl]
  try refine wk ?_
  exact .one (.tmp rfl (.one (.d (.refl _))))
 |false =>
  rw[if_neg (by simp)]
  by_cases hkey:i.key=[]
  ·
   rw[if_neg (fun h=>h.2 hkey)]
   by_cases h1:i.kind=1
   ·
    have hk1:keyedB i.kind=true:=decide_eq_true (.inl h1)
    rw[hk1]
    cases hin:isIn d.reads i.key with
    |false =>
     rw[if_pos (.inl ⟨h1,rfl⟩)]
     rw[hin]at c1
     repeat(first|refine wa ?_|((with_reducible apply s5);(first|exact a_call c1 rfl by_sub|((with_reducible apply a_nilpd);(iterate 2 exact rfl))|exact by_oa|exact by_ca);exact by_g)|refine wb ?_)
     exact .one (.tmp rfl (.one (.d (.refl _))))
    |true =>
     rw[if_neg (by simp[h1])]
     rw[hin]at c1
     repeat(first|refine wa ?_|((with_reducible apply s5);(first|exact a_call c1 rfl by_sub|((with_reducible apply a_nilpd);(iterate 2 exact rfl))|exact by_oa|exact by_ca);exact by_g)|refine wb ?_)
     exact .one (.tmp rfl (.one (.d (.refl _))))
   ·
    cases hkb:keyedB i.kind with
    |false =>
     rw[if_neg (by simp[h1])]
     try refine wk ?_
     exact .one (.tmp rfl (.one (.d (.refl _))))
    |true =>
     cases hin:isIn d.writes i.key with
     |false =>
      rw[if_pos (.inr ⟨rfl,h1,rfl⟩)]
      rw[hin]at c2
      repeat(first|refine wa ?_|((with_reducible apply s5);(first|exact a_call c2 rfl by_sub|((with_reducible apply a_nilpd);(iterate 2 exact rfl))|exact by_oa|exact by_ca);exact by_g)|refine wb ?_)
      exact .one (.tmp rfl (.one (.d (.refl _))))
     |true =>
      rw[if_neg (by simp[h1])]
      rw[hin]at c2
      repeat(first|refine wa ?_|((with_reducible apply s5);(first|exact a_call c2 rfl by_sub|((with_reducible apply a_nilpd);(iterate 2 exact rfl))|exact by_oa|exact by_ca);exact by_g)|refine wb ?_)
      exact .one (.tmp rfl (.one (.d (.refl _))))
  ·
   by_cases h1:i.kind=1
   ·
    have hk1:keyedB i.kind=true:=decide_eq_true (.inl h1)
    rw[hk1,if_neg (by simp)]
    cases hin:isIn d.reads i.key with
    |false =>
     rw[if_pos (.inl ⟨h1,rfl⟩)]
     rw[hin]at c1
     repeat(first|refine wa ?_|((with_reducible apply s5);(first|exact a_call c1 rfl by_sub|((with_reducible apply a_nilpd);(iterate 2 exact rfl))|exact by_oa|exact by_ca);exact by_g)|refine wb ?_)
     exact .one (.tmp rfl (.one (.d (.refl _))))
    |true =>
     rw[if_neg (by simp[h1])]
     rw[hin]at c1
     repeat(first|refine wa ?_|((with_reducible apply s5);(first|exact a_call c1 rfl by_sub|((with_reducible apply a_nilpd);(iterate 2 exact rfl))|exact by_oa|exact by_ca);exact by_g)|refine wb ?_)
     exact .one (.tmp rfl (.one (.d (.refl _))))
   ·
    cases hkb:keyedB i.kind with
    |false =>
     rw[if_pos ⟨rfl,hkey⟩]
     try refine wk ?_
     exact .one (.tmp rfl (.one (.d (.refl _))))
    |true =>
     rw[if_neg (by simp)]
     cases hin:isIn d.writes i.key with
     |false =>
      rw[if_pos (.inr ⟨rfl,h1,rfl⟩)]
      rw[hin]at c2
      repeat(first|refine wa ?_|((with_reducible apply s5);(first|exact a_call c2 rfl by_sub|((with_reducible apply a_nilpd);(iterate 2 exact rfl))|exact by_oa|exact by_ca);exact by_g)|refine wb ?_)
      exact .one (.tmp rfl (.one (.d (.refl _))))
     |true =>
      rw[if_neg (by simp[h1])]
      rw[hin]at c2
      repeat(first|refine wa ?_|((with_reducible apply s5);(first|exact a_call c2 rfl by_sub|((with_reducible apply a_nilpd);(iterate 2 exact rfl))|exact by_oa|exact by_ca);exact by_g)|refine wb ?_)
      exact .one (.tmp rfl (.one (.d (.refl _))))
theorem ok_dkeys (l:List Str) (hl:l.length≤268435456) (hk:∀ s∈l,s.length≤1073741824):FnOk Tryz.prog 105 [.d (encStrs l)] (.one (dint (keysWrong l))):=by
 refine fnOk_of tbl_ok mixed_ok Tryz.func105 rfl (by kernel_rfl) rfl rfl fun w0 own0=>?_
 unfold keysWrong
 by_cases h4:5 < l.length
 ·
  rw[if_pos h4]
  try refine wk ?_
  exact .one (.tmp rfl (.one (.d (.refl _))))
 ·
  rw[if_neg h4]
  try refine wk ?_
  refine CW.loopT (fun t:Nat=>[sd 0 (encStrs l),sd 2 (dint 0),sd 8 (encStrs l),sd 9 (dint l.length),sd 10 (dint t),nxt 0])
   (fun t=>t≤l.length∧keysGo l t (l.drop t)=keysGo l 0 l) (fun t=>l.length - t) 0 ⟨by omega,rfl⟩ ?_ ?_
  ·
   exact by_less
  ·
   rintro i ⟨hi,hJ⟩
   rcases drop_case hi with ⟨h5,h6⟩|⟨k,h5,h6,h7⟩
   ·
    rw[h5,keysGo]at hJ
    try refine wk ?_
    rw[← hJ]
    exact .one (.tmp rfl (.one (.d (.refl _))))
   ·
    rw[h5,keysGo]at hJ
    have hck:=ok_pkey k (hk k (List.mem_of_getElem? h6))
    have hin:FnOk Tryz.prog 77 [.d (.sl 1 ((l.map encStr1).take i)),.d (dstr k)] (.one (dbool (isIn (l.take i) k))):=by
     rw[← List.map_take]
     exact ok_containsS (l.take i) k (by rw[List.length_take];omega)
    cases h8:key k with
    |false =>
     rw[h8]at hck
     rw[if_pos h8]at hJ
     try refine wk ?_
     rw[← hJ]
     exact .one (.tmp rfl (.one (.d (.refl _))))
    |true =>
     rw[h8]at hck
     rw[if_neg (by simp[h8])]at hJ
     cases h9:isIn (l.take i) k with
     |false =>
      rw[h9]at hin
      rw[if_neg (by simp[h9])]at hJ
      repeat(first|refine wa ?_|((with_reducible apply s5);(first|exact a_call hin rfl by_sub|exact by_oa|exact by_ca);exact by_g)|refine wb ?_)
      refine q_loopT (i+1) ⟨by omega,hJ⟩ (by omega) ?_
      exact by_less
     |true =>
      rw[h9]at hin
      rw[if_pos h9]at hJ
      repeat(first|refine wa ?_|((with_reducible apply s5);(first|exact a_call hin rfl by_sub|exact by_oa|exact by_ca);exact by_g)|refine wb ?_)
      rw[← hJ]
      exact .one (.tmp rfl (.one (.d (.refl _))))
theorem ok_pwrongDeed (d:Deed) (hs:d.Sm):FnOk Tryz.prog 64 [.d (.agg d.enc)] (.one (dint (wrongDeed d))):=by
 refine fnOk_of tbl_ok mixed_ok Tryz.func64 rfl (by kernel_rfl) rfl rfl fun w0 own0=>?_
 have hc:=hs.c
 repeat(first|((with_reducible apply s5);((with_reducible apply a_bs ([d.reads,d.writes].map fun l=>[encStrs l]));(iterate 9 exact rfl);(repeat(first|exact PartsE.nil|(apply PartsE.cons;exact rfl;exact rfl))));exact by_g)|refine wa1 ?_|((with_reducible apply s5);(first|exact by_oa|exact by_ca);exact by_g)|refine wb ?_)
 refine CW.loopT (fun j:Nat=>[sp 1 0,ob 0 d.enc,sd 2 (dint 0),sd 13 (.sl 1 ([d.reads,d.writes].map fun l=>[encStrs l])),sd 14 (dint 2),sd 15 (dint j),nxt 1])
  (fun j=>j≤[d.reads,d.writes].length∧lsGo ([d.reads,d.writes].drop j)=lsGo [d.reads,d.writes]) (fun j=>2 - j) 0 ⟨by simp,rfl⟩ ?_ ?_
 ·
  exact by_less
 ·
  rintro j ⟨hj,hI⟩
  have hj2:j≤2:=hj
  rcases drop_case hj with ⟨h1,h2⟩|⟨l,h1,h2,h3⟩
  ·
   have h2':j=2:=h2
   rw[h1]at hI
   have hI':lsGo [d.reads,d.writes]=0:=hI.symm
   unfold wrongDeed
   rw[if_pos hI']
   by_cases h4:12 < d.code.length
   ·
    rw[if_pos h4]
    try refine wk ?_
    exact .one (.tmp rfl (.one (.d (.refl _))))
   ·
    rw[if_neg h4]
    try refine wk ?_
    refine CW.loopT (fun k:Nat=>[sp 1 0,ob 0 d.enc,sd 2 (dint 0),sd 30 (encCode d.code),sd 31 (dint d.code.length),sd 32 (dint k),nxt 1])
     (fun k=>k≤d.code.length∧codeGo d k (d.code.drop k)=codeGo d 0 d.code) (fun k=>d.code.length - k) 0 ⟨by omega,rfl⟩ ?_ ?_
    ·
     exact by_less
    ·
     rintro k ⟨hk,hJ⟩
     rcases drop_case hk with ⟨h5,h6⟩|⟨i,h5,h6,h7⟩
     ·
      rw[h5,codeGo]at hJ
      try refine wk ?_
      rw[← hJ]
      exact .one (.tmp rfl (.one (.d (.refl _))))
     ·
      rw[h5,codeGo]at hJ
      have ci:FnOk Tryz.prog 106 [.pd d.enc,.d (.agg i.enc),.d (dint (((d.code.map Ins.enc).length:Int) - 1 - k))] (.one (dint (wrongIns d ((d.code.length:Int) - 1 - k) i))):=by
       rw[List.length_map];exact ok_instr d i ((d.code.length:Int) - 1 - k) hs.r hs.w
      by_cases h8:wrongIns d ((d.code.length:Int) - 1 - k) i=0
      ·
       rw[if_pos h8]at hJ
       rw[h8]at ci
       repeat(first|refine wa ?_|((with_reducible apply s5);(first|exact a_call ci rfl by_sub|exact by_oa|exact by_ca);exact by_g)|refine wb ?_)
       refine q_loopT (k+1) ⟨by omega,hJ⟩ (by omega) ?_
       exact by_less
      ·
       rw[if_neg h8]at hJ
       repeat(first|refine wa ?_|((with_reducible apply s5);(first|exact a_call ci rfl by_sub|exact by_oa|exact by_ca);exact by_g)|refine wb ?_)
       rw[← hJ]
       exact .one (.tmp rfl (.one (.d (.refl _))))
  ·
   rw[h1,lsGo]at hI
   have h3':j < 2:=h3
   have hl:l.length≤268435456∧∀ s∈l,s.length≤1073741824:=by
    have:=List.mem_of_getElem? h2
    simp at this
    rcases this with rfl|rfl
    ·
     exact⟨hs.r,hs.rk⟩
    ·
     exact⟨hs.w,hs.wk⟩
   have ck:=ok_dkeys l hl.1 hl.2
   by_cases h8:keysWrong l=0
   ·
    rw[if_pos h8]at hI
    rw[h8]at ck
    try refine wk ?_
    refine q_loopT (j+1) ⟨by simp;omega,hI⟩ (by omega) ?_
    exact by_less
   ·
    rw[if_neg h8]at hI
    unfold wrongDeed
    rw[if_neg (by rw[← hI];exact h8)]
    try refine wk ?_
    rw[← hI]
    exact .one (.tmp rfl (.one (.d (.refl _))))
theorem ok_pnew (r:List Pair) (hl:r.length≤134217728):FnOk Tryz.prog 12 [.d (encRows r)] (.one (.agg (newE r).enc)):=by
 refine fnOk_of tbl_ok mixed_ok Tryz.func12 rfl (by kernel_rfl) rfl rfl fun w0 own0=>?_
 have c1:=ok_of r hl
 try refine wk ?_
 exact .one (.cell rfl rfl rfl rfl (.aggd (ds:=[encChains (r.map rowChain),.v nilS,.v nilS,.v nilS,dint 0]) rfl (DLes.agg (.cons (.refl _) (.cons (dle_nil 3) (.cons (dle_nil 1) (.cons (dle_nil 5) (.cons (.refl _) .nil))))))))
theorem ok_padde (e:Engine) (l:List Deed) (N:Nat) (hE:EInv e N) (hS:SInv e) (hd:∀ d∈l,d.Sm) (hl:l.length≤10000000) (hN:N≤50000000) :
  FnOk Tryz.prog 15 [.d (.agg e.enc),.d (encDeeds l)] (.tup [.agg (addE e l).1.enc,dint (addE e l).2]):=by
 refine fnOk_of tbl_ok mixed_ok Tryz.func15 rfl (by kernel_rfl) rfl rfl fun w0 own0=>?_
 try refine wk ?_
 refine CW.loopT (fun i:Nat=>[sd 1 (encDeeds l),sp 2 0,ob 0 e.enc,sp 4 1,ob 1 noE.enc0,sd 5 (dint 0),sd 15 (encDeeds l),sd 16 (dint l.length),sd 17 (dint i),nxt 2])
  (fun i=>i≤l.length∧wrongs (l.drop i)=wrongs l) (fun i=>l.length - i) 0 ⟨by omega,rfl⟩ ?_ ?_
 ·
  exact by_less
 ·
  rintro i ⟨hi,hI⟩
  rcases drop_case hi with ⟨h1,h2⟩|⟨d,h1,h2,h3⟩
  ·
   rw[h1,wrongs]at hI
   have hw:wrongs l=0:=hI.symm
   have hok:=wrongs_mem hw
   have hres:addE e l=(addAll e l,0):=by rw[addE,if_pos hw]
   rw[hres]
   have hs:=hE.z.sm (by omega)
   have co:=news_planOwn e hs
   repeat(first|refine wa ?_|((with_reducible apply s5);(first|exact a_callnews co rfl rfl by_sub|exact by_oa|exact by_ca);exact by_g)|refine wb ?_)
   refine CW.loopT (fun t:Nat×Engine=>[sd 1 (encDeeds l),sp 4 1,ob 1 noE.enc0,sd 5 (dint 0),sp 9 5,(.o 5,.ob (.box [.d (encChains t.2.chains),.own 2 (t.2.deeds.map Deed.enc).length,.own 3 (t.2.state.map encInt1).length,.own 4 (t.2.ends.map Done.enc).length,.d (dint t.2.base)])),
     oa 2 42 3 (t.2.deeds.map Deed.enc),oa 3 3 1 (t.2.state.map encInt1),oa 4 115 5 (t.2.ends.map Done.enc),sd 30 (encDeeds l),sd 31 (dint l.length),sd 32 (dint t.1),nxt 6])
    (fun t=>t.1≤l.length∧EInv t.2 (N+5*t.1)∧SInv t.2∧addAll t.2 (l.drop t.1)=addAll e l) (fun t=>l.length - t.1) (0,e) ⟨by omega,hE,hS,rfl⟩ ?_ ?_
   ·
    exact by_less
   ·
    rintro ⟨i,x⟩ ⟨hi,hX,hSx,hJ⟩
    dsimp only at hi hX hSx hJ ⊢
    rcases drop_case hi with ⟨h1,h2⟩|⟨d,h1,h2,h3⟩
    ·
     rw[h1,addAll]at hJ
     try refine wk ?_
     rw[← hJ]
     exact .two (.cell rfl rfl rfl rfl (.agg (.cons (.d (.refl _)) (.cons (.own rfl (by simp) (.refl _)) (.cons (.own rfl (by simp) (.refl _)) (.cons (.own rfl (by simp) (.refl _)) (.cons (.d (.refl _)) .nil))))))) (.tmp rfl (.one (.d (.refl _))))
    ·
     rw[h1,addAll]at hJ
     have hdm:=List.mem_of_getElem? h2
     have hds:=hd d hdm
     have hdo:=wrongDeed_ok (hok d hdm)
     have hX1:=hX.add1 hds hdo
     have hS1:=hSx.add1 (wrong_keys (hok d hdm)).2
     have cow:=ok_deedOwn d hds
     have hz:=hX.z
     have hb:=hz.b
     have hwl:=hdo.w
     have hdl:=hz.d
     have hst:=hz.s
     have hen:=hz.n
     try refine wk ?_
     refine CW.loopT (fun t:Nat×List Chain=>[sd 1 (encDeeds l),sp 4 1,ob 1 noE.enc0,sd 5 (dint 0),sp 9 5,(.o 5,.ob (.box [.d (encChains t.2),.own 2 (x.deeds.map Deed.enc).length,.own 3 (x.state.map encInt1).length,.own 4 (x.ends.map Done.enc).length,.d (dint x.base)])),
       oa 2 42 3 (x.deeds.map Deed.enc),oa 3 3 1 (x.state.map encInt1),oa 4 115 5 (x.ends.map Done.enc),sd 30 (encDeeds l),sd 31 (dint l.length),sd 32 (dint i),
       sp 11 6,ob 6 d.enc,sd 12 (dint (x.base+x.deeds.length)),sd 43 (encStrs d.writes),sd 44 (dint d.writes.length),sd 45 (dint t.1),nxt 7])
      (fun t=>t.1≤d.writes.length∧t.2.length≤N+5*i+t.1∧(∀ c∈t.2,c.vs.length≤N+5*i+t.1)∧Srt Chain.key t.2∧addKeys (x.base+x.deeds.length) t.2 (d.writes.drop t.1)=addKeys (x.base+x.deeds.length) x.chains d.writes) (fun t=>d.writes.length - t.1) (0,x.chains) ⟨by omega,hz.c,hz.v,hSx.k,rfl⟩ ?_ ?_
     ·
      exact by_less
     ·
      rintro ⟨j,cs⟩ ⟨hj,hcl,hcv,hcs,hK⟩
      dsimp only at hj hcl hcv hcs hK ⊢
      rcases drop_case hj with ⟨g1,g2⟩|⟨k,g1,g2,g3⟩
      ·
       rw[g1,addKeys]at hK
       subst hK
       try refine wk ?_
       refine q_loopT (i+1,add1 x d) ⟨by dsimp only;omega,by dsimp only;rw[show N+5*(i+1)=N+5*i+5 by omega];exact hX1,hS1,hJ⟩ (by dsimp only;omega) ?_
       unfold add1
       exact by_less
      ·
       rw[g1,addKeys,addC_srt hcs]at hK
       have ca:=ok_padd cs k (x.base+x.deeds.length) (by omega) (fun c hc=>by have:=hcv c hc;omega) hcs
       try refine wk ?_
       refine q_loopT (j+1,addS k (x.base+x.deeds.length) cs) ⟨by dsimp only;omega,by have:=addS_len (k:=k) (b:=x.base+x.deeds.length) cs;dsimp only;omega,fun c hc=>by have:=addS_vs hcv c hc;dsimp only;omega,addS_srt hcs,hK⟩ (by dsimp only;omega) ?_
       exact by_less
  ·
   rw[h1]at hI
   simp only[wrongs]at hI
   have hc:=ok_pwrongDeed d (hd d (List.mem_of_getElem? h2))
   by_cases h4:wrongDeed d=0
   ·
    rw[if_pos h4]at hI
    rw[h4]at hc
    try refine wk ?_
    refine q_loopT (i+1) ⟨by omega,hI⟩ (by omega) ?_
    exact by_less
   ·
    rw[if_neg h4]at hI
    have hres:addE e l=(noE,wrongs l):=by rw[addE,if_neg (by rw[← hI];exact h4)]
    rw[hres]
    try refine wk ?_
    exact .two (.cell rfl rfl rfl rfl (.aggd (ds:=noE.enc0) rfl (DLes.agg (.cons (dle_nil 2) (.cons (dle_nil 3) (.cons (dle_nil 1) (.cons (dle_nil 5) (.cons (.refl _) .nil)))))))) (.tmp rfl (.one (.d (dle_int hI))))
set_option maxHeartbeats 4000000
theorem ok_prows (l:List Chain) (b:Int) (hl:l.length≤268435456) (hv:∀ c∈l,c.vs.length≤268435456) (hs:Srt Chain.key l):FnOk Tryz.prog 125 [.d (encChains l),.d (dint b)] (.tup [encRows (rowsAt l b).1,dbool (rowsAt l b).2]):=by
 refine fnOk_of tbl_ok mixed_ok Tryz.func125 rfl (by kernel_rfl) rfl rfl fun w0 own0=>?_
 try refine wk ?_
 refine CW.stut (stut_promote (i:=6) 99 2) ⟨rfl,rfl,trivial⟩ ?_
 refine CW.loopT (fun t:Nat×List Pair=>[(.s 0,.av (.d (encChains l))),(.s 1,.av (.d (dint b))),(.s 6,.av (.own 0 t.2.length)),(.o 0,.ob (.arr 99 2 (t.2.map Pair.enc))),(.s 10,.av (.d (encChains l))),(.s 11,.av (.d (dint l.length))),(.s 12,.av (.d (dint t.1))),(.nx,.num 1)])
  (fun t=>t.1≤l.length∧t.2.length≤t.1∧rowsAtGo l b t.2 (l.drop t.1)=rowsAt l b) (fun t=>l.length - t.1) (0,[]) ⟨by omega,by simp,rfl⟩ ?_ ?_
 ·
  exact by_less
 ·
  rintro ⟨i,out⟩ ⟨hi,ho,hI⟩
  dsimp only at hi ho hI ⊢
  rcases drop_case hi with ⟨h1,h2⟩|⟨c,h1,h2,h3⟩
  ·
   rw[h1]at hI
   simp only[rowsAtGo]at hI
   try refine wk ?_
   rw[← hI]
   exact .two (.tmp rfl (.one (.own rfl (by simp) (.refl _)))) (.tmp rfl (.one (.d (.refl _))))
  ·
   rw[h1]at hI
   simp only[rowsAtGo]at hI
   have hc:=ok_pbefore l c.key b hl hv hs
   generalize before l c.key b=v at hc hI
   obtain⟨vb,vm,vh,vn⟩:=v
   dsimp only at hI
   cases vm
   ·
    rw[if_pos rfl]at hI
    try refine wk ?_
    rw[← hI]
    exact .two (.tmp rfl (.one (.d (.nil 2)))) (.tmp rfl (.one (.d (.refl _))))
   ·
    rw[if_neg (by simp)]at hI
    cases vh
    ·
     rw[if_neg (by simp)]at hI
     try refine wk ?_
     refine q_loopT (i+1,out) ⟨by dsimp only;omega,by dsimp only;omega,hI⟩ (by dsimp only;omega) ?_
     exact by_less
    ·
     rw[if_pos rfl]at hI
     try refine wk ?_
     refine q_loopT (i+1,_) ⟨by dsimp only;omega,by dsimp only;simp;omega,hI⟩ (by dsimp only;omega) ?_
     exact by_less
theorem ok_pseen (e:Engine) (at_:Int) (hs:e.Sm) (hk:Srt Chain.key e.chains):FnOk Tryz.prog 90 [.d (.agg e.enc),.d (dint at_)] (.tup [encRows (seenE e at_).1,dint (seenE e at_).2]):=by
 refine fnOk_of tbl_ok mixed_ok Tryz.func90 rfl (by kernel_rfl) rfl rfl fun w0 own0=>?_
 have hd:=hs.d
 have hb:=hs.b
 have hc:=ok_prows e.chains (e.base+at_) (by have:=hs.c;omega) (fun c h=>by have:=hs.v c h;omega) hk
 unfold seenE
 by_cases h1:at_ < 0
 ·
  rw[if_pos (.inl h1)]
  try refine wk ?_
  exact .two (.tmp rfl (.one (.d (.nil 2)))) (.tmp rfl (.one (.d (.refl _))))
 ·
  by_cases h2:(e.deeds.length:Int) < at_
  ·
   rw[if_pos (.inr h2)]
   try refine wk ?_
   exact .two (.tmp rfl (.one (.d (.nil 2)))) (.tmp rfl (.one (.d (.refl _))))
  ·
   rw[if_neg (by omega)]
   cases h3:(rowsAt e.chains (e.base+at_)).2
   ·
    rw[if_neg (by simp)]
    rw[h3]at hc
    try refine wk ?_
    exact .two (.tmp rfl (.one (.d (.nil 2)))) (.tmp rfl (.one (.d (.refl _))))
   ·
    rw[if_pos rfl]
    rw[h3]at hc
    try refine wk ?_
    exact .two (.tmp rfl (.one (.d (.refl _)))) (.tmp rfl (.one (.d (.refl _))))
def pclearE (e:Engine):Engine:=⟨pclear (e.base+markN e.state) e.chains,e.deeds.drop (markN e.state),e.state.drop (markN e.state),e.ends.drop (markN e.state),e.base+markN e.state⟩
theorem ok_pclearE (e:Engine) (hs:e.Sm) (h1:e.state.length=e.deeds.length) (h2:e.ends.length=e.deeds.length):FnOk Tryz.prog 89 [.d (.agg e.enc)] (.one (.agg (pclearE e).enc)):=by
 refine fnOk_of tbl_ok mixed_ok Tryz.func89 rfl (by kernel_rfl) rfl rfl fun w0 own0=>?_
 have ho:=ok_planOwn e hs
 have hm:=ok_tmark e hs.s
 have hml:=markN_le e.state
 have hd:=hs.d
 have hb:=hs.b
 have hc:=ok_pclear e.chains (e.base+markN e.state) (by have:=hs.c;omega) (fun c h=>by have:=hs.v c h;omega)
 try refine wk ?_
 exact .one (.cell rfl rfl rfl rfl (.aggd (ds:=[encChains (pclear (e.base+markN e.state) e.chains),.sl 3 ((e.deeds.map Deed.enc).drop (markN e.state)),.sl 1 ((e.state.map encInt1).drop (markN e.state)),.sl 5 ((e.ends.map Done.enc).drop (markN e.state)),dint (e.base+markN e.state)]) rfl
  (dle_eq (by simp[pclearE,Engine.enc,encDeeds,encInts,encEnds]))))
theorem ok_wrongRows (l:List Pair) (hl:l.length≤268435456) (hk:∀ p∈l,p.key.length≤1073741824):FnOk Tryz.prog 10 [.d (encRows l)] (.one (dint (wrongRows l))):=by
 refine fnOk_of tbl_ok mixed_ok Tryz.func10 rfl (by kernel_rfl) rfl rfl fun w0 own0=>?_
 try refine wk ?_
 refine CW.loopT (fun t:Nat×Str=>[(.s 3,.av (.d (dstr t.2))),(.s 6,.av (.d (encRows l))),(.s 7,.av (.d (dint l.length))),(.s 8,.av (.d (dint t.1))),(.nx,.num 0)])
  (fun t=>t.1≤l.length∧wrongRowsGo t.1 t.2 (l.drop t.1)=wrongRows l) (fun t=>l.length - t.1) (0,[]) ⟨by omega,rfl⟩ ?_ ?_
 ·
  exact by_less
 ·
  rintro ⟨i,last⟩ ⟨hi,hI⟩
  dsimp only at hi hI ⊢
  rcases drop_case hi with ⟨h1,h2⟩|⟨p,h1,h2,h3⟩
  ·
   rw[h1]at hI
   simp only[wrongRowsGo]at hI
   try refine wk ?_
   exact .one (.tmp rfl (.one (.d (dle_int hI))))
  ·
   rw[h1]at hI
   simp only[wrongRowsGo]at hI
   have hc:=ok_key p.key (hk p (List.mem_of_getElem? h2))
   cases h4:key p.key
   ·
    rw[if_pos h4]at hI
    try refine wk ?_
    exact .one (.tmp rfl (.one (.d (dle_int hI))))
   ·
    rw[if_neg (by simp[h4])]at hI
    by_cases h5:0 < i
    ·
     cases h6:sle p.key last
     ·
      rw[if_neg (by simp[h6])]at hI
      have h6':(Go.Op.bytesLess p.key last || decide (p.key=last))=false:=h6
      by_cases h7:1073741824 < p.n
      ·
       rw[if_pos (.inl h7)]at hI
       try refine wk ?_
       exact .one (.tmp rfl (.one (.d (dle_int hI))))
      ·
       by_cases h8:p.n < -1073741824
       ·
        rw[if_pos (.inr h8)]at hI
        try refine wk ?_
        exact .one (.tmp rfl (.one (.d (dle_int hI))))
       ·
        rw[if_neg (by omega)]at hI
        try refine wk ?_
        refine q_loopT (i+1,_) ⟨by omega,hI⟩ (by dsimp only;omega) ?_
        exact by_less
     ·
      rw[if_pos ⟨h5,h6⟩]at hI
      have h6':(Go.Op.bytesLess p.key last || decide (p.key=last))=true:=h6
      try refine wk ?_
      exact .one (.tmp rfl (.one (.d (dle_int hI))))
    ·
     rw[if_neg (by simp;omega)]at hI
     by_cases h7:1073741824 < p.n
     ·
      rw[if_pos (.inl h7)]at hI
      try refine wk ?_
      exact .one (.tmp rfl (.one (.d (dle_int hI))))
     ·
      by_cases h8:p.n < -1073741824
      ·
       rw[if_pos (.inr h8)]at hI
       try refine wk ?_
       exact .one (.tmp rfl (.one (.d (dle_int hI))))
      ·
       rw[if_neg (by omega)]at hI
       try refine wk ?_
       refine q_loopT (i+1,_) ⟨by omega,hI⟩ (by dsimp only;omega) ?_
       exact by_less
set_option maxHeartbeats 8000000
theorem pclearE_eq {e:Engine}(h:SInv e):pclearE e=clearE e:=by
 unfold pclearE clearE
 rw[pclear_eq h.v]
theorem sumLen_eq (bs:List (List Deed)):sumLen bs=(bs.map List.length).sum:=by
 induction bs with
 |nil=>rfl
 |cons b bs ih=>simp[sumLen,ih]
theorem ok_read6 (s:Str) (d:Deed) (h:parseD s=some d) (hm:smallS s=true):FnOk Tryz.prog 97 [.d (dstr s)] (.one (.agg d.enc)):=by
 refine fnOk_of tbl_ok mixed_ok Tryz.func97 rfl (by kernel_rfl) rfl rfl fun w0 own0=>?_
 have c1:=ok_parseS s d h hm
 try refine wk ?_
 exact .one (.cell rfl rfl rfl rfl (.aggd rfl (.refl _)))
def r6:List Pair:=[⟨[97],1⟩]
def l6:List Deed:=[dE,dF]
theorem e6_add:(addE (newE r6) l6).2=0:=by decide +kernel
theorem e6_n1:needs (addE (newE r6) l6).1 1 dF=[0]:=by decide +kernel
theorem e6_n0:needs (addE (newE r6) l6).1 0 dE=[]:=by decide +kernel
theorem e6_d:(addE (newE r6) l6).1.deeds=[dE,dF]∧(addE (newE r6) l6).1.chains.length=2∧(addE (newE r6) l6).1.state.length=2:=by decide +kernel
theorem e6_k:(keysD dF).length=2:=by decide +kernel
theorem l6_sm:∀ d∈l6,d.Sm:=by
 intro d hd
 simp[l6]at hd
 rcases hd with rfl|rfl <;> constructor <;> simp[dE,dF]
theorem ok_alive6:FnOk Tryz.prog 49 [] (.one (dbool true)):=by
 refine fnOk_of tbl_ok mixed_ok Tryz.func49 rfl (by kernel_rfl) rfl rfl fun w0 own0=>?_
 have q1:=ok_read6 tE dE pE sE
 have q2:=ok_read6 tF dF pF sF
 have hok:rowsOk r6:=by simp[rowsOk,r6,nOk]
 have hE0:=newE_inv hok
 have hB0:=newE_b (r:=r6) (by decide +kernel)
 have hB:=hB0.addE e6_add
 have hE:=hE0.addE l6_sm e6_add
 have c1:=ok_pnew r6 (by simp[r6])
 have c2:=ok_padde (newE r6) l6 _ hE0 hB0.S l6_sm (by simp[l6]) (by simp[r6])
 rw[e6_add]at c2
 have hN:r6.length+1+5*l6.length=12:=rfl
 rw[hN]at hE
 have n1:=e6_n1
 have n0:=e6_n0
 obtain⟨f1,f2,f3⟩:=e6_d
 have f4:=e6_k
 have k1:=ok_pkeys dF (by decide) (by decide) (by decide)
 generalize (addE (newE r6) l6).1=e at *
 generalize newE r6=e0 at *
 generalize keysD dF=kd at k1 f4
 have hz:=hE.z.sm (by omega)
 have hd0:e.deeds[0]? = some dE:=by rw[f1];rfl
 have hd1:e.deeds[1]? = some dF:=by rw[f1];rfl
 have c3:=ok_pneeds e 1 dF hz hd1 (by decide) hB.S.k hB.W.nb
 have c4:=ok_pneeds e 0 dE hz hd0 (by decide) hB.S.k hB.W.nb
 rw[n1]at c3
 rw[n0]at c4
 have c5:=ok_planOwn e hz
 have hi0:([0]:List Int)[0]? = some 0:=rfl
 have fdl:e.deeds.length=2:=by rw[f1];rfl
 repeat(first|((with_reducible apply s5);((with_reducible apply a_bs ([⟨[97],1⟩].map Pair.enc));(iterate 9 exact rfl);(repeat(first|exact PartsE.nil|(apply PartsE.cons;exact rfl;exact rfl))));exact by_g)|((with_reducible apply s5);((with_reducible apply a_bs ([dE,dF].map Deed.enc));(iterate 9 exact rfl);(repeat(first|exact PartsE.nil|(apply PartsE.cons;exact rfl;exact rfl))));exact by_g)|refine wa1 ?_|((with_reducible apply s5);(first|(focus ((with_reducible apply(a_call q1));exact rfl;(repeat(first|exact SubsE.nil|(apply SubsE.cons;exact rfl;(first|exact .d (.refl _)|exact .d (.nil _)|exact .agg rfl (.refl _)|exact .pd|exact .ptr rfl);(first|exact trivial|exact⟨rfl,trivial⟩))));done))|(focus ((with_reducible apply(a_call q2));exact rfl;(repeat(first|exact SubsE.nil|(apply SubsE.cons;exact rfl;(first|exact .d (.refl _)|exact .d (.nil _)|exact .agg rfl (.refl _)|exact .pd|exact .ptr rfl);(first|exact trivial|exact⟨rfl,trivial⟩))));done))|(focus ((with_reducible apply(a_call c3));exact rfl;(repeat(first|exact SubsE.nil|(apply SubsE.cons;exact rfl;(first|exact .d (.refl _)|exact .d (.nil _)|exact .agg rfl (.refl _)|exact .pd|exact .ptr rfl);(first|exact trivial|exact⟨rfl,trivial⟩))));done))|(focus ((with_reducible apply(a_call c4));exact rfl;(repeat(first|exact SubsE.nil|(apply SubsE.cons;exact rfl;(first|exact .d (.refl _)|exact .d (.nil _)|exact .agg rfl (.refl _)|exact .pd|exact .ptr rfl);(first|exact trivial|exact⟨rfl,trivial⟩))));done))|((with_reducible apply a_ia);(iterate 5 exact rfl);exact idx_map (k:=0) hi0)|((with_reducible apply a_ia);(iterate 5 exact rfl);exact idx_map (k:=1) hd1)|exact by_oa|exact by_ca);exact by_g)|refine wb ?_)
 exact .one (.tmp rfl (.one (.d (dle_bool (by simp[f2,f3,f4,fdl])))))
theorem ok_PlanAhead (r:List Pair) (bs:List (List Deed)) (p:List Int) (l:List Deed) (hrl:r.length≤1048576) (hrk:∀ q∈r,q.key.length≤1073741824) (hb:∀ b∈bs,b.length≤1048576∧∀ d∈b,d.Sm) (hbl:bs.length≤1048576) (hsum:sumLen bs≤1048576) (hp:p.length≤1048576)
  (hl:l.length≤1048576) (hld:∀ d∈l,d.Sm) :
  FnOk Tryz.prog 6 [.d (encRows r),.d (encBatches bs),.d (encInts p),.d (encDeeds l)] (.one (dbool true)):=by
 refine fnOk_of tbl_ok mixed_ok Tryz.func6 rfl (by kernel_rfl) rfl rfl fun w0 own0=>?_
 have c0:=ok_alive6
 have c1:=ok_wrongRows r (by omega) hrk
 by_cases hw:wrongRows r=0
 ·
  obtain⟨hsrt,_,hok⟩:=wrongRows_srt hw
  have c2:=ok_rBuild r bs p hok (by omega) (fun b h=>⟨by have:=(hb b h).1;omega,(hb b h).2⟩) (by omega) (by omega) (by omega)
  have hE:EInv (buildE r bs p) (r.length+1+5*sumLen bs):=EInv.buildGo (p:=p) (newE_inv hok) (fun b h=>(hb b h).2)
  obtain⟨r',hB⟩:=build_b hw bs p
  generalize buildE r bs p=e at c2 hE hB
  have hz:=hE.z.sm (by omega)
  have c3:=ok_padde e l _ hE hB.S hld (by omega) (by omega)
  by_cases h0:wrongs l=0
  ·
   have hwd:=wrongs_mem h0
   have hadd:addE e l=(addAll e l,0):=by unfold addE;rw[if_pos h0]
   have hE2:=hE.addE hld (show(addE e l).2=0 by rw[hadd])
   have hB2:=hB.addAll hwd
   rw[hadd]at c3 hE2
   dsimp only at c3 hE2
   obtain⟨a1,a2⟩:=addAll_deeds (l:=l) (e:=e)
   have hpa:=fun(A:Nat) (d:Deed) (hd:e.deeds[A]? = some d)=>plan_ahead hB hwd hd
   have hz2:=hE2.z.sm (by omega)
   generalize addAll e l=x at *
   have hxl:x.deeds.length=e.deeds.length+l.length:=by rw[a1];simp
   have hdl:=hz.d
   have hbl1:=hz.b
   have hbl2:=hz2.b
   have hcl:=hz.c
   try refine wk ?_
   refine CW.loopT (fun i:Nat=>[sp 9 0,ob 0 e.enc,sp 10 1,ob 1 x.enc,sd 56 (dint e.deeds.length),sd 57 (dint i),nxt 2])
    (fun i=>i≤e.deeds.length) (fun i=>e.deeds.length - i) 0 (by omega) ?_ ?_
   ·
    exact by_less
   ·
    intro i hi
    rcases drop_case hi with ⟨h1,h2⟩|⟨d,h1,h2,h3⟩
    ·
     try refine wk ?_
     exact .one (.tmp rfl (.one (.d (.refl _))))
    ·
     have hdm:=List.mem_of_getElem? h2
     have hnd:=(wrong_keys (hB.W.d d hdm)).1
     have hx2:x.deeds[i]? = some d:=by rw[a1,List.getElem?_append_left h3];exact h2
     obtain⟨p1,p2⟩:=hpa i d h2
     have k1:=ok_pneeds e i d hz h2 hnd hB.S.k hB.W.nb
     have k2:=ok_pneeds x i d hz2 hx2 hnd hB2.S.k hB2.W.nb
     rw[p1]at k2
     have hnl:(needs e i d).length≤268435456:=by
      have:=needs_len e.chains e.base (e.base+i) (keysD d) (List.range i) 0
      unfold needs
      simp at this
      omega
     have k3:=ok_SameInts (needs e i d) (needs e i d) (by omega)
     rw[allB_refl (by simp)]at k3
     have k4:=ok_rowsAt e.chains (e.base+i) (by omega) (fun c hc=>by have:=hz.v c hc;omega)
     have k5:=ok_rowsAt x.chains (x.base+i) (by have:=hz2.c;omega) (fun c hc=>by have:=hz2.v c hc;omega)
     rw[p2]at k5
     have hul:=rowsAt_len e.chains (e.base+i)
     have k6:=ok_SameRows (rowsAt e.chains (e.base+i)).1 (rowsAt e.chains (e.base+i)).1 (by omega)
     rw[allB_refl (by simp)]at k6
     generalize rowsAt e.chains (e.base+i)=ra at *
     repeat(first|refine wa ?_|((with_reducible apply s5);(first|(focus ((with_reducible apply(a_call k1));exact rfl;(repeat(first|exact SubsE.nil|(apply SubsE.cons;exact rfl;(first|exact .d (.refl _)|exact .d (.nil _)|exact .agg rfl (.refl _)|exact .pd|exact .ptr rfl);(first|exact trivial|exact⟨rfl,trivial⟩))));done))|(focus ((with_reducible apply(a_call k2));exact rfl;(repeat(first|exact SubsE.nil|(apply SubsE.cons;exact rfl;(first|exact .d (.refl _)|exact .d (.nil _)|exact .agg rfl (.refl _)|exact .pd|exact .ptr rfl);(first|exact trivial|exact⟨rfl,trivial⟩))));done))|(focus ((with_reducible apply(a_call k4));exact rfl;(repeat(first|exact SubsE.nil|(apply SubsE.cons;exact rfl;(first|exact .d (.refl _)|exact .d (.nil _)|exact .agg rfl (.refl _)|exact .pd|exact .ptr rfl);(first|exact trivial|exact⟨rfl,trivial⟩))));done))|(focus ((with_reducible apply(a_call k5));exact rfl;(repeat(first|exact SubsE.nil|(apply SubsE.cons;exact rfl;(first|exact .d (.refl _)|exact .d (.nil _)|exact .agg rfl (.refl _)|exact .pd|exact .ptr rfl);(first|exact trivial|exact⟨rfl,trivial⟩))));done))|((with_reducible apply a_bin);(iterate 2 exact rfl);(first|exact bin_bneq (by kernel_rfl)|exact bin_beql (by kernel_rfl));exact rfl)|exact by_oa|exact by_ca);exact by_g)|refine wb ?_)
     refine q_loopT (i+1) (by omega) (by omega) ?_
     exact by_less
  ·
   have hadd:addE e l=(noE,wrongs l):=by unfold addE;rw[if_neg h0]
   rw[hadd]at c3
   dsimp only at c3
   generalize wrongs l=wl at *
   try refine wk ?_
   exact .one (.tmp rfl (.one (.d (dle_bool (by simp[noE])))))
 ·
  try refine wk ?_
  exact .one (.tmp rfl (.one (.d (.refl _))))
theorem ok_PlanBack (r:List Pair) (bs:List (List Deed)) (p:List Int) (hrl:r.length≤1048576) (hrk:∀ q∈r,q.key.length≤1073741824) (hb:∀ b∈bs,b.length≤1048576∧∀ d∈b,d.Sm) (hbl:bs.length≤1048576) (hsum:sumLen bs≤1048576) (hp:p.length≤1048576) :
  FnOk Tryz.prog 7 [.d (encRows r),.d (encBatches bs),.d (encInts p)] (.one (dbool true)):=by
 refine fnOk_of tbl_ok mixed_ok Tryz.func7 rfl (by kernel_rfl) rfl rfl fun w0 own0=>?_
 have c0:=ok_alive6
 have c1:=ok_wrongRows r (by omega) hrk
 by_cases hw:wrongRows r=0
 ·
  obtain⟨hsrt,_,hok⟩:=wrongRows_srt hw
  have c2:=ok_rBuild r bs p hok (by omega) (fun b h=>⟨by have:=(hb b h).1;omega,(hb b h).2⟩) (by omega) (by omega) (by omega)
  have hE:EInv (buildE r bs p) (r.length+1+5*sumLen bs):=EInv.buildGo (p:=p) (newE_inv hok) (fun b h=>(hb b h).2)
  obtain⟨r',hB⟩:=build_b hw bs p
  generalize buildE r bs p=e at c2 hE hB
  have hz:=hE.z.sm (by omega)
  have hdl:=hz.d
  have hsl:=hE.z.s
  try refine wk ?_
  refine CW.loopT (fun t:Nat×Bool×Bool=>[sp 7 0,ob 0 e.enc,sd 8 (dbool t.2.1),sd 9 (dbool t.2.2),sd 25 (dint e.deeds.length),sd 26 (dint t.1),nxt 1])
   (fun t=>t.1≤e.deeds.length∧(t.2.1=true→∃ A:Nat,e.state[A]? = some 0)∧∀ B:Nat,B < t.1→e.state[B]? = some 0→needsAt e B=[]→t.2.2=true) (fun t=>e.deeds.length - t.1) (0,false,false) ⟨by dsimp only;omega,by simp,by simp⟩ ?_ ?_
  ·
   exact by_less
  ·
   rintro ⟨i,ws,fr⟩ ⟨hi,hw1,hf1⟩
   dsimp only at hi hw1 hf1 ⊢
   rcases drop_case hi with ⟨h1,h2⟩|⟨d,h1,h2,h3⟩
   ·
    cases ws with
    |true =>
     obtain⟨A,hA⟩:=hw1 rfl
     obtain⟨B,hB1,hB2⟩:=free_one hB.W hA
     obtain rfl:=hf1 B (by have:=(List.getElem?_eq_some_iff.1 hB1).1;omega) hB1 hB2
     try refine wk ?_
     exact .one (.tmp rfl (.one (.d (.refl _))))
    |false =>
     cases fr with
     |true =>
      try refine wk ?_
      exact .one (.tmp rfl (.one (.d (.refl _))))
     |false =>
      try refine wk ?_
      exact .one (.tmp rfl (.one (.d (.refl _))))
   ·
    have hdm:=List.mem_of_getElem? h2
    have hnd:=(wrong_keys (hB.W.d d hdm)).1
    have k1:=ok_pneeds e i d hz h2 hnd hB.S.k hB.W.nb
    have hnb:=fun x (hx:x∈needs e i d)=>needs_back hB.W hx
    have hna:needsAt e i=needs e i d:=by unfold needsAt;rw[h2]
    have hnl:(needs e i d).length≤268435456:=by
     have:=needs_len e.chains e.base (e.base+i) (keysD d) (List.range i) 0
     unfold needs
     simp at this
     omega
    generalize needs e i d=N at *
    try refine wk ?_
    refine CW.loopT (fun j:Nat=>[sp 7 0,ob 0 e.enc,sd 8 (dbool ws),sd 9 (dbool fr),sd 10 (dint i),sd 11 (encInts N),sd 25 (dint e.deeds.length),sd 26 (dint i),sd 32 (encInts N),sd 33 (dint N.length),sd 34 (dint j),nxt 1])
     (fun j=>j≤N.length) (fun j=>N.length - j) 0 (by omega) ?_ ?_
    ·
     exact by_less
    ·
     intro j hj
     rcases drop_case hj with ⟨g1,g2⟩|⟨x,g1,g2,g3⟩
     ·
      obtain⟨s,hs⟩:∃ s,e.state[i]? = some s:=⟨_,List.getElem?_eq_getElem (show i < _ by omega)⟩
      have hlt:∀ B:Nat,B < i+1→B≠i→B < i:=fun B h1 h2=>by omega
      by_cases hs0:s=0
      ·
       subst hs0
       by_cases hN0:N=[]
       ·
        subst hN0
        cases fr with
        |true =>
         try refine wk ?_
         refine q_loopT (i+1,true,true) ⟨by dsimp only;omega,fun _=>⟨i,hs⟩,fun _ _ _ _=>rfl⟩ (by dsimp only;omega) ?_
         exact by_less
        |false =>
         try refine wk ?_
         refine q_loopT (i+1,true,true) ⟨by dsimp only;omega,fun _=>⟨i,hs⟩,fun _ _ _ _=>rfl⟩ (by dsimp only;omega) ?_
         exact by_less
       ·
        have hNl:¬ N.length=0:=fun h=>hN0 (List.eq_nil_of_length_eq_zero h)
        cases fr with
        |true =>
         try refine wk ?_
         refine q_loopT (i+1,true,true) ⟨by dsimp only;omega,fun _=>⟨i,hs⟩,fun _ _ _ _=>rfl⟩ (by dsimp only;omega) ?_
         exact by_less
        |false =>
         try refine wk ?_
         refine q_loopT (i+1,true,false) ⟨by dsimp only;omega,fun _=>⟨i,hs⟩,fun B hB1 hB2 hB3=>?_⟩ (by dsimp only;omega) ?_
         ·
          by_cases hBi:B=i
          ·
           subst hBi;rw[hna]at hB3;exact absurd hB3 hN0
          ·
           exact hf1 B (hlt B hB1 hBi) hB2 hB3
         exact by_less
      ·
       try refine wk ?_
       refine q_loopT (i+1,ws,fr) ⟨by dsimp only;omega,hw1,fun B hB1 hB2 hB3=>?_⟩ (by dsimp only;omega) ?_
       ·
        by_cases hBi:B=i
        ·
         subst hBi;rw[hs]at hB2;simp at hB2;exact absurd hB2 hs0
        ·
         exact hf1 B (hlt B hB1 hBi) hB2 hB3
       exact by_less
     ·
      obtain⟨k,rfl,hk1,hk2⟩:=hnb x (List.mem_of_getElem? g2)
      try refine wk ?_
      refine q_loopT (j+1) (by omega) (by omega) ?_
      exact by_less
 ·
  try refine wk ?_
  exact .one (.tmp rfl (.one (.d (.refl _))))
end Go.Proofs.YtfpkamiobdkcpaaGreatDoor
namespace Go.AX
open Go.RowKit
theorem laid_drop {P:Program}{w:World}:∀ {laid:List (String×DataW Unit)}(i:Nat),laidMet P laid w→laidMet P (laid.drop i) w
 |_,0,h=>h
 | [],_+1,h=>h
 |(n,d)::r,i+1,h=>by
  obtain⟨ps,hv,hnd,hrows⟩:=h
  obtain⟨g,t,cs,fuel,p,q,_,_,_,_,hq,rfl⟩:=hv
  exact laid_drop i ⟨q,hq,List.Nodup.sublist (List.sublist_append_right _ _) hnd,fun b off hm=>hrows b off (List.mem_append_right _ hm)⟩
theorem trod_iface {P:Program}{w:World}{ti:TypeId}{ms:Array (String×TypeId)}{sp:Nat→Bool}{fuel:Nat}{cs:List Value}{nm:String}{d:DataW Unit}{p:List MemPlace}(hi:P.underlying ti=some (.interface ms))
  (h:DataW.trod (fun _=>()) P w 0 sp false fuel ti cs=some (.iface nm d,p)):∃ u v,cs=[.iface u v]:=by
 cases fuel with
 |zero=>simp[DataW.trod]at h
 |succ n =>
  rcases cs with _|⟨c,_|⟨c2,r⟩⟩
  ·
   simp[DataW.trod,hi]at h
  ·
   cases c <;> simp[DataW.trod,hi]at h ⊢
  ·
   cases c <;> simp[DataW.trod,hi]at h
theorem gl_iface {P:Program}{w:World}{laid rest:List (String×DataW Unit)}{n nm:String}{d:DataW Unit}{g:Nat}{ti:TypeId}{ms:Array (String×TypeId)}(i:Nat) (hi:laid.drop i=(n,.iface nm d)::rest)
  (hg:P.globalNamed n=some g) (ht:(P.globals[g]?).map (·.type)=some ti) (hu:P.underlying ti=some (.interface ms)) (h:laidMet P laid w):GlAt P w n fun cs=>∃ tp p,cs = #[.iface tp p]:=by
 intro g' hg'
 have h1:=laid_drop i h
 rw[hi]at h1
 obtain⟨ps,⟨g0,t0,cs0,f0,p0,q0,hg0,ht0,hv0,hd0,_,_⟩,_⟩:=h1
 obtain rfl:=Option.some.inj (hg.symm.trans hg0)
 obtain rfl:=Option.some.inj (ht.symm.trans ht0)
 obtain⟨u,v,hc⟩:=trod_iface hu hd0
 refine⟨cs0,hv0,u,v,?_⟩
 rw[← Array.toArray_toList (xs:=cs0),hc]
theorem gl_tab {P:Program}{w:World}{laid rest:List (String×DataW Unit)}{n:String}{k:IntKind}{zs:List Int}{g:Nat}{t e:TypeId}{m:Nat}(i:Nat) (hi:laid.drop i=(n,Lib.tabData k zs)::rest)
  (hg:P.globalNamed n=some g) (hty:(P.globals[g]?).map (·.type)=some t) (ht:P.underlying t=some (.array m e)) (he:P.underlying e=some (.int k)) (hce:P.cellsOf e=1) (hct:P.cellsOf t=m) (h:laidMet P laid w) :
  GlAt P w n fun cs=>cs=(zs.map fun z=>Value.int k z).toArray:=by
 intro g' hg'
 have h1:=laid_drop i h
 rw[hi]at h1
 exact⟨_,Lib.tabIs_of_head hg hty ht he hce hct h1,rfl⟩
theorem gl_int {P:Program}{w:World}{n:String}{g:Nat}{m:Int}(hg:P.globalNamed n=some g) (h:w.cell? ⟨g,0,none⟩=some (.int .i64 m)):GlAt P w n fun cs=>∃ m,cs[0]? = some (.int .i64 m):=by
 intro g' hg'
 have hx:∃ cs,w.var? P n=some cs∧cs[0]? = some (.int .i64 m):=by
  unfold World.var?
  rw[hg]
  simp only[Option.bind_some]
  unfold World.cell? at h
  simp only at h
  split at h
  ·
   next cs _ _ hh=>rw[hh];exact⟨cs,rfl,h⟩
  ·
   cases h
 obtain⟨cs,h1,h2⟩:=hx
 exact⟨cs,h1,m,h2⟩
end Go.AX
namespace Go.RF
open Go.AX
structure Entry where
 number:Int
 deeds:List Deed
 deriving DecidableEq
structure Replica where
 engine:Engine
 next:Int
 early:List Entry
 deriving DecidableEq
def Entry.enc (e:Entry):List D:=[dint e.number,encDeeds e.deeds]
def encEntries (l:List Entry):D := .sl 2 (l.map Entry.enc)
def Replica.enc (r:Replica):List D:=[encChains r.engine.chains,encDeeds r.engine.deeds,encInts r.engine.state,encEnds r.engine.ends,dint r.engine.base,dint r.next,encEntries r.early]
def wrongEntry (e:Entry):Int:=if e.number < 0∨11 < e.number then 3 else if 6 < e.deeds.length then 5 else wrongs e.deeds
def sameEnt (a b:Entry):Bool:=decide (a.number=b.number)&&allB (fun x y=>decide (x=y)) a.deeds b.deeds
def sameR (a b:Replica):Bool:=sameE a.engine b.engine&&(decide (a.next=b.next)&&allB sameEnt a.early b.early)
def hasN (n:Int):List Entry→Bool
 | []=>false
 |x::r=>if x.number=n then true else hasN n r
def firstN (n:Int):Nat→List Entry→Int
 |_,[] => -1
 |i,x::r=>if x.number=n then (i:Int) else firstN n (i+1) r
def lastN (n:Int):Int→Nat→List Entry→Int
 |k,_,[]=>k
 |k,i,x::r=>lastN n (if x.number=n then (i:Int) else k) (i+1) r
def drainR:Nat→Replica→Replica
 |0,r=>r
 |f+1,r=>if firstN r.next 0 r.early < 0 then r else match r.early[(firstN r.next 0 r.early).toNat]? with
  |some x=>drainR f ⟨(addE r.engine x.deeds).1,r.next+1,r.early.eraseIdx (firstN r.next 0 r.early).toNat⟩
  |none=>r
def comeE (r:Replica) (e:Entry):Replica×Int :=
 if e.number < r.next∨hasN e.number r.early=true then (r,11)
 else if r.next < e.number then (if 4≤r.early.length then (r,5) else (⟨r.engine,r.next,r.early++[e]⟩,12))
 else (drainR r.early.length ⟨(addE r.engine e.deeds).1,r.next+1,r.early⟩,0)
def noR:Replica:=⟨noE,0,[]⟩
def clearR (r:Replica):Replica:=⟨clearE r.engine,r.next,r.early⟩
theorem hasN_false {n:Int}:∀ {l:List Entry},hasN n l=false↔∀ x∈l,x.number≠n
 | []=>by simp[hasN]
 |x::l=>by
  simp only[hasN]
  by_cases h:x.number=n
  ·
   rw[if_pos h]
   constructor
   ·
    intro h1;cases h1
   ·
    intro h1;exact absurd h (h1 x (List.mem_cons_self ..))
  ·
   rw[if_neg h,hasN_false]
   constructor
   ·
    intro h1 y hy
    rcases List.mem_cons.1 hy with rfl|hy
    ·
     exact h
    ·
     exact h1 y hy
   ·
    intro h1 y hy;exact h1 y (List.mem_cons_of_mem _ hy)
theorem hasN_true {n:Int}{l:List Entry}:hasN n l=true↔∃ x∈l,x.number=n:=by
 cases h:hasN n l with
 |false =>
  have:=hasN_false.1 h
  constructor
  ·
   intro h;cases h
  ·
   rintro ⟨x,hx,he⟩;exact absurd he (this x hx)
 |true =>
  refine⟨fun _=>?_,fun _=>rfl⟩
  refine Classical.byContradiction fun hn=>?_
  have:hasN n l=false:=hasN_false.2 fun x hx he=>hn ⟨x,hx,he⟩
  rw[h]at this;cases this
theorem firstN_cases {n:Int}:∀ {l:List Entry}{i:Nat},(firstN n i l = -1∧∀ x∈l,x.number≠n)∨∃ (k:Nat) (x:Entry),firstN n i l=((i+k:Nat):Int)∧l[k]? = some x∧x.number=n
 | [],i => .inl ⟨rfl,by simp⟩
 |x::l,i=>by
  simp only[firstN]
  by_cases h:x.number=n
  ·
   rw[if_pos h];exact .inr ⟨0,x,rfl,rfl,h⟩
  ·
   rw[if_neg h]
   rcases firstN_cases (n:=n) (l:=l) (i:=i+1) with ⟨h1,h2⟩|⟨k,y,h1,h2,h3⟩
   ·
    refine .inl ⟨h1,fun y hy=>?_⟩
    rcases List.mem_cons.1 hy with rfl|hy
    ·
     exact h
    ·
     exact h2 y hy
   ·
    exact .inr ⟨k+1,y,by rw[h1];omega,by simpa using h2,h3⟩
theorem firstN_app {n:Int}{e:Entry}(he:e.number=n):∀ {l:List Entry}{i:Nat},(∀ x∈l,x.number≠n)→firstN n i (l++[e])=((i+l.length:Nat):Int)
 | [],i,_=>by simp[firstN,he]
 |x::l,i,h=>by
  simp only[List.cons_append,firstN]
  rw[if_neg (h x (List.mem_cons_self ..)),firstN_app he fun y hy=>h y (List.mem_cons_of_mem _ hy),List.length_cons]
  congr 1;omega
theorem lastN_none {n:Int}:∀ {l:List Entry}{i:Nat}{k:Int},(∀ x∈l,x.number≠n)→lastN n k i l=k
 | [],_,_,_=>rfl
 |x::l,i,k,h=>by
  simp only[lastN]
  rw[if_neg (h x (List.mem_cons_self ..)),lastN_none fun y hy=>h y (List.mem_cons_of_mem _ hy)]
theorem lastN_first {n:Int}:∀ {l:List Entry}{i:Nat},(l.map Entry.number).Nodup→lastN n (-1) i l=firstN n i l
 | [],_,_=>rfl
 |x::l,i,h=>by
  rw[List.map_cons,List.nodup_cons]at h
  simp only[lastN,firstN]
  by_cases hx:x.number=n
  ·
   rw[if_pos hx,if_pos hx,lastN_none]
   intro y hy he
   exact h.1 (List.mem_map.2 ⟨y,hy,by rw[he,hx]⟩)
  ·
   rw[if_neg hx,if_neg hx,lastN_first h.2]
theorem drainR_none {f:Nat}{r:Replica}(h:firstN r.next 0 r.early < 0):drainR f r=r:=by
 cases f with
 |zero=>rfl
 |succ f=>simp only[drainR];rw[if_pos h]
theorem drainR_some {f:Nat}{r:Replica}{k:Nat}{x:Entry}(h:firstN r.next 0 r.early=(k:Int)) (hx:r.early[k]? = some x) :
  drainR (f+1) r=drainR f ⟨(addE r.engine x.deeds).1,r.next+1,r.early.eraseIdx k⟩:=by
 simp only[drainR]
 rw[if_neg (by omega),h,Int.toNat_natCast,hx]
end Go.RF
namespace Go.Proofs.YtfpkamiobdkcpaaGreatDoor
open Go.AX Go.RF
abbrev shEntry:List Sh:=[i64s,.sl shDeed]
structure Entry.In (e:Entry) (m:Nat):Prop where
 l:e.deeds.length≤m
 d:∀ x∈e.deeds,Deed.In x m
theorem Entry.In.mono {e:Entry}{m n:Nat}(h:Entry.In e m) (hm:m≤n):Entry.In e n:=⟨by have:=h.l;omega,fun x hx=>(h.d x hx).mono hm⟩
theorem Entry.In.sm {e:Entry}{m:Nat}(h:Entry.In e m) (hm:m≤1048576):e.deeds.length≤10000000∧∀ d∈e.deeds,d.Sm:=⟨by have:=h.l;omega,fun d hd=>(h.d d hd).sm hm⟩
theorem dec_entry (r:List D) (m:Nat) (h:FitsL shEntry m r):∃ e:Entry,r=e.enc∧Entry.In e m:=by
 obtain⟨d,e,rfl,h1,h2⟩:=dec_two h
 obtain⟨n,rfl,hn⟩:=dec_int h1
 obtain⟨l,rfl,hl,hd⟩:=dec_deeds h2
 exact⟨⟨n,l⟩,rfl,hl,hd⟩
theorem dec_entries {m:Nat}{d:D}(h:Fits (.sl shEntry) m d):∃ l:List Entry,d=encEntries l∧l.length≤m∧∀ e∈l,Entry.In e m:=by
 obtain⟨rows,rfl,hr⟩:=dec_sl h
 obtain⟨l,rfl,hl,hn⟩:=fitsR_all dec_entry hr
 exact⟨l,rfl,hn,fun p hp=>let ⟨_,h1,h2⟩:=hl p hp;h2.mono h1⟩
set_option maxRecDepth 100000
set_option maxHeartbeats 4000000
theorem ok_rwrongEntry (e:Entry) (hd:∀ d∈e.deeds,d.Sm) (hl:e.deeds.length≤1000000000):FnOk Tryz.prog 28 [.d (.agg e.enc)] (.one (dint (wrongEntry e))):=by
 refine fnOk_of tbl_ok mixed_ok Tryz.func28 rfl (by kernel_rfl) rfl rfl fun w0 own0=>?_
 unfold wrongEntry
 by_cases h0:e.number < 0
 ·
  rw[if_pos (.inl h0)]
  try refine wk ?_
  exact .one (.tmp rfl (.one (.d (.refl _))))
 by_cases h1:11 < e.number
 ·
  rw[if_pos (.inr h1)]
  try refine wk ?_
  exact .one (.tmp rfl (.one (.d (.refl _))))
 rw[if_neg (by omega)]
 by_cases h2:6 < e.deeds.length
 ·
  rw[if_pos h2]
  try refine wk ?_
  exact .one (.tmp rfl (.one (.d (.refl _))))
 rw[if_neg h2]
 try refine wk ?_
 refine CW.loopT (fun t:Nat=>[sp 1 0,ob 0 e.enc,sd 19 (encDeeds e.deeds),sd 20 (dint e.deeds.length),sd 21 (dint t),nxt 1])
  (fun t=>t≤e.deeds.length∧wrongs (e.deeds.drop t)=wrongs e.deeds) (fun t=>e.deeds.length - t) 0 ⟨by omega,rfl⟩ ?_ ?_
 ·
  exact by_less
 ·
  rintro i ⟨hi,hI⟩
  rcases drop_case hi with ⟨h3,h4⟩|⟨d,h3,h4,h5⟩
  ·
   rw[h3,wrongs]at hI
   try refine wk ?_
   exact .one (.tmp rfl (.one (.d (dle_int hI))))
  ·
   rw[h3]at hI
   simp only[wrongs]at hI
   have hds:=hd d (List.mem_of_getElem? h4)
   have hc:=ok_wrongDeed d hds.r hds.w hds.c hds.rk hds.wk
   by_cases h6:wrongDeed d=0
   ·
    rw[if_pos h6]at hI
    try refine wk ?_
    refine q_loopT (i+1) ⟨by omega,hI⟩ (by omega) ?_
    exact by_less
   ·
    rw[if_neg h6]at hI
    try refine wk ?_
    exact .one (.tmp rfl (.one (.d (dle_int hI))))
theorem ok_sameEnts (l r:List Entry) (hl:l.length≤268435456) (hd:∀ e∈l,e.deeds.length≤268435456∧∀ d∈e.deeds,d.Sm) :
  FnOk Tryz.prog 43 [.d (encEntries l),.d (encEntries r)] (.one (dbool (allB sameEnt l r))):=by
 refine fnOk_of tbl_ok mixed_ok Tryz.func43 rfl (by kernel_rfl) rfl rfl fun w0 own0=>?_
 by_cases hlen:l.length=r.length
 ·
  try refine wk ?_
  refine CW.loop (fun k=>[(.s 0,.av (.d (encEntries l))),(.s 1,.av (.d (encEntries r))),(.s 12,.av (.d (dint l.length))),(.s 13,.av (.d (dint k))),(.nx,.num 0)]) (agree sameEnt l r) ?_ fun k hk=>?_
  ·
   exact by_less
  ·
   rcases agree_case hlen hk with ⟨h1,h1',a,b,h2,h3,h4⟩|⟨h1,h2⟩|⟨h1,h2,a,b,h3,h4,h5⟩
   ·
    have hda:=hd a (List.mem_of_getElem? h2)
    have hc:=ok_sameDeeds a.deeds b.deeds hda.1 hda.2
    unfold sameEnt at h4
    simp only[Bool.and_eq_true,decide_eq_true_eq]at h4
    obtain⟨h6,h7⟩:=h4
    rw[h7]at hc
    try refine wk ?_
    refine q_loop h1 ?_
    exact by_less
   ·
    try refine wk ?_
    exact .one (.tmp rfl (.one (.d (dle_bool h2.symm))))
   ·
    have hda:=hd a (List.mem_of_getElem? h3)
    have hc:=ok_sameDeeds a.deeds b.deeds hda.1 hda.2
    unfold sameEnt at h5
    by_cases h6:a.number=b.number
    ·
     rw[decide_eq_true h6,Bool.true_and]at h5
     rw[h5]at hc
     try refine wk ?_
     exact .one (.tmp rfl (.one (.d (dle_bool h2.symm))))
    ·
     try refine wk ?_
     exact .one (.tmp rfl (.one (.d (dle_bool h2.symm))))
 ·
  try refine wk ?_
  refine .one (.tmp rfl (.one (.d (dle_bool ?_))))
  cases hb:allB sameEnt l r
  ·
   rfl
  ·
   exact absurd (allB_len hb) hlen
structure Replica.Sm (r:Replica):Prop where
 e:r.engine.Sm
 l:r.early.length≤134217728
 d:∀ e∈r.early,e.deeds.length≤134217728∧∀ d∈e.deeds,d.Sm
theorem ok_sameR (a b:Replica) (hs:Replica.Sm a):FnOk Tryz.prog 25 [.d (.agg a.enc),.d (.agg b.enc)] (.one (dbool (sameR a b))):=by
 refine fnOk_of tbl_ok mixed_ok Tryz.func25 rfl (by kernel_rfl) rfl rfl fun w0 own0=>?_
 have hl:=hs.l
 have c1:=ok_sameE a.engine b.engine hs.e
 have c2:=ok_sameEnts a.early b.early (by omega) fun e he=>⟨by have:=(hs.d e he).1;omega,(hs.d e he).2⟩
 unfold sameR
 cases h1:sameE a.engine b.engine
 ·
  rw[h1]at c1
  try refine wk ?_
  exact .one (.tmp rfl (.one (.d (.refl _))))
 ·
  rw[h1]at c1
  by_cases h2:a.next=b.next
  ·
   cases h3:allB sameEnt a.early b.early
   ·
    rw[h3]at c2
    try refine wk ?_
    exact .one (.tmp rfl (.one (.d (dle_bool (by simp)))))
   ·
    rw[h3]at c2
    try refine wk ?_
    exact .one (.tmp rfl (.one (.d (dle_bool (by simp[h2])))))
  ·
   try refine wk ?_
   exact .one (.tmp rfl (.one (.d (dle_bool (by simp[h2])))))
theorem sameEnt_refl (e:Entry):sameEnt e e=true:=by simp[sameEnt,allB_refl]
theorem sameR_refl (r:Replica):sameR r r=true:=by simp[sameR,sameE_refl,allB_refl sameEnt_refl]
end Go.Proofs.YtfpkamiobdkcpaaGreatDoor
namespace Go.RF
open Go.AX
def noDeed:Deed:=⟨[],[],[]⟩
def insE (l:List Str):Except Int Ins:=match l with
 | [] => .error 1
 |w::ws=>if kindOf w=0 then .error 1 else if ws.length=(form (kindOf w).toNat).length then (match fillI ⟨kindOf w,0,0,0,[]⟩ (form (kindOf w).toNat) ws with
  |some i => .ok i
  |none => .error 2) else .error 2
def codeE:List Str→Except Int (List Ins)
 | [] => .ok []
 |p::r=>match insE (split p [32]) with
  |.error e => .error e
  |.ok i=>match codeE r with
   |.error e => .error e
   |.ok l => .ok (i::l)
def wReads:Str:=[114,101,97,100,115]
def wWrites:Str:=[119,114,105,116,101,115]
def parseE (s:Str):Except Int Deed :=
 if 400 < s.length then .error 4 else match split s [59,32] with
  |p0::p1::ps=>if (split p0 [32]).head? = some wReads then (if (split p1 [32]).head? = some wWrites then (match codeE ps with
    |.error e => .error e
    |.ok code=>if wrongDeed ⟨(split p0 [32]).tail,(split p1 [32]).tail,code⟩=0 then .ok ⟨(split p0 [32]).tail,(split p1 [32]).tail,code⟩ else .error (wrongDeed ⟨(split p0 [32]).tail,(split p1 [32]).tail,code⟩)) else .error 2) else .error 2
  |_ => .error 8
def resE:Except Int Deed→Deed×Int
 |.ok d=>(d,0)
 |.error e=>(noDeed,e)
def parseR (s:Str):Deed×Int:=resE (parseE s)
def fieldW (i:Ins) (c:UInt8):Str:=if c=114 then 114::Lib.itoa i.a else if c=115 then 114::Lib.itoa i.b else if c=110 then Lib.itoa i.n else i.key
def insW (i:Ins):List Str:=words.getD i.kind.toNat []::(form i.kind.toNat).map (fieldW i)
def joinS (sep:Str):List Str→Str
 | []=>[]
 | [w]=>w
 |w::r=>w++(sep++joinS sep r)
def partsD (d:Deed):List Str:=joinS [32] (wReads::d.reads)::joinS [32] (wWrites::d.writes)::d.code.map fun i=>joinS [32] (insW i)
def printD (d:Deed):Str:=joinS [59,32] (partsD d)
def finE (rs ws:List Str) (acc:List Ins) (rest:List Str):Except Int Deed:=match codeE rest with
 |.error e => .error e
 |.ok cs=>if wrongDeed ⟨rs,ws,acc++cs⟩=0 then .ok ⟨rs,ws,acc++cs⟩ else .error (wrongDeed ⟨rs,ws,acc++cs⟩)
theorem parseE_fin {s p0 p1 w0 w1:Str}{ps rs ws:List Str}(hs:s.length≤400) (h:split s [59,32]=p0::p1::ps) (h0:split p0 [32]=w0::rs) (h1:split p1 [32]=w1::ws) :
  parseE s=if w0=wReads then (if w1=wWrites then finE rs ws [] ps else .error 2) else .error 2:=by
 unfold parseE finE
 rw[if_neg (by omega),h]
 simp only[h0,h1,List.head?_cons,List.tail_cons,List.nil_append,Option.some.injEq]
theorem finE_cons {rs ws:List Str}{acc:List Ins}{p:Str}{rest:List Str}:finE rs ws acc (p::rest)=match insE (split p [32]) with
  |.error e => .error e
  |.ok i=>finE rs ws (acc++[i]) rest:=by
 unfold finE
 simp only[codeE]
 cases insE (split p [32]) with
 |error e=>rfl
 |ok i =>
  cases codeE rest with
  |error e=>rfl
  |ok l=>simp only[List.append_assoc,List.singleton_append]
theorem insE_fill {w:Str}{ws:List Str}(h0:kindOf w≠0) (hl:ws.length=(form (kindOf w).toNat).length):insE (w::ws)=match fillI ⟨kindOf w,0,0,0,[]⟩ (form (kindOf w).toNat) ws with
  |some i => .ok i
  |none => .error 2:=by
 simp only[insE]
 rw[if_neg h0,if_pos hl]
end Go.RF
namespace Go.Proofs.YtfpkamiobdkcpaaGreatDoor
open Go.AX Go.RF
def tailS (sep:Str):List Str→Str
 | []=>[]
 |w::r=>sep++(w++tailS sep r)
theorem joinS_cons (sep w:Str):∀ r:List Str,joinS sep (w::r)=w++tailS sep r
 | []=>by simp[joinS,tailS]
 |x::r=>by
  have:=joinS_cons sep x r
  simp only[joinS,tailS]at this ⊢
  rw[this]
theorem printD_eq (d:Deed):printD d=(wReads++tailS [32] d.reads)++([59,32]++((wWrites++tailS [32] d.writes)++tailS [59,32] (d.code.map fun i=>joinS [32] (insW i)))):=by
 unfold printD partsD
 rw[joinS_cons,joinS_cons,joinS_cons]
 rfl
theorem insW_eq (i:Ins):joinS [32] (insW i)=words.getD i.kind.toNat []++tailS [32] ((form i.kind.toNat).map (fieldW i)):=joinS_cons _ _ _
theorem form_let {k:Nat}{c:UInt8}(h:c∈form k):c=114∨c=115∨c=110∨c=107:=by
 match k,h with
 |0,h=>simp[form,forms]at h
 |1,h=>simp[form,forms]at h;rcases h with rfl|rfl <;> simp
 |2,h=>simp[form,forms]at h;rcases h with rfl|rfl <;> simp
 |3,h=>simp[form,forms]at h;rcases h with rfl|rfl <;> simp
 |4,h=>simp[form,forms]at h;rcases h with rfl|rfl <;> simp
 |5,h=>simp[form,forms]at h;rcases h with rfl|rfl <;> simp
 |6,h=>simp[form,forms]at h;rcases h with rfl|rfl <;> simp
 |7,h=>simp[form,forms]at h;subst h;simp
 |8,h=>simp[form,forms]at h;rcases h with rfl|rfl <;> simp
 |9,h=>simp[form,forms]at h;subst h;simp
 |k+10,h=>simp[form,forms]at h
theorem wrongIns_n {d:Deed}{m:Int}{i:Ins}(h:wrongIns d m i=0) (hm:m≤1073741824) : -1073741824≤i.n∧i.n≤1073741824:=by
 unfold wrongIns at h
 split at h
 ·
  cases h
 split at h
 ·
  cases h
 next h2 =>
  simp only[insOut,Bool.or_eq_true,decide_eq_true_eq,not_or]at h2
  obtain⟨_,_,_,_,h3,h4⟩:=h2
  unfold insLow at h3
  unfold insHigh at h4
  split at h3 <;> split at h4 <;> (try split at h3) <;> (try split at h4) <;> omega
theorem wrong_n {d:Deed}(h:wrongDeed d=0):∀ i∈d.code,-1073741824≤i.n∧i.n≤1073741824:=by
 intro i hi
 have hok:=wrongDeed_ok h
 unfold wrongDeed at h
 split at h
 ·
  split at h
  ·
   cases h
  ·
   obtain⟨j,hj⟩:=List.getElem?_of_mem hi
   have:=codeGo_mem h j i hj
   exact wrongIns_n this (by have:=hok.c;omega)
 ·
  next h1=>exact absurd h h1
theorem itoa_len (n:Int) (h0 : -9223372036854775808≤n) (h1:n≤9223372036854775807):(Lib.itoa n).length≤21:=Lib.itoa_length_le n h0 h1
theorem key_len {k:Str}(h:key k=true):k.length≤6:=by
 unfold key at h
 have:∀ r:Str,keyGo k r=true→k.length≤6:=by
  intro r
  induction r with
  |nil=>intro h;simp[keyGo]at h;omega
  |cons c r ih=>intro h;simp only[keyGo]at h;split at h;· cases h
                ·
                 exact ih h
 exact this k h
def hdS (cur:Str):List Str→List Str
 | []=>[]
 |h::t=>(cur++h)::t
def libS (sep r:Str):List Str:=Lib.splitK sep 0 (Lib.count r sep) r
theorem libS_miss {sep r:Str}(h:Lib.index r sep = -1):libS sep r=[r]:=by
 unfold libS
 rw[Lib.count_miss h]
 rfl
theorem libS_hit {sep r:Str}{i:Nat}(hs:sep≠[]) (h:Lib.index r sep=i):libS sep r=r.take i::libS sep (r.drop (i+sep.length)):=by
 unfold libS
 rw[Lib.count_hit hs h,Nat.add_comm]
 simp only[Lib.splitK]
 have h1:¬ (Lib.index r sep == -1)=true:=fun e=>by have:=beq_iff_eq.1 e;omega
 rw[if_neg h1,h,Int.toNat_natCast,Nat.add_zero]
theorem index_cons (b:UInt8) (l sub:Str):Lib.index (b::l) sub=if sub.isPrefixOf (b::l) then 0 else if Lib.index l sub == -1 then -1 else Lib.index l sub+1:=rfl
theorem prefix_take {sep r:Str}(h:sep.length≤r.length):sep.isPrefixOf r=true↔r.take sep.length=sep:=by
 rw[List.isPrefixOf_iff_prefix,List.prefix_iff_eq_take]
 exact⟨fun h=>h.symm,fun h=>h.symm⟩
theorem splitF_lib {sep:Str}(hs:sep≠[]):∀ (n:Nat) (cur r:Str),r.length≤n→splitF sep n cur r=hdS cur (libS sep r)
 |0,cur,r,h=>by
  obtain rfl:=List.eq_nil_of_length_eq_zero (show r.length=0 by omega)
  have:Lib.index [] sep = -1:=by
   cases sep with
   |nil=>exact absurd rfl hs
   |cons=>rfl
  rw[libS_miss this]
  rfl
 |n+1,cur,r,h=>by
  have hsl:0 < sep.length:=List.length_pos_iff.2 hs
  by_cases h1:r.length < sep.length
  ·
   have hm:Lib.index r sep = -1:=by
    have h2:=Lib.index_ge r sep
    rcases Int.lt_or_le (Lib.index r sep) 0 with h3|h3
    ·
     omega
    ·
     have:=Lib.index_room r sep h3;omega
   rw[libS_miss hm]
   simp only[splitF]
   rw[if_pos h1]
   rfl
  ·
   match r,h,h1 with
   | [],_,h1=>exact absurd hsl (by simpa using h1)
   |c::t,h,h1 =>
    simp only[splitF]
    rw[if_neg h1]
    by_cases h2:(c::t).take sep.length=sep
    ·
     rw[if_pos h2]
     have hi:Lib.index (c::t) sep=((0:Nat):Int):=by
      rw[index_cons,if_pos ((prefix_take (by omega)).2 h2)];rfl
     rw[libS_hit hs hi,splitF_lib hs n [] _ (by simp at h ⊢;omega),Nat.zero_add]
     simp only[List.take_zero,hdS,List.append_nil]
     cases libS sep ((c::t).drop sep.length) with
     |nil=>rfl
     |cons x y=>rfl
    ·
     rw[if_neg h2]
     have hp:¬ sep.isPrefixOf (c::t)=true:=fun e=>h2 ((prefix_take (by omega)).1 e)
     have hx:=index_cons c t sep
     rw[if_neg hp]at hx
     rw[splitF_lib hs n (cur++[c]) t (by simpa using h)]
     rcases Int.lt_or_le (Lib.index t sep) 0 with h3|h3
     ·
      have h4:Lib.index t sep = -1:=by have:=Lib.index_ge t sep;omega
      rw[h4]at hx
      rw[libS_miss h4,libS_miss (by rw[hx];rfl)]
      simp[hdS]
     ·
      obtain⟨i,hi⟩:=Int.eq_ofNat_of_zero_le h3
      rw[hi]at hx
      have hne:¬ ((i:Int) == -1)=true:=fun e=>by have:=beq_iff_eq.1 e;omega
      rw[if_neg hne]at hx
      rw[libS_hit hs hi,libS_hit hs (show Lib.index (c::t) sep=((i+1:Nat):Int) by rw[hx];omega)]
      simp only[hdS,List.take_succ_cons,List.append_assoc,List.singleton_append]
      rw[show i+1+sep.length=(i+sep.length)+1 by omega,List.drop_succ_cons]
theorem split_lib {s sep:Str}(hs:sep≠[]):split s sep=Lib.split s sep:=by
 unfold split
 rw[splitF_lib hs s.length [] s (Nat.le_refl _)]
 show hdS [] (libS sep s)=libS sep s
 cases libS sep s with
 |nil=>rfl
 |cons x y=>rfl
theorem join_lib (sep:Str):∀ ws:List Str,Lib.join ws sep=joinS sep ws
 | []=>rfl
 | [w]=>by simp[Lib.join,joinS,List.intercalate]
 |w::x::r=>by
  have:=join_lib sep (x::r)
  unfold Lib.join at this ⊢
  simp only[joinS]
  rw[← this]
  simp[List.intercalate,List.intersperse]
theorem keysGo_key {l:List Str}:∀ {r:List Str}{i:Nat},keysGo l i r=0→∀ k∈r,key k=true
 | [],_,_,k,hk=>by cases hk
 |x::r,i,h,k,hk=>by
  simp only[keysGo]at h
  split at h
  ·
   cases h
  ·
   next hx =>
   split at h
   ·
    cases h
   ·
    rcases List.mem_cons.1 hk with rfl|hk
    ·
     simpa using hx
    ·
     exact keysGo_key h k hk
theorem wrong_key {d:Deed}(h:wrongDeed d=0):(∀ k∈d.reads,key k=true)∧∀ k∈d.writes,key k=true:=by
 unfold wrongDeed at h
 split at h
 ·
  next h0 =>
  simp only[lsGo]at h0
  split at h0
  ·
   next h1 =>
   split at h0
   ·
    next h2 =>
    unfold keysWrong at h1 h2
    split at h1
    ·
     cases h1
    split at h2
    ·
     cases h2
    exact⟨keysGo_key h1,keysGo_key h2⟩
   ·
    next h2=>exact absurd h0 h2
  ·
   next h1=>exact absurd h0 h1
 ·
  next h0=>exact absurd h h0
theorem nDigits_le:∀ (k u:Nat),u < 10 ^ (k+1)→Lib.nDigits u≤k+1
 |0,u,h=>by unfold Lib.nDigits;rw[dif_pos (by simpa using h)];exact Nat.le_refl _
 |k+1,u,h=>by
  unfold Lib.nDigits
  split
  ·
   omega
  ·
   have:=nDigits_le k (u / 10) (by rw[Nat.pow_succ]at h;omega)
   omega
theorem itoa_small {n:Int}(h0:0≤n) (h1:n≤3):(Lib.itoa n).length≤1:=by
 unfold Lib.itoa
 rw[if_neg (by omega),Lib.decDigits_length]
 exact nDigits_le 0 _ (by omega)
theorem itoa_mid {n:Int}(h0 : -1073741824≤n) (h1:n≤1073741824):(Lib.itoa n).length≤11:=by
 unfold Lib.itoa
 split
 ·
  rw[List.length_cons,Lib.decDigits_length]
  have:=nDigits_le 9 n.natAbs (by omega)
  omega
 ·
  rw[Lib.decDigits_length]
  have:=nDigits_le 9 n.toNat (by omega)
  omega
theorem tailS_le {sep:Str}{m:Nat}:∀ {l:List Str},(∀ w∈l,w.length≤m)→(tailS sep l).length≤l.length*(sep.length+m)
 | [],_=>by simp[tailS]
 |w::l,h=>by
  have h1:=h w (List.mem_cons_self ..)
  have h2:=tailS_le (sep:=sep) (l:=l) fun x hx=>h x (List.mem_cons_of_mem _ hx)
  simp only[tailS,List.length_append,List.length_cons]
  rw[Nat.add_mul,Nat.one_mul]
  omega
theorem wrongIns_key {d:Deed}{m:Int}{i:Ins}(h:wrongIns d m i=0):i.key=[]∨i.key∈d.reads∨i.key∈d.writes:=by
 unfold wrongIns at h
 split at h
 ·
  cases h
 split at h
 ·
  cases h
 split at h
 ·
  split at h
  ·
   next h1=>exact .inl h1
  ·
   cases h
 ·
  by_cases hx:isIn (if i.kind=1 then d.reads else d.writes) i.key=true
  ·
   have:=isIn_true hx
   split at this
   ·
    exact .inr (.inl this)
   ·
    exact .inr (.inr this)
  ·
   rw[if_neg hx]at h;cases h
theorem insW_len {d:Deed}(h:wrongDeed d=0) {i:Ins}(hi:i∈d.code):(joinS [32] (insW i)).length≤20:=by
 have hok:=(wrongDeed_ok h).i i hi
 have hn:=wrong_n h i hi
 have hkey:i.key.length≤6:=by
  have hw:∃ m,wrongIns d m i=0:=by
   unfold wrongDeed at h
   split at h
   ·
    split at h
    ·
     cases h
    ·
     obtain⟨j,hj⟩:=List.getElem?_of_mem hi
     exact⟨_,codeGo_mem h j i hj⟩
   ·
    next h1=>exact absurd h h1
  obtain⟨m,hm⟩:=hw
  obtain⟨h1,h2⟩:=wrong_key h
  rcases wrongIns_key hm with h3|h3|h3
  ·
   rw[h3];simp
  ·
   exact key_len (h1 _ h3)
  ·
   exact key_len (h2 _ h3)
 have ha:=itoa_small hok.a.1 hok.a.2
 have hb:=itoa_small hok.b.1 hok.b.2
 have hnn:=itoa_mid hn.1 hn.2
 have hk:=hok.k
 rw[insW_eq]
 obtain⟨k,a,b,n,key⟩:=i
 dsimp only at hk hkey ha hb hnn
 obtain⟨K,rfl⟩:=Int.eq_ofNat_of_zero_le (show 0≤k by omega)
 rw[Int.toNat_natCast]
 match K,hk with
 |0,hk=>omega
 |1,_=>simp[words,form,forms,tailS,fieldW];omega
 |2,_=>simp[words,form,forms,tailS,fieldW];omega
 |3,_=>simp[words,form,forms,tailS,fieldW];omega
 |4,_=>simp[words,form,forms,tailS,fieldW];omega
 |5,_=>simp[words,form,forms,tailS,fieldW];omega
 |6,_=>simp[words,form,forms,tailS,fieldW];omega
 |7,_=>simp[words,form,forms,tailS,fieldW];omega
 |8,_=>simp[words,form,forms,tailS,fieldW];omega
 |9,_=>simp[words,form,forms,tailS,fieldW];omega
 |K+10,hk=>omega
theorem printD_len {d:Deed}(h:wrongDeed d=0):(printD d).length≤400:=by
 have hok:=wrongDeed_ok h
 obtain⟨h1,h2⟩:=wrong_key h
 have hr:=tailS_le (sep:=[32]) (m:=6) fun w hw=>key_len (h1 w hw)
 have hw:=tailS_le (sep:=[32]) (m:=6) fun w hw=>key_len (h2 w hw)
 have hc:=tailS_le (sep:=[59,32]) (m:=20) (l:=d.code.map fun i=>joinS [32] (insW i)) fun w hw=>by
  obtain⟨i,hi,rfl⟩:=List.mem_map.1 hw
  exact insW_len h hi
 have l1:=hok.r
 have l2:=hok.w
 have l3:=hok.c
 rw[printD_eq]
 simp only[List.length_append,List.length_map,List.length_cons,List.length_nil]at *
 have e1:wReads.length=5:=rfl
 have e2:wWrites.length=6:=rfl
 omega
theorem splitF_join {sep:Str}:∀ (n:Nat) (cur r:Str),joinS sep (splitF sep n cur r)=cur++r
 |0,cur,r=>rfl
 |n+1,cur,r=>by
  simp only[splitF]
  split
  ·
   rfl
  ·
   next h1 =>
   split
   ·
    next h2 =>
    rw[joinS_cons]
    have ih:=splitF_join (sep:=sep) n [] (r.drop sep.length)
    have hne:=splitF_ne sep n [] (r.drop sep.length)
    cases hs:splitF sep n [] (r.drop sep.length) with
    |nil=>exact absurd hs hne
    |cons x y =>
     rw[hs,joinS_cons]at ih
     simp only[tailS]
     rw[ih,List.nil_append]
     conv=>rhs;rw[← List.take_append_drop sep.length r,h2]
   ·
    cases r with
    |nil=>simp[joinS]
    |cons c t =>
     show joinS sep (splitF sep n (cur++[c]) t)=_
     rw[splitF_join n (cur++[c]) t];simp
theorem split_join_id (s sep:Str):joinS sep (split s sep)=s:=splitF_join s.length [] s
theorem splitF_scan {c:UInt8}{st:Str}:∀ (w:Str) (n:Nat) (cur rest:Str),c∉w→splitF (c::st) (n+w.length) cur (w++rest)=splitF (c::st) n (cur++w) rest
 | [],n,cur,rest,_=>by simp
 |x::w,n,cur,rest,h=>by
  have hx:x≠c:=fun e=>h (by rw[e];exact List.mem_cons_self ..)
  have hw:c∉w:=fun e=>h (List.mem_cons_of_mem _ e)
  rw[List.length_cons,show n+(w.length+1)=(n+w.length)+1 by omega,List.cons_append]
  simp only[splitF]
  by_cases hl:(x::(w++rest)).length < (c::st).length
  ·
   rw[if_pos hl]
   have hl2:rest.length < (c::st).length:=by simp at hl ⊢;omega
   cases n with
   |zero=>simp[splitF]
   |succ n=>simp only[splitF];rw[if_pos hl2];simp
  ·
   rw[if_neg hl,if_neg (by simp[hx])]
   rw[splitF_scan w n (cur++[x]) rest hw]
   simp
theorem libS_word {c:UInt8}{st w rest:Str}(h:c∉w):libS (c::st) (w++rest)=hdS w (libS (c::st) rest):=by
 have h1:=splitF_lib (sep:=c::st) (by simp) (rest.length+w.length) [] (w++rest) (by simp;omega)
 have h2:=splitF_lib (sep:=c::st) (by simp) rest.length ([]++w) rest (Nat.le_refl _)
 rw[splitF_scan w rest.length [] rest h,h2]at h1
 have h3:∀ l:List Str,hdS [] l=l:=fun l=>by cases l <;> rfl
 rw[h3]at h1
 exact h1.symm
theorem libS_sep {c:UInt8}{st rest:Str}:libS (c::st) ((c::st)++rest)=[]::libS (c::st) rest:=by
 have hi:Lib.index ((c::st)++rest) (c::st)=((0:Nat):Int):=by
  rw[List.cons_append,index_cons,if_pos (by rw[List.isPrefixOf_iff_prefix];exact⟨rest,by simp⟩)];rfl
 rw[libS_hit (by simp) hi]
 simp
theorem libS_nil {c:UInt8}{st:Str}:libS (c::st) []=[[]]:=libS_miss rfl
theorem join_split_id {c:UInt8}{st:Str}:∀ {ws:List Str},ws≠[]→(∀ w∈ws,c∉w)→split (joinS (c::st) ws) (c::st)=ws:=by
 have key:∀ (ws:List Str) (w:Str),(∀ x∈w::ws,c∉x)→libS (c::st) (w++tailS (c::st) ws)=w::ws:=by
  intro ws
  induction ws with
  |nil =>
   intro w h
   rw[libS_word (h w (List.mem_cons_self ..))]
   show hdS w (libS (c::st) [])=_
   rw[libS_nil];simp[hdS]
  |cons x r ih =>
   intro w h
   rw[libS_word (h w (List.mem_cons_self ..))]
   simp only[tailS]
   rw[libS_sep,ih x fun y hy=>h y (List.mem_cons_of_mem _ hy)]
   simp[hdS]
 intro ws h0 h
 match ws,h0 with
 |w::r,_ =>
  rw[joinS_cons,split_lib (by simp)]
  exact key r w h
theorem parseU_append:∀ (l r:Str) (acc:Nat),Lib.parseUint10 acc (l++r)=match Lib.parseUint10 acc l with
  |.ok v=>Lib.parseUint10 v r
  |x=>x
 | [],r,acc=>rfl
 |c::l,r,acc=>by
  simp only[List.cons_append,Lib.parseUint10]
  split
  ·
   split
   ·
    rfl
   ·
    split
    ·
     rfl
    ·
     exact parseU_append l r _
  ·
   rfl
theorem digit_byte {k:Nat}(h:k < 10):(UInt8.ofNat (48+k)).toNat=48+k:=by
 simp[UInt8.toNat_ofNat];omega
theorem parseU_dec:∀ (u:Nat),u < 18446744073709551616→Lib.parseUint10 0 (Lib.decDigits u) = .ok u:=by
 intro u
 induction u using Nat.strongRecOn with
 |ind u ih =>
  intro h
  unfold Lib.decDigits
  by_cases h1:u < 10
  ·
   rw[dif_pos h1]
   simp only[Lib.parseUint10]
   rw[digit_byte h1,if_pos (by omega),if_neg (by omega),if_neg (by omega)]
   congr 1;omega
  ·
   rw[dif_neg h1,parseU_append,ih (u / 10) (by omega) (by omega)]
   simp only[Lib.parseUint10]
   rw[digit_byte (show u%10 < 10 by omega),if_pos (by omega),if_neg (by omega),if_neg (by omega)]
   congr 1;omega
theorem dec_ne (u:Nat):Lib.decDigits u≠[]:=by
 unfold Lib.decDigits
 split <;> simp
theorem dec_clean:∀ (u:Nat),∀ c∈Lib.decDigits u,48≤c.toNat∧c.toNat≤57:=by
 intro u
 induction u using Nat.strongRecOn with
 |ind u ih =>
  intro c hc
  unfold Lib.decDigits at hc
  by_cases h1:u < 10
  ·
   rw[dif_pos h1]at hc
   rw[List.mem_singleton.1 hc,digit_byte h1];omega
  ·
   rw[dif_neg h1]at hc
   rcases List.mem_append.1 hc with hc|hc
   ·
    exact ih (u / 10) (by omega) c hc
   ·
    rw[List.mem_singleton.1 hc,digit_byte (show u%10 < 10 by omega)];omega
theorem atoi_itoa {n:Int}(h0 : -1073741824≤n) (h1:n≤1073741824):Lib.atoiAll (Lib.itoa n) = .ok n:=by
 unfold Lib.itoa
 by_cases hn:n < 0
 ·
  rw[if_pos hn]
  have hp:=parseU_dec n.natAbs (by omega)
  unfold Lib.atoiAll Lib.parseMag
  simp only
  rw[if_pos (Or.inr (by decide)),if_neg (dec_ne _),hp]
  have h45:(45:UInt8).toNat=45:=rfl
  simp only[h45]
  rw[if_neg (by simp),if_neg (by omega),if_pos trivial]
  congr 1;omega
 ·
  rw[if_neg hn]
  have hp:=parseU_dec n.toNat (by omega)
  have hne:=dec_ne n.toNat
  have hcl:=dec_clean n.toNat
  cases hd:Lib.decDigits n.toNat with
  |nil=>exact absurd hd hne
  |cons c r =>
   have hc:=hcl c (by rw[hd];exact List.mem_cons_self ..)
   rw[hd]at hp
   unfold Lib.atoiAll Lib.parseMag
   simp only
   rw[if_neg (show ¬ (c.toNat=43∨c.toNat=45) by omega),if_neg (by simp),hp]
   have h45:¬ c.toNat=45:=by omega
   simp only
   rw[if_neg (by omega),if_neg (by omega),if_neg h45]
   congr 1;omega
theorem numV_itoa {n:Int}(h0 : -1073741824≤n) (h1:n≤1073741824):numV (Lib.itoa n)=some n:=by
 unfold numV
 rw[atoi_itoa h0 h1]
 simp
theorem itoa_clean {n:Int}:∀ c∈Lib.itoa n,c≠32∧c≠59:=by
 intro c hc
 have key:∀ u:Nat,c∈Lib.decDigits u→c≠32∧c≠59:=fun u h=>by
  have:=dec_clean u c h
  exact⟨fun e=>by subst e;revert this;decide,fun e=>by subst e;revert this;decide⟩
 unfold Lib.itoa at hc
 split at hc
 ·
  rcases List.mem_cons.1 hc with rfl|hc
  ·
   decide
  ·
   exact key _ hc
 ·
  exact key _ hc
def clean (w:Str):Prop:=∀ c∈w,c≠32∧c≠59
theorem key_clean {k:Str}(h:key k=true):clean k:=by
 have:∀ r:Str,keyGo k r=true→clean r:=by
  intro r
  induction r with
  |nil=>intro _ c hc;cases hc
  |cons x r ih =>
   intro h
   simp only[keyGo]at h
   split at h
   ·
    cases h
   ·
    next hx =>
    intro c hc
    rcases List.mem_cons.1 hc with rfl|hc
    ·
     simp only[bad,Bool.or_eq_true,decide_eq_true_eq,not_or]at hx
     refine⟨fun e=>?_,fun e=>?_⟩ <;> subst e <;> revert hx <;> decide
    ·
     exact ih h c hc
 exact this k h
theorem words_clean:∀ k:Nat,clean (words.getD k []):=by
 intro k
 rcases Nat.lt_or_ge k 10 with h|h
 ·
  have:∀ k:Fin 10,∀ c∈words.getD k.val [],c≠32∧c≠59:=by decide
  exact this ⟨k,h⟩
 ·
  rw[List.getD_eq_getElem?_getD,List.getElem?_eq_none (show words.length≤k from h)]
  intro c hc;cases hc
theorem reg_clean (n:Int):clean (114::Lib.itoa n):=by
 intro c hc
 rcases List.mem_cons.1 hc with rfl|hc
 ·
  decide
 ·
  exact itoa_clean c hc
theorem regV_itoa {n:Int}(h0 : -1073741824≤n) (h1:n≤1073741824):regV (114::Lib.itoa n)=some n:=numV_itoa h0 h1
theorem insE_insW {d:Deed}{m:Int}{i:Ins}(h:wrongIns d m i=0) (hm:m≤1073741824):insE (insW i) = .ok i:=by
 have hn:=wrongIns_n h hm
 obtain⟨k,a,b,n,key⟩:=i
 unfold wrongIns at h
 dsimp only at h hn
 by_cases hk:k < 1∨9 < k
 ·
  rw[if_pos hk]at h;cases h
 rw[if_neg hk]at h
 by_cases ho:insOut k.toNat a b n m=true
 ·
  rw[if_pos ho]at h;cases h
 rw[if_neg ho]at h
 obtain⟨K,rfl⟩:=Int.eq_ofNat_of_zero_le (show 0≤k by omega)
 simp only[Int.toNat_natCast]at h ho
 simp only[insOut,Bool.or_eq_true,decide_eq_true_eq,not_or]at ho
 obtain⟨o1,o2,o3,o4,o5,o6⟩:=ho
 have hb2:b≤1073741824:=by unfold insB at o4;split at o4 <;> omega
 have ha2:a≤1073741824:=by unfold insA at o2;split at o2 <;> omega
 have ra:=regV_itoa (n:=a) (by omega) ha2
 have rb:=regV_itoa (n:=b) (by omega) hb2
 have rn:=numV_itoa hn.1 hn.2
 match K,hk with
 |0,hk=>omega
 |1,_ =>
  simp only[show has 1 114=true from rfl,show has 1 115=false from rfl,insA,insB,insLow,insHigh]at o2 o4 o5 o6
  obtain⟨rfl,rfl⟩:b=0∧n=0:=by constructor <;> simp at o2 o4 o5 o6 <;> omega
  simp[insE,insW,words,form,forms,kindOf,kindGo,fieldW,fillI,ra]
 |2,_ =>
  simp only[show has 2 114=true from rfl,show has 2 115=false from rfl,show has 2 107=false from rfl,insA,insB]at o2 o4 h
  have hkey:key=[]:=Classical.byContradiction fun e=>by simp[e]at h
  obtain rfl:b=0:=by simp at o4;omega
  subst hkey
  simp[insE,insW,words,form,forms,kindOf,kindGo,fieldW,fillI,ra,rn]
 |3,_ =>
  simp only[show has 3 107=false from rfl,insLow,insHigh]at o5 o6 h
  have hkey:key=[]:=Classical.byContradiction fun e=>by simp[e]at h
  obtain rfl:n=0:=by simp at o5 o6;omega
  subst hkey
  simp[insE,insW,words,form,forms,kindOf,kindGo,fieldW,fillI,ra,rb]
 |4,_ =>
  simp only[show has 4 107=false from rfl,insLow,insHigh]at o5 o6 h
  have hkey:key=[]:=Classical.byContradiction fun e=>by simp[e]at h
  obtain rfl:n=0:=by simp at o5 o6;omega
  subst hkey
  simp[insE,insW,words,form,forms,kindOf,kindGo,fieldW,fillI,ra,rb]
 |5,_ =>
  simp only[show has 5 107=false from rfl,insLow,insHigh]at o5 o6 h
  have hkey:key=[]:=Classical.byContradiction fun e=>by simp[e]at h
  obtain rfl:n=0:=by simp at o5 o6;omega
  subst hkey
  simp[insE,insW,words,form,forms,kindOf,kindGo,fieldW,fillI,ra,rb]
 |6,_ =>
  simp only[show has 6 114=true from rfl,show has 6 115=false from rfl,insA,insB,insLow,insHigh]at o2 o4 o5 o6
  obtain⟨rfl,rfl⟩:b=0∧n=0:=by constructor <;> simp at o2 o4 o5 o6 <;> omega
  simp[insE,insW,words,form,forms,kindOf,kindGo,fieldW,fillI,ra]
 |7,_ =>
  simp only[show has 7 114=false from rfl,show has 7 115=false from rfl,insA,insB,insLow,insHigh]at o2 o4 o5 o6
  obtain⟨rfl,rfl,rfl⟩:a=0∧b=0∧n=0:=by refine⟨?_,?_,?_⟩ <;> simp at o2 o4 o5 o6 <;> omega
  simp[insE,insW,words,form,forms,kindOf,kindGo,fieldW,fillI]
 |8,_ =>
  simp only[show has 8 114=true from rfl,show has 8 115=false from rfl,show has 8 107=false from rfl,insA,insB]at o2 o4 h
  have hkey:key=[]:=Classical.byContradiction fun e=>by simp[e]at h
  obtain rfl:b=0:=by simp at o4;omega
  subst hkey
  simp[insE,insW,words,form,forms,kindOf,kindGo,fieldW,fillI,ra,rn]
 |9,_ =>
  simp only[show has 9 114=true from rfl,show has 9 115=false from rfl,show has 9 107=false from rfl,insA,insB,insLow,insHigh]at o2 o4 o5 o6 h
  have hkey:key=[]:=Classical.byContradiction fun e=>by simp[e]at h
  obtain⟨rfl,rfl⟩:b=0∧n=0:=by constructor <;> simp at o2 o4 o5 o6 <;> omega
  subst hkey
  simp[insE,insW,words,form,forms,kindOf,kindGo,fieldW,fillI,ra]
 |K+10,hk=>omega
theorem field_clean {i:Ins}{c:UInt8}(hk:clean i.key):clean (fieldW i c):=by
 unfold fieldW
 split
 ·
  exact reg_clean _
 split
 ·
  exact reg_clean _
 split
 ·
  exact fun c hc=>itoa_clean c hc
 ·
  exact hk
theorem join_no59 {ws:List Str}(h:∀ w∈ws,clean w):(59:UInt8)∉joinS [32] ws:=by
 cases ws with
 |nil=>simp[joinS]
 |cons w r =>
  rw[joinS_cons]
  have ht:∀ r:List Str,(∀ w∈r,clean w)→(59:UInt8)∉tailS [32] r:=by
   intro r
   induction r with
   |nil=>intro _;simp[tailS]
   |cons x r ih =>
    intro h hm
    simp only[tailS,List.mem_append]at hm
    rcases hm with hm|hm|hm
    ·
     simp at hm
    ·
     exact(h x (List.mem_cons_self ..) _ hm).2 rfl
    ·
     exact ih (fun y hy=>h y (List.mem_cons_of_mem _ hy)) hm
  intro hm
  rcases List.mem_append.1 hm with hm|hm
  ·
   exact(h w (List.mem_cons_self ..) _ hm).2 rfl
  ·
   exact ht r (fun y hy=>h y (List.mem_cons_of_mem _ hy)) hm
theorem split_words {ws:List Str}(h0:ws≠[]) (h:∀ w∈ws,clean w):split (joinS [32] ws) [32]=ws :=
 join_split_id h0 fun w hw hm=>(h w hw _ hm).1 rfl
theorem ins_wrong {d:Deed}(h:wrongDeed d=0) {i:Ins}(hi:i∈d.code):∃ m,m≤1073741824∧wrongIns d m i=0:=by
 have hok:=(wrongDeed_ok h).c
 unfold wrongDeed at h
 split at h
 ·
  split at h
  ·
   cases h
  ·
   obtain⟨j,hj⟩:=List.getElem?_of_mem hi
   exact⟨_,by omega,codeGo_mem h j i hj⟩
 ·
  next h1=>exact absurd h h1
theorem insW_clean {d:Deed}(h:wrongDeed d=0) {i:Ins}(hi:i∈d.code):∀ w∈insW i,clean w:=by
 obtain⟨m,_,hm⟩:=ins_wrong h hi
 obtain⟨h1,h2⟩:=wrong_key h
 have hk:clean i.key:=by
  rcases wrongIns_key hm with h3|h3|h3
  ·
   rw[h3];intro c hc;cases hc
  ·
   exact key_clean (h1 _ h3)
  ·
   exact key_clean (h2 _ h3)
 intro w hw
 unfold insW at hw
 rcases List.mem_cons.1 hw with rfl|hw
 ·
  exact words_clean _
 ·
  obtain⟨c,_,rfl⟩:=List.mem_map.1 hw
  exact field_clean hk
theorem codeE_of {l:List Ins}(h:∀ i∈l,insE (insW i) = .ok i∧∀ w∈insW i,clean w):codeE (l.map fun i=>joinS [32] (insW i)) = .ok l:=by
 induction l with
 |nil=>rfl
 |cons i l ih =>
  obtain⟨h1,h2⟩:=h i (List.mem_cons_self ..)
  simp only[List.map_cons,codeE]
  rw[split_words (by simp[insW]) h2,h1,ih fun x hx=>h x (List.mem_cons_of_mem _ hx)]
theorem parse_print {d:Deed}(h:wrongDeed d=0):parseE (printD d) = .ok d:=by
 obtain⟨h1,h2⟩:=wrong_key h
 have hl:=printD_len h
 have c0:clean wReads:=by intro c hc;revert c;decide
 have c1:clean wWrites:=by intro c hc;revert c;decide
 have hr:∀ w∈wReads::d.reads,clean w:=fun w hw=>by
  rcases List.mem_cons.1 hw with rfl|hw
  ·
   exact c0
  ·
   exact key_clean (h1 w hw)
 have hw:∀ w∈wWrites::d.writes,clean w:=fun w hw=>by
  rcases List.mem_cons.1 hw with rfl|hw
  ·
   exact c1
  ·
   exact key_clean (h2 w hw)
 have hs:split (printD d) [59,32]=partsD d:=join_split_id (by simp[partsD]) fun w hm=>by
  unfold partsD at hm
  rcases List.mem_cons.1 hm with rfl|hm
  ·
   exact join_no59 hr
  rcases List.mem_cons.1 hm with rfl|hm
  ·
   exact join_no59 hw
  obtain⟨i,hi,rfl⟩:=List.mem_map.1 hm
  exact join_no59 (insW_clean h hi)
 have hf:=parseE_fin (s:=printD d) hl hs (split_words (by simp) hr) (split_words (by simp) hw)
 rw[hf,if_pos rfl,if_pos rfl]
 unfold finE
 rw[codeE_of fun i hi=>⟨by obtain⟨m,h3,h4⟩:=ins_wrong h hi;exact insE_insW h4 h3,insW_clean h hi⟩]
 simp only[List.nil_append]
 rw[if_pos h]
theorem numV_eq {w:Str}{n:Int}(h:numV w=some n):Lib.itoa n=w:=by
 unfold numV at h
 split at h
 ·
  split at h
  ·
   next hy=>cases h;exact hy
  ·
   cases h
 ·
  cases h
theorem regV_eq {w:Str}{n:Int}(h:regV w=some n):(114::Lib.itoa n)=w:=by
 match w,h with
 | [],h=>simp[regV]at h
 |c::r,h =>
  by_cases hc:c=114
  ·
   subst hc;rw[numV_eq (show numV r=some n from h)]
  ·
   unfold regV at h
   split at h
   ·
    next r' he=>cases he;exact absurd rfl hc
   ·
    cases h
theorem kindOf_word {w:Str}(h:kindOf w≠0):words.getD (kindOf w).toNat []=w∧kindOf w < 10∧0≤kindOf w:=by
 by_cases h1:w=[108,111,97,100]
 ·
  subst h1;decide
 by_cases h2:w=[99,111,110,115,116]
 ·
  subst h2;decide
 by_cases h3:w=[97,100,100]
 ·
  subst h3;decide
 by_cases h4:w=[115,117,98]
 ·
  subst h4;decide
 by_cases h5:w=[109,117,108]
 ·
  subst h5;decide
 by_cases h6:w=[115,116,111,114,101]
 ·
  subst h6;decide
 by_cases h7:w=[100,114,111,112]
 ·
  subst h7;decide
 by_cases h8:w=[115,107,105,112]
 ·
  subst h8;decide
 by_cases h9:w=[102,97,105,108]
 ·
  subst h9;decide
 exact absurd (by
  unfold kindOf
  simp[words,kindGo,Ne.symm h1,Ne.symm h2,Ne.symm h3,Ne.symm h4,Ne.symm h5,Ne.symm h6,Ne.symm h7,Ne.symm h8,Ne.symm h9]) h
theorem fill_kind:∀ {f:Str}{ws:List Str}{i i':Ins},fillI i f ws=some i'→i'.kind=i.kind
 | [],ws,i,i',h=>by simp only[fillI,Option.some.injEq]at h;rw[h]
 |c::f,[],i,i',h=>by simp only[fillI,Option.some.injEq]at h;rw[h]
 |c::f,w::ws,i,i',h=>by
  simp only[fillI]at h
  split at h
  ·
   exact(fill_kind h).trans rfl
  split at h
  ·
   split at h
   ·
    exact(fill_kind h).trans rfl
   ·
    cases h
  ·
   split at h
   ·
    split at h
    ·
     exact(fill_kind h).trans rfl
    ·
     exact(fill_kind h).trans rfl
   ·
    cases h
theorem f_rk {k:Int}{ws:List Str}{i:Ins}(hl:ws.length=2) (hf:fillI ⟨k,0,0,0,[]⟩ [114,107] ws=some i):[114,107].map (fieldW i)=ws:=by
 match ws,hl with
 | [x,y],_ =>
  cases hx:regV x with
  |none=>simp[fillI,hx]at hf
  |some a =>
   simp[fillI,hx]at hf
   subst hf
   simp[fieldW,regV_eq hx]
theorem f_rn {k:Int}{ws:List Str}{i:Ins}(hl:ws.length=2) (hf:fillI ⟨k,0,0,0,[]⟩ [114,110] ws=some i):[114,110].map (fieldW i)=ws:=by
 match ws,hl with
 | [x,y],_ =>
  cases hx:regV x with
  |none=>simp[fillI,hx]at hf
  |some a =>
   cases hy:numV y with
   |none=>simp[fillI,hx,hy]at hf
   |some b =>
    simp[fillI,hx,hy]at hf
    subst hf
    simp[fieldW,regV_eq hx,numV_eq hy]
theorem f_rs {k:Int}{ws:List Str}{i:Ins}(hl:ws.length=2) (hf:fillI ⟨k,0,0,0,[]⟩ [114,115] ws=some i):[114,115].map (fieldW i)=ws:=by
 match ws,hl with
 | [x,y],_ =>
  cases hx:regV x with
  |none=>simp[fillI,hx]at hf
  |some a =>
   cases hy:regV y with
   |none=>simp[fillI,hx,hy]at hf
   |some b =>
    simp[fillI,hx,hy]at hf
    subst hf
    simp[fieldW,regV_eq hx,regV_eq hy]
theorem f_k {k:Int}{ws:List Str}{i:Ins}(hl:ws.length=1) (hf:fillI ⟨k,0,0,0,[]⟩ [107] ws=some i):[107].map (fieldW i)=ws:=by
 match ws,hl with
 | [x],_ =>
  simp[fillI]at hf
  subst hf
  simp[fieldW]
theorem f_r {k:Int}{ws:List Str}{i:Ins}(hl:ws.length=1) (hf:fillI ⟨k,0,0,0,[]⟩ [114] ws=some i):[114].map (fieldW i)=ws:=by
 match ws,hl with
 | [x],_ =>
  cases hx:regV x with
  |none=>simp[fillI,hx]at hf
  |some a =>
   simp[fillI,hx]at hf
   subst hf
   simp[fieldW,regV_eq hx]
theorem form_word {n:Nat}(h1:n≠0) (h9:n < 10) {k:Int}{ws:List Str}{i:Ins}(hl:ws.length=(form n).length) (hf:fillI ⟨k,0,0,0,[]⟩ (form n) ws=some i):(form n).map (fieldW i)=ws:=by
 match n,h1,h9 with
 |1,_,_=>exact f_rk hl hf
 |2,_,_=>exact f_rn hl hf
 |3,_,_=>exact f_rs hl hf
 |4,_,_=>exact f_rs hl hf
 |5,_,_=>exact f_rs hl hf
 |6,_,_=>exact f_rk hl hf
 |7,_,_=>exact f_k hl hf
 |8,_,_=>exact f_rn hl hf
 |9,_,_=>exact f_r hl hf
theorem insE_word {l:List Str}{i:Ins}(h:insE l = .ok i):insW i=l:=by
 match l,h with
 | [],h=>simp[insE]at h
 |w::ws,h =>
  simp only[insE]at h
  split at h
  ·
   cases h
  ·
   next h0 =>
   split at h
   ·
    next hl =>
    split at h
    ·
     next i' hf =>
     cases h
     obtain⟨hw,h9,hp⟩:=kindOf_word h0
     have hk:=fill_kind hf
     dsimp only at hk
     unfold insW
     rw[hk,hw,form_word (n:=(kindOf w).toNat) (by omega) (by omega) hl hf]
    ·
     cases h
   ·
    cases h
theorem codeE_words:∀ {ps:List Str}{l:List Ins},codeE ps = .ok l→(l.map fun i=>joinS [32] (insW i))=ps
 | [],l,h=>by simp only[codeE]at h;cases h;rfl
 |p::ps,l,h=>by
  simp only[codeE]at h
  cases hi:insE (split p [32]) with
  |error e=>rw[hi]at h;cases h
  |ok i =>
   rw[hi]at h
   dsimp only at h
   cases hr:codeE ps with
   |error e=>rw[hr]at h;cases h
   |ok r =>
    rw[hr]at h
    cases h
    rw[List.map_cons,insE_word hi,split_join_id,codeE_words hr]
theorem print_parse {s:Str}{d:Deed}(h:parseE s = .ok d):printD d=s:=by
 unfold parseE at h
 split at h
 ·
  cases h
 split at h
 ·
  next p0 p1 ps hsp =>
  split at h
  ·
   next h0 =>
   split at h
   ·
    next h1 =>
    split at h
    ·
     cases h
    ·
     next code hc =>
     split at h
     ·
      cases h
      have e0:wReads::(split p0 [32]).tail=split p0 [32]:=by
       cases hx:split p0 [32] with
       |nil=>rw[hx]at h0;cases h0
       |cons x y=>rw[hx]at h0;cases h0;rfl
      have e1:wWrites::(split p1 [32]).tail=split p1 [32]:=by
       cases hx:split p1 [32] with
       |nil=>rw[hx]at h1;cases h1
       |cons x y=>rw[hx]at h1;cases h1;rfl
      unfold printD partsD
      dsimp only
      rw[e0,e1,split_join_id,split_join_id,codeE_words hc,← hsp,split_join_id]
     ·
      cases h
   ·
    cases h
  ·
   cases h
 ·
  cases h
theorem wrong_sm {d:Deed}(h:wrongDeed d=0):d.Sm:=by
 have hok:=wrongDeed_ok h
 obtain⟨h1,h2⟩:=wrong_key h
 have:=hok.r;have:=hok.w;have:=hok.c
 exact⟨by omega,by omega,by omega,fun s hs=>by have:=key_len (h1 s hs);omega,fun s hs=>by have:=key_len (h2 s hs);omega⟩
theorem insE_err {l:List Str}{e:Int}(h:insE l = .error e):e≠0:=by
 unfold insE at h
 split at h
 ·
  cases h;decide
 ·
  split at h
  ·
   cases h;decide
  ·
   split at h
   ·
    split at h
    ·
     cases h
    ·
     cases h;decide
   ·
    cases h;decide
theorem codeE_err:∀ {l:List Str}{e:Int},codeE l = .error e→e≠0
 | [],e,h=>by cases h
 |p::r,e,h=>by
  simp only[codeE]at h
  split at h
  ·
   next e' he=>cases h;exact insE_err he
  ·
   split at h
   ·
    next e' he=>cases h;exact codeE_err he
   ·
    cases h
theorem parseE_err {s:Str}{e:Int}(h:parseE s = .error e):e≠0:=by
 unfold parseE at h
 split at h
 ·
  cases h;decide
 split at h
 ·
  split at h
  ·
   split at h
   ·
    split at h
    ·
     next e' he=>cases h;exact codeE_err he
    ·
     split at h
     ·
      cases h
     ·
      next h1=>cases h;exact h1
   ·
    cases h;decide
  ·
   cases h;decide
 ·
  cases h;decide
theorem parseE_right {s:Str}{d:Deed}(h:parseE s = .ok d):wrongDeed d=0:=by
 unfold parseE at h
 split at h
 ·
  cases h
 split at h
 ·
  split at h
  ·
   split at h
   ·
    split at h
    ·
     cases h
    ·
     split at h
     ·
      next h1=>cases h;exact h1
     ·
      cases h
   ·
    cases h
  ·
   cases h
 ·
  cases h
theorem parseR_ok {s:Str}{d:Deed}(h:parseE s = .ok d):parseR s=(d,0):=by unfold parseR;rw[h];rfl
theorem parseR_err {s:Str}{e:Int}(h:parseE s = .error e):parseR s=(noDeed,e):=by unfold parseR;rw[h];rfl
theorem wrongEntry_out {e:Entry}(h:wrongEntry e=0):(0≤e.number∧e.number≤11)∧e.deeds.length≤6∧wrongs e.deeds=0∧∀ d∈e.deeds,wrongDeed d=0:=by
 unfold wrongEntry at h
 split at h
 ·
  cases h
 split at h
 ·
  cases h
 exact⟨by omega,by omega,h,wrongs_mem h⟩
theorem addE_right {e:Engine}{l:List Deed}(h:wrongs l=0):addE e l=(addAll e l,0):=by unfold RF.addE;rw[if_pos h]
structure RInv (r:Replica):Prop where
 e:EInv r.engine (1+30*r.next.toNat)
 b:∃ q,BInv r.engine q
 n:0≤r.next∧r.next≤12
 l:r.early.length≤4
 w:∀ x∈r.early,wrongEntry x=0
 g:∀ x∈r.early,r.next < x.number
 d:(r.early.map Entry.number).Nodup
theorem noR_inv:RInv noR:=by
 have h1:EInv (newE []) ([].length+1):=newE_inv (r:=[]) (by simp[rowsOk])
 have h2:BInv (newE []) []:=newE_b (r:=[]) (by decide)
 exact⟨h1,⟨_,h2⟩,by simp[noR],by simp[noR],by simp[noR],by simp[noR],by simp[noR]⟩
structure DInv (r:Replica):Prop where
 e:EInv r.engine (1+30*r.next.toNat)
 b:∃ q,BInv r.engine q
 n:0≤r.next∧r.next≤12
 l:r.early.length≤5
 w:∀ x∈r.early,wrongEntry x=0
 g:∀ x∈r.early,r.next≤x.number
 d:(r.early.map Entry.number).Nodup
theorem RInv.D {r:Replica}(h:RInv r):DInv r:=⟨h.e,h.b,h.n,by have:=h.l;omega,h.w,fun x hx=>by have:=h.g x hx;omega,h.d⟩
theorem erase_sub {l:List Entry}{k:Nat}{x:Entry}(h:x∈l.eraseIdx k):x∈l:=List.mem_of_mem_eraseIdx h
theorem take_inv {r:Replica}(h:DInv r) {k:Nat}{x:Entry}(hx:r.early[k]? = some x) (hn:x.number=r.next) :
  DInv ⟨(addE r.engine x.deeds).1,r.next+1,r.early.eraseIdx k⟩:=by
 obtain⟨he,⟨q,hb⟩,hnn,hl,hw,hg,hd⟩:=h
 have hm:=List.mem_of_getElem? hx
 obtain⟨hx1,hx2,hx3,hx4⟩:=wrongEntry_out (hw x hm)
 have ha:=addE_right (e:=r.engine) hx3
 have hkl:=(List.getElem?_eq_some_iff.1 hx).1
 have hlen:=List.length_eraseIdx_of_lt hkl
 refine⟨?_,⟨q,?_⟩,by dsimp only;omega,by dsimp only;omega,fun y hy=>hw y (erase_sub hy),fun y hy=>?_,?_⟩
 ·
  exact(he.addE (fun d hd=>wrong_sm (hx4 d hd)) (by rw[ha])).mono (by dsimp only;omega)
 ·
  exact hb.addE (by rw[ha])
 ·
  have h1:=hg y (erase_sub hy)
  dsimp only
  refine Classical.byContradiction fun hlt=>?_
  have h2:y.number=r.next:=by omega
  obtain⟨j,hj⟩:=List.mem_iff_getElem?.1 hy
  rw[List.getElem?_eraseIdx]at hj
  have key:∀ (i:Nat),i≠k→r.early[i]? = some y→False:=fun i hik hi=>by
   have hi':(r.early.map Entry.number)[i]? = some r.next:=by rw[List.getElem?_map,hi];simp[h2]
   have hk':(r.early.map Entry.number)[k]? = some r.next:=by rw[List.getElem?_map,hx];simp[hn]
   have hil:=(List.getElem?_eq_some_iff.1 hi').1
   exact hik ((List.getElem?_inj hil hd).1 (by rw[hi',hk']))
  split at hj
  ·
   exact key j (by omega) hj
  ·
   exact key (j+1) (by omega) hj
 ·
  dsimp only
  exact hd.sublist ((List.eraseIdx_sublist _ _).map _)
theorem drainR_inv:∀ {f:Nat}{r:Replica},DInv r→r.early.length≤f→DInv (drainR f r)∧(drainR f r).early.length≤r.early.length∧(∀ x∈(drainR f r).early,(drainR f r).next < x.number)∧(∀ x∈(drainR f r).early,x∈r.early)∧r.next≤(drainR f r).next
 |0,r,h,hf=>by
  have:r.early=[]:=List.eq_nil_of_length_eq_zero (by omega)
  have hd:drainR 0 r=r:=rfl
  rw[hd]
  exact⟨h,Nat.le_refl _,by rw[this];simp,fun x hx=>hx,Int.le_refl _⟩
 |f+1,r,h,hf=>by
  rcases firstN_cases (n:=r.next) (l:=r.early) (i:=0) with ⟨h1,h2⟩|⟨k,x,h1,h2,h3⟩
  ·
   rw[drainR_none (by omega)]
   exact⟨h,Nat.le_refl _,fun x hx=>by have:=h.g x hx;have:=h2 x hx;omega,fun x hx=>hx,Int.le_refl _⟩
  ·
   rw[Nat.zero_add]at h1
   rw[drainR_some h1 h2]
   have hkl:=(List.getElem?_eq_some_iff.1 h2).1
   have hlen:=List.length_eraseIdx_of_lt hkl
   obtain⟨g1,g2,g3,g4,g5⟩:=drainR_inv (f:=f) (take_inv h h2 h3) (by dsimp only;omega)
   dsimp only at g2 g4 g5
   exact⟨g1,by omega,g3,fun y hy=>erase_sub (g4 y hy),by omega⟩
theorem DInv.R {r:Replica}(h:DInv r) (hl:r.early.length≤4) (hg:∀ x∈r.early,r.next < x.number):RInv r:=⟨h.e,h.b,h.n,hl,h.w,hg,h.d⟩
theorem snoc_nodup {l:List Entry}{e:Entry}(hd:(l.map Entry.number).Nodup) (hh:hasN e.number l=false):((l++[e]).map Entry.number).Nodup:=by
 rw[List.map_append,List.nodup_append]
 refine⟨hd,by simp,fun a ha b hb=>?_⟩
 simp at hb
 subst hb
 obtain⟨x,hx,rfl⟩:=List.mem_map.1 ha
 exact hasN_false.1 hh x hx
theorem snoc_inv {r:Replica}(h:RInv r) {e:Entry}(he:wrongEntry e=0) (h1:¬ e.number < r.next) (h2:hasN e.number r.early=false):DInv ⟨r.engine,r.next,r.early++[e]⟩:=by
 refine⟨h.e,h.b,h.n,by have:=h.l;simp;omega,fun x hx=>?_,fun x hx=>?_,snoc_nodup h.d h2⟩
 ·
  rcases List.mem_append.1 hx with hx|hx
  ·
   exact h.w x hx
  ·
   rw[List.mem_singleton.1 hx];exact he
 ·
  dsimp only
  rcases List.mem_append.1 hx with hx|hx
  ·
   have:=h.g x hx;omega
  ·
   rw[List.mem_singleton.1 hx];omega
theorem drainR_snoc {r:Replica}{e:Entry}(hn:e.number=r.next) (h2:hasN e.number r.early=false) :
  drainR (r.early.length+1) ⟨r.engine,r.next,r.early++[e]⟩=drainR r.early.length ⟨(addE r.engine e.deeds).1,r.next+1,r.early⟩:=by
 have h3:∀ x∈r.early,x.number≠r.next:=fun x hx=>by rw[← hn];exact hasN_false.1 h2 x hx
 have h4:=firstN_app hn (i:=0) h3
 rw[Nat.zero_add]at h4
 rw[drainR_some (r:=⟨r.engine,r.next,r.early++[e]⟩) (k:=r.early.length) (x:=e) h4 (by simp)]
 dsimp only
 rw[List.eraseIdx_append_of_length_le (Nat.le_refl _)]
 simp
theorem comeE_inv {r:Replica}(h:RInv r) {e:Entry}(he:wrongEntry e=0):RInv (comeE r e).1:=by
 unfold comeE
 split
 ·
  exact h
 next h1 =>
  have h2:hasN e.number r.early=false:=by cases hh:hasN e.number r.early with
   |false=>rfl
   |true=>exact absurd (.inr hh) h1
  have h3:¬ e.number < r.next:=fun hh=>h1 (.inl hh)
  have hD:=snoc_inv h he h3 h2
  split
  ·
   next h4 =>
   split
   ·
    exact h
   ·
    next h5 =>
    refine hD.R (by simp;omega) fun x hx=>?_
    dsimp only at hx ⊢
    rcases List.mem_append.1 hx with hx|hx
    ·
     exact h.g x hx
    ·
     rw[List.mem_singleton.1 hx];exact h4
  ·
   next h4 =>
   have hn:e.number=r.next:=by omega
   dsimp only
   rw[← drainR_snoc hn h2]
   obtain⟨g1,g2,g3,g4,g5⟩:=drainR_inv (f:=r.early.length+1) hD (by simp)
   rw[drainR_snoc hn h2]at g1 g2 g3 g4 g5 ⊢
   have hT:=take_inv hD (k:=r.early.length) (x:=e) (by simp) hn
   rw[List.eraseIdx_append_of_length_le (Nat.le_refl _)]at hT
   simp at hT
   obtain⟨k1,k2,k3,k4,k5⟩:=drainR_inv (f:=r.early.length) hT (Nat.le_refl _)
   exact k1.R (by have:=h.l;dsimp only at k2;omega) k3
end Go.Proofs.YtfpkamiobdkcpaaGreatDoor
namespace Go.AX
open Go.RowKit
def swN (i j k:Nat):Nat:=match Nat.beq k i with
 |true=>j
 |false=>match Nat.beq k j with
  |true=>i
  |false=>k
theorem swN_eq (i j k:Nat):swN i j k=if k=i then j else if k=j then i else k:=by
 unfold swN
 by_cases h1:k=i
 ·
  rw[if_pos h1,show Nat.beq k i=true by rw[h1];exact Nat.beq_refl _]
 ·
  rw[if_neg h1]
  have:Nat.beq k i=false:=by
   cases h:Nat.beq k i
   ·
    rfl
   ·
    exact absurd (Nat.eq_of_beq_eq_true h) h1
  rw[this]
  by_cases h2:k=j
  ·
   rw[if_pos h2,show Nat.beq k j=true by rw[h2];exact Nat.beq_refl _]
  ·
   rw[if_neg h2]
   have:Nat.beq k j=false:=by
    cases h:Nat.beq k j
    ·
     rfl
    ·
     exact absurd (Nat.eq_of_beq_eq_true h) h2
   rw[this]
theorem swN_swN (i j k:Nat):swN i j (swN i j k)=k:=by
 simp only[swN_eq]
 repeat' split
 all_goals omega
theorem swN_inj {i j a b:Nat}(h:swN i j a=swN i j b):a=b:=by rw[← swN_swN i j a,h,swN_swN]
theorem swN_lt {i j k n:Nat}(hi:i < n) (hj:j < n) (h:k < n):swN i j k < n:=by
 rw[swN_eq]
 repeat' split
 all_goals omega
def swA1 (i j:Nat):AV→AV
 |.d x => .d x
 |.pd x => .pd x
 |.ptr id off => .ptr (swN i j id) off
 |.own id n => .own (swN i j id) n
 |.pe id n a b => .pe (swN i j id) n a b
 |.agg c => .agg c
 |.tup v => .tup v
 |.h id => .h (swN i j id)
 |.any => .any
def swA2 (i j:Nat):AV→AV
 |.agg c => .agg (c.map (swA1 i j))
 |av=>swA1 i j av
def swA (i j:Nat):AV→AV
 |.tup v => .tup (v.map (swA2 i j))
 |av=>swA2 i j av
def swO (i j:Nat):Ob→Ob
 |.box c => .box (c.map (swA1 i j))
 |.lit k V ids => .lit k V (ids.map (swN i j))
 |.tok o b => .tok (swN i j o) b
 |o=>o
def swK (i j:Nat):Key→Key
 |.o k => .o (swN i j k)
 |k=>k
def swV (i j:Nat):Val→Val
 |.av x => .av (swA i j x)
 |.ob x => .ob (swO i j x)
 |v=>v
def swS (i j:Nat):St→St
 | []=>[]
 |(k,v)::r=>(swK i j k,swV i j v)::swS i j r
theorem swK_inj {i j:Nat}{a b:Key}(h:swK i j a=swK i j b):a=b:=by
 cases a <;> cases b <;> simp[swK]at h ⊢
 ·
  exact h
 ·
  exact swN_inj h
theorem get_sw {i j:Nat}{k:Key}:∀ {σ:St},get (swS i j σ) (swK i j k)=swV i j (get σ k)
 | []=>rfl
 |(q,v)::r=>by
  show get ((swK i j q,swV i j v)::swS i j r) (swK i j k)=_
  by_cases h:q=k
  ·
   subst h;rw[get_cons_same,get_cons_same]
  ·
   rw[get_cons_ne h,get_cons_ne fun e=>h (swK_inj e),get_sw]
theorem get_swo {i j id:Nat}{σ:St}:get (swS i j σ) (.o id)=swV i j (get σ (.o (swN i j id))):=by
 have:=get_sw (i:=i) (j:=j) (k := .o (swN i j id)) (σ:=σ)
 rwa [show swK i j (.o (swN i j id)) = .o id by simp[swK,swN_swN]]at this
theorem swV_ob {i j:Nat}{v:Val}{o:Ob}(h:swV i j v = .ob o):∃ o0,v = .ob o0∧swO i j o0=o:=by
 cases v <;> simp[swV]at h
 exact⟨_,rfl,h⟩
theorem swV_av {i j:Nat}{v:Val}{o:AV}(h:swV i j v = .av o):∃ o0,v = .av o0∧swA i j o0=o:=by
 cases v <;> simp[swV]at h
 exact⟨_,rfl,h⟩
variable {cx:Cx}{g:Nat→Value}{σ:St}{a:Act}{w:World}{nx:Nat}{c:Code}{Q:Exit→St→Prop}{i j:Nat}
theorem own_sw {b:Nat}(h:cx.own (fun k=>g (swN i j k)) (swS i j σ) b):cx.own g σ b:=by
 rcases h with h|⟨id,o,h1,h2⟩
 ·
  exact .inl h
 ·
  rw[get_swo]at h1
  obtain⟨o0,h3,_⟩:=swV_ob h1
  exact .inr ⟨_,o0,h3,h2⟩
theorem nr_sw {id:Nat}(h:NR σ id):NR (swS i j σ) (swN i j id):=fun hg=>by
 rw[get_swo,swN_swN]at hg
 obtain⟨o0,h1,h2⟩:=swV_ob hg
 refine h ?_
 rw[h1]
 cases o0 <;> simp[swO]at h2 ⊢
theorem rep1_sw {x:Value}{av:AV}(h:Rep1 cx g σ w x av):Rep1 cx (fun k=>g (swN i j k)) (swS i j σ) w x (swA1 i j av):=by
 cases av with
 |d y=>exact Rd.less (fun b hb=>own_sw hb) h
 |pd ds =>
  obtain⟨ad,h1,h2,h3,h4⟩:=h
  refine⟨ad,h1,?_,h3,fun q z hz=>by obtain⟨u,h5,h6,h7⟩:=h4 q z hz;exact⟨u,h5,h6,h7.less fun b hb=>own_sw hb⟩⟩
  rcases h2 with h2|h2
  ·
   exact .inl h2
  ·
   exact .inr fun hb=>h2 (own_sw hb)
 |ptr id off =>
  refine⟨nr_sw h.1,fun cells hg=>?_⟩
  rw[get_swo,swN_swN]at hg
  obtain⟨o0,h1,h2⟩:=swV_ob hg
  cases o0 <;> simp[swO]at h2
  obtain⟨b,h3,h4⟩:=h.2 _ h1
  exact⟨b,by dsimp only;rw[swN_swN];exact h3,h4⟩
 |own id n =>
  refine⟨nr_sw h.1,fun e k rows hg=>?_⟩
  rw[get_swo,swN_swN]at hg
  obtain⟨o0,h1,h2⟩:=swV_ob hg
  cases o0 <;> simp[swO]at h2
  obtain⟨rfl,rfl,rfl⟩:=h2
  dsimp only
  rw[swN_swN]
  exact h.2 _ _ _ h1
 |pe id n q f =>
  refine⟨nr_sw h.1,fun e k rows hg=>?_⟩
  rw[get_swo,swN_swN]at hg
  obtain⟨o0,h1,h2⟩:=swV_ob hg
  cases o0 <;> simp[swO]at h2
  obtain⟨rfl,rfl,rfl⟩:=h2
  dsimp only
  rw[swN_swN]
  exact h.2 _ _ _ h1
 |h id =>
  refine⟨nr_sw h.1,fun o hg ho=>?_⟩
  rw[get_swo,swN_swN]at hg
  obtain⟨o0,h1,h2⟩:=swV_ob hg
  dsimp only
  rw[swN_swN]
  refine h.2 o0 h1 ?_
  subst h2
  cases o0 <;> first|rfl|cases ho
 |any=>trivial
 |agg _=>exact h.elim
 |tup _=>exact h.elim
theorem cells_sw {cells:List AV}{cs:Array Value}(h:∀ (q:Nat) (c:Value) (av:AV),cells[q]? = some av→cs[q]? = some c→Rep1 cx g σ w c av) :
  ∀ (q:Nat) (c:Value) (av:AV),(cells.map (swA1 i j))[q]? = some av→cs[q]? = some c→Rep1 cx (fun k=>g (swN i j k)) (swS i j σ) w c av:=by
 intro q c av hq hc
 rw[List.getElem?_map,Option.map_eq_some_iff]at hq
 obtain⟨av0,h1,rfl⟩:=hq
 exact rep1_sw (h q c av0 h1 hc)
theorem rep2_sw {x:Value}{av:AV}(h:Rep2 cx g σ w x av):Rep2 cx (fun k=>g (swN i j k)) (swS i j σ) w x (swA2 i j av):=by
 cases av with
 |agg cells =>
  obtain⟨cs,h1,h2,h3,h4⟩:=h
  exact⟨cs,h1,by simpa using h2,h3,cells_sw h4⟩
 |tup _=>exact h.elim
 |d y=>exact rep1_sw (cx:=cx) (w:=w) (av := .d y) h
 |pd y=>exact rep1_sw (cx:=cx) (w:=w) (av := .pd y) h
 |ptr p q=>exact rep1_sw (cx:=cx) (w:=w) (av := .ptr p q) h
 |own p q=>exact rep1_sw (cx:=cx) (w:=w) (av := .own p q) h
 |pe p q r s=>exact rep1_sw (cx:=cx) (w:=w) (av := .pe p q r s) h
 |h p=>exact rep1_sw (cx:=cx) (w:=w) (av := .h p) h
 |any=>trivial
theorem rep_sw {x:Value}{av:AV}(h:Rep cx g σ w x av):Rep cx (fun k=>g (swN i j k)) (swS i j σ) w x (swA i j av):=by
 cases av with
 |tup vs =>
  obtain⟨us,h1,h2,h3⟩:=h
  refine⟨us,h1,by simpa using h2,fun q c av hq hc=>?_⟩
  rw[List.getElem?_map,Option.map_eq_some_iff]at hq
  obtain⟨av0,h4,rfl⟩:=hq
  exact rep2_sw (h3 q c av0 h4 hc)
 |agg cells=>exact rep2_sw (cx:=cx) (w:=w) (av := .agg cells) h
 |d y=>exact rep2_sw (cx:=cx) (w:=w) (av := .d y) h
 |pd y=>exact rep2_sw (cx:=cx) (w:=w) (av := .pd y) h
 |ptr p q=>exact rep2_sw (cx:=cx) (w:=w) (av := .ptr p q) h
 |own p q=>exact rep2_sw (cx:=cx) (w:=w) (av := .own p q) h
 |pe p q r s=>exact rep2_sw (cx:=cx) (w:=w) (av := .pe p q r s) h
 |h p=>exact rep2_sw (cx:=cx) (w:=w) (av := .h p) h
 |any=>trivial
theorem bd1_sw (hi:i < nx) (hj:j < nx) {av:AV}(h:av.bd1 nx):(swA1 i j av).bd1 nx:=by
 cases av <;> first|exact swN_lt hi hj h|exact h
theorem bd_sw (hi:i < nx) (hj:j < nx) {av:AV}(h:av.bd nx):(swA i j av).bd nx:=by
 cases av with
 |agg cells =>
  intro x hx
  obtain⟨y,hy,rfl⟩:=List.mem_map.1 hx
  exact bd1_sw hi hj (h y hy)
 |tup vs =>
  intro x hx
  obtain⟨y,hy,rfl⟩:=List.mem_map.1 hx
  have hb:=h y hy
  cases y with
  |agg cells =>
   intro x hx
   obtain⟨z,hz,rfl⟩:=List.mem_map.1 hx
   exact bd1_sw hi hj (hb z hz)
  |tup _=>exact hb
  |d _=>exact hb
  |pd _=>exact hb
  |ptr p q=>exact bd1_sw (av := .ptr p q) hi hj hb
  |own p q=>exact bd1_sw (av := .own p q) hi hj hb
  |pe p q r s=>exact bd1_sw (av := .pe p q r s) hi hj hb
  |h p=>exact bd1_sw (av := .h p) hi hj hb
  |any=>exact hb
 |d _=>exact h
 |pd _=>exact h
 |ptr p q=>exact bd1_sw (av := .ptr p q) hi hj h
 |own p q=>exact bd1_sw (av := .own p q) hi hj h
 |pe p q r s=>exact bd1_sw (av := .pe p q r s) hi hj h
 |h p=>exact bd1_sw (av := .h p) hi hj h
 |any=>exact h
theorem rows_sw {e k:Nat}{v:Value}{rows:List (List D)}(h:∃ xs:List Value,w.ownsRow cx.w0.heap.size e k v rows.length xs∧(∀ x∈xs,Value.oneCell' x=true)∧(∀ r∈rows,r.length=k) ∧
   ∀ (p q:Nat) (r:List D) (d:D) (x:Value),rows[p]? = some r→r[q]? = some d→xs[p*k+q]? = some x→Rd w (cx.own g σ) x d) :
  ∃ xs:List Value,w.ownsRow cx.w0.heap.size e k v rows.length xs∧(∀ x∈xs,Value.oneCell' x=true)∧(∀ r∈rows,r.length=k) ∧
   ∀ (p q:Nat) (r:List D) (d:D) (x:Value),rows[p]? = some r→r[q]? = some d→xs[p*k+q]? = some x→Rd w (cx.own (fun k=>g (swN i j k)) (swS i j σ)) x d:=by
 obtain⟨xs,h1,h2,h3,h4⟩:=h
 exact⟨xs,h1,h2,h3,fun p q r d x hp hq hx=>Rd.less (fun b hb=>own_sw hb) (h4 p q r d x hp hq hx)⟩
theorem ob_sw {id:Nat}{o:Ob}(h:ObOk cx g σ w (swN i j id) o):ObOk cx (fun k=>g (swN i j k)) (swS i j σ) w id (swO i j o):=by
 cases o with
 |box cells =>
  obtain⟨b,cs,t,h1,h2,h3,h4,h5,h6⟩:=h
  exact⟨b,cs,t,h1,h2,h3,by simpa using h4,h5,cells_sw h6⟩
 |arr e k rows=>exact rows_sw h
 |pin e k rows x=>exact⟨h.1,rows_sw h.2⟩
 |mp M x=>exact h
 |mi M x=>exact h
 |gen p=>exact h
 |res=>exact h
 |tok o b=>exact h
 |lit kk V ids =>
  obtain⟨b,es,clock,h1,h2,h3,h4,h5⟩:=h
  refine⟨b,es,clock,h1,h2,h3,h4,fun q k p hq hp hg=>?_⟩
  rw[List.getElem?_map,Option.map_eq_some_iff]at hq
  obtain⟨k0,h6,rfl⟩:=hq
  rw[get_swo,swN_swN]at hg
  obtain⟨o0,h7,h8⟩:=swV_ob hg
  cases o0 <;> simp[swO]at h8
  obtain⟨h9,rfl⟩:=h8
  refine h5 q k0 p h6 hp ?_
  rw[h7,← h9,swN_swN]
theorem obd_sw (hi:i < nx) (hj:j < nx) {o:Ob}(h:o.bd nx):(swO i j o).bd nx:=by
 cases o with
 |box cells =>
  intro x hx
  obtain⟨y,hy,rfl⟩:=List.mem_map.1 hx
  exact bd1_sw hi hj (h y hy)
 |lit kk V ids =>
  intro x hx
  obtain⟨y,hy,rfl⟩:=List.mem_map.1 hx
  exact swN_lt hi hj (h y hy)
 |_=>exact h
theorem SimG.sw (hs:SimG cx σ a w g nx) (hi:i < nx) (hj:j < nx) (hgn:cx.gn=0) (hgh:cx.gh=[]):SimG cx (swS i j σ) a w (fun k=>g (swN i j k)) nx:=by
 refine⟨?_,hs.size,hs.defers,hs.below,hs.own0,fun k av hk=>?_,fun id o ho=>?_,fun id id' o o' b h1 h2 h3 h4=>?_,by rw[hgn];exact Nat.zero_le _,fun p hp=>by rw[hgh]at hp;cases hp⟩
 ·
  have:=get_sw (i:=i) (j:=j) (k := .nx) (σ:=σ)
  rw[hs.hnx]at this
  exact this
 ·
  have:=get_sw (i:=i) (j:=j) (k := .s k) (σ:=σ)
  rw[show swK i j (.s k) = .s k from rfl,hk]at this
  obtain⟨av0,h1,rfl⟩:=swV_av this.symm
  obtain⟨h2,h3⟩:=hs.slots k av0 h1
  exact⟨rep_sw h2,bd_sw hi hj h3⟩
 ·
  rw[get_swo]at ho
  obtain⟨o0,h1,rfl⟩:=swV_ob ho
  obtain⟨h2,h3,h4⟩:=hs.objs _ o0 h1
  refine⟨?_,ob_sw h3,obd_sw hi hj h4⟩
  have:=swN_lt hi hj h2
  rwa [swN_swN]at this
 ·
  rw[get_swo]at h1 h2
  obtain⟨o0,h5,_⟩:=swV_ob h1
  obtain⟨o1,h6,_⟩:=swV_ob h2
  exact swN_inj (hs.sep _ _ o0 o1 b h5 h6 h3 h4)
theorem CW.ren (i j:Nat) {n:Nat}(hn:get σ .nx = .num n) (hi:Nat.blt i n=true) (hj:Nat.blt j n=true) (h:CW cx c Q (swS i j σ)) (hgn:cx.gn=0:=by rfl) (hgh:cx.gh=[]:=by rfl):CW cx c Q σ:=by
 rintro a w ⟨g,nx,hs⟩
 obtain rfl:nx=n:=by
  have:=hs.hnx
  rw[hn]at this
  simpa using this.symm
 exact h a w ⟨_,_,hs.sw (lt_of_blt hi) (lt_of_blt hj) hgn hgh⟩
def stutQ (t:Tr) (Q:Exit→St→Prop):Exit→St→Prop
 |.normal,σ=>App σ t.rd∧Q .normal (t.wr++σ)
 |e,σ=>Q e σ
theorem CW.aft {t:Tr}(ht:Stut cx t) (h:CW cx c (stutQ t Q) σ):CW cx c Q σ:=fun a w hs=>wp_mono (h a w hs) fun e a' w' he=>by
 obtain⟨σ',h1,h2⟩:=he
 cases e with
 |normal=>exact⟨_,ht σ' a' w' h1 h2.1,h2.2⟩
 |exit j=>exact⟨σ',h1,h2⟩
 |goto j=>exact⟨σ',h1,h2⟩
 |ret=>exact⟨σ',h1,h2⟩
 |panic c=>exact⟨σ',h1,h2⟩
 |outgrown=>exact⟨σ',h1,h2⟩
theorem q_aft {t:Tr}(ha:App σ t.rd) (h:Q .normal (t.wr++σ)):stutQ t Q .normal σ:=⟨ha,h⟩
end Go.AX
namespace Go.Proofs.YtfpkamiobdkcpaaGreatDoor
open Go.AX Go.RF
set_option maxRecDepth 100000
set_option maxHeartbeats 8000000
structure PInv (r:Replica) (x:Entry) (tgt:Replica):Prop where
 e:EInv r.engine 400
 w:wrongs x.deeds=0∧x.deeds.length≤6
 d:DInv ⟨(addE r.engine x.deeds).1,r.next+1,r.early⟩
 t:drainR r.early.length ⟨(addE r.engine x.deeds).1,r.next+1,r.early⟩=tgt
theorem ok_rcome (r:Replica) (e:Entry) (h:RInv r) (he:wrongEntry e=0):FnOk Tryz.prog 30 [.d (.agg r.enc),.d (.agg e.enc)] (.tup [.agg (comeE r e).1.enc,dint (comeE r e).2]):=by
 refine fnOk_of tbl_ok mixed_ok Tryz.func30 rfl (by kernel_rfl) rfl rfl fun w0 own0=>?_
 have hl:=h.l
 have hn:=h.n
 obtain⟨hn1,hn2,hn3,hn4⟩:=wrongEntry_out he
 try refine wk ?_
 refine CW.loopT (fun t:Nat×Bool=>[sp 2 0,ob 0 r.enc,sp 3 1,ob 1 e.enc,sp 4 2,ob 2 [.v nilS,.v nilS,.v nilS,.v nilS,dint 0,dint 0,.v nilS],sd 5 (dint 0),sd 6 (dbool t.2),sd 18 (encEntries r.early),sd 19 (dint r.early.length),sd 20 (dint t.1),nxt 3])
  (fun t=>t.1≤r.early.length∧(t.2 || hasN e.number (r.early.drop t.1))=(decide (e.number < r.next) || hasN e.number r.early)) (fun t=>r.early.length - t.1) (0,decide (e.number < r.next)) ⟨by dsimp only;omega,rfl⟩ ?_ ?_
 ·
  exact by_less
 ·
  rintro ⟨i,b⟩ ⟨hi,hI⟩
  dsimp only at hi hI ⊢
  rcases drop_case hi with ⟨h1,h2⟩|⟨x,h1,h2,h3⟩
  ·
   rw[h1,hasN,Bool.or_false]at hI
   unfold comeE
   cases b with
   |true =>
    have hc:e.number < r.next∨hasN e.number r.early=true:=by simpa using hI.symm
    rw[if_pos hc]
    try refine wk ?_
    exact .two (.cell rfl rfl rfl rfl (.aggd (ds:=r.enc) rfl (.refl _))) (.tmp rfl (.one (.d (.refl _))))
   |false =>
    have hc:¬ (e.number < r.next)∧hasN e.number r.early=false:=by simpa using hI.symm
    rw[if_neg (by rw[hc.2];simp;omega)]
    have hc1:=hc.1
    by_cases h4:r.next < e.number
    ·
     rw[if_pos h4]
     by_cases h5:4≤r.early.length
     ·
      rw[if_pos h5]
      try refine wk ?_
      exact .two (.cell rfl rfl rfl rfl (.aggd (ds:=r.enc) rfl (.refl _))) (.tmp rfl (.one (.d (.refl _))))
     ·
      rw[if_neg h5]
      try refine wk ?_
      exact .two (.cell rfl rfl rfl rfl (.agg (.cons (.d (.refl _)) (.cons (.d (.refl _)) (.cons (.d (.refl _)) (.cons (.d (.refl _)) (.cons (.d (.refl _)) (.cons (.d (.refl _)) (.cons (.own rfl (by simp) (dle_eq (by simp[encEntries];rfl))) .nil))))))))) (.tmp rfl (.one (.d (.refl _))))
    ·
     rw[if_neg h4]
     have hnx:e.number=r.next:=by omega
     have hT:=take_inv (snoc_inv h he hc.1 hc.2) (k:=r.early.length) (x:=e) (by simp) hnx
     rw[List.eraseIdx_append_of_length_le (Nat.le_refl _)]at hT
     simp at hT
     have hP:PInv r e (drainR r.early.length ⟨(addE r.engine e.deeds).1,r.next+1,r.early⟩):=⟨h.e.mono (by omega),⟨hn3,hn2⟩,hT,rfl⟩
     generalize drainR r.early.length ⟨(addE r.engine e.deeds).1,r.next+1,r.early⟩=tgt at *
     try refine wk ?_
     refine CW.loopT (fun t:Replica×Entry=>[sp 2 0,ob 0 t.1.enc,sp 3 1,ob 1 t.2.enc,sp 4 2,ob 2 [.v nilS,.v nilS,.v nilS,.v nilS,dint 0,dint 0,.v nilS],sd 5 (dint 0),nxt 3])
      (fun t=>PInv t.1 t.2 tgt) (fun t=>t.1.early.length) (r,e) hP ?_ ?_
     ·
      exact by_less
     ·
      rintro ⟨⟨E,n,y⟩,e'⟩ ⟨p1,⟨p2,p3⟩,p4,p5⟩
      dsimp only at p1 p2 p3 p4 p5 ⊢
      have ca:=ok_addE E e'.deeds _ p1.z (fun d hd=>wrong_sm (wrongs_mem p2 d hd)) (by omega) (by omega)
      generalize (addE E e'.deeds).1=E2 at *
      generalize (addE E e'.deeds).2=v2 at *
      have hyl:=p4.l
      have hyn:=p4.n
      have hlf:=lastN_first (n:=n+1) (i:=0) p4.d
      dsimp only at hyl hyn hlf
      try refine wk ?_
      refine CW.loopT (fun t:Nat×Int=>[sp 2 0,ob 0 (Replica.enc ⟨E2,n+1,y⟩),sp 3 1,ob 1 e'.enc,sp 4 2,ob 2 [.v nilS,.v nilS,.v nilS,.v nilS,dint 0,dint 0,.v nilS],sd 5 (dint 0),sd 9 (dint t.2),sd 68 (encEntries y),sd 69 (dint y.length),sd 70 (dint t.1),nxt 3])
       (fun t=>t.1≤y.length∧lastN (n+1) t.2 t.1 (y.drop t.1)=firstN (n+1) 0 y) (fun t=>y.length - t.1) (0,-1) ⟨by dsimp only;omega,hlf⟩ ?_ ?_
      ·
       exact by_less
      ·
       rintro ⟨j,k⟩ ⟨hj,hJ⟩
       dsimp only at hj hJ ⊢
       rcases drop_case hj with ⟨g1,g2⟩|⟨z,g1,g2,g3⟩
       ·
        rw[g1,lastN]at hJ
        rcases firstN_cases (n:=n+1) (l:=y) (i:=0) with ⟨k1,k2⟩|⟨m,x,k1,k2,k3⟩
        ·
         rw[k1]at hJ
         rw[drainR_none (by dsimp only;omega)]at p5
         subst p5
         try refine wk ?_
         exact .two (.cell rfl rfl rfl rfl (.aggd (ds:=Replica.enc ⟨E2,n+1,y⟩) rfl (.refl _))) (.tmp rfl (.one (.d (.refl _))))
        ·
         rw[Nat.zero_add]at k1
         rw[k1]at hJ
         subst hJ
         have hkl:=(List.getElem?_eq_some_iff.1 k2).1
         have hel:=List.length_eraseIdx_of_lt hkl
         have hxm:(y.map Entry.enc)[m]? = some x.enc:=by rw[List.getElem?_map,k2];rfl
         obtain⟨x1,x2,x3,x4⟩:=wrongEntry_out (p4.w x (List.mem_of_getElem? k2))
         have hI2:=take_inv p4 k2 k3
         have hJ2:drainR (y.eraseIdx m).length ⟨(addE E2 x.deeds).1,n+1+1,y.eraseIdx m⟩=tgt:=by
          rw[hel,← p5]
          obtain⟨q,hq⟩:∃ q,y.length=q+1:=⟨y.length - 1,by omega⟩
          rw[hq,drainR_some (r:=⟨E2,n+1,y⟩) k1 k2,Nat.add_sub_cancel]
         have hml:m≤(y.map Entry.enc).length:=by simp;omega
         have hml2:m+1≤(y.map Entry.enc).length:=by simp;omega
         have hbox:[AV.d (encChains E2.chains),AV.d (encDeeds E2.deeds),AV.d (encInts E2.state),AV.d (encEnds E2.ends),AV.d (dint E2.base),AV.d (dint (n+1)),AV.d (.sl 2 (([]++(y.map Entry.enc).take m)++(y.map Entry.enc).drop (m+1)))]=(Replica.enc ⟨E2,n+1,y.eraseIdx m⟩).map AV.d:=by
          simp[Replica.enc,encEntries,List.eraseIdx_eq_take_drop_succ]
         have hcf:cutI (y.map Entry.enc) (some ((m:Int)+1)) none=some ((y.map Entry.enc).drop (m+1)):=by
          have:=cut_from hml2
          rwa [show((m+1:Nat):Int)=(m:Int)+1 by omega]at this
         have hst0:StopX 26:=⟨rfl⟩
         try refine wkS ?_
         clear hst0
         refine Stop.go (CW.aft (stut_freeze_cell (id:=0) (j:=6) (i:=3) (n:=0+((y.map Entry.enc).take m).length+((y.map Entry.enc).drop (m+1)).length) (e:=50) (k:=2) (cells:=[.d (encChains E2.chains),.d (encDeeds E2.deeds),.d (encInts E2.state),.d (encEnds E2.ends),.d (dint E2.base),.d (dint (n+1)),.own 3 (0+((y.map Entry.enc).take m).length+((y.map Entry.enc).drop (m+1)).length)]) (rows:=([]++(y.map Entry.enc).take m)++(y.map Entry.enc).drop (m+1)) rfl (by simp)) ?_)
         repeat(first|refine wa ?_|((with_reducible apply s5);(first|((with_reducible apply a_from);(iterate 5 exact rfl);exact hcf)|exact by_oa|exact by_ca);exact by_g)|refine wb ?_)
         refine q_aft ⟨rfl,rfl,trivial⟩ ?_
         try refine wk ?_
         refine q_loopT (⟨E2,n+1,y.eraseIdx m⟩,x) ⟨p4.e.mono (by dsimp only;omega),⟨x3,x2⟩,hI2,hJ2⟩ (by dsimp only;omega) ?_
         exact by_less
       ·
        rw[g1]at hJ
        simp only[lastN]at hJ
        by_cases hz:z.number=n+1
        ·
         rw[if_pos hz]at hJ
         try refine wk ?_
         refine q_loopT (j+1,(j:Int)) ⟨by dsimp only;omega,hJ⟩ (by dsimp only;omega) ?_
         exact by_less
        ·
         rw[if_neg hz]at hJ
         try refine wk ?_
         refine q_loopT (j+1,k) ⟨by dsimp only;omega,hJ⟩ (by dsimp only;omega) ?_
         exact by_less
  ·
   rw[h1]at hI
   simp only[hasN]at hI
   cases b with
   |true =>
    try refine wk ?_
    refine q_loopT (i+1,true) ⟨by dsimp only;omega,by simpa using hI⟩ (by dsimp only;omega) ?_
    exact by_less
   |false =>
    by_cases h4:x.number=e.number
    ·
     rw[if_pos h4]at hI
     try refine wk ?_
     refine q_loopT (i+1,true) ⟨by dsimp only;omega,by simpa using hI⟩ (by dsimp only;omega) ?_
     exact by_less
    ·
     rw[if_neg h4]at hI
     try refine wk ?_
     refine q_loopT (i+1,false) ⟨by dsimp only;omega,hI⟩ (by dsimp only;omega) ?_
     exact by_less
end Go.Proofs.YtfpkamiobdkcpaaGreatDoor
namespace Go.AX
open Go.RowKit
variable {cx:Cx}{g:Nat→Value}{σ σ':St}{a:Act}{w w':World}{nx:Nat}{c:Code}{Q:Exit→St→Prop}
variable {ty:TypeId}{pos:String}{af:Array Edge}{gd:Option (Nat×Bool)}{d:Nat}
theorem ref_pd {v:Value}{ds:List D}(h:Rep cx g σ w v (.d (refD ds))):Rep cx g σ w v (.pd ds):=by
 obtain⟨ad,h1,h2,h3,h4⟩:=rd_x h
 exact⟨ad,h1,.inr h2,h3,h4⟩
theorem a_faref {t:TypeId}{x:Operand}{cells:List D}{ti:TI}{f off:Nat}(hx:ev σ x=some (.d (refD cells))) (ht:tget cx.T t=some ti) (hf:fldOff ti f=some off) (hd:Nat.blt d cx.n=true) :
  OA cx σ ⟨some d,.fieldAddr t x f,ty,pos,af,gd⟩ ⟨rdOf x (.d (refD cells)),[(.s d,.av (.pd (cells.drop off)))]⟩:=by
 refine⟨ok_val rfl (lt_of_blt hd) fun _ a w _ _ hs hr=>?_,(ev_out hx).2⟩
 obtain⟨ad,hv,h1,h2,hc⟩:=ref_pd (hs.ev (ev_out hx).1 hr).1
 exact⟨.pointer (some (ad.add off)),w,by simp[execOp,hv,fieldAt_of (cx.hT t ti ht) hf],Below.refl _ _,
  ⟨_,rfl,by rw[add_block];exact h1,by rw[add_block];exact h2,hc.drop off⟩,trivial⟩
theorem a_ldref {t:TypeId}{x:Operand}{cells:List D}{ti:TI}{y:D}(hx:ev σ x=some (.d (refD cells))) (ht:tget cx.T t=some ti) (hl:ldD ti cells=some y) (hd:Nat.blt d cx.n=true) :
  OA cx σ ⟨some d,.load t x,ty,pos,af,gd⟩ ⟨rdOf x (.d (refD cells)),[(.s d,.av (.d y))]⟩:=by
 refine⟨ok_val rfl (lt_of_blt hd) fun _ a w _ _ hs hr=>?_,(ev_out hx).2⟩
 obtain⟨ad,hv,_,_,hc⟩:=ref_pd (hs.ev (ev_out hx).1 hr).1
 obtain⟨v,h1,h2⟩:=run_load_cells (cx.hT t ti ht) hc hl
 exact⟨v,w,by simp[execOp,hv,h1],Below.refl _ _,h2,trivial⟩
theorem a_nilref {x:Operand}{cells:List D}(hx:ev σ x=some (.d (refD cells))) (hd:Nat.blt d cx.n=true) :
  OA cx σ ⟨some d,.nilCheck x,ty,pos,af,gd⟩ ⟨rdOf x (.d (refD cells)),[(.s d,.av (.d (refD cells)))]⟩:=by
 refine⟨ok_val rfl (lt_of_blt hd) fun _ a w _ _ hs hr=>?_,(ev_out hx).2⟩
 have h:=(hs.ev (ev_out hx).1 hr).1
 obtain⟨ad,hv,_,_,hc⟩:=ref_pd h
 refine⟨_,w,?_,Below.refl _ _,h,trivial⟩
 simp[execOp,hv]
theorem a_fieldS {t t2:TypeId}{x:Operand}{f off:Nat}{cells:List D}{ti2:TI}{fs2:List (Nat×Nat)}(hx:ev σ x=some (.d (.agg cells))) (ht2:tget cx.T t2=some ti2) (hk2:ti2.kind = .st fs2)
  (hfl:∃ a fl,cx.P.underlying t=some (.struct a)∧a[f]? = some fl∧fl.type=t2∧fl.offset=off) (hle:Nat.ble (off+ti2.n) cells.length=true) (hd:Nat.blt d cx.n=true) :
  OA cx σ ⟨some d,.field t x f,ty,pos,af,gd⟩ ⟨rdOf x (.d (.agg cells)),[(.s d,.av (.d (.agg ((cells.drop off).take ti2.n))))]⟩:=by
 refine⟨ok_val rfl (lt_of_blt hd) fun σ a w g nx hs hr=>?_,(ev_out hx).2⟩
 have h1:Rd w (cx.own g σ) (a.eval x) (.agg cells):=(hs.ev (ev_out hx).1 hr).1
 obtain⟨b,fl,hu,e1,e2,e3⟩:=hfl
 have hle':off+ti2.n≤cells.length:=by simpa using hle
 have hF:=cx.hT t2 ti2 ht2
 have hA:=isAgg_of hF w
 rw[hk2]at hA
 obtain⟨i,hi1,hi2,_⟩:=hF.info
 generalize hv:a.eval x=v at h1
 generalize hD:D.agg cells=D0 at h1
 cases h1 with
 |v=>cases hD
 |x=>cases hD
 |sl=>cases hD
 |nil=>cases hD
 |agg cs ds hl hone hrd =>
  cases hD
  refine⟨.agg (cs.extract off (off+ti2.n)),w,?_,Below.refl _ _,.agg _ _ (by simp;omega) (fun j c hj=>?_) (fun j z c hz hj=>?_),trivial⟩
  ·
   have hp:(part fl.type cs off).run cx.P w = .ok (.agg (cs.extract off (off+ti2.n))) w:=by
    rw[e2]
    simp[part,hA,sizeOf,typeInfo,hi1,hi2]
   simp[execOp,hv,Instr.field,run_underlying hu,e1,asAgg,e3,hp]
  ·
   rw[Array.getElem?_extract]at hj
   split at hj
   ·
    exact hone _ _ hj
   ·
    cases hj
  ·
   rw[Array.getElem?_extract]at hj
   split at hj
   ·
    rw[List.getElem?_take]at hz
    split at hz
    ·
     rw[List.getElem?_drop]at hz
     exact hrd _ _ _ hz hj
    ·
     cases hz
   ·
    cases hj
inductive Lent (σ:St):List AV→List D→List (Key×Val)→Prop
 |nil:Lent σ [] [] []
 |d {x:D} {cs:List AV} {ds:List D} {l:List (Key×Val)} (h:Lent σ cs ds l):Lent σ (.d x::cs) (x::ds) l
 |own {id n e k:Nat} {rows:List (List D)} {cs:List AV} {ds:List D} {l:List (Key×Val)} (ho:get σ (.o id) = .ob (.arr e k rows)) (hn:n=rows.length) (h:Lent σ cs ds l) :
   Lent σ (.own id n::cs) (.sl k rows::ds) ((.o id,.ob (.arr e k rows))::l)
theorem Lent.app {cs:List AV}{ds:List D}{l:List (Key×Val)}(h:Lent σ cs ds l):App σ l:=by
 induction h with
 |nil=>trivial
 |d h ih=>exact ih
 |own ho hn h ih=>exact⟨ho,ih⟩
def lids:List AV→List Nat
 | []=>[]
 |.own id _::r=>id::lids r
 |_::r=>lids r
theorem Lent.rd {σ0:St}{own':Nat→Prop}(hs:SimG cx σ a w g nx) (hle:∀ b,own' b→cx.own g σ b):∀ {cs:List AV}{ds:List D}{l:List (Key×Val)},Lent σ0 cs ds l→App σ l→(∀ i∈lids cs,∀ b,own' b→blk (g i)≠some b) →
  ds.length=cs.length∧∀ (j:Nat) (z:D) (av:AV) (v:Value),ds[j]? = some z→cs[j]? = some av→Rep1 cx g σ w v av→Rd w own' v z:=by
 intro cs ds l h
 induction h with
 |nil=>exact fun _ _=>⟨rfl,fun j z av v hz=>by simp at hz⟩
 |@d x cs ds l h ih =>
  intro ha hb
  obtain⟨h1,h2⟩:=ih ha hb
  refine⟨by simp[h1],fun j z av v hz hav hr=>?_⟩
  cases j with
  |zero=>simp at hz hav;subst hz hav;exact Rd.less hle hr
  |succ j=>exact h2 j z av v (by simpa using hz) (by simpa using hav) hr
 |@own id n e k rows cs ds l ho hn h ih =>
  intro ha hb
  obtain⟨h1,h2⟩:=ih ha.2 fun i hi=>hb i (List.mem_cons_of_mem _ hi)
  refine⟨by simp[h1],fun j z av v hz hav hr=>?_⟩
  cases j with
  |zero =>
   simp at hz hav
   subst hz hav
   have ho':get σ (.o id) = .ob (.arr e k rows):=ha.1
   have hv:v=g id:=(hr.2 e k rows ho').2 hn
   rw[hv]
   exact(objRows hs ho').rd fun b h=>⟨hle b h,hb id (List.mem_cons_self ..) b h⟩
  |succ j=>exact h2 j z av v (by simpa using hz) (by simpa using hav) hr
theorem a_lendbox {f:FuncId}{x:Operand}{r:Res}{ats:Array TypeId}{id:Nat}{cells:List AV}{ds:List D}{lv:List (Key×Val)}
  (hc:FnOk cx.P f [.d (refD ds)] r) (hx:ev σ x=some (.ptr id 0)) (ho:get σ (.o id) = .ob (.box cells)) (hv:Lent σ cells ds lv) (hp:plainR r=true) (hd:Nat.blt d cx.n=true) :
  OA cx σ ⟨some d,.call { callee := .value (.func f),args := #[x],argTypes:=ats },ty,pos,af,gd⟩ ⟨rdOf x (.ptr id 0)++((.o id,.ob (.box cells))::lv),[(.s d,.av r.av)]⟩:=by
 refine⟨?_,(ev_out hx).2.append ⟨ho,hv.app⟩⟩
 rintro σ1 a w K Q ⟨g,nx,hs⟩ hr hK
 have hxv:=hs.ev (ev_out hx).1 hr.left
 have ho1:get σ1 (.o id) = .ob (.box cells):=hr.right.1
 have hlv:App σ1 lv:=hr.right.2
 obtain⟨b0,hg0,hval⟩:=hxv.1.2 _ ho1
 obtain⟨_,⟨b,cs,t,h0,h1,h2,h3,h4,h5⟩,_⟩:=hs.objs id _ ho1
 obtain rfl:b0=b:=by rw[hg0]at h0;simpa using h0
 have hlt:b0 < w.heap.size:=by
  rcases Nat.lt_or_ge b0 w.heap.size with h|h
  ·
   exact h
  ·
   rw[Array.getElem?_eq_none h]at h2;cases h2
 obtain⟨hlen,hrd⟩:=Lent.rd (own':=fun b=>cx.own g σ1 b∧blk (g id)≠some b∧∀ i∈lids cells,blk (g i)≠some b) hs (fun b hb=>hb.1) hv hlv (fun i hi b hb=>hb.2.2 i hi)
 have harg:Rd w (fun b=>cx.own g σ1 b∧blk (g id)≠some b∧∀ i∈lids cells,blk (g i)≠some b) (a.eval x) (refD ds):=by
  refine rd_ref ⟨_,hval,fun h=>h.2.1 (by rw[hg0];rfl),hlt,fun j z hz=>?_⟩
  have hjd:=(List.getElem?_eq_some_iff.1 hz).1
  have hjl:j < cs.size:=by rw[h3];omega
  have hcs:cs[j]? = some cs[j]:=Array.getElem?_eq_getElem hjl
  have hav:cells[j]? = some (cells[j]'(by omega)):=List.getElem?_eq_getElem (by omega)
  exact⟨cs[j],by rw[add_lit];simp[World.cell?,h2,hcs],h4 _ _ hcs,hrd j z _ _ hz hav (h5 j _ _ hav hcs)⟩
 have hcall:=hc.calls w _ [a.eval x] ⟨fun b hb=>own_lt hs hb.1,hs.gl⟩ ⟨harg,trivial⟩
 unfold Oper.wp
 have hrun:=call_run (a:=a) (d:=d) (ty:=ty) (pos:=pos) (af:=af) (gd:=gd) (w:=w) (xs:=[x]) (ats:=ats) hc.run
 rw[hrun]
 refine hcall.mono fun z w' he=>?_
 obtain⟨v,rfl,hb,hres⟩:=he
 obtain⟨h1,h2⟩:=Res.rep (nx:=nx) (plainR_ok hp (own':=cx.own g σ1) hres)
 exact hK _ _ (Sim.put hs (lt_of_blt hd) hb h1 h2)
end Go.AX
namespace Go.Proofs.YtfpkamiobdkcpaaGreatDoor
open Go.AX Go.RF
set_option maxRecDepth 100000
set_option maxHeartbeats 8000000
theorem new_logOwn (l:List Entry) (hl:l.length≤134217728) (hd:∀ e∈l,e.deeds.length≤134217728∧∀ d∈e.deeds,d.Sm):FnNew Tryz.prog 44 [.d (encEntries l)] 50 2 (l.map Entry.enc):=by
 refine fnNew_of tbl_ok mixed_ok Tryz.func44 rfl (by kernel_rfl) rfl rfl fun w0 own0=>?_
 try refine wk ?_
 refine CW.stut (stut_promote (i:=3) 50 2) ⟨rfl,rfl,trivial⟩ ?_
 refine CW.loopT (fun i:Nat=>[sd 9 (encEntries l),sd 10 (dint l.length),sd 11 (dint i),so 3 0 i,oa 0 50 2 ((l.take i).map Entry.enc),nxt 1]) (fun i=>i≤l.length) (fun i=>l.length - i) 0 (by omega) ?_ ?_
 ·
  exact by_less
 ·
  rintro i hi
  rcases drop_case hi with ⟨h1,h2⟩|⟨e,h1,h2,h3⟩
  ·
   subst h2
   rw[List.take_length]
   try refine wk ?_
   exact RetNew.own rfl rfl (by simp)
  ·
   have h4:(l.take i).map Entry.enc++[e.enc]=(l.take (i+1)).map Entry.enc:=by rw[List.take_add_one,h2];simp
   obtain⟨hel,hed⟩:=hd e (List.mem_of_getElem? h2)
   try refine wk ?_
   refine CW.stut (stut_promote_cell (id:=2) (j:=1) 42 3 rfl) ⟨rfl,rfl,trivial⟩ ?_
   refine CW.loopT (fun j:Nat=>[sd 9 (encEntries l),sd 10 (dint l.length),sd 11 (dint i),so 3 0 i,oa 0 50 2 ((l.take i).map Entry.enc),sp 6 2,(.o 2,.ob (.box [.d (dint e.number),.own 3 j])),oa 3 42 3 ((e.deeds.take j).map Deed.enc),sd 19 (encDeeds e.deeds),sd 20 (dint e.deeds.length),sd 21 (dint j),nxt 4])
    (fun j=>j≤e.deeds.length) (fun j=>e.deeds.length - j) 0 (by omega) ?_ ?_
   ·
    exact by_less
   ·
    rintro j hj
    rcases drop_case hj with ⟨h5,h6⟩|⟨d,h5,h6,h7⟩
    ·
     subst h6
     rw[List.take_length]
     have hst0:StopX 11:=⟨rfl⟩
     try refine wkS ?_
     clear hst0
     refine Stop.go (CW.stut (stut_freeze_cell (id:=2) (j:=1) (i:=3) rfl (by simp)) ⟨rfl,rfl,trivial⟩ ?_)
     have h8:(l.take i).map Entry.enc++[[dint e.number,.sl 3 (e.deeds.map Deed.enc)]]=(l.take (i+1)).map Entry.enc:=h4
     try refine wk ?_
     refine q_loopT (i+1) (by omega) (by omega) ?_
     exact by_less
    ·
     have h8:(e.deeds.take j).map Deed.enc++[d.enc]=(e.deeds.take (j+1)).map Deed.enc:=by rw[List.take_add_one,h6];simp
     have hd:=ok_deedOwn d (hed d (List.mem_of_getElem? h6))
     try refine wk ?_
     refine q_loopT (j+1) (by omega) (by omega) ?_
     exact by_less
theorem ok_logOwn (l:List Entry) (hl:l.length≤134217728) (hd:∀ e∈l,e.deeds.length≤134217728∧∀ d∈e.deeds,d.Sm):FnOk Tryz.prog 44 [.d (encEntries l)] (.one (encEntries l)):=(new_logOwn l hl hd).ok
theorem ok_repNew:FnOk Tryz.prog 26 [] (.one (.agg noR.enc)):=by
 refine fnOk_of tbl_ok mixed_ok Tryz.func26 rfl (by kernel_rfl) rfl rfl fun w0 own0=>?_
 have c1:=ok_pnew [] (by simp)
 have hc:FnOk Tryz.prog 12 [.d (.sl 2 [])] (.one (.agg (newE []).enc)):=c1
 repeat(first|refine wa ?_|((with_reducible apply s5);(first|exact a_call hc rfl by_sub|((with_reducible apply a_buildA);(iterate 4 exact rfl);(repeat(first|exact PartsV.nil|(apply PartsV.cons;exact rfl;exact rfl;(first|exact⟨rfl,trivial⟩|(apply nw_own;exact rfl;(focus first|exact rfl|(simp;done)|(simp;omega)))))));exact rfl)|exact by_oa|exact by_ca);exact by_g)|refine wb ?_)
 exact .one (.cell rfl rfl rfl rfl (.aggd (ds:=[encChains [],encDeeds [],encInts [],encEnds [],dint 0,dint 0,.v nilS]) rfl (DLes.agg (.cons (.refl _) (.cons (.refl _) (.cons (.refl _) (.cons (.refl _) (.cons (.refl _) (.cons (.refl _) (.cons (dle_nil 2) .nil))))))))))
abbrev ownR (r:Replica):List Part:=[.d (encChains r.engine.chains),.d (encDeeds r.engine.deeds),.d (encInts r.engine.state),.d (encEnds r.engine.ends),.d (dint r.engine.base),.d (dint r.next),.own 50 2 (r.early.map Entry.enc)]
theorem news_repOwn (r:Replica) (hs:Replica.Sm r):FnNews Tryz.prog 27 [.d (.agg r.enc)] (ownR r):=by
 refine fnNews_of tbl_ok mixed_ok Tryz.func27 rfl (by kernel_rfl) rfl rfl fun w0 own0=>?_
 have c1:=ok_planOwn r.engine hs.e
 have c2:=new_logOwn r.early hs.l hs.d
 repeat(first|refine wa ?_|((with_reducible apply s5);(first|((with_reducible apply a_buildA);(iterate 4 exact rfl);(repeat(first|exact PartsV.nil|(apply PartsV.cons;exact rfl;exact rfl;(first|exact⟨rfl,trivial⟩|(apply nw_own;exact rfl;(focus first|exact rfl|(simp;done)|(simp;omega)))))));exact rfl)|exact a_callnew c2 rfl rfl by_sub|exact by_oa|exact by_ca);exact by_g)|refine wb ?_)
 refine .cell rfl rfl rfl rfl (.cons .d (.cons .d (.cons .d (.cons .d (.cons .d (.cons .d (.cons (.own rfl (by simp)) .nil))))))) (show([2]:List Nat).Nodup by decide)
theorem ok_repOwn (r:Replica) (hs:Replica.Sm r):FnOk Tryz.prog 27 [.d (.agg r.enc)] (.one (.agg r.enc)):=by
 refine fnOk_of tbl_ok mixed_ok Tryz.func27 rfl (by kernel_rfl) rfl rfl fun w0 own0=>?_
 have c1:=ok_planOwn r.engine hs.e
 have c2:=ok_logOwn r.early hs.l hs.d
 repeat(first|refine wa ?_|((with_reducible apply s5);(first|((with_reducible apply a_buildA);(iterate 4 exact rfl);(repeat(first|exact PartsV.nil|(apply PartsV.cons;exact rfl;exact rfl;(first|exact⟨rfl,trivial⟩|(apply nw_own;exact rfl;(focus first|exact rfl|(simp;done)|(simp;omega)))))));exact rfl)|exact by_oa|exact by_ca);exact by_g)|refine wb ?_)
 exact .one (.cell rfl rfl rfl rfl (.aggd (ds:=r.enc) rfl (.refl _)))
theorem ok_indexE (l:List Entry) (n:Int) (f:FuncId) (ds:List D) (zs:List Arg) (hcap:Caps ds zs) (hp:∀ x∈l,FnOk Tryz.prog f ([.d (.agg x.enc)]++zs) (.one (dbool (decide (x.number=n))))) (hl:l.length≤1073741824) :
  FnOk Tryz.prog 118 [.d (encEntries l),.d (fnD f ds)] (.one (dint (firstN n 0 l))):=by
 refine fnOk_of tbl_ok mixed_ok Tryz.func118 rfl (by kernel_rfl) rfl rfl fun w0 own0=>?_
 try refine wk ?_
 refine CW.loopT (fun t:Nat=>[sd 0 (encEntries l),sd 1 (fnD f ds),sd 7 (dint l.length),sd 8 (dint t),nxt 0])
  (fun t=>t≤l.length∧firstN n t (l.drop t)=firstN n 0 l) (fun t=>l.length - t) 0 ⟨by omega,rfl⟩ ?_ ?_
 ·
  exact by_less
 ·
  rintro t ⟨ht,hI⟩
  rcases drop_case ht with ⟨h1,h2⟩|⟨x,h1,h2,h3⟩
  ·
   rw[h1,firstN]at hI
   try refine wk ?_
   rw[← hI]
   exact .one (.tmp rfl (.one (.d (.refl _))))
  ·
   rw[h1,firstN]at hI
   have hx:=hp x (List.mem_of_getElem? h2)
   by_cases h:x.number=n
   ·
    rw[if_pos h]at hI
    rw[decide_eq_true h]at hx
    repeat(first|refine wa ?_|((with_reducible apply s5);(first|(focus (with_reducible apply(a_callfn (ys:=[.d (.agg x.enc)])));exact hx;exact hcap;exact rfl;exact rfl;exact by_sub)|exact by_oa|exact by_ca);exact by_g)|refine wb ?_)
    rw[← hI]
    exact .one (.tmp rfl (.one (.d (.refl _))))
   ·
    rw[if_neg h]at hI
    rw[decide_eq_false h]at hx
    repeat(first|refine wa ?_|((with_reducible apply s5);(first|(focus (with_reducible apply(a_callfn (ys:=[.d (.agg x.enc)])));exact hx;exact hcap;exact rfl;exact rfl;exact by_sub)|exact by_oa|exact by_ca);exact by_g)|refine wb ?_)
    refine q_loopT (t+1) ⟨by omega,hI⟩ (by omega) ?_
    exact by_less
theorem firstN_has {n:Int}:∀ {l:List Entry}{i:Nat},decide (0≤firstN n i l)=hasN n l
 | [],i=>rfl
 |x::l,i=>by
  simp only[hasN]
  by_cases h:x.number=n
  ·
   have h1:firstN n i (x::l)=(i:Int):=by simp only[firstN];rw[if_pos h]
   rw[if_pos h,h1];exact decide_eq_true (by omega)
  ·
   have h1:firstN n i (x::l)=firstN n (i+1) l:=by simp only[firstN];rw[if_neg h]
   rw[if_neg h,h1,firstN_has]
theorem ok_containsE (l:List Entry) (n:Int) (f:FuncId) (ds:List D) (zs:List Arg) (hcap:Caps ds zs) (hp:∀ x∈l,FnOk Tryz.prog f ([.d (.agg x.enc)]++zs) (.one (dbool (decide (x.number=n))))) (hl:l.length≤1073741824) :
  FnOk Tryz.prog 78 [.d (encEntries l),.d (fnD f ds)] (.one (dbool (hasN n l))):=by
 refine fnOk_of tbl_ok mixed_ok Tryz.func78 rfl (by kernel_rfl) rfl rfl fun w0 own0=>?_
 have c1:=ok_indexE l n f ds zs hcap hp hl
 have h:=firstN_has (n:=n) (l:=l) (i:=0)
 rw[← h]
 generalize firstN n 0 l=k at *
 try refine wk ?_
 exact .one (.tmp rfl (.one (.d (dle_bool rfl))))
end Go.Proofs.YtfpkamiobdkcpaaGreatDoor
namespace Go.Proofs.YtfpkamiobdkcpaaGreatDoor
open Go.AX Go.RF Go.RowKit Go.Shelf Go.Lib
set_option maxHeartbeats 4000000 in
set_option maxRecDepth 100000 in
theorem delete_walkE (g n cap m:Nat) (w:World) (cur:Array Value) (hg:w.heap[g]? = some (.cells cur 50 (0,0))) (hsz:cur.size=cap*2) (hm:m < n) (hn:n≤268435456) (hnc:n≤cap) (hcm:cap≤maxLen) (hone:∀ v∈cur.toList.take (n*2),v.oneCell'=true) :
  Calls Tryz.prog 81 #[.slice (some ⟨g,0,none⟩) n cap,.int .i64 (m:Int),.int .i64 ((m:Int)+1)] w fun e w' =>
   e = .returned (.slice (some ⟨g,0,none⟩) (n - 1) cap)∧∃ m1 cs',w'=(w.drew.setRow g m1).setRow g cs'∧cs'.size=cap*2∧cs'.toList.take ((n - 1)*2)=(cur.toList.take (n*2)).take (m*2)++(cur.toList.take (n*2)).drop ((m+1)*2):=by
 have mixed:=mixed_ok
 have hnm:¬ ((m:Int)=(m:Int)+1):=by omega
 have hT:Tryz.prog.underlying 48=some (.slice 50):=Tryz.underlying48
 have htb:∃ ti,tget tbl 50=some ti∧ti.n=2∧ti.zero=[.int .i64 0,.slice none 0 0]:=⟨_,rfl,rfl,rfl⟩
 obtain⟨ti,ht1,ht2,ht4⟩:=htb
 obtain⟨i0,hi0,hzs,_,z,hz0,hzc⟩:=(tbl_ok _ _ ht1).info
 rw[ht2]at hzs
 rw[ht4]at hzc
 have hcl:n*2≤cur.size:=by rw[hsz];exact Nat.mul_le_mul_right 2 hnc
 obtain⟨news,hnews⟩:∃ news,news=(cur.toList.drop ((m+1)*2)).take ((n - (m+1))*2):=⟨_,rfl⟩
 have hnl:news.length=(n - (m+1))*2:=by rw[hnews];simp;omega
 obtain⟨m1,hm1⟩:∃ m1:List Value,m1=cur.toList.take (m*2)++news++cur.toList.drop (m*2+news.length):=⟨_,rfl⟩
 have hm1l:m1.length=cur.size:=by rw[hm1];simp;omega
 obtain⟨zs,hzs2⟩:∃ zs:List Value,zs=[.int .i64 0,.slice none 0 0]:=⟨_,rfl⟩
 obtain⟨m2,hm2⟩:∃ m2:List Value,m2=m1.take ((m+(n - (m+1)))*2)++zs++m1.drop ((m+(n - (m+1)))*2+zs.length):=⟨_,rfl⟩
 have hm2l:m2.length=cur.size:=by rw[hm2,hzs2];simp;omega
 have hlast:m2.take ((n - 1)*2)=(cur.toList.take (n*2)).take (m*2)++(cur.toList.take (n*2)).drop ((m+1)*2):=by
  have h:=del_cells (cur:=cur.toList) (zs:=zs) hm (by simpa using hcl)
  rw[hm2,hm1,hnews]
  exact h
 have hap:∀ (A:Addr),(cap=m+1∨A=⟨g,(m+1)*2,none⟩)→∀ ty,(Builtin.append_ #[48,48] ty #[.slice (some ⟨g,0,none⟩) m cap,.slice (some A) (n - (m+1)) (cap - (m+1))]).run Tryz.prog w.drew =
   .ok (.slice (some ⟨g,0,none⟩) (m+(n - (m+1))) cap) (w.drew.setRow g m1.toArray):=fun A hA ty=>by
  have hnw:∀ j u,news[j]? = some u→w.drew.cell? (A.add j)=some u:=fun j u hj=>by
   rcases hA with hA|rfl
   ·
    have:news=[]:=List.eq_nil_of_length_eq_zero (by rw[hnl];omega)
    rw[this]at hj;simp at hj
   ·
    rw[hnews,List.getElem?_take]at hj
    split at hj
    ·
     rw[List.getElem?_drop]at hj
     rw[Addr.add_lit]
     have hgd:w.drew.heap[g]? = some (.cells cur 50 (0,0)):=hg
     simp[World.cell?,hgd]
     simpa using hj
    ·
     cases hj
  have ho1:∀ u∈news,u.oneCell'=true:=fun u hu=>by
   obtain⟨j,hj⟩:=List.getElem?_of_mem hu
   rw[hnews,List.getElem?_take]at hj
   split at hj
   ·
    rw[List.getElem?_drop]at hj
    refine hone u (List.mem_of_getElem? (i:=(m+1)*2+j) ?_)
    rw[List.getElem?_take,if_pos (by omega)];exact hj
   ·
    cases hj
  have h:=run_append_room (P:=Tryz.prog) (w:=w.drew) (ty:=ty) 48 50 i0 hT hi0 g m cap cur hg A (n - (m+1)) (cap - (m+1)) news (by rw[hzs];exact hnl) hnw ho1 (by omega) (by rw[hzs,hnl];omega)
  rw[hzs]at h
  rw[hm1]
  exact h
 have hg1:(w.drew.setRow g m1.toArray).heap[g]? = some (.cells m1.toArray 50 (0,0)):=setRow_heap _ _ _ _ _ _ hg
 have hclr:∀ ty,(Builtin.clear_ #[48] ty #[.slice (some ⟨g,(m+(n - (m+1)))*2,none⟩) (n - (m+(n - (m+1)))) (cap - (m+(n - (m+1))))]).run Tryz.prog (w.drew.setRow g m1.toArray) =
   .ok (.tuple #[]) ((w.drew.setRow g m1.toArray).setRow g m2.toArray):=fun ty=>by
  have e1:n - (m+(n - (m+1)))=1:=by omega
  have hst:=run_storeCells_at Tryz.prog g ((m+(n - (m+1)))*2) 50 zs 0 m1.toArray (w.drew.setRow g m1.toArray) hg1 (by rw[hzs2];simp;omega) (by rw[hzs2];simp[Value.oneCell'])
  have hzz:(Builtin.zeroCells z.cells 1).toList=zs:=by
   rw[hzs2,← hzc]
   have h2:z.cells.size=2:=by rw[← Array.length_toList,hzc];rfl
   apply List.ext_getElem
   ·
    simp[Builtin.zeroCells,h2]
   ·
    intro i h3 h4
    have h5:i < 2:=by simpa[h2] using h4
    simp[Builtin.zeroCells,Nat.mod_eq_of_lt h5,h2]
    exact getElem!_pos z.cells i (by omega)
  have hzv:(zeroValue 50).run Tryz.prog (w.drew.setRow g m1.toArray) = .ok z (w.drew.setRow g m1.toArray):=by simp[zeroValue,typeInfo,hi0,hz0]
  rw[e1]
  simp only[Nat.add_zero]at hst
  simp[Builtin.clear_,run_underlying hT,hzv,hzz,hst,hm2]
 have hi1:m≤cap:=by omega
 have hi2:m+1≤cap:=by omega
 have hi3:m+1≤n:=by omega
 clear hm1 hm2 hnews hzs2
 have hj1:(0:Int)≤(m:Int)+1:=by omega
 have hj2:(m:Int)+1≤(n:Int):=by omega
 have hj3:(m:Int)≤(m:Int)+1:=by omega
 have htn:((m:Int)+1).toNat=m+1:=by omega
 by_cases hcj:cap=m+1
 ·
  have hap1:=hap ⟨g,0,none⟩ (.inl hcj)
  obtain rfl:n=m+1:=by omega
  subst hcj
  have hap2:∀ ty,(Builtin.append_ #[48,48] ty #[.slice (some ⟨g,0,none⟩) m (m+1),.slice (some ⟨g,0,none⟩) 0 0]).run Tryz.prog w.drew = .ok (.slice (some ⟨g,0,none⟩) m (m+1)) (w.drew.setRow g m1.toArray):=fun ty=>by simpa using hap1 ty
  have hclr2:∀ ty,(Builtin.clear_ #[48] ty #[.slice (some ⟨g,m*2,none⟩) 1 1]).run Tryz.prog (w.drew.setRow g m1.toArray) = .ok (.tuple #[]) ((w.drew.setRow g m1.toArray).setRow g m2.toArray):=fun ty=>by
   have h:=hclr ty
   rw[show m+1 - (m+1)=0 by omega,show m+0=m by omega,show m+1 - m=1 by omega]at h
   exact h
  clear hap hap1 hclr
  go_enter Tryz.func81,Tryz.ntmps81
  go_wp2_with fail
  go_region_law_o (refine step_append_runI rfl _ _ 48 48 rfl (.slice (some ⟨g,0,none⟩) m (m+1)) (.slice (some ⟨g,0,none⟩) 0 0) (by simp[Act.eval,Act.put]) (by simp[Act.eval,Act.put]) (hap2 _) ?_)
  go_wp2_with (at_builtin;refine wpList_clear_runI rfl _ 48 rfl _ rfl (hclr2 _) ?_)
  go_ret
  exact⟨by rw[show m+1 - 1=m by omega];rfl,_,_,rfl,by simp[hm2l,hsz],by simpa using hlast⟩
 ·
  have hap1:=hap ⟨g,(m+1)*2,none⟩ (.inr rfl)
  clear hap
  go_enter Tryz.func81,Tryz.ntmps81
  go_wp2_with fail
  go_region_law_o (refine step_append_runI rfl _ _ 48 48 rfl (.slice (some ⟨g,0,none⟩) m cap) (.slice (some ⟨g,(m+1)*2,none⟩) (n - (m+1)) (cap - (m+1))) (by simp[Act.eval,Act.put]) (by simp[Act.eval,Act.put]) (hap1 _) ?_)
  go_wp2_with (at_builtin;refine wpList_clear_runI rfl _ 48 rfl _ rfl (hclr _) ?_)
  go_ret
  exact⟨by rw[show n - 1=m+(n - (m+1)) by omega];rfl,_,_,rfl,by simp[hm2l,hsz],by simpa using hlast⟩
theorem upd_deleteE (rows:List (List D)) (m:Nat) (hm:m < rows.length) (hl:rows.length≤268435456) :
  FnUpd Tryz.prog 81 50 2 rows [.d (dint m),.d (dint ((m:Int)+1))] (rows.take m++rows.drop (m+1)):=by
 refine⟨⟨_,Tryz.func81,by kernel_rfl,by kernel_rfl⟩,fun w own v vs hown hR hsep ha=>?_⟩
 match vs,ha with
 | [v1,v2],⟨h1,h2,_⟩ =>
  have e1:=rd_v h1
  have e2:=rd_v h2
  subst e1 e2
  obtain⟨xs,hrow,hone,hrl,hrd⟩:=hR
  have hxl:=hrow.1
  rcases hrow.2 with ⟨_,h0⟩|⟨g,cap,cur,rfl,_,hg,hnc,hcm,hsz,htk⟩
  ·
   omega
  ·
   refine(delete_walkE g rows.length cap m w cur hg hsz hm hl hnc hcm (by rw[htk];exact hone)).mono fun e w'=>?_
   rintro ⟨rfl,m1,cs',rfl,q1,q2⟩
   have hp:∀ b,blk (.slice (some ⟨g,0,none⟩) (rows.length - 1) cap)=some b→blk (.slice (some ⟨g,0,none⟩) rows.length cap)=some b∨w.heap.size≤b:=fun b hb => .inl hb
   have hbb:BelowBut (.slice (some ⟨g,0,none⟩) rows.length cap) w ((w.drew.setRow g m1).setRow g cs'):=⟨rfl,rfl,rfl,by simp[setRow_size],fun b hb hn=>by
    have hbg:b≠g:=fun h=>hn (by rw[h];rfl)
    rw[setRow_other _ _ _ _ hbg,setRow_other _ _ _ _ hbg];rfl⟩
   refine⟨_,rfl,hbb,hp,rows_del hm hbb hp hxl hone hrl hrd ⟨by simp;omega,.inr ⟨g,cap,cs',rfl,Nat.zero_le _,setRow_heap _ _ _ _ _ _ (setRow_heap _ _ _ _ _ _ hg),by omega,hcm,q1,?_⟩⟩⟩
   rw[q2,htk]
end Go.Proofs.YtfpkamiobdkcpaaGreatDoor
namespace Go.Proofs.YtfpkamiobdkcpaaGreatDoor
open Go.AX Go.RF
set_option maxRecDepth 100000
set_option maxHeartbeats 8000000
theorem ok_come1 (x e:Entry):FnOk Tryz.prog 79 [.d (.agg x.enc),.pd e.enc] (.one (dbool (decide (x.number=e.number)))):=by
 refine fnOk_of tbl_ok mixed_ok Tryz.func79 rfl (by kernel_rfl) rfl rfl fun w0 own0=>?_
 try refine wk ?_
 exact .one (.tmp rfl (.one (.d (.refl _))))
theorem ok_early1 (x:Entry) (r:Replica):FnOk Tryz.prog 119 [.d (.agg x.enc),.pd [refD r.enc]] (.one (dbool (decide (x.number=r.next)))):=by
 refine fnOk_of tbl_ok mixed_ok Tryz.func119 rfl (by kernel_rfl) rfl rfl fun w0 own0=>?_
 repeat(first|refine wa ?_|((with_reducible apply s5);(first|((with_reducible apply a_nilref);(iterate 2 exact rfl))|((with_reducible apply a_faref);(iterate 4 exact rfl))|exact by_oa|exact by_ca);exact by_g)|refine wb ?_)
 exact .one (.tmp rfl (.one (.d (.refl _))))
theorem ok_early (r:Replica) (hl:r.early.length≤1073741824):FnOk Tryz.prog 80 [.d (refD r.enc)] (.one (dint (firstN r.next 0 r.early))):=by
 refine fnOk_of tbl_ok mixed_ok Tryz.func80 rfl (by kernel_rfl) rfl rfl fun w0 own0=>?_
 have c1:=ok_indexE r.early r.next 119 [refD [refD r.enc]] [.pd [refD r.enc]] (.ref .nil) (fun x _=>ok_early1 x r) hl
 generalize firstN r.next 0 r.early=k at *
 have hst0:StopR 1:=⟨rfl⟩
 try refine wkS ?_
 clear hst0
 refine Stop.go (CW.stut (stut_freezebox (i:=1) (id:=0) (ds:=[refD r.enc]) rfl) ⟨rfl,rfl,trivial⟩ ?_)
 repeat(first|refine wa ?_|((with_reducible apply s5);(first|((with_reducible apply a_nilref);(iterate 2 exact rfl))|((with_reducible apply a_faref);(iterate 4 exact rfl))|((with_reducible apply a_ldref);(iterate 4 exact rfl))|((with_reducible apply(a_mkfn (ds:=[refD [refD r.enc]])));exact rfl;exact by_sub)|exact by_oa|exact by_ca);exact by_g)|refine wb ?_)
 exact .one (.tmp rfl (.one (.d (.refl _))))
theorem RInv.sm {r:Replica}(h:RInv r):Replica.Sm r:=by
 have hn:=h.n
 refine⟨h.e.z.sm (by omega),by have:=h.l;omega,fun e he=>?_⟩
 obtain⟨_,h2,_,h4⟩:=wrongEntry_out (h.w e he)
 exact⟨by omega,fun d hd=>wrong_sm (h4 d hd)⟩
def noR0:List D:=[.v nilS,.v nilS,.v nilS,.v nilS,dint 0,dint 0,.v nilS]
theorem ok_come (r:Replica) (e:Entry) (h:RInv r) (he:wrongEntry e=0):FnOk Tryz.prog 29 [.d (.agg r.enc),.d (.agg e.enc)] (.tup [.agg (comeE r e).1.enc,dint (comeE r e).2]):=by
 refine fnOk_of tbl_ok mixed_ok Tryz.func29 rfl (by kernel_rfl) rfl rfl fun w0 own0=>?_
 have hl:=h.l
 obtain⟨hn1,hn2,hn3,hn4⟩:=wrongEntry_out he
 have c0:=news_repOwn r h.sm
 have c1:=ok_containsE r.early e.number 79 [refD e.enc] [.pd e.enc] (.ref .nil) (fun x _=>ok_come1 x e) (by omega)
 have c2:=ok_logOwn [e] (by simp) (by simp;exact⟨by omega,fun d hd=>wrong_sm (hn4 d hd)⟩)
 unfold comeE
 have hst0:StopR 2:=⟨rfl⟩
 repeat(first|refine waS ?_|((with_reducible apply s5);(first|exact a_callnews c0 rfl rfl by_sub|exact by_oa|exact by_ca);exact by_g)|refine wb ?_)
 clear hst0
 refine Stop.go (CW.stut (stut_freezebox (i:=3) (id:=1) (ds:=e.enc) rfl) ⟨rfl,rfl,trivial⟩ ?_)
 by_cases h1:e.number < r.next
 ·
  rw[if_pos (.inl h1)]
  repeat(first|refine wa ?_|((with_reducible apply s5);(first|((with_reducible apply a_faref);(iterate 4 exact rfl))|exact by_oa|exact by_ca);exact by_g)|refine wb ?_)
  exact .two (.cell rfl rfl rfl rfl (.agg (.cons (.d (.refl _)) (.cons (.d (.refl _)) (.cons (.d (.refl _)) (.cons (.d (.refl _)) (.cons (.d (.refl _)) (.cons (.d (.refl _)) (.cons (.own rfl (by simp) (.refl _)) .nil))))))))) (.tmp rfl (.one (.d (.refl _))))
 cases h2:hasN e.number r.early with
 |true =>
  rw[if_pos (.inr rfl)]
  rw[h2]at c1
  repeat(first|refine wa ?_|((with_reducible apply s5);(first|((with_reducible apply a_faref);(iterate 4 exact rfl))|((with_reducible apply(a_mkfn (ds:=[refD e.enc])));exact rfl;exact by_sub)|exact by_oa|exact by_ca);exact by_g)|refine wb ?_)
  exact .two (.cell rfl rfl rfl rfl (.agg (.cons (.d (.refl _)) (.cons (.d (.refl _)) (.cons (.d (.refl _)) (.cons (.d (.refl _)) (.cons (.d (.refl _)) (.cons (.d (.refl _)) (.cons (.own rfl (by simp) (.refl _)) .nil))))))))) (.tmp rfl (.one (.d (.refl _))))
 |false =>
  rw[if_neg (by simp;omega)]
  rw[h2]at c1
  by_cases h3:r.next < e.number
  ·
   rw[if_pos h3]
   by_cases h4:4≤r.early.length
   ·
    rw[if_pos h4]
    repeat(first|refine wa ?_|((with_reducible apply s5);(first|((with_reducible apply a_faref);(iterate 4 exact rfl))|((with_reducible apply(a_mkfn (ds:=[refD e.enc])));exact rfl;exact by_sub)|exact by_oa|exact by_ca);exact by_g)|refine wb ?_)
    exact .two (.cell rfl rfl rfl rfl (.agg (.cons (.d (.refl _)) (.cons (.d (.refl _)) (.cons (.d (.refl _)) (.cons (.d (.refl _)) (.cons (.d (.refl _)) (.cons (.d (.refl _)) (.cons (.own rfl (by simp) (.refl _)) .nil))))))))) (.tmp rfl (.one (.d (.refl _))))
   ·
    rw[if_neg h4]
    repeat(first|((with_reducible apply s5);((with_reducible apply a_bs [e.enc]);(iterate 9 exact rfl);(repeat(first|exact PartsE.nil|(apply PartsE.cons;exact rfl;exact rfl))));exact by_g)|refine wa1 ?_|((with_reducible apply s5);(first|((with_reducible apply a_faref);(iterate 4 exact rfl))|((with_reducible apply a_ldref);(iterate 4 exact rfl))|((with_reducible apply(a_mkfn (ds:=[refD e.enc])));exact rfl;exact by_sub)|exact by_oa|exact by_ca);exact by_g)|refine wb ?_)
    exact .two (.cell rfl rfl rfl rfl (.agg (.cons (.d (.refl _)) (.cons (.d (.refl _)) (.cons (.d (.refl _)) (.cons (.d (.refl _)) (.cons (.d (.refl _)) (.cons (.d (.refl _)) (.cons (.own rfl (by simp) (dle_eq (by simp[encEntries]))) .nil))))))))) (.tmp rfl (.one (.d (.refl _))))
  ·
   rw[if_neg h3]
   have hnx:e.number=r.next:=by omega
   have hD:=snoc_inv h he h1 h2
   have hT:drainR (r.early++[e]).length ⟨r.engine,r.next,r.early++[e]⟩=drainR r.early.length ⟨(addE r.engine e.deeds).1,r.next+1,r.early⟩:=by
    rw[← drainR_snoc hnx h2];simp
   generalize drainR r.early.length ⟨(addE r.engine e.deeds).1,r.next+1,r.early⟩=tgt at *
   have hE:FnOk Tryz.prog 80 [.d (refD [encChains r.engine.chains,encDeeds r.engine.deeds,encInts r.engine.state,encEnds r.engine.ends,dint r.engine.base,dint r.next,.sl 2 (r.early.map Entry.enc++[e.enc])])] (.one (dint (firstN r.next 0 (r.early++[e])))):=by
    have:=ok_early ⟨r.engine,r.next,r.early++[e]⟩ (by simp;omega)
    unfold Replica.enc encEntries at this
    rw[List.map_append]at this
    exact this
   have h8:r.early.map Entry.enc++[e.enc]=(r.early++[e]).map Entry.enc:=by simp
   repeat(first|((with_reducible apply s5);((with_reducible apply a_bs [e.enc]);(iterate 9 exact rfl);(repeat(first|exact PartsE.nil|(apply PartsE.cons;exact rfl;exact rfl))));exact by_g)|refine wa1 ?_|((with_reducible apply s5);(first|((with_reducible apply a_faref);(iterate 4 exact rfl))|((with_reducible apply a_ldref);(iterate 4 exact rfl))|((with_reducible apply(a_mkfn (ds:=[refD e.enc])));exact rfl;exact by_sub)|(focus (with_reducible apply a_lendbox);exact hE;exact rfl;exact rfl;exact .d (.d (.d (.d (.d (.d (.own rfl (by simp) .nil))))));exact rfl;exact rfl)|exact by_oa|exact by_ca);exact by_g)|refine wb ?_)
   refine CW.loopT (fun t:Replica=>[sp 4 2,ob 2 noR0,sd 5 (dint 0),sp 6 4,(.o 4,.ob (.box [.d (encChains t.engine.chains),.d (encDeeds t.engine.deeds),.d (encInts t.engine.state),.d (encEnds t.engine.ends),.d (dint t.engine.base),.d (dint t.next),.own 3 t.early.length])),oa 3 50 2 (t.early.map Entry.enc),sd 7 (dint (firstN t.next 0 t.early)),nxt 5])
    (fun t=>DInv t∧drainR t.early.length t=tgt) (fun t=>t.early.length) ⟨r.engine,r.next,r.early++[e]⟩ ⟨hD,hT⟩ ?_ ?_
   ·
    exact by_less
   ·
    rintro t ⟨hI,hJ⟩
    dsimp only
    have htl:=hI.l
    have htn:=hI.n
    rcases firstN_cases (n:=t.next) (l:=t.early) (i:=0) with ⟨k1,k2⟩|⟨k,x,k1,k2,k3⟩
    ·
     rw[drainR_none (by omega)]at hJ
     subst hJ
     rw[k1]
     try refine wk ?_
     exact .two (.cell rfl rfl rfl rfl (.agg (.cons (.d (.refl _)) (.cons (.d (.refl _)) (.cons (.d (.refl _)) (.cons (.d (.refl _)) (.cons (.d (.refl _)) (.cons (.d (.refl _)) (.cons (.own rfl (by simp) (.refl _)) .nil))))))))) (.tmp rfl (.one (.d (.refl _))))
    ·
     rw[Nat.zero_add]at k1
     have hkl:=(List.getElem?_eq_some_iff.1 k2).1
     have hel:=List.length_eraseIdx_of_lt hkl
     have hxm:(t.early.map Entry.enc)[k]? = some x.enc:=by rw[List.getElem?_map,k2];rfl
     obtain⟨x1,x2,x3,x4⟩:=wrongEntry_out (hI.w x (List.mem_of_getElem? k2))
     obtain⟨q,hb⟩:=hI.b
     have ca:=ok_padde t.engine x.deeds _ hI.e hb.S (fun d hd=>wrong_sm (x4 d hd)) (by omega) (by omega)
     have hI2:=take_inv hI k2 k3
     have hJ2:drainR (t.early.eraseIdx k).length ⟨(addE t.engine x.deeds).1,t.next+1,t.early.eraseIdx k⟩=tgt:=by
      rw[hel,← hJ]
      obtain⟨m,hm⟩:∃ m,t.early.length=m+1:=⟨t.early.length - 1,by omega⟩
      rw[hm,drainR_some k1 k2,Nat.add_sub_cancel]
     have hU:=upd_deleteE (t.early.map Entry.enc) k (by simpa using hkl) (by simp;omega)
     have hrw:(t.early.map Entry.enc).take k++(t.early.map Entry.enc).drop (k+1)=(t.early.eraseIdx k).map Entry.enc:=by
      rw[List.eraseIdx_eq_take_drop_succ,List.map_append,List.map_take,List.map_drop]
     rw[hrw]at hU
     generalize (addE t.engine x.deeds).1=E2 at *
     generalize (addE t.engine x.deeds).2=v2 at *
     have hE1:=ok_early ⟨E2,t.next+1,t.early.eraseIdx k⟩ (by dsimp only;omega)
     dsimp only at hE1
     rw[k1]
     have hkk:k < (t.early.map Entry.enc).length:=by simpa using hkl
     have hst0:StopX 15:=⟨rfl⟩
     repeat(first|refine waS ?_|((with_reducible apply s5);(first|(focus ((with_reducible apply a_upd);exact hU;(iterate 3 exact rfl);(focus first|exact rfl|(simp;done)|(simp;omega));exact rfl;exact by_sub))|exact by_oa|exact by_ca);exact by_g)|refine wb ?_)
     clear hst0
     refine Stop.go (CW.ren 3 6 rfl rfl rfl ?_)
     repeat(first|refine wa ?_|((with_reducible apply s5);(first|(focus (with_reducible apply a_lendbox);exact hE1;exact rfl;exact rfl;exact .d (.d (.d (.d (.d (.d (.own rfl (by simp) .nil))))));exact rfl;exact rfl)|exact by_oa|exact by_ca);exact by_g)|refine wb ?_)
     refine q_loopT ⟨E2,t.next+1,t.early.eraseIdx k⟩ ⟨hI2,hJ2⟩ (by dsimp only;omega) ?_
     exact by_less
end Go.Proofs.YtfpkamiobdkcpaaGreatDoor
namespace Go.AX
open Go.RowKit
variable {cx:Cx}{g:Nat→Value}{σ σ':St}{a:Act}{w w':World}{nx:Nat}
variable {ty:TypeId}{pos:String}{af:Array Edge}{gd:Option (Nat×Bool)}{d:Nat}
theorem flatten_len {k:Nat}:∀ {rs:List (List D)},(∀ r∈rs,r.length=k)→rs.flatten.length=rs.length*k
 | [],_=>by simp
 |r::rs,h=>by
  rw[List.flatten_cons,List.length_append,h r (List.mem_cons_self ..),flatten_len fun x hx=>h x (List.mem_cons_of_mem _ hx),List.length_cons,Nat.add_mul,Nat.one_mul,Nat.add_comm]
theorem ok_bsO {t e:TypeId}{n k n0:Nat}{ps:List (Nat×Operand)}{rs:List (List D)}{l:List (Key×Val)}{ti te:TI}(hn:d < cx.n) (ht:tget cx.T t=some ti) (hk:ti.kind = .sl e k)
  (hte:tget cx.T e=some te) (h1:∀ c∈te.zero,Value.oneCell' c=true) (hp:Parts ps (numb 0 rs) l) (hrs:∀ r∈rs,r.length=k) (hnl:n=rs.length) (hsm:n*k≤65536) (hpos:n*k≠0) :
  OpOk cx ⟨some d,.buildSlice t n ⟨ps⟩,ty,pos,af,gd⟩ ⟨(.nx,.num n0)::l,[(.s d,.av (.own n0 n)),(.o n0,.ob (.arr e k rs)),(.nx,.num (n0+1))]⟩:=by
 rintro σ a w K Q ⟨g,nx,hs⟩ hr hK
 obtain⟨hnn,hr⟩:=hr
 have hnx:nx=n0:=by
  have h2:=hs.hnx
  rw[hnn]at h2
  simpa using h2.symm
 subst hnx
 have hF:=(cx.hT t ti ht).kind
 rw[hk]at hF
 obtain⟨hu,⟨ie,hie,hks⟩,hk0,_⟩:=hF
 obtain⟨ie',hie',hes,_,z,hz,hzc⟩:=(cx.hT e te hte).info
 rw[hie]at hie'
 cases hie'
 obtain⟨h2,h3⟩:=hp.ok hs hr
 have hzl:z.cells.size=k:=by
  have:=(cx.hT e te hte).len
  rw[← hzc]at this
  simp at this
  omega
 have hinit:RdL w (cx.own g σ) ((Array.range (n*ie.size)).map (z.cells[· % z.cells.size]!)).toList (((Array.range (n*ie.size)).map (z.cells[· % z.cells.size]!)).toList.map D.v):=by
  refine zero_rd fun c hc=>?_
  simp only[Array.toList_map,List.mem_map]at hc
  obtain⟨q,_,rfl⟩:=hc
  refine h1 _ ?_
  rw[← hzc]
  have hlt:q%z.cells.size < z.cells.size:=Nat.mod_lt _ (by rw[hzl];exact Nat.pos_of_ne_zero fun e=>hpos (by rw[e,Nat.mul_zero]))
  rw[getElem!_pos z.cells _ hlt]
  simp
 have hfr:=fill_rows (k:=k) (n:=n) (rs:=rs) (i:=0) (ds:=((Array.range (n*ie.size)).map (z.cells[· % z.cells.size]!)).toList.map D.v) hrs (by simp[hks]) (by omega)
 rw[Nat.zero_mul,List.take_zero,List.nil_append,List.drop_eq_nil_of_le (by simp[hks,hnl]),List.append_nil]at hfr
 obtain⟨cs',h4,h5⟩:=fill_ok (cs:=(Array.range (n*ie.size)).map (z.cells[· % z.cells.size]!)) h2 h3 hinit hfr
 have hrun:=run_buildSlice (P:=cx.P) w t e n (ps.map fun p=>(p.1,a.eval p.2)).toArray cs' ie z hu hie hz (by rw[hks];omega) (by rw[hks];exact hpos) (by rw[← h4,hks])
 have hflen:rs.flatten.length=n*k:=by rw[hnl];exact flatten_len hrs
 have hcl:cs'.size=n*k:=by have:=h5.1;simp only[Array.length_toList]at this;omega
 have hb:Below w.heap.size w (w.alloc (.cells cs' e)):=(Below.refl _ _).alloc (Nat.le_refl _) _
 have hst:ObjStep cx σ g nx (nx+1) w (w.alloc (.cells cs' e)) nx (.arr e k rs) (.slice (some ⟨w.heap.size,0,none⟩) n n) :=
  ⟨.inl ⟨rfl,rfl⟩,hb.mono hs.below.size,fun c hc _=>hb.block c hc,fun c hc => .inr (by cases hc;exact Nat.le_refl _)⟩
 have hn65:n≤65536:=by
  rcases Nat.eq_zero_or_pos k with h|h
  ·
   exact absurd (by rw[h,Nat.mul_zero]) hpos
  ·
   exact Nat.le_trans (Nat.le_mul_of_pos_right n h) hsm
 have hG:=SimG.obj hs hst (fun hl=>⟨cs'.toList,by
   rw[upd_same,← hnl]
   refine⟨by simpa using hcl,.inr ⟨w.heap.size,n,cs',rfl,hs.below.size,heap_alloc_new w _,Nat.le_refl _,by unfold maxLen;omega,hcl,?_⟩⟩
   rw[List.take_of_length_le (by simp[hcl])],h5.2.1,hrs,fun i j r x v hi hj hv=>by
   have hf:=flat_get hrs hi hj
   exact(h5.2.2 _ v x hf hv).step hl.ext hl.own⟩) trivial
 have hex:(execOp a.eval ⟨some d,.buildSlice t n ⟨ps⟩,ty,pos,af,gd⟩).run cx.P w = .ok (.value (.slice (some ⟨w.heap.size,0,none⟩) n n)) (w.alloc (.cells cs' e)):=by
  simp only[execOp,List.map_toArray,Sem.run_bind,hrun,Result.andThen_ok,Sem.run_pure]
 refine wp_val rfl hex (hK _ _ ?_)
 refine Sim.eqv (Sim.put hG hn (Below.refl _ _) (av := .own nx n) ⟨.of get_cons_same,fun e' k' rows' hg=>?_⟩ (Nat.lt_succ_self nx)) fun q=>?_
 ·
  rw[get_cons_same]at hg
  simp only[Val.ob.injEq,Ob.arr.injEq]at hg
  obtain⟨_,_,rfl⟩:=hg
  exact⟨by omega,fun _=>(upd_same _ _ _).symm⟩
 cases q with
 |s i =>
  by_cases hi:i=d
  ·
   subst hi;rw[get_cons_same];exact get_cons_same.symm
  ·
   rw[get_cons_ne (by simpa using fun e=>hi e.symm),objSt_s]
   exact((get_cons_ne (by simpa using fun e=>hi e.symm)).trans ((get_cons_ne (by simp)).trans (get_cons_ne (by simp)))).symm
 |o i =>
  rw[get_cons_ne (by simp)]
  by_cases hi:i=nx
  ·
   subst hi;rw[get_cons_same];exact((get_cons_ne (by simp)).trans get_cons_same).symm
  ·
   rw[objSt_o hi]
   exact((get_cons_ne (by simp)).trans ((get_cons_ne (by simpa using fun e=>hi e.symm)).trans (get_cons_ne (by simp)))).symm
 |nx =>
  rw[get_cons_ne (by simp),objSt_nx]
  exact((get_cons_ne (by simp)).trans ((get_cons_ne (by simp)).trans get_cons_same)).symm
theorem a_bsO {t e n k n0:Nat}{ps:List (Nat×Operand)}(rs:List (List D)) {l:List (Key×Val)}{ti te:TI}(hn0:get σ .nx = .num n0) (ht:tget cx.T t=some ti) (hk:ti.kind = .sl e k)
  (hte:tget cx.T e=some te) (h1:(te.zero.all Value.oneCell')=true) (hrs:(rs.all fun r=>Nat.beq r.length k)=true) (hnl:n=rs.length) (hsm:Nat.ble (n*k) 65536=true) (hpos:Nat.blt 0 (n*k)=true)
  (hd:Nat.blt d cx.n=true) (hp:PartsE σ ps (numb 0 rs) l):OA cx σ ⟨some d,.buildSlice t n ⟨ps⟩,ty,pos,af,gd⟩ ⟨(.nx,.num n0)::l,[(.s d,.av (.own n0 n)),(.o n0,.ob (.arr e k rs)),(.nx,.num (n0+1))]⟩ :=
 ⟨ok_bsO (lt_of_blt hd) ht hk hte (fun c hc=>List.all_eq_true.1 h1 c hc) hp.out.1 (fun r hr=>by simpa using List.all_eq_true.1 hrs r hr) hnl (by simpa using hsm) (Nat.ne_of_gt (lt_of_blt hpos)),hn0,hp.out.2⟩
end Go.AX
namespace Go.AX
open Go.RowKit Go.Lib
variable {cx:Cx}{g:Nat→Value}{σ σ':St}{a:Act}{w w':World}{nx:Nat}
variable {ty:TypeId}{pos:String}{af:Array Edge}{gd:Option (Nat×Bool)}{d:Nat}
def byteD (c:UInt8):List D:=[.v (.int .u8 c.toNat)]
theorem a_appstr {t t2 e id n:Nat}{x y:Operand}{rows:List (List D)}{s:List UInt8}{ti te si:TI}(hx:ev σ x=some (.own id n)) (ho:get σ (.o id) = .ob (.arr e 1 rows)) (hy:ev σ y=some (.d (.v (str s)))) (ht:tget cx.T t=some ti) (hk:ti.kind = .sl e 1)
  (hte:tget cx.T e=some te) (hzz:∀ w,(zeroValue e).run cx.P w = .ok (.int .u8 0) w) (hb1:te.bytes=1) (hn1:te.n=1) (ht2:tget cx.T t2=some si) (hk2:si.kind = .str) (hd:Nat.blt d cx.n=true) (hnn:n=rows.length) (hlen:rows.length+s.length≤1073741824) :
  OA cx σ ⟨some d,.call { callee := .builtin .append,args := #[x,y],argTypes := #[t,t2] },ty,pos,af,gd⟩
   ⟨rdOf x (.own id n)++(rdOf y (.d (.v (str s)))++[(.o id,.ob (.arr e 1 rows))]),[(.s d,.av (.own id (n+s.length))),(.o id,.ob (.arr e 1 (rows++s.map byteD)))]⟩:=by
 refine⟨?_,(ev_out hx).2.append ((ev_out hy).2.append ⟨ho,trivial⟩)⟩
 rintro σ1 a w K Q ⟨g,nx,hs⟩ hr hK
 subst hnn
 have ho1:get σ1 (.o id) = .ob (.arr e 1 rows):=hr.right.right.1
 have hv:a.eval x=g id:=((hs.ev (ev_out hx).1 hr.left).1.2 e 1 rows ho1).2 rfl
 have hyv:a.eval y=str s:=rd_v (hs.ev (ev_out hy).1 hr.right.left).1
 obtain⟨hid,⟨xs,h1,h2,h3,h4⟩,_⟩:=hs.objs id _ ho1
 have hF:=(cx.hT t ti ht).kind
 rw[hk]at hF
 obtain⟨hu,⟨ie,hie,hks⟩,hk0,_⟩:=hF
 have hF2:=(cx.hT t2 si ht2).kind
 rw[hk2]at hF2
 obtain⟨hu2,_⟩:=hF2
 obtain⟨ie',hie',hes,heb,z,hz,hzc⟩:=(cx.hT e te hte).info
 rw[hie]at hie'
 cases hie'
 have hzv:z = .int .u8 0:=by
  have:=hzz w
  simp[zeroValue,typeInfo,hie,hz]at this
  exact this
 subst hzv
 have hsz:(⟨s.toArray⟩:ByteArray).size=s.length:=by show s.toArray.size=_;simp
 obtain⟨v',w',hrun,hown,hgr,_⟩:=run_append_own_string (P:=cx.P) w cx.w0.heap.size t t2 ty e ie hu hu2 hie hz hks (by rw[heb,hb1]) (g id) rows.length xs h1 ⟨s.toArray⟩ (by simp only[maxLen];omega) (by omega) hs.below.size
 rw[hsz]at hown
 have hst0:strCells ⟨s.toArray⟩=s.map fun b=>Value.int .u8 b.toNat:=by simp[strCells]
 -- where it lies now
 have hat:(v'.ownBlock=(g id).ownBlock∨v'.ownBlock=some w.heap.size)∧(s.length=0→v'=g id):=by
  rcases h1.2 with ⟨e1,e2⟩|⟨gb,cap,cur,e1,hbg,hg,hnc,hcm,hcs,htake⟩
  ·
   by_cases h0:s.length=0
   ·
    have hs0:s=[]:=List.eq_nil_of_length_eq_zero h0
    subst hs0
    have hr2:(Builtin.append_ #[t,t2] ty #[g id,.string ⟨#[]⟩]).run cx.P w = .ok (.slice none 0 0) w:=by
     rw[e1]
     have hf:=run_firstCells_string (P:=cx.P) w 1 ⟨#[]⟩
     have hz2:(⟨#[]⟩:ByteArray).size=0:=rfl
     rw[hz2]at hf
     simp[Builtin.append_,run_underlying hu,run_underlying hu2,sizeOf,typeInfo,hie,hks,Builtin.lenOf,hz2,hf]
    have hr3:(Builtin.append_ #[t,t2] ty #[g id,.string ⟨#[]⟩]).run cx.P w = .ok v' w':=hrun
    rw[hr2]at hr3
    cases hr3
    exact⟨.inl (by rw[e1]),fun _=>e1.symm⟩
   ·
    have hr2:=run_append_nil_string (P:=cx.P) w t t2 ty e ie (.int .u8 0) hu hu2 hie hz ⟨s.toArray⟩ (by omega) (by omega) (by rw[heb,hb1];omega)
    rw[e1]at hrun
    rw[hr2]at hrun
    cases hrun
    exact⟨.inr rfl,fun h=>absurd h h0⟩
  ·
   have hcs':cur.size=cap:=by simpa using hcs
   by_cases hroom:rows.length+s.length≤cap
   ·
    have hr2:=run_append_room_string (P:=cx.P) w t t2 ty e ie hu hu2 hie hks gb rows.length cap cur hg ⟨s.toArray⟩ (by rw[hsz];exact hroom) (by rw[hsz,hcs'];exact hroom)
    rw[e1]at hrun
    rw[hr2]at hrun
    cases hrun
    exact⟨.inl (by rw[e1];rfl),fun h=>by rw[e1,hsz,h];rfl⟩
   ·
    have holds:∀ j u,xs[j]? = some u→w.cell? ((⟨gb,0,none⟩:Addr).add j)=some u:=h1.cells (g:=gb) (by rw[e1];rfl)
    have hr2:=run_append_grow_string (P:=cx.P) w t t2 ty e ie (.int .u8 0) hu hu2 hie hz ⟨gb,0,none⟩ rows.length cap xs (by rw[hks];exact h1.1) holds ⟨s.toArray⟩ (by rw[hsz];omega) (by omega) (by rw[heb,hb1];exact growslice_fits (by omega) (by omega))
    rw[e1]at hrun
    rw[hr2]at hrun
    cases hrun
    exact⟨.inr rfl,fun h=>by omega⟩
 have hgb:∀ b,blk (g id)=some b↔(g id).ownBlock=some b:=fun b=>by rw[blk_own h1]
 have hst:ObjStep cx σ1 g nx nx w w' id (.arr e 1 (rows++s.map byteD)) v':=by
  refine⟨.inr ⟨rfl,_,ho1,rfl,rfl,by simp,fun h=>?_⟩,?_,fun b hb hno=>?_,fun b hb=>?_⟩
  ·
   rw[List.length_append,List.length_map]at h
   rw[upd_same]
   exact hat.2 (by omega)
  ·
   exact(Below.refl _ _).grown hgr hs.below.size fun q hq=>obj_ge hs ho1 (by rw[hgb];exact hq)
  ·
   exact hgr.block b hb fun e=>hno _ ho1 (by rw[hgb];exact e.symm)
  ·
   have hb':v'.ownBlock=some b:=by rw[← blk_own hown];exact hb
   rcases hat.1 with h|h
   ·
    exact .inl ⟨_,ho1,by rw[hgb,← h];exact hb'⟩
   ·
    rw[h]at hb'
    right
    simp at hb'
    omega
 have hG:=SimG.obj hs hst (fun hl=>⟨xs++strCells ⟨s.toArray⟩,by rw[upd_same,List.length_append,List.length_map];exact hown,fun u hu=>?_,fun r hr'=>?_,fun i j r q u hi hj hu=>?_⟩) trivial
 ·
  refine wp_val rfl (v:=v') (w':=w') ?_ (hK _ _ (Sim.eqv (Sim.put hG (lt_of_blt hd) (Below.refl _ _) (av := .own id (rows.length+s.length)) ⟨.of get_cons_same,fun e' k' rows' hg=>?_⟩ hid) fun q=>?_))
  ·
   have:(Builtin.append_ #[t,t2] ty #[a.eval x,a.eval y]).run cx.P w = .ok v' w':=by rw[hv,hyv];exact hrun
   simp[execOp,resolve,invoke,builtin,this]
  ·
   rw[get_cons_same]at hg
   cases hg
   exact⟨by simp,fun _=>(upd_same _ _ _).symm⟩
  ·
   cases q with
   |s i =>
    by_cases hi:i=d
    ·
     subst hi;rw[get_cons_same];exact get_cons_same.symm
    ·
     rw[get_cons_ne (by simpa using fun e=>hi e.symm),objSt_s]
     exact((get_cons_ne (by simpa using fun e=>hi e.symm)).trans (get_cons_ne (by simp))).symm
   |o i =>
    rw[get_cons_ne (by simp)]
    by_cases hi:i=id
    ·
     subst hi
     rw[get_cons_same]
     exact((get_cons_ne (by simp)).trans get_cons_same).symm
    ·
     rw[objSt_o hi]
     exact((get_cons_ne (by simp)).trans (get_cons_ne (by simpa using fun e=>hi e.symm))).symm
   |nx =>
    rw[get_cons_ne (by simp),objSt_nx]
    exact(((get_cons_ne (by simp)).trans (get_cons_ne (by simp))).trans hs.hnx).symm
 ·
  rcases List.mem_append.1 hu with hu|hu
  ·
   exact h2 u hu
  ·
   exact strCells_oneCell _ u hu
 ·
  rcases List.mem_append.1 hr' with hr'|hr'
  ·
   exact h3 r hr'
  ·
   obtain⟨c,_,rfl⟩:=List.mem_map.1 hr'
   rfl
 ·
  have hxl:xs.length=rows.length:=by have:=h1.1;omega
  rcases Nat.lt_or_ge i rows.length with hil|hil
  ·
   rw[List.getElem?_append_left hil]at hi
   have hjk:j < 1:=by
    have:=(List.getElem?_eq_some_iff.1 hj).1
    rw[h3 r (List.mem_of_getElem? hi)]at this
    exact this
   rw[List.getElem?_append_left (by omega)]at hu
   exact(h4 i j r q u hi hj hu).step hl.ext hl.own
  ·
   rw[List.getElem?_append_right hil,List.getElem?_map,Option.map_eq_some_iff]at hi
   obtain⟨c,hc,rfl⟩:=hi
   have hj0:j=0:=by
    have:=(List.getElem?_eq_some_iff.1 hj).1
    simp[byteD]at this
    exact this
   subst hj0
   simp[byteD]at hj
   subst hj
   rw[List.getElem?_append_right (by omega),hst0,List.getElem?_map,show i*1+0 - xs.length=i - rows.length by omega,hc]at hu
   obtain rfl:Value.int .u8 c.toNat=u:=by simpa using hu
   exact Rd.v _
theorem foldl_push:∀ (s:List UInt8) (b:ByteArray),(s.map fun c=>(c.toNat:Int)).foldl (fun r n=>r.push (UInt8.ofNat n.toNat)) b=⟨(b.data.toList++s).toArray⟩
 | [],b=>by simp
 |c::s,b=>by
  rw[List.map_cons,List.foldl_cons,foldl_push s]
  congr 1
  have:UInt8.ofNat (c.toNat:Int).toNat=c:=by
   apply UInt8.toNat_inj.1
   rw[Int.toNat_natCast,UInt8.toNat_ofNat']
   have:=c.toNat_lt
   omega
  rw[this]
  simp[ByteArray.push]
theorem a_b2s {t t2 e:Nat}{x:Operand}{s:List UInt8}{ti te si:TI}(hx:ev σ x=some (.d (.sl 1 (s.map byteD)))) (ht:tget cx.T t=some ti) (hk:ti.kind = .sl e 1) (hte:tget cx.T e=some te) (hke:te.kind = .int .u8) (ht2:tget cx.T t2=some si) (hk2:si.kind = .str) (hd:Nat.blt d cx.n=true) :
  OA cx σ ⟨some d,.convert t t2 x,ty,pos,af,gd⟩ ⟨rdOf x (.d (.sl 1 (s.map byteD))),[(.s d,.av (.d (.v (str s))))]⟩:=by
 refine⟨ok_val rfl (lt_of_blt hd) fun σ1 a w g nx hs hr=>⟨str s,w,?_,Below.refl _ _,Rd.v _,trivial⟩,(ev_out hx).2⟩
 have hr1:Rd w (cx.own g σ1) (a.eval x) (.sl 1 (s.map byteD)):=(hs.ev (ev_out hx).1 hr).1
 have hF:=(cx.hT t ti ht).kind
 rw[hk]at hF
 obtain⟨hu,_⟩:=hF
 have hF2:=(cx.hT t2 si ht2).kind
 rw[hk2]at hF2
 obtain⟨hu2,_⟩:=hF2
 have hF3:=(cx.hT e te hte).kind
 rw[hke]at hF3
 obtain⟨hu3,_⟩:=hF3
 have key:∃ ad l c,a.eval x = .slice ad l c∧(Conv.bytesToString (.slice ad l c)).run cx.P w = .ok (str s) w:=by
  by_cases h0:s=[]
  ·
   subst h0
   generalize a.eval x=v at hr1
   generalize hD:D.sl 1 (List.map byteD [])=D0 at hr1
   cases hr1 with
   |v=>cases hD
   |x=>cases hD
   |agg=>cases hD
   |nil p c =>
    refine⟨p,0,c,rfl,?_⟩
    cases p with
    |none=>simp[Conv.bytesToString];rfl
    |some ad=>exact run_bytesToString w ad 0 c [] (run_loadCells_list w ad [] (fun j v h=>by simp at h))
   |sl ad cap k rows hb hs2 =>
    cases hD
    refine⟨some ad,_,cap,rfl,?_⟩
    exact run_bytesToString w ad 0 cap [] (run_loadCells_list w ad [] (fun j v h=>by simp at h))
  ·
   obtain⟨ad,c,news,h1,h2,h3,h4,h5⟩:=sl_cells hr1 (by simpa using h0)
   refine⟨some ad,_,c,h1,?_⟩
   have hnews:news=(s.map fun c=>(c.toNat:Int)).map (Value.int .u8):=by
    refine List.ext_getElem? fun j=>?_
    rw[List.map_map,List.getElem?_map]
    cases hj:s[j]? with
    |none =>
     have:=List.getElem?_eq_none_iff.1 hj
     rw[List.getElem?_eq_none (by rw[h2,List.length_map];omega)];rfl
    |some b =>
     have hlt:=(List.getElem?_eq_some_iff.1 hj).1
     obtain⟨u,hu⟩:∃ u,news[j]? = some u:=⟨news[j]'(by rw[h2,List.length_map];omega),List.getElem?_eq_getElem _⟩
     have:=h5 j 0 (byteD b) (.v (.int .u8 b.toNat)) u (by rw[List.getElem?_map,hj];rfl) rfl (by rw[show j*1+0=j by omega];exact hu)
     rw[hu,rd_v this];rfl
   have hl:(loadCells ad (s.map byteD).length).run cx.P w = .ok ((s.map fun c=>(c.toNat:Int)).map (Value.int .u8)).toArray w:=by
    have:=run_loadCells_list (P:=cx.P) w ad news h3
    rw[hnews]at this
    simpa using this
   have:=run_bytesToString w ad (s.map byteD).length c _ hl
   rw[foldl_push]at this
   exact this
 obtain⟨ad,l,c,h1,h2⟩:=key
 have hc:=run_convert_bytes_string (P:=cx.P) w t t2 e ad l c hu hu3 hu2
 simp[execOp,h1,hc,h2]
theorem wrap_u8_in {n:Int}(h:0≤n∧n≤255):IntKind.u8.wrap n=n:=by
 rw[IntKind.wrap_u8];omega
theorem bin_shr8 {P:Program}{t:TypeId}{k:IntKind}{n:Int}:BinR P .shr t (.int .i64 n) (.int k 8) (.int .i64 (n / 256)):=by
 intro w x y
 rw[eqGuard_shr,binOp_shr,shift_shr .i64 k n 8 (by omega) (by decide)]
 rfl
theorem bin_shl8 {P:Program}{t:TypeId}{k:IntKind}{n:Nat}(h:n < 256):BinR P .shl t (.int .i64 n) (.int k 8) (.int .i64 ((n:Int)*256)):=by
 intro w x y
 have:IntKind.i64.wrap ((n:Int)*2 ^ min (8:Int).toNat IntKind.i64.bits)=(n:Int)*256:=by
  rw[show(2:Int) ^ min (8:Int).toNat IntKind.i64.bits=256 by decide]
  exact wrap_in (by omega)
 rw[eqGuard_shl,binOp_shl,shift_shl_any .i64 k n 8 (by omega),this]
 rfl
theorem bin_or8 {P:Program}{t:TypeId}{n m:Nat}(h:n < 256) (hm:m < 256):BinR P .or t (.int .i64 ((n:Int)*256)) (.int .i64 (m:Int)) (.int .i64 ((n:Int)*256+m)):=by
 intro w x y
 have h1:(BitVec.ofInt IntKind.i64.bits ((n:Int)*256)).toNat=n*256:=by
  rw[BitVec.toNat_ofInt,show IntKind.i64.bits=64 from rfl];omega
 have h2:(BitVec.ofInt IntKind.i64.bits (m:Int)).toNat=m:=by
  rw[BitVec.toNat_ofInt,show IntKind.i64.bits=64 from rfl];omega
 have h3:n*256 ||| m=n*256+m:=by
  have:=Nat.shiftLeft_add_eq_or_of_lt (i:=8) (b:=m) (by omega) n
  rw[Nat.shiftLeft_eq]at this
  exact this.symm
 have h4:(BitVec.ofInt IntKind.i64.bits ((n:Int)*256) ||| BitVec.ofInt IntKind.i64.bits (m:Int)).toNat=n*256+m:=by rw[BitVec.toNat_or,h1,h2,h3]
 have h5:IntKind.i64.wrap ((n*256+m:Nat):Int)=(n:Int)*256+m:=by rw[wrap_in (by omega)];omega
 rw[eqGuard_or,binOp_or]
 unfold Op.intBits
 simp only[h4,h5]
 rfl
end Go.AX
namespace Go.AX
open Go.RowKit
variable {cx:Cx}{g:Nat→Value}{σ σ':St}{a:Act}{w w':World}{nx:Nat}
variable {ty:TypeId}{pos:String}{af:Array Edge}{gd:Option (Nat×Bool)}{d:Nat}
def mgetI (M:List (Int×Value)) (k:Int):Option Value:=match M with
 | []=>none
 |(s,v)::r=>if s=k then some v else mgetI r k
def msetI (M:List (Int×Value)) (k:Int) (v:Value):List (Int×Value):=match M with
 | []=>[(k,v)]
 |(s,u)::r=>if s=k then (s,v)::r else (s,u)::msetI r k v
def mfindI (k:Int):List (Int×Value)→Nat→Option (Nat×Value)
 | [],_=>none
 |(s,v)::r,i=>if s=k then some (i,v) else mfindI k r (i+1)
theorem mfindI_get (k:Int):∀ (M:List (Int×Value)) (i:Nat),(mfindI k M i).map (·.2)=mgetI M k
 | [],_=>rfl
 |(s,v)::M,i=>by
  simp only[mfindI,mgetI]
  split
  ·
   rfl
  ·
   exact mfindI_get k M (i+1)
def mlookI (zv:Value) (M:List (Int×Value)) (k:Int):Value:=(mgetI M k).getD zv
theorem mfindI_some {k:Int}{us v:Value}:∀ {M:List (Int×Value)}{j i:Nat},mfindI k M j=some (i,v)→∃ n,i=j+n∧M[n]? = some (k,v)∧msetI M k us=M.set n (k,us)
 | [],j,i,h=>by cases h
 |(s,u)::M,j,i,h=>by
  simp only[mfindI]at h
  by_cases hs:s=k
  ·
   rw[if_pos hs]at h
   cases h
   exact⟨0,rfl,by simp[hs],by simp[msetI,hs]⟩
  ·
   rw[if_neg hs]at h
   obtain⟨n,h1,h2,h3⟩:=mfindI_some (us:=us) h
   exact⟨n+1,by omega,by simpa using h2,by simp[msetI,hs,h3]⟩
theorem mfindI_none {k:Int}{us:Value}:∀ {M:List (Int×Value)}{j:Nat},mfindI k M j=none→msetI M k us=M++[(k,us)]
 | [],j,_=>rfl
 |(s,u)::M,j,h=>by
  simp only[mfindI]at h
  by_cases hs:s=k
  ·
   rw[if_pos hs]at h;cases h
  ·
   rw[if_neg hs]at h
   simp[msetI,hs,mfindI_none h]
end Go.AX
namespace Go.AX
open Go.RowKit
variable {cx:Cx}{g:Nat→Value}{σ σ':St}{a:Act}{w w':World}{nx:Nat}
variable {ty:TypeId}{pos:String}{af:Array Edge}{gd:Option (Nat×Bool)}{d:Nat}
theorem ok_gennew {op:Op}{l:List (Key×Val)}{n0:Nat}(p:Value→Obj→Prop) (hd:d < cx.n)
  (hex:∀ σ a w g nx,SimG cx σ a w g nx→App σ l→∃ v o,(execOp a.eval ⟨some d,op,ty,pos,af,gd⟩).run cx.P w = .ok (.value v) (w.alloc o)∧blk v=some w.heap.size∧p v o) :
  OpOk cx ⟨some d,op,ty,pos,af,gd⟩ ⟨(.nx,.num n0)::l,[(.s d,.av (.h n0)),(.o n0,.ob (.gen p)),(.nx,.num (n0+1))]⟩:=by
 rintro σ a w K Q ⟨g,nx,hs⟩ hr hK
 obtain⟨hn,hl⟩:=hr
 have hnx:nx=n0:=by
  have h2:=hs.hnx
  rw[hn]at h2
  simpa using h2.symm
 subst hnx
 obtain⟨v,o,hrun,hbv,hp⟩:=hex σ a w g nx hs hl
 have hb:Below w.heap.size w (w.alloc o):=(Below.refl _ _).alloc (Nat.le_refl _) _
 have hst:ObjStep cx σ g nx (nx+1) w (w.alloc o) nx (.gen p) v :=
  ⟨.inl ⟨rfl,rfl⟩,hb.mono hs.below.size,fun c hc _=>hb.block c hc,fun c hc => .inr (by rw[hbv]at hc;cases hc;exact Nat.le_refl _)⟩
 have hG:=SimG.obj hs hst (fun _=>⟨w.heap.size,o,by rw[upd_same];exact hbv,hs.below.size,heap_alloc_new w _,by rw[upd_same];exact hp⟩) trivial
 refine wp_val rfl hrun (hK _ _ ?_)
 refine Sim.eqv (Sim.put hG hd (Below.refl _ _) (av := .h nx) ⟨.of get_cons_same,fun p' _ _=>(upd_same _ _ _).symm⟩ (Nat.lt_succ_self nx)) fun q=>?_
 cases q with
 |s i =>
  by_cases hi:i=d
  ·
   subst hi;rw[get_cons_same];exact get_cons_same.symm
  ·
   rw[get_cons_ne (by simpa using fun e=>hi e.symm),objSt_s]
   exact((get_cons_ne (by simpa using fun e=>hi e.symm)).trans ((get_cons_ne (by simp)).trans (get_cons_ne (by simp)))).symm
 |o i =>
  rw[get_cons_ne (by simp)]
  by_cases hi:i=nx
  ·
   subst hi;rw[get_cons_same];exact((get_cons_ne (by simp)).trans get_cons_same).symm
  ·
   rw[objSt_o hi]
   exact((get_cons_ne (by simp)).trans ((get_cons_ne (by simpa using fun e=>hi e.symm)).trans (get_cons_ne (by simp)))).symm
 |nx =>
  rw[get_cons_ne (by simp),objSt_nx]
  exact((get_cons_ne (by simp)).trans ((get_cons_ne (by simp)).trans get_cons_same)).symm
theorem gen_set (hs:SimG cx σ a w g nx) {id b:Nat}{p p':Value→Obj→Prop}{o':Obj}(ho:get σ (.o id) = .ob (.gen p)) (hb:blk (g id)=some b) (hlt:b < w.heap.size) (hp:p' (g id) o') :
  SimG cx (objSt σ nx id (.gen p')) a { w with heap:=w.heap.setIfInBounds b o' } (upd g id (g id)) nx:=by
 have hoth:∀ c,c≠b→({ w with heap:=w.heap.setIfInBounds b o' }:World).heap[c]? = w.heap[c]? := fun c hc=>by
  show(w.heap.setIfInBounds b _)[c]? = _
  rw[Array.getElem?_setIfInBounds,if_neg (fun e=>hc e.symm)]
 obtain⟨hid,⟨b1,o1,h1,h2,h3,h4⟩,_⟩:=hs.objs id _ ho
 obtain rfl:b1=b:=Option.some.inj (h1.symm.trans hb)
 have hst:ObjStep cx σ g nx nx w { w with heap:=w.heap.setIfInBounds b1 o' } id (.gen p') (g id) :=
  ⟨.inr ⟨rfl,_,ho,by simp[ObLe,upd_same]⟩,⟨rfl,rfl,rfl,by simp,fun c hc=>hoth c (by omega)⟩,fun c hc hn=>hoth c fun e=>hn _ ho (by rw[hb,e]),fun c hc => .inl ⟨_,ho,hc⟩⟩
 exact SimG.obj hs hst (fun _=>⟨b1,o',by rw[upd_same];exact hb,h2,by show(w.heap.setIfInBounds b1 _)[b1]? = _;rw[Array.getElem?_setIfInBounds,if_pos rfl,if_pos hlt],by rw[upd_same];exact hp⟩) trivial
theorem gen_at (hs:SimG cx σ a w g nx) {id:Nat}{p:Value→Obj→Prop}{x:Value}(ho:get σ (.o id) = .ob (.gen p)) (hr:Rep cx g σ w x (.h id)) :
  ∃ b o,blk x=some b∧blk (g id)=some b∧b < w.heap.size∧w.heap[b]? = some o∧p x o∧x=g id:=by
 obtain⟨_,⟨b,o,h1,h2,h3,h4⟩,_⟩:=hs.objs id _ ho
 have hx:x=g id:=hr.2 _ ho rfl
 refine⟨b,o,by rw[hx];exact h1,h1,?_,h3,by rw[hx];exact h4,hx⟩
 rcases Nat.lt_or_ge b w.heap.size with h|h
 ·
  exact h
 ·
  rw[Array.getElem?_eq_none h]at h3;cases h3
def ItP (s:List UInt8) (k:Nat):Value→Obj→Prop:=fun v o=>(∃ b,v = .pointer (some ⟨b,0,none⟩))∧o = .stringIter ⟨s.toArray⟩ k
theorem a_range {t:TypeId}{x:Operand}{s:List UInt8}{n0:Nat}(hn:get σ .nx = .num n0) (hx:ev σ x=some (.d (.v (str s)))) (ht:cx.P.underlying t=some .string) (hd:Nat.blt d cx.n=true) :
  OA cx σ ⟨some d,.range t x,ty,pos,af,gd⟩ ⟨(.nx,.num n0)::rdOf x (.d (.v (str s))),[(.s d,.av (.h n0)),(.o n0,.ob (.gen (ItP s 0))),(.nx,.num (n0+1))]⟩:=by
 refine⟨ok_gennew (ItP s 0) (lt_of_blt hd) fun σ a w g nx hs hl=>⟨.pointer (some ⟨w.heap.size,0,none⟩),.stringIter ⟨s.toArray⟩ 0,?_,rfl,⟨_,rfl⟩,rfl⟩,hn,(ev_out hx).2⟩
 have hv:=rep_v (hs.ev (ev_out hx).1 hl).1
 simp[execOp,hv,Instr.range,run_underlying ht,newObj,Result.andThen]
 rfl
theorem decode_ascii {s:List UInt8}{k:Nat}{c:UInt8}(h:s[k]? = some c) (hc:c.toNat < 128):Utf8.decode ⟨s.toArray⟩ k=(c.toNat,1):=by
 have hg:(⟨s.toArray⟩:ByteArray).get! (k+0)=c:=by
  show s.toArray[k+0]! = c
  rw[Nat.add_zero,Array.getElem!_eq_getD,Array.getD_eq_getD_getElem?]
  simp[h]
 unfold Utf8.decode
 simp only[hg]
 rw[if_pos hc]
theorem a_next {x:Operand}{s:List UInt8}{k:Nat}{c:UInt8}(id:Nat) (hx:ev σ x=some (.h id)) (ho:get σ (.o id) = .ob (.gen (ItP s k))) (hk:s[k]? = some c) (hc:c.toNat < 128) (hd:Nat.blt d cx.n=true) :
  OA cx σ ⟨some d,.next x true,ty,pos,af,gd⟩ ⟨rdOf x (.h id)++[(.o id,.ob (.gen (ItP s k)))],
   [(.s d,.av (.tup [.d (.v (.bool true)),.d (.v (.int .i64 k)),.d (.v (.int .i32 c.toNat))])),(.o id,.ob (.gen (ItP s (k+1))))]⟩:=by
 refine⟨?_,(ev_out hx).2.append ⟨ho,trivial⟩⟩
 rintro σ a w K Q ⟨g,nx,hs⟩ hr hK
 have ho:=hr.right.1
 obtain⟨b,o,h1,h2,h3,h4,⟨⟨b',h7⟩,h5⟩,h6⟩:=gen_at hs ho (hs.ev (ev_out hx).1 hr.left).1
 subst h5
 obtain rfl:b'=b:=by rw[h7]at h1;simpa[blk] using h1
 have hkl:=(List.getElem?_eq_some_iff.1 hk).1
 have hdec:=decode_ascii hk hc
 have hG:=gen_set hs (p':=ItP s (k+1)) (o' := .stringIter ⟨s.toArray⟩ (k+1)) ho h2 h3 ⟨⟨b',by rw[← h6];exact h7⟩,rfl⟩
 have hrun:(execOp a.eval ⟨some d,.next x true,ty,pos,af,gd⟩).run cx.P w = .ok (.value (.tuple #[.bool true,.int .i64 k,.int .i32 c.toNat])) { w with heap:=w.heap.setIfInBounds b' (.stringIter ⟨s.toArray⟩ (k+1)) }:=by
  have hsz:k < (⟨s.toArray⟩:ByteArray).size:=by show k < s.toArray.size;simpa using hkl
  have hget:(getObj b').run cx.P w = .ok (.stringIter ⟨s.toArray⟩ k) w:=by simp[getObj,Sem.run,h4]
  have hset:∀ o,(setObj b' o).run cx.P w = .ok () { w with heap:=w.heap.setIfInBounds b' o }:=fun o=>by simp[setObj,Sem.run,h4]
  simp[execOp,h7,Instr.next,hget,hset,hsz,hdec,goInt,Result.andThen]
 refine wp_val rfl hrun (hK _ _ (Sim.eqv (Sim.put hG (lt_of_blt hd) (Below.refl _ _) (av := .tup [.d (.v (.bool true)),.d (.v (.int .i64 k)),.d (.v (.int .i32 c.toNat))]) ⟨_,rfl,rfl,fun j x av hj hc=>?_⟩ (by intro av hav;simp at hav;rcases hav with rfl|rfl|rfl <;> trivial)) fun q=>?_))
 ·
  match j,hj,hc with
  |0,hj,hc=>simp at hj hc;subst hj hc;exact Rd.v _
  |1,hj,hc=>simp at hj hc;subst hj hc;exact Rd.v _
  |2,hj,hc=>simp at hj hc;subst hj hc;exact Rd.v _
  |j+3,hj,hc=>simp at hj
 cases q with
 |s i =>
  by_cases hi:i=d
  ·
   subst hi;rw[get_cons_same];exact get_cons_same.symm
  ·
   rw[get_cons_ne (by simpa using fun e=>hi e.symm),objSt_s]
   exact((get_cons_ne (by simpa using fun e=>hi e.symm)).trans (get_cons_ne (by simp))).symm
 |o i =>
  rw[get_cons_ne (by simp)]
  by_cases hi:i=id
  ·
   subst hi;rw[get_cons_same];exact((get_cons_ne (by simp)).trans get_cons_same).symm
  ·
   rw[objSt_o hi]
   exact((get_cons_ne (by simp)).trans (get_cons_ne (by simpa using fun e=>hi e.symm))).symm
 |nx =>
  rw[get_cons_ne (by simp),objSt_nx]
  exact(((get_cons_ne (by simp)).trans (get_cons_ne (by simp))).trans hs.hnx).symm
theorem a_nextE {x:Operand}{s:List UInt8}{k:Nat}(id:Nat) (hx:ev σ x=some (.h id)) (ho:get σ (.o id) = .ob (.gen (ItP s k))) (hk:s.length≤k) (hd:Nat.blt d cx.n=true) :
  OA cx σ ⟨some d,.next x true,ty,pos,af,gd⟩ ⟨rdOf x (.h id)++[(.o id,.ob (.gen (ItP s k)))],[(.s d,.av (.tup [.d (.v (.bool false))]))]⟩:=by
 refine⟨?_,(ev_out hx).2.append ⟨ho,trivial⟩⟩
 rintro σ a w K Q ⟨g,nx,hs⟩ hr hK
 have ho:=hr.right.1
 obtain⟨b,o,h1,h2,h3,h4,⟨⟨b',h7⟩,h5⟩,h6⟩:=gen_at hs ho (hs.ev (ev_out hx).1 hr.left).1
 subst h5
 obtain rfl:b'=b:=by rw[h7]at h1;simpa[blk] using h1
 have hrun:(execOp a.eval ⟨some d,.next x true,ty,pos,af,gd⟩).run cx.P w = .ok (.value (.tuple #[.bool false])) w:=by
  have hsz:¬ k < (⟨s.toArray⟩:ByteArray).size:=by show ¬ k < s.toArray.size;simp;omega
  have hget:(getObj b').run cx.P w = .ok (.stringIter ⟨s.toArray⟩ k) w:=by simp[getObj,Sem.run,h4]
  simp[execOp,h7,Instr.next,hget,hsz,Result.andThen]
 refine wp_val rfl hrun (hK _ _ (Sim.put hs (lt_of_blt hd) (Below.refl _ _) (av := .tup [.d (.v (.bool false))]) ⟨_,rfl,rfl,fun j x av hj hc=>?_⟩ (by intro av hav;simp at hav;subst hav;trivial)))
 match j,hj,hc with
 |0,hj,hc=>simp at hj hc;subst hj hc;exact Rd.v _
 |j+1,hj,hc=>simp at hj
end Go.AX
namespace Go.AX
open Go.RowKit Go.Lib
variable {cx:Cx}{g:Nat→Value}{σ σ':St}{a:Act}{w w':World}{nx:Nat}
variable {ty:TypeId}{pos:String}{af:Array Edge}{gd:Option (Nat×Bool)}{d:Nat}
def BytP (s:List UInt8):Value→Obj→Prop:=fun v o=>∃ (b cap:Nat) (cur:Array Value) (e:TypeId) (fz:Nat×Nat),v = .slice (some ⟨b,0,none⟩) s.length cap∧o = .cells cur e fz∧cur.size=cap∧s.length≤cap∧cap≤fz.1 ∧
 ∀ (j:Nat) (c:UInt8),s[j]? = some c→cur[j]? = some (.int .u8 c.toNat)
theorem rd_bytes {own:Nat→Prop}{b cap:Nat}{cur:Array Value}{e:TypeId}{fz:Nat×Nat}{s:List UInt8}(hb:w.heap[b]? = some (.cells cur e fz)) (ho:¬ own b) (hc:s.length≤cap)
  (h:∀ (j:Nat) (c:UInt8),s[j]? = some c→cur[j]? = some (.int .u8 c.toNat)):Rd w own (.slice (some ⟨b,0,none⟩) s.length cap) (.sl 1 (s.map byteD)):=by
 have hlt:b < w.heap.size:=by
  rcases Nat.lt_or_ge b w.heap.size with h|h
  ·
   exact h
  ·
   rw[Array.getElem?_eq_none h]at hb;cases hb
 have key:∀ (i j:Nat) (r:List D) (x:D),(s.map byteD)[i]? = some r→r[j]? = some x→∃ c,s[i]? = some c∧j=0∧x = .v (.int .u8 c.toNat):=fun i j r x hi hj=>by
  rw[List.getElem?_map,Option.map_eq_some_iff]at hi
  obtain⟨c,hc,rfl⟩:=hi
  have hj0:j=0:=by
   have:=(List.getElem?_eq_some_iff.1 hj).1
   simp[byteD]at this
   exact this
  subst hj0
  simp[byteD]at hj
  exact⟨c,hc,rfl,hj.symm⟩
 have:=Rd.sl (w:=w) (own:=own) ⟨b,0,none⟩ cap 1 (s.map byteD) (fun i _ => .int .u8 (s.getD i 0).toNat) ho hlt (by simpa using hc) (fun r hr=>by obtain⟨c,_,rfl⟩:=List.mem_map.1 hr;rfl)
  (fun i j r x hi hj=>by
   obtain⟨c,h1,rfl,_⟩:=key i j r x hi hj
   rw[add_lit,show 0+(i*1+0)=i by omega]
   simp only[World.cell?,hb]
   rw[h i c h1,List.getD_eq_getElem?_getD,h1]
   rfl)
  (fun i j r x hi hj=>rfl)
  (fun i j r x hi hj=>by
   obtain⟨c,h1,rfl,rfl⟩:=key i j r x hi hj
   rw[List.getD_eq_getElem?_getD,h1]
   exact Rd.v _)
 rw[List.length_map]at this
 exact this
theorem bytes_cells (w:World) (e:TypeId) (s:List UInt8):(bytesCells w e ⟨s.toArray⟩).size=grownCap w s.length 0 e∧s.length≤grownCap w s.length 0 e∧∀ (j:Nat) (c:UInt8),s[j]? = some c→(bytesCells w e ⟨s.toArray⟩)[j]? = some (.int .u8 c.toNat):=by
 have hsz:(⟨s.toArray⟩:ByteArray).size=s.length:=by show s.toArray.size=_;simp
 have hge:=grownCap_ge w s.length 0 e
 refine⟨?_,hge,fun j c hj=>?_⟩
 ·
  unfold bytesCells
  rw[hsz]
  simp
  omega
 ·
  have hlt:=(List.getElem?_eq_some_iff.1 hj).1
  unfold bytesCells
  rw[Array.getElem?_append_left (by simpa using hlt)]
  simp[hj]
theorem bytes_below {B:Nat}(w:World) (e:TypeId) (s:ByteArray) (hB:B≤w.heap.size):Below B w (bytesWorld w e s) :=
 ⟨rfl,rfl,rfl,by rw[bytesWorld_size];omega,fun k hk=>bytesWorld_at_old w e s k (by omega)⟩
theorem run_s2b {t t2 e:Nat}{si ti te:TI}{s:List UInt8}(ht:tget cx.T t=some si) (hk:si.kind = .str) (ht2:tget cx.T t2=some ti) (hk2:ti.kind = .sl e 1) (hte:tget cx.T e=some te) (hke:te.kind = .int .u8) :
  (convert t t2 (str s)).run cx.P w = .ok (.slice (some ⟨w.heap.size,0,none⟩) s.length (grownCap w s.length 0 e)) (bytesWorld w e ⟨s.toArray⟩):=by
 have hF:=(cx.hT t si ht).kind
 rw[hk]at hF
 obtain⟨hu,_⟩:=hF
 have hF2:=(cx.hT t2 ti ht2).kind
 rw[hk2]at hF2
 obtain⟨hu2,_⟩:=hF2
 have hF3:=(cx.hT e te hte).kind
 rw[hke]at hF3
 obtain⟨hu3,_⟩:=hF3
 have:=Go.Lib.run_convert_string_bytes (P:=cx.P) w t t2 e ⟨s.toArray⟩ hu hu2 hu3
 have hsz:(⟨s.toArray⟩:ByteArray).size=s.length:=by show s.toArray.size=_;simp
 rw[hsz]at this
 exact this
theorem a_s2b {t t2 e:Nat}{x:Operand}{s:List UInt8}{si ti te:TI}(hx:ev σ x=some (.d (.v (str s)))) (ht:tget cx.T t=some si) (hk:si.kind = .str) (ht2:tget cx.T t2=some ti) (hk2:ti.kind = .sl e 1) (hte:tget cx.T e=some te) (hke:te.kind = .int .u8) (hd:Nat.blt d cx.n=true) :
  OA cx σ ⟨some d,.convert t t2 x,ty,pos,af,gd⟩ ⟨rdOf x (.d (.v (str s))),[(.s d,.av (.d (.sl 1 (s.map byteD))))]⟩:=by
 refine⟨ok_val rfl (lt_of_blt hd) fun σ1 a w g nx hs hr=>?_,(ev_out hx).2⟩
 have hv:=rep_v (hs.ev (ev_out hx).1 hr).1
 obtain⟨h1,h2,h3⟩:=bytes_cells w e s
 refine⟨_,_,?_,bytes_below w e ⟨s.toArray⟩ (Nat.le_refl _),rd_bytes (bytesWorld_at_new w e ⟨s.toArray⟩) (fun ho=>by have:=own_lt hs ho;omega) h2 h3,trivial⟩
 simp[execOp,hv,run_s2b (w:=w) (s:=s) ht hk ht2 hk2 hte hke]
theorem ok_gennew2 {op:Op}{l:List (Key×Val)}{n0:Nat}(p:Value→Obj→Prop) (hd:d < cx.n)
  (hex:∀ σ a w g nx,SimG cx σ a w g nx→App σ l→∃ v o w',(execOp a.eval ⟨some d,op,ty,pos,af,gd⟩).run cx.P w = .ok (.value v) w'∧Below w.heap.size w w'∧w'.heap[w.heap.size]? = some o∧blk v=some w.heap.size∧p v o) :
  OpOk cx ⟨some d,op,ty,pos,af,gd⟩ ⟨(.nx,.num n0)::l,[(.s d,.av (.h n0)),(.o n0,.ob (.gen p)),(.nx,.num (n0+1))]⟩:=by
 rintro σ a w K Q ⟨g,nx,hs⟩ hr hK
 obtain⟨hn,hl⟩:=hr
 have hnx:nx=n0:=by
  have h2:=hs.hnx
  rw[hn]at h2
  simpa using h2.symm
 subst hnx
 obtain⟨v,o,w',hrun,hb,hnew,hbv,hp⟩:=hex σ a w g nx hs hl
 have hst:ObjStep cx σ g nx (nx+1) w w' nx (.gen p) v :=
  ⟨.inl ⟨rfl,rfl⟩,hb.mono hs.below.size,fun c hc _=>hb.block c hc,fun c hc => .inr (by rw[hbv]at hc;cases hc;exact Nat.le_refl _)⟩
 have hG:=SimG.obj hs hst (fun _=>⟨w.heap.size,o,by rw[upd_same];exact hbv,hs.below.size,hnew,by rw[upd_same];exact hp⟩) trivial
 refine wp_val rfl hrun (hK _ _ ?_)
 refine Sim.eqv (Sim.put hG hd (Below.refl _ _) (av := .h nx) ⟨.of get_cons_same,fun p' _ _=>(upd_same _ _ _).symm⟩ (Nat.lt_succ_self nx)) fun q=>?_
 cases q with
 |s i =>
  by_cases hi:i=d
  ·
   subst hi;rw[get_cons_same];exact get_cons_same.symm
  ·
   rw[get_cons_ne (by simpa using fun e=>hi e.symm),objSt_s]
   exact((get_cons_ne (by simpa using fun e=>hi e.symm)).trans ((get_cons_ne (by simp)).trans (get_cons_ne (by simp)))).symm
 |o i =>
  rw[get_cons_ne (by simp)]
  by_cases hi:i=nx
  ·
   subst hi;rw[get_cons_same];exact((get_cons_ne (by simp)).trans get_cons_same).symm
  ·
   rw[objSt_o hi]
   exact((get_cons_ne (by simp)).trans ((get_cons_ne (by simpa using fun e=>hi e.symm)).trans (get_cons_ne (by simp)))).symm
 |nx =>
  rw[get_cons_ne (by simp),objSt_nx]
  exact((get_cons_ne (by simp)).trans ((get_cons_ne (by simp)).trans get_cons_same)).symm
theorem a_s2bO {t t2 e:Nat}{x:Operand}{s:List UInt8}{si ti te:TI}{n0:Nat}(hn:get σ .nx = .num n0) (hx:ev σ x=some (.d (.v (str s)))) (ht:tget cx.T t=some si) (hk:si.kind = .str) (ht2:tget cx.T t2=some ti) (hk2:ti.kind = .sl e 1) (hte:tget cx.T e=some te) (hke:te.kind = .int .u8) (hd:Nat.blt d cx.n=true) :
  OA cx σ ⟨some d,.convert t t2 x,ty,pos,af,gd⟩ ⟨(.nx,.num n0)::rdOf x (.d (.v (str s))),[(.s d,.av (.h n0)),(.o n0,.ob (.gen (BytP s))),(.nx,.num (n0+1))]⟩:=by
 refine⟨ok_gennew2 (BytP s) (lt_of_blt hd) fun σ1 a w g nx hs hr=>?_,hn,(ev_out hx).2⟩
 have hv:=rep_v (hs.ev (ev_out hx).1 hr).1
 obtain⟨h1,h2,h3⟩:=bytes_cells w e s
 refine⟨_,_,_,?_,bytes_below w e ⟨s.toArray⟩ (Nat.le_refl _),bytesWorld_at_new w e ⟨s.toArray⟩,rfl,⟨_,_,_,e,_,rfl,rfl,h1,h2,by rw[h1];exact Nat.le_refl _,h3⟩⟩
 simp[execOp,hv,run_s2b (w:=w) (s:=s) ht hk ht2 hk2 hte hke]
theorem store_ahead {P:Program}{w:World}{g k:Nat}{cur:Array Value}{t:TypeId}{fz:Nat×Nat}{v:Value}(hg:w.heap[g]? = some (.cells cur t fz)) (hk:k < cur.size) (hz:cur.size≤fz.1) (hv:v.oneCell'=true) :
  (store ⟨g,k,none⟩ v).run P w = .ok () (w.setRow g (cur.setIfInBounds k v)):=by
 have hf:w.frozen? ⟨g,k,none⟩=false:=by simp[World.frozen?,hg];omega
 have hc:w.cell? ⟨g,k,none⟩=some (cur[k]'hk):=by simp[World.cell?,hg,hk]
 simp[run_store P w ⟨g,k,none⟩ v _ hv,hc,hf,setCell_eq_setRow w g k cur t fz v hg]
theorem at_ahead (g o i:Nat):(⟨g,o,none⟩:Addr).add i=⟨g,o+i,none⟩:=by
 cases i <;> simp[Addr.add]
theorem run_storeCells_atT (P:Program) (g o:Nat) (t:TypeId) (fz:Nat×Nat) (vs:List Value):∀ (i:Nat) (cur:Array Value) (w:World),w.heap[g]? = some (.cells cur t fz)→cur.size≤fz.1→o+i+vs.length≤cur.size→(∀ v∈vs,v.oneCell'=true) →
  (storeCells ⟨g,o,none⟩ vs i).run P w = .ok () (w.setRow g (cur.toList.take (o+i)++vs++cur.toList.drop (o+i+vs.length)).toArray):=by
 induction vs with
 |nil=>exact fun i cur w hg _ _ _=>by simp[storeCells,setRow_self w g cur t fz hg]
 |cons v rest ih =>
  intro i cur w hg hz hl h1
  rw[List.length_cons]at hl
  obtain⟨hv,hr⟩:=List.forall_mem_cons.1 h1
  have s1:=store_ahead (P:=P) hg (k:=o+i) (by omega) hz hv
  have s2:=ih (i+1) _ _ (setRow_heap w g cur (cur.setIfInBounds (o+i) v) t _ hg) (by simpa using hz) (by simp;omega) hr
  have s3:=list_seg_step cur.toList (o+i) v rest (by simp;omega)
  rw[← Array.toList_setIfInBounds]at s3
  simp only[Nat.add_assoc]at s2 s3
  simp only[storeCells,at_ahead,Sem.run_bind,s1,Result.andThen_ok,s2,setRow_setRow,s3,List.length_cons,Nat.add_assoc]
theorem bcells_of {s:List UInt8}{news:List Value}(hl:news.length=s.length) (h:∀ (j:Nat) (c:UInt8) (u:Value),s[j]? = some c→news[j]? = some u→u = .int .u8 c.toNat):news=s.map fun c=>Value.int .u8 c.toNat:=by
 refine List.ext_getElem? fun j=>?_
 rw[List.getElem?_map]
 cases hj:s[j]? with
 |none =>
  have:=List.getElem?_eq_none_iff.1 hj
  rw[List.getElem?_eq_none (by omega)];rfl
 |some c =>
  have hlt:=(List.getElem?_eq_some_iff.1 hj).1
  have hu:news[j]? = some (news[j]'(by omega)):=List.getElem?_eq_getElem _
  rw[hu,h j c _ hj hu];rfl
theorem a_appb {t e id:Nat}{x y:Operand}{s r:List UInt8}{ti te:TI}(hx:ev σ x=some (.h id)) (ho:get σ (.o id) = .ob (.gen (BytP s))) (hy:ev σ y=some (.d (.sl 1 (r.map byteD)))) (ht:tget cx.T t=some ti) (hk:ti.kind = .sl e 1)
  (hte:tget cx.T e=some te) (hb1:te.bytes=1) (hn1:te.n=1) (hd:Nat.blt d cx.n=true) (hr0:0 < r.length) (hlen:s.length+r.length≤1073741824) :
  OA cx σ ⟨some d,.call { callee := .builtin .append,args := #[x,y],argTypes := #[t,t] },ty,pos,af,gd⟩
   ⟨rdOf x (.h id)++(rdOf y (.d (.sl 1 (r.map byteD)))++[(.o id,.ob (.gen (BytP s)))]),[(.s d,.av (.d (.sl 1 ((s++r).map byteD)))),(.o id,.none)]⟩:=by
 refine⟨?_,(ev_out hx).2.append ((ev_out hy).2.append ⟨ho,trivial⟩)⟩
 rintro σ1 a w K Q ⟨g,nx,hs⟩ hr hK
 have ho1:=hr.right.right.1
 obtain⟨b,o,h1,h2,h3,h4,⟨b',cap,cur,e0,fz,h5,h6,h7,h8,h9,h10⟩,hxg⟩:=gen_at hs ho1 (hs.ev (ev_out hx).1 hr.left).1
 subst h6
 obtain rfl:b'=b:=by rw[h5]at h1;simpa[blk] using h1
 have hyr:Rd w (cx.own g σ1) (a.eval y) (.sl 1 (r.map byteD)):=(hs.ev (ev_out hy).1 hr.right.left).1
 obtain⟨ad,c,news,y1,y2,y3,y4,y5⟩:=sl_cells hyr (by simp;exact fun h=>by rw[h]at hr0;simp at hr0)
 rw[List.length_map]at y1 y2
 have hnews:news=r.map fun c=>Value.int .u8 c.toNat:=bcells_of (by omega) fun j c u hj hu=>by
  have:=y5 j 0 (byteD c) (.v (.int .u8 c.toNat)) u (by rw[List.getElem?_map,hj];rfl) rfl (by rw[show j*1+0=j by omega];exact hu)
  exact rd_v this
 have hF:=(cx.hT t ti ht).kind
 rw[hk]at hF
 obtain⟨hu,⟨ie,hie,hks⟩,hk0,_⟩:=hF
 obtain⟨ie',hie',hes,heb,z,hz,hzc⟩:=(cx.hT e te hte).info
 rw[hie]at hie'
 cases hie'
 by_cases hroom:s.length+r.length≤cap
 ·
  -- in place
  have hst:=run_storeCells_atT cx.P b' s.length e0 fz news 0 cur w h4 (by omega) (by omega) y4
  simp only[Nat.add_zero]at hst
  have hf:=run_firstCells_some (P:=cx.P) w 1 r.length ad r.length c news (by omega) y3
  have hG:=gen_set hs (p':=BytP s) (o' := .cells (cur.toList.take s.length++news++cur.toList.drop (s.length+news.length)).toArray e0 fz) ho1 h2 h3 ⟨b',cap,_,e0,fz,by rw[← hxg];exact h5,rfl,by simp;omega,h8,h9,fun j c hj=>by
   have hjl:=(List.getElem?_eq_some_iff.1 hj).1
   rw[List.getElem?_toArray,List.append_assoc,List.getElem?_append_left (by simp;omega),List.getElem?_take,if_pos hjl,Array.getElem?_toList]
   exact h10 j c hj⟩
  have hw:w.setRow b' (cur.toList.take s.length++news++cur.toList.drop (s.length+news.length)).toArray={ w with heap:=w.heap.setIfInBounds b' (.cells (cur.toList.take s.length++news++cur.toList.drop (s.length+news.length)).toArray e0 fz) }:=by
   unfold World.setRow
   congr 1
   apply Array.ext_getElem?
   intro i
   rw[Array.getElem?_modify,Array.getElem?_setIfInBounds]
   by_cases hi:b'=i
   ·
    subst hi;rw[if_pos rfl,if_pos rfl,if_pos h3,h4];rfl
   ·
    rw[if_neg hi,if_neg hi]
  rw[← hw]at hG
  have hup:upd g id (g id)=g:=by funext i;unfold upd;split <;> simp_all
  rw[hup]at hG
  have hd1:=hG.drop id
  have hlatw:∀ q,cx.own g ((Key.o id,Val.none)::objSt σ1 nx id (.gen (BytP s))) q→cx.own g ((Key.o id,Val.none)::σ1) q:=fun q hq=>by
   rcases hq with hq|⟨j,o,q1,q2⟩
   ·
    exact .inl hq
   ·
    by_cases hj:id=j
    ·
     subst hj;rw[get_cons_same]at q1;cases q1
    ·
     rw[get_cons_ne (by simpa using hj),objSt_o (fun e=>hj e.symm)]at q1
     exact .inr ⟨j,o,(get_cons_ne (by simpa using hj)).trans q1,q2⟩
  refine wp_val rfl (v := .slice (some ⟨b',0,none⟩) (s++r).length cap) ?_ (hK _ _ (Sim.eqv (Sim.put hd1 (lt_of_blt hd) (Below.refl _ _) (av := .d (.sl 1 ((s++r).map byteD))) ?_ trivial) fun q=>?_))
  ·
   have:(Builtin.append_ #[t,t] ty #[a.eval x,a.eval y]).run cx.P w = .ok (.slice (some ⟨b',0,none⟩) (s.length+r.length) cap) (w.setRow b' (cur.toList.take s.length++news++cur.toList.drop (s.length+news.length)).toArray):=by
    rw[h5,y1]
    simp[Builtin.append_,run_underlying hu,sizeOf,typeInfo,hie,hks,Builtin.lenOf,hroom,hf,Addr.add_lit,hst]
   rw[List.length_append]
   simp[execOp,resolve,invoke,builtin,this]
  ·
   refine rd_bytes (e:=e0) (fz:=fz) (b:=b') (cur:=(cur.toList.take s.length++news++cur.toList.drop (s.length+news.length)).toArray) (setRow_heap w b' cur _ e0 fz h4) (fun hown=>(own_drop hs ho1 (hlatw _ hown)).2 h2) (by rw[List.length_append];exact hroom) fun j c hj=>?_
   rw[List.getElem?_toArray,List.append_assoc]
   rcases Nat.lt_or_ge j s.length with hjl|hjl
   ·
    rw[List.getElem?_append_left hjl]at hj
    rw[List.getElem?_append_left (by simp;omega),List.getElem?_take,if_pos hjl,Array.getElem?_toList]
    exact h10 j c hj
   ·
    rw[List.getElem?_append_right hjl]at hj
    have hjr:=(List.getElem?_eq_some_iff.1 hj).1
    have hmin:(cur.toList.take s.length).length=s.length:=by simp;omega
    rw[List.getElem?_append_right (by omega),hmin,List.getElem?_append_left (by omega),hnews,List.getElem?_map,hj]
    rfl
  ·
   cases q with
   |s i =>
    by_cases hi:i=d
    ·
     subst hi;rw[get_cons_same];exact get_cons_same.symm
    ·
     rw[get_cons_ne (by simpa using fun e=>hi e.symm),get_cons_ne (by simp),objSt_s]
     exact((get_cons_ne (by simpa using fun e=>hi e.symm)).trans (get_cons_ne (by simp))).symm
   |o i =>
    rw[get_cons_ne (by simp)]
    by_cases hi:i=id
    ·
     subst hi;rw[get_cons_same];exact((get_cons_ne (by simp)).trans get_cons_same).symm
    ·
     rw[get_cons_ne (by simpa using fun e=>hi e.symm),objSt_o hi]
     exact((get_cons_ne (by simp)).trans (get_cons_ne (by simpa using fun e=>hi e.symm))).symm
   |nx =>
    rw[get_cons_ne (by simp),get_cons_ne (by simp),objSt_nx]
    exact(((get_cons_ne (by simp)).trans (get_cons_ne (by simp))).trans hs.hnx).symm
 ·
  -- moved
  have holds:∀ (j:Nat) (v:Value),(s.map fun c=>Value.int .u8 c.toNat)[j]? = some v→w.cell? ((⟨b',0,none⟩:Addr).add j)=some v:=fun j v hj=>by
   rw[List.getElem?_map,Option.map_eq_some_iff]at hj
   obtain⟨c,hc,rfl⟩:=hj
   rw[add_lit,Nat.zero_add]
   simp only[World.cell?,h4]
   exact h10 j c hc
  have hgr:=run_append_grow (P:=cx.P) w t ty e ie z hu hie hz ⟨b',0,none⟩ s.length cap (s.map fun c=>Value.int .u8 c.toNat) (by rw[hks];simp) holds ad r.length c news (by rw[hks];omega) y3 (by omega) (by omega) (by rw[heb,hb1];exact growslice_fits (by omega) (by omega))
  have hge:=grownCap_ge w (s.length+r.length) cap e
  have hdr:=hs.drop id
  have hbel:Below cx.w0.heap.size w (w.drew.alloc (.cells ((s.map fun c=>Value.int .u8 c.toNat).toArray++news.toArray++Builtin.zeroCells z.cells (grownCap w (s.length+r.length) cap e - (s.length+r.length))) e)) :=
   ⟨rfl,rfl,rfl,by simp,fun k hk=>heap_alloc_old w.drew _ (Nat.lt_of_lt_of_le hk hs.below.size)⟩
  have hbel2:Below w.heap.size w (w.drew.alloc (.cells ((s.map fun c=>Value.int .u8 c.toNat).toArray++news.toArray++Builtin.zeroCells z.cells (grownCap w (s.length+r.length) cap e - (s.length+r.length))) e)) :=
   ⟨rfl,rfl,rfl,by simp,fun k hk=>heap_alloc_old w.drew _ hk⟩
  refine wp_val rfl (v := .slice (some ⟨w.heap.size,0,none⟩) (s++r).length (grownCap w (s.length+r.length) cap e)) (w':=w.drew.alloc (.cells ((s.map fun c=>Value.int .u8 c.toNat).toArray++news.toArray++Builtin.zeroCells z.cells (grownCap w (s.length+r.length) cap e - (s.length+r.length))) e)) ?_ (hK _ _ (Sim.put hdr (lt_of_blt hd) hbel2 (av := .d (.sl 1 ((s++r).map byteD))) ?_ trivial))
  ·
   rw[List.length_append]
   simp[execOp,resolve,invoke,builtin,h5,y1,hgr]
  ·
   refine rd_bytes (e:=e) (fz:=(0,0)) (heap_alloc_new w.drew _) (fun hown=>by have:=own_lt hdr hown;simp at this) (by rw[List.length_append];exact hge) fun j c hj=>?_
   rw[hnews,Array.append_assoc,← List.map_toArray]
   rcases Nat.lt_or_ge j s.length with hjl|hjl
   ·
    rw[List.getElem?_append_left hjl]at hj
    rw[Array.getElem?_append_left (by simpa using hjl)]
    simp[hj]
   ·
    rw[List.getElem?_append_right hjl]at hj
    have hjr:=(List.getElem?_eq_some_iff.1 hj).1
    rw[Array.getElem?_append_right (by simpa using hjl),Array.getElem?_append_left (by simp;omega)]
    simp[hj]
theorem a_ft {t:TypeId}{x lo hi:Operand}{kd ke:IntKind}{m q:Int}{k:Nat}{rows out:List (List D)}{ti:TI}(hx:ev σ x=some (.d (.sl k rows))) (hlo:ev σ lo=some (.d (.v (.int kd m)))) (hhi:ev σ hi=some (.d (.v (.int ke q)))) (ht:tget cx.T t=some ti) (hk:slK ti=some k)
  (hd:Nat.blt d cx.n=true) (hc:cutI rows (some m) (some q)=some out):OA cx σ ⟨some d,.slice t x (some lo) (some hi) none,ty,pos,af,gd⟩ ⟨rdOf x (.d (.sl k rows))++(rdOf lo (.d (.v (.int kd m)))++rdOf hi (.d (.v (.int ke q)))),[(.s d,.av (.d (.sl k out)))]⟩ :=
 ⟨ok_slice (lt_of_blt hd) (ev_out hx).1 (.at_ (ev_out hlo).1) (.at_ (ev_out hhi).1) ht hk hc,(ev_out hx).2.append ((ev_out hlo).2.append (ev_out hhi).2)⟩
theorem cut_ft {rows:List (List D)}{m n:Nat}(h:m≤n) (hn:n≤rows.length):cutI rows (some (m:Int)) (some (n:Int))=some ((rows.take n).drop m):=by
 unfold cutI
 dsimp only[Option.getD]
 rw[if_pos (by omega)]
 simp
theorem bin_remI {P:Program}{t:TypeId}{a b r:Int}(hb:b≠0) (h:a.tmod b=r):BinR P .rem t (.int .i64 a) (.int .i64 b) (.int .i64 r):=by
 subst h;exact bin_rem hb
theorem bin_quoI {P:Program}{t:TypeId}{a b r:Int}(hb:b≠0) (h:a.tdiv b=r) (hr : -9223372036854775808≤r∧r≤9223372036854775807):BinR P .quo t (.int .i64 a) (.int .i64 b) (.int .i64 r):=by
 subst h;exact bin_quo hb hr
theorem tmod_sum {s c:Nat}:((s:Int)*257+(c:Int)+1).tmod 65521=(((s*257+c+1)%65521:Nat):Int):=by
 rw[Int.tmod_eq_emod_of_nonneg (by omega)];omega
theorem tmod_sum' {s c:Nat}:(257*(s:Int)+(c:Int)+1).tmod 65521=(((s*257+c+1)%65521:Nat):Int):=by
 rw[show 257*(s:Int)=(s:Int)*257 by omega];exact tmod_sum
theorem tdiv_256 {s:Nat}:(s:Int).tdiv 256=((s / 256:Nat):Int):=by rw[Int.tdiv_eq_ediv_of_nonneg (by omega)];omega
theorem tmod_256 {s:Nat}:(s:Int).tmod 256=((s%256:Nat):Int):=by rw[Int.tmod_eq_emod_of_nonneg (by omega)];omega
theorem bin_shrJ {P:Program}{t:TypeId}{k:IntKind}{a c r:Int}(hc:c=8) (h:a / 256=r):BinR P .shr t (.int .i64 a) (.int k c) (.int .i64 r):=by
 subst hc h;exact bin_shr8
theorem bin_shlJ {P:Program}{t:TypeId}{k:IntKind}{n:Nat}{c:Int}(hc:c=8) (h:n < 256):BinR P .shl t (.int .i64 n) (.int k c) (.int .i64 ((n:Int)*256)):=by
 subst hc;exact bin_shl8 h
theorem div_256 {s:Nat}:(s:Int) / 256=((s / 256:Nat):Int):=by omega
theorem wrap_u8_n {s:Nat}:IntKind.u8.wrap (s:Int)=((s%256:Nat):Int):=by
 rw[IntKind.wrap_u8];omega
theorem a_convW {s t:TypeId}{x:Operand}{ks kt:IntKind}{n m:Int}{si ti:TI}(hx:ev σ x=some (.d (.v (.int ks n)))) (hs':tget cx.T s=some si) (hks:inK si=some ks) (ht:tget cx.T t=some ti) (hkt:inK ti=some kt) (hd:Nat.blt d cx.n=true) (hw:kt.wrap n=m) :
  OA cx σ ⟨some d,.convert s t x,ty,pos,af,gd⟩ ⟨rdOf x (.d (.v (.int ks n))),[(.s d,.av (.d (.v (.int kt m))))]⟩:=by
 refine⟨ok_val rfl (lt_of_blt hd) fun σ a w g nx hs hr=>⟨.int kt m,w,?_,Below.refl _ _,Rd.v _,trivial⟩,(ev_out hx).2⟩
 have hv:=rep_v (hs.ev (ev_out hx).1 hr).1
 have h1:=int_of (cx:=cx) hs' hks
 have h2:=int_of (cx:=cx) ht hkt
 have h3:cx.P.intKind t=kt:=by simp[Program.intKind,h2]
 have:=run_convert_int (P:=cx.P) w s t ks n (by simp[h1]) (by rw[h3];exact h2)
 rw[h3,hw]at this
 simp[execOp,hv,this]
theorem byte_row {s:Nat}(h:s < 256):[D.v (.int .u8 (s:Int))]=byteD (UInt8.ofNat s):=by
 unfold byteD
 rw[UInt8.toNat_ofNat',Nat.mod_eq_of_lt h]
end Go.AX
namespace Go.RF
open Go.AX
def sumN:Nat→Str→Nat
 |s,[]=>s
 |s,c::r=>sumN ((s*257+c.toNat+1)%65521) r
def linesD (l:List Deed):Str:=l.flatMap fun d=>printD d++[10]
def headE (e:Entry):Str:=UInt8.ofNat e.number.toNat::linesD e.deeds
def sum2 (s:Nat):Str:=[UInt8.ofNat (s / 256),UInt8.ofNat (s%256)]
def bytesE (e:Entry):Str:=headE e++sum2 (sumN 1 (headE e))
def parseL:List Str→Except Int (List Deed)
 | [] => .ok []
 |s::r=>match parseE s with
  |.error e => .error e
  |.ok d=>match parseL r with
   |.error e => .error e
   |.ok l => .ok (d::l)
def bodyB (b:Str):Str:=(b.take (b.length - 2)).drop 1
def byteN (b:Str) (k:Nat):Nat:=(b.getD k 0).toNat
def parseB (b:Str):Except Int Entry :=
 if b.length < 3 then .error 8
 else if sumN 1 (b.take (b.length - 2))=byteN b (b.length - 2)*256+byteN b (b.length - 1) then
  (if (split (bodyB b) [10]).getLast? = some [] then match parseL (split (bodyB b) [10]).dropLast with
   |.error e => .error e
   |.ok ds=>if wrongEntry ⟨byteN b 0,ds⟩=0 then .ok ⟨byteN b 0,ds⟩ else .error (wrongEntry ⟨byteN b 0,ds⟩)
  else .error 2)
 else .error 2
def noEntry:Entry:=⟨0,[]⟩
def resB:Except Int Entry→Entry×Int
 |.ok e=>(e,0)
 |.error w=>(noEntry,w)
abbrev encBytes (b:Str):D := .sl 1 (b.map byteD)
end Go.RF
namespace Go.Proofs.YtfpkamiobdkcpaaGreatDoor
open Go.AX Go.RF
structure Packet where
 dst:Int
 data:Str
 deriving DecidableEq
structure Cluster where
 log:List Entry
 reps:List Replica
 net:List Packet
 deriving DecidableEq
structure Step where
 kind:Int
 n:Int
 m:Int
 deeds:List Deed
 deriving DecidableEq
def Packet.enc (p:Packet):List D:=[dint p.dst,encBytes p.data]
def encNet (l:List Packet):D := .sl 2 (l.map Packet.enc)
def encReps (l:List Replica):D := .sl 7 (l.map Replica.enc)
def Cluster.enc (c:Cluster):List D:=[encEntries c.log,encReps c.reps,encNet c.net]
def Step.enc (s:Step):List D:=[dint s.kind,dint s.n,dint s.m,encDeeds s.deeds]
def encSteps (l:List Step):D := .sl 4 (l.map Step.enc)
def goR (r:Replica) (n:Int):Replica×Int:=if n < 0 then (r,6) else match (ready r.engine)[n.toNat]? with
 |some x=>(⟨(goE r.engine x).1,r.next,r.early⟩,0)
 |none=>(r,6)
def nth {α:Type}(l:List α) (n:Int):Option α:=if n < 0 then none else l[n.toNat]?
def batchC (c:Cluster) (l:List Deed):Cluster×Int :=
 if 12≤c.log.length then (c,5)
 else if wrongEntry ⟨c.log.length,l⟩=0 then ({ c with log:=c.log++[⟨c.log.length,l⟩] },0) else (c,wrongEntry ⟨c.log.length,l⟩)
def sendC (c:Cluster) (n m:Int):Cluster×Int:=match nth c.reps n with
 |none=>(c,6)
 |some _=>match nth c.log m with
  |none=>(c,6)
  |some e=>(if c.net.length < 16 then { c with net:=c.net++[⟨n,bytesE e⟩] } else c,0)
def comeC (c:Cluster) (p:Packet):Cluster:=match nth c.reps p.dst with
 |none=>c
 |some r=>match parseB p.data with
  |.error _=>c
  |.ok e=>{ c with reps:=c.reps.set p.dst.toNat (comeE r e).1 }
def packetC (c:Cluster) (k n:Int):Cluster×Int:=match nth c.net n with
 |none=>(c,6)
 |some p=>if k=5 then (if c.net.length < 16 then { c with net:=c.net++[p] } else c,0)
  else if k=4 then ({ c with net:=c.net.eraseIdx n.toNat },0)
  else (comeC { c with net:=c.net.eraseIdx n.toNat } p,0)
def runC (c:Cluster) (n m:Int):Cluster×Int:=match nth c.reps n with
 |none=>(c,6)
 |some r=>({ c with reps:=c.reps.set n.toNat (goR r m).1 },(goR r m).2)
def clrC (c:Cluster) (n:Int):Cluster×Int:=match nth c.reps n with
 |none=>(c,6)
 |some r=>({ c with reps:=c.reps.set n.toNat (clearR r) },0)
def doC (c:Cluster) (s:Step):Cluster×Int :=
 if s.kind=1 then batchC c s.deeds
 else if s.kind=2 then sendC c s.n s.m
 else if s.kind=3∨s.kind=4∨s.kind=5 then packetC c s.kind s.n
 else if s.kind=6 then runC c s.n s.m
 else if s.kind=7 then clrC c s.n
 else (c,1)
def newC (n:Int):Cluster:=⟨[],List.replicate n.toNat noR,[]⟩
def playC:Cluster→List Step→Cluster
 |c,[]=>c
 |c,s::l=>playC (doC c s).1 l
def errsC:Cluster→List Step→List Int
 |_,[]=>[]
 |c,s::l=>(doC c s).2::errsC (doC c s).1 l
theorem nth_some {α:Type}{l:List α}{n:Int}{x:α}(h:nth l n=some x):∃ k:Nat,n=k∧l[k]? = some x:=by
 unfold nth at h
 split at h
 ·
  cases h
 ·
  exact⟨n.toNat,by omega,h⟩
theorem nth_none {α:Type}{l:List α}{n:Int}(h:nth l n=none):n < 0∨(l.length:Int)≤n:=by
 unfold nth at h
 split at h
 ·
  exact .inl (by omega)
 ·
  have:=List.getElem?_eq_none_iff.1 h
  exact .inr (by omega)
theorem nth_nat {α:Type}{l:List α}{k:Nat}:nth l (k:Int)=l[k]? := by
 unfold nth
 rw[if_neg (by omega),Int.toNat_natCast]
set_option maxRecDepth 100000
set_option maxHeartbeats 8000000
theorem ok_pgoE (e:Engine) (at_:Int) (hs:e.Sm) (hS:SInv e) (hW:WInv e) (hc:chOk e.chains) (hn:e.ends.length=e.deeds.length) :
  FnOk Tryz.prog 83 [.d (.agg e.enc),.d (dint at_)] (.tup [.agg (goE e at_).1.enc,dint (goE e at_).2]):=by
 have hdl:=hs.d
 have co:=ok_planOwn e hs
 unfold goE
 by_cases h1:at_ < 0
 ·
  rw[if_pos h1]
  refine fnOk_of tbl_ok mixed_ok Tryz.func83 rfl (by kernel_rfl) rfl rfl fun w0 own0=>?_
  try refine wk ?_
  exact .two (.cell rfl rfl rfl rfl (.aggd rfl (.refl _))) (.tmp rfl (.one (.d (.refl _))))
 rw[if_neg h1]
 obtain⟨A,rfl⟩:=Int.eq_ofNat_of_zero_le (show 0≤at_ by omega)
 rw[Int.toNat_natCast]
 unfold goAt
 cases hd:e.deeds[A]? with
 |none =>
  have hge:e.deeds.length≤A:=List.getElem?_eq_none_iff.1 hd
  refine fnOk_of tbl_ok mixed_ok Tryz.func83 rfl (by kernel_rfl) rfl rfl fun w0 own0=>?_
  try refine wk ?_
  exact .two (.cell rfl rfl rfl rfl (.aggd rfl (.refl _))) (.tmp rfl (.one (.d (.refl _))))
 |some d =>
  have hA:=(List.getElem?_eq_some_iff.1 hd).1
  dsimp only
  obtain⟨s,hsA⟩:∃ s,e.state[A]? = some s:=⟨e.state[A]'(by rw[hW.l];exact hA),List.getElem?_eq_getElem (by rw[hW.l];exact hA)⟩
  by_cases hs1:s=1
  ·
   subst hs1
   rw[if_pos hsA]
   refine fnOk_of tbl_ok mixed_ok Tryz.func83 rfl (by kernel_rfl) rfl rfl fun w0 own0=>?_
   try refine wk ?_
   exact .two (.cell rfl rfl rfl rfl (.aggd rfl (.refl _))) (.tmp rfl (.one (.d (.refl _))))
  rw[if_neg (by rw[hsA];simpa using hs1)]
  have hw:=hW.d d (List.mem_of_getElem? hd)
  have cn:=ok_pneeds e A d hs hd (wrong_keys hw).1 hS.k hW.nb
  cases hne:needs e A d with
  |nil =>
   rw[if_pos rfl]
   rw[hne]at cn
   have:=pgo_loop e A d hs hd hW.l hn hS.k hw hc (e.base+e.deeds.length) (fun c hc=>⟨hS.v c hc,hS.b c hc⟩) hne s hsA hs1 cn
   rw[pgoNew_eq hW hd]at this
   exact this
  |cons x l =>
   rw[if_neg (by simp)]
   rw[hne]at cn
   have hnl:(needs e A d).length≤268435456:=by
    have:=needs_len e.chains e.base (e.base+A) (keysD d) (List.range A) 0
    unfold needs
    simp at this
    omega
   rw[hne]at hnl
   have hpos:((x::l).length:Int) > 0:=by simp
   refine fnOk_of tbl_ok mixed_ok Tryz.func83 rfl (by kernel_rfl) rfl rfl fun w0 own0=>?_
   try refine wk ?_
   exact .two (.cell rfl rfl rfl rfl (.aggd rfl (.refl _))) (.tmp rfl (.one (.d (.refl _))))
theorem ready_ok {e:Engine}(hW:WInv e) {x:Int}(hx:x∈ready e):(goE e x).2=0:=by
 obtain⟨A,rfl,h1,h2⟩:=ready_mem.1 hx
 obtain⟨d,_,_,h3⟩:=go_ready hW.l h1 h2
 rw[h3]
theorem RInv.go {r:Replica}(h:RInv r) (n:Int):RInv (goR r n).1:=by
 unfold goR
 split
 ·
  exact h
 split
 ·
  next x hx =>
  obtain⟨q,hb⟩:=h.b
  exact⟨h.e.goE x,⟨q,hb.goE x⟩,h.n,h.l,h.w,h.g,h.d⟩
 ·
  exact h
theorem RInv.clear {r:Replica}(h:RInv r):RInv (clearR r):=by
 obtain⟨q,hb⟩:=h.b
 exact⟨h.e.clearE,⟨_,hb.clearE⟩,h.n,h.l,h.w,h.g,h.d⟩
theorem ready_small {e:Engine}(hs:e.Sm):(ready e).length≤134217728:=by
 have:=readyGo_len (e:=e) e.state 0
 have h5:=hs.s
 unfold ready;omega
theorem ok_repGo (r:Replica) (n:Int) (h:RInv r):FnOk Tryz.prog 31 [.d (.agg r.enc),.d (dint n)] (.tup [.agg (goR r n).1.enc,dint (goR r n).2]):=by
 refine fnOk_of tbl_ok mixed_ok Tryz.func31 rfl (by kernel_rfl) rfl rfl fun w0 own0=>?_
 obtain⟨q,hb⟩:=h.b
 have hs:=h.sm.e
 have c0:=ok_repOwn r h.sm
 have c1:=ok_pready r.engine hs h.e.z.s (fun d hd=>(wrong_keys (hb.W.d d hd)).1) hb.S.k hb.W.nb
 have c2:=fun x=>ok_pgoE r.engine x hs hb.S hb.W h.e.c h.e.z.n
 have hrl:=ready_small hs
 unfold goR
 by_cases h1:n < 0
 ·
  rw[if_pos h1]
  try refine wk ?_
  exact .two (.cell rfl rfl rfl rfl (.aggd (ds:=r.enc) rfl (.refl _))) (.tmp rfl (.one (.d (.refl _))))
 rw[if_neg h1]
 obtain⟨N,rfl⟩:=Int.eq_ofNat_of_zero_le (show 0≤n by omega)
 rw[Int.toNat_natCast]
 generalize ready r.engine=l at *
 cases hx:l[N]? with
 |none =>
  have hle:l.length≤N:=List.getElem?_eq_none_iff.1 hx
  try refine wk ?_
  exact .two (.cell rfl rfl rfl rfl (.aggd (ds:=r.enc) rfl (.refl _))) (.tmp rfl (.one (.d (.refl _))))
 |some x =>
  have hlt:=(List.getElem?_eq_some_iff.1 hx).1
  dsimp only
  have c3:=c2 x
  generalize (goE r.engine x).1=E at *
  generalize (goE r.engine x).2=v at *
  have hxm:(l.map encInt1)[N]? = some (encInt1 x):=by rw[List.getElem?_map,hx];rfl
  repeat(first|refine wa ?_|((with_reducible apply s5);(first|exact a_call c3 rfl by_sub|exact by_oa|exact by_ca);exact by_g)|refine wb ?_)
  exact .two (.cell rfl rfl rfl rfl (.aggd (ds:=Replica.enc ⟨E,r.next,r.early⟩) rfl (.refl _))) (.tmp rfl (.one (.d (.refl _))))
theorem ok_repClear (r:Replica) (h:RInv r):FnOk Tryz.prog 37 [.d (.agg r.enc)] (.one (.agg (clearR r).enc)):=by
 refine fnOk_of tbl_ok mixed_ok Tryz.func37 rfl (by kernel_rfl) rfl rfl fun w0 own0=>?_
 obtain⟨q,hb⟩:=h.b
 have c0:=ok_repOwn r h.sm
 have c1:=ok_pclearE r.engine h.sm.e h.e.z.s h.e.z.n
 rw[pclearE_eq hb.S]at c1
 unfold clearR
 generalize clearE r.engine=E at *
 try refine wk ?_
 exact .one (.cell rfl rfl rfl rfl (.aggd (ds:=Replica.enc ⟨E,r.next,r.early⟩) rfl (.refl _)))
theorem ok_repSeen (r:Replica) (h:RInv r):FnOk Tryz.prog 39 [.d (.agg r.enc)] (.one (encRows (seenE r.engine (markN r.engine.state)).1)):=by
 refine fnOk_of tbl_ok mixed_ok Tryz.func39 rfl (by kernel_rfl) rfl rfl fun w0 own0=>?_
 obtain⟨q,hb⟩:=h.b
 have hs:=h.sm.e
 have c0:=ok_tmark r.engine hs.s
 have c1:=ok_pseen r.engine (markN r.engine.state) hs hb.S.k
 generalize seenE r.engine (markN r.engine.state)=p at *
 obtain⟨p1,p2⟩:=p
 try refine wk ?_
 exact .one (.tmp rfl (.one (.d (.refl _))))
inductive ArgsLe:List Arg→List Arg→Prop
 |nil:ArgsLe [] []
 |d {x y:D} {xs ys:List Arg} (h:DLe x y) (hr:ArgsLe xs ys):ArgsLe (.d x::xs) (.d y::ys)
theorem ArgsLe.ok {w:World}{own:Nat→Prop}{xs ys:List Arg}(h:ArgsLe xs ys):∀ {vs:List Value},ArgsOk w own vs xs→ArgsOk w own vs ys:=by
 induction h with
 |nil=>exact fun ha=>ha
 |d h hr ih =>
  intro vs ha
  cases vs with
  |nil=>exact ha.elim
  |cons v vs=>exact⟨Rd.le h ha.1,ih ha.2⟩
theorem dles_ob {g:Nat→Value}{cx:Cx}{σ:St}{w:World}{a b:List D}(h:DLes a b):∀ {cs:Array Value},(∀ (j:Nat) (c:Value) (av:AV),(a.map AV.d)[j]? = some av→cs[j]? = some c→Rep1 cx g σ w c av) →
  ∀ (j:Nat) (c:Value) (av:AV),(b.map AV.d)[j]? = some av→cs[j]? = some c→Rep1 cx g σ w c av:=by
 intro cs h1 j c av hj hc
 obtain⟨hl,hd⟩:=h.at
 rw[List.getElem?_map,Option.map_eq_some_iff]at hj
 obtain⟨y,hy,rfl⟩:=hj
 obtain⟨x,hx⟩:=get_pair hl hy
 exact Rd.le (hd j x y hx hy) (h1 j c (.d x) (by rw[List.getElem?_map,hx];rfl) hc)
theorem stut_boxle {cx:Cx}{id:Nat}{a b:List D}(h:DLes a b):Stut cx ⟨[(.o id,.ob (.box (a.map AV.d)))],[(.o id,.ob (.box (b.map AV.d)))]⟩:=by
 rintro σ ac w ⟨g,nx,hs⟩ hr
 have ho:get σ (.o id) = .ob (.box (a.map AV.d)):=hr.1
 obtain⟨_,⟨bk,cs,t,h1,h2,h3,h4,h5,h6⟩,_⟩:=hs.objs id _ ho
 exact⟨g,nx,hs.reob ho (o' := .box (b.map AV.d)) rfl ⟨bk,cs,t,h1,h2,h3,by rw[h4];simp[h.at.1],h5,dles_ob h h6⟩ (fun av hav=>by obtain⟨x,_,rfl⟩:=List.mem_map.1 hav;trivial)⟩
theorem noR_le:DLes [.v nilS,.v nilS,.v nilS,.v nilS,dint 0,dint 0,.v nilS] noR.enc := .cons (dle_nil 2) (.cons (dle_nil 3) (.cons (dle_nil 1) (.cons (dle_nil 5) (.cons (.refl _) (.cons (.refl _) (.cons (dle_nil 2) .nil))))))
end Go.Proofs.YtfpkamiobdkcpaaGreatDoor
