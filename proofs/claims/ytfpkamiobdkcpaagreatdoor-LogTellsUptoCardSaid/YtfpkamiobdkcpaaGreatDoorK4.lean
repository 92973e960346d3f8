/-
  Part 4 of what the claim leans on: R4 P4 P5 AxNews AxApp R5 AxBld AxRes G18 G15 ShSort AxSort G16 P6 G5 G6 G17 G9 G10 G19 P7 P9 P10 P11 P12 AxStr Tx H1 ShNum H2 H3.
-/
import Derived.Test.YtfpkamiobdkcpaaGreatDoorK3
import Derived.Lib.SlTrimSet
import Derived.Shelf.Sort.Plain
import Derived.Shelf.Slices.In.SortNone
import Derived.Test.YtfpkamiobdkcpaaGreatDoorProg
import Derived.Sort.OwnSortedInts
import Derived.RangeFuncNested
import Derived.RangeFuncLeaves
import Derived.Shelf.Abstract
import Derived.WalkKit
import Derived.OwnWalkIn
import Derived.TacticsInMore
import Derived.LoopNIn
import Derived.LoopIn
import Derived.Lib.AtoiAll
import Derived.Lib.ItoaNum
import Derived.Shelf.Strconv.AtoiAll
import Derived.Shelf.Strconv.Itoa3
set_option linter.all false

namespace Go.Proofs.YtfpkamiobdkcpaaGreatDoor
open Go.AX Go.RF Go.RowKit
set_option maxRecDepth 100000
set_option maxHeartbeats 8000000
theorem chTy:∃ ti,tget tbl 202=some ti∧ti.zero=[.bool false,.int .i64 0]:=⟨_,rfl,rfl⟩
theorem mty {n:Nat}{w0:World}{own0:Nat→Prop}{ti:TI}(h:tget tbl 202=some ti) (hz:ti.zero=[.bool false,.int .i64 0]):MapTy ⟨Tryz.prog,tbl,tbl_ok,mixed_ok,n,w0,own0,0,[]⟩ 200 202 (chA (false,0)):=by
 have:=MapTy.st (cx:=⟨Tryz.prog,tbl,tbl_ok,mixed_ok,n,w0,own0,0,[]⟩) (t:=200) ⟨9,Tryz.underlying200,Tryz.underlying9⟩ h (by rw[hz];decide)
 rw[hz]at this
 exact this
theorem flat0:flat (chA (false,0)):=by
 intro c hc
 simp[chV]at hc
 rcases hc with rfl|rfl <;> rfl
theorem ok_see (vf:FuncId) (caps:List D) (zs:List Arg) (view:Str→Int×Bool) (hcap:Caps caps zs) (m:Mk) (k:Str) (hv:FnOk Tryz.prog vf ([.d (dstr k)]++zs) (.tup [dint (view k).1,dbool (view k).2])) :
  FnOk Tryz.prog 157 [.d (dstr k),.pd [mapD (encM m)],.pd [fnD vf caps]] (.one (dint (seeM view m k))):=by
 refine fnOk_of tbl_ok mixed_ok Tryz.func157 rfl (by kernel_rfl) rfl rfl fun w0 own0=>?_
 obtain⟨ti,h1,h2⟩:=chTy
 have hm:=mty (n:=Tryz.f157.ntmps) (w0:=w0) (own0:=own0) h1 h2
 have hg:=mget_enc m k
 unfold seeM
 cases hk:mG m k with
 |some c =>
  rw[hk]at hg
  have hl:mlook (chA (false,0)) (encM m) k=chA c:=by simp[mlook,hg]
  have ha:=fun {d:Nat} {ty:TypeId} {pos:String} {af:Array Edge} {gd:Option (Nat×Bool)} {σ:St} {x y:Operand} (hx) (hy) (hd)=>a_mlookd (σ:=σ) (d:=d) (ty:=ty) (pos:=pos) (af:=af) (gd:=gd) (x:=x) (y:=y) hm flat0 (encM_one m) (k:=k) hx hy hd
  rw[hl,hg]at ha
  repeat(first|refine wa ?_|((with_reducible apply s5);(first|((with_reducible apply ha);(iterate 3 exact rfl))|exact by_oa|exact by_ca);exact by_g)|refine wb ?_)
  exact .one (.tmp rfl (.one (.d (.refl _))))
 |none =>
  rw[hk]at hg
  have hl:mlook (chA (false,0)) (encM m) k=chA (false,0):=by simp[mlook,hg]
  have ha:=fun {d:Nat} {ty:TypeId} {pos:String} {af:Array Edge} {gd:Option (Nat×Bool)} {σ:St} {x y:Operand} (hx) (hy) (hd)=>a_mlookd (σ:=σ) (d:=d) (ty:=ty) (pos:=pos) (af:=af) (gd:=gd) (x:=x) (y:=y) hm flat0 (encM_one m) (k:=k) hx hy hd
  rw[hl,hg]at ha
  repeat(first|refine wa ?_|((with_reducible apply s5);(first|((with_reducible apply ha);(iterate 3 exact rfl))|(focus (with_reducible apply(a_callfn (ys:=[.d (dstr k)])));exact hv;exact hcap;exact rfl;exact rfl;apply SubsE.cons;exact rfl;exact .d (.refl _);exact trivial;exact SubsE.nil)|exact by_oa|exact by_ca);exact by_g)|refine wb ?_)
  exact .one (.tmp rfl (.one (.d (.refl _))))
theorem ok_run (vf:FuncId) (caps:List D) (zs:List Arg) (view:Str→Int×Bool) (d:Deed) (hcap:Caps caps zs) (hv:∀ k∈d.reads,FnOk Tryz.prog vf ([.d (dstr k)]++zs) (.tup [dint (view k).1,dbool (view k).2]))
  (hvn:∀ k∈d.reads,nOk (view k).1) (hc:d.code.length≤134217728) (hw:d.writes.length≤134217728) (hi:∀ i∈d.code,i.Ok) (hk:∀ i∈d.code,i.kind=1→i.key∈d.reads) :
  FnOk Tryz.prog 121 [.d (.agg d.enc),.d (fnD vf caps)] (.tup (runRes view d)):=by
 refine fnOk_of tbl_ok mixed_ok Tryz.func121 rfl (by kernel_rfl) rfl rfl fun w0 own0=>?_
 obtain⟨ti,hti,htz⟩:=chTy
 have hmt:=mty (n:=Tryz.f121.ntmps) (w0:=w0) (own0:=own0) hti htz
 have hst0:StopA 2:=⟨rfl⟩
 try refine wkS ?_
 clear hst0
 refine Stop.go (CW.seq (CW.regionS ?_))
 refine SW.fam rfl (fam_mkmap rfl rfl) fun x0=>?_
 refine SW.fact (p:=∃ b,x0 = .map (some b)) (map_known (id:=4) (M:=[]) rfl) ?_
 rintro ⟨b0,rfl⟩
 refine SW.rw ?_
 have hst0:StopR 3:=⟨rfl⟩
 try refine wkS ?_
 clear hst0
 refine Stop.go (CW.stut (stut_freezebox (i:=8) (id:=5) (ds:=[.v (.map (some b0))]) rfl) ⟨rfl,rfl,trivial⟩ ?_)
 refine CW.stut (stut_freezebox (i:=3) (id:=1) (ds:=[fnD vf caps]) rfl) ⟨rfl,rfl,trivial⟩ ?_
 have hst0:StopR 4:=⟨rfl⟩
 repeat(first|refine waS ?_|((with_reducible apply s5);(first|((with_reducible apply(a_mkfn (ds:=[refD [.v (.map (some b0))],refD [fnD vf caps]])));exact rfl;apply SubsE.cons;exact rfl;exact .d (.refl _);exact trivial;apply SubsE.cons;exact rfl;exact .d (.refl _);exact trivial;exact SubsE.nil)|exact by_oa|exact by_ca);exact by_g)|refine wb ?_)
 clear hst0
 refine Stop.go (CW.stut (stut_refpd (i:=8)) ⟨rfl,trivial⟩ ?_)
 try refine wk ?_
 refine CW.loopT (fun t:Nat×Mk×Done=>[sp 2 0,ob 0 d.enc,sp 4 2,ob 2 done0.enc,sd 5 (.v nilS),sd 6 (.v nilS),sp 7 3,ob 3 t.2.2.enc,(.s 8,.av (.pd [.v (.map (some b0))])),sd 9 (fnD 157 [refD [.v (.map (some b0))],refD [fnD vf caps]]),(.s 10,.av (.ptr 3 1)),(.o 4,.ob (.mp (encM t.2.1) (.map (some b0)))),sd 11 (dint t.1),nxt 6])
  (fun t=>mOk t.2.1∧t.2.2.Ok∧t.2.2.failed=false∧runGo view 0 t.2.1 t.2.2 (d.code.drop t.1)=runM view d)
  (fun t=>d.code.length - t.1) (0,[],done0) ⟨mOk_nil,⟨by simp[nOk,done0],by simp[nOk,done0],by simp[nOk,done0],by simp[nOk,done0]⟩,rfl,rfl⟩ ?_ ?_
 ·
  exact by_less
 ·
  rintro ⟨x,m,e⟩ ⟨hm,he,hf,hI⟩
  dsimp only at hm he hf hI ⊢
  by_cases hx:x < d.code.length
  ·
   obtain⟨i,h1,h2⟩:∃ i,d.code.drop x=i::d.code.drop (x+1)∧d.code[x]? = some i:=⟨d.code[x],List.drop_eq_getElem_cons hx,List.getElem?_eq_getElem hx⟩
   rw[h1]at hI
   simp only[runGo]at hI
   rw[if_neg (show ¬ (0:Int) < 0 by decide)]at hI
   have hio:=hi i (List.mem_of_getElem? h2)
   obtain⟨kd,ia,ib,n,key⟩:=i
   obtain⟨A,rfl⟩:=Int.eq_ofNat_of_zero_le hio.a.1
   obtain⟨B,rfl⟩:=Int.eq_ofNat_of_zero_le hio.b.1
   have hA:A < 4:=by have:=hio.a.2;dsimp only at this;omega
   have hB:B < 4:=by have:=hio.b.2;dsimp only at this;omega
   have hga:=rget_ok he A
   have hgb:=rget_ok he B
   have hst:=fun y=>st_reg e hA y
   have hfit:=fit_reg e hA
   have hself:=rset_self e A
   have hkk:=hio.k
   have hcn:=hio.c
   have hcs:=hio.s
   dsimp only[Int.toNat_natCast]at hI hkk hcn hcs
   have hkd:kd=1∨kd=2∨kd=3∨kd=4∨kd=5∨kd=6∨kd=7∨kd=8∨kd=9:=by omega
   clear hkk hio h1
   unfold nOk at hga hgb
   rcases hkd with rfl|rfl|rfl|rfl|rfl|rfl|rfl|rfl|rfl
   ·
    rw[if_pos rfl]at hI
    have hsee:=ok_see vf caps zs view hcap m key (hv key (hk _ (List.mem_of_getElem? h2) rfl))
    have hs:=hst (seeM view m key)
    repeat(first|refine wa ?_|((with_reducible apply s5);(first|(focus (with_reducible apply(a_callfnM (ys:=[.d (dstr key)]) (id:=4) (x0 := .map (some b0)) (M:=encM m)));exact hsee;exact .map (.ref .nil);exact rfl;exact rfl;exact rfl;exact rfl;apply SubsE.cons;exact rfl;exact .d (.refl _);exact trivial;exact SubsE.nil)|((with_reducible apply a_lptr);(iterate 4 exact rfl);exact ld_reg e hA rfl)|((with_reducible apply a_lptr);(iterate 4 exact rfl);exact ld_reg e hB rfl)|((with_reducible apply a_store);(iterate 6 exact rfl);exact hfit;exact⟨rfl,trivial⟩)|((with_reducible apply a_nilp);(iterate 3 exact rfl))|exact by_oa|exact by_ca);exact by_g)|refine wb ?_)
    refine q_loopT (x+1,m,rset e A (seeM view m key)) ⟨hm,rset_ok he A (see_ok (hvn key (hk _ (List.mem_of_getElem? h2) rfl)) hm),by rw[rset_failed];exact hf,hI⟩ (by dsimp only;omega) ?_
    exact by_less
   ·
    rw[if_neg (show ¬ (2:Int)=1 by decide),if_pos rfl]at hI
    have hs:=hst n
    repeat(first|refine wa ?_|((with_reducible apply s5);(first|((with_reducible apply a_lptr);(iterate 4 exact rfl);exact ld_reg e hA rfl)|((with_reducible apply a_lptr);(iterate 4 exact rfl);exact ld_reg e hB rfl)|((with_reducible apply a_store);(iterate 6 exact rfl);exact hfit;exact⟨rfl,trivial⟩)|((with_reducible apply a_nilp);(iterate 3 exact rfl))|exact by_oa|exact by_ca);exact by_g)|refine wb ?_)
    refine q_loopT (x+1,m,rset e A n) ⟨hm,rset_ok he A (hcn rfl),by rw[rset_failed];exact hf,hI⟩ (by dsimp only;omega) ?_
    exact by_less
   ·
    rw[if_neg (show ¬ (3:Int)=1 by decide),if_neg (show ¬ (3:Int)=2 by decide),if_pos rfl]at hI
    have hs:=hst (round (rget e A+rget e B))
    have cr:=ok_pround (rget e A+rget e B) (by unfold inI;omega)
    repeat(first|refine wa ?_|((with_reducible apply s5);(first|((with_reducible apply a_lptr);(iterate 4 exact rfl);exact ld_reg e hA rfl)|((with_reducible apply a_lptr);(iterate 4 exact rfl);exact ld_reg e hB rfl)|((with_reducible apply a_store);(iterate 6 exact rfl);exact hfit;exact⟨rfl,trivial⟩)|((with_reducible apply a_nilp);(iterate 3 exact rfl))|((with_reducible apply a_bin);(iterate 2 exact rfl);(apply bin_add;omega);exact rfl)|exact by_oa|exact by_ca);exact by_g)|refine wb ?_)
    refine q_loopT (x+1,m,rset e A (round (rget e A+rget e B))) ⟨hm,rset_ok he A (round_ok _),by rw[rset_failed];exact hf,hI⟩ (by dsimp only;omega) ?_
    exact by_less
   ·
    rw[if_neg (show ¬ (4:Int)=1 by decide),if_neg (show ¬ (4:Int)=2 by decide),if_neg (show ¬ (4:Int)=3 by decide),if_pos rfl]at hI
    have hs:=hst (round (rget e A - rget e B))
    have cr:=ok_pround (rget e A - rget e B) (by unfold inI;omega)
    repeat(first|refine wa ?_|((with_reducible apply s5);(first|((with_reducible apply a_lptr);(iterate 4 exact rfl);exact ld_reg e hA rfl)|((with_reducible apply a_lptr);(iterate 4 exact rfl);exact ld_reg e hB rfl)|((with_reducible apply a_store);(iterate 6 exact rfl);exact hfit;exact⟨rfl,trivial⟩)|((with_reducible apply a_nilp);(iterate 3 exact rfl))|((with_reducible apply a_bin);(iterate 2 exact rfl);(apply bin_sub;omega);exact rfl)|exact by_oa|exact by_ca);exact by_g)|refine wb ?_)
    refine q_loopT (x+1,m,rset e A (round (rget e A - rget e B))) ⟨hm,rset_ok he A (round_ok _),by rw[rset_failed];exact hf,hI⟩ (by dsimp only;omega) ?_
    exact by_less
   ·
    rw[if_neg (show ¬ (5:Int)=1 by decide),if_neg (show ¬ (5:Int)=2 by decide),if_neg (show ¬ (5:Int)=3 by decide),if_neg (show ¬ (5:Int)=4 by decide),if_pos rfl]at hI
    have hmul : -1152921504606846976≤rget e A*rget e B∧rget e A*rget e B≤1152921504606846976:=mul_bound hga hgb
    have hs:=hst (round (rget e A*rget e B))
    have cr:=ok_pround (rget e A*rget e B) (by unfold inI;omega)
    repeat(first|refine wa ?_|((with_reducible apply s5);(first|((with_reducible apply a_lptr);(iterate 4 exact rfl);exact ld_reg e hA rfl)|((with_reducible apply a_lptr);(iterate 4 exact rfl);exact ld_reg e hB rfl)|((with_reducible apply a_store);(iterate 6 exact rfl);exact hfit;exact⟨rfl,trivial⟩)|((with_reducible apply a_nilp);(iterate 3 exact rfl))|((with_reducible apply a_bin);(iterate 2 exact rfl);(apply bin_mul;omega);exact rfl)|exact by_oa|exact by_ca);exact by_g)|refine wb ?_)
    refine q_loopT (x+1,m,rset e A (round (rget e A*rget e B))) ⟨hm,rset_ok he A (round_ok _),by rw[rset_failed];exact hf,hI⟩ (by dsimp only;omega) ?_
    exact by_less
   ·
    rw[if_neg (show ¬ (6:Int)=1 by decide),if_neg (show ¬ (6:Int)=2 by decide),if_neg (show ¬ (6:Int)=3 by decide),if_neg (show ¬ (6:Int)=4 by decide),if_neg (show ¬ (6:Int)=5 by decide),if_pos rfl]at hI
    have hms:=mset_enc m key (true,rget e A)
    repeat(first|refine wa ?_|((with_reducible apply s5);(first|((with_reducible apply a_lptr);(iterate 4 exact rfl);exact ld_reg e hA rfl)|((with_reducible apply a_lptr);(iterate 4 exact rfl);exact ld_reg e hB rfl)|((with_reducible apply a_store);(iterate 6 exact rfl);exact hfit;exact⟨rfl,trivial⟩)|((with_reducible apply a_nilp);(iterate 3 exact rfl))|((with_reducible apply(a_mset (us:=chA (true,rget e A)) 4 hmt));(iterate 3 exact rfl);exact .agg (.d rfl);exact rfl)|exact by_oa|exact by_ca);exact by_g)|refine wb ?_)
    rw[hms]
    refine q_loopT (x+1,mS m key (true,rget e A),e) ⟨mOk_set hm key (rget_ok he A),he,hf,hI⟩ (by dsimp only;omega) ?_
    exact by_less
   ·
    rw[if_neg (show ¬ (7:Int)=1 by decide),if_neg (show ¬ (7:Int)=2 by decide),if_neg (show ¬ (7:Int)=3 by decide),if_neg (show ¬ (7:Int)=4 by decide),if_neg (show ¬ (7:Int)=5 by decide),if_neg (show ¬ (7:Int)=6 by decide),if_pos rfl]at hI
    have hms:=mset_enc m key (false,0)
    repeat(first|refine wa ?_|((with_reducible apply s5);(first|((with_reducible apply a_lptr);(iterate 4 exact rfl);exact ld_reg e hA rfl)|((with_reducible apply a_lptr);(iterate 4 exact rfl);exact ld_reg e hB rfl)|((with_reducible apply a_store);(iterate 6 exact rfl);exact hfit;exact⟨rfl,trivial⟩)|((with_reducible apply a_nilp);(iterate 3 exact rfl))|((with_reducible apply(a_mset (us:=chA (false,0)) 4 hmt));(iterate 3 exact rfl);exact .agg (.d rfl);exact rfl)|exact by_oa|exact by_ca);exact by_g)|refine wb ?_)
    rw[hms]
    refine q_loopT (x+1,mS m key (false,0),e) ⟨mOk_set hm key (by simp[nOk]),he,hf,hI⟩ (by dsimp only;omega) ?_
    exact by_less
   ·
    rw[if_neg (show ¬ (8:Int)=1 by decide),if_neg (show ¬ (8:Int)=2 by decide),if_neg (show ¬ (8:Int)=3 by decide),if_neg (show ¬ (8:Int)=4 by decide),if_neg (show ¬ (8:Int)=5 by decide),if_neg (show ¬ (8:Int)=6 by decide),if_neg (show ¬ (8:Int)=7 by decide),if_pos rfl]at hI
    obtain⟨N,rfl⟩:=Int.eq_ofNat_of_zero_le (hcs rfl).1
    have hN:=(hcs rfl).2
    by_cases h5:rget e A < 1
    ·
     rw[if_pos h5,runGo_skip,List.drop_drop]at hI
     repeat(first|refine wa ?_|((with_reducible apply s5);(first|((with_reducible apply a_lptr);(iterate 4 exact rfl);exact ld_reg e hA rfl)|((with_reducible apply a_lptr);(iterate 4 exact rfl);exact ld_reg e hB rfl)|((with_reducible apply a_store);(iterate 6 exact rfl);exact hfit;exact⟨rfl,trivial⟩)|((with_reducible apply a_nilp);(iterate 3 exact rfl))|exact by_oa|exact by_ca);exact by_g)|refine wb ?_)
     refine q_loopT (x+N+1,m,e) ⟨hm,he,hf,by dsimp only;rw[← hI];congr 2;omega⟩ (by dsimp only;omega) ?_
     exact by_less
    ·
     rw[if_neg h5]at hI
     repeat(first|refine wa ?_|((with_reducible apply s5);(first|((with_reducible apply a_lptr);(iterate 4 exact rfl);exact ld_reg e hA rfl)|((with_reducible apply a_lptr);(iterate 4 exact rfl);exact ld_reg e hB rfl)|((with_reducible apply a_store);(iterate 6 exact rfl);exact hfit;exact⟨rfl,trivial⟩)|((with_reducible apply a_nilp);(iterate 3 exact rfl))|exact by_oa|exact by_ca);exact by_g)|refine wb ?_)
     refine q_loopT (x+1,m,e) ⟨hm,he,hf,hI⟩ (by dsimp only;omega) ?_
     exact by_less
   ·
    rw[if_neg (show ¬ (9:Int)=1 by decide),if_neg (show ¬ (9:Int)=2 by decide),if_neg (show ¬ (9:Int)=3 by decide),if_neg (show ¬ (9:Int)=4 by decide),if_neg (show ¬ (9:Int)=5 by decide),if_neg (show ¬ (9:Int)=6 by decide),if_neg (show ¬ (9:Int)=7 by decide),if_neg (show ¬ (9:Int)=8 by decide)]at hI
    by_cases h5:rget e A < 0
    ·
     rw[if_pos h5]at hI
     repeat(first|refine wa ?_|((with_reducible apply s5);(first|((with_reducible apply a_lptr);(iterate 4 exact rfl);exact ld_reg e hA rfl)|((with_reducible apply a_lptr);(iterate 4 exact rfl);exact ld_reg e hB rfl)|((with_reducible apply a_store);(iterate 6 exact rfl);exact hfit;exact⟨rfl,trivial⟩)|((with_reducible apply a_nilp);(iterate 3 exact rfl))|exact by_oa|exact by_ca);exact by_g)|refine wb ?_)
     unfold runRes runC
     rw[← hI]
     exact .three (.cell rfl rfl rfl rfl (.aggd rfl (.refl _))) (.tmp rfl (.one (.d (.nil _)))) (.tmp rfl (.one (.d (.nil _))))
    ·
     rw[if_neg h5]at hI
     repeat(first|refine wa ?_|((with_reducible apply s5);(first|((with_reducible apply a_lptr);(iterate 4 exact rfl);exact ld_reg e hA rfl)|((with_reducible apply a_lptr);(iterate 4 exact rfl);exact ld_reg e hB rfl)|((with_reducible apply a_store);(iterate 6 exact rfl);exact hfit;exact⟨rfl,trivial⟩)|((with_reducible apply a_nilp);(iterate 3 exact rfl))|exact by_oa|exact by_ca);exact by_g)|refine wb ?_)
     refine q_loopT (x+1,m,e) ⟨hm,he,hf,hI⟩ (by dsimp only;omega) ?_
     exact by_less
  ·
   rw[List.drop_eq_nil_of_le (by omega)]at hI
   simp only[runGo]at hI
   have hchl:∀ j,j≤d.writes.length→(chg m (d.writes.drop j)).length≤d.writes.length - j:=fun j _=>by
    have:=chg_len m (d.writes.drop j);simpa using this
   have hst0:StopA 33:=⟨rfl⟩
   try refine wkS ?_
   clear hst0
   refine Stop.go (CW.stut (stut_promote (i:=13) 106 4) ⟨rfl,rfl,trivial⟩ ?_)
   refine CW.stut (stut_promote (i:=14) 9 1) ⟨rfl,rfl,trivial⟩ ?_
   try refine wk ?_
   refine CW.loopT (fun t:Nat×List (Str×(Bool×Int))=>[sp 4 2,ob 2 done0.enc,sd 5 (.v nilS),sd 6 (.v nilS),sp 7 3,ob 3 e.enc,(.s 8,.av (.pd [.v (.map (some b0))])),(.o 4,.ob (.mp (encM m) (.map (some b0)))),
    so 13 6 t.2.length,oa 6 106 4 ((t.2.map chVer).map Version.enc),so 14 7 t.2.length,oa 7 9 1 ((t.2.map (·.1)).map encStr1),sd 162 (encStrs d.writes),sd 163 (dint d.writes.length),sd 164 (dint t.1),nxt 8])
    (fun t=>t.1≤d.writes.length∧t.2.length≤t.1∧t.2++chg m (d.writes.drop t.1)=chg m d.writes) (fun t=>d.writes.length - t.1) (0,[]) ⟨by omega,by simp,rfl⟩ ?_ ?_
   ·
    exact by_less
   ·
    rintro ⟨j,acc⟩ ⟨hj,hacc,hJ⟩
    dsimp only at hj hacc hJ ⊢
    rcases drop_case hj with ⟨h1,h2⟩|⟨k,h1,h2,h3⟩
    ·
     rw[h1,chg,List.append_nil]at hJ
     try refine wk ?_
     have hrc:runC view d=acc:=by
      unfold runC
      rw[← hI]
      dsimp only
      rw[if_neg (by rw[hf];simp),hJ]
     unfold runRes
     rw[hrc,← hI]
     exact .three (.cell rfl rfl rfl rfl (.aggd rfl (.refl _))) (.tmp rfl (.one (.own rfl (by simp) (.refl _)))) (.tmp rfl (.one (.own rfl (by simp) (.refl _))))
    ·
     rw[h1,chg]at hJ
     have hg:=mget_enc m k
     cases hmk:mG m k with
     |none =>
      rw[hmk]at hJ hg
      dsimp only at hJ
      have hl:mlook (chA (false,0)) (encM m) k=chA (false,0):=by simp[mlook,hg]
      have ha:=fun {d:Nat} {ty:TypeId} {pos:String} {af:Array Edge} {gd:Option (Nat×Bool)} {σ:St} {x y:Operand} {x0:Value} (hx) (hy) (ho) (hd)=>a_mlook (σ:=σ) (d:=d) (ty:=ty) (pos:=pos) (af:=af) (gd:=gd) (x:=x) (y:=y) (x0:=x0) 4 hmt flat0 (encM_one m) (k:=k) hx hy ho hd
      rw[hl,hg]at ha
      repeat(first|refine wa ?_|((with_reducible apply s5);(first|((with_reducible apply ha);(iterate 4 exact rfl))|exact by_oa|exact by_ca);exact by_g)|refine wb ?_)
      refine q_loopT (j+1,acc) ⟨by dsimp only;omega,by dsimp only;omega,hJ⟩ (by dsimp only;omega) ?_
      exact by_less
     |some c =>
      rw[hmk]at hJ hg
      dsimp only at hJ
      have hl:mlook (chA (false,0)) (encM m) k=chA c:=by simp[mlook,hg]
      have ha:=fun {d:Nat} {ty:TypeId} {pos:String} {af:Array Edge} {gd:Option (Nat×Bool)} {σ:St} {x y:Operand} {x0:Value} (hx) (hy) (ho) (hd)=>a_mlook (σ:=σ) (d:=d) (ty:=ty) (pos:=pos) (af:=af) (gd:=gd) (x:=x) (y:=y) (x0:=x0) 4 hmt flat0 (encM_one m) (k:=k) hx hy ho hd
      rw[hl,hg]at ha
      repeat(first|refine wa ?_|((with_reducible apply s5);(first|((with_reducible apply ha);(iterate 4 exact rfl))|exact by_oa|exact by_ca);exact by_g)|refine wb ?_)
      refine q_loopT (j+1,acc++[(k,c)]) ⟨by dsimp only;omega,by dsimp only;simp;omega,by rw[← hJ];simp⟩ (by dsimp only;omega) ?_
      exact by_less
end Go.Proofs.YtfpkamiobdkcpaaGreatDoor
namespace Go.Proofs.YtfpkamiobdkcpaaGreatDoor
open Go.AX Go.RF
theorem get_put {k k':Str}{n:Int}:∀ {l:List Pair},RF.get (putS k n l) k'=if k=k' then (n,true) else RF.get l k'
 | []=>by simp[putS,RF.get]
 |p::l=>by
  simp only[putS]
  by_cases hk:p.key=k
  ·
   rw[if_pos hk]
   simp only[RF.get]
   by_cases h:k=k'
   ·
    simp[h]
   ·
    rw[if_neg h,if_neg h,if_neg (by rw[hk];exact h)]
  ·
   rw[if_neg hk]
   split
   ·
    simp only[RF.get]
    rw[get_put]
    by_cases h:p.key=k'
    ·
     rw[if_pos h,if_neg (fun e=>hk (by rw[h,e])),if_pos h]
    ·
     rw[if_neg h,if_neg h]
   ·
    simp only[RF.get]
theorem get_absent {k:Str}:∀ {l:List Pair},(∀ p∈l,p.key≠k)→RF.get l k=(0,false)
 | [],_=>rfl
 |p::l,h=>by
  simp only[RF.get]
  rw[if_neg (h p (List.mem_cons_self ..)),get_absent fun q hq=>h q (List.mem_cons_of_mem _ hq)]
theorem srt_absent {p:Pair}{l:List Pair}(hs:Srt Pair.key (p::l)):∀ q∈l,q.key≠p.key:=fun q hq e=>by
 have:=(List.pairwise_cons.1 hs).1 q hq
 rw[e,slt_irrefl]at this;cases this
theorem get_drop {k k':Str}:∀ {l:List Pair},Srt Pair.key l→RF.get (dropS k l) k'=if k=k' then (0,false) else RF.get l k'
 | [],_=>by simp[dropS,RF.get]
 |p::l,hs=>by
  simp only[dropS]
  by_cases hk:p.key=k
  ·
   rw[if_pos hk]
   by_cases h:k=k'
   ·
    rw[if_pos h]
    exact get_absent fun q hq=>by rw[← h,← hk];exact srt_absent hs q hq
   ·
    rw[if_neg h]
    simp only[RF.get]
    rw[if_neg (by rw[hk];exact h)]
  ·
   rw[if_neg hk]
   simp only[RF.get]
   rw[get_drop (List.pairwise_cons.1 hs).2]
   by_cases h:p.key=k'
   ·
    rw[if_pos h,if_neg (fun e=>hk (by rw[h,e])),if_pos h]
   ·
    rw[if_neg h,if_neg h]
theorem srt_ext:∀ {l r:List Pair},Srt Pair.key l→Srt Pair.key r→(∀ p,p∈l↔p∈r)→l=r
 | [],[],_,_,_=>rfl
 | [],q::r,_,_,h=>by have:=(h q).2 (List.mem_cons_self ..);simp at this
 |p::l,[],_,_,h=>by have:=(h p).1 (List.mem_cons_self ..);simp at this
 |p::l,q::r,hl,hr,h=>by
  obtain⟨l1,l2⟩:=List.pairwise_cons.1 hl
  obtain⟨r1,r2⟩:=List.pairwise_cons.1 hr
  have hpq:p=q:=by
   rcases List.mem_cons.1 ((h p).1 (List.mem_cons_self ..)) with e|e
   ·
    exact e
   ·
    rcases List.mem_cons.1 ((h q).2 (List.mem_cons_self ..)) with e'|e'
    ·
     exact e'.symm
    ·
     have:=slt_trans (l1 q e') (r1 p e)
     rw[slt_irrefl]at this;cases this
  subst hpq
  congr 1
  refine srt_ext l2 r2 fun x=>⟨fun hx=>?_,fun hx=>?_⟩
  ·
   rcases List.mem_cons.1 ((h x).1 (List.mem_cons_of_mem _ hx)) with e|e
   ·
    subst e;have:=l1 x hx;rw[slt_irrefl]at this;cases this
   ·
    exact e
  ·
   rcases List.mem_cons.1 ((h x).2 (List.mem_cons_of_mem _ hx)) with e|e
   ·
    subst e;have:=r1 x hx;rw[slt_irrefl]at this;cases this
   ·
    exact e
def alpha:List UInt8:=[97,98,99,100,101,102,103,104,105,106,107,108,109,110,111,112,113,114,115,116,117,118,119,120,121,122]
theorem alpha_bad (c:UInt8):alpha.contains c = !bad c:=by
 have h:∀ n:Fin 256,alpha.contains (UInt8.ofFin n) = !bad (UInt8.ofFin n):=by decide +kernel
 have:=h c.toFin
 rwa [UInt8.ofFin_toFin]at this
theorem dropWhile_nil {p:UInt8→Bool}:∀ {l:List UInt8},l.dropWhile p=[]↔∀ x∈l,p x=true
 | []=>by simp
 |x::l=>by
  cases h:p x with
  |true=>rw[List.dropWhile_cons_of_pos h,dropWhile_nil];simp[h]
  |false=>rw[List.dropWhile_cons_of_neg (by simp[h])];simp[h]
theorem dropWhile_head {p:UInt8→Bool}:∀ {l r:List UInt8}{x:UInt8},l.dropWhile p=x::r→p x=false
 | [],r,x,h=>by simp at h
 |y::l,r,x,h=>by
  cases hy:p y with
  |true=>rw[List.dropWhile_cons_of_pos hy]at h;exact dropWhile_head h
  |false=>rw[List.dropWhile_cons_of_neg (by simp[hy])]at h;cases h;exact hy
theorem trim_nil {l cs:List UInt8}:Lib.trimS l cs=[]↔∀ x∈l,cs.contains x=true:=by
 unfold Lib.trimS Lib.trimLeftS Lib.trimRightS
 rw[dropWhile_nil]
 constructor
 ·
  intro h
  have h1:l.reverse.dropWhile (cs.contains ·)=[]:=by
   cases h2:l.reverse.dropWhile (cs.contains ·) with
   |nil=>rfl
   |cons x r =>
    have h3:=dropWhile_head h2
    have h4:=h x (by rw[h2];simp)
    rw[h3]at h4;cases h4
  intro x hx
  exact dropWhile_nil.1 h1 x (by simpa using hx)
 ·
  intro h x hx
  have h1:l.reverse.dropWhile (cs.contains ·)=[]:=dropWhile_nil.2 fun x hx=>h x (by simpa using hx)
  rw[h1]at hx;simp at hx
theorem keyGo_eq {s:Str}:∀ {r:Str},keyGo s r=((r.all fun c => !bad c)&&(decide (0 < s.length)&&decide (s.length < 7)))
 | []=>by simp[keyGo]
 |c::r=>by
  simp only[keyGo,List.all_cons]
  rw[keyGo_eq]
  cases bad c <;> simp
theorem key_trim (s:Str):key s=(decide (1≤s.length)&&(decide (s.length≤6)&&decide (Lib.trimS s alpha=[]))):=by
 unfold key
 rw[keyGo_eq]
 have h1:(s.all fun c => !bad c)=decide (Lib.trimS s alpha=[]):=by
  rw[Bool.eq_iff_iff,decide_eq_true_eq,trim_nil,List.all_eq_true]
  simp only[alpha_bad]
 rw[h1]
 have h2:decide (0 < s.length)=decide (1≤s.length):=by congr 1
 have h3:decide (s.length < 7)=decide (s.length≤6):=by congr 1;exact propext ⟨fun h=>by omega,fun h=>by omega⟩
 rw[h2,h3]
 cases decide (Lib.trimS s alpha=[]) <;> cases decide (1≤s.length) <;> cases decide (s.length≤6) <;> rfl
theorem get_mem_some {k:Str}:∀ {l:List Pair}{n:Int},RF.get l k=(n,true)→(⟨k,n⟩:Pair)∈l
 | [],n,h=>by simp[RF.get]at h
 |p::l,n,h=>by
  simp only[RF.get]at h
  by_cases hk:p.key=k
  ·
   rw[if_pos hk]at h
   cases h
   rw[← hk]
   exact List.mem_cons_self ..
  ·
   rw[if_neg hk]at h
   exact List.mem_cons_of_mem _ (get_mem_some h)
theorem get_of_mem {p:Pair}:∀ {l:List Pair},Srt Pair.key l→p∈l→RF.get l p.key=(p.n,true)
 |q::l,hs,h=>by
  simp only[RF.get]
  rcases List.mem_cons.1 h with rfl|h
  ·
   rw[if_pos rfl]
  ·
   have:=srt_absent hs p h
   rw[if_neg (fun e=>this e.symm),get_of_mem (List.pairwise_cons.1 hs).2 h]
theorem get_ext {l r:List Pair}(hl:Srt Pair.key l) (hr:Srt Pair.key r) (h:∀ k,RF.get l k=RF.get r k):l=r :=
 srt_ext hl hr fun p=>⟨fun hp=>get_mem_some (by rw[← h,get_of_mem hl hp]),fun hp=>get_mem_some (by rw[h,get_of_mem hr hp])⟩
def chOf (c:Bool×Int):Int×Bool:=if c.1=true then (c.2,true) else (0,false)
def chAt (r:List Pair) (m:Mk) (k:Str):Int×Bool:=match mG m k with
 |some c=>chOf c
 |none=>RF.get r k
def app1 (out:List Pair) (k:Str) (c:Bool×Int):List Pair:=if c.1=true then putS k c.2 out else dropS k out
def appC:List Pair→List (Str×(Bool×Int))→List Pair
 |out,[]=>out
 |out,x::r=>appC (app1 out x.1 x.2) r
theorem app1_srt {out:List Pair}(h:Srt Pair.key out) (k:Str) (c:Bool×Int):Srt Pair.key (app1 out k c):=by
 unfold app1;split
 ·
  exact putS_srt h
 ·
  exact dropS_srt h
theorem app1_get {out:List Pair}(h:Srt Pair.key out) (k k':Str) (c:Bool×Int):RF.get (app1 out k c) k'=if k=k' then chOf c else RF.get out k':=by
 unfold app1 chOf;split
 ·
  exact get_put
 ·
  exact get_drop h
theorem appC_srt:∀ {l:List (Str×(Bool×Int))}{out:List Pair},Srt Pair.key out→Srt Pair.key (appC out l)
 | [],out,h=>h
 |x::l,out,h=>appC_srt (l:=l) (app1_srt h _ _)
theorem appC_get {m:Mk}{k:Str}:∀ {l:List Str}{out:List Pair},Srt Pair.key out→RF.get (appC out (chg m l)) k=if k∈l then chAt out m k else RF.get out k
 | [],out,h=>by simp[chg,appC]
 |x::l,out,h=>by
  simp only[chg]
  cases hx:mG m x with
  |none =>
   simp only
   rw[appC_get h]
   by_cases hk:k∈l
   ·
    rw[if_pos hk,if_pos (List.mem_cons_of_mem _ hk)]
   ·
    rw[if_neg hk]
    by_cases he:k=x
    ·
     subst he
     rw[if_pos (List.mem_cons_self ..),chAt,hx]
    ·
     rw[if_neg (by simp[he,hk])]
  |some c =>
   simp only[appC]
   rw[appC_get (app1_srt h _ _)]
   by_cases he:x=k
   ·
    subst he
    rw[if_pos (List.mem_cons_self ..),app1_get h,if_pos rfl]
    simp only[chAt,hx,ite_self]
   ·
    have hne:¬ k=x:=fun e=>he e.symm
    by_cases hk:k∈l
    ·
     rw[if_pos hk,if_pos (List.mem_cons_of_mem _ hk)]
     unfold chAt
     rw[app1_get h,if_neg he]
    ·
     rw[if_neg hk,if_neg (by simp[hne,hk]),app1_get h,if_neg he]
def plainD (r:List Pair) (d:Deed):List Pair×Done:=(appC r (runC (RF.get r) d),(runM (RF.get r) d).2)
theorem see_at {r now:List Pair}{m:Mk}(h:∀ k,RF.get now k=chAt r m k) (hf:∀ k c,mG m k=some c→c.1=false→c.2=0) (k:Str):seeM (RF.get r) m k=(RF.get now k).1:=by
 rw[h k]
 unfold seeM chAt chOf
 cases hm:mG m k with
 |none=>rfl
 |some c =>
  dsimp only
  by_cases hc:c.1=true
  ·
   rw[if_pos hc]
  ·
   rw[if_neg hc]
   exact hf k c hm (by simpa using hc)
structure MInv (r:List Pair) (W:List Str) (m:Mk) (now:List Pair):Prop where
 s:Srt Pair.key now
 a:∀ k,RF.get now k=chAt r m k
 f:∀ k c,mG m k=some c→c.1=false→c.2=0
 w:∀ k c,mG m k=some c→k∈W
theorem MInv.set {r now:List Pair}{W:List Str}{m:Mk}(h:MInv r W m now) {k:Str}(hk:k∈W) (c:Bool×Int) (hc:c.1=false→c.2=0):MInv r W (mS m k c) (app1 now k c):=by
 refine⟨app1_srt h.s k c,fun k'=>?_,fun k' c' hm=>?_,fun k' c' hm=>?_⟩
 ·
  rw[app1_get h.s]
  unfold chAt
  rw[mG_mS]
  by_cases he:k=k'
  ·
   rw[if_pos he,if_pos he]
  ·
   rw[if_neg he,if_neg he]
   exact h.a k'
 ·
  rw[mG_mS]at hm
  split at hm
  ·
   cases hm;exact hc
  ·
   exact h.f k' c' hm
 ·
  rw[mG_mS]at hm
  split at hm
  ·
   next he=>rw[← he];exact hk
  ·
   exact h.w k' c' hm
theorem run_do {r:List Pair}{W:List Str}:∀ {l:List Ins}{sk:Int}{m:Mk}{e:Done}{now:List Pair},MInv r W m now→e.failed=false→(∀ i∈l,(i.kind=6∨i.kind=7)→i.key∈W) →
  (runGo (RF.get r) sk m e l).2=(doGo r sk now e l).2∧((doGo r sk now e l).2.failed=true→(doGo r sk now e l).1=r)∧((doGo r sk now e l).2.failed=false→MInv r W (runGo (RF.get r) sk m e l).1 (doGo r sk now e l).1)
 | [],sk,m,e,now,h,he,hw=>by
  simp only[runGo,doGo]
  exact⟨trivial,fun hf=>by rw[he]at hf;exact absurd hf (by simp),fun _=>h⟩
 |i::l,sk,m,e,now,h,he,hw=>by
  have hl:∀ i∈l,(i.kind=6∨i.kind=7)→i.key∈W:=fun j hj=>hw j (List.mem_cons_of_mem _ hj)
  simp only[runGo,doGo]
  rw[see_at h.a h.f]
  by_cases h0:0 < sk
  ·
   rw[if_pos h0,if_pos h0];exact run_do h he hl
  rw[if_neg h0,if_neg h0]
  have hr:∀ k x,(rset e k x).failed=false:=fun k x=>by rw[rset_failed];exact he
  by_cases h1:i.kind=1
  ·
   rw[if_pos h1,if_pos h1];exact run_do h (hr _ _) hl
  rw[if_neg h1,if_neg h1]
  by_cases h2:i.kind=2
  ·
   rw[if_pos h2,if_pos h2];exact run_do h (hr _ _) hl
  rw[if_neg h2,if_neg h2]
  by_cases h3:i.kind=3
  ·
   rw[if_pos h3,if_pos h3];exact run_do h (hr _ _) hl
  rw[if_neg h3,if_neg h3]
  by_cases h4:i.kind=4
  ·
   rw[if_pos h4,if_pos h4];exact run_do h (hr _ _) hl
  rw[if_neg h4,if_neg h4]
  by_cases h5:i.kind=5
  ·
   rw[if_pos h5,if_pos h5];exact run_do h (hr _ _) hl
  rw[if_neg h5,if_neg h5]
  by_cases h6:i.kind=6
  ·
   rw[if_pos h6,if_pos h6,put_true h.s]
   have:=h.set (hw i (List.mem_cons_self ..) (.inl h6)) (true,rget e i.a.toNat) (by simp)
   exact run_do this he hl
  rw[if_neg h6,if_neg h6]
  by_cases h7:i.kind=7
  ·
   rw[if_pos h7,if_pos h7,put_false h.s]
   have:=h.set (hw i (List.mem_cons_self ..) (.inr h7)) (false,0) (by simp)
   exact run_do this he hl
  rw[if_neg h7,if_neg h7]
  by_cases h8:i.kind=8
  ·
   rw[if_pos h8,if_pos h8];exact run_do h he hl
  rw[if_neg h8,if_neg h8]
  by_cases h9:rget e i.a.toNat < 0
  ·
   rw[if_pos h9,if_pos h9]
   exact⟨rfl,fun _=>rfl,fun hf=>by simp[bustE]at hf⟩
  ·
   rw[if_neg h9,if_neg h9];exact run_do h he hl
theorem plain_do {r:List Pair}{d:Deed}(hs:Srt Pair.key r) (hw:∀ i∈d.code,(i.kind=6∨i.kind=7)→i.key∈d.writes):plainD r d=doD r d:=by
 obtain⟨h1,h2,h3⟩:=run_do (r:=r) (W:=d.writes) (l:=d.code) (sk:=0) (m:=[]) (e:=done0) (now:=r) ⟨hs,fun k=>rfl,fun k c h=>by simp[mG]at h,fun k c h=>by simp[mG]at h⟩ rfl hw
 unfold plainD doD
 refine Prod.ext ?_ h1
 dsimp only
 unfold runC
 by_cases hf:(runM (RF.get r) d).2.failed=true
 ·
  rw[if_pos hf]
  have hf':(doGo r 0 r done0 d.code).2.failed=true:=by rw[← h1];exact hf
  rw[h2 hf'];rfl
 ·
  rw[if_neg hf]
  have hf':(doGo r 0 r done0 d.code).2.failed=false:=by rw[← h1];exact Bool.eq_false_iff.2 hf
  have h:=h3 hf'
  refine get_ext (appC_srt hs) h.s fun k=>?_
  rw[appC_get hs,h.a k]
  by_cases hk:k∈d.writes
  ·
   rw[if_pos hk];rfl
  ·
   rw[if_neg hk]
   unfold chAt
   cases hm:mG (runGo (RF.get r) 0 [] done0 d.code).1 k with
   |none=>rfl
   |some c=>exact absurd (h.w k c hm) hk
theorem doD_srt {r:List Pair}{d:Deed}(hs:Srt Pair.key r) (hw:∀ i∈d.code,(i.kind=6∨i.kind=7)→i.key∈d.writes):Srt Pair.key (doD r d).1:=by
 rw[← plain_do hs hw];exact appC_srt hs
theorem isIn_true {s:Str}:∀ {l:List Str},isIn l s=true→s∈l
 | [],h=>by cases h
 |x::l,h=>by
  simp only[isIn]at h
  by_cases hx:x=s
  ·
   rw[hx];exact List.mem_cons_self ..
  ·
   rw[if_neg hx]at h
   exact List.mem_cons_of_mem _ (isIn_true h)
theorem wrongIns_keyed {d:Deed}{m:Int}{i:Ins}(h:wrongIns d m i=0) (hk:i.kind=6∨i.kind=7):i.key∈d.writes:=by
 unfold wrongIns at h
 have hkk:¬ (i.kind < 1∨9 < i.kind):=by omega
 rw[if_neg hkk]at h
 have hh:has i.kind.toNat 107=true:=by rcases hk with e|e <;> rw[e] <;> decide
 split at h
 ·
  simp at h
 ·
  rw[if_neg (by rw[hh];simp),if_neg (show ¬ i.kind=1 by omega)]at h
  split at h
  ·
   next hi=>exact isIn_true hi
  ·
   simp at h
theorem wrong_keyed {d:Deed}(h:wrongDeed d=0):∀ i∈d.code,(i.kind=6∨i.kind=7)→i.key∈d.writes:=by
 intro i hi
 unfold wrongDeed at h
 by_cases h0:lsGo [d.reads,d.writes]=0
 ·
  rw[if_pos h0]at h
  by_cases hc:12 < d.code.length
  ·
   rw[if_pos hc]at h;simp at h
  ·
   rw[if_neg hc]at h
   obtain⟨j,hj⟩:=List.getElem?_of_mem hi
   exact wrongIns_keyed (codeGo_mem h j i hj)
 ·
  rw[if_neg h0]at h;exact absurd h h0
theorem runGo_congr {v v':Str→Int×Bool}:∀ {l:List Ins}{sk:Int}{m:Mk}{e:Done},(∀ i∈l,i.kind=1→(v i.key).1=(v' i.key).1)→runGo v sk m e l=runGo v' sk m e l
 | [],sk,m,e,_=>rfl
 |i::l,sk,m,e,h=>by
  have ih:=fun {sk:Int} {m:Mk} {e:Done}=>runGo_congr (v:=v) (v':=v') (l:=l) (sk:=sk) (m:=m) (e:=e) fun j hj=>h j (List.mem_cons_of_mem _ hj)
  have hs:i.kind=1→seeM v m i.key=seeM v' m i.key:=fun hk=>by
   unfold seeM
   split
   ·
    rfl
   ·
    exact h i (List.mem_cons_self ..) hk
  simp only[runGo,ih]
  by_cases hk:i.kind=1
  ·
   rw[hs hk]
  ·
   simp only[if_neg hk]
end Go.Proofs.YtfpkamiobdkcpaaGreatDoor
namespace Go.AX
open Go.RowKit
variable {cx:Cx}{g:Nat→Value}{σ σ':St}{a:Act}{w w':World}{nx:Nat}{c:Code}{Q:Exit→St→Prop}
variable {ty:TypeId}{pos:String}{af:Array Edge}{gd:Option (Nat×Bool)}{d:Nat}
inductive Part where
 |d (x:D)
 |own (e k:Nat) (rows:List (List D))
def withL (own:Nat→Prop) (ps:List Part) (cs:Array Value):Nat→Prop:=fun b=>own b∨∃ j e k rows,ps[j]? = some (.own e k rows)∧blk (cs.getD j undef)=some b
structure PartsAt (w:World) (base:Nat) (own:Nat→Prop) (ps:List Part) (cs:Array Value):Prop where
 size:cs.size=ps.length
 one:∀ (j:Nat) (c:Value),cs[j]? = some c→c.oneCell'=true
 data:∀ j x,ps[j]? = some (.d x)→Rd w (withL own ps cs) (cs.getD j undef) x
 rows:∀ j e k rows,ps[j]? = some (.own e k rows)→RowsAt w base (withL own ps cs) e k (cs.getD j undef) rows
 sep:∀ j j' e k rows e' k' rows' b,ps[j]? = some (.own e k rows)→ps[j']? = some (.own e' k' rows')→blk (cs.getD j undef)=some b→blk (cs.getD j' undef)=some b→j=j'
structure FnNews (P:Program) (f:FuncId) (args:List Arg) (ps:List Part):Prop where
 run : ∃ fn, P.funcs[f]? = some fn ∧ (fn.name == "runtime.NumGoroutine") = false ∧ fn.body.isNone = false
 calls:∀ (w:World) (own:Nat→Prop) (vs:List Value),((∀ b,own b→b < w.heap.size)∧Gl P w)→ArgsOk w own vs args →
  Calls P f vs.toArray w fun r w'=>∃ cs,r = .returned (.agg cs)∧Below w.heap.size w w'∧PartsAt w' w.heap.size own ps cs
inductive PartE (σ:St):AV→Part→Prop
 |d {x:D}:PartE σ (.d x) (.d x)
 |own {id n e k:Nat} {rows:List (List D)} (ho:get σ (.o id) = .ob (.arr e k rows)) (hn:n=rows.length):PartE σ (.own id n) (.own e k rows)
def ids:List AV→List Nat
 | []=>[]
 |.own id _::r=>id::ids r
 |_::r=>ids r
inductive PartsL (σ:St):List AV→List Part→Prop
 |nil:PartsL σ [] []
 |cons {av:AV} {p:Part} {avs:List AV} {ps:List Part} (h:PartE σ av p) (t:PartsL σ avs ps):PartsL σ (av::avs) (p::ps)
theorem PartsL.at {avs:List AV}{ps:List Part}(h:PartsL σ avs ps):avs.length=ps.length∧∀ (j:Nat) (p:Part),ps[j]? = some p→∃ av:AV,avs[j]? = some av∧PartE σ av p:=by
 induction h with
 |nil=>exact⟨rfl,fun j p h=>by simp at h⟩
 |cons h t ih =>
  refine⟨by simp[ih.1],fun j p hj=>?_⟩
  cases j with
  |zero=>simp at hj;subst hj;exact⟨_,rfl,h⟩
  |succ j=>simpa using ih.2 j p (by simpa using hj)
theorem ids_mem {id n:Nat}:∀ {avs:List AV}{j:Nat},avs[j]? = some (.own id n)→id∈ids avs
 |x::avs,0,h=>by
  obtain rfl:x = .own id n:=by simpa using h
  exact List.mem_cons_self ..
 |x::avs,j+1,h=>by
  have:=ids_mem (avs:=avs) (j:=j) (by simpa using h)
  cases x <;> simp[ids,this]
theorem ids_inj {id n m:Nat}:∀ {avs:List AV}{i j:Nat},(ids avs).Nodup→avs[i]? = some (.own id n)→avs[j]? = some (.own id m)→i=j
 |x::avs,0,0,_,_,_=>rfl
 |x::avs,0,j+1,h,hi,hj=>by
  obtain rfl:x = .own id n:=by simpa using hi
  simp only[ids,List.nodup_cons]at h
  exact absurd (ids_mem (by simpa using hj)) h.1
 |x::avs,i+1,0,h,hi,hj=>by
  obtain rfl:x = .own id m:=by simpa using hj
  simp only[ids,List.nodup_cons]at h
  exact absurd (ids_mem (by simpa using hi)) h.1
 |x::avs,i+1,j+1,h,hi,hj=>by
  have h':(ids avs).Nodup:=by
   cases x <;> simp only[ids,List.nodup_cons]at h <;> first|exact h.2|exact h
  exact congrArg (· + 1) (ids_inj (n:=n) (m:=m) h' (by simpa using hi) (by simpa using hj))
theorem parts_at (hs:SimG cx σ a w g nx) {avs:List AV}{ps:List Part}{v:Value}(hr:Rep cx g σ w v (.agg avs)) (hp:PartsL σ avs ps) (hn:(ids avs).Nodup):∃ cs,v = .agg cs∧PartsAt w cx.w0.heap.size cx.own0 ps cs:=by
 obtain⟨cs,h1,h2,h3,h4⟩:=hr
 obtain⟨hl,hat⟩:=hp.at
 refine⟨cs,h1,?_⟩
 have hc:∀ j p,ps[j]? = some p→∃ av,avs[j]? = some av∧PartE σ av p∧Rep1 cx g σ w (cs.getD j undef) av:=fun j p hj=>by
  obtain⟨av,h5,h6⟩:=hat j p hj
  have hlt:j < cs.size:=by rw[h2];exact(List.getElem?_eq_some_iff.1 h5).1
  have h7:cs[j]? = some cs[j]:=Array.getElem?_eq_getElem hlt
  refine⟨av,h5,h6,?_⟩
  rw[Array.getD_eq_getD_getElem?,h7]
  exact h4 j _ av h5 h7
 have hown:∀ j e k rows,ps[j]? = some (.own e k rows)→∃ id n,avs[j]? = some (.own id n)∧cs.getD j undef=g id∧get σ (.o id) = .ob (.arr e k rows):=fun j e k rows hj=>by
  obtain⟨av,h5,h6,h7⟩:=hc j _ hj
  cases h6 with
  |@own id n _ _ _ ho hn=>exact⟨id,n,h5,(h7.2 e k rows ho).2 hn,ho⟩
 have hle:∀ b,withL cx.own0 ps cs b→cx.own g σ b:=fun b hb=>by
  rcases hb with hb|⟨j,e,k,rows,hj,hb⟩
  ·
   exact .inl hb
  ·
   obtain⟨id,n,_,h6,h7⟩:=hown j e k rows hj
   exact .inr ⟨id,_,h7,by rw[← h6];exact hb⟩
 refine⟨by rw[h2,hl],h3,fun j x hj=>?_,fun j e k rows hj=>?_,fun j j' e k rows e' k' rows' b hj hj' hb hb'=>?_⟩
 ·
  obtain⟨av,h5,h6,h7⟩:=hc j _ hj
  cases h6 with
  |d=>exact Rd.less hle h7
 ·
  obtain⟨id,n,_,h6,h7⟩:=hown j e k rows hj
  rw[h6]
  exact(objRows hs h7).re (fun b hb=>obj_ge hs h7 hb) hle
 ·
  obtain⟨id,n,h5,h6,h7⟩:=hown j e k rows hj
  obtain⟨id',n',h5',h6',h7'⟩:=hown j' e' k' rows' hj'
  obtain rfl:=hs.sep id id' _ _ b h7 h7' (by rw[← h6];exact hb) (by rw[← h6'];exact hb')
  exact ids_inj hn h5 h5'
inductive RetNews (T:Tbl) (σ:St) (ps:List Part):ResultVar→Prop
 |tmp {t:Nat} {avs:List AV} (h:get σ (.s t) = .av (.agg avs)) (hp:PartsL σ avs ps) (hn:(ids avs).Nodup):RetNews T σ ps (.tmp t)
 |cell {s t id:Nat} {cells avs:List AV} {ti:TI} (h:get σ (.s s) = .av (.ptr id 0)) (ho:get σ (.o id) = .ob (.box cells)) (ht:tget T t=some ti)
   (hl:ldA ti cells=some (.agg avs)) (hp:PartsL σ avs ps) (hn:(ids avs).Nodup):RetNews T σ ps (.cell s t)
theorem RetNews.ok (hs:SimG cx σ a w g nx) {rv:ResultVar}{ps:List Part}(h:RetNews cx.T σ ps rv):∃ cs,(rvRun a.tmps rv).run cx.P w = .ok (.agg cs) w∧PartsAt w cx.w0.heap.size cx.own0 ps cs:=by
 cases h with
 |@tmp t avs h hp hn =>
  obtain⟨cs,h1,h2⟩:=parts_at hs (hs.slots t _ h).1 hp hn
  exact⟨cs,by rw[← h1];rfl,h2⟩
 |@cell s t id cells avs ti h ho ht hl hp hn =>
  obtain⟨v,h1,h2,_⟩:=load_ptr hs (x:=a.tmps.getD s undef) (off:=0) (hs.slots s _ h).1 ho ht (by simpa using hl)
  obtain⟨b,hg,hv⟩:=(hs.slots s _ h).1.2 cells ho
  obtain⟨cs,rfl,h3⟩:=parts_at hs h2 hp hn
  refine⟨cs,?_,h3⟩
  rw[hv]at h1
  simp only[rvRun,hv,asAddr,Sem.run_bind,Sem.run_pure,Result.andThen_ok]
  simpa[Instr.loadAt,Instr.sureAddr] using h1
def newsQ (T:Tbl) (rv:ResultVar) (ps:List Part):Exit→St→Prop
 |.normal,σ=>RetNews T σ ps rv
 |.ret,σ=>RetNews T σ ps rv
 |_,_=>False
theorem fnNews_of {P:Program}{T:Tbl}(hT:TOk P T) (hm:P.follows .mixedOrders=true) {f:FuncId}{fn:Func}{c:Code}{rv:ResultVar}{args:List Arg}{ps:List Part}
  (hf : P.funcs[f]? = some fn) (hb : fn.body = some c) (hname : (fn.name == "runtime.NumGoroutine") = false) (hr : fn.results = #[rv]) (hn : Nat.ble args.length fn.ntmps = true)
  (h:∀ w0 own0,CW ⟨P,T,hT,hm,fn.ntmps,w0,own0,0,[]⟩ c (newsQ T rv ps) (argSt 0 args)):FnNews P f args ps:=by
 refine⟨⟨fn,hf,hname,by rw[hb];rfl⟩,fun w own vs hown ha=>?_⟩
 have hsim:=entry_sim (P:=P) (T:=T) (hT:=hT) (hm:=hm) (n:=fn.ntmps) hown ha (by simpa using hn)
 refine calls_of_wp hf hb (wp_mono (h w own _ _ hsim) fun x a' w' he=>?_)
 obtain⟨σ',⟨g,nx,hg⟩,hq⟩:=he
 have fin:∀ hq:RetNews T σ' ps rv,a'.defers=[]∧∃ v,(results fn a'.tmps).run P w' = .ok v w'∧∃ cs,Ending.returned v = .returned (.agg cs)∧Below w.heap.size w w'∧PartsAt w' w.heap.size own ps cs:=by
  intro hq
  obtain⟨cs,h1,h2⟩:=hq.ok hg
  exact⟨hg.defers,.agg cs,by rw[results_one hr];exact h1,cs,rfl,hg.below,h2⟩
 cases x with
 |normal=>exact fin hq
 |ret=>exact fin hq
 |exit j=>exact hq.elim
 |goto j=>exact hq.elim
 |panic c=>exact hq.elim
 |outgrown=>exact hq.elim
def Part.dt:Part→D
 |.d x=>x
 |.own _ k rows => .sl k rows
theorem FnNews.ok {P:Program}{f:FuncId}{args:List Arg}{ps:List Part}(h:FnNews P f args ps):FnOk P f args (.one (.agg (ps.map Part.dt))):=by
 refine⟨h.run,fun w own vs hown ha=>(h.calls w own vs hown ha).mono fun r w' hr=>?_⟩
 obtain⟨cs,rfl,h1,h2⟩:=hr
 refine⟨.agg cs,rfl,h1,?_⟩
 refine .agg cs _ (by rw[h2.size,List.length_map]) h2.one fun j x c hj hc=>?_
 rw[List.getElem?_map]at hj
 cases hp:ps[j]? with
 |none=>rw[hp]at hj;cases hj
 |some p =>
  rw[hp]at hj
  simp at hj;subst hj
  have hcd:cs.getD j undef=c:=by rw[Array.getD_eq_getD_getElem?,hc];rfl
  cases p with
  |d x =>
   have:=h2.data j x hp
   rw[hcd]at this
   exact this.less fun b hb => .inl hb
  |own e k rows =>
   have:=h2.rows j e k rows hp
   rw[hcd]at this
   refine this.rd fun b hb=>⟨.inl hb,fun he=>?_⟩
   have:=(this.lt he).1
   have:=hown.1 b hb
   omega
def newObs:Nat→List Part→List (Key×Val)
 |n,[]=>[(.nx,.num n)]
 |n,.d _::r=>newObs n r
 |n,.own e k rows::r=>(.o n,.ob (.arr e k rows))::newObs (n+1) r
def newAvs:Nat→List Part→List AV
 |_,[]=>[]
 |n,.d x::r => .d x::newAvs n r
 |n,.own _ _ rows::r => .own n rows.length::newAvs (n+1) r
def newN:Nat→List Part→Nat
 |n,[]=>n
 |n,.d _::r=>newN n r
 |n,.own _ _ _::r=>newN (n+1) r
def idAt:Nat→List Part→Nat→Nat
 |n,[],_=>n
 |n,.d _::r,j+1=>idAt n r j
 |n,.own _ _ _::r,j+1=>idAt (n+1) r j
 |n,_::_,0=>n
theorem newN_ge:∀ {ps:List Part}{n:Nat},n≤newN n ps
 | [],n=>Nat.le_refl _
 |.d _::r,n=>newN_ge (ps:=r)
 |.own _ _ _::r,n=>Nat.le_trans (Nat.le_succ n) (newN_ge (ps:=r))
theorem newAvs_len:∀ {ps:List Part}{n:Nat},(newAvs n ps).length=ps.length
 | [],n=>rfl
 |.d _::r,n=>by simp[newAvs,newAvs_len (ps:=r)]
 |.own _ _ _::r,n=>by simp[newAvs,newAvs_len (ps:=r)]
theorem newObs_s {i:Nat}:∀ {ps:List Part}{n:Nat},get (newObs n ps++σ) (.s i)=get σ (.s i)
 | [],n=>get_cons_ne (by simp)
 |.d _::r,n=>newObs_s (ps:=r)
 |.own _ _ _::r,n=>(get_cons_ne (by simp)).trans (newObs_s (ps:=r))
theorem newObs_nx:∀ {ps:List Part}{n:Nat},get (newObs n ps++σ) .nx = .num (newN n ps)
 | [],n=>get_cons_same
 |.d _::r,n=>newObs_nx (ps:=r)
 |.own _ _ _::r,n=>(get_cons_ne (by simp)).trans (newObs_nx (ps:=r))
theorem newObs_lo {i:Nat}:∀ {ps:List Part}{n:Nat},i < n→get (newObs n ps++σ) (.o i)=get σ (.o i)
 | [],n,_=>get_cons_ne (by simp)
 |.d _::r,n,h=>newObs_lo (ps:=r) h
 |.own _ _ _::r,n,h=>(get_cons_ne (by simp;omega)).trans (newObs_lo (ps:=r) (by omega))
theorem newObs_at {i:Nat}{o:Ob}:∀ {ps:List Part}{n:Nat},(∀ j o,n≤j→get σ (.o j) ≠ .ob o)→n≤i→get (newObs n ps++σ) (.o i) = .ob o →
  ∃ j e k rows,ps[j]? = some (.own e k rows)∧o = .arr e k rows∧idAt n ps j=i∧i < newN n ps
 | [],n,h0,hi,h=>by
  rw[show get (newObs n []++σ) (.o i)=get σ (.o i) from get_cons_ne (by simp)]at h
  exact absurd h (h0 i o hi)
 |.d _::r,n,h0,hi,h=>by
  obtain⟨j,e,k,rows,h1,h2,h3,h4⟩:=newObs_at (ps:=r) h0 hi h
  exact⟨j+1,e,k,rows,by simpa using h1,h2,h3,h4⟩
 |.own e k rows::r,n,h0,hi,h=>by
  by_cases he:n=i
  ·
   subst he
   rw[show get (newObs n (.own e k rows::r)++σ) (.o n) = .ob (.arr e k rows) from get_cons_same]at h
   cases h
   exact⟨0,e,k,rows,rfl,rfl,rfl,newN_ge (ps:=r)⟩
  ·
   rw[show get (newObs n (.own e k rows::r)++σ) (.o i)=get (newObs (n+1) r++σ) (.o i) from get_cons_ne (by simpa using he)]at h
   obtain⟨j,e',k',rows',h1,h2,h3,h4⟩:=newObs_at (ps:=r) (fun j o hj=>h0 j o (by omega)) (by omega) h
   exact⟨j+1,e',k',rows',by simpa using h1,h2,h3,h4⟩
theorem idAt_get {e k:Nat}{rows:List (List D)}:∀ {ps:List Part}{n j:Nat},ps[j]? = some (.own e k rows)→get (newObs n ps++σ) (.o (idAt n ps j)) = .ob (.arr e k rows)∧n≤idAt n ps j∧(newAvs n ps)[j]? = some (.own (idAt n ps j) rows.length)∧idAt n ps j < newN n ps
 |.d _::r,n,0,h=>by simp at h
 |.own e' k' rows'::r,n,0,h=>by
  simp at h
  obtain⟨rfl,rfl,rfl⟩:=h
  exact⟨get_cons_same,Nat.le_refl _,rfl,newN_ge (ps:=r)⟩
 |.d _::r,n,j+1,h=>by
  have:=idAt_get (ps:=r) (n:=n) (j:=j) (by simpa using h)
  exact⟨this.1,this.2.1,this.2.2.1,this.2.2.2⟩
 |.own _ _ _::r,n,j+1,h=>by
  have:=idAt_get (ps:=r) (n:=n+1) (j:=j) (by simpa using h)
  exact⟨(get_cons_ne (by simp only[idAt,ne_eq,Key.o.injEq];omega)).trans this.1,by simp only[idAt];omega,this.2.2.1,this.2.2.2⟩
theorem newAvs_at {av:AV}:∀ {ps:List Part}{n j:Nat},(newAvs n ps)[j]? = some av→∃ p,ps[j]? = some p∧((∃ x,p = .d x∧av = .d x)∨∃ e k rows,p = .own e k rows∧av = .own (idAt n ps j) rows.length)
 |.d x::r,n,0,h=>by
  simp[newAvs]at h
  exact⟨_,rfl,.inl ⟨x,rfl,h.symm⟩⟩
 |.own e k rows::r,n,0,h=>by
  simp[newAvs]at h
  exact⟨_,rfl,.inr ⟨e,k,rows,rfl,h.symm⟩⟩
 |.d _::r,n,j+1,h=>newAvs_at (ps:=r) (n:=n) (j:=j) (by simpa[newAvs] using h)
 |.own _ _ _::r,n,j+1,h=>newAvs_at (ps:=r) (n:=n+1) (j:=j) (by simpa[newAvs] using h)
theorem ex_g (g:Nat→Value):∀ (ps:List Part) (n:Nat) (c:Nat→Value),∃ g':Nat→Value,(∀ i,i < n→g' i=g i)∧∀ j e k rows,ps[j]? = some (.own e k rows)→g' (idAt n ps j)=c j
 | [],n,c=>⟨g,fun _ _=>rfl,fun j e k rows h=>by simp at h⟩
 |.d x::r,n,c=>by
  obtain⟨g',h1,h2⟩:=ex_g g r n fun j=>c (j+1)
  refine⟨g',h1,fun j e k rows h=>?_⟩
  cases j with
  |zero=>simp at h
  |succ j=>exact h2 j e k rows (by simpa using h)
 |.own _ _ _::r,n,c=>by
  obtain⟨g',h1,h2⟩:=ex_g g r (n+1) fun j=>c (j+1)
  refine⟨upd g' n (c 0),fun i hi=>by rw[upd_ne (by omega)];exact h1 i (by omega),fun j e k rows h=>?_⟩
  cases j with
  |zero=>exact upd_same _ _ _
  |succ j =>
   have h':r[j]? = some (.own e k rows):=by simpa using h
   have:=(idAt_get (σ:=[]) (n:=n+1) h').2.1
   show upd g' n (c 0) (idAt (n+1) r j)=_
   rw[upd_ne (by omega)]
   exact h2 j e k rows h'
theorem SimG.joins (hs:SimG cx σ a w g nx) (hb:Below w.heap.size w w') {ps:List Part}{cs:Array Value}(hr:PartsAt w' w.heap.size (cx.own g σ) ps cs) :
  ∃ g',SimG cx (newObs nx ps++σ) a w' g' (newN nx ps)∧(∀ j e k rows,ps[j]? = some (.own e k rows)→g' (idAt nx ps j)=cs.getD j undef)∧∀ b,cx.own g' (newObs nx ps++σ) b→withL (cx.own g σ) ps cs b:=by
 obtain⟨g',hg1,hg2⟩:=ex_g g ps nx fun j=>cs.getD j undef
 have h0:∀ j o,nx≤j→get σ (.o j) ≠ .ob o:=fun j o hj ho=>by have:=(hs.objs j o ho).1;omega
 have hob:∀ id o,get (newObs nx ps++σ) (.o id) = .ob o→(id < nx∧get σ (.o id) = .ob o∧g' id=g id)∨(nx≤id∧∃ j e k rows,ps[j]? = some (.own e k rows)∧o = .arr e k rows∧idAt nx ps j=id∧id < newN nx ps∧g' id=cs.getD j undef):=fun id o ho=>by
  by_cases hid:id < nx
  ·
   rw[newObs_lo hid]at ho
   exact .inl ⟨hid,ho,hg1 id hid⟩
  ·
   obtain⟨j,e,k,rows,h1,h2,h3,h4⟩:=newObs_at h0 (by omega) ho
   exact .inr ⟨by omega,j,e,k,rows,h1,h2,h3,h4,by rw[← h3];exact hg2 j e k rows h1⟩
 have hown:∀ b,cx.own g' (newObs nx ps++σ) b→withL (cx.own g σ) ps cs b:=fun b hb=>by
  rcases hb with hb|⟨id,o,h1,h2⟩
  ·
   exact .inl (.inl hb)
  ·
   rcases hob id o h1 with ⟨_,h3,h4⟩|⟨_,j,e,k,rows,h3,_,_,_,h4⟩
   ·
    exact .inl (.inr ⟨id,o,h3,by rw[← h4];exact h2⟩)
   ·
    exact .inr ⟨j,e,k,rows,h3,by rw[← h4];exact h2⟩
 have hnew:∀ {j e k rows b},ps[j]? = some (.own e k rows)→blk (cs.getD j undef)=some b→w.heap.size≤b:=fun hj hbk=>((hr.rows _ _ _ _ hj).lt hbk).1
 have hge:=hs.below.size
 have hl:Later cx g g' σ (newObs nx ps++σ) w w' nx:=by
  refine⟨Ext.of_below hb,hb.mono hge,fun b hb'=>?_,fun id o' hid ho=>⟨o',by rw[← newObs_lo (ps:=ps) hid];exact ho,?_⟩⟩
  ·
   rcases hown b hb' with h|⟨j,e,k,rows,hj,h⟩
   ·
    exact .inl h
   ·
    exact .inr (hnew hj h)
  ·
   have:=hg1 id hid
   cases o' <;> simp[ObLe,this]
 refine⟨g',?_,hg2,hown⟩
 refine hs.next hl newObs_nx newN_ge hs.size hs.defers (hb.mono hge) (fun i av hi=>?_) (fun id o ho=>?_) fun id id' o o' b h1 h2 h3 h4=>?_
 ·
  rw[newObs_s]at hi
  exact .inl ⟨hi,rfl⟩
 ·
  rcases hob id o ho with ⟨h1,h2,h3⟩|⟨h1,j,e,k,rows,h2,rfl,h3,h4,h5⟩
  ·
   exact .inl ⟨h2,h3,fun b hbk=>hb.block b (own_lt hs (.inr ⟨id,o,h2,hbk⟩))⟩
  ·
   refine .inr ⟨h4,?_,trivial⟩
   have:=(hr.rows j e k rows h2).re (base':=cx.w0.heap.size) (fun b hbk=>by have:=hnew h2 hbk;omega) hown
   rw[← h5]at this
   exact this
 ·
  have hlo:∀ {id o b},get σ (.o id) = .ob o→g' id=g id→blk (g' id)=some b→b < w.heap.size:=fun h1 h2 h3=>own_lt hs (.inr ⟨_,_,h1,by rw[← h2];exact h3⟩)
  rcases hob id o h1 with ⟨_,h5,h6⟩|⟨_,j,e,k,rows,h5,_,h6,_,h7⟩
  ·
   rcases hob id' o' h2 with ⟨_,h5',h6'⟩|⟨_,j',e',k',rows',h5',_,h6',_,h7'⟩
   ·
    exact hs.sep id id' o o' b h5 h5' (by rw[← h6];exact h3) (by rw[← h6'];exact h4)
   ·
    have:=hlo h5 h6 h3
    have:=hnew h5' (by rw[← h7'];exact h4)
    omega
  ·
   rcases hob id' o' h2 with ⟨_,h5',h6'⟩|⟨_,j',e',k',rows',h5',_,h6',_,h7'⟩
   ·
    have:=hlo h5' h6' h4
    have:=hnew h5 (by rw[← h7];exact h3)
    omega
   ·
    have:=hr.sep j j' e k rows e' k' rows' b h5 h5' (by rw[← h7];exact h3) (by rw[← h7'];exact h4)
    rw[← h6,← h6',this]
theorem newAvs_bd {ps:List Part}{n:Nat}:∀ av∈newAvs n ps,av.bd1 (newN n ps):=by
 intro av hav
 obtain⟨j,hj⟩:=List.getElem?_of_mem hav
 obtain⟨p,hp,h⟩:=newAvs_at hj
 rcases h with ⟨x,_,rfl⟩|⟨e,k,rows,rfl,rfl⟩
 ·
  trivial
 ·
  exact(idAt_get (σ:=[]) (n:=n) hp).2.2.2
theorem ok_callnews {f:FuncId}{xs:List Operand}{avs:List AV}{ys:List Arg}{l:List (Key×Val)}{ps:List Part}{ats:Array TypeId}(hn:d < cx.n) (hc:FnNews cx.P f ys ps) (hsub:Subs xs avs ys l) :
  OpOk cx ⟨some d,.call { callee := .value (.func f),args:=⟨xs⟩,argTypes:=ats },ty,pos,af,gd⟩ ⟨l++[(.nx,.num nx)],(.s d,.av (.agg (newAvs nx ps)))::newObs nx ps⟩:=by
 rintro σ a w K Q ⟨g,n',hs⟩ hr hK
 have hnx:n'=nx:=by
  have h2:=hr.right.1
  rw[hs.hnx]at h2
  simpa using h2
 subst hnx
 have hcall:=hc.calls w (cx.own g σ) (xs.map a.eval) ⟨fun b hb=>own_lt hs hb,hs.gl⟩ (hsub.ok hs hr.left)
 unfold Oper.wp
 rw[call_run hc.run]
 refine hcall.mono fun r w' he=>?_
 obtain⟨cs,rfl,hb,hres⟩:=he
 obtain⟨g',hG,hg2,hown⟩:=SimG.joins hs hb hres
 refine hK _ _ (Sim.put hG hn (Below.refl _ _) ?_ newAvs_bd)
 refine⟨cs,rfl,by rw[newAvs_len,hres.size],hres.one,fun j c av hj hcj=>?_⟩
 obtain⟨p,hp,h⟩:=newAvs_at hj
 have hcd:cs.getD j undef=c:=by rw[Array.getD_eq_getD_getElem?,hcj];rfl
 rcases h with ⟨x,rfl,rfl⟩|⟨e,k,rows,rfl,rfl⟩
 ·
  have:=hres.data j x hp
  rw[hcd]at this
  exact Rd.less hown this
 ·
  refine⟨.of (idAt_get hp).1,fun e' k' rows' hg=>?_⟩
  rw[(idAt_get hp).1]at hg
  cases hg
  exact⟨Nat.le_refl _,fun _=>by rw[← hcd];exact(hg2 j e k rows hp).symm⟩
theorem a_callnews {f:FuncId}{xs:List Operand}{avs:List AV}{ys:List Arg}{l:List (Key×Val)}{ps:List Part}{ats:Array TypeId}(hc:FnNews cx.P f ys ps) (hn:get σ .nx = .num nx) (hd:Nat.blt d cx.n=true) (hsub:SubsE σ xs avs ys l) :
  OA cx σ ⟨some d,.call { callee := .value (.func f),args:=⟨xs⟩,argTypes:=ats },ty,pos,af,gd⟩ ⟨l++[(.nx,.num nx)],(.s d,.av (.agg (newAvs nx ps)))::newObs nx ps⟩ :=
 ⟨ok_callnews (lt_of_blt hd) hc hsub.out.1,hsub.out.2.append ⟨hn,trivial⟩⟩
end Go.AX
namespace Go.AX
open Go.RowKit
variable {cx:Cx}{g:Nat→Value}{σ:St}{a:Act}{w:World}{nx:Nat}
variable {ty:TypeId}{pos:String}{af:Array Edge}{gd:Option (Nat×Bool)}{d:Nat}
theorem a_nilpd {x:Operand}{cells:List D}(hx:ev σ x=some (.pd cells)) (hd:Nat.blt d cx.n=true) :
  OA cx σ ⟨some d,.nilCheck x,ty,pos,af,gd⟩ ⟨rdOf x (.pd cells),[(.s d,.av (.pd cells))]⟩ :=
 ⟨ok_nilCheck_pd (lt_of_blt hd) (ev_out hx).1,(ev_out hx).2⟩
end Go.AX
namespace Go.Proofs.YtfpkamiobdkcpaaGreatDoor
open Go.AX Go.RF Go.RowKit
set_option maxRecDepth 100000
set_option maxHeartbeats 8000000
theorem wrong_reads {d:Deed}(h:wrongDeed d=0):∀ i∈d.code,i.kind=1→i.key∈d.reads:=by
 intro i hi hk
 unfold wrongDeed at h
 by_cases h0:lsGo [d.reads,d.writes]=0
 ·
  rw[if_pos h0]at h
  by_cases hc:12 < d.code.length
  ·
   rw[if_pos hc]at h;simp at h
  ·
   rw[if_neg hc]at h
   obtain⟨j,hj⟩:=List.getElem?_of_mem hi
   have h:=codeGo_mem h j i hj
   unfold wrongIns at h
   rw[if_neg (show ¬ (i.kind < 1∨9 < i.kind) by omega)]at h
   have hh:has i.kind.toNat 107=true:=by rw[hk];decide
   split at h
   ·
    simp at h
   ·
    simp only[hh,hk,Bool.true_eq_false,if_false,if_true]at h
    rw[if_neg (show ¬ has (Int.toNat 1) 107=false by decide)]at h
    by_cases hi:isIn d.reads i.key=true
    ·
     exact isIn_true hi
    ·
     rw[if_neg hi]at h;simp at h
 ·
  rw[if_neg h0]at h;exact absurd h h0
end Go.Proofs.YtfpkamiobdkcpaaGreatDoor
namespace Go.AX
open Go.RowKit
variable {cx:Cx}{g:Nat→Value}{σ:St}{a:Act}{w:World}{nx:Nat}
variable {ty:TypeId}{pos:String}{af:Array Edge}{gd:Option (Nat×Bool)}{d:Nat}
def RdG (R:Value→AV→Prop) (cs:List Value) (ds:List AV):Prop :=
 cs.length=ds.length∧(∀ c∈cs,Value.oneCell' c=true)∧∀ (j:Nat) (c:Value) (x:AV),ds[j]? = some x→cs[j]? = some c→R c x
theorem RdG.splice {R:Value→AV→Prop}{cs ns:List Value}{ds es:List AV}{off:Nat}(h:RdG R cs ds) (hn:RdG R ns es) (hle:off+es.length≤ds.length):RdG R (splice cs off ns) (splice ds off es):=by
 obtain⟨h1,h2,h3⟩:=h
 obtain⟨n1,n2,n3⟩:=hn
 refine⟨by simp[AX.splice];omega,fun c hc=>?_,fun j c x hx hc=>?_⟩
 ·
  unfold AX.splice at hc
  rcases List.mem_append.1 hc with hc|hc
  ·
   rcases List.mem_append.1 hc with hc|hc
   ·
    exact h2 c (List.mem_of_mem_take hc)
   ·
    exact n2 c hc
  ·
   exact h2 c (List.mem_of_mem_drop hc)
 ·
  unfold AX.splice at hx hc
  rw[List.append_assoc]at hx hc
  have t1:(ds.take off).length=off:=by simp;omega
  have t2:(cs.take off).length=off:=by simp;omega
  rcases Nat.lt_or_ge j off with hj|hj
  ·
   rw[List.getElem?_append_left (by omega),List.getElem?_take,if_pos hj]at hx hc
   exact h3 j c x hx hc
  ·
   rw[List.getElem?_append_right (by omega),t1]at hx
   rw[List.getElem?_append_right (by omega),t2]at hc
   rcases Nat.lt_or_ge (j - off) es.length with hjn|hjn
   ·
    rw[List.getElem?_append_left hjn]at hx
    rw[List.getElem?_append_left (by omega)]at hc
    exact n3 _ c x hx hc
   ·
    rw[List.getElem?_append_right hjn,List.getElem?_drop]at hx
    rw[List.getElem?_append_right (by omega),List.getElem?_drop]at hc
    rw[n1]at hc
    exact h3 _ c x hx hc
def fillA (place:Nat→Option (Nat×Nat)):List AV→List (Nat×List AV)→Option (List AV)
 |ds,[]=>some ds
 |ds,(i,es)::r=>match place i with
  |none=>none
  |some (off,size)=>match Nat.beq es.length size with
   |false=>none
   |true=>match Nat.ble (off+es.length) ds.length with
    |false=>none
    |true=>fillA place (splice ds off es) r
theorem fillA_ok {R:Value→AV→Prop}{place:Nat→Option (Nat×Nat)}:∀ {ps:List (Nat×Value)}{qs:List (Nat×List AV)}{cs:Array Value}{ds out:List AV},
  ps.length=qs.length→(∀ (j:Nat) (p:Nat×Value) (q:Nat×List AV),ps[j]? = some p→qs[j]? = some q→p.1=q.1∧RdG R p.2.cells.toList q.2) →
  RdG R cs.toList ds→fillA place ds qs=some out→∃ cs',Instr.fill place cs ps=some cs'∧RdG R cs'.toList out
 | [],[],cs,ds,out,_,_,h,hf=>by
  simp only[fillA,Option.some.injEq]at hf
  subst hf
  exact⟨cs,rfl,h⟩
 |p::ps,(i,es)::qs,cs,ds,out,hl,hp,h,hf=>by
  obtain⟨hp1,hp2⟩:=hp 0 p (i,es) rfl rfl
  simp only[fillA]at hf
  split at hf
  ·
   cases hf
  ·
   next off size hpl =>
   split at hf
   ·
    cases hf
   ·
    next hb1 =>
    split at hf
    ·
     cases hf
    ·
     next hb2 =>
     have e1:es.length=size:=by simpa using hb1
     have e2:off+es.length≤ds.length:=by simpa using hb2
     have hsz:p.2.cells.size=es.length:=by have:=hp2.1;simpa using this
     have hcs:cs.size=ds.length:=by have:=h.1;simpa using this
     have hsp:=foldl_set off p.2.cells.toList 0 cs (by simp;omega)
     rw[Nat.add_zero]at hsp
     have hr:=h.splice hp2 e2
     rw[← hsp]at hr
     obtain⟨cs',h3,h4⟩:=fillA_ok (ps:=ps) (qs:=qs) (by simpa using hl) (fun j p q hj hq=>hp (j+1) p q (by simpa using hj) (by simpa using hq)) hr hf
     refine⟨cs',?_,h4⟩
     obtain⟨pi,pv⟩:=p
     simp only at hp1 hsz
     subst hp1
     simp only[Instr.fill,hpl,hsz,e1,ne_eq,not_true_eq_false,decide_false,Bool.false_or]
     rw[if_neg (by simp;omega)]
     rw[← h3]
     have hfo:pv.cells.zipIdx.foldl (fun(cs:Array Value) (x:Value×Nat)=>match x with|(c,j)=>cs.setIfInBounds (off+j) c) cs =
       List.foldl (fun(cs:Array Value) (x:Value×Nat)=>match x with|(c,j)=>cs.setIfInBounds (off+j) c) cs pv.cells.toList.zipIdx:=by
      rw[← Array.foldl_toList,Array.toList_zipIdx]
     rw[← hfo]
inductive PartsV (σ:St):List (Nat×Operand)→List (Nat×List AV)→List (Key×Val)→Prop
 |nil:PartsV σ [] [] []
 |cons {i:Nat} {x:Operand} {r:List (Nat×Operand)} {av:AV} {ds:List AV} {q:List (Nat×List AV)} {l lo:List (Key×Val)} (hx:ev σ x=some av) (hc:cellsOf av=some ds) (hl:nwRd av lo∧App σ lo) (hr:PartsV σ r q l) :
   PartsV σ ((i,x)::r) ((i,ds)::q) (rdOf x av++(lo++l))
inductive PartsW:List (Nat×Operand)→List (Nat×List AV)→List (Key×Val)→Prop
 |nil:PartsW [] [] []
 |cons {i:Nat} {x:Operand} {r:List (Nat×Operand)} {av:AV} {ds:List AV} {q:List (Nat×List AV)} {l lo:List (Key×Val)} (hx:EvS x av) (hc:cellsOf av=some ds) (hl:nwRd av lo) (hr:PartsW r q l) :
   PartsW ((i,x)::r) ((i,ds)::q) (rdOf x av++(lo++l))
theorem PartsV.out {ps:List (Nat×Operand)}{qs:List (Nat×List AV)}{l:List (Key×Val)}(h:PartsV σ ps qs l):PartsW ps qs l∧App σ l:=by
 induction h with
 |nil=>exact⟨.nil,trivial⟩
 |cons hx hc hl hr ih=>exact⟨.cons (ev_out hx).1 hc hl.1 ih.1,(ev_out hx).2.append (hl.2.append ih.2)⟩
theorem PartsW.ok (hs:SimG cx σ a w g nx) {ps:List (Nat×Operand)}{qs:List (Nat×List AV)}{l:List (Key×Val)}(h:PartsW ps qs l) (ha:App σ l) :
  (ps.map fun p=>(p.1,a.eval p.2)).length=qs.length ∧
  (∀ (j:Nat) (p:Nat×Value) (q:Nat×List AV),(ps.map fun p=>(p.1,a.eval p.2))[j]? = some p→qs[j]? = some q→p.1=q.1∧RdG (Rep1 cx g σ w) p.2.cells.toList q.2) ∧
  ∀ q∈qs,∀ av∈q.2,av.bd1 nx:=by
 induction h with
 |nil=>exact⟨rfl,fun j p q h=>by simp at h,by simp⟩
 |cons hx hc hl hr ih =>
  obtain⟨h1,h2,h3⟩:=ih ha.right.right
  obtain⟨hrep,hbd⟩:=hs.ev hx ha.left
  obtain⟨c1,c2,c3,c4⟩:=cells_of hrep hbd hc (one_of hs hrep (newest_of hl ha.right.left))
  refine⟨by simpa using h1,fun j p q hj hq=>?_,fun q hq=>?_⟩
  ·
   cases j with
   |zero =>
    simp at hj hq
    subst hj hq
    refine⟨rfl,by simpa using c1,fun c hc=>?_,fun j c x hx hc=>c3 j c x hx (by simpa using hc)⟩
    obtain⟨j,hj⟩:=List.getElem?_of_mem hc
    exact c2 j c (by simpa using hj)
   |succ j=>exact h2 j p q (by simpa using hj) (by simpa using hq)
  ·
   rcases List.mem_cons.1 hq with rfl|hq
   ·
    exact c4
   ·
    exact h3 q hq
theorem zero_g {zs:List Value}(h1:∀ c∈zs,Value.oneCell' c=true):RdG (Rep1 cx g σ w) zs (zs.map fun c=>AV.d (.v c)) :=
 ⟨by simp,h1,fun j c x hx hc=>by
  rw[List.getElem?_map,hc]at hx
  obtain rfl:AV.d (.v c)=x:=by simpa using hx
  exact Rd.v c⟩
theorem fillA_bd {place:Nat→Option (Nat×Nat)}:∀ {qs:List (Nat×List AV)}{ds out:List AV},(∀ av∈ds,av.bd1 nx)→(∀ q∈qs,∀ av∈q.2,av.bd1 nx)→fillA place ds qs=some out→∀ av∈out,av.bd1 nx
 | [],ds,out,h,_,hf=>by
  simp only[fillA,Option.some.injEq]at hf
  subst hf;exact h
 |(i,es)::qs,ds,out,h,hq,hf=>by
  simp only[fillA]at hf
  split at hf
  ·
   cases hf
  ·
   next off size hpl =>
   split at hf
   ·
    cases hf
   ·
    split at hf
    ·
     cases hf
    ·
     refine fillA_bd (fun av hav=>?_) (fun q hq'=>hq q (List.mem_cons_of_mem _ hq')) hf
     unfold splice at hav
     rcases List.mem_append.1 hav with hav|hav
     ·
      rcases List.mem_append.1 hav with hav|hav
      ·
       exact h av (List.mem_of_mem_take hav)
      ·
       exact hq _ (List.mem_cons_self ..) av hav
     ·
      exact h av (List.mem_of_mem_drop hav)
theorem ok_buildA {t:TypeId}{ps:List (Nat×Operand)}{qs:List (Nat×List AV)}{l:List (Key×Val)}{ti:TI}{place:Nat→Option (Nat×Nat)}{out:List AV}(hn:d < cx.n) (ht:tget cx.T t=some ti)
  (hk:stPlace ti=some place) (h1:∀ c∈ti.zero,Value.oneCell' c=true) (hp:PartsW ps qs l) (hf:fillA place (ti.zero.map fun c=>AV.d (.v c)) qs=some out) :
  OpOk cx ⟨some d,.build t ⟨ps⟩,ty,pos,af,gd⟩ ⟨l,[(.s d,.av (.agg out))]⟩:=by
 refine ok_val rfl hn fun σ a w g nx hs hr=>?_
 have hF:=cx.hT t ti ht
 obtain⟨i,hi,_,_,z,hz,hzc⟩:=hF.info
 unfold stPlace at hk
 split at hk
 ·
  next fs hkd =>
  cases hk
  have hkk:=hF.kind
  rw[hkd]at hkk
  obtain⟨b,hu,hbl,hg⟩:=hkk
  have hpl:b.toList.mapM (fun f=>(cx.P.info? f.type).map fun i=>(f.offset,i.size))=some fs:=by
   have key:∀ (bl:List Field) (fl:List (Nat×Nat)),bl.length=fl.length→(∀ (j:Nat) (p:Nat×Nat),fl[j]? = some p→∃ (f:Field) (i:TypeInfo),bl[j]? = some f∧f.offset=p.1∧cx.P.info? f.type=some i∧i.size=p.2) →
     bl.mapM (fun f=>(cx.P.info? f.type).map fun i=>(f.offset,i.size))=some fl:=by
    intro bl
    induction bl with
    |nil=>intro fl hl _;cases fl with
     |nil=>rfl
     |cons p fl=>simp at hl
    |cons f bl ih=>intro fl hl hh;cases fl with
     |nil=>simp at hl
     |cons p fl =>
      obtain⟨f',i',e1,e2,e3,e4⟩:=hh 0 p rfl
      simp at e1
      subst e1
      have:=ih fl (by simpa using hl) fun j q hq=>by
       obtain⟨f',i',e⟩:=hh (j+1) q (by simpa using hq)
       exact⟨f',i',by simpa using e⟩
      simp[List.mapM_cons,e3,this,e2,e4]
   exact key b.toList fs (by simpa using hbl) fun j p hj=>by
    obtain⟨f,i,e1,e2,e3,e4,_⟩:=hg j p hj
    exact⟨f,i,by simpa using e1,e2,e3,e4⟩
  obtain⟨h2,h3,h8⟩:=hp.ok hs hr
  obtain⟨cs',h4,h5,h6,h7⟩:=fillA_ok (cs:=z.cells) h2 h3 (by rw[hzc];exact zero_g h1) hf
  have hb:cx.P.built t (ps.map fun p=>(p.1,a.eval p.2))=some cs':=by
   simp only[Program.built,hi,hu,hz,hpl]
   rw[← h4]
   congr 1
   funext j
   simp
  have hrun:=run_build (P:=cx.P) w t (ps.map fun p=>(p.1,a.eval p.2)).toArray cs' (by simpa using hb)
  refine⟨.agg cs',w,?_,Below.refl _ _,⟨cs',rfl,by simpa using h5,fun j c hj=>h6 c (List.mem_of_getElem? (by simpa using hj)),fun j c x hx hc=>h7 j c x hx (by simpa using hc)⟩,fillA_bd (fun av hav=>by obtain⟨z,_,rfl⟩:=List.mem_map.1 hav;trivial) h8 hf⟩
  simp only[execOp,List.map_toArray,Sem.run_bind,hrun,Result.andThen_ok,Sem.run_pure]
 ·
  cases hk
theorem a_buildA {t:TypeId}{ps:List (Nat×Operand)}{qs:List (Nat×List AV)}{l:List (Key×Val)}{ti:TI}{place:Nat→Option (Nat×Nat)}{out:List AV}(ht:tget cx.T t=some ti)
  (hk:stPlace ti=some place) (h1:(ti.zero.all Value.oneCell')=true) (hd:Nat.blt d cx.n=true) (hp:PartsV σ ps qs l) (hf:fillA place (ti.zero.map fun c=>AV.d (.v c)) qs=some out) :
  OA cx σ ⟨some d,.build t ⟨ps⟩,ty,pos,af,gd⟩ ⟨l,[(.s d,.av (.agg out))]⟩ :=
 ⟨ok_buildA (lt_of_blt hd) ht hk (fun c hc=>List.all_eq_true.1 h1 c hc) hp.out.1 hf,hp.out.2⟩
end Go.AX
namespace Go.AX
open Go.RowKit
variable {cx:Cx}{g:Nat→Value}{σ:St}{a:Act}{w w':World}{nx:Nat}
variable {ty:TypeId}{pos:String}{af:Array Edge}{gd:Option (Nat×Bool)}{d:Nat}
theorem stut_reserve:Stut cx ⟨[(.nx,.num nx)],[(.o nx,.ob .res),(.nx,.num (nx+1))]⟩:=by
 rintro σ a w ⟨g,n',hs⟩ hr
 have hnx:n'=nx:=by
  have h2:=hr.1
  rw[hs.hnx]at h2
  simpa using h2
 subst hnx
 exact⟨_,_,SimG.obj (o' := .res) (hv:=nilS) hs ⟨.inl ⟨rfl,rfl⟩,Below.refl _ _,fun b _ _=>rfl,fun b hb=>by simp[blk]at hb⟩ (fun _=>upd_same _ _ _) trivial⟩
theorem resBox {cs:Array Value}{cells:List AV}{t:TypeId}{id:Nat}(hs:SimG cx σ a w g nx) (hn:d < cx.n) (ho:get σ (.o id) = .ob .res) (hsz:cs.size=cells.length)
  (h1:∀ (j:Nat) (c:Value),cs[j]? = some c→c.oneCell'=true) (hr:∀ (j:Nat) (c:Value) (av:AV),cells[j]? = some av→cs[j]? = some c→Rep1 cx g σ w c av)
  (hbd:∀ av∈cells,av.bd1 nx) :
  Sim cx ([(.s d,.av (.ptr id 0)),(.o id,.ob (.box cells))]++σ) (a.put (some d) (.pointer (some ⟨w.heap.size,0,none⟩))) (w.alloc (.cells cs t)):=by
 have hid:=(hs.objs id _ ho).1
 have hnil:g id=nilS:=(hs.objs id _ ho).2.1
 have hst:ObjStep cx σ g nx nx w (w.alloc (.cells cs t)) id (.box cells) (.pointer (some ⟨w.heap.size,0,none⟩)):=by
  refine⟨.inr ⟨rfl,_,ho,trivial⟩,(Below.refl _ _).alloc hs.below.size _,fun b hb _=>Below.heap_alloc _ _ _ hb,fun b hb => .inr ?_⟩
  obtain rfl:w.heap.size=b:=by simpa[blk] using hb
  exact Nat.le_refl _
 have hG:=SimG.obj hs hst (fun hl=>?_) hbd
 ·
  refine Sim.eqv (Sim.put hG hn (Below.refl _ _) (av := .ptr id 0) ⟨.of get_cons_same,fun cells' hc=>⟨w.heap.size,upd_same _ _ _,rfl⟩⟩ hid) fun q=>?_
  cases q with
  |s i =>
   by_cases hi:i=d
   ·
    subst hi;rw[get_cons_same];exact get_cons_same.symm
   ·
    rw[get_cons_ne (by simpa using fun e=>hi e.symm),objSt_s]
    exact((get_cons_ne (by simpa using fun e=>hi e.symm)).trans (get_cons_ne (by simp))).symm
  |o i =>
   rw[get_cons_ne (by simp)]
   by_cases hi:i=id
   ·
    subst hi;rw[get_cons_same];exact((get_cons_ne (by simp)).trans get_cons_same).symm
   ·
    rw[objSt_o hi]
    exact((get_cons_ne (by simp)).trans (get_cons_ne (by simpa using fun e=>hi e.symm))).symm
  |nx =>
   rw[get_cons_ne (by simp),objSt_nx]
   exact(((get_cons_ne (by simp)).trans (get_cons_ne (by simp))).trans hs.hnx).symm
 ·
  refine⟨w.heap.size,cs,t,upd_same _ _ _,hs.below.size,?_,hsz,h1,fun j c av hj hc=>(hr j c av hj hc).step hl (hbd av (List.mem_of_getElem? hj))⟩
  exact heap_alloc_new w _
theorem a_allocR {t:TypeId}{ti:TI}(id:Nat) (ho:get σ (.o id) = .ob .res) (ht:tget cx.T t=some ti) (h1:(ti.zero.all Value.oneCell')=true) (hd:Nat.blt d cx.n=true) :
  OA cx σ ⟨some d,.alloc t,ty,pos,af,gd⟩ ⟨[(.o id,.ob .res)],[(.s d,.av (.ptr id 0)),(.o id,.ob (.box (ti.zero.map fun c=>AV.d (.v c))))]⟩:=by
 refine⟨?_,ho,trivial⟩
 rintro σ a w K Q ⟨g,nx,hs⟩ hr hK
 obtain⟨z,hz,hc⟩:=zero_of (cx.hT t ti ht) w
 refine wp_val rfl (v := .pointer (some ⟨w.heap.size,0,none⟩)) (w':=w.alloc (.cells z.cells t)) ?_ (hK _ _ (resBox hs (lt_of_blt hd) hr.1 ?_ (fun j c hj=>?_) (fun j c av hj hcj=>?_) fun av hav=>?_))
 ·
  simp[execOp,Instr.alloc,hz,newVar,newRow]
 ·
  rw[List.length_map,← hc,Array.length_toList]
 ·
  exact List.all_eq_true.1 h1 c (by rw[← hc];exact List.mem_of_getElem? (by simpa using hj))
 ·
  rw[List.getElem?_map,← hc]at hj
  have:z.cells.toList[j]? = some c:=by simpa using hcj
  rw[this]at hj
  obtain rfl:AV.d (.v c)=av:=by simpa using hj
  exact Rd.v c
 ·
  obtain⟨c,_,rfl⟩:=List.mem_map.1 hav
  trivial
end Go.AX
namespace Go.Proofs.YtfpkamiobdkcpaaGreatDoor
open Go.AX Go.RF
set_option maxRecDepth 100000
set_option maxHeartbeats 8000000
abbrev ownE (e:Engine):List Part:=[.d (encChains e.chains),.own 42 3 (e.deeds.map Deed.enc),.own 3 1 (e.state.map encInt1),.own 115 5 (e.ends.map Done.enc),.d (dint e.base)]
theorem news_planOwn (e:Engine) (hs:e.Sm):FnNews Tryz.prog 17 [.d (.agg e.enc)] (ownE e):=by
 refine fnNews_of tbl_ok mixed_ok Tryz.func17 rfl (by kernel_rfl) rfl rfl fun w0 own0=>?_
 have h1:=hs.c
 have h2:=hs.s
 have h3:=hs.n
 have h4:=hs.d
 have c1:=ok_chainOwn e.chains (by omega) (fun c hc=>by have:=hs.v c hc;omega)
 have c2:=new_clone_int (e.state.map encInt1) (by simp;omega)
 have c3:=new_clone_done (e.ends.map Done.enc) (by simp;omega)
 have hst0:StopR 1:=⟨rfl⟩
 try refine wkS ?_
 clear hst0
 refine Stop.go (CW.stut stut_reserve ⟨rfl,trivial⟩ ?_)
 repeat(first|((with_reducible apply s5);(with_reducible apply(a_allocR 2));exact rfl;exact rfl;exact rfl;exact rfl;exact by_g)|refine wa1 ?_|((with_reducible apply s5);(first|((with_reducible apply a_buildA);(iterate 4 exact rfl);(repeat(first|exact PartsV.nil|(apply PartsV.cons;exact rfl;exact rfl;(first|exact⟨rfl,trivial⟩|(apply nw_own;exact rfl;(focus first|exact rfl|(simp;done)|(simp;omega)))))));exact rfl)|exact a_callnew c2 rfl rfl by_sub|exact a_callnew c3 rfl rfl by_sub|exact by_oa|exact by_ca);exact by_g)|refine wb ?_)
 refine CW.stut (stut_promote_cell (id:=2) (j:=1) 42 3 rfl) ⟨rfl,rfl,trivial⟩ ?_
 refine CW.loopT (fun i:Nat=>[sp 2 1,ob 1 noE.enc0,sp 3 2,(.o 2,.ob (.box [.d (encChains e.chains),.own 5 i,.own 3 (e.state.map encInt1).length,.own 4 (e.ends.map Done.enc).length,.d (dint e.base)])),sd 19 (encDeeds e.deeds),sd 20 (dint e.deeds.length),sd 21 (dint i),
   oa 3 3 1 (e.state.map encInt1),oa 4 115 5 (e.ends.map Done.enc),oa 5 42 3 ((e.deeds.take i).map Deed.enc),nxt 6]) (fun i=>i≤e.deeds.length) (fun i=>e.deeds.length - i) 0 (by omega) ?_ ?_
 ·
  exact by_less
 ·
  rintro i hi
  rcases drop_case hi with ⟨h5,h6⟩|⟨d,h5,h6,h7⟩
  ·
   have h8:(e.deeds.take i).map Deed.enc=e.deeds.map Deed.enc:=by rw[h6,List.take_length]
   rw[h8]
   try refine wk ?_
   refine .cell rfl rfl rfl rfl (.cons .d (.cons (.own rfl (by simp;omega)) (.cons (.own rfl (by simp)) (.cons (.own rfl (by simp)) (.cons .d .nil))))) (show([5,3,4]:List Nat).Nodup by decide)
  ·
   have h8:(e.deeds.take i).map Deed.enc++[d.enc]=(e.deeds.take (i+1)).map Deed.enc:=by rw[List.take_add_one,h6];simp
   have hd:=ok_deedOwn d (hs.dd d (List.mem_of_getElem? h6))
   try refine wk ?_
   refine q_loopT (i+1) (by omega) (by omega) ?_
   exact by_less
def idxS:Nat→List Str→Str→Int
 |_,[],_ => -1
 |i,x::l,s=>if x=s then (i:Int) else idxS (i+1) l s
theorem idxS_in:∀ {l:List Str}{i:Nat}{s:Str},decide (0≤idxS i l s)=isIn l s
 | [],i,s=>rfl
 |x::l,i,s=>by
  by_cases h:x=s
  ·
   simp only[idxS,isIn,if_pos h];exact decide_eq_true (by omega)
  ·
   simp only[idxS,isIn,if_neg h];exact idxS_in
theorem ok_indexS (l:List Str) (s:Str) (hl:l.length≤1073741824):FnOk Tryz.prog 117 [.d (encStrs l),.d (dstr s)] (.one (dint (idxS 0 l s))):=by
 refine fnOk_of tbl_ok mixed_ok Tryz.func117 rfl (by kernel_rfl) rfl rfl fun w0 own0=>?_
 try refine wk ?_
 refine CW.loopT (fun t:Nat=>[sd 0 (encStrs l),sd 1 (dstr s),sd 6 (encStrs l),sd 7 (dint l.length),sd 8 (dint t),nxt 0])
  (fun t=>t≤l.length∧idxS t (l.drop t) s=idxS 0 l s) (fun t=>l.length - t) 0 ⟨by omega,rfl⟩ ?_ ?_
 ·
  exact by_less
 ·
  rintro t ⟨ht,hI⟩
  rcases drop_case ht with ⟨h1,h2⟩|⟨x,h1,h2,h3⟩
  ·
   rw[h1,idxS]at hI
   try refine wk ?_
   rw[← hI]
   exact .one (.tmp rfl (.one (.d (.refl _))))
  ·
   rw[h1,idxS]at hI
   by_cases h:x=s
   ·
    rw[if_pos h]at hI
    have h':s=x:=h.symm
    try refine wk ?_
    rw[← hI]
    exact .one (.tmp rfl (.one (.d (.refl _))))
   ·
    rw[if_neg h]at hI
    have h':¬ s=x:=fun e=>h e.symm
    try refine wk ?_
    refine q_loopT (t+1) ⟨by omega,hI⟩ (by omega) ?_
    exact by_less
theorem ok_containsS (l:List Str) (s:Str) (hl:l.length≤1073741824):FnOk Tryz.prog 77 [.d (encStrs l),.d (dstr s)] (.one (dbool (isIn l s))):=by
 refine fnOk_of tbl_ok mixed_ok Tryz.func77 rfl (by kernel_rfl) rfl rfl fun w0 own0=>?_
 have c1:=ok_indexS l s hl
 try refine wk ?_
 rw[← idxS_in (i:=0)]
 exact .one (.tmp rfl (.one (.d (.refl _))))
def isNum (l:List Int) (n:Int):Bool:=match l with
 | []=>false
 |x::l=>if x=n then true else isNum l n
def idxI:Nat→List Int→Int→Int
 |_,[],_ => -1
 |i,x::l,s=>if x=s then (i:Int) else idxI (i+1) l s
theorem idxI_in:∀ {l:List Int}{i:Nat}{s:Int},decide (0≤idxI i l s)=isNum l s
 | [],i,s=>rfl
 |x::l,i,s=>by
  by_cases h:x=s
  ·
   simp only[idxI,isNum,if_pos h];exact decide_eq_true (by omega)
  ·
   simp only[idxI,isNum,if_neg h];exact idxI_in
theorem ok_indexI (l:List Int) (s:Int) (hl:l.length≤1073741824):FnOk Tryz.prog 114 [.d (encInts l),.d (dint s)] (.one (dint (idxI 0 l s))):=by
 refine fnOk_of tbl_ok mixed_ok Tryz.func114 rfl (by kernel_rfl) rfl rfl fun w0 own0=>?_
 try refine wk ?_
 refine CW.loopT (fun t:Nat=>[sd 0 (encInts l),sd 1 (dint s),sd 6 (encInts l),sd 7 (dint l.length),sd 8 (dint t),nxt 0])
  (fun t=>t≤l.length∧idxI t (l.drop t) s=idxI 0 l s) (fun t=>l.length - t) 0 ⟨by omega,rfl⟩ ?_ ?_
 ·
  exact by_less
 ·
  rintro t ⟨ht,hI⟩
  rcases drop_case ht with ⟨h1,h2⟩|⟨x,h1,h2,h3⟩
  ·
   rw[h1,idxI]at hI
   try refine wk ?_
   rw[← hI]
   exact .one (.tmp rfl (.one (.d (.refl _))))
  ·
   rw[h1,idxI]at hI
   by_cases h:x=s
   ·
    rw[if_pos h]at hI
    have h':s=x:=h.symm
    try refine wk ?_
    rw[← hI]
    exact .one (.tmp rfl (.one (.d (.refl _))))
   ·
    rw[if_neg h]at hI
    have h':¬ s=x:=fun e=>h e.symm
    try refine wk ?_
    refine q_loopT (t+1) ⟨by omega,hI⟩ (by omega) ?_
    exact by_less
theorem ok_containsI (l:List Int) (s:Int) (hl:l.length≤1073741824):FnOk Tryz.prog 73 [.d (encInts l),.d (dint s)] (.one (dbool (isNum l s))):=by
 refine fnOk_of tbl_ok mixed_ok Tryz.func73 rfl (by kernel_rfl) rfl rfl fun w0 own0=>?_
 have c1:=ok_indexI l s hl
 try refine wk ?_
 rw[← idxI_in (i:=0)]
 exact .one (.tmp rfl (.one (.d (.refl _))))
theorem keysGo'_append:∀ {a b out:List Str},keysGo' out (a++b)=keysGo' (keysGo' out a) b
 | [],b,out=>rfl
 |k::a,b,out=>by simp only[List.cons_append,keysGo'];exact keysGo'_append
theorem keysGo'_nodup:∀ {l out:List Str},(∀ k∈l,k∉out)→l.Nodup→keysGo' out l=out++l
 | [],out,_,_=>by simp[keysGo']
 |k::l,out,h,hn=>by
  obtain⟨h1,h2⟩:=List.nodup_cons.1 hn
  simp only[keysGo']
  rw[if_neg (fun e=>h k (List.mem_cons_self ..) (isIn_true e)),keysGo'_nodup (fun x hx hm=>?_) h2,List.append_assoc]
  ·
   rfl
  ·
   rcases List.mem_append.1 hm with hm|hm
   ·
    exact h x (List.mem_cons_of_mem _ hx) hm
   ·
    simp at hm;subst hm;exact h1 hx
theorem keysD_eq {d:Deed}(h:d.reads.Nodup):keysD d=keysGo' d.reads d.writes:=by
 unfold keysD
 rw[keysGo'_append,keysGo'_nodup (by simp) h]
 rfl
theorem ok_pkeys (d:Deed) (hn:d.reads.Nodup) (hr:d.reads.length≤268435456) (hw:d.writes.length≤268435456):FnOk Tryz.prog 22 [.d (.agg d.enc)] (.one (encStrs (keysD d))):=by
 refine fnOk_of tbl_ok mixed_ok Tryz.func22 rfl (by kernel_rfl) rfl rfl fun w0 own0=>?_
 have c1:=new_clone_str (d.reads.map encStr1) (by simp;omega)
 rw[keysD_eq hn]
 repeat(first|refine wa ?_|((with_reducible apply s5);(first|exact a_callnew c1 rfl rfl by_sub|exact by_oa|exact by_ca);exact by_g)|refine wb ?_)
 refine CW.loopT (fun t:Nat×List Str=>[sp 1 0,ob 0 d.enc,sd 2 (.v nilS),so 3 1 t.2.length,oa 1 9 1 (t.2.map encStr1),sd 10 (encStrs d.writes),sd 11 (dint d.writes.length),sd 12 (dint t.1),nxt 2])
  (fun t=>t.1≤d.writes.length∧t.2.length≤d.reads.length+t.1∧keysGo' t.2 (d.writes.drop t.1)=keysGo' d.reads d.writes) (fun t=>d.writes.length - t.1) (0,d.reads) ⟨by omega,by simp,rfl⟩ ?_ ?_
 ·
  exact by_less
 ·
  rintro ⟨j,out⟩ ⟨hj,ho,hJ⟩
  dsimp only at hj ho hJ ⊢
  rcases drop_case hj with ⟨h1,h2⟩|⟨k,h1,h2,h3⟩
  ·
   rw[h1,keysGo']at hJ
   try refine wk ?_
   rw[← hJ]
   exact .one (.tmp rfl (.one (.own rfl (by simp) (.refl _))))
  ·
   rw[h1,keysGo']at hJ
   have c2:=ok_containsS out k (by omega)
   cases h:isIn out k with
   |true =>
    rw[h]at c2 hJ
    repeat(first|refine wa ?_|((with_reducible apply s5);(first|(focus ((with_reducible apply a_lend);exact c2;exact rfl;exact .plain rfl;(focus first|exact rfl|(simp;done)|(simp;omega));(iterate 2 exact rfl);exact by_sub))|exact by_oa|exact by_ca);exact by_g)|refine wb ?_)
    refine q_loopT (j+1,out) ⟨by dsimp only;omega,by dsimp only;omega,hJ⟩ (by dsimp only;omega) ?_
    exact by_less
   |false =>
    rw[h]at c2 hJ
    repeat(first|refine wa ?_|((with_reducible apply s5);(first|(focus ((with_reducible apply a_lend);exact c2;exact rfl;exact .plain rfl;(focus first|exact rfl|(simp;done)|(simp;omega));(iterate 2 exact rfl);exact by_sub))|exact by_oa|exact by_ca);exact by_g)|refine wb ?_)
    refine q_loopT (j+1,out++[k]) ⟨by dsimp only;omega,by dsimp only;simp;omega,hJ⟩ (by dsimp only;omega) ?_
    exact by_less
end Go.Proofs.YtfpkamiobdkcpaaGreatDoor
namespace Go.Proofs
open Go.Shelf Go.RowKit
set_option maxRecDepth 100000
noncomputable def Tryz.lays189_ren:Go.Shelf.Ren:=⟨fun|125=>116|128=>155|129=>156|189=>74|215=>177|216=>152|257=>115|294=>146|295=>147|296=>148|297=>149|298=>150|299=>151|300=>153|301=>154|328=>172|329=>173|330=>174|331=>175|332=>176|343=>197|n=>n,fun|0=>0|3=>3|4=>4|5=>5|9=>9|28=>25|46=>137|51=>196|53=>198|131=>132|182=>188|183=>189|218=>219|222=>223|228=>240|229=>241|n=>n,fun|n=>n⟩
theorem Tryz.lays189:Go.Proofs.Lays.n189 Tryz.prog Tryz.lays189_ren:={
 mixed:=by kernel_rfl
 f125:=Tryz.func116.trans (congrArg some (by kernel_rfl))
 f128:=Tryz.func155.trans (congrArg some (by kernel_rfl))
 f129:=Tryz.func156.trans (congrArg some (by kernel_rfl))
 f189:=Tryz.func74.trans (congrArg some (by kernel_rfl))
 f215:=Tryz.func177.trans (congrArg some (by kernel_rfl))
 f216:=Tryz.func152.trans (congrArg some (by kernel_rfl))
 f257:=Tryz.func115.trans (congrArg some (by kernel_rfl))
 f294:=Tryz.func146.trans (congrArg some (by kernel_rfl))
 f295:=Tryz.func147.trans (congrArg some (by kernel_rfl))
 f296:=Tryz.func148.trans (congrArg some (by kernel_rfl))
 f297:=Tryz.func149.trans (congrArg some (by kernel_rfl))
 f298:=Tryz.func150.trans (congrArg some (by kernel_rfl))
 f299:=Tryz.func151.trans (congrArg some (by kernel_rfl))
 f300:=Tryz.func153.trans (congrArg some (by kernel_rfl))
 f301:=Tryz.func154.trans (congrArg some (by kernel_rfl))
 f328:=Tryz.func172.trans (congrArg some (by kernel_rfl))
 f329:=Tryz.func173.trans (congrArg some (by kernel_rfl))
 f330:=Tryz.func174.trans (congrArg some (by kernel_rfl))
 f331:=Tryz.func175.trans (congrArg some (by kernel_rfl))
 f332:=Tryz.func176.trans (congrArg some (by kernel_rfl))
 f343:=Tryz.func197.trans (congrArg some (by kernel_rfl))
 t0:=Tryz.underlying0
 a0:=Tryz.isAgg0
 z0:=Tryz.sizeOf0
 v0:=Tryz.zeroValue0
 t3:=Tryz.underlying3
 a3:=Tryz.isAgg3
 z3:=Tryz.sizeOf3
 v3:=Tryz.zeroValue3
 t4:=Tryz.underlying4
 a4:=Tryz.isAgg4
 z4:=Tryz.sizeOf4
 v4:=Tryz.zeroValue4
 t5:=Tryz.underlying5
 a5:=Tryz.isAgg5
 z5:=Tryz.sizeOf5
 v5:=Tryz.zeroValue5
 t9:=Tryz.underlying9
 a9:=Tryz.isAgg9
 z9:=Tryz.sizeOf9
 v9:=Tryz.zeroValue9
 t28:=Tryz.underlying25
 a28:=Tryz.isAgg25
 z28:=Tryz.sizeOf25
 v28:=Tryz.zeroValue25
 t46:=Tryz.underlying137
 a46:=Tryz.isAgg137
 z46:=Tryz.sizeOf137
 v46:=Tryz.zeroValue137
 t51:=Tryz.underlying196
 a51:=Tryz.isAgg196
 z51:=Tryz.sizeOf196
 v51:=Tryz.zeroValue196
 t53:=Tryz.underlying198
 a53:=Tryz.isAgg198
 z53:=Tryz.sizeOf198
 v53:=Tryz.zeroValue198
 t131:=Tryz.underlying132
 a131:=Tryz.isAgg132
 z131:=Tryz.sizeOf132
 v131:=Tryz.zeroValue132
 t182:=Tryz.underlying188
 a182:=Tryz.isAgg188
 z182:=Tryz.sizeOf188
 v182:=Tryz.zeroValue188
 t183:=Tryz.underlying189
 a183:=Tryz.isAgg189
 z183:=Tryz.sizeOf189
 v183:=Tryz.zeroValue189
 t218:=Tryz.underlying219
 a218:=Tryz.isAgg219
 z218:=Tryz.sizeOf219
 v218:=Tryz.zeroValue219
 t222:=Tryz.underlying223
 a222:=Tryz.isAgg223
 z222:=Tryz.sizeOf223
 v222:=Tryz.zeroValue223
 t228:=Tryz.underlying240
 a228:=Tryz.isAgg240
 z228:=Tryz.sizeOf240
 v228:=Tryz.zeroValue240
 t229:=Tryz.underlying241
 a229:=Tryz.isAgg241
 z229:=Tryz.sizeOf241
 v229:=Tryz.zeroValue241
 }
end Go.Proofs
namespace Go.AX
open Go.RowKit
variable {cx:Cx}{g:Nat→Value}{σ σ':St}{a:Act}{w w':World}{nx:Nat}{c:Code}{Q:Exit→St→Prop}
variable {ty:TypeId}{pos:String}{af:Array Edge}{gd:Option (Nat×Bool)}{d:Nat}
structure FnIn (P:Program) (f:FuncId) (e k:Nat) (rows rows':List (List D)):Prop where
 run : ∃ fn, P.funcs[f]? = some fn ∧ (fn.name == "runtime.NumGoroutine") = false ∧ fn.body.isNone = false
 len:rows'.length=rows.length
 calls:∀ (w:World) (own:Nat→Prop) (v:Value),((∀ b,own b→b < w.heap.size)∧Gl P w)→RowsAt w 0 (with1 own v) e k v rows→(∀ b,own b→blk v≠some b) →
  Calls P f #[v] w fun r w'=>∃ u,r = .returned u∧BelowBut v w w'∧RowsAt w' 0 (with1 own v) e k v rows'
theorem a_inplace {f:FuncId}{x:Operand}{e k id n:Nat}{rows rows':List (List D)}{ats:Array TypeId}(hc:FnIn cx.P f e k rows rows') (hx:ev σ x=some (.own id n)) (ho:get σ (.o id) = .ob (.arr e k rows)) (hnx:get σ .nx = .num nx) (hn:n=rows.length) (hd:Nat.blt d cx.n=true) :
  OA cx σ ⟨some d,.call { callee := .value (.func f),args := #[x],argTypes:=ats },ty,pos,af,gd⟩ ⟨rdOf x (.own id n)++[(.o id,.ob (.arr e k rows)),(.nx,.num nx)],[(.s d,.av .any),(.o id,.ob (.arr e k rows')),(.nx,.num nx)]⟩:=by
 refine⟨?_,(ev_out hx).2.append ⟨ho,hnx,trivial⟩⟩
 rintro σ a w K Q ⟨g,n',hs⟩ hr hK
 have hnx:n'=nx:=by
  have h2:=hr.right.2.1
  rw[hs.hnx]at h2
  simpa using h2
 subst hnx
 have ho:get σ (.o id) = .ob (.arr e k rows):=hr.right.1
 have hidlt:=(hs.objs id _ ho).1
 have hval:a.eval x=g id:=((hs.ev (ev_out hx).1 hr.left).1.2 e k rows ho).2 hn
 have hR:=objRows hs ho
 have hw1:∀ b,with1 (fun b=>cx.own g σ b∧blk (g id)≠some b) (g id) b→cx.own g σ b:=by
  rintro b (h|h)
  ·
   exact h.1
  ·
   exact .inr ⟨id,_,ho,h⟩
 have hcall:=hc.calls w (fun b=>cx.own g σ b∧blk (g id)≠some b) (g id) ⟨fun b hb=>own_lt hs hb.1,hs.gl⟩ (hR.re (fun b _=>Nat.zero_le _) hw1) (fun b hb=>hb.2)
 unfold Oper.wp
 rw[call_run (xs:=[x]) hc.run,List.map_cons,List.map_nil,hval]
 refine hcall.mono fun r w' he=>?_
 obtain⟨u,rfl,hbb,hR'⟩:=he
 have hge:=hs.below.size
 have hst:ObjStep cx σ g n' n' w w' id (.arr e k rows') (g id):=by
  refine⟨.inr ⟨rfl,_,ho,rfl,rfl,Nat.le_of_eq hc.len.symm,fun _=>upd_same _ _ _⟩,⟨hbb.os,hbb.tape,hbb.output,hbb.size,fun b hb=>hbb.block b (by omega) fun he=>by have:=obj_ge hs ho he;omega⟩,fun b hb h=>hbb.block b hb (h _ ho),fun b hb => .inl ⟨_,ho,hb⟩⟩
 have hG:SimG cx (objSt σ n' id (.arr e k rows')) a w' (upd g id (g id)) n':=by
  refine SimG.obj hs hst (fun hl=>?_) trivial
  show RowsAt w' cx.w0.heap.size _ e k (upd g id (g id) id) rows'
  rw[upd_same]
  refine hR'.re (fun b hb=>obj_ge hs ho hb) fun b hb=>?_
  rcases hb with h|⟨j,o,h1,h2⟩
  ·
   refine .inl ⟨.inl h,fun he=>?_⟩
   have h3:=obj_ge hs ho he
   have h4:=hs.own0.1 b h
   omega
  ·
   by_cases hj:j=id
   ·
    subst hj;rw[upd_same]at h2;exact .inr h2
   ·
    rw[objSt_o hj]at h1
    rw[upd_ne hj]at h2
    exact .inl ⟨.inr ⟨j,o,h1,h2⟩,fun he=>hj (hs.sep j id o _ b h1 ho h2 he)⟩
 exact hK _ _ (Sim.put hG (lt_of_blt hd) (Below.refl _ _) (av := .any) trivial trivial)
end Go.AX
namespace Go.Proofs.YtfpkamiobdkcpaaGreatDoor
open Go.AX Go.RF Go.RowKit Go.Sort Go.ChangeShapes Go.WideShapes
abbrev sorted (zs:List Int):List Int:=zs.mergeSort fun x y=>decide (x≤y)
theorem int_rows {w:World}{base:Nat}{own:Nat→Prop}{e:Nat}{v:Value}{zs:List Int}(h:RowsAt w base own e 1 v (zs.map encInt1)):w.ownsRow base e 1 v zs.length (zs.map (Value.int .i64)):=by
 obtain⟨xs,h1,h2,h3,h4⟩:=h
 have hl:xs.length=zs.length:=by have:=h1.1;simpa using this
 have he:xs=zs.map (Value.int .i64):=by
  apply List.ext_getElem (by simpa using hl)
  intro i hi hi'
  have hi2:i < zs.length:=by omega
  have hz:zs[i]? = some zs[i]:=List.getElem?_eq_getElem hi2
  have:=h4 i 0 (encInt1 zs[i]) (dint zs[i]) xs[i] (by rw[List.getElem?_map,hz];rfl) rfl (by simp)
  rw[rd_v this]
  simp
 rw[← he]
 simpa using h1
theorem rows_int {w:World}{base:Nat}{own:Nat→Prop}{e:Nat}{v:Value}{zs:List Int}(h:w.ownsRow base e 1 v zs.length (zs.map (Value.int .i64))):RowsAt w base own e 1 v (zs.map encInt1):=by
 refine⟨zs.map (Value.int .i64),by simpa using h,fun x hx=>?_,fun r hr=>?_,fun i j r x u hi hj hu=>?_⟩
 ·
  obtain⟨z,_,rfl⟩:=List.mem_map.1 hx;rfl
 ·
  obtain⟨z,_,rfl⟩:=List.mem_map.1 hr;rfl
 ·
  rw[List.getElem?_map]at hi
  cases hz:zs[i]? with
  |none=>rw[hz]at hi;cases hi
  |some z =>
   rw[hz]at hi
   simp at hi;subst hi
   cases j with
   |zero =>
    simp[encInt1]at hj;subst hj
    rw[Nat.mul_one,Nat.add_zero,List.getElem?_map,hz]at hu
    simp at hu;subst hu
    exact Rd.v _
   |succ j=>simp[encInt1]at hj
theorem in_sort (zs:List Int) (hl:zs.length≤1073741824):FnIn Tryz.prog 74 3 1 (zs.map encInt1) ((sorted zs).map encInt1):=by
 refine⟨⟨_,Tryz.func74,by kernel_rfl,by kernel_rfl⟩,by simp[sorted],fun w own v _ hR _=>?_⟩
 have h1:=int_rows hR
 rcases h1.2 with ⟨rfl,hn⟩|⟨b,cap,cur,rfl,_,hb,hle,hcm,hsz,htk⟩
 ·
  obtain rfl:zs=[]:=List.eq_nil_of_length_eq_zero hn
  refine(Any.slices_Sort_int_none Tryz.lays189 none 0 w).mono ?_
  rintro r w' ⟨rfl,rfl⟩
  rw[show sorted []=[] by simp[sorted]]
  exact⟨_,rfl,⟨rfl,rfl,rfl,Nat.le_refl _,fun b _ _=>rfl⟩,⟨[],World.ownsRow_nil _ _ _ _,by simp,by simp,by simp⟩⟩
 ·
  have hblt:b < w.heap.size:=by
   rcases Nat.lt_or_ge b w.heap.size with h|h
   ·
    exact h
   ·
    rw[Array.getElem?_eq_none h]at hb;cases hb
  have hH:=holds_of_blockI (ss:=zs) hb (by simpa using htk)
  refine(Any.slices_Sort_int Tryz.lays189 b 0 cap zs w hH hblt (by omega)).mono ?_
  rintro r w' ⟨rfl,n,os,rfl⟩
  have hg:=grownBy_sortedI (w:=w) (g:=b) (n:=n) (os:=os) (sorted zs).toArray
  have hrow:=ownsRow_sortedI (w:=w) (base:=0) (n:=n) (os:=os) (ss:=zs) (ts:=sorted zs) (by simp[sorted]) (Nat.zero_le _) hb hle hcm (by simpa using hsz)
  refine⟨_,rfl,⟨hg.os,hg.tape,hg.output,hg.size,fun c hc hne=>hg.block c hc fun e=>hne (show some b=some c from e.symm)⟩,?_⟩
  have hlen:(sorted zs).length=zs.length:=by simp[sorted]
  rw[← hlen]at hrow
  have:=rows_int (own:=with1 own (Value.slice (some ⟨b,0,none⟩) (sorted zs).length cap)) hrow
  rw[hlen]at this
  exact this
end Go.Proofs.YtfpkamiobdkcpaaGreatDoor
namespace Go.Proofs.YtfpkamiobdkcpaaGreatDoor
open Go.AX Go.RF
theorem int_ext:∀ {l r:List Int},l.Pairwise (· < ·)→r.Pairwise (· < ·)→(∀ x,x∈l↔x∈r)→l=r
 | [],[],_,_,_=>rfl
 | [],q::r,_,_,h=>by have:=(h q).2 (List.mem_cons_self ..);simp at this
 |p::l,[],_,_,h=>by have:=(h p).1 (List.mem_cons_self ..);simp at this
 |p::l,q::r,hl,hr,h=>by
  obtain⟨h1,h2⟩:=List.pairwise_cons.1 hl
  obtain⟨h3,h4⟩:=List.pairwise_cons.1 hr
  have hpq:p=q:=by
   rcases List.mem_cons.1 ((h p).1 (List.mem_cons_self ..)) with e|e
   ·
    exact e
   ·
    rcases List.mem_cons.1 ((h q).2 (List.mem_cons_self ..)) with f|f
    ·
     exact f.symm
    ·
     have:=h1 q f;have:=h3 p e;omega
  subst hpq
  refine congrArg (p :: ·) (int_ext h2 h4 fun x=>⟨fun hx=>?_,fun hx=>?_⟩)
  ·
   rcases List.mem_cons.1 ((h x).1 (List.mem_cons_of_mem _ hx)) with rfl|e
   ·
    have:=h1 x hx;omega
   ·
    exact e
  ·
   rcases List.mem_cons.1 ((h x).2 (List.mem_cons_of_mem _ hx)) with rfl|e
   ·
    have:=h3 x hx;omega
   ·
    exact e
theorem isNum_mem {n:Int}:∀ {l:List Int},isNum l n=true↔n∈l
 | []=>by simp[isNum]
 |x::l=>by
  simp only[isNum]
  by_cases h:x=n
  ·
   simp[h]
  ·
   rw[if_neg h,isNum_mem]
   simp[Ne.symm h]
theorem isNum_false {l:List Int}{n:Int}(h:isNum l n=false):n∉l:=fun hm=>by
 rw[isNum_mem.2 hm]at h;cases h
def pneedsGo (cs:List Chain) (base b:Int):List Int→List Str→List Int
 |out,[]=>out
 |out,k::r=>pneedsGo cs base b (if (before cs k b).made=false∧isNum out ((before cs k b).by_ - base)=false then out++[(before cs k b).by_ - base] else out) r
def pneeds (e:Engine) (at_:Nat) (d:Deed):List Int:=sorted (pneedsGo e.chains e.base (e.base+at_) [] (keysD d))
theorem pneedsGo_mem {cs:List Chain}{base b x:Int}:∀ {ks:List Str}{out:List Int},x∈pneedsGo cs base b out ks↔x∈out∨∃ k∈ks,(before cs k b).made=false∧x=(before cs k b).by_ - base
 | [],out=>by simp[pneedsGo]
 |k::ks,out=>by
  simp only[pneedsGo]
  rw[pneedsGo_mem]
  by_cases h:(before cs k b).made=false
  ·
   cases h2:isNum out ((before cs k b).by_ - base) with
   |true =>
    rw[if_neg (by simp)]
    have:=isNum_mem.1 h2
    constructor
    ·
     rintro (h3|⟨k',h3,h4⟩)
     ·
      exact .inl h3
     ·
      exact .inr ⟨k',List.mem_cons_of_mem _ h3,h4⟩
    ·
     rintro (h3|⟨k',h3,h4,h5⟩)
     ·
      exact .inl h3
     ·
      rcases List.mem_cons.1 h3 with rfl|h3
      ·
       exact .inl (by rw[h5];exact this)
      ·
       exact .inr ⟨k',h3,h4,h5⟩
   |false =>
    rw[if_pos ⟨h,rfl⟩]
    constructor
    ·
     rintro (h3|⟨k',h3,h4⟩)
     ·
      rcases List.mem_append.1 h3 with h3|h3
      ·
       exact .inl h3
      ·
       simp at h3;exact .inr ⟨k,List.mem_cons_self ..,h,h3⟩
     ·
      exact .inr ⟨k',List.mem_cons_of_mem _ h3,h4⟩
    ·
     rintro (h3|⟨k',h3,h4,h5⟩)
     ·
      exact .inl (List.mem_append_left _ h3)
     ·
      rcases List.mem_cons.1 h3 with rfl|h3
      ·
       exact .inl (by rw[h5];simp)
      ·
       exact .inr ⟨k',h3,h4,h5⟩
  ·
   rw[if_neg (fun e=>h e.1)]
   constructor
   ·
    rintro (h3|⟨k',h3,h4⟩)
    ·
     exact .inl h3
    ·
     exact .inr ⟨k',List.mem_cons_of_mem _ h3,h4⟩
   ·
    rintro (h3|⟨k',h3,h4,h5⟩)
    ·
     exact .inl h3
    ·
     rcases List.mem_cons.1 h3 with rfl|h3
     ·
      exact absurd h4 h
     ·
      exact .inr ⟨k',h3,h4,h5⟩
theorem pneedsGo_nodup {cs:List Chain}{base b:Int}:∀ {ks:List Str}{out:List Int},out.Nodup→(pneedsGo cs base b out ks).Nodup
 | [],out,h=>h
 |k::ks,out,h=>by
  simp only[pneedsGo]
  refine pneedsGo_nodup ?_
  split
  ·
   next h2 =>
   refine List.nodup_append.2 ⟨h,by simp,fun a ha x hx e=>?_⟩
   simp at hx
   subst hx;subst e
   exact isNum_false h2.2 ha
  ·
   exact h
theorem sorted_lt {l:List Int}(h:l.Nodup):(sorted l).Pairwise (· < ·):=by
 have h1:(sorted l).Pairwise (fun a b=>decide (a≤b)=true):=List.pairwise_mergeSort (le:=fun x y:Int=>decide (x≤y)) (by intro a b c;simp;omega) (by intro a b;simp;omega) l
 have h2:(sorted l).Nodup:=(List.mergeSort_perm l _).nodup_iff.2 h
 exact(h1.and h2).imp fun⟨a,b⟩=>by simp at a;omega
theorem anyHit_iff {cs:List Chain}{b want:Int}:∀ {ks:List Str},anyHit cs b want ks=true↔∃ k∈ks,(before cs k b).made=false∧(before cs k b).by_=want
 | []=>by simp[anyHit]
 |k::ks=>by
  simp only[anyHit]
  by_cases h:hit cs b want k=true
  ·
   rw[if_pos h]
   simp only[hit,Bool.and_eq_true,Bool.not_eq_true',decide_eq_true_eq]at h
   exact⟨fun _=>⟨k,List.mem_cons_self ..,h⟩,fun _=>rfl⟩
  ·
   rw[if_neg h,anyHit_iff]
   simp only[hit,Bool.and_eq_true,Bool.not_eq_true',decide_eq_true_eq]at h
   constructor
   ·
    rintro ⟨k',h1,h2⟩;exact⟨k',List.mem_cons_of_mem _ h1,h2⟩
   ·
    rintro ⟨k',h1,h2⟩
    rcases List.mem_cons.1 h1 with rfl|h1
    ·
     exact absurd h2 h
    ·
     exact⟨k',h1,h2⟩
theorem needsGo_mem {cs:List Chain}{base b x:Int}{ks:List Str}:∀ {l:List Nat}{j:Nat},x∈needsGo cs base b ks j l↔∃ k∈l,x=(k:Int)∧anyHit cs b (base+k) ks=true
 | [],j=>by simp[needsGo]
 |k::l,j=>by
  simp only[needsGo]
  by_cases h:anyHit cs b (base+k) ks=true
  ·
   rw[if_pos h,List.mem_cons,needsGo_mem]
   constructor
   ·
    rintro (h1|⟨k',h1,h2⟩)
    ·
     exact⟨k,List.mem_cons_self ..,h1,h⟩
    ·
     exact⟨k',List.mem_cons_of_mem _ h1,h2⟩
   ·
    rintro ⟨k',h1,h2⟩
    rcases List.mem_cons.1 h1 with rfl|h1
    ·
     exact .inl h2.1
    ·
     exact .inr ⟨k',h1,h2⟩
  ·
   rw[if_neg h,needsGo_mem]
   constructor
   ·
    rintro ⟨k',h1,h2⟩;exact⟨k',List.mem_cons_of_mem _ h1,h2⟩
   ·
    rintro ⟨k',h1,h2⟩
    rcases List.mem_cons.1 h1 with rfl|h1
    ·
     exact absurd h2.2 h
    ·
     exact⟨k',h1,h2⟩
theorem needsGo_lt {cs:List Chain}{base b:Int}{ks:List Str}:∀ {l:List Nat}{j:Nat},l.Pairwise (· < ·)→(needsGo cs base b ks j l).Pairwise (· < ·)
 | [],j,_=>List.Pairwise.nil
 |k::l,j,h=>by
  obtain⟨h1,h2⟩:=List.pairwise_cons.1 h
  simp only[needsGo]
  split
  ·
   refine List.pairwise_cons.2 ⟨fun x hx=>?_,needsGo_lt h2⟩
   obtain⟨k',h3,rfl,_⟩:=needsGo_mem.1 hx
   have:=h1 k' h3
   omega
  ·
   exact needsGo_lt h2
theorem pneeds_eq {e:Engine}{at_:Nat}{d:Deed}(hB:∀ k,(before e.chains k (e.base+at_)).made=false→e.base≤(before e.chains k (e.base+at_)).by_∧(before e.chains k (e.base+at_)).by_ < e.base+at_):pneeds e at_ d=needs e at_ d:=by
 refine int_ext (sorted_lt (pneedsGo_nodup List.nodup_nil)) (needsGo_lt List.pairwise_lt_range) fun x=>?_
 unfold needs pneeds
 rw[needsGo_mem,show(x∈sorted (pneedsGo e.chains e.base (e.base+at_) [] (keysD d)))↔_ from List.mem_mergeSort,pneedsGo_mem]
 constructor
 ·
  rintro (h|⟨k,h1,h2,rfl⟩)
  ·
   simp at h
  ·
   obtain⟨h3,h4⟩:=hB k h2
   refine⟨((before e.chains k (e.base+at_)).by_ - e.base).toNat,List.mem_range.2 (by omega),by omega,anyHit_iff.2 ⟨k,h1,h2,by omega⟩⟩
 ·
  rintro ⟨k,h1,rfl,h2⟩
  obtain⟨s,h3,h4,h5⟩:=anyHit_iff.1 h2
  exact .inr ⟨s,h3,h4,by omega⟩
end Go.Proofs.YtfpkamiobdkcpaaGreatDoor
namespace Go.Proofs.YtfpkamiobdkcpaaGreatDoor
open Go.AX Go.RF Go.RowKit Go.Shelf
attribute [local go_sem] Oper.semAt_some
def verV (v:Version):Value := .agg #[.int .i64 v.by_,.bool v.made,.bool v.has,.int .i64 v.n]
def verC (v:Version) (j:Nat):Value:=match j with
 |0 => .int .i64 v.by_
 |1 => .bool v.made
 |2 => .bool v.has
 |_ => .int .i64 v.n
def back (vs:List Version) (k:Nat):List (Nat×Version):=(List.range k).map fun j=>(vs.length - 1 - j,vs[vs.length - 1 - j]?.getD ⟨0,false,false,0⟩)
theorem back_succ (vs:List Version) (k:Nat):back vs (k+1)=back vs k++[(vs.length - 1 - k,vs[vs.length - 1 - k]?.getD ⟨0,false,false,0⟩)]:=by simp[back,List.range_succ]
theorem back_length (vs:List Version) (k:Nat):(back vs k).length=k:=by simp[back]
def VerAt (n₀:Nat) (W:World) (ad:Addr) (vs:List Version):Prop:=ad.block < n₀∧∀ (i j:Nat) (v:Version),vs[i]? = some v→j < 4→W.cell? (ad.add (i*4+j))=some (verC v j)
theorem VerAt.below {n₀:Nat}{A B:World}{ad:Addr}{vs:List Version}(h:VerAt n₀ A ad vs) (hb:Below n₀ A B):VerAt n₀ B ad vs :=
 ⟨h.1,fun i j v hi hj=>(hb.cell (by rw[add_block];exact h.1)).trans (h.2 i j v hi hj)⟩
theorem ver_cells {n₀:Nat}{W:World}{ad:Addr}{vs:List Version}(h:VerAt n₀ W ad vs) {i:Nat}{v:Version}(hi:vs[i]? = some v) :
  W.cell? (ad.add (i*4))=some (.int .i64 v.by_)∧W.cell? ⟨(ad.add (i*4)).block,(ad.add (i*4)).off+1,none⟩=some (.bool v.made) ∧
   W.cell? ⟨(ad.add (i*4)).block,(ad.add (i*4)).off+2,none⟩=some (.bool v.has)∧W.cell? ⟨(ad.add (i*4)).block,(ad.add (i*4)).off+3,none⟩=some (.int .i64 v.n):=by
 have hx:∀ j,j < 4→W.cell? ((ad.add (i*4)).add j)=some (verC v j):=fun j hj=>by rw[add_add];exact h.2 i j v hi hj
 exact⟨hx 0 (by omega),hx 1 (by omega),hx 2 (by omega),hx 3 (by omega)⟩
set_option maxRecDepth 100000 in
set_option maxHeartbeats 2000000 in
theorem backward1_in (F:Fence) (n:Nat) (hF:F.fn 145) (hro:F.round=none) (hn:1≤n) (l Bs n₀ cap:Nat) (ad:Addr) (vs:List Version) (hreach:vs.length≤268435456) (J Jx:List (Nat×Version)→World→Prop)
  (hY:∀ pre x W,J pre W→pre.length < vs.length→YieldAt F (n - 1) Tryz.prog l #[.int .i64 (x.1:Int),verV x.2] W fun e W' =>
   (e = .returned (.bool true)∧J (pre++[x]) W'∧Below n₀ W W')∨(e = .returned (.bool false)∧Jx (pre++[x]) W'))
  (W:World) (hBs:W.cell? ⟨Bs,0,none⟩=some (.slice (some ad) vs.length cap)) (hBl:Bs < n₀) (hc:VerAt n₀ W ad vs) (h0:J [] W) :
  CallsIn F n Tryz.prog 145 #[.func (.yield l) #[] #[],.pointer (some ⟨Bs,0,none⟩)] W fun e W'=>(∃ v,e = .returned v) ∧
   ((∃ ys,ys=back vs vs.length∧J ys W')∨(∃ pre,(∃ k,k≤vs.length∧pre=back vs k)∧Jx pre W')):=by
 refine callsIn_of_wp Tryz.func145 rfl hF ?_ hro
 simp only[Tryz.ntmps145,List.size_toArray,List.length_cons,List.length_nil,Nat.reduceAdd,Nat.reduceSub,Array.replicate_succ,Array.replicate_zero,List.push_toArray,List.append_toArray,List.nil_append,List.cons_append]
 gi_wp2
 gi_loopw [3] (fun i wr=>∃ k:Nat,k≤vs.length∧i = .int .i64 ((vs.length:Int) - 1 - k)∧J (back vs k) wr∧Below n₀ W wr)
  (fun i _=>(intOf i+1).toNat)
 case atStart=>exact⟨0,Nat.zero_le _,by simp,h0,Below.refl _ _⟩
 case round =>
  obtain⟨k,hk,rfl,hJs,hnx⟩:=hrel
  by_cases hlt:k < vs.length
  ·
   obtain⟨i,hi,hi2⟩:∃ i:Nat,(vs.length:Int) - 1 - k=i∧i=vs.length - 1 - k:=⟨vs.length - 1 - k,by omega,rfl⟩
   obtain⟨v,hv⟩:∃ v,vs[i]? = some v:=⟨vs[i]'(by omega),List.getElem?_eq_getElem (by omega)⟩
   have hB2:wr.cell? ⟨Bs,0,none⟩=some (.slice (some ad) vs.length cap):=(hnx.cell (p:=⟨Bs,0,none⟩) hBl).trans hBs
   obtain⟨hc0,hc1,hc2,hc3⟩:=ver_cells (hc.below hnx) hv
   obtain⟨fn,tmps,assign,body,hy,hR⟩:=hY _ (i,v) wr hJs (by rw[back_length];exact hlt)
   dsimp only at hy
   have hi0:(0:Int)≤(i:Int):=by omega
   have hlen:i < vs.length:=by omega
   have hnext:back vs k++[(i,v)]=back vs (k+1):=by rw[back_succ,← hi2,hv];rfl
   rw[hi]
   clear hi2
   unfold verV at hy
   gi_wp2
   refine hR.mono ?_
   rintro e W3 (⟨rfl,hJ3,hk3⟩|⟨rfl,hJx3⟩)
   ·
    gi_wp2
    go_roundw
    case rel=>exact⟨k+1,by omega,by congr 1 <;> omega,by rw[← hnext];exact hJ3,hnx.trans hk3⟩
    case measure=>simp[intOf] <;> omega
   ·
    gi_wp2
    refine bodyPost_ret (results_none rfl _ _ _) rfl ?_
    exact⟨⟨_,rfl⟩,.inr ⟨_,⟨k+1,by omega,hnext⟩,hJx3⟩⟩
  ·
   obtain rfl:k=vs.length:=by omega
   have hi:(vs.length:Int) - 1 - vs.length = -1:=by omega
   rw[hi]
   gi_wp2
   go_end0
   exact⟨⟨_,rfl⟩,.inl ⟨_,rfl,hJs⟩⟩
set_option maxRecDepth 100000 in
set_option maxHeartbeats 1000000 in
theorem backward1_nil_in (F:Fence) (n:Nat) (hF:F.fn 145) (hro:F.round=none) (l Bs cap:Nat) (p:Option Addr) (J:List (Nat×Version)→World→Prop) (W:World) (hBs:W.cell? ⟨Bs,0,none⟩=some (.slice p 0 cap)) (h0:J [] W) :
  CallsIn F n Tryz.prog 145 #[.func (.yield l) #[] #[],.pointer (some ⟨Bs,0,none⟩)] W fun e W'=>(∃ v,e = .returned v)∧J [] W':=by
 refine callsIn_of_wp Tryz.func145 rfl hF ?_ hro
 simp only[Tryz.ntmps145,List.size_toArray,List.length_cons,List.length_nil,Nat.reduceAdd,Nat.reduceSub,Array.replicate_succ,Array.replicate_zero,List.push_toArray,List.append_toArray,List.nil_append,List.cons_append]
 gi_wp2
 gi_loopw [3] (fun i wr=>i = .int .i64 (-1)∧J [] wr) (fun _ _=>0)
 case atStart=>exact⟨rfl,h0⟩
 case round =>
  obtain⟨rfl,hJs⟩:=hrel
  gi_wp2
  go_end0
  exact⟨⟨_,rfl⟩,hJs⟩
set_option maxHeartbeats 1000000 in
theorem backward_in (F:Fence) (n:Nat) (hF:F.fn 113) (hro:F.round=none) (a:Option Addr) (len cap:Nat) (w:World) :
  CallsIn F n Tryz.prog 113 #[.slice a len cap] w fun e w'=>e = .returned (.func (.func 145) #[] #[.pointer (some ⟨w.heap.size,0,none⟩)])∧w'=w.alloc (.cells #[.slice a len cap] 107):=by
 refine callsIn_of_wp Tryz.func113 rfl hF ?_ hro
 simp only[Tryz.ntmps113,List.size_toArray,List.length_cons,List.length_nil,Nat.reduceAdd,Nat.reduceSub,Array.replicate_succ,Array.replicate_zero,List.push_toArray,List.append_toArray,List.nil_append,List.cons_append]
 gi_wp2
 go_ret
 exact⟨rfl,rfl⟩
def Vers (n₀:Nat) (W:World) (sv:Value) (vs:List Version):Prop :=
 ∃ p cap,sv = .slice p vs.length cap∧(vs=[]∨∃ ad,p=some ad∧VerAt n₀ W ad vs)
theorem Vers.below {n₀:Nat}{A B:World}(h:Below n₀ A B) {sv:Value}{vs:List Version}:Vers n₀ A sv vs→Vers n₀ B sv vs
 |⟨p,cap,e,.inl h0⟩=>⟨p,cap,e,.inl h0⟩
 |⟨p,cap,e,.inr ⟨ad,h1,h2⟩⟩=>⟨p,cap,e,.inr ⟨ad,h1,h2.below h⟩⟩
theorem Vers.mono {n₀ n₁:Nat}{A:World}(h:n₀≤n₁) {sv:Value}{vs:List Version}:Vers n₀ A sv vs→Vers n₁ A sv vs
 |⟨p,cap,e,.inl h0⟩=>⟨p,cap,e,.inl h0⟩
 |⟨p,cap,e,.inr ⟨ad,h1,h2⟩⟩=>⟨p,cap,e,.inr ⟨ad,h1,⟨Nat.lt_of_lt_of_le h2.1 h,h2.2⟩⟩⟩
theorem backward_stops (F:Fence) (n:Nat) (hF:F.fn 145) (hro:F.round=none) (hn:1≤n) (Bs n₀:Nat) (sv:Value) (vs:List Version) (hreach:vs.length≤268435456) (w:World) (hBs:Bs < n₀) (hn₀:n₀≤w.heap.size)
  (hc:w.cell? ⟨Bs,0,none⟩=some sv) (hI:Vers n₀ w sv vs) :
  SeqStopsK F n Tryz.prog 145 #[.pointer (some ⟨Bs,0,none⟩)] (fun x:Nat×Version => #[Value.int .i64 (x.1:Int),verV x.2]) (Below n₀) (fun ys=>ys=back vs vs.length)
   (fun pre=>∃ k,k≤vs.length∧pre=back vs k) vs.length w:=fun l J Jx W hW _ _ hY h0=>by
 have hc':=(hW.cell (p:=⟨Bs,0,none⟩) (show Bs < w.heap.size by omega)).trans hc
 obtain⟨p,cap,rfl,rfl|⟨ad,rfl,hv⟩⟩:=hI.below (hW.mono hn₀)
 ·
  exact(backward1_nil_in F n hF hro l Bs cap p J W hc' h0).mono fun e W' ⟨he,hj⟩=>⟨he,.inl ⟨_,rfl,hj⟩⟩
 ·
  exact backward1_in F n hF hro hn l Bs n₀ cap ad vs hreach J Jx hY W hc' hBs hv h0
attribute [local go_sem] Oper.semAt_some
def AllGe (b:Int) (pre:List (Nat×Version)):Prop:=∀ x∈pre,b≤x.2.by_
def Hit (b:Int) (pre:List (Nat×Version)) (v:Version):Prop:=∃ ini i,pre=ini++[(i,v)]∧AllGe b ini∧v.by_ < b
theorem AllGe.snoc {b:Int}{pre:List (Nat×Version)}(h:AllGe b pre) {i:Nat}{v:Version}(hv:b≤v.by_):AllGe b (pre++[(i,v)]):=fun x hx=>by
 rcases List.mem_append.1 hx with hx|hx
 ·
  exact h x hx
 ·
  simp at hx;subst hx;exact hv
def Box4 (W:World) (B:Nat) (v:Version):Prop:=W.heap[B]? = some (.cells #[.int .i64 v.by_,.bool v.made,.bool v.has,.int .i64 v.n] 106 (0,0))
theorem Box4.lt {W:World}{B:Nat}{v:Version}(h:Box4 W B v):B < W.heap.size:=(Array.getElem?_eq_some_iff.1 h).1
theorem Box4.cells {W:World}{B:Nat}{v:Version}(h:Box4 W B v):W.cell? ⟨B,0,none⟩=some (.int .i64 v.by_)∧W.cell? ⟨B,1,none⟩=some (.bool v.made)∧W.cell? ⟨B,2,none⟩=some (.bool v.has)∧W.cell? ⟨B,3,none⟩=some (.int .i64 v.n):=by
 have h':W.heap[B]? = _:=h
 refine⟨?_,?_,?_,?_⟩ <;> simp[World.cell?,h']
theorem Box4.frozens {W:World}{B:Nat}{v:Version}(h:Box4 W B v):W.frozen? ⟨B,0,none⟩=false∧W.frozen? ⟨B,1,none⟩=false∧W.frozen? ⟨B,2,none⟩=false∧W.frozen? ⟨B,3,none⟩=false:=by
 have h':W.heap[B]? = _:=h
 refine⟨?_,?_,?_,?_⟩ <;> simp[World.frozen?,h']
theorem Box4.kept {W W':World}{row:Option Nat}{B:Nat}{v:Version}(h:Box4 W B v) (hg:W.grownBy W' row) (hne:some B≠row):Box4 W' B v:=(hg.block B h.lt hne).trans h
theorem Box4.alloc {W:World}{B:Nat}{v:Version}(h:Box4 W B v) (o:Obj):Box4 (W.alloc o) B v:=h.kept (World.grownBy_alloc W o none) (by simp)
theorem Box4.below {n:Nat}{W W':World}{B:Nat}{v:Version}(h:Box4 W B v) (hb:Below n W W') (hB:B < n):Box4 W' B v:=(hb.block B hB).trans h
theorem box4_own (B:Nat) {β:Type}(f:β→Version):Own (fun s W=>Box4 W B (f s)):=fun s X Y row hs hg hrow =>
 Box4.kept hs hg (fun e=>by
  obtain⟨o,ho,hc⟩:=hrow B e.symm
  rw[show X.heap[B]? = _ from hs]at ho
  cases ho
  simp[Obj.isCells]at hc)
theorem sets_box {W:World}{B:Nat}{v:Version}(h:Box4 W B v) (u:Version) :
  Box4 ((((W.setCell ⟨B,0,none⟩ (.int .i64 u.by_)).setCell ⟨B,1,none⟩ (.bool u.made)).setCell ⟨B,2,none⟩ (.bool u.has)).setCell ⟨B,3,none⟩ (.int .i64 u.n)) B u:=by
 have h':W.heap[B]? = _:=h
 simp[Box4,World.setCell,Array.getElem?_modify,h']
theorem sets_keeps (W:World) (B:Nat) (a b c d:Value):KeepsOthers W ((((W.setCell ⟨B,0,none⟩ a).setCell ⟨B,1,none⟩ b).setCell ⟨B,2,none⟩ c).setCell ⟨B,3,none⟩ d) :=
 (((KeepsOthers.setCell W _ _).trans (KeepsOthers.setCell _ _ _)).trans (KeepsOthers.setCell _ _ _)).trans (KeepsOthers.setCell _ _ _)
theorem sets_below {W:World}{n B:Nat}{a b c d:Value}(h:n≤B):Below n W ((((W.setCell ⟨B,0,none⟩ a).setCell ⟨B,1,none⟩ b).setCell ⟨B,2,none⟩ c).setCell ⟨B,3,none⟩ d) :=
 ((((Below.refl n W).setCell (p:=⟨B,0,none⟩) h _).setCell (p:=⟨B,1,none⟩) h _).setCell (p:=⟨B,2,none⟩) h _).setCell (p:=⟨B,3,none⟩) h _
theorem results_box {W:World}{B:Nat}{v:Version}{x:Array Value}(c0:W.cell? ⟨B,0,none⟩=some (.int .i64 v.by_)) (c1:W.cell? ⟨B,1,none⟩=some (.bool v.made)) (c2:W.cell? ⟨B,2,none⟩=some (.bool v.has)) (c3:W.cell? ⟨B,3,none⟩=some (.int .i64 v.n))
  (hx:x[6]? = some (.pointer (some ⟨B,0,none⟩)):=by rfl):(results Tryz.f72 x).run Tryz.prog W = .ok (verV v) W:=by
 simp[results,Tryz.f72,go_sem,hx,c0,c1,c2,c3,verV,Act.eval,Array.getD_eq_getD_getElem?]
set_option maxRecDepth 100000 in
set_option maxHeartbeats 4000000 in
theorem before_raw (m:Nat) (by_:Int) (k:ByteArray) (ad:Addr) (n cp:Nat) (sv:Value) (vs:List Version) (w:World) (hm:m < n) (had:ad.block < w.heap.size)
  (hcell:w.cell? (ad.add (m*2+1))=some sv) (hvs:Vers w.heap.size w sv vs) (hreach:vs.length≤268435456)
  (hf:∀ W:World,w.heap.size≤W.heap.size→Below w.heap.size w W→Calls Tryz.prog 107 #[.slice (some ad) n cp,.string k] W fun e W'=>e = .returned (.tuple #[.int .i64 (m:Int),.bool true])∧Below W.heap.size W W') :
  Calls Tryz.prog 72 #[.slice (some ad) n cp,.string k,.int .i64 by_] w fun e W' =>
   ((e = .returned (verV noV)∧AllGe by_ (back vs vs.length))∨∃ k v,k≤vs.length∧Hit by_ (back vs k) v∧e = .returned (verV v))∧Below w.heap.size w W':=by
 refine(callsIn_wide (n:=3)).1 ?_
 refine callsIn_of_wp_marks Tryz.func72 rfl trivial ?_
 simp only[Tryz.ntmps72,List.size_toArray,List.length_cons,List.length_nil,Nat.reduceAdd,Nat.reduceSub,Array.replicate_succ,Array.replicate_zero,List.push_toArray,List.append_toArray,List.nil_append,List.cons_append]
 have hB1:Below w.heap.size w ((w.alloc (.cells #[.int .i64 by_] 3)).alloc (.cells #[.int .i64 0,.bool false,.bool false,.int .i64 0] 106)):=((Below.refl _ w).alloc (Nat.le_refl _) _).alloc (by simp) _
 have hf1:=hf _ hB1.size hB1
 obtain⟨p,cap,rfl,hvs1⟩:=hvs
 have hcell':w.cell? ⟨(ad.add (m*2)).block,(ad.add (m*2)).off+1,none⟩=some (.slice p vs.length cap):=by
  rw[← add_add]at hcell
  exact hcell
 have hc0:∀ {w1:World},Below w.heap.size w w1→w1.cell? ⟨(ad.add (m*2)).block,(ad.add (m*2)).off+1,none⟩=some (.slice p vs.length cap):=fun hB =>
  (hB.cell (p:=⟨(ad.add (m*2)).block,(ad.add (m*2)).off+1,none⟩) (by show(ad.add (m*2)).block < _;rw[add_block];exact had)).trans hcell'
 gi_wp2_with (refine⟨trivial,?_⟩;first|(gi_at_call 107;refine(callsIn_wide.2 hf1).mono ?_;clear hf1;rintro e w1 ⟨rfl,hb1⟩;have hB2:=hB1.trans (hb1.mono hB1.size);have hc1:=hc0 hB2) |
  (gi_at_call 113;refine(backward_in _ _ trivial rfl _ _ _ _).mono ?_;rintro e w' ⟨rfl,rfl⟩))
 have hsz1:w.heap.size+1+1≤w1.heap.size:=by have:=hb1.size;simpa using this
 have bY:Boxed w1 w.heap.size 3 (.int .i64 by_):=by
  have h0:=(Boxed.new w 3 (.int .i64 by_)).alloc (.cells #[.int .i64 0,.bool false,.bool false,.int .i64 0] 106)
  exact(hb1.block _ (by simp;omega)).trans h0
 have bR:Box4 w1 (w.heap.size+1) ⟨0,false,false,0⟩:=by
  have h0:Box4 ((w.alloc (.cells #[.int .i64 by_] 3)).alloc (.cells #[.int .i64 0,.bool false,.bool false,.int .i64 0] 106)) (w.heap.size+1) ⟨0,false,false,0⟩:=by
   have:=World.alloc_heap_new (w.alloc (.cells #[.int .i64 by_] 3)) (.cells #[.int .i64 0,.bool false,.bool false,.int .i64 0] 106)
   simpa[Box4] using this
  exact h0.below hb1 (by simp)
 have bN:=Boxed.new w1 107 (.slice p vs.length cap)
 have hV1:Vers w.heap.size w1 (.slice p vs.length cap) vs:=Vers.below hB2 ⟨p,cap,rfl,hvs1⟩
 obtain⟨W0,hW0⟩:∃ W0,w1.alloc (.cells #[.slice p vs.length cap] 107)=W0:=⟨_,rfl⟩
 have hBW:Below w1.heap.size w1 W0:=by rw[← hW0];exact(Below.refl _ w1).alloc (Nat.le_refl _) _
 have hsz0:W0.heap.size=w1.heap.size+1:=by rw[← hW0];simp
 rw[hW0]at bN ⊢
 have bY0:Boxed W0 w.heap.size 3 (.int .i64 by_):=(hBW.block _ (by omega)).trans bY
 have bR0:Box4 W0 (w.heap.size+1) ⟨0,false,false,0⟩:=bR.below hBW (by omega)
 have hB0:Below w.heap.size w W0:=hB2.trans (hBW.mono hB2.size)
 clear hW0
 refine wpIn_rangeFunc_ownH (F:=Fence.wide) rfl (by omega) (gf:=145) (lb := #[.pointer (some ⟨w1.heap.size,0,none⟩)]) rfl trivial (enters_of Tryz.func145 (by kernel_rfl) rfl)
  (backward_stops Fence.wide (3 - 1) trivial rfl (by omega) w1.heap.size W0.heap.size _ vs hreach W0 (by omega) (Nat.le_refl _) bN.cell (Vers.mono hB0.size (Vers.below (hBW.mono hB2.size) hV1))) belowK_t (belowK_b (Nat.le_refl _)) (Below.refl _ _) (fun _=>rfl)
  (fun pre W=>AllGe by_ pre∧Below W0.heap.size W0 W)
  (fun c pre W=>(c = .ret∧∃ v,Hit by_ pre v∧Box4 W (w.heap.size+1) v)∧Below w.heap.size w W)
  (OwnFrom.and (Own.from (fun s A B row hs hg hr=>hs) _) (ownFrom_below (Nat.le_refl _) (Nat.le_refl _)))
  (fun c=>OwnFrom.and (Own.from (fun s A B row hs hg hr=>by obtain⟨hc,v,e1,e4⟩:=hs;exact⟨hc,v,e1,box4_own (w.heap.size+1) (fun(_:Unit)=>v) () A B row e4 hg hr⟩) _) (ownFrom_below (Nat.le_refl _) hB0.size))
  ⟨fun x hx=>by simp at hx,Below.refl _ _⟩
  (fun x a' W=>∃ Bx,w.heap.size+1 < Bx∧Box4 W Bx x.2∧a'={ tmps := #[.slice (some ad) n cp,.string k,.int .i64 by_,undef,undef,.pointer (some ⟨w.heap.size,0,none⟩),.pointer (some ⟨w.heap.size+1,0,none⟩),.int .i64 (m:Int),.bool true,undef,.pointer (some ⟨Bx,0,none⟩),
   .tuple #[.int .i64 (m:Int),.bool true],.slice (some ad) n cp,.string k,.tuple #[.int .i64 (m:Int),.bool true],.int .i64 (m:Int),.bool true,.bool true,.slice (some ad) n cp,.int .i64 (m:Int),.pointer (some (ad.add (m*2))),.pointer (some ⟨(ad.add (m*2)).block,(ad.add (m*2)).off+1,none⟩),.slice p vs.length cap,
   .func (.func 145) #[] #[.pointer (some ⟨w1.heap.size,0,none⟩)],.int .i64 (x.1:Int),verV x.2,undef,undef,undef,undef,undef,undef],defers:=[] })
  (fun x a' _ X Y row hs hg hr=>by obtain⟨Bx,h1,h2,h3⟩:=hs;exact⟨Bx,h1,box4_own Bx (fun(_:Unit)=>x.2) () X Y row h2 hg (fun r e=>(hr r e).2),h3⟩)
  ?assign ?body ?done ?stop
 case assign =>
  rintro l pre ⟨xi,xb,xm,xh,xn⟩ W K ⟨hp,hB⟩ hK
  simp only[verV]
  gi_wp2
  have hbx:Below W0.heap.size W (W.alloc (.cells #[.int .i64 xb,.bool xm,.bool xh,.int .i64 xn] 106)):=(Below.refl _ W).alloc hB.size _
  exact hK _ _ ((KeepsOthers.alloc _ _).from _) hbx ⟨hp,hB.trans hbx⟩ ⟨W.heap.size,by have:=hB.size;omega,World.alloc_heap_new W _,rfl⟩
 case body =>
  rintro l pre ⟨xi,xb,xm,xh,xn⟩ a' W hl ⟨r,hr⟩ ⟨hp,hB⟩ ⟨Bx,hBx,bX,rfl⟩ hlt
  simp only[verV]
  have bR1:=bR0.below hB (by omega)
  have bY1:Boxed W w.heap.size 3 (.int .i64 by_):=(hB.block _ (by omega)).trans bY0
  obtain⟨x0,x1,x2,x3⟩:=bX.cells
  obtain⟨y0,y1,y2,y3⟩:=bR1.cells
  obtain⟨z0,z1,z2,z3⟩:=bR1.frozens
  have cY:=bY1.cell
  have hB9:Below w.heap.size w W:=hB0.trans (hB.mono hB0.size)
  dsimp only at x0 x1 x2 x3
  gi_wp2
  ·
   have hx:xb < by_:=by assumption
   exact⟨(sets_keeps W _ _ _ _ _).from _,⟨rfl,⟨xb,xm,xh,xn⟩,⟨pre,xi,rfl,hp,hx⟩,sets_box bR1 ⟨xb,xm,xh,xn⟩⟩,hB9.trans (sets_below (by omega))⟩
  ·
   have hx:by_≤xb:=by assumption
   exact⟨KeepsFrom.refl _ _,Below.refl _ _,hp.snoc hx,by rw[← hsz0];exact hB⟩
 case done =>
  rintro D ys W hD rfl ⟨hne,hB⟩ hK
  have bR1:=bR0.below hB (by omega)
  obtain⟨y0,y1,y2,y3⟩:=bR1.cells
  obtain⟨z0,z1,z2,z3⟩:=bR1.frozens
  gi_wp2
  have hK':=(sets_keeps W (w.heap.size+1) (.int .i64 (-1)) (.bool true) (.bool false) (.int .i64 0)).same D _ hK rfl
  have bF:=sets_box bR1 noV
  have hB9:Below w.heap.size w W:=hB0.trans (hB.mono hB0.size)
  have hBs:=hB9.trans (sets_below (W:=W) (n:=w.heap.size) (B:=w.heap.size+1) (a := .int .i64 (-1)) (b := .bool true) (c := .bool false) (d := .int .i64 0) (by omega))
  refine⟨by simp,.inl ⟨_,_,rfl,run_takeDeferred hK',?_⟩⟩
  have hD':w.heap.size+1≠D:=by have:=bR1.lt;omega
  obtain⟨c0,c1,c2,c3⟩:=Box4.cells (Box4.kept bF (grownBy_putObj' _ D (.deferred none)) (fun e=>hD' (by cases e;rfl)))
  refine⟨verV noV,?_,.inl rfl,hBs.trans (belowK_b (w:=w) (Nat.le_refl _) _ D _ _ (by have:=hB0.size;omega) hK' rfl rfl)⟩
  exact results_box c0 c1 c2 c3
 case stop =>
  rintro D c pre W hD ⟨k,hk,rfl⟩ ⟨⟨rfl,v,hv,hcr⟩,hB⟩ hK
  gi_wp2
  refine⟨by simp,.inl ⟨_,_,rfl,run_takeDeferred hK,?_⟩⟩
  have hD':w.heap.size+1≠D:=by have:=hB0.size;omega
  obtain⟨c0,c1,c2,c3⟩:=Box4.cells (Box4.kept hcr (grownBy_putObj' _ D (.deferred none)) (fun e=>hD' (by cases e;rfl)))
  exact⟨verV v,results_box c0 c1 c2 c3,.inr ⟨k,v,hk,hv,rfl⟩,hB.trans (belowK_b (w:=w) (Nat.le_refl _) W D _ _ (by have:=hB0.size;omega) hK rfl rfl)⟩
theorem rd_ver {w:World}{own:Nat→Prop}(v:Version):Rd w own (verV v) (.agg v.enc):=by
 refine .agg _ _ rfl (fun j c hc=>?_) fun j d c hd hc=>?_
 ·
  match j,hc with
  |0,hc=>simp at hc;subst hc;rfl
  |1,hc=>simp at hc;subst hc;rfl
  |2,hc=>simp at hc;subst hc;rfl
  |3,hc=>simp at hc;subst hc;rfl
 ·
  match j,hd,hc with
  |0,hd,hc=>simp[Version.enc]at hc hd;subst hc hd;exact .v _
  |1,hd,hc=>simp[Version.enc]at hc hd;subst hc hd;exact .v _
  |2,hd,hc=>simp[Version.enc]at hc hd;subst hc hd;exact .v _
  |3,hd,hc=>simp[Version.enc]at hc hd;subst hc hd;exact .v _
theorem rd_vers {w:World}{own:Nat→Prop}{sv:Value}{vs:List Version}(h:Rd w own sv (encVs vs)):Vers w.heap.size w sv vs:=by
 unfold encVs at h
 generalize hr:vs.map Version.enc=rows at h
 generalize hd:D.sl 4 rows=d at h
 cases h with
 |v=>cases hd
 |x=>cases hd
 |agg=>cases hd
 |nil a cap k =>
  cases hd
  have:vs=[]:=by simpa using hr
  subst this
  exact⟨a,cap,rfl,.inl rfl⟩
 |sl ad cap k rows f hb hs hcap hk hc h1 hr' =>
  cases hd
  subst hr
  refine⟨some ad,cap,by simp,.inr ⟨ad,rfl,hs,fun i j v hi hj=>?_⟩⟩
  have hi':(vs.map Version.enc)[i]? = some v.enc:=by simp[hi]
  have hval:∀ d,v.enc[j]? = some d→∀ x,d = .v x→w.cell? (ad.add (i*4+j))=some x:=fun d hd x hx=>by
   subst hx
   rw[hc i j _ _ hi' hd,rd_v (hr' i j _ _ hi' hd)]
  match j,hj with
  |0,_=>exact hval _ rfl _ rfl
  |1,_=>exact hval _ rfl _ rfl
  |2,_=>exact hval _ rfl _ rfl
  |3,_=>exact hval _ rfl _ rfl
theorem back_ge {b:Int}{vs:List Version}{k:Nat}(hk:k≤vs.length) (h:AllGe b (back vs k)):∀ v∈vs.drop (vs.length - k),b≤v.by_:=fun v hv=>by
 obtain⟨j,hj⟩:=List.getElem?_of_mem hv
 rw[List.getElem?_drop]at hj
 have hlt:=(List.getElem?_eq_some_iff.1 hj).1
 have hmem:(vs.length - k+j,v)∈back vs k:=by
  unfold back
  refine List.mem_map.2 ⟨k - 1 - j,by simp;omega,?_⟩
  rw[show vs.length - 1 - (k - 1 - j)=vs.length - k+j by omega,hj]
  rfl
 exact h _ hmem
theorem hit_bvs {b:Int}{vs:List Version}{k:Nat}{v:Version}(hk:k≤vs.length) (h:Hit b (back vs k) v):bvs true b noV vs=v:=by
 obtain⟨ini,i,h1,h2,h3⟩:=h
 cases k with
 |zero=>simp[back]at h1
 |succ k =>
  rw[back_succ]at h1
  obtain⟨rfl,h5⟩:=List.append_inj' h1 rfl
  simp only[List.cons.injEq,Prod.mk.injEq,and_true]at h5
  obtain⟨rfl,h5⟩:=h5
  have hlt:vs.length - 1 - k < vs.length:=by omega
  have hv:vs[vs.length - 1 - k]? = some v:=by
   rw[List.getElem?_eq_getElem hlt]at h5 ⊢
   simpa using h5
  have hge:=back_ge (by omega) h2
  rw[split_at hv,bvs_append]
  simp only[bvs]
  rw[if_pos (by simpa using h3),show vs.length - 1 - k+1=vs.length - k by omega,bvs_ge hge]
theorem isAt_some {l:List Chain}{k:Str}{m:Nat}(h:isAt l k m=true):∃ c,l[m]? = some c∧c.key=k:=by
 unfold isAt isAtK at h
 split at h
 ·
  next c hc=>exact⟨c,hc,of_decide_eq_true h⟩
 ·
  cases h
theorem ok_pbefore (l:List Chain) (k:Str) (b:Int) (hl:l.length≤268435456) (hv:∀ c∈l,c.vs.length≤268435456) (hs:Srt Chain.key l) :
  FnOk Tryz.prog 72 [.d (encChains l),.d (dstr k),.d (dint b)] (.one (.agg (before l k b).enc)):=by
 obtain⟨m,hm⟩:=hs.at k
 have hf:=ok_find l k m hl hm
 cases hb:isAt l k m with
 |false =>
  refine fnOk_of tbl_ok mixed_ok Tryz.func72 rfl (by kernel_rfl) rfl rfl fun w0 own0=>?_
  rw[hb]at hf
  rw[before_no hs hm hb]
  try refine wk ?_
  exact .one (.cell rfl rfl rfl rfl (.aggd (ds:=noV.enc) rfl (.refl _)))
 |true =>
  obtain⟨c,hc,hck⟩:=isAt_some hb
  rw[before_yes hs hc hck]
  refine⟨⟨_,Tryz.func72,rfl,rfl⟩,fun w own vs hown ha=>?_⟩
  match vs,ha with
  | [x,y,z],⟨h1,h2,h3,_⟩ =>
   obtain rfl:y=str k:=rd_v h2
   obtain rfl:z = .int .i64 b:=rd_v h3
   have hfc:∀ W:World,w.heap.size≤W.heap.size→Below w.heap.size w W→Calls Tryz.prog 107 #[x,str k] W fun e W'=>e = .returned (.tuple #[.int .i64 (m:Int),.bool true])∧Below W.heap.size W W':=fun W hsz hB=>by
    have h1':Rd W own x (encChains l):=Rd.step (Ext.of_below hB) (fun b h => .inl h) h1
    refine(hf.calls W own [x,str k] ⟨fun b hb=>Nat.lt_of_lt_of_le (hown.1 b hb) hsz,hown.2.below hB⟩ ⟨h1',Rd.v _,trivial⟩).mono fun e W' he=>?_
    obtain⟨v,rfl,hB',vs,rfl,hsz',hr⟩:=he
    refine⟨?_,hB'⟩
    obtain⟨vl⟩:=vs
    match vl,hsz',hr with
    | [a,d],_,hr =>
     obtain rfl:a = .int .i64 (m:Int):=rd_v (hr 0 a (dint m) rfl rfl)
     obtain rfl:d = .bool (isAt l k m):=rd_v (hr 1 d (dbool (isAt l k m)) rfl rfl)
     rw[hb]
   have hcm:m < l.length:=(List.getElem?_eq_some_iff.1 hc).1
   have hcv:=hv c (List.mem_of_getElem? hc)
   have key:∃ ad n cp sv,x = .slice (some ad) n cp∧m < n∧ad.block < w.heap.size∧w.cell? (ad.add (m*2+1))=some sv∧Rd w own sv (encVs c.vs):=by
    have h1':=h1
    unfold ArgOk encChains at h1'
    generalize hr:l.map Chain.enc=rows at h1'
    generalize hd:D.sl 2 rows=d at h1'
    cases h1' with
    |v=>cases hd
    |x=>cases hd
    |agg=>cases hd
    |nil a cap k' =>
     cases hd
     have:l=[]:=by simpa using hr
     subst this
     simp at hc
    |sl ad cap k' rows f hb' hsz hcap hk hcc h1c hr' =>
     cases hd
     subst hr
     have hi:(l.map Chain.enc)[m]? = some c.enc:=by simp[hc]
     exact⟨ad,_,cap,f m 1,rfl,by simpa using hcm,hsz,hcc m 1 _ _ hi rfl,hr' m 1 _ (encVs c.vs) hi rfl⟩
   obtain⟨ad,n,cp,sv,rfl,hmn,had,hcell,hrd⟩:=key
   refine(before_raw m b ⟨k.toArray⟩ ad n cp sv c.vs w hmn had hcell (rd_vers hrd) hcv hfc).mono fun e W' ⟨he,hB⟩=>?_
   rcases he with ⟨rfl,hall⟩|⟨i,v,hi,hh,rfl⟩
   ·
    refine⟨_,rfl,hB,?_⟩
    have:=back_ge (Nat.le_refl _) hall
    rw[Nat.sub_self,List.drop_zero]at this
    rw[bvs_ge this]
    exact rd_ver noV
   ·
    refine⟨_,rfl,hB,?_⟩
    rw[hit_bvs hi hh]
    exact rd_ver v
end Go.Proofs.YtfpkamiobdkcpaaGreatDoor
namespace Go.Proofs.YtfpkamiobdkcpaaGreatDoor
open Go.AX Go.RF
set_option maxRecDepth 100000
set_option maxHeartbeats 8000000
def NB (e:Engine):Prop:=∀ (at_:Nat) (k:Str),(before e.chains k (e.base+at_)).made=false→e.base≤(before e.chains k (e.base+at_)).by_∧(before e.chains k (e.base+at_)).by_ < e.base+at_
theorem ok_pneeds (e:Engine) (at_:Nat) (d:Deed) (hs:e.Sm) (hd:e.deeds[at_]? = some d) (hn:d.reads.Nodup) (hk:Srt Chain.key e.chains) (hB:NB e) :
  FnOk Tryz.prog 19 [.d (.agg e.enc),.d (dint at_)] (.one (encInts (needs e at_ d))):=by
 refine fnOk_of tbl_ok mixed_ok Tryz.func19 rfl (by kernel_rfl) rfl rfl fun w0 own0=>?_
 rw[← pneeds_eq (hB at_)]
 have hat:=(List.getElem?_eq_some_iff.1 hd).1
 have hdl:=hs.d
 have hbase:=hs.b
 have hdd:=hs.dd d (List.mem_of_getElem? hd)
 have ck:=ok_pkeys d hn hdd.r hdd.w
 have hkl:=keysD_len hdd
 have cb:=fun k=>ok_pbefore e.chains k (e.base+at_) (by have:=hs.c;omega) (fun c h=>by have:=hs.v c h;omega) hk
 have hst0:StopR 2:=⟨rfl⟩
 try refine wkS ?_
 clear hst0
 refine Stop.go (CW.stut (stut_promote (i:=5) 3 1) ⟨rfl,rfl,trivial⟩ ?_)
 try refine wk ?_
 refine CW.loopT (fun t:Nat×List Int=>[sd 1 (dint at_),sp 2 0,ob 0 e.enc,sd 4 (.v nilS),so 5 1 t.2.length,oa 1 3 1 (t.2.map encInt1),sd 14 (encStrs (keysD d)),sd 15 (dint (keysD d).length),sd 16 (dint t.1),nxt 2])
  (fun t=>t.1≤(keysD d).length∧t.2.length≤t.1∧pneedsGo e.chains e.base (e.base+at_) t.2 ((keysD d).drop t.1)=pneedsGo e.chains e.base (e.base+at_) [] (keysD d)) (fun t=>(keysD d).length - t.1) (0,[]) ⟨by omega,by simp,rfl⟩ ?_ ?_
 ·
  exact by_less
 ·
  rintro ⟨j,out⟩ ⟨hj,ho,hI⟩
  dsimp only at hj ho hI ⊢
  rcases drop_case hj with ⟨h1,h2⟩|⟨k,h1,h2,h3⟩
  ·
   rw[h1]at hI
   simp only[pneedsGo]at hI
   have hsort:=in_sort out (by omega)
   repeat(first|refine wa ?_|((with_reducible apply s5);(first|(focus (with_reducible apply a_inplace);exact hsort;exact rfl;exact rfl;exact rfl;(focus first|exact rfl|(simp;done));exact rfl)|exact by_oa|exact by_ca);exact by_g)|refine wb ?_)
   exact .one (.tmp rfl (.one (.own rfl (by simp[sorted]) (dle_eq (by unfold pneeds;rw[← hI];rfl)))))
  ·
   rw[h1]at hI
   simp only[pneedsGo]at hI
   have cbk:=cb k
   have hBk:=hB at_ k
   obtain⟨⟨vb,vm,vh,vn⟩,hv⟩:∃ v,before e.chains k (e.base+at_)=v:=⟨_,rfl⟩
   rw[hv]at cbk hBk
   rw[hv]at hI
   dsimp only at hI hBk
   cases vm with
   |true =>
    rw[if_neg (by simp)]at hI
    repeat(first|refine wa ?_|((with_reducible apply s5);(first|exact a_call cbk rfl by_sub|exact by_oa|exact by_ca);exact by_g)|refine wb ?_)
    refine q_loopT (j+1,out) ⟨by dsimp only;omega,by dsimp only;omega,hI⟩ (by dsimp only;omega) ?_
    exact by_less
   |false =>
    obtain⟨hB1,hB2⟩:=hBk rfl
    have cc:=ok_containsI out (vb - e.base) (by omega)
    cases hc:isNum out (vb - e.base) with
    |true =>
     rw[hc]at cc hI
     rw[if_neg (by simp)]at hI
     repeat(first|refine wa ?_|((with_reducible apply s5);(first|exact a_call cbk rfl by_sub|(focus ((with_reducible apply a_lend);exact cc;exact rfl;exact .plain rfl;(focus first|exact rfl|(simp;done)|(simp;omega));(iterate 2 exact rfl);exact by_sub))|exact by_oa|exact by_ca);exact by_g)|refine wb ?_)
     refine q_loopT (j+1,out) ⟨by dsimp only;omega,by dsimp only;omega,hI⟩ (by dsimp only;omega) ?_
     exact by_less
    |false =>
     rw[hc]at cc hI
     rw[if_pos ⟨rfl,rfl⟩]at hI
     repeat(first|refine wa ?_|((with_reducible apply s5);(first|exact a_call cbk rfl by_sub|(focus ((with_reducible apply a_lend);exact cc;exact rfl;exact .plain rfl;(focus first|exact rfl|(simp;done)|(simp;omega));(iterate 2 exact rfl);exact by_sub))|exact by_oa|exact by_ca);exact by_g)|refine wb ?_)
     refine q_loopT (j+1,out++[vb - e.base]) ⟨by dsimp only;omega,by dsimp only;simp;omega,hI⟩ (by dsimp only;omega) ?_
     exact by_less
theorem ok_pready (e:Engine) (hs:e.Sm) (hl:e.state.length=e.deeds.length) (hn:∀ d∈e.deeds,d.reads.Nodup) (hk:Srt Chain.key e.chains) (hB:NB e) :
  FnOk Tryz.prog 82 [.d (.agg e.enc)] (.one (encInts (ready e))):=by
 refine fnOk_of tbl_ok mixed_ok Tryz.func82 rfl (by kernel_rfl) rfl rfl fun w0 own0=>?_
 have hd1:=hs.d
 have hst0:StopA 2:=⟨rfl⟩
 try refine wkS ?_
 clear hst0
 refine Stop.go (CW.stut (stut_promote (i:=3) 3 1) ⟨rfl,rfl,trivial⟩ ?_)
 try refine wk ?_
 refine CW.loopT (fun t:Nat×List Int=>[sp 1 0,ob 0 e.enc,sd 2 (.v nilS),so 3 1 t.2.length,oa 1 3 1 (t.2.map encInt1),sd 7 (encInts e.state),sd 8 (dint e.state.length),sd 9 (dint t.1),nxt 2])
  (fun t=>t.1≤e.state.length∧t.2.length≤t.1∧t.2++readyGo e t.1 (e.state.drop t.1)=ready e) (fun t=>e.state.length - t.1) (0,[]) ⟨by omega,by simp,rfl⟩ ?_ ?_
 ·
  exact by_less
 ·
  rintro ⟨i,out⟩ ⟨hi,ho,hI⟩
  dsimp only at hi ho hI ⊢
  rcases drop_case hi with ⟨h1,h2⟩|⟨s,h1,h2,h3⟩
  ·
   rw[h1]at hI
   simp only[readyGo,List.append_nil]at hI
   try refine wk ?_
   exact .one (.tmp rfl (.one (.own rfl (by simp) (dle_eq (by rw[← hI];rfl)))))
  ·
   rw[h1]at hI
   simp only[readyGo]at hI
   obtain⟨d,hd⟩:∃ d,e.deeds[i]? = some d:=⟨e.deeds[i]'(by omega),List.getElem?_eq_getElem (by omega)⟩
   have hna:needsAt e i=needs e i d:=by unfold needsAt;rw[hd]
   rw[hna]at hI
   have cn:=ok_pneeds e i d hs hd (hn d (List.mem_of_getElem? hd)) hk hB
   have hnl:(needs e i d).length≤268435456:=by
    have:=needs_len e.chains e.base (e.base+i) (keysD d) (List.range i) 0
    unfold needs
    simp at this
    omega
   by_cases h4:s=0
   ·
    cases h5:needs e i d with
    |nil =>
     rw[if_pos ⟨h4,h5⟩]at hI
     rw[h5]at cn
     try refine wk ?_
     refine q_loopT (i+1,out++[(i:Int)]) ⟨by dsimp only;omega,by dsimp only;simp;omega,by rw[← hI];simp⟩ (by dsimp only;omega) ?_
     exact by_less
    |cons x l =>
     rw[if_neg (by rw[h5];simp)]at hI
     rw[h5]at cn hnl
     have hne:¬ ((x::l).length:Int)=0:=by simp;omega
     try refine wk ?_
     refine q_loopT (i+1,out) ⟨by dsimp only;omega,by dsimp only;omega,hI⟩ (by dsimp only;omega) ?_
     exact by_less
   ·
    rw[if_neg (fun e=>h4 e.1)]at hI
    try refine wk ?_
    refine q_loopT (i+1,out) ⟨by dsimp only;omega,by dsimp only;omega,hI⟩ (by dsimp only;omega) ?_
    exact by_less
theorem kept_back (l:List Chain) (m:Nat) (c:Chain) (x:Value) (hc:l[m]? = some c):D.sl 2 ((keptRows l m c x).set m ([dstr c.key,D.v x].set 1 (.sl 4 (c.vs.map Version.enc))))=encChains l:=by
 have hlt:=(List.getElem?_eq_some_iff.1 hc).1
 unfold keptRows encChains
 rw[List.set_set]
 congr 1
 apply List.ext_getElem?
 intro j
 by_cases hj:m=j
 ·
  subst hj
  rw[List.getElem?_set_self (by simpa using hlt)]
  simp[hc];rfl
 ·
  rw[List.getElem?_set_ne hj]
theorem kept_at (l:List Chain) (m:Nat) (c:Chain) (x:Value) (hc:l[m]? = some c):(keptRows l m c x)[m]? = some [dstr c.key,D.v x]:=by
 have hlt:=(List.getElem?_eq_some_iff.1 hc).1
 unfold keptRows
 rw[List.getElem?_set_self (by simpa using hlt)]
theorem kept_set (l:List Chain) (m:Nat) (c:Chain) (x:Value) (vs:List Version):(keptRows l m c x).set m [dstr c.key,encVs vs]=(l.set m ⟨c.key,vs⟩).map Chain.enc:=by
 unfold keptRows
 rw[List.set_set,List.map_set]
 rfl
theorem addS_found {k:Str}{b:Int}:∀ {l:List Chain}{m:Nat}{c:Chain},Srt Chain.key l→l[m]? = some c→c.key=k→addS k b l=l.set m ⟨c.key,c.vs++[newV b]⟩
 | [],m,c,_,h,_=>by simp at h
 |d::l,0,c,_,h,hk=>by
  simp at h;subst h
  simp only[addS,if_pos hk,List.set_cons_zero]
 |d::l,m+1,c,hs,h,hk=>by
  have h':l[m]? = some c:=by simpa using h
  obtain⟨h1,h2⟩:=List.pairwise_cons.1 hs
  have h3:=h1 c (List.mem_of_getElem? h')
  rw[hk]at h3
  simp only[addS]
  rw[if_neg (slt_ne h3),if_pos h3,addS_found h2 h' hk,List.set_cons_succ]
theorem addS_new {k:Str}{b:Int}:∀ {l:List Chain}{m:Nat},AtK Chain.key l k m→isAtK Chain.key l k m=false→Srt Chain.key l→addS k b l=l.take m++⟨k,[newV b]⟩::l.drop m
 | [],m,hm,_,_=>by
  have:=hm.le
  obtain rfl:m=0:=by simpa using this
  rfl
 |d::l,0,hm,hn,hs=>by
  have h1:d.key≠k:=by simpa[isAtK] using hn
  have h2:=hm.ge 0 d rfl (Nat.le_refl _)
  simp only[addS]
  rw[if_neg h1,if_neg (by rw[h2];simp)]
  rfl
 |d::l,m+1,hm,hn,hs=>by
  have h2:=hm.lt 0 d rfl (by omega)
  simp only[addS]
  rw[if_neg (slt_ne h2),if_pos h2,addS_new (m:=m) ⟨by have:=hm.le;simpa using this,fun x c hx hlt=>hm.lt (x+1) c (by simpa using hx) (by omega),fun x c hx hge=>hm.ge (x+1) c (by simpa using hx) (by omega)⟩ (by simpa[isAtK] using hn) (List.pairwise_cons.1 hs).2]
  rfl
theorem ok_padd
  (l:List Chain) (k:Str) (b:Int) (hl:l.length≤268435455) (hv:∀ c∈l,c.vs.length≤268435455) (hs:Srt Chain.key l) :
  FnOk Tryz.prog 65 [.d (encChains l),.d (dstr k),.d (dint b)] (.one (encChains (addS k b l))):=by
 refine fnOk_of tbl_ok mixed_ok Tryz.func65 rfl (by kernel_rfl) rfl rfl fun w0 own0=>?_
 have hins:=upd_insert
 obtain⟨m,hm⟩:=hs.at k
 have hml:=hm.le
 have hf:=ok_find l k m (by omega) hm
 have hvv:∀ c∈l,c.vs.length≤268435456:=fun c hc=>by have:=hv c hc;omega
 cases hb:isAt l k m with
 |true =>
  obtain⟨c,hc,hck⟩:=isAt_some hb
  rw[hb]at hf
  have hmlt:=(List.getElem?_eq_some_iff.1 hc).1
  have hcv:=hv c (List.mem_of_getElem? hc)
  rw[addS_found hs hc hck]
  have ho2:=own2_chain l m c hc (by omega) hvv
  have hst0:StopR 1:=⟨rfl⟩
  try refine wkS ?_
  clear hst0
  refine Stop.go (CW.seq (CW.regionS ?_))
  repeat(first|((with_reducible apply SW.s1);exact rfl)|((with_reducible apply SW.s5);exact by_oa;exact rfl))
  refine SW.fam rfl (fam_own2 (nx:=0) ho2 rfl rfl (.cons rfl (.d (.refl _)) trivial .nil)) fun x=>?_
  refine SW.rw ?_
  have hkl:(keptRows l m c x).length=l.length:=by simp[keptRows]
  have hrow:=kept_at l m c x hc
  rw[← kept_back l m c x hc]at hf
  have hst0:StopR 5:=⟨rfl⟩
  repeat(first|refine waS ?_|((with_reducible apply s5);(first|(focus (with_reducible apply a_lend);exact hf;exact rfl;exact .pin (id2:=1) rfl hrow rfl rfl;exact rfl;exact rfl;exact rfl;apply SubsE.cons;exact rfl;exact .d (.refl _);exact trivial;exact SubsE.nil)|exact by_oa|exact by_ca);exact by_g)|refine wb ?_)
  clear hst0
  refine Stop.go (CW.seq (CW.regionS ?_))
  repeat(first|((with_reducible apply SW.s1);exact rfl)|((with_reducible apply SW.s5);exact by_oa;exact rfl))
  refine SW.stut (stut_unpin (i:=32) (id:=1) (nx:=2)) ⟨rfl,rfl,rfl,trivial⟩ ?_
  repeat(first|((with_reducible apply SW.s1);exact rfl)|((with_reducible apply SW.s5);exact by_oa;exact rfl))
  refine SW.stut (stut_freeze (i:=36) (id:=2) (by simp)) ⟨rfl,rfl,trivial⟩ ?_
  repeat(first|((with_reducible apply SW.s1);exact rfl)|((with_reducible apply SW.s5);exact by_oa;exact rfl))
  refine SW.nil ?_
  try refine wk ?_
  refine .one (.tmp rfl (.one (.own rfl (by simp) (dle_eq ?_))))
  have:=kept_set l m c x (c.vs++[newV b])
  show D.sl 2 _=D.sl 2 _
  rw[← this]
  congr 2
  simp[splice,encVs,Version.enc,newV]
 |false =>
  rw[hb]at hf
  have hn:=new_chainOwn l (by omega) hvv
  have hi:=hins (l.map Chain.enc) m (dstr k) (.v nilS) (by simp;omega) (by simp;omega)
  rw[addS_new hm hb hs]
  have hrow:((l.map Chain.enc).take m++[dstr k,.v nilS]::(l.map Chain.enc).drop m)[m]? = some [dstr k,.v nilS]:=by
   rw[List.getElem?_append_right (by simp;omega)]
   simp[Nat.min_eq_left hml]
  have hlen:((l.map Chain.enc).take m++[dstr k,.v nilS]::(l.map Chain.enc).drop m).length=l.length+1:=by simp;omega
  have hmlt:m < ((l.map Chain.enc).take m++[dstr k,.v nilS]::(l.map Chain.enc).drop m).length:=by omega
  have hst0:StopR 5:=⟨rfl⟩
  repeat(first|refine waS ?_|((with_reducible apply s5);(first|exact a_callnew hn rfl rfl by_sub|(focus ((with_reducible apply a_lend);exact hf;exact rfl;exact .plain rfl;(focus first|exact rfl|(simp;done)|(simp;omega));(iterate 2 exact rfl);exact by_sub))|(focus ((with_reducible apply a_upd);exact hi;(iterate 3 exact rfl);(focus first|exact rfl|(simp;done)|(simp;omega));exact rfl;exact by_sub))|exact by_oa|exact by_ca);exact by_g)|refine wb ?_)
  clear hst0
  refine Stop.go (CW.seq (CW.regionS ?_))
  repeat(first|((with_reducible apply SW.s1);exact rfl)|((with_reducible apply SW.s5);exact by_oa;exact rfl))
  refine SW.stut (stut_promote (i:=32) 106 4) ⟨rfl,rfl,trivial⟩ ?_
  repeat(first|((with_reducible apply SW.s1);exact rfl)|((with_reducible apply SW.s5);exact by_oa;exact rfl))
  refine SW.stut (stut_freeze (i:=36) (id:=2) (by simp)) ⟨rfl,rfl,trivial⟩ ?_
  repeat(first|((with_reducible apply SW.s1);exact rfl)|((with_reducible apply SW.s5);exact by_oa;exact rfl))
  refine SW.nil ?_
  try refine wk ?_
  refine .one (.tmp rfl (.one (.own rfl (by simp) (dle_eq ?_))))
  show D.sl 2 _=D.sl 2 _
  congr 1
  rw[List.set_append_right _ _ (by simp;omega)]
  simp[splice,encVs,Version.enc,newV,Chain.enc,Nat.min_eq_left hml]
theorem setV_false (v w:Version):setV false v w=w:=by simp[setV]
theorem setC_ne {k:Str}{v:Version}{c:Chain}(h:c.key≠k):setC k v c=c:=by
 unfold setC
 rw[decide_eq_false h]
 have:c.vs.map (setV false v)=c.vs:=by
  rw[show setV false v=id from funext fun w=>setV_false v w];simp
 rw[this]
theorem set_found {k:Str}{v:Version}{l:List Chain}{m:Nat}{c:Chain}(hs:Srt Chain.key l) (hc:l[m]? = some c) (hk:c.key=k):setChains l k v=l.set m ⟨c.key,c.vs.map (setV true v)⟩:=by
 apply List.ext_getElem?
 intro j
 unfold setChains
 rw[List.getElem?_map]
 by_cases hj:m=j
 ·
  subst hj
  rw[List.getElem?_set_self (List.getElem?_eq_some_iff.1 hc).1,hc]
  simp[setC,hk]
 ·
  rw[List.getElem?_set_ne hj]
  cases hd:l[j]? with
  |none=>rfl
  |some d =>
   have:d.key≠k:=by rw[← hk];exact hs.ne hd hc fun e=>hj e.symm
   simp[setC_ne this]
theorem set_none {k:Str}{v:Version}{l:List Chain}{m:Nat}(hs:Srt Chain.key l) (hm:AtK Chain.key l k m) (hn:isAtK Chain.key l k m=false):setChains l k v=l:=by
 have key:∀ c∈l,setC k v c=c:=fun c hc=>setC_ne fun e=>by
  obtain⟨j,hj⟩:=List.getElem?_of_mem hc
  rcases Nat.lt_trichotomy j m with h|h|h
  ·
   have:=hm.lt j c hj h
   rw[e,slt_irrefl]at this;cases this
  ·
   subst h
   rw[isAtK,hj]at hn
   simp[e]at hn
  ·
   have hml:m < l.length:=by have:=(List.getElem?_eq_some_iff.1 hj).1;omega
   have hme:l[m]? = some l[m]:=List.getElem?_eq_getElem hml
   have h1:=hm.ge m l[m] hme (Nat.le_refl _)
   have h2:=hs.lt hme hj h
   rw[e,h1]at h2;cases h2
 unfold setChains
 conv=>rhs;rw[← List.map_id l]
 exact List.map_congr_left key
def midV (v:Version) (vs:List Version) (i:Nat):List Version:=(vs.take i).map (setV true v)++vs.drop i
theorem midV_at {v:Version}{vs:List Version}{i:Nat}{x:Version}(h:vs[i]? = some x):((midV v vs i).map Version.enc)[i]? = some x.enc∧((midV v vs i).map Version.enc).set i (setV true v x).enc=(midV v vs (i+1)).map Version.enc:=by
 have hlt:=(List.getElem?_eq_some_iff.1 h).1
 have h1:vs.drop i=x::vs.drop (i+1):=by
  have:=List.drop_eq_getElem_cons hlt
  rw[(List.getElem?_eq_some_iff.1 h).2]at this
  exact this
 have h2:vs.take (i+1)=vs.take i++[x]:=by rw[List.take_add_one,h];rfl
 have hl:((vs.take i).map (setV true v)).length=i:=by simp;omega
 unfold midV
 constructor
 ·
  rw[List.map_append,List.getElem?_append_right (by simp;omega),h1]
  simp[Nat.min_eq_left (Nat.le_of_lt hlt)]
 ·
  rw[h1,h2,List.map_append,List.set_append_right _ _ (by simp;omega)]
  simp[Nat.min_eq_left (Nat.le_of_lt hlt)]
theorem ok_pset (l:List Chain) (k:Str) (v:Version) (hl:l.length≤268435455) (hv:∀ c∈l,c.vs.length≤268435455) (hs:Srt Chain.key l) :
  FnOk Tryz.prog 122 [.d (encChains l),.d (dstr k),.d (.agg v.enc)] (.one (encChains (setChains l k v))):=by
 refine fnOk_of tbl_ok mixed_ok Tryz.func122 rfl (by kernel_rfl) rfl rfl fun w0 own0=>?_
 obtain⟨m,hm⟩:=hs.at k
 have hml:=hm.le
 have hf:=ok_find l k m (by omega) hm
 have hvv:∀ c∈l,c.vs.length≤268435456:=fun c hc=>by have:=hv c hc;omega
 cases hb:isAt l k m with
 |true =>
  obtain⟨c,hc,hck⟩:=isAt_some hb
  rw[hb]at hf
  have hmlt:=(List.getElem?_eq_some_iff.1 hc).1
  have hcv:=hv c (List.mem_of_getElem? hc)
  rw[set_found hs hc hck]
  have ho2:=own2_chain l m c hc (by omega) hvv
  have hst0:StopR 1:=⟨rfl⟩
  try refine wkS ?_
  clear hst0
  refine Stop.go (CW.seq (CW.regionS ?_))
  repeat(first|((with_reducible apply SW.s1);exact rfl)|((with_reducible apply SW.s5);exact by_oa;exact rfl))
  refine SW.fam rfl (fam_own2 (nx:=1) ho2 rfl rfl (.cons rfl (.d (.refl _)) trivial .nil)) fun x=>?_
  refine SW.rw ?_
  have hkl:(keptRows l m c x).length=l.length:=by simp[keptRows]
  have hrow:=kept_at l m c x hc
  rw[← kept_back l m c x hc]at hf
  have hst0:StopR 4:=⟨rfl⟩
  repeat(first|refine waS ?_|((with_reducible apply s5);(first|(focus (with_reducible apply a_lend);exact hf;exact rfl;exact .pin (id2:=2) rfl hrow rfl rfl;exact rfl;exact rfl;exact rfl;apply SubsE.cons;exact rfl;exact .d (.refl _);exact trivial;exact SubsE.nil)|exact by_oa|exact by_ca);exact by_g)|refine wb ?_)
  clear hst0
  refine Stop.go (CW.fact (pin_slice (id:=2) rfl) ?_)
  rintro ⟨p,cp,rfl⟩
  have hmk:m < (keptRows l m c (.slice p (c.vs.map Version.enc).length cp)).length:=by omega
  repeat(first|refine wa ?_|((with_reducible apply s5);(first|((with_reducible apply a_lenv);(iterate 4 exact rfl))|exact by_oa|exact by_ca);exact by_g)|refine wb ?_)
  have hvl:(c.vs.map Version.enc).length=c.vs.length:=by simp
  rw[hvl]at hrow hmk hkl ⊢
  generalize hx:Value.slice p c.vs.length cp=x at hrow hmk hkl ⊢
  refine CW.loopT (fun t:Nat=>[sp 5 0,ob 0 v.enc,so 7 1 (keptRows l m c x).length,oa 1 109 2 (keptRows l m c x),(.o 2,.ob (.pin 106 4 ((midV v c.vs t).map Version.enc) x)),sd 8 (dint m),sd 25 (dint c.vs.length),sd 26 (dint t),nxt 3])
   (fun t=>t≤c.vs.length) (fun t=>c.vs.length - t) 0 (Nat.zero_le _) ?_ ?_
  ·
   exact by_less
  ·
   rintro t ht
   rcases drop_case ht with ⟨h1,h2⟩|⟨y,h1,h2,h3⟩
   ·
    subst h2
    have hmid:midV v c.vs c.vs.length=c.vs.map (setV true v):=by simp[midV]
    rw[hmid]
    have hst0:StopR 10:=⟨rfl⟩
    try refine wkS ?_
    clear hst0
    refine Stop.go (CW.stut (stut_fold (id:=1) (id2:=2) (j:=1) hrow rfl) ⟨rfl,rfl,trivial⟩ ?_)
    try refine wk ?_
    refine .one (.tmp rfl (.one (.own rfl (by simp) (dle_eq ?_))))
    exact congrArg _ (kept_set l m c x (c.vs.map (setV true v)))
   ·
    obtain⟨hat,hset⟩:=midV_at (v:=v) h2
    have hne:(midV v c.vs t).map Version.enc≠[]:=by
     intro e
     have:=congrArg List.length e
     simp[midV]at this
     omega
    refine CW.fact (pin_shape (id:=2) rfl hne) ?_
    rintro ⟨b,cp',hxe⟩
    have hml2:((midV v c.vs t).map Version.enc).length=c.vs.length:=by simp[midV];omega
    rw[hml2]at hxe
    subst hxe
    by_cases h4:y.by_=v.by_
    ·
     have hsv:setV true v y=v:=by simp[setV,h4]
     rw[hsv]at hset
     repeat(first|refine wa ?_|((with_reducible apply s5);(first|((with_reducible apply a_iav);(iterate 5 exact rfl);omega)|((with_reducible apply a_fav);(iterate 4 exact rfl))|((with_reducible apply(a_lpin 2 t 0));(iterate 4 exact rfl);exact hat;exact rfl;(first|rfl|omega))|((with_reducible apply(a_spin 2 t 0));(iterate 6 exact rfl);exact hat;exact rfl;(first|rfl|omega))|exact by_oa|exact by_ca);exact by_g)|refine wb ?_)
     refine q_loopT (t+1) (by omega) (by omega) ?_
     dsimp only
     rw[← hset]
     exact by_less
    ·
     have hsv:setV true v y=y:=by unfold setV;rw[if_neg (by simpa using h4)]
     rw[hsv]at hset
     have hset2:(midV v c.vs t).map Version.enc=(midV v c.vs (t+1)).map Version.enc:=by
      rw[← hset]
      refine(List.ext_getElem? fun j=>?_)
      by_cases hj:t=j
      ·
       subst hj
       rw[List.getElem?_set_self (by rw[hml2];exact(List.getElem?_eq_some_iff.1 h2).1),hat]
      ·
       rw[List.getElem?_set_ne hj]
     repeat(first|refine wa ?_|((with_reducible apply s5);(first|((with_reducible apply a_iav);(iterate 5 exact rfl);omega)|((with_reducible apply a_fav);(iterate 4 exact rfl))|((with_reducible apply(a_lpin 2 t 0));(iterate 4 exact rfl);exact hat;exact rfl;(first|rfl|omega))|exact by_oa|exact by_ca);exact by_g)|refine wb ?_)
     refine q_loopT (t+1) (by omega) (by omega) ?_
     rw[hset2]
     exact by_less
 |false =>
  rw[hb]at hf
  have hn:=new_chainOwn l (by omega) hvv
  rw[set_none hs hm hb]
  repeat(first|refine wa ?_|((with_reducible apply s5);(first|exact a_callnew hn rfl rfl by_sub|(focus ((with_reducible apply a_lend);exact hf;exact rfl;exact .plain rfl;(focus first|exact rfl|(simp;done)|(simp;omega));(iterate 2 exact rfl);exact by_sub))|exact by_oa|exact by_ca);exact by_g)|refine wb ?_)
  exact .one (.tmp rfl (.one (.own rfl (by simp) (.refl _))))
def pickV (k:Str):Version→List (Str×(Bool×Int))→Version
 |v,[]=>v
 |v,c::r=>pickV k (if c.1=k then chVer c else v) r
def madeV (cs:List Chain) (b:Int) (ch:List (Str×(Bool×Int))) (k:Str):Version:=⟨b,true,(pickV k (before cs k b) ch).has,(pickV k (before cs k b) ch).n⟩
def pgoSets (cs0:List Chain) (b:Int) (ch:List (Str×(Bool×Int))):List Chain→List Str→List Chain
 |cs,[]=>cs
 |cs,k::ks=>pgoSets cs0 b ch (setChains cs k (madeV cs0 b ch k)) ks
def viewE (cs:List Chain) (b:Int) (k:Str):Int×Bool:=((before cs k b).n,(before cs k b).has)
def pgoNew (e:Engine) (A:Nat) (d:Deed):Engine :=
 ⟨pgoSets e.chains (e.base+A) (runC (viewE e.chains (e.base+A)) d) e.chains d.writes,e.deeds,e.state.set A 1,e.ends.set A (runM (viewE e.chains (e.base+A)) d).2,e.base⟩
theorem ok_viewE (e:Engine) (b:Int) (k:Str) (hs:e.Sm) (hk:Srt Chain.key e.chains):FnOk Tryz.prog 120 [.d (dstr k),.pd e.enc,.pd [dint b]] (.tup [dint (viewE e.chains b k).1,dbool (viewE e.chains b k).2]):=by
 refine fnOk_of tbl_ok mixed_ok Tryz.func120 rfl (by kernel_rfl) rfl rfl fun w0 own0=>?_
 have c1:=ok_pbefore e.chains k b (by have:=hs.c;omega) (fun c h=>by have:=hs.v c h;omega) hk
 unfold viewE
 obtain⟨⟨vb,vm,vh,vn⟩,hv⟩:∃ v,before e.chains k b=v:=⟨_,rfl⟩
 rw[hv]at c1 ⊢
 try refine wk ?_
 exact .two (.tmp rfl (.one (.d (.refl _)))) (.tmp rfl (.one (.d (.refl _))))
theorem pgo_loop (e:Engine) (A:Nat) (d:Deed) (hs:e.Sm) (hd:e.deeds[A]? = some d) (hst:e.state.length=e.deeds.length) (hen:e.ends.length=e.deeds.length) (hk:Srt Chain.key e.chains)
  (hw:wrongDeed d=0) (hch:chOk e.chains) (N:Int) (hb:∀ c∈e.chains,VSrt c.vs∧∀ v∈c.vs,v.by_ < N) (hne:needs e A d=[]) (s:Int) (hsA:e.state[A]? = some s) (hs1:¬ s=1) (hn:FnOk Tryz.prog 19 [.d (.agg e.enc),.d (dint A)] (.one (encInts []))) :
  FnOk Tryz.prog 83 [.d (.agg e.enc),.d (dint A)] (.tup [.agg (pgoNew e A d).enc,dint 0]):=by
 refine fnOk_of tbl_ok mixed_ok Tryz.func83 rfl (by kernel_rfl) rfl rfl fun w0 own0=>?_
 have hA:=(List.getElem?_eq_some_iff.1 hd).1
 have hdl:=hs.d
 have hbase:=hs.b
 have hcl:=hs.c
 have ho:=wrongDeed_ok hw
 have hwl:=ho.w
 have co:=news_planOwn e hs
 have cr:=ok_run 120 [refD e.enc,refD [dint (e.base+A)]] [.pd e.enc,.pd [dint (e.base+A)]] (viewE e.chains (e.base+A)) d (.ref (.ref .nil)) (fun k _=>ok_viewE e (e.base+A) k hs hk)
  (fun k _=>before_ok hch k _) (by have:=ho.c;omega) (by omega) ho.i (wrong_reads hw)
 unfold pgoNew
 have hrl:(runC (viewE e.chains (e.base+A)) d).length≤5:=by
  unfold runC
  split
  ·
   simp
  ·
   exact Nat.le_trans (chg_len _ _) hwl
 unfold runRes at cr
 generalize runC (viewE e.chains (e.base+A)) d=ch at cr hrl ⊢
 generalize (runM (viewE e.chains (e.base+A)) d).2=dn at cr ⊢
 have hAl:¬ ((A:Int) < 0):=by omega
 have hst0:StopR 9:=⟨rfl⟩
 repeat(first|refine waS ?_|((with_reducible apply s5);(first|exact a_call hn rfl by_sub|exact a_callnews co rfl rfl by_sub|exact by_oa|exact by_ca);exact by_g)|refine wb ?_)
 clear hst0
 refine Stop.go (CW.stut (stut_freezebox (i:=2) (id:=0) (ds:=e.enc) rfl) ⟨rfl,rfl,trivial⟩ ?_)
 refine CW.stut (stut_freezebox (i:=7) (id:=6) (ds:=[dint (e.base+A)]) rfl) ⟨rfl,rfl,trivial⟩ ?_
 have hst0:StopR 10:=⟨rfl⟩
 repeat(first|refine waS ?_|((with_reducible apply s5);(first|((with_reducible apply(a_mkfn (ds:=[refD e.enc,refD [dint (e.base+A)]])));exact rfl;apply SubsE.cons;exact rfl;exact .d (.refl _);exact trivial;apply SubsE.cons;exact rfl;exact .d (.refl _);exact trivial;exact SubsE.nil)|exact by_oa|exact by_ca);exact by_g)|refine wb ?_)
 clear hst0
 refine Stop.go (CW.stut (stut_refpd (i:=2)) ⟨rfl,trivial⟩ ?_)
 refine CW.stut (stut_refpd (i:=7)) ⟨rfl,trivial⟩ ?_
 try refine wk ?_
 refine CW.loopT (fun t:Nat×List Chain=>[sd 1 (dint A),(.s 2,.av (.pd e.enc)),sp 4 1,ob 1 noE.enc0,sd 5 (dint 0),sp 6 5,(.o 5,.ob (.box [.d (encChains t.2),.own 2 (e.deeds.map Deed.enc).length,.own 3 (e.state.map encInt1).length,.own 4 (e.ends.map Done.enc).length,.d (dint e.base)])),(.s 7,.av (.pd [dint (e.base+A)])),sp 9 7,ob 7 dn.enc,sd 10 (encVs (ch.map chVer)),sd 11 (encStrs (ch.map (·.1))),sd 69 (encStrs d.writes),sd 70 (dint d.writes.length),sd 71 (dint t.1),oa 2 42 3 (e.deeds.map Deed.enc),oa 3 3 1 (e.state.map encInt1),oa 4 115 5 (e.ends.map Done.enc),nxt 8])
  (fun t=>t.1≤d.writes.length∧t.2.length≤134217728∧(∀ c∈t.2,c.vs.length≤134217728)∧(Srt Chain.key t.2∧∀ c∈t.2,VSrt c.vs∧∀ v∈c.vs,v.by_ < N)∧pgoSets e.chains (e.base+A) ch t.2 (d.writes.drop t.1)=pgoSets e.chains (e.base+A) ch e.chains d.writes) (fun t=>d.writes.length - t.1) (0,e.chains) ⟨by omega,hcl,hs.v,⟨hk,hb⟩,rfl⟩ ?_ ?_
 ·
  exact by_less
 ·
  rintro ⟨j,cs⟩ ⟨hj,hl1,hl2,hl3,hJ⟩
  dsimp only at hj hl1 hl2 hl3 hJ ⊢
  rcases drop_case hj with ⟨h1,h2⟩|⟨k,h1,h2,h3⟩
  ·
   rw[h1,pgoSets]at hJ
   have hsA':(e.state.map encInt1)[A]? = some (encInt1 s):=by rw[List.getElem?_map,hsA];rfl
   have hEl:A < e.ends.length:=by omega
   obtain⟨q,hq⟩:∃ q,e.ends[A]? = some q:=⟨e.ends[A],List.getElem?_eq_getElem hEl⟩
   have hq':(e.ends.map Done.enc)[A]? = some q.enc:=by rw[List.getElem?_map,hq];rfl
   have hAs:A < (e.state.map encInt1).length:=by simp;omega
   have hAe:A < (e.ends.map Done.enc).length:=by simp;omega
   try refine wk ?_
   rw[← hJ]
   refine .two (.cell rfl rfl rfl rfl (.agg (.cons (.d (.refl _)) (.cons (.own rfl (by simp) (.refl _)) (.cons (.own rfl (by simp) (dle_eq ?_)) (.cons (.own rfl (by simp) (dle_eq ?_)) (.cons (.d (.refl _)) .nil))))))) (.tmp rfl (.one (.d (.refl _))))
   ·
    show D.sl 1 _=D.sl 1 _
    rw[List.map_set];rfl
   ·
    show D.sl 5 _=D.sl 5 _
    rw[List.map_set];rfl
  ·
   rw[h1,pgoSets]at hJ
   have cb:=ok_pbefore e.chains k (e.base+A) (by omega) (fun c h=>by have:=hs.v c h;omega) hk
   try refine wk ?_
   refine CW.loopT (fun t:Nat×Version=>[sd 1 (dint A),(.s 2,.av (.pd e.enc)),sp 4 1,ob 1 noE.enc0,sd 5 (dint 0),sp 6 5,(.o 5,.ob (.box [.d (encChains cs),.own 2 (e.deeds.map Deed.enc).length,.own 3 (e.state.map encInt1).length,.own 4 (e.ends.map Done.enc).length,.d (dint e.base)])),(.s 7,.av (.pd [dint (e.base+A)])),sp 9 7,ob 7 dn.enc,sd 10 (encVs (ch.map chVer)),sd 11 (encStrs (ch.map (·.1))),sd 69 (encStrs d.writes),sd 70 (dint d.writes.length),sd 71 (dint j),oa 2 42 3 (e.deeds.map Deed.enc),oa 3 3 1 (e.state.map encInt1),oa 4 115 5 (e.ends.map Done.enc),sd 13 (dstr k),sp 14 8,ob 8 t.2.enc,sd 80 (encStrs (ch.map (·.1))),sd 81 (dint (ch.map (·.1)).length),sd 82 (dint t.1),nxt 9])
    (fun t=>t.1≤ch.length∧pickV k t.2 (ch.drop t.1)=pickV k (before e.chains k (e.base+A)) ch) (fun t=>ch.length - t.1) (0,before e.chains k (e.base+A)) ⟨by omega,rfl⟩ ?_ ?_
   ·
    exact by_less
   ·
    rintro ⟨i,v⟩ ⟨hi,hI⟩
    dsimp only at hi hI ⊢
    rcases drop_case hi with ⟨g1,g2⟩|⟨c,g1,g2,g3⟩
    ·
     rw[g1,pickV]at hI
     have hmv:madeV e.chains (e.base+A) ch k=⟨e.base+A,true,v.has,v.n⟩:=by unfold madeV;rw[← hI]
     have cset:=ok_pset cs k ⟨e.base+A,true,v.has,v.n⟩ (by omega) (fun c h=>by have:=hl2 c h;omega) hl3.1
     rw[hmv]at hJ
     obtain⟨vb,vm,vh,vn⟩:=v
     dsimp only at cset hJ
     try refine wk ?_
     refine q_loopT (j+1,setChains cs k ⟨e.base+A,true,vh,vn⟩) ⟨by dsimp only;omega,by dsimp only;rw[set_len];exact hl1,set_vs hl2,set_srt hl3.1 hl3.2,hJ⟩ (by dsimp only;omega) ?_
     exact by_less
    ·
     rw[g1,pickV]at hI
     have g4:(ch.map chVer)[i]? = some (chVer c):=by rw[List.getElem?_map,g2];rfl
     have g5:(ch.map (·.1))[i]? = some c.1:=by rw[List.getElem?_map,g2];rfl
     by_cases h:c.1=k
     ·
      rw[if_pos h]at hI
      try refine wk ?_
      refine q_loopT (i+1,chVer c) ⟨by dsimp only;omega,hI⟩ (by dsimp only;omega) ?_
      exact by_less
     ·
      rw[if_neg h]at hI
      try refine wk ?_
      refine q_loopT (i+1,v) ⟨by dsimp only;omega,hI⟩ (by dsimp only;omega) ?_
      exact by_less
structure WInv (e:Engine):Prop where
 d:∀ d∈e.deeds,wrongDeed d=0
 n:∀ c∈e.chains,∀ v∈c.vs,v.made=false→∃ (k:Nat) (x:Deed),v.by_=e.base+k∧e.state[k]? = some 0∧e.deeds[k]? = some x∧c.key∈x.writes
 h:∀ c∈e.chains,∀ v∈c.vs,v.has=false→v.n=0
 l:e.state.length=e.deeds.length
theorem newE_w (r:List Pair):WInv (newE r):=by
 have h0:∀ c∈(newE r).chains,∀ v∈c.vs,v.made=true∧v.has=true:=by
  intro c hc v hv
  obtain⟨p,_,rfl⟩:=List.mem_map.1 hc
  simp[rowChain]at hv
  subst hv;exact⟨rfl,rfl⟩
 refine⟨by simp[newE],fun c hc v hv hm=>?_,fun c hc v hv hm=>?_,rfl⟩
 ·
  rw[(h0 c hc v hv).1]at hm;cases hm
 ·
  rw[(h0 c hc v hv).2]at hm;cases hm
theorem addKeys_mem {b:Int}:∀ {ks:List Str}{l:List Chain},Srt Chain.key l→∀ c∈addKeys b l ks,∀ v∈c.vs,(∃ c0∈l,c0.key=c.key∧v∈c0.vs)∨(v=newV b∧c.key∈ks)
 | [],l,_,c,hc,v,hv => .inl ⟨c,hc,rfl,hv⟩
 |k::ks,l,hs,c,hc,v,hv=>by
  simp only[addKeys]at hc
  rw[addC_srt hs]at hc
  rcases addKeys_mem (addS_srt hs) c hc v hv with ⟨c0,h0,h1,h2⟩|⟨h1,h2⟩
  ·
   rcases addS_mem h0 with h3|rfl|⟨c1,h3,h4,rfl⟩
   ·
    exact .inl ⟨c0,h3,h1,h2⟩
   ·
    simp at h2
    exact .inr ⟨h2,by rw[← h1];exact List.mem_cons_self ..⟩
   ·
    rcases List.mem_append.1 h2 with h2|h2
    ·
     exact .inl ⟨c1,h3,by rw[h4];exact h1,h2⟩
    ·
     simp at h2
     exact .inr ⟨h2,by rw[← h1];exact List.mem_cons_self ..⟩
  ·
   exact .inr ⟨h1,List.mem_cons_of_mem _ h2⟩
theorem WInv.add1 {e:Engine}(h:WInv e) (hs:SInv e) {d:Deed}(hd:wrongDeed d=0):WInv (add1 e d):=by
 have hlt:∀ (k:Nat) (x:Deed),e.deeds[k]? = some x→k < e.deeds.length:=fun k x hx=>(List.getElem?_eq_some_iff.1 hx).1
 refine⟨fun x hx=>?_,fun c hc v hv hm=>?_,fun c hc v hv hm=>?_,?_⟩
 ·
  rcases List.mem_append.1 hx with hx|hx
  ·
   exact h.d x hx
  ·
   simp at hx;subst hx;exact hd
 ·
  rcases addKeys_mem hs.k c hc v hv with ⟨c0,h0,h1,h2⟩|⟨rfl,h2⟩
  ·
   obtain⟨k,x,h3,h4,h5,h6⟩:=h.n c0 h0 v h2 hm
   have:=hlt k x h5
   refine⟨k,x,h3,?_,?_,by rw[← h1];exact h6⟩
   ·
    show(e.state++[0])[k]? = _
    rw[List.getElem?_append_left (by rw[h.l];exact this)];exact h4
   ·
    show(e.deeds++[d])[k]? = _
    rw[List.getElem?_append_left this];exact h5
  ·
   refine⟨e.deeds.length,d,rfl,?_,?_,h2⟩
   ·
    show(e.state++[0])[e.deeds.length]? = _
    rw[← h.l];simp
   ·
    show(e.deeds++[d])[e.deeds.length]? = _
    simp
 ·
  rcases addKeys_mem hs.k c hc v hv with ⟨c0,h0,h1,h2⟩|⟨rfl,h2⟩
  ·
   exact h.h c0 h0 v h2 hm
  ·
   rfl
 ·
  show(e.state++[0]).length=(e.deeds++[d]).length
  simp[h.l]
theorem WInv.addAll:∀ {l:List Deed}{e:Engine},WInv e→SInv e→(∀ d∈l,wrongDeed d=0)→WInv (addAll e l)
 | [],e,h,_,_=>h
 |d::l,e,h,hs,hl=>by
  simp only[RF.addAll]
  have hd:=hl d (List.mem_cons_self ..)
  exact WInv.addAll (h.add1 hs hd) (hs.add1 (wrong_keys hd).2) fun x hx=>hl x (List.mem_cons_of_mem _ hx)
theorem WInv.addE {e:Engine}(h:WInv e) (hs:SInv e) {l:List Deed}(hw:(addE e l).2=0):WInv (addE e l).1:=by
 unfold RF.addE at hw ⊢
 by_cases h0:wrongs l=0
 ·
  rw[if_pos h0]
  exact h.addAll hs fun d hd=>wrongs_mem h0 d hd
 ·
  rw[if_neg h0]at hw;exact absurd hw h0
theorem get_none0 {k:Str}:∀ {r:List Pair},(RF.get r k).2=false→(RF.get r k).1=0
 | [],_=>rfl
 |p::r,h=>by
  simp only[RF.get]at h ⊢
  by_cases hp:p.key=k
  ·
   rw[if_pos hp]at h;cases h
  ·
   rw[if_neg hp]at h ⊢;exact get_none0 h
theorem goSets_mem {r:List Pair}{b:Int}:∀ {ks:List Str}{l:List Chain},∀ c∈goSets r b l ks,∀ v∈c.vs,
  (∃ c0∈l,c0.key=c.key∧v∈c0.vs∧(v.by_=b→c.key∉ks))∨(v.made=true∧(v.has=false→v.n=0))
 | [],l,c,hc,v,hv => .inl ⟨c,hc,rfl,hv,fun _=>by simp⟩
 |k::ks,l,c,hc,v,hv=>by
  simp only[goSets]at hc
  rcases goSets_mem c hc v hv with ⟨c0,h0,h1,h2,h3⟩|h1
  ·
   obtain⟨c1,h4,rfl⟩:=List.mem_map.1 h0
   obtain⟨w,h5,rfl⟩:=List.mem_map.1 h2
   by_cases hh:decide (c1.key=k)=true∧w.by_=b
   ·
    refine .inr ?_
    have e:setV (decide (c1.key=k)) ⟨b,true,(RF.get r k).2,(RF.get r k).1⟩ w=⟨b,true,(RF.get r k).2,(RF.get r k).1⟩:=by unfold setV;rw[if_pos hh]
    rw[e]
    exact⟨rfl,get_none0⟩
   ·
    have e:setV (decide (c1.key=k)) ⟨b,true,(RF.get r k).2,(RF.get r k).1⟩ w=w:=by unfold setV;rw[if_neg hh]
    rw[e]at h3 ⊢
    refine .inl ⟨c1,h4,h1,h5,fun hb=>?_⟩
    have h6:=h3 hb
    intro hm
    rcases List.mem_cons.1 hm with hm|hm
    ·
     exact hh ⟨by simp[show c1.key=c.key from h1,hm],hb⟩
    ·
     exact h6 hm
  ·
   exact .inr h1
theorem WInv.goNew {e:Engine}(h:WInv e) (A:Nat) (d:Deed) (hd:e.deeds[A]? = some d):WInv (goNew e A d):=by
 refine⟨h.d,fun c hc v hv hm=>?_,fun c hc v hv hm=>?_,?_⟩
 ·
  rcases goSets_mem c hc v hv with ⟨c0,h0,h1,h2,h3⟩|h1
  ·
   obtain⟨k,x,h4,h5,h6,h7⟩:=h.n c0 h0 v h2 hm
   by_cases hk:k=A
   ·
    subst hk
    rw[hd]at h6
    cases h6
    exact absurd (h1▸h7) (h3 h4)
   ·
    refine⟨k,x,h4,?_,h6,by rw[← h1];exact h7⟩
    show(e.state.set A 1)[k]? = _
    rw[List.getElem?_set_ne (fun e=>hk e.symm)];exact h5
  ·
   rw[h1.1]at hm;cases hm
 ·
  rcases goSets_mem c hc v hv with ⟨c0,h0,h1,h2,h3⟩|h1
  ·
   exact h.h c0 h0 v h2 hm
  ·
   exact h1.2 hm
 ·
  show(e.state.set A 1).length=_
  rw[List.length_set];exact h.l
theorem WInv.goE {e:Engine}(h:WInv e) (at_:Int):WInv (goE e at_).1:=by
 unfold Proofs.YtfpkamiobdkcpaaGreatDoor.goE
 split
 ·
  exact h
 unfold goAt
 cases hA:e.deeds[at_.toNat]? with
 |none=>exact h
 |some d =>
  dsimp only
  split
  ·
   exact h
  split
  ·
   exact h.goNew _ _ hA
  ·
   exact h
theorem markN_one:∀ {s:List Int}{j:Nat},j < markN s→s[j]? = some 1
 | [],j,h=>by simp[markN]at h
 |x::s,j,h=>by
  simp only[markN]at h
  by_cases hx:x=1
  ·
   rw[if_pos hx]at h
   cases j with
   |zero=>simp[hx]
   |succ j=>simpa using markN_one (s:=s) (j:=j) (by omega)
  ·
   rw[if_neg hx]at h;omega
theorem WInv.clearE {e:Engine}(h:WInv e):WInv (clearE e):=by
 refine⟨fun d hd=>h.d d (List.mem_of_mem_drop hd),fun c hc v hv hm=>?_,fun c hc v hv hm=>?_,?_⟩
 ·
  obtain⟨c0,h0,rfl⟩:=clear_mem hc
  obtain⟨k,x,h1,h2,h3,h4⟩:=h.n c0 h0 v (clrV_sub hv) hm
  have hk:markN e.state≤k:=by
   rcases Nat.lt_or_ge k (markN e.state) with hlt|hge
   ·
    have:=markN_one hlt
    rw[h2]at this;cases this
   ·
    exact hge
  refine⟨k - markN e.state,x,?_,?_,?_,h4⟩
  ·
   show v.by_=e.base+markN e.state+((k - markN e.state:Nat):Int)
   omega
  ·
   show(e.state.drop (markN e.state))[k - markN e.state]? = _
   rw[List.getElem?_drop,show markN e.state+(k - markN e.state)=k by omega];exact h2
  ·
   show(e.deeds.drop (markN e.state))[k - markN e.state]? = _
   rw[List.getElem?_drop,show markN e.state+(k - markN e.state)=k by omega];exact h3
 ·
  obtain⟨c0,h0,rfl⟩:=clear_mem hc
  exact h.h c0 h0 v (clrV_sub hv) hm
 ·
  show(e.state.drop _).length=(e.deeds.drop _).length
  simp[h.l]
theorem WInv.pickE {e:Engine}(h:WInv e) (n:Int):WInv (pickE e n):=by
 unfold Proofs.YtfpkamiobdkcpaaGreatDoor.pickE
 split
 ·
  exact h.clearE
 split
 ·
  exact h
 split
 ·
  exact h.goE _
 ·
  exact h
theorem WInv.batchE {e:Engine}(h:WInv e) (hs:SInv e) (b:List Deed):WInv (batchE e b):=by
 unfold Proofs.YtfpkamiobdkcpaaGreatDoor.batchE
 split
 ·
  next hw=>exact h.addE hs hw
 ·
  exact h
theorem WInv.pickGo:∀ {k:Nat}{e:Engine}{p:List Int},WInv e→WInv (pickGo k e p).1
 |0,e,p,h=>h
 |k+1,e,[],h=>h
 |k+1,e,n::p,h=>by
  simp only[Proofs.YtfpkamiobdkcpaaGreatDoor.pickGo]
  exact WInv.pickGo (h.pickE n)
theorem WInv.buildGo:∀ {bs:List (List Deed)}{e:Engine}{p:List Int},WInv e→SInv e→WInv (buildGo e bs p)
 | [],e,p,h,_=>h
 |b::bs,e,p,h,hs=>by
  simp only[Proofs.YtfpkamiobdkcpaaGreatDoor.buildGo]
  exact WInv.buildGo ((h.batchE hs b).pickGo) ((hs.batchE b).pickGo)
theorem bvs_mem {h:Bool}{b:Int}:∀ {l:List Version}{out:Version},bvs h b out l=out∨(h=true∧bvs h b out l∈l∧(bvs h b out l).by_ < b)
 | [],out => .inl rfl
 |v::l,out=>by
  simp only[bvs]
  rcases bvs_mem (h:=h) (b:=b) (l:=l) (out:=if h&&decide (v.by_ < b) then v else out) with e|⟨h1,h2,h3⟩
  ·
   rw[e]
   by_cases hc:(h&&decide (v.by_ < b))=true
   ·
    rw[if_pos hc]
    simp only[Bool.and_eq_true,decide_eq_true_eq]at hc
    exact .inr ⟨hc.1,List.mem_cons_self ..,hc.2⟩
   ·
    rw[if_neg hc];exact .inl rfl
  ·
   exact .inr ⟨h1,List.mem_cons_of_mem _ h2,h3⟩
theorem beforeGo_mem {k:Str}{b:Int}:∀ {l:List Chain}{out:Version},beforeGo k b out l=out∨∃ c∈l,c.key=k∧beforeGo k b out l∈c.vs∧(beforeGo k b out l).by_ < b
 | [],out => .inl rfl
 |c::l,out=>by
  simp only[beforeGo]
  rcases beforeGo_mem (k:=k) (b:=b) (l:=l) (out:=bvs (decide (c.key=k)) b out c.vs) with e|⟨c',h1,h2⟩
  ·
   rw[e]
   rcases bvs_mem (h:=decide (c.key=k)) (b:=b) (l:=c.vs) (out:=out) with e2|⟨h1,h2,h3⟩
   ·
    exact .inl e2
   ·
    exact .inr ⟨c,List.mem_cons_self ..,by simpa using h1,h2,h3⟩
  ·
   exact .inr ⟨c',List.mem_cons_of_mem _ h1,h2⟩
theorem before_mem (l:List Chain) (k:Str) (b:Int):before l k b=noV∨∃ c∈l,c.key=k∧before l k b∈c.vs∧(before l k b).by_ < b:=beforeGo_mem
theorem WInv.nb {e:Engine}(h:WInv e):NB e:=by
 intro at_ k hm
 rcases before_mem e.chains k (e.base+at_) with h1|⟨c,h1,h2,h3,h4⟩
 ·
  rw[h1]at hm;cases hm
 ·
  obtain⟨j,x,h5,_⟩:=h.n c h1 _ h3 hm
  exact⟨by omega,h4⟩
theorem WInv.bh {e:Engine}(h:WInv e) (k:Str) (b:Int):(before e.chains k b).has=false→(before e.chains k b).n=0:=by
 intro hm
 rcases before_mem e.chains k b with h1|⟨c,h1,h2,h3,h4⟩
 ·
  rw[h1];rfl
 ·
  exact h.h c h1 _ h3 hm
theorem keysGo'_mem {k:Str}:∀ {l out:List Str},k∈keysGo' out l↔k∈out∨k∈l
 | [],out=>by simp[keysGo']
 |x::l,out=>by
  simp only[keysGo']
  rw[keysGo'_mem]
  by_cases h:isIn out x=true
  ·
   rw[if_pos h]
   have:=isIn_true h
   constructor
   ·
    rintro (h1|h1)
    ·
     exact .inl h1
    ·
     exact .inr (List.mem_cons_of_mem _ h1)
   ·
    rintro (h1|h1)
    ·
     exact .inl h1
    ·
     rcases List.mem_cons.1 h1 with rfl|h1
     ·
      exact .inl this
     ·
      exact .inr h1
  ·
   rw[if_neg h]
   simp[or_assoc]
theorem goRows_get {cs:List Chain}{b:Int}:∀ {ks:List Str}{r:List Pair},Srt Pair.key r→Srt Pair.key (goRows cs b r ks)∧∀ k,RF.get (goRows cs b r ks) k=if k∈ks∧(before cs k b).has=true then ((before cs k b).n,true) else RF.get r k
 | [],r,h=>⟨h,fun k=>by simp[goRows]⟩
 |x::ks,r,h=>by
  simp only[goRows]
  by_cases hx:(before cs x b).has=true
  ·
   rw[if_pos hx,put_true h]
   obtain⟨h1,h2⟩:=goRows_get (cs:=cs) (b:=b) (ks:=ks) (putS_srt (k:=x) (n:=(before cs x b).n) h)
   refine⟨h1,fun k=>?_⟩
   rw[h2 k,get_put]
   by_cases hk:k∈ks∧(before cs k b).has=true
   ·
    rw[if_pos hk,if_pos ⟨List.mem_cons_of_mem _ hk.1,hk.2⟩]
   ·
    rw[if_neg hk]
    by_cases he:x=k
    ·
     subst he
     rw[if_pos rfl,if_pos ⟨List.mem_cons_self ..,hx⟩]
    ·
     rw[if_neg he,if_neg]
     rintro ⟨h3,h4⟩
     rcases List.mem_cons.1 h3 with h3|h3
     ·
      exact he h3.symm
     ·
      exact hk ⟨h3,h4⟩
  ·
   rw[if_neg hx]
   obtain⟨h1,h2⟩:=goRows_get (cs:=cs) (b:=b) (ks:=ks) h
   refine⟨h1,fun k=>?_⟩
   rw[h2 k]
   by_cases hk:k∈ks∧(before cs k b).has=true
   ·
    rw[if_pos hk,if_pos ⟨List.mem_cons_of_mem _ hk.1,hk.2⟩]
   ·
    rw[if_neg hk,if_neg]
    rintro ⟨h3,h4⟩
    rcases List.mem_cons.1 h3 with h3|h3
    ·
     subst h3;exact hx h4
    ·
     exact hk ⟨h3,h4⟩
theorem pickV_chg {k:Str}{m:Mk}:∀ {ws:List Str}{v:Version},pickV k v (chg m ws)=match mG m k with
  |some c=>if k∈ws then chVer (k,c) else v
  |none=>v
 | [],v=>by
  simp only[chg,pickV]
  split <;> simp
 |x::ws,v=>by
  simp only[chg]
  cases hx:mG m x with
  |none =>
   dsimp only
   rw[pickV_chg]
   cases hk:mG m k with
   |none=>rfl
   |some c =>
    have hne:¬ k=x:=fun e=>by subst e;rw[hx]at hk;cases hk
    dsimp only
    by_cases hw:k∈ws
    ·
     rw[if_pos hw,if_pos (List.mem_cons_of_mem _ hw)]
    ·
     rw[if_neg hw,if_neg (by simp[hne,hw])]
  |some c =>
   simp only[pickV]
   rw[pickV_chg]
   by_cases he:x=k
   ·
    subst he
    rw[hx,if_pos rfl]
    dsimp only
    rw[if_pos (List.mem_cons_self ..)]
    simp
   ·
    rw[if_neg he]
    have hne:¬ k=x:=fun e=>he e.symm
    cases hk:mG m k with
    |none=>rfl
    |some c' =>
     dsimp only
     by_cases hw:k∈ws
     ·
      rw[if_pos hw,if_pos (List.mem_cons_of_mem _ hw)]
     ·
      rw[if_neg hw,if_neg (by simp[hne,hw])]
theorem pgoSets_eq {cs0:List Chain}{b:Int}{ch:List (Str×(Bool×Int))}{R:List Pair}:∀ {ks:List Str}{cs:List Chain},(∀ k∈ks,madeV cs0 b ch k=⟨b,true,(RF.get R k).2,(RF.get R k).1⟩)→pgoSets cs0 b ch cs ks=goSets R b cs ks
 | [],cs,_=>rfl
 |k::ks,cs,h=>by
  simp only[pgoSets,goSets]
  rw[h k (List.mem_cons_self ..)]
  exact pgoSets_eq fun x hx=>h x (List.mem_cons_of_mem _ hx)
theorem pgoNew_eq {e:Engine}(h:WInv e) {A:Nat}{d:Deed}(hd:e.deeds[A]? = some d):pgoNew e A d=goNew e A d:=by
 have hw:=h.d d (List.mem_of_getElem? hd)
 obtain⟨hs0,hget⟩:=goRows_get (cs:=e.chains) (b:=e.base+A) (ks:=keysD d) (r:=[]) List.Pairwise.nil
 have hkd:∀ k,k∈d.reads∨k∈d.writes→RF.get (goRows e.chains (e.base+A) [] (keysD d)) k=viewE e.chains (e.base+A) k:=fun k hk=>by
  have hm:k∈keysD d:=by
   unfold keysD
   rw[keysGo'_mem]
   exact .inr (by simpa using hk)
  rw[hget k]
  unfold viewE
  cases hh:(before e.chains k (e.base+A)).has with
  |true=>rw[if_pos ⟨hm,rfl⟩]
  |false =>
   rw[if_neg (by simp),h.bh k _ hh]
   rfl
 have hrun:runM (viewE e.chains (e.base+A)) d=runM (RF.get (goRows e.chains (e.base+A) [] (keysD d))) d :=
  runGo_congr fun i hi hk=>by rw[hkd i.key (.inl (wrong_reads hw i hi hk))]
 have hrunC:runC (viewE e.chains (e.base+A)) d=runC (RF.get (goRows e.chains (e.base+A) [] (keysD d))) d:=by unfold runC;rw[hrun]
 unfold pgoNew goNew goDone
 rw[hrunC,hrun]
 generalize hr0:goRows e.chains (e.base+A) [] (keysD d)=r0 at hs0 hkd
 have hpl:=plain_do hs0 (wrong_keyed hw)
 rw[← hpl]
 unfold plainD
 dsimp only
 congr 1
 refine pgoSets_eq fun k hk=>?_
 obtain⟨h1,h2,h3⟩:=run_do (r:=r0) (W:=d.writes) (l:=d.code) (sk:=0) (m:=[]) (e:=done0) (now:=r0) ⟨hs0,fun k=>rfl,fun k c h=>by simp[mG]at h,fun k c h=>by simp[mG]at h⟩ rfl (wrong_keyed hw)
 unfold madeV
 have key:(RF.get (appC r0 (runC (RF.get r0) d)) k).2=(pickV k (before e.chains k (e.base+A)) (runC (RF.get r0) d)).has∧(RF.get (appC r0 (runC (RF.get r0) d)) k).1=(pickV k (before e.chains k (e.base+A)) (runC (RF.get r0) d)).n:=by
  unfold runC
  by_cases hf:(runM (RF.get r0) d).2.failed=true
  ·
   rw[if_pos hf]
   simp only[appC,pickV]
   rw[hkd k (.inr hk)]
   exact⟨rfl,rfl⟩
  ·
   rw[if_neg hf,appC_get hs0,if_pos hk,pickV_chg]
   have hf':(doGo r0 0 r0 done0 d.code).2.failed=false:=by rw[← h1];exact Bool.eq_false_iff.2 hf
   have hmi:=h3 hf'
   unfold chAt
   have hmm:(runM (RF.get r0) d).1=(runGo (RF.get r0) 0 [] done0 d.code).1:=rfl
   cases hm:mG (runM (RF.get r0) d).1 k with
   |none =>
    dsimp only
    rw[hkd k (.inr hk)]
    exact⟨rfl,rfl⟩
   |some c =>
    dsimp only
    rw[if_pos hk]
    unfold chOf chVer
    by_cases hc:c.1=true
    ·
     rw[if_pos hc]
     exact⟨hc.symm,rfl⟩
    ·
     rw[if_neg hc]
     have hc':c.1=false:=Bool.eq_false_iff.2 hc
     exact⟨hc'.symm,(hmi.f k c (by rw[← hmm];exact hm) hc').symm⟩
 rw[key.1,key.2]
theorem do_get {r:List Pair}{d:Deed}(hs:Srt Pair.key r) (hw:wrongDeed d=0) (k:Str) :
  RF.get (doD r d).1 k=if (runM (RF.get r) d).2.failed=true then RF.get r k else if k∈d.writes then chAt r (runM (RF.get r) d).1 k else RF.get r k:=by
 rw[← plain_do hs (wrong_keyed hw)]
 unfold plainD runC
 dsimp only
 by_cases hf:(runM (RF.get r) d).2.failed=true
 ·
  rw[if_pos hf,if_pos hf];rfl
 ·
  rw[if_neg hf,if_neg hf,appC_get hs]
theorem do_end {r:List Pair}{d:Deed}(hs:Srt Pair.key r) (hw:wrongDeed d=0):(doD r d).2=(runM (RF.get r) d).2:=by
 rw[← plain_do hs (wrong_keyed hw)];rfl
theorem do_same {r:List Pair}{d:Deed}(hs:Srt Pair.key r) (hw:wrongDeed d=0) {k:Str}(hk:k∉d.writes):RF.get (doD r d).1 k=RF.get r k:=by
 rw[do_get hs hw,if_neg hk,ite_self]
theorem setV_by (h:Bool) (v w:Version):(setV h v w).by_=w.by_:=by
 unfold setV
 split
 ·
  next hh=>exact hh.2.symm
 ·
  rfl
theorem bvs_map {h hit:Bool}{x:Int}{v:Version}:∀ {l:List Version}{out:Version},bvs h x (setV hit v out) (l.map (setV hit v))=setV hit v (bvs h x out l)
 | [],out=>rfl
 |w::l,out=>by
  simp only[List.map_cons,bvs,setV_by]
  have e:(if (h&&decide (w.by_ < x))=true then setV hit v w else setV hit v out)=setV hit v (if (h&&decide (w.by_ < x))=true then w else out):=by split <;> rfl
  rw[e]
  exact bvs_map
theorem beforeGo_set {k:Str}{x:Int}{v:Version}:∀ {l:List Chain}{out:Version},beforeGo k x (setV true v out) (setChains l k v)=setV true v (beforeGo k x out l)
 | [],out=>rfl
 |c::l,out=>by
  simp only[setChains,List.map_cons,beforeGo,setC]
  by_cases hk:c.key=k
  ·
   rw[decide_eq_true hk,bvs_map]
   exact beforeGo_set (l:=l)
  ·
   rw[decide_eq_false hk,bvs_false,bvs_false]
   exact beforeGo_set (l:=l)
theorem beforeGo_set_ne {k k':Str}{x:Int}{v:Version}(hne:k≠k'):∀ {l:List Chain}{out:Version},beforeGo k x out (setChains l k' v)=beforeGo k x out l
 | [],out=>rfl
 |c::l,out=>by
  simp only[setChains,List.map_cons,beforeGo,setC]
  by_cases hk:c.key=k
  ·
   have hk':¬ c.key=k':=fun e=>hne (hk.symm.trans e)
   have hid:c.vs.map (setV (decide (c.key=k')) v)=c.vs:=by
    rw[decide_eq_false hk']
    exact(List.map_congr_left fun w _=>show setV false v w=w by unfold setV;simp).trans (List.map_id _)
   rw[hid]
   exact beforeGo_set_ne hne (l:=l)
  ·
   rw[decide_eq_false hk,bvs_false,bvs_false]
   exact beforeGo_set_ne hne (l:=l)
theorem before_setG {l:List Chain}{k k':Str}{x:Int}{v:Version}(hv:v.by_ ≠ -1):before (setChains l k' v) k x=if k'=k then setV true v (before l k x) else before l k x:=by
 unfold before
 by_cases h:k'=k
 ·
  subst h
  rw[if_pos rfl,← beforeGo_set]
  congr 1
  unfold setV
  rw[if_neg (fun e=>hv e.2.symm)]
 ·
  rw[if_neg h]
  exact beforeGo_set_ne (fun e=>h e.symm)
def doneV (r:List Pair) (b:Int) (k:Str):Version:=⟨b,true,(RF.get r k).2,(RF.get r k).1⟩
theorem before_goSets {r:List Pair}{b:Int}(hb:b ≠ -1) {k:Str}{x:Int}:∀ {ks:List Str}{l:List Chain},before (goSets r b l ks) k x=if k∈ks∧(before l k x).by_=b then doneV r b k else before l k x
 | [],l=>by simp[goSets]
 |k'::ks,l=>by
  simp only[goSets]
  rw[before_goSets hb,before_setG hb]
  by_cases h:k'=k
  ·
   subst h
   rw[if_pos rfl,setV_by]
   by_cases hx:(before l k' x).by_=b
   ·
    have e:setV true (⟨b,true,(RF.get r k').2,(RF.get r k').1⟩:Version) (before l k' x)=doneV r b k':=by unfold setV;rw[if_pos ⟨rfl,hx⟩];rfl
    rw[e,ite_self,if_pos ⟨List.mem_cons_self ..,hx⟩]
   ·
    rw[if_neg (fun e=>hx e.2),if_neg (fun e=>hx e.2)]
    unfold setV
    rw[if_neg (fun e=>hx e.2)]
  ·
   rw[if_neg h]
   by_cases hk:k∈ks∧(before l k x).by_=b
   ·
    rw[if_pos hk,if_pos ⟨List.mem_cons_of_mem _ hk.1,hk.2⟩]
   ·
    rw[if_neg hk,if_neg]
    rintro ⟨h1,h2⟩
    rcases List.mem_cons.1 h1 with h1|h1
    ·
     exact h h1.symm
    ·
     exact hk ⟨h1,h2⟩
def sq (r:List Pair) (l:List Deed) (i:Nat):List Pair:=(allD r (l.take i)).1
theorem allD_snoc:∀ {l:List Deed}{r:List Pair}{d:Deed},allD r (l++[d])=((doD (allD r l).1 d).1,(allD r l).2++[(doD (allD r l).1 d).2])
 | [],r,d=>rfl
 |x::l,r,d=>by simp only[List.cons_append,allD];rw[allD_snoc]
theorem sq_succ {r:List Pair}{l:List Deed}{i:Nat}{d:Deed}(h:l[i]? = some d):sq r l (i+1)=(doD (sq r l i) d).1:=by
 unfold sq
 rw[List.take_add_one,h]
 show(allD r (l.take i++[d])).1=_
 rw[allD_snoc]
theorem sq_srt {r:List Pair}{l:List Deed}(hs:Srt Pair.key r) (hw:∀ d∈l,wrongDeed d=0):∀ (i:Nat),Srt Pair.key (sq r l i)
 |0=>hs
 |i+1=>by
  cases h:l[i]? with
  |none =>
   have hle:=List.getElem?_eq_none_iff.1 h
   have:sq r l (i+1)=sq r l i:=by unfold sq;rw[List.take_of_length_le (by omega),List.take_of_length_le hle]
   rw[this];exact sq_srt hs hw i
  |some d =>
   rw[sq_succ h]
   exact doD_srt (sq_srt hs hw i) (wrong_keyed (hw d (List.mem_of_getElem? h)))
theorem sq_append {r:List Pair}{l m:List Deed}{i:Nat}(h:i≤l.length):sq r (l++m) i=sq r l i:=by
 unfold sq;rw[List.take_append_of_le_length h]
structure QInv (e:Engine) (r:List Pair):Prop where
 s:Srt Pair.key r
 z:∀ k,(before e.chains k e.base).made=true
 m:∀ (k:Str) (i:Nat),i≤e.deeds.length→(before e.chains k (e.base+i)).made=true→RF.get (sq r e.deeds i) k=((before e.chains k (e.base+i)).n,(before e.chains k (e.base+i)).has)
 p:∀ (k:Str) (i:Nat) (d:Deed),e.deeds[i]? = some d→k∈d.writes→(before e.chains k (e.base+(i+1:Nat))).by_=e.base+i∧(e.state[i]? = some 1→(before e.chains k (e.base+(i+1:Nat))).made=true)
 q:∀ (k:Str) (i:Nat) (d:Deed),e.deeds[i]? = some d→k∉d.writes→before e.chains k (e.base+(i+1:Nat))=before e.chains k (e.base+i)
 w:∀ (i:Nat) (d:Deed),e.deeds[i]? = some d→e.state[i]? = some 1→e.ends[i]? = some (doD (sq r e.deeds i) d).2
 b:0≤e.base
theorem newE_q {r:List Pair}(hs:Srt Pair.key r):QInv (newE r) r:=by
 have hv:∀ k x,-1 < x→((∃ p∈r,p.key=k∧before (r.map rowChain) k x=⟨-1,true,true,p.n⟩)∨((∀ p∈r,p.key≠k)∧before (r.map rowChain) k x=noV)):=fun k x hx=>by
  by_cases h:∃ p∈r,p.key=k
  ·
   obtain⟨p,hp,rfl⟩:=h
   exact .inl ⟨p,hp,rfl,before_row hs hp hx⟩
  ·
   have hn:∀ p∈r,p.key≠k:=fun p hp he=>h ⟨p,hp,he⟩
   refine .inr ⟨hn,beforeGo_none fun c hc=>?_⟩
   obtain⟨p,hp,rfl⟩:=List.mem_map.1 hc
   exact hn p hp
 refine⟨hs,fun k=>?_,fun k i hi hm=>?_,fun k i d h=>by simp[newE]at h,fun k i d h=>by simp[newE]at h,fun i d h=>by simp[newE]at h,by simp[newE]⟩
 ·
  rcases hv k 0 (by omega) with ⟨p,_,_,h⟩|⟨_,h⟩
  ·
   show(before (r.map rowChain) k 0).made=true
   rw[h]
  ·
   show(before (r.map rowChain) k 0).made=true
   rw[h];rfl
 ·
  have hi0:i=0:=by simpa[newE] using hi
  subst hi0
  show RF.get r k=((before (r.map rowChain) k (0+((0:Nat):Int))).n,(before (r.map rowChain) k (0+((0:Nat):Int))).has)
  rcases hv k (0+((0:Nat):Int)) (by omega) with ⟨p,hp,rfl,h⟩|⟨hn,h⟩
  ·
   rw[h,get_of_mem hs hp]
  ·
   rw[h,get_absent hn];rfl
theorem addKeys_le {k:Str}{b x:Int}(hx:x≤b):∀ {ks:List Str}{l:List Chain},Srt Chain.key l→before (addKeys b l ks) k x=before l k x
 | [],l,_=>rfl
 |k'::ks,l,hs=>by
  simp only[addKeys]
  rw[addC_srt hs,addKeys_le hx (addS_srt hs)]
  exact before_addS fun _=>hx
theorem addKeys_out {k:Str}{b x:Int}:∀ {ks:List Str}{l:List Chain},Srt Chain.key l→k∉ks→before (addKeys b l ks) k x=before l k x
 | [],l,_,_=>rfl
 |k'::ks,l,hs,hk=>by
  simp only[addKeys]
  rw[addC_srt hs,addKeys_out (addS_srt hs) (fun h=>hk (List.mem_cons_of_mem _ h))]
  exact before_addS fun e=>absurd (List.mem_cons.2 (.inl e)) hk
theorem addKeys_in {k:Str}{b x:Int}(hx:b < x):∀ {ks:List Str}{l:List Chain},Srt Chain.key l→ks.Nodup→k∈ks→before (addKeys b l ks) k x=newV b
 | [],l,_,_,hk=>by simp at hk
 |k'::ks,l,hs,hn,hk=>by
  obtain⟨hn1,hn2⟩:=List.nodup_cons.1 hn
  simp only[addKeys]
  rw[addC_srt hs]
  by_cases h:k=k'
  ·
   subst h
   rw[addKeys_out (addS_srt hs) hn1]
   exact behind_add hx hs
  ·
   exact addKeys_in hx (addS_srt hs) hn2 (by
    rcases List.mem_cons.1 hk with e|e
    ·
     exact absurd e h
    ·
     exact e)
theorem bvs_top {h:Bool}{x y B:Int}(hx:B≤x) (hy:B≤y):∀ {l:List Version}{out:Version},(∀ v∈l,v.by_ < B)→bvs h x out l=bvs h y out l
 | [],out,_=>rfl
 |v::l,out,hl=>by
  have hv:=hl v (List.mem_cons_self ..)
  simp only[bvs]
  rw[decide_eq_true (show v.by_ < x by omega),decide_eq_true (show v.by_ < y by omega)]
  exact bvs_top hx hy fun w hw=>hl w (List.mem_cons_of_mem _ hw)
theorem before_top {x y B:Int}{k:Str}(hx:B≤x) (hy:B≤y):∀ {l:List Chain}{out:Version},(∀ c∈l,∀ v∈c.vs,v.by_ < B)→beforeGo k x out l=beforeGo k y out l
 | [],out,_=>rfl
 |c::l,out,hl=>by
  simp only[beforeGo]
  rw[bvs_top hx hy (hl c (List.mem_cons_self ..))]
  exact before_top hx hy fun d hd=>hl d (List.mem_cons_of_mem _ hd)
theorem QInv.add1 {e:Engine}{r:List Pair}(h:QInv e r) (hS:SInv e) (hW:WInv e) (hn:e.ends.length=e.deeds.length) {d:Deed}(hd:wrongDeed d=0):QInv (RF.add1 e d) r:=by
 have hnd:=(wrong_keys hd).2
 have hle:∀ k (i:Nat),i≤e.deeds.length→before (RF.add1 e d).chains k (e.base+i)=before e.chains k (e.base+i):=fun k i hi=>addKeys_le (by omega) hS.k
 have hlt:∀ (i:Nat) (x:Deed),(RF.add1 e d).deeds[i]? = some x→(i < e.deeds.length∧e.deeds[i]? = some x)∨(i=e.deeds.length∧x=d):=fun i x hx=>by
  have hx':(e.deeds++[d])[i]? = some x:=hx
  rcases Nat.lt_or_ge i e.deeds.length with hi|hi
  ·
   rw[List.getElem?_append_left hi]at hx'
   exact .inl ⟨hi,hx'⟩
  ·
   rw[List.getElem?_append_right hi]at hx'
   have h0:i - e.deeds.length=0:=by
    have:=(List.getElem?_eq_some_iff.1 hx').1
    simpa using this
   rw[h0]at hx'
   exact .inr ⟨by omega,by simpa using hx'.symm⟩
 have hsqe:∀ i,i≤e.deeds.length→sq r (e.deeds++[d]) i=sq r e.deeds i:=fun i hi=>sq_append hi
 have hst:∀ i,i < e.deeds.length→(e.state++[0])[i]? = e.state[i]? := fun i hi=>List.getElem?_append_left (by rw[hW.l];exact hi)
 have hst1:(e.state++[0])[e.deeds.length]? ≠ some 1:=by rw[← hW.l];simp
 have htop:∀ k,before e.chains k (e.base+(e.deeds.length+1:Nat))=before e.chains k (e.base+e.deeds.length):=fun k=>before_top (B:=e.base+e.deeds.length) (by omega) (by omega) hS.b
 refine⟨h.s,fun k=>?_,fun k i hi hm=>?_,fun k i x hx hk=>?_,fun k i x hx hk=>?_,fun i x hx h1=>?_,h.b⟩
 ·
  have:=hle k 0 (by omega)
  simp only[Int.natCast_zero,Int.add_zero]at this
  show(before (RF.add1 e d).chains k e.base).made=true
  rw[this];exact h.z k
 ·
  have hi':i≤e.deeds.length+1:=by simpa[RF.add1] using hi
  show RF.get (sq r (e.deeds++[d]) i) k=((before (RF.add1 e d).chains k (e.base+i)).n,(before (RF.add1 e d).chains k (e.base+i)).has)
  have hm':(before (RF.add1 e d).chains k (e.base+i)).made=true:=hm
  by_cases hil:i≤e.deeds.length
  ·
   rw[hle k i hil]at hm' ⊢
   rw[hsqe i hil]
   exact h.m k i hil hm'
  ·
   obtain rfl:i=e.deeds.length+1:=by omega
   by_cases hkw:k∈d.writes
   ·
    have:before (RF.add1 e d).chains k (e.base+(e.deeds.length+1:Nat))=newV (e.base+e.deeds.length):=addKeys_in (by omega) hS.k hnd hkw
    rw[this]at hm';cases hm'
   ·
    have hb:before (RF.add1 e d).chains k (e.base+(e.deeds.length+1:Nat))=before e.chains k (e.base+(e.deeds.length+1:Nat)):=addKeys_out hS.k hkw
    rw[hb,htop]at hm' ⊢
    have hg:(e.deeds++[d])[e.deeds.length]? = some d:=by simp
    rw[sq_succ hg,do_same (sq_srt h.s (fun x hx=>by
     rcases List.mem_append.1 hx with hx|hx
     ·
      exact hW.d x hx
     ·
      simp at hx;subst hx;exact hd) _) hd hkw,hsqe _ (Nat.le_refl _)]
    exact h.m k _ (Nat.le_refl _) hm'
 ·
  rcases hlt i x hx with ⟨hi,hx'⟩|⟨rfl,rfl⟩
  ·
   have:=h.p k i x hx' hk
   show(before (RF.add1 e d).chains k (e.base+(i+1:Nat))).by_=e.base+i∧((e.state++[0])[i]? = some 1→(before (RF.add1 e d).chains k (e.base+(i+1:Nat))).made=true)
   rw[hle k (i+1) (by omega),hst i hi]
   exact this
  ·
   have hb:before (RF.add1 e x).chains k (e.base+(e.deeds.length+1:Nat))=newV (e.base+e.deeds.length):=addKeys_in (by omega) hS.k hnd hk
   refine⟨by show(before (RF.add1 e x).chains k (e.base+(e.deeds.length+1:Nat))).by_=_;rw[hb];rfl,fun h1=>absurd h1 hst1⟩
 ·
  rcases hlt i x hx with ⟨hi,hx'⟩|⟨rfl,rfl⟩
  ·
   show before (RF.add1 e d).chains k (e.base+(i+1:Nat))=before (RF.add1 e d).chains k (e.base+i)
   rw[hle k (i+1) (by omega),hle k i (by omega)]
   exact h.q k i x hx' hk
  ·
   show before (RF.add1 e x).chains k (e.base+(e.deeds.length+1:Nat))=before (RF.add1 e x).chains k (e.base+e.deeds.length)
   have h1:before (RF.add1 e x).chains k (e.base+(e.deeds.length+1:Nat))=before e.chains k (e.base+(e.deeds.length+1:Nat)):=addKeys_out hS.k hk
   rw[h1,hle k _ (Nat.le_refl _),htop]
 ·
  rcases hlt i x hx with ⟨hi,hx'⟩|⟨rfl,rfl⟩
  ·
   show(e.ends++[done0])[i]? = some (doD (sq r (e.deeds++[d]) i) x).2
   have h1':(e.state++[0])[i]? = some 1:=h1
   rw[hst i hi]at h1'
   rw[List.getElem?_append_left (by rw[hn];exact hi),hsqe i (by omega)]
   exact h.w i x hx' h1'
  ·
   exact absurd h1 hst1
theorem before_lt {l:List Chain}{k:Str}{b:Int}(h:(before l k b).by_ ≠ -1):(before l k b).by_ < b:=by
 rcases before_mem l k b with e|⟨c,_,_,_,h4⟩
 ·
  rw[e]at h;exact absurd rfl h
 ·
  exact h4
theorem QInv.stay {e:Engine}{r:List Pair}(h:QInv e r) (hW:WInv e) (k:Str) (A:Nat):∀ (i:Nat),A < i→i≤e.deeds.length→(before e.chains k (e.base+i)).by_=e.base+A→RF.get (sq r e.deeds i) k=RF.get (sq r e.deeds (A+1)) k
 |0,hA,_,_=>by omega
 |i+1,hA,hi,hb=>by
  by_cases he:i=A
  ·
   subst he;rfl
  ·
   obtain⟨d,hd⟩:∃ d,e.deeds[i]? = some d:=⟨e.deeds[i]'(by omega),List.getElem?_eq_getElem (by omega)⟩
   by_cases hk:k∈d.writes
   ·
    have:=(h.p k i d hd hk).1
    rw[hb]at this
    omega
   ·
    rw[h.q k i d hd hk]at hb
    rw[sq_succ hd,do_same (sq_srt h.s hW.d i) (hW.d d (List.mem_of_getElem? hd)) hk]
    exact h.stay hW k A i (by omega) (by omega) hb
theorem needs_made {e:Engine}(hW:WInv e) {A:Nat}{d:Deed}(hne:needs e A d=[]):∀ k∈keysD d,(before e.chains k (e.base+A)).made=true:=by
 intro k hk
 cases hm:(before e.chains k (e.base+A)).made with
 |true=>rfl
 |false =>
  obtain⟨h1,h2⟩:=hW.nb A k hm
  have:((before e.chains k (e.base+A)).by_ - e.base)∈needs e A d:=by
   unfold needs
   rw[needsGo_mem]
   exact⟨((before e.chains k (e.base+A)).by_ - e.base).toNat,List.mem_range.2 (by omega),by omega,anyHit_iff.2 ⟨k,hk,hm,by omega⟩⟩
  rw[hne]at this
  simp at this
theorem go_done {e:Engine}{r:List Pair}(h:QInv e r) (hW:WInv e) {A:Nat}{d:Deed}(hd:e.deeds[A]? = some d) (hne:needs e A d=[]) :
  (goDone e A d).2=(doD (sq r e.deeds A) d).2∧∀ k∈d.writes,RF.get (goDone e A d).1 k=RF.get (sq r e.deeds (A+1)) k:=by
 have hA:=(List.getElem?_eq_some_iff.1 hd).1
 have hw:=hW.d d (List.mem_of_getElem? hd)
 have hmade:=needs_made hW hne
 obtain⟨hs0,hget⟩:=goRows_get (cs:=e.chains) (b:=e.base+A) (ks:=keysD d) (r:=[]) List.Pairwise.nil
 have hsq:=sq_srt h.s hW.d A
 have hsame:∀ k,k∈d.reads∨k∈d.writes→RF.get (goRows e.chains (e.base+A) [] (keysD d)) k=RF.get (sq r e.deeds A) k:=fun k hk=>by
  have hm:k∈keysD d:=by
   unfold keysD
   rw[keysGo'_mem]
   exact .inr (by simpa using hk)
  rw[h.m k A (by omega) (hmade k hm),hget k]
  cases hh:(before e.chains k (e.base+A)).has with
  |true=>rw[if_pos ⟨hm,rfl⟩]
  |false =>
   rw[if_neg (by simp),hW.bh k _ hh]
   rfl
 have hrun:runM (RF.get (goRows e.chains (e.base+A) [] (keysD d))) d=runM (RF.get (sq r e.deeds A)) d :=
  runGo_congr fun i hi hk=>by rw[hsame i.key (.inl (wrong_reads hw i hi hk))]
 unfold goDone
 refine⟨by rw[do_end hs0 hw,do_end hsq hw,hrun],fun k hk=>?_⟩
 rw[sq_succ hd,do_get hs0 hw,do_get hsq hw,hrun,hsame k (.inr hk)]
 unfold chAt
 rw[hsame k (.inr hk)]
theorem QInv.goNew {e:Engine}{r:List Pair}(h:QInv e r) (hW:WInv e) (hn:e.ends.length=e.deeds.length) {A:Nat}{d:Deed}(hd:e.deeds[A]? = some d) (hne:needs e A d=[]):QInv (Proofs.YtfpkamiobdkcpaaGreatDoor.goNew e A d) r:=by
 have hA:=(List.getElem?_eq_some_iff.1 hd).1
 obtain⟨hg1,hg2⟩:=go_done h hW hd hne
 have hb:=h.b
 have hbf:∀ k x,before (Proofs.YtfpkamiobdkcpaaGreatDoor.goNew e A d).chains k x=if k∈d.writes∧(before e.chains k x).by_=e.base+A then doneV (goDone e A d).1 (e.base+A) k else before e.chains k x:=fun k x=>before_goSets (by omega)
 refine⟨h.s,fun k=>?_,fun k i hi hm=>?_,fun k i x hx hk=>?_,fun k i x hx hk=>?_,fun i x hx h1=>?_,h.b⟩
 ·
  show(before (Proofs.YtfpkamiobdkcpaaGreatDoor.goNew e A d).chains k e.base).made=true
  rw[hbf]
  split
  ·
   rfl
  ·
   exact h.z k
 ·
  have hi':i≤e.deeds.length:=hi
  show RF.get (sq r e.deeds i) k=((before (Proofs.YtfpkamiobdkcpaaGreatDoor.goNew e A d).chains k (e.base+i)).n,(before (Proofs.YtfpkamiobdkcpaaGreatDoor.goNew e A d).chains k (e.base+i)).has)
  have hm':(before (Proofs.YtfpkamiobdkcpaaGreatDoor.goNew e A d).chains k (e.base+i)).made=true:=hm
  rw[hbf]at hm' ⊢
  by_cases hc:k∈d.writes∧(before e.chains k (e.base+i)).by_=e.base+A
  ·
   rw[if_pos hc]
   have hlt:=before_lt (l:=e.chains) (k:=k) (b:=e.base+i) (by rw[hc.2];omega)
   rw[hc.2]at hlt
   rw[h.stay hW k A i (by omega) hi' hc.2,← hg2 k hc.1]
   rfl
  ·
   rw[if_neg hc]at hm' ⊢
   exact h.m k i hi' hm'
 ·
  have hx':e.deeds[i]? = some x:=hx
  have hp:=h.p k i x hx' hk
  show(before (Proofs.YtfpkamiobdkcpaaGreatDoor.goNew e A d).chains k (e.base+(i+1:Nat))).by_=e.base+i∧((e.state.set A 1)[i]? = some 1→(before (Proofs.YtfpkamiobdkcpaaGreatDoor.goNew e A d).chains k (e.base+(i+1:Nat))).made=true)
  rw[hbf]
  by_cases hc:k∈d.writes∧(before e.chains k (e.base+(i+1:Nat))).by_=e.base+A
  ·
   rw[if_pos hc]
   refine⟨?_,fun _=>rfl⟩
   show e.base+A=e.base+i
   rw[← hc.2];exact hp.1
  ·
   rw[if_neg hc]
   refine⟨hp.1,fun h1=>?_⟩
   by_cases he:i=A
   ·
    subst he
    rw[hd]at hx'
    cases hx'
    exact absurd ⟨hk,hp.1⟩ hc
   ·
    rw[List.getElem?_set_ne (fun e=>he e.symm)]at h1
    exact hp.2 h1
 ·
  have hx':e.deeds[i]? = some x:=hx
  show before (Proofs.YtfpkamiobdkcpaaGreatDoor.goNew e A d).chains k (e.base+(i+1:Nat))=before (Proofs.YtfpkamiobdkcpaaGreatDoor.goNew e A d).chains k (e.base+i)
  rw[hbf,hbf,h.q k i x hx' hk]
 ·
  have hx':e.deeds[i]? = some x:=hx
  show(e.ends.set A (goDone e A d).2)[i]? = some (doD (sq r e.deeds i) x).2
  have h1':(e.state.set A 1)[i]? = some 1:=h1
  by_cases he:i=A
  ·
   subst he
   rw[hd]at hx'
   cases hx'
   rw[List.getElem?_set_self (by omega),hg1]
  ·
   rw[List.getElem?_set_ne (fun e=>he e.symm)]at h1' ⊢
   exact h.w i x hx' h1'
theorem sq_drop {r:List Pair}{l:List Deed}{m:Nat}:∀ (i:Nat),m+i≤l.length→sq (sq r l m) (l.drop m) i=sq r l (m+i)
 |0,_=>rfl
 |i+1,h=>by
  obtain⟨d,hd⟩:∃ d,l[m+i]? = some d:=⟨l[m+i]'(by omega),List.getElem?_eq_getElem (by omega)⟩
  have hd':(l.drop m)[i]? = some d:=by rw[List.getElem?_drop];exact hd
  rw[sq_succ hd',sq_drop i (by omega),← Nat.add_assoc,sq_succ hd]
theorem clrV_keep {b:Int}{w:Version}:∀ {l:List Version},w∈clrV b l→¬ (w.by_ < b∧w.made=true∧w.has=false)
 | [],h=>by simp[clrV]at h
 |v::l,h=>by
  simp only[clrV]at h
  split at h
  ·
   exact clrV_keep h
  ·
   next ho =>
   rcases List.mem_cons.1 h with rfl|h
   ·
    rintro ⟨h1,h2,h3⟩
    exact ho (by simp[old,h1,h2,h3])
   ·
    exact clrV_keep h
theorem before_clear {l:List Chain}(hs:Srt Chain.key l) (hv:∀ c∈l,VSrt c.vs) {b x:Int}(hx:b≤x) (k:Str) :
  before (clear b l) k x=if (before l k x).by_ < b∧(before l k x).made=true∧(before l k x).has=false then noV else before l k x:=by
 have h:=seen_clear2 (k:=k) (out:=noV) hx hs hv
 by_cases hc:(before l k x).by_ < b∧(before l k x).made=true∧(before l k x).has=false
 ·
  rw[if_pos hc]
  rcases h with h|h
  ·
   have h':before (clear b l) k x=before l k x:=h
   rcases before_mem (clear b l) k x with h1|⟨c,h1,h2,h3,h4⟩
   ·
    exact h1
   ·
    obtain⟨c0,h5,rfl⟩:=clear_mem h1
    rw[h']at h3
    exact absurd hc (clrV_keep h3)
  ·
   exact h.2.2.1
 ·
  rw[if_neg hc]
  rcases h with h|h
  ·
   exact h
  ·
   exact absurd ⟨h.2.2.2,h.1,h.2.1⟩ hc
theorem QInv.clearE {e:Engine}{r:List Pair}(h:QInv e r) (hS:SInv e) (hW:WInv e):QInv (clearE e) (sq r e.deeds (markN e.state)):=by
 have hml:markN e.state≤e.deeds.length:=by rw[← hW.l];exact markN_le e.state
 have hb:=h.b
 obtain⟨M,hM⟩:∃ M,markN e.state=M:=⟨_,rfl⟩
 have hform:∀ k x,e.base+M≤x→before (clear (e.base+M) e.chains) k x=if (before e.chains k x).by_ < e.base+M∧(before e.chains k x).made=true∧(before e.chains k x).has=false then noV else before e.chains k x:=fun k x hx=>before_clear hS.k hS.v hx k
 unfold RF.clearE
 rw[hM]at hml ⊢
 have hmade:∀ k,(before e.chains k (e.base+M)).made=true:=fun k=>by
  cases hm:(before e.chains k (e.base+M)).made with
  |true=>rfl
  |false =>
   rcases before_mem e.chains k (e.base+M) with h1|⟨c,h1,h2,h3,h4⟩
   ·
    rw[h1]at hm;cases hm
   ·
    obtain⟨j,x,h5,h6,_⟩:=hW.n c h1 _ h3 hm
    have:j < markN e.state:=by omega
    have:=markN_one this
    rw[h6]at this;cases this
 refine⟨sq_srt h.s hW.d M,fun k=>?_,fun k i hi hm=>?_,fun k i x hx hk=>?_,fun k i x hx hk=>?_,fun i x hx h1=>?_,by show 0≤e.base+(M:Int);omega⟩
 ·
  show(before (clear (e.base+M) e.chains) k (e.base+M)).made=true
  rw[hform k _ (Int.le_refl _)]
  split
  ·
   rfl
  ·
   exact hmade k
 ·
  have hi':i≤e.deeds.length - M:=by simpa using hi
  show RF.get (sq (sq r e.deeds M) (e.deeds.drop M) i) k=((before (clear (e.base+M) e.chains) k (e.base+M+i)).n,(before (clear (e.base+M) e.chains) k (e.base+M+i)).has)
  have hm':(before (clear (e.base+M) e.chains) k (e.base+M+i)).made=true:=hm
  have hx:e.base+(M:Int)+(i:Int)=e.base+((M+i:Nat):Int):=by omega
  rw[sq_drop i (by omega)]
  rw[hx]at hm' ⊢
  rw[hform k _ (by omega)]at hm' ⊢
  by_cases hc:(before e.chains k (e.base+((M+i:Nat):Int))).by_ < e.base+M∧(before e.chains k (e.base+((M+i:Nat):Int))).made=true∧(before e.chains k (e.base+((M+i:Nat):Int))).has=false
  ·
   rw[if_pos hc,h.m k (M+i) (by omega) hc.2.1,hc.2.2,hW.bh k _ hc.2.2]
   rfl
  ·
   rw[if_neg hc]at hm' ⊢
   exact h.m k (M+i) (by omega) hm'
 ·
  have hx':e.deeds[M+i]? = some x:=by
   have:(e.deeds.drop M)[i]? = some x:=hx
   rwa [List.getElem?_drop]at this
  obtain⟨h1,h2⟩:=h.p k (M+i) x hx' hk
  show(before (clear (e.base+M) e.chains) k (e.base+M+(i+1:Nat))).by_=e.base+M+i∧((e.state.drop M)[i]? = some 1→(before (clear (e.base+M) e.chains) k (e.base+M+(i+1:Nat))).made=true)
  have hxx:e.base+(M:Int)+((i+1:Nat):Int)=e.base+((M+i+1:Nat):Int):=by omega
  rw[hxx,List.getElem?_drop]
  rw[hform k _ (by omega),if_neg (by rw[h1];omega)]
  exact⟨by rw[h1];omega,h2⟩
 ·
  have hx':e.deeds[M+i]? = some x:=by
   have:(e.deeds.drop M)[i]? = some x:=hx
   rwa [List.getElem?_drop]at this
  have hq:=h.q k (M+i) x hx' hk
  show before (clear (e.base+M) e.chains) k (e.base+M+(i+1:Nat))=before (clear (e.base+M) e.chains) k (e.base+M+i)
  have hxx:e.base+(M:Int)+((i+1:Nat):Int)=e.base+((M+i+1:Nat):Int):=by omega
  have hxy:e.base+(M:Int)+(i:Int)=e.base+((M+i:Nat):Int):=by omega
  rw[hxx,hxy]
  rw[hform k _ (by omega),hform k _ (by omega),hq]
 ·
  have hx':e.deeds[M+i]? = some x:=by
   have:(e.deeds.drop M)[i]? = some x:=hx
   rwa [List.getElem?_drop]at this
  have h1':(e.state.drop M)[i]? = some 1:=h1
  rw[List.getElem?_drop]at h1'
  show(e.ends.drop M)[i]? = some (doD (sq (sq r e.deeds M) (e.deeds.drop M) i) x).2
  have hlt:=(List.getElem?_eq_some_iff.1 hx').1
  rw[List.getElem?_drop,sq_drop i (by omega)]
  exact h.w (M+i) x hx' h1'
structure BInv (e:Engine) (r:List Pair):Prop where
 S:SInv e
 W:WInv e
 Q:QInv e r
 n:e.ends.length=e.deeds.length
 t:∀ s∈e.state,s=0∨s=1
 u:∀ (k:Str) (i:Nat) (d:Deed),e.deeds[i]? = some d→k∈d.writes→e.state[i]? = some 0→(before e.chains k (e.base+(i+1:Nat))).made=false
theorem newE_b {r:List Pair}(h:wrongRows r=0):BInv (newE r) r :=
 ⟨newE_srt (wrongRows_srt h).1,newE_w r,newE_q (wrongRows_srt h).1,rfl,by simp[newE],fun k i d h=>by simp[newE]at h⟩
theorem BInv.add1 {e:Engine}{r:List Pair}(h:BInv e r) {d:Deed}(hd:wrongDeed d=0):BInv (RF.add1 e d) r:=by
 refine⟨h.S.add1 (wrong_keys hd).2,h.W.add1 h.S hd,h.Q.add1 h.S h.W h.n hd,by simp[RF.add1,h.n],fun s hs=>?_,fun k i x hx hk h0=>?_⟩
 ·
  rcases List.mem_append.1 (show s∈e.state++[0] from hs) with hs|hs
  ·
   exact h.t s hs
  ·
   simp at hs;exact .inl hs
 ·
  have hx':(e.deeds++[d])[i]? = some x:=hx
  show(before (addKeys (e.base+e.deeds.length) e.chains d.writes) k (e.base+(i+1:Nat))).made=false
  rcases Nat.lt_or_ge i e.deeds.length with hi|hi
  ·
   rw[List.getElem?_append_left hi]at hx'
   have h0':(e.state++[0])[i]? = some 0:=h0
   rw[List.getElem?_append_left (by rw[h.W.l];exact hi)]at h0'
   rw[addKeys_le (by omega) h.S.k]
   exact h.u k i x hx' hk h0'
  ·
   rw[List.getElem?_append_right hi]at hx'
   have hz:i - e.deeds.length=0:=by
    have:=(List.getElem?_eq_some_iff.1 hx').1
    simpa using this
   rw[hz]at hx'
   have hx2:x=d:=by simpa using hx'.symm
   subst hx2
   rw[addKeys_in (by omega) h.S.k (wrong_keys hd).2 hk]
   rfl
theorem BInv.addAll:∀ {l:List Deed}{e:Engine}{r:List Pair},BInv e r→(∀ d∈l,wrongDeed d=0)→BInv (RF.addAll e l) r
 | [],e,r,h,_=>h
 |d::l,e,r,h,hl=>by
  simp only[RF.addAll]
  exact BInv.addAll (h.add1 (hl d (List.mem_cons_self ..))) fun x hx=>hl x (List.mem_cons_of_mem _ hx)
theorem addAll_deeds:∀ {l:List Deed}{e:Engine},(RF.addAll e l).deeds=e.deeds++l∧(RF.addAll e l).base=e.base
 | [],e=>by simp[RF.addAll]
 |d::l,e=>by
  simp only[RF.addAll]
  rw[addAll_deeds.1,addAll_deeds.2]
  simp[RF.add1]
theorem BInv.addE {e:Engine}{r:List Pair}(h:BInv e r) {l:List Deed}(hw:(RF.addE e l).2=0):BInv (RF.addE e l).1 r:=by
 unfold RF.addE at hw ⊢
 by_cases h0:wrongs l=0
 ·
  rw[if_pos h0]
  exact h.addAll fun d hd=>wrongs_mem h0 d hd
 ·
  rw[if_neg h0]at hw;exact absurd hw h0
theorem BInv.goNew {e:Engine}{r:List Pair}(h:BInv e r) {A:Nat}{d:Deed}(hd:e.deeds[A]? = some d) (hne:needs e A d=[]):BInv (Proofs.YtfpkamiobdkcpaaGreatDoor.goNew e A d) r:=by
 have hb:=h.Q.b
 refine⟨h.S.goNew A d,h.W.goNew A d hd,h.Q.goNew h.W h.n hd hne,?_,fun s hs=>?_,fun k i x hx hk h0=>?_⟩
 ·
  show(e.ends.set A _).length=e.deeds.length
  rw[List.length_set];exact h.n
 ·
  rcases List.mem_or_eq_of_mem_set (show s∈e.state.set A 1 from hs) with hs|hs
  ·
   exact h.t s hs
  ·
   exact .inr hs
 ·
  have hx':e.deeds[i]? = some x:=hx
  have h0':(e.state.set A 1)[i]? = some 0:=h0
  have hiA:i≠A:=fun e1=>by
   subst e1
   rw[List.getElem?_set_self (by rw[h.W.l];exact(List.getElem?_eq_some_iff.1 hd).1)]at h0'
   simp at h0'
  rw[List.getElem?_set_ne (fun e1=>hiA e1.symm)]at h0'
  have hp:=(h.Q.p k i x hx' hk).1
  show(before (goSets (goDone e A d).1 (e.base+A) e.chains d.writes) k (e.base+(i+1:Nat))).made=false
  rw[before_goSets (by omega),if_neg (fun e1=>by have:=e1.2;rw[hp]at this;omega)]
  exact h.u k i x hx' hk h0'
theorem BInv.goE {e:Engine}{r:List Pair}(h:BInv e r) (x:Int):BInv (Proofs.YtfpkamiobdkcpaaGreatDoor.goE e x).1 r:=by
 unfold Proofs.YtfpkamiobdkcpaaGreatDoor.goE
 split
 ·
  exact h
 unfold goAt
 cases hA:e.deeds[x.toNat]? with
 |none=>exact h
 |some d =>
  dsimp only
  split
  ·
   exact h
  split
  ·
   next hn=>exact h.goNew hA hn
  ·
   exact h
theorem BInv.clearE {e:Engine}{r:List Pair}(h:BInv e r):BInv (RF.clearE e) (sq r e.deeds (markN e.state)):=by
 refine⟨h.S.clearE,h.W.clearE,h.Q.clearE h.S h.W,?_,fun s hs=>h.t s (List.mem_of_mem_drop hs),fun k i x hx hk h0=>?_⟩
 ·
  show(e.ends.drop _).length=(e.deeds.drop _).length
  simp[h.n]
 ·
  have hx':e.deeds[markN e.state+i]? = some x:=by
   have:(e.deeds.drop (markN e.state))[i]? = some x:=hx
   rwa [List.getElem?_drop]at this
  have h0':e.state[markN e.state+i]? = some 0:=by
   have:(e.state.drop (markN e.state))[i]? = some 0:=h0
   rwa [List.getElem?_drop]at this
  show(before (clear (e.base+markN e.state) e.chains) k (e.base+markN e.state+(i+1:Nat))).made=false
  have hp:=(h.Q.p k _ x hx' hk).1
  have hu:=h.u k _ x hx' hk h0'
  rw[before_clear h.S.k h.S.v (by omega)]
  rw[show e.base+(markN e.state:Int)+((i+1:Nat):Int)=e.base+((markN e.state+i+1:Nat):Int) by omega]
  rw[if_neg (by rw[hp];omega)]
  exact hu
theorem BInv.pickE {e:Engine}{r:List Pair}(h:BInv e r) (n:Int):∃ r',BInv (Proofs.YtfpkamiobdkcpaaGreatDoor.pickE e n) r':=by
 unfold Proofs.YtfpkamiobdkcpaaGreatDoor.pickE
 split
 ·
  exact⟨_,h.clearE⟩
 split
 ·
  exact⟨r,h⟩
 split
 ·
  exact⟨r,h.goE _⟩
 ·
  exact⟨r,h⟩
theorem BInv.batchE {e:Engine}{r:List Pair}(h:BInv e r) (b:List Deed):BInv (Proofs.YtfpkamiobdkcpaaGreatDoor.batchE e b) r:=by
 unfold Proofs.YtfpkamiobdkcpaaGreatDoor.batchE
 split
 ·
  next hw=>exact h.addE hw
 ·
  exact h
theorem BInv.pickGo:∀ {k:Nat}{e:Engine}{p:List Int}{r:List Pair},BInv e r→∃ r',BInv (Proofs.YtfpkamiobdkcpaaGreatDoor.pickGo k e p).1 r'
 |0,e,p,r,h=>⟨r,h⟩
 |k+1,e,[],r,h=>⟨r,h⟩
 |k+1,e,n::p,r,h=>by
  simp only[Proofs.YtfpkamiobdkcpaaGreatDoor.pickGo]
  obtain⟨r',h'⟩:=h.pickE n
  exact BInv.pickGo h'
theorem BInv.buildGo:∀ {bs:List (List Deed)}{e:Engine}{p:List Int}{r:List Pair},BInv e r→∃ r',BInv (Proofs.YtfpkamiobdkcpaaGreatDoor.buildGo e bs p) r'
 | [],e,p,r,h=>⟨r,h⟩
 |b::bs,e,p,r,h=>by
  simp only[Proofs.YtfpkamiobdkcpaaGreatDoor.buildGo]
  obtain⟨r',h'⟩:=(h.batchE b).pickGo (k:=3) (p:=p)
  exact BInv.buildGo h'
theorem build_b {r:List Pair}(h:wrongRows r=0) (bs:List (List Deed)) (p:List Int):∃ r',BInv (buildE r bs p) r':=(newE_b h).buildGo
theorem readyGo_mem {e:Engine}{x:Int}:∀ {l:List Int}{i:Nat},x∈readyGo e i l↔∃ j:Nat,x=((i+j:Nat):Int)∧l[j]? = some 0∧needsAt e (i+j)=[]
 | [],i=>by simp[readyGo]
 |s::l,i=>by
  have tl:x∈readyGo e (i+1) l→∃ j:Nat,x=((i+j:Nat):Int)∧(s::l)[j]? = some 0∧needsAt e (i+j)=[]:=fun h=>by
   obtain⟨j,h1,h2,h3⟩:=readyGo_mem.1 h
   exact⟨j+1,by rw[h1];omega,by rw[List.getElem?_cons_succ];exact h2,by rw[show i+(j+1)=i+1+j by omega];exact h3⟩
  simp only[readyGo]
  constructor
  ·
   intro h
   by_cases hc:s=0∧needsAt e i=[]
   ·
    rw[if_pos hc]at h
    rcases List.mem_cons.1 h with h|h
    ·
     exact⟨0,h,by rw[hc.1];rfl,hc.2⟩
    ·
     exact tl h
   ·
    rw[if_neg hc]at h
    exact tl h
  ·
   rintro ⟨j,h1,h2,h3⟩
   cases j with
   |zero =>
    have h4:s=0:=by simpa using h2
    rw[if_pos ⟨h4,h3⟩,h1];exact List.mem_cons_self ..
   |succ j =>
    have:x∈readyGo e (i+1) l:=readyGo_mem.2 ⟨j,by rw[h1];omega,by rw[List.getElem?_cons_succ]at h2;exact h2,by rw[show i+1+j=i+(j+1) by omega];exact h3⟩
    split
    ·
     exact List.mem_cons_of_mem _ this
    ·
     exact this
theorem ready_mem {e:Engine}{x:Int}:x∈ready e↔∃ A:Nat,x=(A:Int)∧e.state[A]? = some 0∧needsAt e A=[]:=by
 unfold ready
 rw[readyGo_mem]
 simp only[Nat.zero_add]
theorem needs_nil {e:Engine}(hW:WInv e) {A:Nat}{d:Deed}:needs e A d=[]↔∀ k∈keysD d,(before e.chains k (e.base+A)).made=true:=by
 refine⟨needs_made hW,fun h=>?_⟩
 cases hn:needs e A d with
 |nil=>rfl
 |cons x l =>
  have hx:x∈needs e A d:=by rw[hn];exact List.mem_cons_self ..
  unfold needs at hx
  obtain⟨k,_,_,h1⟩:=needsGo_mem.1 hx
  obtain⟨s,h2,h3,_⟩:=anyHit_iff.1 h1
  rw[h s h2]at h3
  cases h3
theorem go_ready {e:Engine}(hl:e.state.length=e.deeds.length) {A:Nat}(h0:e.state[A]? = some 0) (hn:needsAt e A=[]) :
  ∃ d,e.deeds[A]? = some d∧needs e A d=[]∧goE e (A:Int)=(goNew e A d,0):=by
 have hA:=(List.getElem?_eq_some_iff.1 h0).1
 obtain⟨d,hd⟩:∃ d,e.deeds[A]? = some d:=⟨e.deeds[A]'(by omega),List.getElem?_eq_getElem (by omega)⟩
 unfold needsAt at hn
 rw[hd]at hn
 refine⟨d,hd,hn,?_⟩
 unfold goE goAt
 rw[if_neg (by omega),Int.toNat_natCast,hd]
 dsimp only
 rw[h0,if_neg (by simp),if_pos hn]
theorem first_wait {l:List Int}{A:Nat}(h:l[A]? = some 0):∃ B:Nat,l[B]? = some 0∧∀ j:Nat,j < B→l[j]? ≠ some 0:=by
 induction A using Nat.strongRecOn with
 |ind A ih =>
  by_cases hj:∃ j,j < A∧l[j]? = some 0
  ·
   obtain⟨j,h1,h2⟩:=hj
   exact ih j h1 h2
  ·
   exact⟨A,h,fun j hj1 hj2=>hj ⟨j,hj1,hj2⟩⟩
theorem free_one {e:Engine}(hW:WInv e) {A:Nat}(h:e.state[A]? = some 0):∃ B:Nat,e.state[B]? = some 0∧needsAt e B=[]:=by
 obtain⟨B,h1,h2⟩:=first_wait h
 refine⟨B,h1,?_⟩
 unfold needsAt
 split
 ·
  refine(needs_nil hW).2 fun k _=>?_
  cases hm:(before e.chains k (e.base+B)).made with
  |true=>rfl
  |false =>
   rcases before_mem e.chains k (e.base+B) with h3|⟨c,h3,h4,h5,h6⟩
   ·
    rw[h3]at hm;cases hm
   ·
    obtain⟨j,x,h7,h8,_⟩:=hW.n c h3 _ h5 hm
    exact absurd h8 (h2 j (by omega))
 ·
  rfl
theorem needs_back {e:Engine}(hW:WInv e) {A:Nat}{d:Deed}{x:Int}(hx:x∈needs e A d):∃ k:Nat,x=(k:Int)∧k < A∧e.state[k]? = some 0:=by
 unfold needs at hx
 obtain⟨k,h1,h2,h3⟩:=needsGo_mem.1 hx
 obtain⟨s,_,h4,h5⟩:=anyHit_iff.1 h3
 refine⟨k,h2,List.mem_range.1 h1,?_⟩
 rcases before_mem e.chains s (e.base+A) with h6|⟨c,h6,_,h7,_⟩
 ·
  rw[h6]at h4;cases h4
 ·
  obtain⟨j,x,h8,h9,_⟩:=hW.n c h6 _ h7 h4
  obtain rfl:j=k:=by omega
  exact h9
theorem goE_deeds (e:Engine) (x:Int):(goE e x).1.deeds=e.deeds∧(goE e x).1.base=e.base:=by
 unfold goE
 split
 ·
  exact⟨rfl,rfl⟩
 unfold goAt
 split
 ·
  split
  ·
   exact⟨rfl,rfl⟩
  split <;> exact⟨rfl,rfl⟩
 ·
  exact⟨rfl,rfl⟩
def seenP (cs:List Chain) (b:Int) (c:Chain):Option Pair:=if (before cs c.key b).has=true then some ⟨c.key,(before cs c.key b).n⟩ else none
theorem rowsAtGo_made {cs:List Chain}{b:Int}:∀ {l:List Chain}{out:List Pair},(∀ c∈l,(before cs c.key b).made=true)→rowsAtGo cs b out l=(out++l.filterMap (seenP cs b),true)
 | [],out,_=>by simp[rowsAtGo]
 |c::l,out,h=>by
  have h1:=h c (List.mem_cons_self ..)
  have h2:∀ c∈l,(before cs c.key b).made=true:=fun x hx=>h x (List.mem_cons_of_mem _ hx)
  simp only[rowsAtGo]
  rw[if_neg (by rw[h1];simp)]
  by_cases hh:(before cs c.key b).has=true
  ·
   rw[if_pos hh,rowsAtGo_made h2,List.filterMap_cons_some (show seenP cs b c=some _ from if_pos hh)]
   simp
  ·
   rw[if_neg hh,rowsAtGo_made h2,List.filterMap_cons_none (show seenP cs b c=none from if_neg hh)]
theorem rowsAtGo_fail {cs:List Chain}{b:Int}:∀ {l:List Chain}{out:List Pair},(∃ c∈l,(before cs c.key b).made=false)→rowsAtGo cs b out l=([],false)
 | [],out,h=>by obtain⟨c,h,_⟩:=h;simp at h
 |c::l,out,h=>by
  simp only[rowsAtGo]
  by_cases h1:(before cs c.key b).made=false
  ·
   rw[if_pos h1]
  ·
   rw[if_neg h1]
   have h2:∃ c∈l,(before cs c.key b).made=false:=by
    obtain⟨x,hx,h3⟩:=h
    rcases List.mem_cons.1 hx with rfl|hx
    ·
     exact absurd h3 h1
    ·
     exact⟨x,hx,h3⟩
   split <;> exact rowsAtGo_fail h2
theorem rowsAt_made {cs:List Chain}{b:Int}(hs:Srt Chain.key cs) (hb:∀ k,(before cs k b).has=false→(before cs k b).n=0) (h:∀ k,(before cs k b).made=true) :
  (rowsAt cs b).2=true∧Srt Pair.key (rowsAt cs b).1∧∀ k,RF.get (rowsAt cs b).1 k=((before cs k b).n,(before cs k b).has):=by
 have he:rowsAt cs b=(cs.filterMap (seenP cs b),true):=rowsAtGo_made fun c _=>h c.key
 have hsr:Srt Pair.key (cs.filterMap (seenP cs b)):=by
  refine List.pairwise_filterMap.2 (List.Pairwise.imp (fun {x y} hxy p hp q hq=>?_) hs)
  unfold seenP at hp hq
  split at hp
  ·
   split at hq
   ·
    cases hp;cases hq;exact hxy
   ·
    cases hq
  ·
   cases hp
 rw[he]
 refine⟨rfl,hsr,fun k=>?_⟩
 show RF.get (cs.filterMap (seenP cs b)) k=_
 cases hh:(before cs k b).has with
 |true =>
  rcases before_mem cs k b with h1|⟨c,h1,rfl,_,_⟩
  ·
   rw[h1]at hh;cases hh
  ·
   have hm:(⟨c.key,(before cs c.key b).n⟩:Pair)∈cs.filterMap (seenP cs b):=List.mem_filterMap.2 ⟨c,h1,if_pos hh⟩
   exact get_of_mem hsr hm
 |false =>
  rw[hb k hh]
  refine get_absent fun p hp e=>?_
  obtain⟨c,h1,h2⟩:=List.mem_filterMap.1 hp
  unfold seenP at h2
  split at h2
  ·
   next hc =>
   cases h2
   have e':c.key=k:=e
   rw[e',hh]at hc
   cases hc
  ·
   cases h2
theorem rowsAt_not {cs:List Chain}{b:Int}{k:Str}(h:(before cs k b).made=false):rowsAt cs b=([],false):=by
 rcases before_mem cs k b with h1|⟨c,h1,rfl,_,_⟩
 ·
  rw[h1]at h;cases h
 ·
  exact rowsAtGo_fail ⟨c,h1,h⟩
theorem rowsAt_same {cs ds:List Chain}{b:Int}(hc:Srt Chain.key cs) (hd:Srt Chain.key ds) (hb:∀ k,(before cs k b).has=false→(before cs k b).n=0) (h:∀ k,before ds k b=before cs k b):rowsAt ds b=rowsAt cs b:=by
 by_cases hm:∀ k,(before cs k b).made=true
 ·
  obtain⟨h1,h2,h3⟩:=rowsAt_made hc hb hm
  obtain⟨h4,h5,h6⟩:=rowsAt_made hd (fun k=>by rw[h k];exact hb k) (fun k=>by rw[h k];exact hm k)
  exact Prod.ext (get_ext h5 h2 fun k=>by rw[h3,h6,h k]) (by rw[h1,h4])
 ·
  obtain⟨k,hk⟩:=Classical.not_forall.1 hm
  have hk':(before cs k b).made=false:=by simpa using hk
  rw[rowsAt_not hk',rowsAt_not (k:=k) (by rw[h k];exact hk')]
theorem BInv.rows {e:Engine}{r:List Pair}(h:BInv e r) {i:Nat}(hi:i≤e.deeds.length) (hm:∀ k,(before e.chains k (e.base+i)).made=true):rowsAt e.chains (e.base+i)=(sq r e.deeds i,true):=by
 obtain⟨h1,h2,h3⟩:=rowsAt_made h.S.k (fun k=>h.W.bh k _) hm
 exact Prod.ext (get_ext h2 (sq_srt h.Q.s h.W.d i) fun k=>by rw[h3,h.Q.m k i hi (hm k)]) h1
theorem allD_ends:∀ {l:List Deed}{r:List Pair}{i:Nat}{d:Deed},l[i]? = some d→(allD r l).2[i]? = some (doD (sq r l i) d).2
 | [],r,i,d,h=>by simp at h
 |x::l,r,0,d,h=>by simp at h;subst h;rfl
 |x::l,r,i+1,d,h=>by
  rw[List.getElem?_cons_succ]at h
  have:=allD_ends (r:=(doD r x).1) h
  simp only[allD]
  rw[List.getElem?_cons_succ,this]
  rfl
theorem allD_len:∀ {l:List Deed}{r:List Pair},(allD r l).2.length=l.length
 | [],r=>rfl
 |x::l,r=>by simp only[allD,List.length_cons];rw[allD_len]
theorem BInv.ends {e:Engine}{r:List Pair}(h:BInv e r) (h1:∀ s∈e.state,s=1):e.ends=(allD r e.deeds).2:=by
 refine List.ext_getElem? fun i=>?_
 rcases Nat.lt_or_ge i e.deeds.length with hi|hi
 ·
  have hd:e.deeds[i]? = some e.deeds[i]:=List.getElem?_eq_getElem hi
  have hs:i < e.state.length:=by rw[h.W.l];exact hi
  have hs1:e.state[i]? = some 1:=by
   rw[List.getElem?_eq_getElem hs,h1 _ (List.getElem_mem hs)]
  rw[h.Q.w i _ hd hs1,allD_ends hd]
 ·
  rw[List.getElem?_eq_none (by rw[h.n];exact hi),List.getElem?_eq_none (by rw[allD_len];exact hi)]
theorem addAll_before {k:Str}{x:Int}:∀ {l:List Deed}{e:Engine},SInv e→(∀ d∈l,wrongDeed d=0)→x≤e.base+e.deeds.length→before (addAll e l).chains k x=before e.chains k x
 | [],e,_,_,_=>rfl
 |d::l,e,h,hl,hx=>by
  simp only[addAll]
  have hd:=hl d (List.mem_cons_self ..)
  rw[addAll_before (h.add1 (wrong_keys hd).2) (fun y hy=>hl y (List.mem_cons_of_mem _ hy)) (by
   show x≤e.base+((e.deeds++[d]).length:Nat)
   rw[List.length_append];simp;omega)]
  exact addKeys_le hx h.k
theorem needsGo_congr {cs ds:List Chain}{base b:Int}{ks:List Str}(h:∀ k,before ds k b=before cs k b):∀ {l:List Nat}{j:Nat},needsGo ds base b ks j l=needsGo cs base b ks j l
 | [],j=>rfl
 |n::l,j=>by
  have hh:∀ (w:Int) (ks:List Str),anyHit ds b w ks=anyHit cs b w ks:=fun w ks=>by
   induction ks with
   |nil=>rfl
   |cons k ks ih =>
    have hk:hit ds b w k=hit cs b w k:=by unfold hit;rw[h k]
    simp only[anyHit]
    rw[hk,ih]
  simp only[needsGo]
  rw[hh,needsGo_congr h]
theorem plan_ahead {e:Engine}{r:List Pair}(h:BInv e r) {l:List Deed}(hl:∀ d∈l,wrongDeed d=0) {A:Nat}{d:Deed}(hd:e.deeds[A]? = some d) :
  needs (addAll e l) A d=needs e A d∧rowsAt (addAll e l).chains ((addAll e l).base+A)=rowsAt e.chains (e.base+A):=by
 have hA:=(List.getElem?_eq_some_iff.1 hd).1
 have hk:∀ k,before (addAll e l).chains k (e.base+A)=before e.chains k (e.base+A):=fun k=>addAll_before h.S hl (by omega)
 unfold needs
 rw[addAll_deeds.2]
 exact⟨needsGo_congr hk,rowsAt_same h.S.k (h.addAll hl).S.k (fun k=>h.W.bh k _) hk⟩
end Go.Proofs.YtfpkamiobdkcpaaGreatDoor
namespace Go.AX
open Go.RowKit Go.RF
variable {cx:Cx}{g:Nat→Value}{σ:St}{a:Act}{w w':World}{nx:Nat}
variable {ty:TypeId}{pos:String}{af:Array Edge}{gd:Option (Nat×Bool)}{d:Nat}
theorem extract_str (s:List UInt8) (l h:Nat):Value.string ((⟨s.toArray⟩:ByteArray).extract l h)=str ((s.drop l).take (h - l)):=by
 have:(⟨s.toArray⟩:ByteArray).extract l h=⟨((s.drop l).take (h - l)).toArray⟩:=by
  apply ByteArray.ext
  rw[ByteArray.data_extract]
  simp
 rw[this];rfl
theorem a_sub {t:TypeId}{x lo hi:Operand}{kd ke:IntKind}{s:List UInt8}{l h:Nat}{ti:TI}(hx:ev σ x=some (.d (.v (str s)))) (hlo:ev σ lo=some (.d (.v (.int kd (l:Int))))) (hhi:ev σ hi=some (.d (.v (.int ke (h:Int)))))
  (ht:tget cx.T t=some ti) (hk:ti.kind = .str) (hd:Nat.blt d cx.n=true) (hlh:l≤h) (hh:h≤s.length) :
  OA cx σ ⟨some d,.slice t x (some lo) (some hi) none,ty,pos,af,gd⟩ ⟨rdOf x (.d (.v (str s)))++(rdOf lo (.d (.v (.int kd (l:Int))))++rdOf hi (.d (.v (.int ke (h:Int))))),[(.s d,.av (.d (.v (str ((s.drop l).take (h - l))))))]⟩:=by
 refine⟨ok_val rfl (lt_of_blt hd) fun σ1 a w g nx hs hr=>?_,(ev_out hx).2.append ((ev_out hlo).2.append (ev_out hhi).2)⟩
 have hv:=rep_v (hs.ev (ev_out hx).1 hr.left).1
 have h1:=rep_v (hs.ev (ev_out hlo).1 hr.right.left).1
 have h2:=rep_v (hs.ev (ev_out hhi).1 hr.right.right).1
 have hu:cx.P.underlying t=some .string:=by have:=(cx.hT t ti ht).kind;rw[hk]at this;exact this.1
 refine⟨_,w,?_,Below.refl _ _,Rd.v _,trivial⟩
 have hsz:(⟨s.toArray⟩:ByteArray).size=s.length:=rfl
 have e1:¬ ((h:Int) < 0):=by omega
 have e2:¬ ((l:Int) < 0):=by omega
 rw[← extract_str]
 simp[execOp,hv,h1,h2,str,Instr.sliceAt,Instr.slice,run_underlying hu,Instr.sliceBounds,Instr.sliceBound,asIntOf,hsz,hlh,hh,e1,e2]
theorem a_subF {t:TypeId}{x lo:Operand}{kd:IntKind}{s:List UInt8}{l:Nat}{ti:TI}(hx:ev σ x=some (.d (.v (str s)))) (hlo:ev σ lo=some (.d (.v (.int kd (l:Int)))))
  (ht:tget cx.T t=some ti) (hk:ti.kind = .str) (hd:Nat.blt d cx.n=true) (hh:l≤s.length) :
  OA cx σ ⟨some d,.slice t x (some lo) none none,ty,pos,af,gd⟩ ⟨rdOf x (.d (.v (str s)))++rdOf lo (.d (.v (.int kd (l:Int)))),[(.s d,.av (.d (.v (str (s.drop l)))))]⟩:=by
 refine⟨ok_val rfl (lt_of_blt hd) fun σ1 a w g nx hs hr=>?_,(ev_out hx).2.append (ev_out hlo).2⟩
 have hv:=rep_v (hs.ev (ev_out hx).1 hr.left).1
 have h1:=rep_v (hs.ev (ev_out hlo).1 hr.right).1
 have hu:cx.P.underlying t=some .string:=by have:=(cx.hT t ti ht).kind;rw[hk]at this;exact this.1
 refine⟨_,w,?_,Below.refl _ _,Rd.v _,trivial⟩
 have hsz:(⟨s.toArray⟩:ByteArray).size=s.length:=rfl
 have e2:¬ ((l:Int) < 0):=by omega
 have he:=extract_str s l s.length
 rw[List.take_of_length_le (by simp)]at he
 rw[← he]
 simp[execOp,hv,h1,str,Instr.sliceAt,Instr.slice,run_underlying hu,Instr.sliceBounds,Instr.sliceBound,asIntOf,hsz,hh,e2]
theorem a_noerr {t t':TypeId}{x:Operand}{ms:Array (String×TypeId)}(hx:ev σ x=some (.d (.v .nilIface))) (ht:cx.P.underlying t=some (.interface ms)) (hd:Nat.blt d cx.n=true) :
  OA cx σ ⟨some d,.binOp .eql t x (.const .nilIface) t',ty,pos,af,gd⟩ ⟨rdOf x (.d (.v .nilIface)),[(.s d,.av (.d (.v (.bool true))))]⟩:=by
 refine⟨ok_val rfl (lt_of_blt hd) fun σ1 a w g nx hs hr=>?_,(ev_out hx).2⟩
 have hv:=rep_v (hs.ev (ev_out hx).1 hr).1
 refine⟨.bool true,w,?_,Below.refl _ _,Rd.v _,trivial⟩
 have h:∀ d:Nat,(Op.equalIn (d+1) t .nilIface .nilIface).run cx.P w = .ok true w:=fun d=>by
  simp[Op.equalIn,run_underlying ht]
 have hg:eqGuard .eql t x (.const .nilIface) .nilIface .nilIface=pure ():=by cases x <;> rfl
 have hc:a.eval (.const .nilIface) = .nilIface:=rfl
 simp[execOp,hv,hc,hg,binOp,Op.equal,Op.maxDepth,h 9999]
end Go.AX
namespace Go.RF
open Go.AX
def splitF (sep:Str):Nat→Str→Str→List Str
 |0,cur,r=>[cur++r]
 |n+1,cur,r =>
  if r.length < sep.length then [cur++r]
  else if r.take sep.length=sep then cur::splitF sep n [] (r.drop sep.length)
  else match r with
   | []=>[cur]
   |c::t=>splitF sep n (cur++[c]) t
def split (s sep:Str):List Str:=splitF sep s.length [] s
theorem splitF_ne (sep:Str):∀ (n:Nat) (cur r:Str),splitF sep n cur r≠[]
 |0,cur,r=>by simp[splitF]
 |n+1,cur,r=>by
  simp only[splitF]
  split
  ·
   simp
  split
  ·
   simp
  cases r with
  |nil=>simp
  |cons c t=>exact splitF_ne sep n _ _
def words:List Str:=[[],[108,111,97,100],[99,111,110,115,116],[97,100,100],[115,117,98],[109,117,108],[115,116,111,114,101],[100,114,111,112],[115,107,105,112],[102,97,105,108]]
def kindGo (w:Str):Nat→Int→List Str→Int
 |_,k,[]=>k
 |n,k,x::r=>kindGo w (n+1) (if 0 < n∧x=w then (n:Int) else k) r
def kindOf (w:Str):Int:=kindGo w 0 0 words
def numV (s:Str):Option Int:=match Lib.atoiAll s with
 |.ok v=>if Lib.itoa v=s then some v else none
 |_=>none
def regV (s:Str):Option Int:=match s with
 |114::r=>numV r
 |_=>none
def fillI:Ins→Str→List Str→Option Ins
 |i,[],_=>some i
 |i,_::_,[]=>some i
 |i,c::f,w::ws =>
  if c=107 then fillI { i with key:=w } f ws
  else if c=110 then match numV w with
   |some n=>fillI { i with n:=n } f ws
   |none=>none
  else match regV w with
   |some x=>if c=114 then fillI { i with a:=x } f ws else fillI { i with b:=x } f ws
   |none=>none
def insP (l:List Str):Option Ins:=match l with
 | []=>none
 |w::ws=>if kindOf w=0 then none else if ws.length=(form (kindOf w).toNat).length then fillI ⟨kindOf w,0,0,0,[]⟩ (form (kindOf w).toNat) ws else none
def insAll:List Str→Option (List Ins)
 | []=>some []
 |p::r=>match insP (split p [32]),insAll r with
  |some i,some l=>some (i::l)
  |_,_=>none
def parseD (s:Str):Option Deed :=
 if 400 < s.length then none else match split s [59,32] with
  |p0::p1::ps=>match split p0 [32],split p1 [32],insAll ps with
   |w0::rs,w1::ws,some code=>if w0=[114,101,97,100,115]∧w1=[119,114,105,116,101,115]∧wrongDeed ⟨rs,ws,code⟩=0 then some ⟨rs,ws,code⟩ else none
   |_,_,_=>none
  |_=>none
end Go.RF
namespace Go.Proofs.YtfpkamiobdkcpaaGreatDoor
open Go.AX Go.RF
set_option maxRecDepth 100000
set_option maxHeartbeats 4000000
theorem splitF_len (sep:Str):∀ (n:Nat) (cur r:Str),(splitF sep n cur r).length≤n+1
 |0,cur,r=>by simp[splitF]
 |n+1,cur,r=>by
  simp only[splitF]
  split
  ·
   simp
  split
  ·
   have:=splitF_len sep n [] (r.drop sep.length);simp;omega
  cases r with
  |nil=>simp
  |cons c t=>have:=splitF_len sep n (cur++[c]) t;simp;omega
theorem splitF_succ (sep:Str) (n:Nat) (cur r:Str):splitF sep (n+1) cur r=if r.length < sep.length then [cur++r]
  else if r.take sep.length=sep then cur::splitF sep n [] (r.drop sep.length)
  else match r with
   | []=>[cur]
   |c::t=>splitF sep n (cur++[c]) t:=by cases r <;> rfl
theorem ok_split (s sep:Str) (hs:s.length≤1073741000) (hp:sep≠[]) (hp2:sep.length≤1000):FnOk Tryz.prog 135 [.d (dstr s),.d (dstr sep)] (.one (encStrs (split s sep))):=by
 refine fnOk_of tbl_ok mixed_ok Tryz.func135 rfl (by kernel_rfl) rfl rfl fun w0 own0=>?_
 have hp0:0 < sep.length:=List.length_pos_iff.2 hp
 have hst0:StopA 3:=⟨rfl⟩
 try refine wkS ?_
 clear hst0
 refine Stop.go (CW.stut (stut_promote (i:=5) 9 1) ⟨rfl,rfl,trivial⟩ ?_)
 try refine wk ?_
 refine CW.loopT (fun t:Nat×Nat×List Str=>[sd 0 (dstr s),sd 1 (dstr sep),sd 4 (.v nilS),so 5 0 t.2.2.length,oa 0 9 1 (t.2.2.map encStr1),sd 6 (dint t.1),sd 7 (dint t.2.1),nxt 1])
  (fun t=>t.1≤t.2.1∧t.2.1≤s.length∧t.2.2.length≤t.2.1∧∃ n,s.length≤n+t.2.1∧t.2.2++splitF sep n ((s.drop t.1).take (t.2.1 - t.1)) (s.drop t.2.1)=split s sep) (fun t=>s.length - t.2.1) (0,0,[]) ⟨by dsimp only;omega,by dsimp only;omega,by dsimp only;simp,s.length,by dsimp only;omega,rfl⟩ ?_ ?_
 ·
  exact by_less
 ·
  rintro ⟨f,i,out⟩ ⟨hf,hi,ho,n,hn,hI⟩
  dsimp only at hf hi ho hn hI ⊢
  have hcr:(s.drop f).take (i - f)++s.drop i=s.drop f:=by
   have:=List.take_append_drop (i - f) (s.drop f)
   rw[List.drop_drop,show f+(i - f)=i by omega]at this
   exact this
  have hrl:(s.drop i).length=s.length - i:=by simp
  by_cases h1:i+sep.length≤s.length
  ·
   obtain⟨n,rfl⟩:∃ m,n=m+1:=⟨n - 1,by omega⟩
   rw[splitF_succ,if_neg (by omega)]at hI
   have hcut:((s.drop i).take (i+sep.length - i))=(s.drop i).take sep.length:=by congr 1;omega
   by_cases h2:(s.drop i).take sep.length=sep
   ·
    rw[if_pos h2]at hI
    have h2':(s.drop i).take (i+sep.length - i)=sep:=hcut.trans h2
    repeat(first|((with_reducible apply s5);((with_reducible apply a_bs [[dstr ((s.drop f).take (i - f))]]);(iterate 9 exact rfl);(repeat(first|exact PartsE.nil|(apply PartsE.cons;exact rfl;exact rfl))));exact by_g)|refine wa1 ?_|((with_reducible apply s5);(first|((with_reducible apply(a_sub (l:=i) (h:=i+sep.length)));(iterate 6 exact rfl);omega;omega)|((with_reducible apply(a_sub (l:=f) (h:=i)));(iterate 6 exact rfl);omega;omega)|exact by_oa|exact by_ca);exact by_g)|refine wb ?_)
    refine q_loopT (i+sep.length,i+sep.length,out++[(s.drop f).take (i - f)]) ⟨by dsimp only;omega,by dsimp only;omega,by dsimp only;simp;omega,n,by dsimp only;omega,?_⟩ (by dsimp only;omega) ?_
    ·
     dsimp only
     rw[← hI,List.append_assoc,List.drop_drop,Nat.sub_self,List.take_zero]
     rfl
    exact by_less
   ·
    rw[if_neg h2]at hI
    have h2':¬ (s.drop i).take (i+sep.length - i)=sep:=fun h=>h2 (hcut.symm.trans h)
    have hlt:i < s.length:=by omega
    rw[List.drop_eq_getElem_cons hlt]at hI
    dsimp only at hI
    repeat(first|refine wa ?_|((with_reducible apply s5);(first|((with_reducible apply(a_sub (l:=i) (h:=i+sep.length)));(iterate 6 exact rfl);omega;omega)|exact by_oa|exact by_ca);exact by_g)|refine wb ?_)
    refine q_loopT (f,i+1,out) ⟨by dsimp only;omega,by dsimp only;omega,by dsimp only;omega,n,by dsimp only;omega,?_⟩ (by dsimp only;omega) ?_
    ·
     dsimp only
     rw[← hI,show i+1 - f=(i - f)+1 by omega,List.take_add_one,List.getElem?_drop,show f+(i - f)=i by omega,List.getElem?_eq_getElem hlt]
     rfl
    exact by_less
  ·
   have hfin:out++[s.drop f]=split s sep:=by
    rw[← hI]
    cases n with
    |zero=>rw[splitF,hcr]
    |succ n=>rw[splitF_succ,if_pos (by omega),hcr]
   repeat(first|((with_reducible apply s5);((with_reducible apply a_bs [[dstr (s.drop f)]]);(iterate 9 exact rfl);(repeat(first|exact PartsE.nil|(apply PartsE.cons;exact rfl;exact rfl))));exact by_g)|refine wa1 ?_|((with_reducible apply s5);(first|((with_reducible apply(a_subF (l:=f)));(iterate 5 exact rfl);omega)|exact by_oa|exact by_ca);exact by_g)|refine wb ?_)
   rw[← hfin,show encStrs (out++[s.drop f]) = .sl 1 (out.map encStr1++[[dstr (s.drop f)]]) by simp[encStrs,encStr1]]
   exact .one (.tmp rfl (.one (.own rfl (by simp) (.refl _))))
theorem ok_words:FnOk Tryz.prog 130 [] (.one (encStrs words)):=by
 refine fnOk_of tbl_ok mixed_ok Tryz.func130 rfl (by kernel_rfl) rfl rfl fun w0 own0=>?_
 repeat(first|((with_reducible apply s5);((with_reducible apply a_bs (words.map encStr1));(iterate 9 exact rfl);(repeat(first|exact PartsE.nil|(apply PartsE.cons;exact rfl;exact rfl))));exact by_g)|refine wa1 ?_|((with_reducible apply s5);(first|exact by_oa|exact by_ca);exact by_g)|refine wb ?_)
 exact .one (.tmp rfl (.one (.d (.refl _))))
end Go.Proofs.YtfpkamiobdkcpaaGreatDoor
namespace Go.Proofs
open Go.Shelf Go.RowKit
noncomputable def Tryz.laysC172_ren : Go.Shelf.Ren := ⟨fun | 129 => 156 | 171 => 129 | 172 => 168 | 205 => 226 | 243 => 162 | 244 => 186 | 245 => 187 | 246 => 180 | 247 => 210 | 279 => 211 | 280 => 212 | 281 => 213 | 282 => 214 | 283 => 200 | 284 => 201 | 285 => 202 | 286 => 203 | 287 => 224 | 316 => 225 | 317 => 218 | 318 => 219 | 319 => 220 | 320 => 221 | 321 => 231 | 322 => 232 | 337 => 229 | 338 => 230 | n => n, fun | 0 => 0 | 2 => 2 | 3 => 3 | 4 => 4 | 5 => 5 | 9 => 9 | 20 => 20 | 21 => 21 | 37 => 69 | 46 => 137 | 51 => 196 | 53 => 198 | 75 => 211 | 76 => 212 | 85 => 252 | 127 => 226 | 143 => 276 | 145 => 278 | 167 => 251 | 168 => 254 | 171 => 246 | 173 => 248 | 175 => 268 | 210 => 272 | 212 => 260 | 213 => 261 | 232 => 280 | 233 => 281 | 80 => 214 | n => n, fun | 15 => (Tryz.prog.globals.findIdx? (·.name == "strconv.ErrSyntax")).getD 0 | 16 => (Tryz.prog.globals.findIdx? (·.name == "strconv.ErrRange")).getD 0 | 17 => (Tryz.prog.globals.findIdx? (·.name == "internal/strconv.uint64pow10")).getD 0 | 18 => (Tryz.prog.globals.findIdx? (·.name == "math/bits.deBruijn32tab")).getD 0 | 19 => (Tryz.prog.globals.findIdx? (·.name == "math/bits.deBruijn64tab")).getD 0 | n => n⟩
theorem Tryz.laysC172:Go.Proofs.LaysC.n172 Tryz.prog Tryz.laysC172_ren:={
 mixed:=by kernel_rfl
 f129:=Tryz.func156.trans (congrArg some (by kernel_rfl))
 f171:=Tryz.func129.trans (congrArg some (by kernel_rfl))
 f172:=Tryz.func168.trans (congrArg some (by kernel_rfl))
 f205:=Tryz.func226.trans (congrArg some (by kernel_rfl))
 f243:=Tryz.func162.trans (congrArg some (by kernel_rfl))
 f244:=Tryz.func186.trans (congrArg some (by kernel_rfl))
 f245:=Tryz.func187.trans (congrArg some (by kernel_rfl))
 f246:=Tryz.func180.trans (congrArg some (by kernel_rfl))
 f247:=Tryz.func210.trans (congrArg some (by kernel_rfl))
 f279:=Tryz.func211.trans (congrArg some (by kernel_rfl))
 f280:=Tryz.func212.trans (congrArg some (by kernel_rfl))
 f281:=Tryz.func213.trans (congrArg some (by kernel_rfl))
 f282:=Tryz.func214.trans (congrArg some (by kernel_rfl))
 f283:=Tryz.func200.trans (congrArg some (by kernel_rfl))
 f284:=Tryz.func201.trans (congrArg some (by kernel_rfl))
 f285:=Tryz.func202.trans (congrArg some (by kernel_rfl))
 f286:=Tryz.func203.trans (congrArg some (by kernel_rfl))
 f287:=Tryz.func224.trans (congrArg some (by kernel_rfl))
 f316:=Tryz.func225.trans (congrArg some (by kernel_rfl))
 f317:=Tryz.func218.trans (congrArg some (by kernel_rfl))
 f318:=Tryz.func219.trans (congrArg some (by kernel_rfl))
 f319:=Tryz.func220.trans (congrArg some (by kernel_rfl))
 f320:=Tryz.func221.trans (congrArg some (by kernel_rfl))
 f321:=Tryz.func231.trans (congrArg some (by kernel_rfl))
 f322:=Tryz.func232.trans (congrArg some (by kernel_rfl))
 f337:=Tryz.func229.trans (congrArg some (by kernel_rfl))
 f338:=Tryz.func230.trans (congrArg some (by kernel_rfl))
 t0:=Tryz.underlying0
 a0:=Tryz.isAgg0
 z0:=Tryz.sizeOf0
 v0:=Tryz.zeroValue0
 t2:=Tryz.underlying2
 a2:=Tryz.isAgg2
 z2:=Tryz.sizeOf2
 v2:=Tryz.zeroValue2
 t3:=Tryz.underlying3
 a3:=Tryz.isAgg3
 z3:=Tryz.sizeOf3
 v3:=Tryz.zeroValue3
 t4:=Tryz.underlying4
 a4:=Tryz.isAgg4
 z4:=Tryz.sizeOf4
 v4:=Tryz.zeroValue4
 t5:=Tryz.underlying5
 a5:=Tryz.isAgg5
 z5:=Tryz.sizeOf5
 v5:=Tryz.zeroValue5
 t9:=Tryz.underlying9
 a9:=Tryz.isAgg9
 z9:=Tryz.sizeOf9
 v9:=Tryz.zeroValue9
 t20:=Tryz.underlying20
 a20:=Tryz.isAgg20
 z20:=Tryz.sizeOf20
 v20:=Tryz.zeroValue20
 t21:=Tryz.underlying21
 a21:=Tryz.isAgg21
 z21:=Tryz.sizeOf21
 v21:=Tryz.zeroValue21
 t37:=Tryz.underlying69
 a37:=Tryz.isAgg69
 z37:=Tryz.sizeOf69
 v37:=Tryz.zeroValue69
 t46:=Tryz.underlying137
 a46:=Tryz.isAgg137
 z46:=Tryz.sizeOf137
 v46:=Tryz.zeroValue137
 t51:=Tryz.underlying196
 a51:=Tryz.isAgg196
 z51:=Tryz.sizeOf196
 v51:=Tryz.zeroValue196
 t53:=Tryz.underlying198
 a53:=Tryz.isAgg198
 z53:=Tryz.sizeOf198
 v53:=Tryz.zeroValue198
 t75:=Tryz.underlying211
 a75:=Tryz.isAgg211
 z75:=Tryz.sizeOf211
 v75:=Tryz.zeroValue211
 t76:=Tryz.underlying212
 a76:=Tryz.isAgg212
 z76:=Tryz.sizeOf212
 v76:=Tryz.zeroValue212
 t85:=Tryz.underlying252
 a85:=Tryz.isAgg252
 z85:=Tryz.sizeOf252
 v85:=Tryz.zeroValue252
 t127:=Tryz.underlying226
 a127:=Tryz.isAgg226
 z127:=Tryz.sizeOf226
 v127:=Tryz.zeroValue226
 t143:=Tryz.underlying276
 a143:=Tryz.isAgg276
 z143:=Tryz.sizeOf276
 v143:=Tryz.zeroValue276
 t145:=Tryz.underlying278
 a145:=Tryz.isAgg278
 z145:=Tryz.sizeOf278
 v145:=Tryz.zeroValue278
 t167:=Tryz.underlying251
 a167:=Tryz.isAgg251
 z167:=Tryz.sizeOf251
 v167:=Tryz.zeroValue251
 t168:=Tryz.underlying254
 a168:=Tryz.isAgg254
 z168:=Tryz.sizeOf254
 v168:=Tryz.zeroValue254
 t171:=Tryz.underlying246
 a171:=Tryz.isAgg246
 z171:=Tryz.sizeOf246
 v171:=Tryz.zeroValue246
 t173:=Tryz.underlying248
 a173:=Tryz.isAgg248
 z173:=Tryz.sizeOf248
 v173:=Tryz.zeroValue248
 t175:=Tryz.underlying268
 a175:=Tryz.isAgg268
 z175:=Tryz.sizeOf268
 v175:=Tryz.zeroValue268
 t210:=Tryz.underlying272
 a210:=Tryz.isAgg272
 z210:=Tryz.sizeOf272
 v210:=Tryz.zeroValue272
 t212:=Tryz.underlying260
 a212:=Tryz.isAgg260
 z212:=Tryz.sizeOf260
 v212:=Tryz.zeroValue260
 t213:=Tryz.underlying261
 a213:=Tryz.isAgg261
 z213:=Tryz.sizeOf261
 t232:=Tryz.underlying280
 a232:=Tryz.isAgg280
 z232:=Tryz.sizeOf280
 v232:=Tryz.zeroValue280
 t233:=Tryz.underlying281
 a233:=Tryz.isAgg281
 z233:=Tryz.sizeOf281
 v233:=Tryz.zeroValue281
 g15:=by kernel_rfl
 g16:=by kernel_rfl
 g17:=by kernel_rfl
 g18:=by kernel_rfl
 g19:=by kernel_rfl
 t80:=Tryz.underlying214
 a80:=Tryz.isAgg214
 z80:=Tryz.sizeOf214
 v80:=Tryz.zeroValue214
 i0:=by kernel_rfl
 i2:=by kernel_rfl
 i3:=by kernel_rfl
 i4:=by kernel_rfl
 i5:=by kernel_rfl
 i9:=by kernel_rfl
 i20:=by kernel_rfl
 i21:=by kernel_rfl
 i37:=by kernel_rfl
 i46:=by kernel_rfl
 i51:=by kernel_rfl
 i53:=by kernel_rfl
 i75:=by kernel_rfl
 i76:=by kernel_rfl
 i80:=by kernel_rfl
 i85:=by kernel_rfl
 i127:=by kernel_rfl
 i143:=by kernel_rfl
 i145:=by kernel_rfl
 i167:=by kernel_rfl
 i168:=by kernel_rfl
 i171:=by kernel_rfl
 i173:=by kernel_rfl
 i175:=by kernel_rfl
 i210:=by kernel_rfl
 i212:=by kernel_rfl
 i232:=by kernel_rfl
 i233:=by kernel_rfl
 m15:=by kernel_rfl
 m16:=by kernel_rfl
 m17:=by kernel_rfl
 m18:=by kernel_rfl
 m19:=by kernel_rfl
 c0:=by kernel_rfl
 c2:=by kernel_rfl
 c3:=by kernel_rfl
 c4:=by kernel_rfl
 c5:=by kernel_rfl
 c9:=by kernel_rfl
 c20:=by kernel_rfl
 c21:=by kernel_rfl
 c37:=by kernel_rfl
 c46:=by kernel_rfl
 c51:=by kernel_rfl
 c53:=by kernel_rfl
 c75:=by kernel_rfl
 c76:=by kernel_rfl
 c80:=by kernel_rfl
 c85:=by kernel_rfl
 c127:=by kernel_rfl
 c143:=by kernel_rfl
 c145:=by kernel_rfl
 c167:=by kernel_rfl
 c168:=by kernel_rfl
 c171:=by kernel_rfl
 c173:=by kernel_rfl
 c175:=by kernel_rfl
 c210:=by kernel_rfl
 c212:=by kernel_rfl
 c213:=by kernel_rfl
 c232:=by kernel_rfl
 c233:=by kernel_rfl
 }
noncomputable def Tryz.lays171_ren : Go.Shelf.Ren := ⟨fun | 129 => 156 | 171 => 129 | 243 => 162 | 246 => 180 | 283 => 200 | 284 => 201 | 285 => 202 | 286 => 203 | 317 => 218 | 318 => 219 | 319 => 220 | 320 => 221 | 337 => 229 | 338 => 230 | n => n, fun | 0 => 0 | 2 => 2 | 3 => 3 | 4 => 4 | 5 => 5 | 9 => 9 | 20 => 20 | 37 => 69 | 46 => 137 | 51 => 196 | 53 => 198 | 171 => 246 | 173 => 248 | 212 => 260 | 213 => 261 | 232 => 280 | 233 => 281 | n => n, fun | 17 => (Tryz.prog.globals.findIdx? (·.name == "internal/strconv.uint64pow10")).getD 0 | 18 => (Tryz.prog.globals.findIdx? (·.name == "math/bits.deBruijn32tab")).getD 0 | 19 => (Tryz.prog.globals.findIdx? (·.name == "math/bits.deBruijn64tab")).getD 0 | n => n⟩
theorem Tryz.lays171:Go.Proofs.Lays.n171 Tryz.prog Tryz.lays171_ren:={
 mixed:=by kernel_rfl
 f129:=Tryz.func156.trans (congrArg some (by kernel_rfl))
 f171:=Tryz.func129.trans (congrArg some (by kernel_rfl))
 f243:=Tryz.func162.trans (congrArg some (by kernel_rfl))
 f246:=Tryz.func180.trans (congrArg some (by kernel_rfl))
 f283:=Tryz.func200.trans (congrArg some (by kernel_rfl))
 f284:=Tryz.func201.trans (congrArg some (by kernel_rfl))
 f285:=Tryz.func202.trans (congrArg some (by kernel_rfl))
 f286:=Tryz.func203.trans (congrArg some (by kernel_rfl))
 f317:=Tryz.func218.trans (congrArg some (by kernel_rfl))
 f318:=Tryz.func219.trans (congrArg some (by kernel_rfl))
 f319:=Tryz.func220.trans (congrArg some (by kernel_rfl))
 f320:=Tryz.func221.trans (congrArg some (by kernel_rfl))
 f337:=Tryz.func229.trans (congrArg some (by kernel_rfl))
 f338:=Tryz.func230.trans (congrArg some (by kernel_rfl))
 t0:=Tryz.underlying0
 a0:=Tryz.isAgg0
 z0:=Tryz.sizeOf0
 v0:=Tryz.zeroValue0
 t2:=Tryz.underlying2
 a2:=Tryz.isAgg2
 z2:=Tryz.sizeOf2
 v2:=Tryz.zeroValue2
 t3:=Tryz.underlying3
 a3:=Tryz.isAgg3
 z3:=Tryz.sizeOf3
 v3:=Tryz.zeroValue3
 t4:=Tryz.underlying4
 a4:=Tryz.isAgg4
 z4:=Tryz.sizeOf4
 v4:=Tryz.zeroValue4
 t5:=Tryz.underlying5
 a5:=Tryz.isAgg5
 z5:=Tryz.sizeOf5
 v5:=Tryz.zeroValue5
 t9:=Tryz.underlying9
 a9:=Tryz.isAgg9
 z9:=Tryz.sizeOf9
 v9:=Tryz.zeroValue9
 t20:=Tryz.underlying20
 a20:=Tryz.isAgg20
 z20:=Tryz.sizeOf20
 v20:=Tryz.zeroValue20
 t37:=Tryz.underlying69
 a37:=Tryz.isAgg69
 z37:=Tryz.sizeOf69
 v37:=Tryz.zeroValue69
 t46:=Tryz.underlying137
 a46:=Tryz.isAgg137
 z46:=Tryz.sizeOf137
 v46:=Tryz.zeroValue137
 t51:=Tryz.underlying196
 a51:=Tryz.isAgg196
 z51:=Tryz.sizeOf196
 v51:=Tryz.zeroValue196
 t53:=Tryz.underlying198
 a53:=Tryz.isAgg198
 z53:=Tryz.sizeOf198
 v53:=Tryz.zeroValue198
 t171:=Tryz.underlying246
 a171:=Tryz.isAgg246
 z171:=Tryz.sizeOf246
 v171:=Tryz.zeroValue246
 t173:=Tryz.underlying248
 a173:=Tryz.isAgg248
 z173:=Tryz.sizeOf248
 v173:=Tryz.zeroValue248
 t212:=Tryz.underlying260
 a212:=Tryz.isAgg260
 z212:=Tryz.sizeOf260
 v212:=Tryz.zeroValue260
 t213:=Tryz.underlying261
 a213:=Tryz.isAgg261
 z213:=Tryz.sizeOf261
 t232:=Tryz.underlying280
 a232:=Tryz.isAgg280
 z232:=Tryz.sizeOf280
 v232:=Tryz.zeroValue280
 t233:=Tryz.underlying281
 a233:=Tryz.isAgg281
 z233:=Tryz.sizeOf281
 v233:=Tryz.zeroValue281
 g17:=by kernel_rfl
 g18:=by kernel_rfl
 g19:=by kernel_rfl
 }
end Go.Proofs
namespace Go.Proofs.YtfpkamiobdkcpaaGreatDoor
open Go.AX Go.RF Go.RowKit
set_option maxRecDepth 100000
set_option maxHeartbeats 4000000
theorem numV_ok {s:Str}{v:Int}(h:numV s=some v):Lib.atoiAll s = .ok v∧Lib.itoa v=s:=by
 unfold numV at h
 split at h
 ·
  next x hx =>
  split at h
  ·
   next hy=>cases h;exact⟨hx,hy⟩
  ·
   cases h
 ·
  cases h
theorem ok_atoi (s:Str) (v:Int) (hs:s.length≤1073741824) (h:Lib.atoiAll s = .ok v):FnOk Tryz.prog 168 [.d (dstr s)] (.tup [dint v,.v .nilIface]):=by
 refine⟨⟨_,Tryz.func168,by kernel_rfl,by kernel_rfl⟩,fun w own vs hown ha=>?_⟩
 match vs,ha with
 | [x],⟨h1,_⟩ =>
  obtain rfl:x=str s:=rd_v h1
  refine(Any.strconv_Atoi_ok Tryz.laysC172 ⟨s.toArray⟩ (by show s.toArray.size≤_;simp;omega) v (by simpa using h) w).mono fun e w' he=>?_
  obtain⟨rfl,hw⟩:=he
  refine⟨_,rfl,?_,_,rfl,rfl,fun j c x hj hc=>?_⟩
  ·
   rcases hw with rfl|⟨t,rfl⟩
   ·
    exact Below.refl _ _
   ·
    exact Lib.bytesWorld_below _ _ _
  ·
   match j,hj,hc with
   |0,hj,hc=>simp at hj hc;subst hj hc;exact Rd.v _
   |1,hj,hc=>simp at hj hc;subst hj hc;exact Rd.v _
   |j+2,hj,hc=>simp at hj
theorem ok_itoaS (i:Nat) (hi:i < 100):FnOk Tryz.prog 129 [.d (dint i)] (.one (dstr (Lib.itoa i))):=by
 refine⟨⟨_,Tryz.func129,by kernel_rfl,by kernel_rfl⟩,fun w own vs hown ha=>?_⟩
 match vs,ha with
 | [x],⟨h1,_⟩ =>
  obtain rfl:x=i64 i:=rd_v h1
  refine(Any.strconv_Itoa_small Tryz.lays171 i hi w).mono fun e w' he=>?_
  obtain⟨rfl,rfl⟩:=he
  refine⟨_,rfl,Below.refl _ _,?_⟩
  have hx:Lib.itoa i=Lib.decDigits i:=by rw[Lib.itoa,if_neg (by omega)];rfl
  rw[hx]
  exact Rd.v _
theorem ok_numS (s:Str) (v:Int) (hs:s.length≤1073741824) (h:numV s=some v) (h0:0≤v) (h1:v < 100):FnOk Tryz.prog 136 [.d (dstr s)] (.tup [dint v,dbool true]):=by
 refine fnOk_of tbl_ok mixed_ok Tryz.func136 rfl (by kernel_rfl) rfl rfl fun w0 own0=>?_
 obtain⟨ha,hb⟩:=numV_ok h
 obtain⟨i,rfl⟩:=Int.eq_ofNat_of_zero_le h0
 have c1:=ok_atoi s i hs ha
 have c2:=ok_itoaS i (by omega)
 rw[hb]at c2
 repeat(first|refine wa ?_|((with_reducible apply s5);(first|((with_reducible apply a_noerr);exact rfl;exact Tryz.underlying211;exact rfl)|exact by_oa|exact by_ca);exact by_g)|refine wb ?_)
 exact .two (.tmp rfl (.one (.d (.refl _)))) (.tmp rfl (.one (.d (dle_bool (by simp)))))
set_option maxHeartbeats 16000000
theorem splitF_part (sep:Str):∀ (n:Nat) (cur r:Str),∀ p∈splitF sep n cur r,p.length≤cur.length+r.length
 |0,cur,r=>by simp[splitF]
 |n+1,cur,r=>by
  rw[splitF_succ]
  split
  ·
   simp
  split
  ·
   intro p hp
   rcases List.mem_cons.1 hp with rfl|hp
   ·
    omega
   ·
    have:=splitF_part sep n [] _ p hp
    rw[List.length_nil,List.length_drop]at this
    omega
  cases r with
  |nil=>simp
  |cons c t =>
   intro p hp
   have:=splitF_part sep n _ _ p hp
   simp at this ⊢
   omega
theorem split_part {s sep:Str}{p:Str}(h:p∈split s sep):p.length≤s.length:=by
 have:=splitF_part sep _ _ _ p h
 simpa using this
theorem split_len (s sep:Str):(split s sep).length≤s.length+1:=splitF_len sep _ _ _
def smallN (o:Option Int):Bool:=match o with
 |none=>true
 |some v=>decide (0≤v∧v < 100)
def smallS (s:Str):Bool:=(split s [59,32]).all fun p=>(split p [32]).all fun w=>smallN (numV w)&&smallN (regV w)
theorem smallN_of {o:Option Int}{v:Int}(h:smallN o=true) (hv:o=some v):0≤v∧v < 100:=by
 subst hv;simpa[smallN] using h
theorem insAll_cons {p:Str}{r:List Str}{l:List Ins}(h:insAll (p::r)=some l):∃ i l',insP (split p [32])=some i∧insAll r=some l'∧l=i::l':=by
 simp only[insAll]at h
 split at h
 ·
  next i l' h1 h2=>cases h;exact⟨i,l',h1,h2,rfl⟩
 ·
  cases h
theorem insP_some {l:List Str}{i:Ins}(h:insP l=some i):∃ w ws,l=w::ws∧kindOf w≠0∧ws.length=(form (kindOf w).toNat).length∧fillI ⟨kindOf w,0,0,0,[]⟩ (form (kindOf w).toNat) ws=some i:=by
 match l,h with
 | [],h=>simp[insP]at h
 |w::ws,h =>
  simp only[insP]at h
  split at h
  ·
   cases h
  ·
   next h1 =>
   split at h
   ·
    next h2=>exact⟨w,ws,rfl,h1,h2,h⟩
   ·
    cases h
theorem fillI_cons {i i':Ins}{c:UInt8}{f:Str}{w:Str}{ws:List Str}(h:fillI i (c::f) (w::ws)=some i') :
  (c.toNat=107∧fillI { i with key:=w } f ws=some i')∨(c.toNat=110∧∃ n,numV w=some n∧fillI { i with n:=n } f ws=some i') ∨
  (c.toNat≠107∧c.toNat≠110∧∃ r x,w=114::r∧numV r=some x∧((c.toNat=114∧fillI { i with a:=x } f ws=some i')∨(c.toNat≠114∧fillI { i with b:=x } f ws=some i'))):=by
 have hc:∀ k:UInt8,c=k↔c.toNat=k.toNat:=fun k=>by rw[UInt8.toNat_inj]
 simp only[fillI]at h
 split at h
 ·
  next h1=>exact .inl ⟨(hc _).1 h1,h⟩
 ·
  next h1 =>
  have h1':c.toNat≠107:=fun e=>h1 ((hc 107).2 e)
  split at h
  ·
   next h2 =>
   split at h
   ·
    next n hn=>exact .inr (.inl ⟨(hc _).1 h2,n,hn,h⟩)
   ·
    cases h
  ·
   next h2 =>
   have h2':c.toNat≠110:=fun e=>h2 ((hc 110).2 e)
   refine .inr (.inr ⟨h1',h2',?_⟩)
   split at h
   ·
    next x hx =>
    have:∃ r,w=114::r∧numV r=some x:=by
     match w,hx with
     | [],hx=>simp[regV]at hx
     |b::r,hx =>
      by_cases hb:b=114
      ·
       subst hb;exact⟨r,rfl,hx⟩
      ·
       unfold regV at hx
       split at hx
       ·
        next r' he=>cases he;exact absurd rfl hb
       ·
        cases hx
    obtain⟨r,h3,h4⟩:=this
    refine⟨r,x,h3,h4,?_⟩
    split at h
    ·
     next h5=>exact .inl ⟨(hc _).1 h5,h⟩
    ·
     next h5=>exact .inr ⟨fun e=>h5 ((hc 114).2 e),h⟩
   ·
    cases h
theorem parseD_some {s:Str}{d:Deed}(h:parseD s=some d):s.length≤400∧∃ p0 p1 ps,split s [59,32]=p0::p1::ps∧split p0 [32]=[114,101,97,100,115]::d.reads∧split p1 [32]=[119,114,105,116,101,115]::d.writes∧insAll ps=some d.code∧wrongDeed d=0:=by
 unfold parseD at h
 split at h
 ·
  cases h
 ·
  next h0 =>
  refine⟨by omega,?_⟩
  split at h
  ·
   next p0 p1 ps h1 =>
   split at h
   ·
    next w0 rs w1 ws code h2 h3 h4 =>
    split at h
    ·
     next h5 =>
     obtain⟨rfl,rfl,h6⟩:=h5
     cases h
     exact⟨p0,p1,ps,h1,h2,h3,h4,h6⟩
    ·
     cases h
   ·
    cases h
  ·
   cases h
end Go.Proofs.YtfpkamiobdkcpaaGreatDoor
