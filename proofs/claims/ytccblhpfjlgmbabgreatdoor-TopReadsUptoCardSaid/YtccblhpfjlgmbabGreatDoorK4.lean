/-
  Part 4 of what the claim leans on: G18 G15 ShSort AxSort G16 P6 G5 G6 G17 G9 G10 G19 P7 P9 P10 P11 P12 P21 P22 AxBsO AxByt AxGen AxS2b Lg AxStr H1 P23 J1 ShTrim R3 G20 G21 G22 AxLend J2.
-/
import Derived.Test.YtccblhpfjlgmbabGreatDoorK3
import Derived.Shelf.Sort.Plain
import Derived.Shelf.Slices.In.SortNone
import Derived.Test.YtccblhpfjlgmbabGreatDoorProg
import Derived.Sort.OwnSortedInts
import Derived.RangeFuncNested
import Derived.RangeFuncLeaves
import Derived.Shelf.Abstract
import Derived.WalkKit
import Derived.OwnWalkIn
import Derived.TacticsInMore
import Derived.LoopNIn
import Derived.LoopIn
import Derived.Lib.AppendStr
import Derived.Lib.ConvBytes
import Derived.Laws.BytesString
import Derived.Shelf.Strings.SlTrimAscii
set_option linter.all false

namespace Go.Proofs.YtccblhpfjlgmbabGreatDoor
open Go.AX Go.RF
set_option maxRecDepth 100000
set_option maxHeartbeats 8000000
abbrev ownE (e:Engine):List Part:=[.d (encChains e.chains),.own 28 3 (e.deeds.map Deed.enc),.own 3 1 (e.state.map encInt1),.own 163 5 (e.ends.map Done.enc),.d (dint e.base)]
theorem news_planOwn (e:Engine) (hs:e.Sm):FnNews Tryz.prog 67 [.d (.agg e.enc)] (ownE e):=by
 refine fnNews_of tbl_ok mixed_ok Tryz.func67 rfl (by kernel_rfl) rfl rfl fun w0 own0=>?_
 have h1:=hs.c
 have h2:=hs.s
 have h3:=hs.n
 have h4:=hs.d
 have c1:=ok_chainOwn e.chains (by omega) (fun c hc=>by have:=hs.v c hc;omega)
 have c2:=new_clone_int (e.state.map encInt1) (by simp;omega)
 have c3:=new_clone_done (e.ends.map Done.enc) (by simp;omega)
 have hst0:StopR 1:=⟨rfl⟩
 try refine wkS ?_
 clear hst0
 refine Stop.go (CW.stut stut_reserve ⟨rfl,trivial⟩ ?_)
 repeat(first|((with_reducible apply s5);(with_reducible apply(a_allocR 2));exact rfl;exact rfl;exact rfl;exact rfl;exact by_g)|refine wa1 ?_|((with_reducible apply s5);(first|((with_reducible apply a_buildA);(iterate 4 exact rfl);(repeat(first|exact PartsV.nil|(apply PartsV.cons;exact rfl;exact rfl;(first|exact⟨rfl,trivial⟩|(apply nw_own;exact rfl;(focus first|exact rfl|(simp;done)|(simp;omega)))))));exact rfl)|exact a_callnew c2 rfl rfl by_sub|exact a_callnew c3 rfl rfl by_sub|exact by_oa|exact by_ca);exact by_g)|refine wb ?_)
 refine CW.stut (stut_promote_cell (id:=2) (j:=1) 28 3 rfl) ⟨rfl,rfl,trivial⟩ ?_
 refine CW.loopT (fun i:Nat=>[sp 2 1,ob 1 noE.enc0,sp 3 2,(.o 2,.ob (.box [.d (encChains e.chains),.own 5 i,.own 3 (e.state.map encInt1).length,.own 4 (e.ends.map Done.enc).length,.d (dint e.base)])),sd 19 (encDeeds e.deeds),sd 20 (dint e.deeds.length),sd 21 (dint i),
   oa 3 3 1 (e.state.map encInt1),oa 4 163 5 (e.ends.map Done.enc),oa 5 28 3 ((e.deeds.take i).map Deed.enc),nxt 6]) (fun i=>i≤e.deeds.length) (fun i=>e.deeds.length - i) 0 (by omega) ?_ ?_
 ·
  exact by_less
 ·
  rintro i hi
  rcases drop_case hi with ⟨h5,h6⟩|⟨d,h5,h6,h7⟩
  ·
   have h8:(e.deeds.take i).map Deed.enc=e.deeds.map Deed.enc:=by rw[h6,List.take_length]
   rw[h8]
   try refine wk ?_
   refine .cell rfl rfl rfl rfl (.cons .d (.cons (.own rfl (by simp;omega)) (.cons (.own rfl (by simp)) (.cons (.own rfl (by simp)) (.cons .d .nil))))) (show([5,3,4]:List Nat).Nodup by decide)
  ·
   have h8:(e.deeds.take i).map Deed.enc++[d.enc]=(e.deeds.take (i+1)).map Deed.enc:=by rw[List.take_add_one,h6];simp
   have hd:=ok_deedOwn d (hs.dd d (List.mem_of_getElem? h6))
   try refine wk ?_
   refine q_loopT (i+1) (by omega) (by omega) ?_
   exact by_less
def idxS:Nat→List Str→Str→Int
 |_,[],_ => -1
 |i,x::l,s=>if x=s then (i:Int) else idxS (i+1) l s
theorem idxS_in:∀ {l:List Str}{i:Nat}{s:Str},decide (0≤idxS i l s)=isIn l s
 | [],i,s=>rfl
 |x::l,i,s=>by
  by_cases h:x=s
  ·
   simp only[idxS,isIn,if_pos h];exact decide_eq_true (by omega)
  ·
   simp only[idxS,isIn,if_neg h];exact idxS_in
theorem ok_indexS (l:List Str) (s:Str) (hl:l.length≤1073741824):FnOk Tryz.prog 47 [.d (encStrs l),.d (dstr s)] (.one (dint (idxS 0 l s))):=by
 refine fnOk_of tbl_ok mixed_ok Tryz.func47 rfl (by kernel_rfl) rfl rfl fun w0 own0=>?_
 try refine wk ?_
 refine CW.loopT (fun t:Nat=>[sd 0 (encStrs l),sd 1 (dstr s),sd 6 (encStrs l),sd 7 (dint l.length),sd 8 (dint t),nxt 0])
  (fun t=>t≤l.length∧idxS t (l.drop t) s=idxS 0 l s) (fun t=>l.length - t) 0 ⟨by omega,rfl⟩ ?_ ?_
 ·
  exact by_less
 ·
  rintro t ⟨ht,hI⟩
  rcases drop_case ht with ⟨h1,h2⟩|⟨x,h1,h2,h3⟩
  ·
   rw[h1,idxS]at hI
   try refine wk ?_
   rw[← hI]
   exact .one (.tmp rfl (.one (.d (.refl _))))
  ·
   rw[h1,idxS]at hI
   by_cases h:x=s
   ·
    rw[if_pos h]at hI
    have h':s=x:=h.symm
    try refine wk ?_
    rw[← hI]
    exact .one (.tmp rfl (.one (.d (.refl _))))
   ·
    rw[if_neg h]at hI
    have h':¬ s=x:=fun e=>h e.symm
    try refine wk ?_
    refine q_loopT (t+1) ⟨by omega,hI⟩ (by omega) ?_
    exact by_less
theorem ok_containsS (l:List Str) (s:Str) (hl:l.length≤1073741824):FnOk Tryz.prog 75 [.d (encStrs l),.d (dstr s)] (.one (dbool (isIn l s))):=by
 refine fnOk_of tbl_ok mixed_ok Tryz.func75 rfl (by kernel_rfl) rfl rfl fun w0 own0=>?_
 have c1:=ok_indexS l s hl
 try refine wk ?_
 rw[← idxS_in (i:=0)]
 exact .one (.tmp rfl (.one (.d (.refl _))))
def isNum (l:List Int) (n:Int):Bool:=match l with
 | []=>false
 |x::l=>if x=n then true else isNum l n
def idxI:Nat→List Int→Int→Int
 |_,[],_ => -1
 |i,x::l,s=>if x=s then (i:Int) else idxI (i+1) l s
theorem idxI_in:∀ {l:List Int}{i:Nat}{s:Int},decide (0≤idxI i l s)=isNum l s
 | [],i,s=>rfl
 |x::l,i,s=>by
  by_cases h:x=s
  ·
   simp only[idxI,isNum,if_pos h];exact decide_eq_true (by omega)
  ·
   simp only[idxI,isNum,if_neg h];exact idxI_in
theorem ok_indexI (l:List Int) (s:Int) (hl:l.length≤1073741824):FnOk Tryz.prog 114 [.d (encInts l),.d (dint s)] (.one (dint (idxI 0 l s))):=by
 refine fnOk_of tbl_ok mixed_ok Tryz.func114 rfl (by kernel_rfl) rfl rfl fun w0 own0=>?_
 try refine wk ?_
 refine CW.loopT (fun t:Nat=>[sd 0 (encInts l),sd 1 (dint s),sd 6 (encInts l),sd 7 (dint l.length),sd 8 (dint t),nxt 0])
  (fun t=>t≤l.length∧idxI t (l.drop t) s=idxI 0 l s) (fun t=>l.length - t) 0 ⟨by omega,rfl⟩ ?_ ?_
 ·
  exact by_less
 ·
  rintro t ⟨ht,hI⟩
  rcases drop_case ht with ⟨h1,h2⟩|⟨x,h1,h2,h3⟩
  ·
   rw[h1,idxI]at hI
   try refine wk ?_
   rw[← hI]
   exact .one (.tmp rfl (.one (.d (.refl _))))
  ·
   rw[h1,idxI]at hI
   by_cases h:x=s
   ·
    rw[if_pos h]at hI
    have h':s=x:=h.symm
    try refine wk ?_
    rw[← hI]
    exact .one (.tmp rfl (.one (.d (.refl _))))
   ·
    rw[if_neg h]at hI
    have h':¬ s=x:=fun e=>h e.symm
    try refine wk ?_
    refine q_loopT (t+1) ⟨by omega,hI⟩ (by omega) ?_
    exact by_less
theorem ok_containsI (l:List Int) (s:Int) (hl:l.length≤1073741824):FnOk Tryz.prog 82 [.d (encInts l),.d (dint s)] (.one (dbool (isNum l s))):=by
 refine fnOk_of tbl_ok mixed_ok Tryz.func82 rfl (by kernel_rfl) rfl rfl fun w0 own0=>?_
 have c1:=ok_indexI l s hl
 try refine wk ?_
 rw[← idxI_in (i:=0)]
 exact .one (.tmp rfl (.one (.d (.refl _))))
theorem keysGo'_append:∀ {a b out:List Str},keysGo' out (a++b)=keysGo' (keysGo' out a) b
 | [],b,out=>rfl
 |k::a,b,out=>by simp only[List.cons_append,keysGo'];exact keysGo'_append
theorem keysGo'_nodup:∀ {l out:List Str},(∀ k∈l,k∉out)→l.Nodup→keysGo' out l=out++l
 | [],out,_,_=>by simp[keysGo']
 |k::l,out,h,hn=>by
  obtain⟨h1,h2⟩:=List.nodup_cons.1 hn
  simp only[keysGo']
  rw[if_neg (fun e=>h k (List.mem_cons_self ..) (isIn_true e)),keysGo'_nodup (fun x hx hm=>?_) h2,List.append_assoc]
  ·
   rfl
  ·
   rcases List.mem_append.1 hm with hm|hm
   ·
    exact h x (List.mem_cons_of_mem _ hx) hm
   ·
    simp at hm;subst hm;exact h1 hx
theorem keysD_eq {d:Deed}(h:d.reads.Nodup):keysD d=keysGo' d.reads d.writes:=by
 unfold keysD
 rw[keysGo'_append,keysGo'_nodup (by simp) h]
 rfl
theorem ok_pkeys (d:Deed) (hn:d.reads.Nodup) (hr:d.reads.length≤268435456) (hw:d.writes.length≤268435456):FnOk Tryz.prog 81 [.d (.agg d.enc)] (.one (encStrs (keysD d))):=by
 refine fnOk_of tbl_ok mixed_ok Tryz.func81 rfl (by kernel_rfl) rfl rfl fun w0 own0=>?_
 have c1:=new_clone_str (d.reads.map encStr1) (by simp;omega)
 rw[keysD_eq hn]
 repeat(first|refine wa ?_|((with_reducible apply s5);(first|exact a_callnew c1 rfl rfl by_sub|exact by_oa|exact by_ca);exact by_g)|refine wb ?_)
 refine CW.loopT (fun t:Nat×List Str=>[sp 1 0,ob 0 d.enc,sd 2 (.v nilS),so 3 1 t.2.length,oa 1 9 1 (t.2.map encStr1),sd 10 (encStrs d.writes),sd 11 (dint d.writes.length),sd 12 (dint t.1),nxt 2])
  (fun t=>t.1≤d.writes.length∧t.2.length≤d.reads.length+t.1∧keysGo' t.2 (d.writes.drop t.1)=keysGo' d.reads d.writes) (fun t=>d.writes.length - t.1) (0,d.reads) ⟨by omega,by simp,rfl⟩ ?_ ?_
 ·
  exact by_less
 ·
  rintro ⟨j,out⟩ ⟨hj,ho,hJ⟩
  dsimp only at hj ho hJ ⊢
  rcases drop_case hj with ⟨h1,h2⟩|⟨k,h1,h2,h3⟩
  ·
   rw[h1,keysGo']at hJ
   try refine wk ?_
   rw[← hJ]
   exact .one (.tmp rfl (.one (.own rfl (by simp) (.refl _))))
  ·
   rw[h1,keysGo']at hJ
   have c2:=ok_containsS out k (by omega)
   cases h:isIn out k with
   |true =>
    rw[h]at c2 hJ
    repeat(first|refine wa ?_|((with_reducible apply s5);(first|(focus ((with_reducible apply a_lend);exact c2;exact rfl;exact .plain rfl;(focus first|exact rfl|(simp;done)|(simp;omega));(iterate 2 exact rfl);exact by_sub))|exact by_oa|exact by_ca);exact by_g)|refine wb ?_)
    refine q_loopT (j+1,out) ⟨by dsimp only;omega,by dsimp only;omega,hJ⟩ (by dsimp only;omega) ?_
    exact by_less
   |false =>
    rw[h]at c2 hJ
    repeat(first|refine wa ?_|((with_reducible apply s5);(first|(focus ((with_reducible apply a_lend);exact c2;exact rfl;exact .plain rfl;(focus first|exact rfl|(simp;done)|(simp;omega));(iterate 2 exact rfl);exact by_sub))|exact by_oa|exact by_ca);exact by_g)|refine wb ?_)
    refine q_loopT (j+1,out++[k]) ⟨by dsimp only;omega,by dsimp only;simp;omega,hJ⟩ (by dsimp only;omega) ?_
    exact by_less
end Go.Proofs.YtccblhpfjlgmbabGreatDoor
namespace Go.Proofs
open Go.Shelf Go.RowKit
set_option maxRecDepth 100000
noncomputable def Tryz.lays189_ren:Go.Shelf.Ren:=⟨fun|125=>116|128=>156|129=>110|189=>83|215=>175|216=>153|257=>115|294=>147|295=>148|296=>149|297=>150|298=>151|299=>152|300=>154|301=>155|328=>170|329=>171|330=>172|331=>173|332=>174|343=>185|n=>n,fun|0=>0|3=>3|4=>4|5=>5|9=>9|28=>61|46=>154|51=>184|53=>143|131=>108|182=>218|183=>219|218=>247|222=>251|228=>261|229=>262|n=>n,fun|n=>n⟩
theorem Tryz.lays189:Go.Proofs.Lays.n189 Tryz.prog Tryz.lays189_ren:={
 mixed:=by kernel_rfl
 f125:=Tryz.func116.trans (congrArg some (by kernel_rfl))
 f128:=Tryz.func156.trans (congrArg some (by kernel_rfl))
 f129:=Tryz.func110.trans (congrArg some (by kernel_rfl))
 f189:=Tryz.func83.trans (congrArg some (by kernel_rfl))
 f215:=Tryz.func175.trans (congrArg some (by kernel_rfl))
 f216:=Tryz.func153.trans (congrArg some (by kernel_rfl))
 f257:=Tryz.func115.trans (congrArg some (by kernel_rfl))
 f294:=Tryz.func147.trans (congrArg some (by kernel_rfl))
 f295:=Tryz.func148.trans (congrArg some (by kernel_rfl))
 f296:=Tryz.func149.trans (congrArg some (by kernel_rfl))
 f297:=Tryz.func150.trans (congrArg some (by kernel_rfl))
 f298:=Tryz.func151.trans (congrArg some (by kernel_rfl))
 f299:=Tryz.func152.trans (congrArg some (by kernel_rfl))
 f300:=Tryz.func154.trans (congrArg some (by kernel_rfl))
 f301:=Tryz.func155.trans (congrArg some (by kernel_rfl))
 f328:=Tryz.func170.trans (congrArg some (by kernel_rfl))
 f329:=Tryz.func171.trans (congrArg some (by kernel_rfl))
 f330:=Tryz.func172.trans (congrArg some (by kernel_rfl))
 f331:=Tryz.func173.trans (congrArg some (by kernel_rfl))
 f332:=Tryz.func174.trans (congrArg some (by kernel_rfl))
 f343:=Tryz.func185.trans (congrArg some (by kernel_rfl))
 t0:=Tryz.underlying0
 a0:=Tryz.isAgg0
 z0:=Tryz.sizeOf0
 v0:=Tryz.zeroValue0
 t3:=Tryz.underlying3
 a3:=Tryz.isAgg3
 z3:=Tryz.sizeOf3
 v3:=Tryz.zeroValue3
 t4:=Tryz.underlying4
 a4:=Tryz.isAgg4
 z4:=Tryz.sizeOf4
 v4:=Tryz.zeroValue4
 t5:=Tryz.underlying5
 a5:=Tryz.isAgg5
 z5:=Tryz.sizeOf5
 v5:=Tryz.zeroValue5
 t9:=Tryz.underlying9
 a9:=Tryz.isAgg9
 z9:=Tryz.sizeOf9
 v9:=Tryz.zeroValue9
 t28:=Tryz.underlying61
 a28:=Tryz.isAgg61
 z28:=Tryz.sizeOf61
 v28:=Tryz.zeroValue61
 t46:=Tryz.underlying154
 a46:=Tryz.isAgg154
 z46:=Tryz.sizeOf154
 v46:=Tryz.zeroValue154
 t51:=Tryz.underlying184
 a51:=Tryz.isAgg184
 z51:=Tryz.sizeOf184
 v51:=Tryz.zeroValue184
 t53:=Tryz.underlying143
 a53:=Tryz.isAgg143
 z53:=Tryz.sizeOf143
 v53:=Tryz.zeroValue143
 t131:=Tryz.underlying108
 a131:=Tryz.isAgg108
 z131:=Tryz.sizeOf108
 v131:=Tryz.zeroValue108
 t182:=Tryz.underlying218
 a182:=Tryz.isAgg218
 z182:=Tryz.sizeOf218
 v182:=Tryz.zeroValue218
 t183:=Tryz.underlying219
 a183:=Tryz.isAgg219
 z183:=Tryz.sizeOf219
 v183:=Tryz.zeroValue219
 t218:=Tryz.underlying247
 a218:=Tryz.isAgg247
 z218:=Tryz.sizeOf247
 v218:=Tryz.zeroValue247
 t222:=Tryz.underlying251
 a222:=Tryz.isAgg251
 z222:=Tryz.sizeOf251
 v222:=Tryz.zeroValue251
 t228:=Tryz.underlying261
 a228:=Tryz.isAgg261
 z228:=Tryz.sizeOf261
 v228:=Tryz.zeroValue261
 t229:=Tryz.underlying262
 a229:=Tryz.isAgg262
 z229:=Tryz.sizeOf262
 v229:=Tryz.zeroValue262
 }
end Go.Proofs
namespace Go.AX
open Go.RowKit
variable {cx:Cx}{g:Nat→Value}{σ σ':St}{a:Act}{w w':World}{nx:Nat}{c:Code}{Q:Exit→St→Prop}
variable {ty:TypeId}{pos:String}{af:Array Edge}{gd:Option (Nat×Bool)}{d:Nat}
structure FnIn (P:Program) (f:FuncId) (e k:Nat) (rows rows':List (List D)):Prop where
 run : ∃ fn, P.funcs[f]? = some fn ∧ (fn.name == "runtime.NumGoroutine") = false ∧ fn.body.isNone = false
 len:rows'.length=rows.length
 calls:∀ (w:World) (own:Nat→Prop) (v:Value),((∀ b,own b→b < w.heap.size)∧Gl P w)→RowsAt w 0 (with1 own v) e k v rows→(∀ b,own b→blk v≠some b) →
  Calls P f #[v] w fun r w'=>∃ u,r = .returned u∧BelowBut v w w'∧RowsAt w' 0 (with1 own v) e k v rows'
theorem a_inplace {f:FuncId}{x:Operand}{e k id n:Nat}{rows rows':List (List D)}{ats:Array TypeId}(hc:FnIn cx.P f e k rows rows') (hx:ev σ x=some (.own id n)) (ho:get σ (.o id) = .ob (.arr e k rows)) (hnx:get σ .nx = .num nx) (hn:n=rows.length) (hd:Nat.blt d cx.n=true) :
  OA cx σ ⟨some d,.call { callee := .value (.func f),args := #[x],argTypes:=ats },ty,pos,af,gd⟩ ⟨rdOf x (.own id n)++[(.o id,.ob (.arr e k rows)),(.nx,.num nx)],[(.s d,.av .any),(.o id,.ob (.arr e k rows')),(.nx,.num nx)]⟩:=by
 refine⟨?_,(ev_out hx).2.append ⟨ho,hnx,trivial⟩⟩
 rintro σ a w K Q ⟨g,n',hs⟩ hr hK
 have hnx:n'=nx:=by
  have h2:=hr.right.2.1
  rw[hs.hnx]at h2
  simpa using h2
 subst hnx
 have ho:get σ (.o id) = .ob (.arr e k rows):=hr.right.1
 have hidlt:=(hs.objs id _ ho).1
 have hval:a.eval x=g id:=((hs.ev (ev_out hx).1 hr.left).1.2 e k rows ho).2 hn
 have hR:=objRows hs ho
 have hw1:∀ b,with1 (fun b=>cx.own g σ b∧blk (g id)≠some b) (g id) b→cx.own g σ b:=by
  rintro b (h|h)
  ·
   exact h.1
  ·
   exact .inr ⟨id,_,ho,h⟩
 have hcall:=hc.calls w (fun b=>cx.own g σ b∧blk (g id)≠some b) (g id) ⟨fun b hb=>own_lt hs hb.1,hs.gl⟩ (hR.re (fun b _=>Nat.zero_le _) hw1) (fun b hb=>hb.2)
 unfold Oper.wp
 rw[call_run (xs:=[x]) hc.run,List.map_cons,List.map_nil,hval]
 refine hcall.mono fun r w' he=>?_
 obtain⟨u,rfl,hbb,hR'⟩:=he
 have hge:=hs.below.size
 have hst:ObjStep cx σ g n' n' w w' id (.arr e k rows') (g id):=by
  refine⟨.inr ⟨rfl,_,ho,rfl,rfl,Nat.le_of_eq hc.len.symm,fun _=>upd_same _ _ _⟩,⟨hbb.os,hbb.tape,hbb.output,hbb.size,fun b hb=>hbb.block b (by omega) fun he=>by have:=obj_ge hs ho he;omega⟩,fun b hb h=>hbb.block b hb (h _ ho),fun b hb => .inl ⟨_,ho,hb⟩⟩
 have hG:SimG cx (objSt σ n' id (.arr e k rows')) a w' (upd g id (g id)) n':=by
  refine SimG.obj hs hst (fun hl=>?_) trivial
  show RowsAt w' cx.w0.heap.size _ e k (upd g id (g id) id) rows'
  rw[upd_same]
  refine hR'.re (fun b hb=>obj_ge hs ho hb) fun b hb=>?_
  rcases hb with h|⟨j,o,h1,h2⟩
  ·
   refine .inl ⟨.inl h,fun he=>?_⟩
   have h3:=obj_ge hs ho he
   have h4:=hs.own0.1 b h
   omega
  ·
   by_cases hj:j=id
   ·
    subst hj;rw[upd_same]at h2;exact .inr h2
   ·
    rw[objSt_o hj]at h1
    rw[upd_ne hj]at h2
    exact .inl ⟨.inr ⟨j,o,h1,h2⟩,fun he=>hj (hs.sep j id o _ b h1 ho h2 he)⟩
 exact hK _ _ (Sim.put hG (lt_of_blt hd) (Below.refl _ _) (av := .any) trivial trivial)
end Go.AX
namespace Go.Proofs.YtccblhpfjlgmbabGreatDoor
open Go.AX Go.RF Go.RowKit Go.Sort Go.ChangeShapes Go.WideShapes
abbrev sorted (zs:List Int):List Int:=zs.mergeSort fun x y=>decide (x≤y)
theorem int_rows {w:World}{base:Nat}{own:Nat→Prop}{e:Nat}{v:Value}{zs:List Int}(h:RowsAt w base own e 1 v (zs.map encInt1)):w.ownsRow base e 1 v zs.length (zs.map (Value.int .i64)):=by
 obtain⟨xs,h1,h2,h3,h4⟩:=h
 have hl:xs.length=zs.length:=by have:=h1.1;simpa using this
 have he:xs=zs.map (Value.int .i64):=by
  apply List.ext_getElem (by simpa using hl)
  intro i hi hi'
  have hi2:i < zs.length:=by omega
  have hz:zs[i]? = some zs[i]:=List.getElem?_eq_getElem hi2
  have:=h4 i 0 (encInt1 zs[i]) (dint zs[i]) xs[i] (by rw[List.getElem?_map,hz];rfl) rfl (by simp)
  rw[rd_v this]
  simp
 rw[← he]
 simpa using h1
theorem rows_int {w:World}{base:Nat}{own:Nat→Prop}{e:Nat}{v:Value}{zs:List Int}(h:w.ownsRow base e 1 v zs.length (zs.map (Value.int .i64))):RowsAt w base own e 1 v (zs.map encInt1):=by
 refine⟨zs.map (Value.int .i64),by simpa using h,fun x hx=>?_,fun r hr=>?_,fun i j r x u hi hj hu=>?_⟩
 ·
  obtain⟨z,_,rfl⟩:=List.mem_map.1 hx;rfl
 ·
  obtain⟨z,_,rfl⟩:=List.mem_map.1 hr;rfl
 ·
  rw[List.getElem?_map]at hi
  cases hz:zs[i]? with
  |none=>rw[hz]at hi;cases hi
  |some z =>
   rw[hz]at hi
   simp at hi;subst hi
   cases j with
   |zero =>
    simp[encInt1]at hj;subst hj
    rw[Nat.mul_one,Nat.add_zero,List.getElem?_map,hz]at hu
    simp at hu;subst hu
    exact Rd.v _
   |succ j=>simp[encInt1]at hj
theorem in_sort (zs:List Int) (hl:zs.length≤1073741824):FnIn Tryz.prog 83 3 1 (zs.map encInt1) ((sorted zs).map encInt1):=by
 refine⟨⟨_,Tryz.func83,by kernel_rfl,by kernel_rfl⟩,by simp[sorted],fun w own v _ hR _=>?_⟩
 have h1:=int_rows hR
 rcases h1.2 with ⟨rfl,hn⟩|⟨b,cap,cur,rfl,_,hb,hle,hcm,hsz,htk⟩
 ·
  obtain rfl:zs=[]:=List.eq_nil_of_length_eq_zero hn
  refine(Any.slices_Sort_int_none Tryz.lays189 none 0 w).mono ?_
  rintro r w' ⟨rfl,rfl⟩
  rw[show sorted []=[] by simp[sorted]]
  exact⟨_,rfl,⟨rfl,rfl,rfl,Nat.le_refl _,fun b _ _=>rfl⟩,⟨[],World.ownsRow_nil _ _ _ _,by simp,by simp,by simp⟩⟩
 ·
  have hblt:b < w.heap.size:=by
   rcases Nat.lt_or_ge b w.heap.size with h|h
   ·
    exact h
   ·
    rw[Array.getElem?_eq_none h]at hb;cases hb
  have hH:=holds_of_blockI (ss:=zs) hb (by simpa using htk)
  refine(Any.slices_Sort_int Tryz.lays189 b 0 cap zs w hH hblt (by omega)).mono ?_
  rintro r w' ⟨rfl,n,os,rfl⟩
  have hg:=grownBy_sortedI (w:=w) (g:=b) (n:=n) (os:=os) (sorted zs).toArray
  have hrow:=ownsRow_sortedI (w:=w) (base:=0) (n:=n) (os:=os) (ss:=zs) (ts:=sorted zs) (by simp[sorted]) (Nat.zero_le _) hb hle hcm (by simpa using hsz)
  refine⟨_,rfl,⟨hg.os,hg.tape,hg.output,hg.size,fun c hc hne=>hg.block c hc fun e=>hne (show some b=some c from e.symm)⟩,?_⟩
  have hlen:(sorted zs).length=zs.length:=by simp[sorted]
  rw[← hlen]at hrow
  have:=rows_int (own:=with1 own (Value.slice (some ⟨b,0,none⟩) (sorted zs).length cap)) hrow
  rw[hlen]at this
  exact this
end Go.Proofs.YtccblhpfjlgmbabGreatDoor
namespace Go.Proofs.YtccblhpfjlgmbabGreatDoor
open Go.AX Go.RF
theorem int_ext:∀ {l r:List Int},l.Pairwise (· < ·)→r.Pairwise (· < ·)→(∀ x,x∈l↔x∈r)→l=r
 | [],[],_,_,_=>rfl
 | [],q::r,_,_,h=>by have:=(h q).2 (List.mem_cons_self ..);simp at this
 |p::l,[],_,_,h=>by have:=(h p).1 (List.mem_cons_self ..);simp at this
 |p::l,q::r,hl,hr,h=>by
  obtain⟨h1,h2⟩:=List.pairwise_cons.1 hl
  obtain⟨h3,h4⟩:=List.pairwise_cons.1 hr
  have hpq:p=q:=by
   rcases List.mem_cons.1 ((h p).1 (List.mem_cons_self ..)) with e|e
   ·
    exact e
   ·
    rcases List.mem_cons.1 ((h q).2 (List.mem_cons_self ..)) with f|f
    ·
     exact f.symm
    ·
     have:=h1 q f;have:=h3 p e;omega
  subst hpq
  refine congrArg (p :: ·) (int_ext h2 h4 fun x=>⟨fun hx=>?_,fun hx=>?_⟩)
  ·
   rcases List.mem_cons.1 ((h x).1 (List.mem_cons_of_mem _ hx)) with rfl|e
   ·
    have:=h1 x hx;omega
   ·
    exact e
  ·
   rcases List.mem_cons.1 ((h x).2 (List.mem_cons_of_mem _ hx)) with rfl|e
   ·
    have:=h3 x hx;omega
   ·
    exact e
theorem isNum_mem {n:Int}:∀ {l:List Int},isNum l n=true↔n∈l
 | []=>by simp[isNum]
 |x::l=>by
  simp only[isNum]
  by_cases h:x=n
  ·
   simp[h]
  ·
   rw[if_neg h,isNum_mem]
   simp[Ne.symm h]
theorem isNum_false {l:List Int}{n:Int}(h:isNum l n=false):n∉l:=fun hm=>by
 rw[isNum_mem.2 hm]at h;cases h
def pneedsGo (cs:List Chain) (base b:Int):List Int→List Str→List Int
 |out,[]=>out
 |out,k::r=>pneedsGo cs base b (if (before cs k b).made=false∧isNum out ((before cs k b).by_ - base)=false then out++[(before cs k b).by_ - base] else out) r
def pneeds (e:Engine) (at_:Nat) (d:Deed):List Int:=sorted (pneedsGo e.chains e.base (e.base+at_) [] (keysD d))
theorem pneedsGo_mem {cs:List Chain}{base b x:Int}:∀ {ks:List Str}{out:List Int},x∈pneedsGo cs base b out ks↔x∈out∨∃ k∈ks,(before cs k b).made=false∧x=(before cs k b).by_ - base
 | [],out=>by simp[pneedsGo]
 |k::ks,out=>by
  simp only[pneedsGo]
  rw[pneedsGo_mem]
  by_cases h:(before cs k b).made=false
  ·
   cases h2:isNum out ((before cs k b).by_ - base) with
   |true =>
    rw[if_neg (by simp)]
    have:=isNum_mem.1 h2
    constructor
    ·
     rintro (h3|⟨k',h3,h4⟩)
     ·
      exact .inl h3
     ·
      exact .inr ⟨k',List.mem_cons_of_mem _ h3,h4⟩
    ·
     rintro (h3|⟨k',h3,h4,h5⟩)
     ·
      exact .inl h3
     ·
      rcases List.mem_cons.1 h3 with rfl|h3
      ·
       exact .inl (by rw[h5];exact this)
      ·
       exact .inr ⟨k',h3,h4,h5⟩
   |false =>
    rw[if_pos ⟨h,rfl⟩]
    constructor
    ·
     rintro (h3|⟨k',h3,h4⟩)
     ·
      rcases List.mem_append.1 h3 with h3|h3
      ·
       exact .inl h3
      ·
       simp at h3;exact .inr ⟨k,List.mem_cons_self ..,h,h3⟩
     ·
      exact .inr ⟨k',List.mem_cons_of_mem _ h3,h4⟩
    ·
     rintro (h3|⟨k',h3,h4,h5⟩)
     ·
      exact .inl (List.mem_append_left _ h3)
     ·
      rcases List.mem_cons.1 h3 with rfl|h3
      ·
       exact .inl (by rw[h5];simp)
      ·
       exact .inr ⟨k',h3,h4,h5⟩
  ·
   rw[if_neg (fun e=>h e.1)]
   constructor
   ·
    rintro (h3|⟨k',h3,h4⟩)
    ·
     exact .inl h3
    ·
     exact .inr ⟨k',List.mem_cons_of_mem _ h3,h4⟩
   ·
    rintro (h3|⟨k',h3,h4,h5⟩)
    ·
     exact .inl h3
    ·
     rcases List.mem_cons.1 h3 with rfl|h3
     ·
      exact absurd h4 h
     ·
      exact .inr ⟨k',h3,h4,h5⟩
theorem pneedsGo_nodup {cs:List Chain}{base b:Int}:∀ {ks:List Str}{out:List Int},out.Nodup→(pneedsGo cs base b out ks).Nodup
 | [],out,h=>h
 |k::ks,out,h=>by
  simp only[pneedsGo]
  refine pneedsGo_nodup ?_
  split
  ·
   next h2 =>
   refine List.nodup_append.2 ⟨h,by simp,fun a ha x hx e=>?_⟩
   simp at hx
   subst hx;subst e
   exact isNum_false h2.2 ha
  ·
   exact h
theorem sorted_lt {l:List Int}(h:l.Nodup):(sorted l).Pairwise (· < ·):=by
 have h1:(sorted l).Pairwise (fun a b=>decide (a≤b)=true):=List.pairwise_mergeSort (le:=fun x y:Int=>decide (x≤y)) (by intro a b c;simp;omega) (by intro a b;simp;omega) l
 have h2:(sorted l).Nodup:=(List.mergeSort_perm l _).nodup_iff.2 h
 exact(h1.and h2).imp fun⟨a,b⟩=>by simp at a;omega
theorem anyHit_iff {cs:List Chain}{b want:Int}:∀ {ks:List Str},anyHit cs b want ks=true↔∃ k∈ks,(before cs k b).made=false∧(before cs k b).by_=want
 | []=>by simp[anyHit]
 |k::ks=>by
  simp only[anyHit]
  by_cases h:hit cs b want k=true
  ·
   rw[if_pos h]
   simp only[hit,Bool.and_eq_true,Bool.not_eq_true',decide_eq_true_eq]at h
   exact⟨fun _=>⟨k,List.mem_cons_self ..,h⟩,fun _=>rfl⟩
  ·
   rw[if_neg h,anyHit_iff]
   simp only[hit,Bool.and_eq_true,Bool.not_eq_true',decide_eq_true_eq]at h
   constructor
   ·
    rintro ⟨k',h1,h2⟩;exact⟨k',List.mem_cons_of_mem _ h1,h2⟩
   ·
    rintro ⟨k',h1,h2⟩
    rcases List.mem_cons.1 h1 with rfl|h1
    ·
     exact absurd h2 h
    ·
     exact⟨k',h1,h2⟩
theorem needsGo_mem {cs:List Chain}{base b x:Int}{ks:List Str}:∀ {l:List Nat}{j:Nat},x∈needsGo cs base b ks j l↔∃ k∈l,x=(k:Int)∧anyHit cs b (base+k) ks=true
 | [],j=>by simp[needsGo]
 |k::l,j=>by
  simp only[needsGo]
  by_cases h:anyHit cs b (base+k) ks=true
  ·
   rw[if_pos h,List.mem_cons,needsGo_mem]
   constructor
   ·
    rintro (h1|⟨k',h1,h2⟩)
    ·
     exact⟨k,List.mem_cons_self ..,h1,h⟩
    ·
     exact⟨k',List.mem_cons_of_mem _ h1,h2⟩
   ·
    rintro ⟨k',h1,h2⟩
    rcases List.mem_cons.1 h1 with rfl|h1
    ·
     exact .inl h2.1
    ·
     exact .inr ⟨k',h1,h2⟩
  ·
   rw[if_neg h,needsGo_mem]
   constructor
   ·
    rintro ⟨k',h1,h2⟩;exact⟨k',List.mem_cons_of_mem _ h1,h2⟩
   ·
    rintro ⟨k',h1,h2⟩
    rcases List.mem_cons.1 h1 with rfl|h1
    ·
     exact absurd h2.2 h
    ·
     exact⟨k',h1,h2⟩
theorem needsGo_lt {cs:List Chain}{base b:Int}{ks:List Str}:∀ {l:List Nat}{j:Nat},l.Pairwise (· < ·)→(needsGo cs base b ks j l).Pairwise (· < ·)
 | [],j,_=>List.Pairwise.nil
 |k::l,j,h=>by
  obtain⟨h1,h2⟩:=List.pairwise_cons.1 h
  simp only[needsGo]
  split
  ·
   refine List.pairwise_cons.2 ⟨fun x hx=>?_,needsGo_lt h2⟩
   obtain⟨k',h3,rfl,_⟩:=needsGo_mem.1 hx
   have:=h1 k' h3
   omega
  ·
   exact needsGo_lt h2
theorem pneeds_eq {e:Engine}{at_:Nat}{d:Deed}(hB:∀ k,(before e.chains k (e.base+at_)).made=false→e.base≤(before e.chains k (e.base+at_)).by_∧(before e.chains k (e.base+at_)).by_ < e.base+at_):pneeds e at_ d=needs e at_ d:=by
 refine int_ext (sorted_lt (pneedsGo_nodup List.nodup_nil)) (needsGo_lt List.pairwise_lt_range) fun x=>?_
 unfold needs pneeds
 rw[needsGo_mem,show(x∈sorted (pneedsGo e.chains e.base (e.base+at_) [] (keysD d)))↔_ from List.mem_mergeSort,pneedsGo_mem]
 constructor
 ·
  rintro (h|⟨k,h1,h2,rfl⟩)
  ·
   simp at h
  ·
   obtain⟨h3,h4⟩:=hB k h2
   refine⟨((before e.chains k (e.base+at_)).by_ - e.base).toNat,List.mem_range.2 (by omega),by omega,anyHit_iff.2 ⟨k,h1,h2,by omega⟩⟩
 ·
  rintro ⟨k,h1,rfl,h2⟩
  obtain⟨s,h3,h4,h5⟩:=anyHit_iff.1 h2
  exact .inr ⟨s,h3,h4,by omega⟩
end Go.Proofs.YtccblhpfjlgmbabGreatDoor
namespace Go.Proofs.YtccblhpfjlgmbabGreatDoor
open Go.AX Go.RF Go.RowKit Go.Shelf
attribute [local go_sem] Oper.semAt_some
def verV (v:Version):Value := .agg #[.int .i64 v.by_,.bool v.made,.bool v.has,.int .i64 v.n]
def verC (v:Version) (j:Nat):Value:=match j with
 |0 => .int .i64 v.by_
 |1 => .bool v.made
 |2 => .bool v.has
 |_ => .int .i64 v.n
def back (vs:List Version) (k:Nat):List (Nat×Version):=(List.range k).map fun j=>(vs.length - 1 - j,vs[vs.length - 1 - j]?.getD ⟨0,false,false,0⟩)
theorem back_succ (vs:List Version) (k:Nat):back vs (k+1)=back vs k++[(vs.length - 1 - k,vs[vs.length - 1 - k]?.getD ⟨0,false,false,0⟩)]:=by simp[back,List.range_succ]
theorem back_length (vs:List Version) (k:Nat):(back vs k).length=k:=by simp[back]
def VerAt (n₀:Nat) (W:World) (ad:Addr) (vs:List Version):Prop:=ad.block < n₀∧∀ (i j:Nat) (v:Version),vs[i]? = some v→j < 4→W.cell? (ad.add (i*4+j))=some (verC v j)
theorem VerAt.below {n₀:Nat}{A B:World}{ad:Addr}{vs:List Version}(h:VerAt n₀ A ad vs) (hb:Below n₀ A B):VerAt n₀ B ad vs :=
 ⟨h.1,fun i j v hi hj=>(hb.cell (by rw[add_block];exact h.1)).trans (h.2 i j v hi hj)⟩
theorem ver_cells {n₀:Nat}{W:World}{ad:Addr}{vs:List Version}(h:VerAt n₀ W ad vs) {i:Nat}{v:Version}(hi:vs[i]? = some v) :
  W.cell? (ad.add (i*4))=some (.int .i64 v.by_)∧W.cell? ⟨(ad.add (i*4)).block,(ad.add (i*4)).off+1,none⟩=some (.bool v.made) ∧
   W.cell? ⟨(ad.add (i*4)).block,(ad.add (i*4)).off+2,none⟩=some (.bool v.has)∧W.cell? ⟨(ad.add (i*4)).block,(ad.add (i*4)).off+3,none⟩=some (.int .i64 v.n):=by
 have hx:∀ j,j < 4→W.cell? ((ad.add (i*4)).add j)=some (verC v j):=fun j hj=>by rw[add_add];exact h.2 i j v hi hj
 exact⟨hx 0 (by omega),hx 1 (by omega),hx 2 (by omega),hx 3 (by omega)⟩
set_option maxRecDepth 100000 in
set_option maxHeartbeats 2000000 in
theorem backward1_in (F:Fence) (n:Nat) (hF:F.fn 127) (hro:F.round=none) (hn:1≤n) (l Bs n₀ cap:Nat) (ad:Addr) (vs:List Version) (hreach:vs.length≤268435456) (J Jx:List (Nat×Version)→World→Prop)
  (hY:∀ pre x W,J pre W→pre.length < vs.length→YieldAt F (n - 1) Tryz.prog l #[.int .i64 (x.1:Int),verV x.2] W fun e W' =>
   (e = .returned (.bool true)∧J (pre++[x]) W'∧Below n₀ W W')∨(e = .returned (.bool false)∧Jx (pre++[x]) W'))
  (W:World) (hBs:W.cell? ⟨Bs,0,none⟩=some (.slice (some ad) vs.length cap)) (hBl:Bs < n₀) (hc:VerAt n₀ W ad vs) (h0:J [] W) :
  CallsIn F n Tryz.prog 127 #[.func (.yield l) #[] #[],.pointer (some ⟨Bs,0,none⟩)] W fun e W'=>(∃ v,e = .returned v) ∧
   ((∃ ys,ys=back vs vs.length∧J ys W')∨(∃ pre,(∃ k,k≤vs.length∧pre=back vs k)∧Jx pre W')):=by
 refine callsIn_of_wp Tryz.func127 rfl hF ?_ hro
 simp only[Tryz.ntmps127,List.size_toArray,List.length_cons,List.length_nil,Nat.reduceAdd,Nat.reduceSub,Array.replicate_succ,Array.replicate_zero,List.push_toArray,List.append_toArray,List.nil_append,List.cons_append]
 gi_wp2
 gi_loopw [3] (fun i wr=>∃ k:Nat,k≤vs.length∧i = .int .i64 ((vs.length:Int) - 1 - k)∧J (back vs k) wr∧Below n₀ W wr)
  (fun i _=>(intOf i+1).toNat)
 case atStart=>exact⟨0,Nat.zero_le _,by simp,h0,Below.refl _ _⟩
 case round =>
  obtain⟨k,hk,rfl,hJs,hnx⟩:=hrel
  by_cases hlt:k < vs.length
  ·
   obtain⟨i,hi,hi2⟩:∃ i:Nat,(vs.length:Int) - 1 - k=i∧i=vs.length - 1 - k:=⟨vs.length - 1 - k,by omega,rfl⟩
   obtain⟨v,hv⟩:∃ v,vs[i]? = some v:=⟨vs[i]'(by omega),List.getElem?_eq_getElem (by omega)⟩
   have hB2:wr.cell? ⟨Bs,0,none⟩=some (.slice (some ad) vs.length cap):=(hnx.cell (p:=⟨Bs,0,none⟩) hBl).trans hBs
   obtain⟨hc0,hc1,hc2,hc3⟩:=ver_cells (hc.below hnx) hv
   obtain⟨fn,tmps,assign,body,hy,hR⟩:=hY _ (i,v) wr hJs (by rw[back_length];exact hlt)
   dsimp only at hy
   have hi0:(0:Int)≤(i:Int):=by omega
   have hlen:i < vs.length:=by omega
   have hnext:back vs k++[(i,v)]=back vs (k+1):=by rw[back_succ,← hi2,hv];rfl
   rw[hi]
   clear hi2
   unfold verV at hy
   gi_wp2
   refine hR.mono ?_
   rintro e W3 (⟨rfl,hJ3,hk3⟩|⟨rfl,hJx3⟩)
   ·
    gi_wp2
    go_roundw
    case rel=>exact⟨k+1,by omega,by congr 1 <;> omega,by rw[← hnext];exact hJ3,hnx.trans hk3⟩
    case measure=>simp[intOf] <;> omega
   ·
    gi_wp2
    refine bodyPost_ret (results_none rfl _ _ _) rfl ?_
    exact⟨⟨_,rfl⟩,.inr ⟨_,⟨k+1,by omega,hnext⟩,hJx3⟩⟩
  ·
   obtain rfl:k=vs.length:=by omega
   have hi:(vs.length:Int) - 1 - vs.length = -1:=by omega
   rw[hi]
   gi_wp2
   go_end0
   exact⟨⟨_,rfl⟩,.inl ⟨_,rfl,hJs⟩⟩
set_option maxRecDepth 100000 in
set_option maxHeartbeats 1000000 in
theorem backward1_nil_in (F:Fence) (n:Nat) (hF:F.fn 127) (hro:F.round=none) (l Bs cap:Nat) (p:Option Addr) (J:List (Nat×Version)→World→Prop) (W:World) (hBs:W.cell? ⟨Bs,0,none⟩=some (.slice p 0 cap)) (h0:J [] W) :
  CallsIn F n Tryz.prog 127 #[.func (.yield l) #[] #[],.pointer (some ⟨Bs,0,none⟩)] W fun e W'=>(∃ v,e = .returned v)∧J [] W':=by
 refine callsIn_of_wp Tryz.func127 rfl hF ?_ hro
 simp only[Tryz.ntmps127,List.size_toArray,List.length_cons,List.length_nil,Nat.reduceAdd,Nat.reduceSub,Array.replicate_succ,Array.replicate_zero,List.push_toArray,List.append_toArray,List.nil_append,List.cons_append]
 gi_wp2
 gi_loopw [3] (fun i wr=>i = .int .i64 (-1)∧J [] wr) (fun _ _=>0)
 case atStart=>exact⟨rfl,h0⟩
 case round =>
  obtain⟨rfl,hJs⟩:=hrel
  gi_wp2
  go_end0
  exact⟨⟨_,rfl⟩,hJs⟩
set_option maxHeartbeats 1000000 in
theorem backward_in (F:Fence) (n:Nat) (hF:F.fn 100) (hro:F.round=none) (a:Option Addr) (len cap:Nat) (w:World) :
  CallsIn F n Tryz.prog 100 #[.slice a len cap] w fun e w'=>e = .returned (.func (.func 127) #[] #[.pointer (some ⟨w.heap.size,0,none⟩)])∧w'=w.alloc (.cells #[.slice a len cap] 129):=by
 refine callsIn_of_wp Tryz.func100 rfl hF ?_ hro
 simp only[Tryz.ntmps100,List.size_toArray,List.length_cons,List.length_nil,Nat.reduceAdd,Nat.reduceSub,Array.replicate_succ,Array.replicate_zero,List.push_toArray,List.append_toArray,List.nil_append,List.cons_append]
 gi_wp2
 go_ret
 exact⟨rfl,rfl⟩
def Vers (n₀:Nat) (W:World) (sv:Value) (vs:List Version):Prop :=
 ∃ p cap,sv = .slice p vs.length cap∧(vs=[]∨∃ ad,p=some ad∧VerAt n₀ W ad vs)
theorem Vers.below {n₀:Nat}{A B:World}(h:Below n₀ A B) {sv:Value}{vs:List Version}:Vers n₀ A sv vs→Vers n₀ B sv vs
 |⟨p,cap,e,.inl h0⟩=>⟨p,cap,e,.inl h0⟩
 |⟨p,cap,e,.inr ⟨ad,h1,h2⟩⟩=>⟨p,cap,e,.inr ⟨ad,h1,h2.below h⟩⟩
theorem Vers.mono {n₀ n₁:Nat}{A:World}(h:n₀≤n₁) {sv:Value}{vs:List Version}:Vers n₀ A sv vs→Vers n₁ A sv vs
 |⟨p,cap,e,.inl h0⟩=>⟨p,cap,e,.inl h0⟩
 |⟨p,cap,e,.inr ⟨ad,h1,h2⟩⟩=>⟨p,cap,e,.inr ⟨ad,h1,⟨Nat.lt_of_lt_of_le h2.1 h,h2.2⟩⟩⟩
theorem backward_stops (F:Fence) (n:Nat) (hF:F.fn 127) (hro:F.round=none) (hn:1≤n) (Bs n₀:Nat) (sv:Value) (vs:List Version) (hreach:vs.length≤268435456) (w:World) (hBs:Bs < n₀) (hn₀:n₀≤w.heap.size)
  (hc:w.cell? ⟨Bs,0,none⟩=some sv) (hI:Vers n₀ w sv vs) :
  SeqStopsK F n Tryz.prog 127 #[.pointer (some ⟨Bs,0,none⟩)] (fun x:Nat×Version => #[Value.int .i64 (x.1:Int),verV x.2]) (Below n₀) (fun ys=>ys=back vs vs.length)
   (fun pre=>∃ k,k≤vs.length∧pre=back vs k) vs.length w:=fun l J Jx W hW _ _ hY h0=>by
 have hc':=(hW.cell (p:=⟨Bs,0,none⟩) (show Bs < w.heap.size by omega)).trans hc
 obtain⟨p,cap,rfl,rfl|⟨ad,rfl,hv⟩⟩:=hI.below (hW.mono hn₀)
 ·
  exact(backward1_nil_in F n hF hro l Bs cap p J W hc' h0).mono fun e W' ⟨he,hj⟩=>⟨he,.inl ⟨_,rfl,hj⟩⟩
 ·
  exact backward1_in F n hF hro hn l Bs n₀ cap ad vs hreach J Jx hY W hc' hBs hv h0
attribute [local go_sem] Oper.semAt_some
def AllGe (b:Int) (pre:List (Nat×Version)):Prop:=∀ x∈pre,b≤x.2.by_
def Hit (b:Int) (pre:List (Nat×Version)) (v:Version):Prop:=∃ ini i,pre=ini++[(i,v)]∧AllGe b ini∧v.by_ < b
theorem AllGe.snoc {b:Int}{pre:List (Nat×Version)}(h:AllGe b pre) {i:Nat}{v:Version}(hv:b≤v.by_):AllGe b (pre++[(i,v)]):=fun x hx=>by
 rcases List.mem_append.1 hx with hx|hx
 ·
  exact h x hx
 ·
  simp at hx;subst hx;exact hv
def Box4 (W:World) (B:Nat) (v:Version):Prop:=W.heap[B]? = some (.cells #[.int .i64 v.by_,.bool v.made,.bool v.has,.int .i64 v.n] 133 (0,0))
theorem Box4.lt {W:World}{B:Nat}{v:Version}(h:Box4 W B v):B < W.heap.size:=(Array.getElem?_eq_some_iff.1 h).1
theorem Box4.cells {W:World}{B:Nat}{v:Version}(h:Box4 W B v):W.cell? ⟨B,0,none⟩=some (.int .i64 v.by_)∧W.cell? ⟨B,1,none⟩=some (.bool v.made)∧W.cell? ⟨B,2,none⟩=some (.bool v.has)∧W.cell? ⟨B,3,none⟩=some (.int .i64 v.n):=by
 have h':W.heap[B]? = _:=h
 refine⟨?_,?_,?_,?_⟩ <;> simp[World.cell?,h']
theorem Box4.frozens {W:World}{B:Nat}{v:Version}(h:Box4 W B v):W.frozen? ⟨B,0,none⟩=false∧W.frozen? ⟨B,1,none⟩=false∧W.frozen? ⟨B,2,none⟩=false∧W.frozen? ⟨B,3,none⟩=false:=by
 have h':W.heap[B]? = _:=h
 refine⟨?_,?_,?_,?_⟩ <;> simp[World.frozen?,h']
theorem Box4.kept {W W':World}{row:Option Nat}{B:Nat}{v:Version}(h:Box4 W B v) (hg:W.grownBy W' row) (hne:some B≠row):Box4 W' B v:=(hg.block B h.lt hne).trans h
theorem Box4.alloc {W:World}{B:Nat}{v:Version}(h:Box4 W B v) (o:Obj):Box4 (W.alloc o) B v:=h.kept (World.grownBy_alloc W o none) (by simp)
theorem Box4.below {n:Nat}{W W':World}{B:Nat}{v:Version}(h:Box4 W B v) (hb:Below n W W') (hB:B < n):Box4 W' B v:=(hb.block B hB).trans h
theorem box4_own (B:Nat) {β:Type}(f:β→Version):Own (fun s W=>Box4 W B (f s)):=fun s X Y row hs hg hrow =>
 Box4.kept hs hg (fun e=>by
  obtain⟨o,ho,hc⟩:=hrow B e.symm
  rw[show X.heap[B]? = _ from hs]at ho
  cases ho
  simp[Obj.isCells]at hc)
theorem sets_box {W:World}{B:Nat}{v:Version}(h:Box4 W B v) (u:Version) :
  Box4 ((((W.setCell ⟨B,0,none⟩ (.int .i64 u.by_)).setCell ⟨B,1,none⟩ (.bool u.made)).setCell ⟨B,2,none⟩ (.bool u.has)).setCell ⟨B,3,none⟩ (.int .i64 u.n)) B u:=by
 have h':W.heap[B]? = _:=h
 simp[Box4,World.setCell,Array.getElem?_modify,h']
theorem sets_keeps (W:World) (B:Nat) (a b c d:Value):KeepsOthers W ((((W.setCell ⟨B,0,none⟩ a).setCell ⟨B,1,none⟩ b).setCell ⟨B,2,none⟩ c).setCell ⟨B,3,none⟩ d) :=
 (((KeepsOthers.setCell W _ _).trans (KeepsOthers.setCell _ _ _)).trans (KeepsOthers.setCell _ _ _)).trans (KeepsOthers.setCell _ _ _)
theorem sets_below {W:World}{n B:Nat}{a b c d:Value}(h:n≤B):Below n W ((((W.setCell ⟨B,0,none⟩ a).setCell ⟨B,1,none⟩ b).setCell ⟨B,2,none⟩ c).setCell ⟨B,3,none⟩ d) :=
 ((((Below.refl n W).setCell (p:=⟨B,0,none⟩) h _).setCell (p:=⟨B,1,none⟩) h _).setCell (p:=⟨B,2,none⟩) h _).setCell (p:=⟨B,3,none⟩) h _
theorem results_box {W:World}{B:Nat}{v:Version}{x:Array Value}(c0:W.cell? ⟨B,0,none⟩=some (.int .i64 v.by_)) (c1:W.cell? ⟨B,1,none⟩=some (.bool v.made)) (c2:W.cell? ⟨B,2,none⟩=some (.bool v.has)) (c3:W.cell? ⟨B,3,none⟩=some (.int .i64 v.n))
  (hx:x[6]? = some (.pointer (some ⟨B,0,none⟩)):=by rfl):(results Tryz.f68 x).run Tryz.prog W = .ok (verV v) W:=by
 simp[results,Tryz.f68,go_sem,hx,c0,c1,c2,c3,verV,Act.eval,Array.getD_eq_getD_getElem?]
set_option maxRecDepth 100000 in
set_option maxHeartbeats 4000000 in
theorem before_raw (m:Nat) (by_:Int) (k:ByteArray) (ad:Addr) (n cp:Nat) (sv:Value) (vs:List Version) (w:World) (hm:m < n) (had:ad.block < w.heap.size)
  (hcell:w.cell? (ad.add (m*2+1))=some sv) (hvs:Vers w.heap.size w sv vs) (hreach:vs.length≤268435456)
  (hf:∀ W:World,w.heap.size≤W.heap.size→Below w.heap.size w W→Calls Tryz.prog 99 #[.slice (some ad) n cp,.string k] W fun e W'=>e = .returned (.tuple #[.int .i64 (m:Int),.bool true])∧Below W.heap.size W W') :
  Calls Tryz.prog 68 #[.slice (some ad) n cp,.string k,.int .i64 by_] w fun e W' =>
   ((e = .returned (verV noV)∧AllGe by_ (back vs vs.length))∨∃ k v,k≤vs.length∧Hit by_ (back vs k) v∧e = .returned (verV v))∧Below w.heap.size w W':=by
 refine(callsIn_wide (n:=3)).1 ?_
 refine callsIn_of_wp_marks Tryz.func68 rfl trivial ?_
 simp only[Tryz.ntmps68,List.size_toArray,List.length_cons,List.length_nil,Nat.reduceAdd,Nat.reduceSub,Array.replicate_succ,Array.replicate_zero,List.push_toArray,List.append_toArray,List.nil_append,List.cons_append]
 have hB1:Below w.heap.size w ((w.alloc (.cells #[.int .i64 by_] 3)).alloc (.cells #[.int .i64 0,.bool false,.bool false,.int .i64 0] 133)):=((Below.refl _ w).alloc (Nat.le_refl _) _).alloc (by simp) _
 have hf1:=hf _ hB1.size hB1
 obtain⟨p,cap,rfl,hvs1⟩:=hvs
 have hcell':w.cell? ⟨(ad.add (m*2)).block,(ad.add (m*2)).off+1,none⟩=some (.slice p vs.length cap):=by
  rw[← add_add]at hcell
  exact hcell
 have hc0:∀ {w1:World},Below w.heap.size w w1→w1.cell? ⟨(ad.add (m*2)).block,(ad.add (m*2)).off+1,none⟩=some (.slice p vs.length cap):=fun hB =>
  (hB.cell (p:=⟨(ad.add (m*2)).block,(ad.add (m*2)).off+1,none⟩) (by show(ad.add (m*2)).block < _;rw[add_block];exact had)).trans hcell'
 gi_wp2_with (refine⟨trivial,?_⟩;first|(gi_at_call 99;refine(callsIn_wide.2 hf1).mono ?_;clear hf1;rintro e w1 ⟨rfl,hb1⟩;have hB2:=hB1.trans (hb1.mono hB1.size);have hc1:=hc0 hB2) |
  (gi_at_call 100;refine(backward_in _ _ trivial rfl _ _ _ _).mono ?_;rintro e w' ⟨rfl,rfl⟩))
 have hsz1:w.heap.size+1+1≤w1.heap.size:=by have:=hb1.size;simpa using this
 have bY:Boxed w1 w.heap.size 3 (.int .i64 by_):=by
  have h0:=(Boxed.new w 3 (.int .i64 by_)).alloc (.cells #[.int .i64 0,.bool false,.bool false,.int .i64 0] 133)
  exact(hb1.block _ (by simp;omega)).trans h0
 have bR:Box4 w1 (w.heap.size+1) ⟨0,false,false,0⟩:=by
  have h0:Box4 ((w.alloc (.cells #[.int .i64 by_] 3)).alloc (.cells #[.int .i64 0,.bool false,.bool false,.int .i64 0] 133)) (w.heap.size+1) ⟨0,false,false,0⟩:=by
   have:=World.alloc_heap_new (w.alloc (.cells #[.int .i64 by_] 3)) (.cells #[.int .i64 0,.bool false,.bool false,.int .i64 0] 133)
   simpa[Box4] using this
  exact h0.below hb1 (by simp)
 have bN:=Boxed.new w1 129 (.slice p vs.length cap)
 have hV1:Vers w.heap.size w1 (.slice p vs.length cap) vs:=Vers.below hB2 ⟨p,cap,rfl,hvs1⟩
 obtain⟨W0,hW0⟩:∃ W0,w1.alloc (.cells #[.slice p vs.length cap] 129)=W0:=⟨_,rfl⟩
 have hBW:Below w1.heap.size w1 W0:=by rw[← hW0];exact(Below.refl _ w1).alloc (Nat.le_refl _) _
 have hsz0:W0.heap.size=w1.heap.size+1:=by rw[← hW0];simp
 rw[hW0]at bN ⊢
 have bY0:Boxed W0 w.heap.size 3 (.int .i64 by_):=(hBW.block _ (by omega)).trans bY
 have bR0:Box4 W0 (w.heap.size+1) ⟨0,false,false,0⟩:=bR.below hBW (by omega)
 have hB0:Below w.heap.size w W0:=hB2.trans (hBW.mono hB2.size)
 clear hW0
 refine wpIn_rangeFunc_ownH (F:=Fence.wide) rfl (by omega) (gf:=127) (lb := #[.pointer (some ⟨w1.heap.size,0,none⟩)]) rfl trivial (enters_of Tryz.func127 (by kernel_rfl) rfl)
  (backward_stops Fence.wide (3 - 1) trivial rfl (by omega) w1.heap.size W0.heap.size _ vs hreach W0 (by omega) (Nat.le_refl _) bN.cell (Vers.mono hB0.size (Vers.below (hBW.mono hB2.size) hV1))) belowK_t (belowK_b (Nat.le_refl _)) (Below.refl _ _) (fun _=>rfl)
  (fun pre W=>AllGe by_ pre∧Below W0.heap.size W0 W)
  (fun c pre W=>(c = .ret∧∃ v,Hit by_ pre v∧Box4 W (w.heap.size+1) v)∧Below w.heap.size w W)
  (OwnFrom.and (Own.from (fun s A B row hs hg hr=>hs) _) (ownFrom_below (Nat.le_refl _) (Nat.le_refl _)))
  (fun c=>OwnFrom.and (Own.from (fun s A B row hs hg hr=>by obtain⟨hc,v,e1,e4⟩:=hs;exact⟨hc,v,e1,box4_own (w.heap.size+1) (fun(_:Unit)=>v) () A B row e4 hg hr⟩) _) (ownFrom_below (Nat.le_refl _) hB0.size))
  ⟨fun x hx=>by simp at hx,Below.refl _ _⟩
  (fun x a' W=>∃ Bx,w.heap.size+1 < Bx∧Box4 W Bx x.2∧a'={ tmps := #[.slice (some ad) n cp,.string k,.int .i64 by_,undef,undef,.pointer (some ⟨w.heap.size,0,none⟩),.pointer (some ⟨w.heap.size+1,0,none⟩),.int .i64 (m:Int),.bool true,undef,.pointer (some ⟨Bx,0,none⟩),
   .tuple #[.int .i64 (m:Int),.bool true],.slice (some ad) n cp,.string k,.tuple #[.int .i64 (m:Int),.bool true],.int .i64 (m:Int),.bool true,.bool true,.slice (some ad) n cp,.int .i64 (m:Int),.pointer (some (ad.add (m*2))),.pointer (some ⟨(ad.add (m*2)).block,(ad.add (m*2)).off+1,none⟩),.slice p vs.length cap,
   .func (.func 127) #[] #[.pointer (some ⟨w1.heap.size,0,none⟩)],.int .i64 (x.1:Int),verV x.2,undef,undef,undef,undef,undef,undef],defers:=[] })
  (fun x a' _ X Y row hs hg hr=>by obtain⟨Bx,h1,h2,h3⟩:=hs;exact⟨Bx,h1,box4_own Bx (fun(_:Unit)=>x.2) () X Y row h2 hg (fun r e=>(hr r e).2),h3⟩)
  ?assign ?body ?done ?stop
 case assign =>
  rintro l pre ⟨xi,xb,xm,xh,xn⟩ W K ⟨hp,hB⟩ hK
  simp only[verV]
  gi_wp2
  have hbx:Below W0.heap.size W (W.alloc (.cells #[.int .i64 xb,.bool xm,.bool xh,.int .i64 xn] 133)):=(Below.refl _ W).alloc hB.size _
  exact hK _ _ ((KeepsOthers.alloc _ _).from _) hbx ⟨hp,hB.trans hbx⟩ ⟨W.heap.size,by have:=hB.size;omega,World.alloc_heap_new W _,rfl⟩
 case body =>
  rintro l pre ⟨xi,xb,xm,xh,xn⟩ a' W hl ⟨r,hr⟩ ⟨hp,hB⟩ ⟨Bx,hBx,bX,rfl⟩ hlt
  simp only[verV]
  have bR1:=bR0.below hB (by omega)
  have bY1:Boxed W w.heap.size 3 (.int .i64 by_):=(hB.block _ (by omega)).trans bY0
  obtain⟨x0,x1,x2,x3⟩:=bX.cells
  obtain⟨y0,y1,y2,y3⟩:=bR1.cells
  obtain⟨z0,z1,z2,z3⟩:=bR1.frozens
  have cY:=bY1.cell
  have hB9:Below w.heap.size w W:=hB0.trans (hB.mono hB0.size)
  dsimp only at x0 x1 x2 x3
  gi_wp2
  ·
   have hx:xb < by_:=by assumption
   exact⟨(sets_keeps W _ _ _ _ _).from _,⟨rfl,⟨xb,xm,xh,xn⟩,⟨pre,xi,rfl,hp,hx⟩,sets_box bR1 ⟨xb,xm,xh,xn⟩⟩,hB9.trans (sets_below (by omega))⟩
  ·
   have hx:by_≤xb:=by assumption
   exact⟨KeepsFrom.refl _ _,Below.refl _ _,hp.snoc hx,by rw[← hsz0];exact hB⟩
 case done =>
  rintro D ys W hD rfl ⟨hne,hB⟩ hK
  have bR1:=bR0.below hB (by omega)
  obtain⟨y0,y1,y2,y3⟩:=bR1.cells
  obtain⟨z0,z1,z2,z3⟩:=bR1.frozens
  gi_wp2
  have hK':=(sets_keeps W (w.heap.size+1) (.int .i64 (-1)) (.bool true) (.bool false) (.int .i64 0)).same D _ hK rfl
  have bF:=sets_box bR1 noV
  have hB9:Below w.heap.size w W:=hB0.trans (hB.mono hB0.size)
  have hBs:=hB9.trans (sets_below (W:=W) (n:=w.heap.size) (B:=w.heap.size+1) (a := .int .i64 (-1)) (b := .bool true) (c := .bool false) (d := .int .i64 0) (by omega))
  refine⟨by simp,.inl ⟨_,_,rfl,run_takeDeferred hK',?_⟩⟩
  have hD':w.heap.size+1≠D:=by have:=bR1.lt;omega
  obtain⟨c0,c1,c2,c3⟩:=Box4.cells (Box4.kept bF (grownBy_putObj' _ D (.deferred none)) (fun e=>hD' (by cases e;rfl)))
  refine⟨verV noV,?_,.inl rfl,hBs.trans (belowK_b (w:=w) (Nat.le_refl _) _ D _ _ (by have:=hB0.size;omega) hK' rfl rfl)⟩
  exact results_box c0 c1 c2 c3
 case stop =>
  rintro D c pre W hD ⟨k,hk,rfl⟩ ⟨⟨rfl,v,hv,hcr⟩,hB⟩ hK
  gi_wp2
  refine⟨by simp,.inl ⟨_,_,rfl,run_takeDeferred hK,?_⟩⟩
  have hD':w.heap.size+1≠D:=by have:=hB0.size;omega
  obtain⟨c0,c1,c2,c3⟩:=Box4.cells (Box4.kept hcr (grownBy_putObj' _ D (.deferred none)) (fun e=>hD' (by cases e;rfl)))
  exact⟨verV v,results_box c0 c1 c2 c3,.inr ⟨k,v,hk,hv,rfl⟩,hB.trans (belowK_b (w:=w) (Nat.le_refl _) W D _ _ (by have:=hB0.size;omega) hK rfl rfl)⟩
theorem rd_ver {w:World}{own:Nat→Prop}(v:Version):Rd w own (verV v) (.agg v.enc):=by
 refine .agg _ _ rfl (fun j c hc=>?_) fun j d c hd hc=>?_
 ·
  match j,hc with
  |0,hc=>simp at hc;subst hc;rfl
  |1,hc=>simp at hc;subst hc;rfl
  |2,hc=>simp at hc;subst hc;rfl
  |3,hc=>simp at hc;subst hc;rfl
 ·
  match j,hd,hc with
  |0,hd,hc=>simp[Version.enc]at hc hd;subst hc hd;exact .v _
  |1,hd,hc=>simp[Version.enc]at hc hd;subst hc hd;exact .v _
  |2,hd,hc=>simp[Version.enc]at hc hd;subst hc hd;exact .v _
  |3,hd,hc=>simp[Version.enc]at hc hd;subst hc hd;exact .v _
theorem rd_vers {w:World}{own:Nat→Prop}{sv:Value}{vs:List Version}(h:Rd w own sv (encVs vs)):Vers w.heap.size w sv vs:=by
 unfold encVs at h
 generalize hr:vs.map Version.enc=rows at h
 generalize hd:D.sl 4 rows=d at h
 cases h with
 |v=>cases hd
 |x=>cases hd
 |agg=>cases hd
 |nil a cap k =>
  cases hd
  have:vs=[]:=by simpa using hr
  subst this
  exact⟨a,cap,rfl,.inl rfl⟩
 |sl ad cap k rows f hb hs hcap hk hc h1 hr' =>
  cases hd
  subst hr
  refine⟨some ad,cap,by simp,.inr ⟨ad,rfl,hs,fun i j v hi hj=>?_⟩⟩
  have hi':(vs.map Version.enc)[i]? = some v.enc:=by simp[hi]
  have hval:∀ d,v.enc[j]? = some d→∀ x,d = .v x→w.cell? (ad.add (i*4+j))=some x:=fun d hd x hx=>by
   subst hx
   rw[hc i j _ _ hi' hd,rd_v (hr' i j _ _ hi' hd)]
  match j,hj with
  |0,_=>exact hval _ rfl _ rfl
  |1,_=>exact hval _ rfl _ rfl
  |2,_=>exact hval _ rfl _ rfl
  |3,_=>exact hval _ rfl _ rfl
theorem back_ge {b:Int}{vs:List Version}{k:Nat}(hk:k≤vs.length) (h:AllGe b (back vs k)):∀ v∈vs.drop (vs.length - k),b≤v.by_:=fun v hv=>by
 obtain⟨j,hj⟩:=List.getElem?_of_mem hv
 rw[List.getElem?_drop]at hj
 have hlt:=(List.getElem?_eq_some_iff.1 hj).1
 have hmem:(vs.length - k+j,v)∈back vs k:=by
  unfold back
  refine List.mem_map.2 ⟨k - 1 - j,by simp;omega,?_⟩
  rw[show vs.length - 1 - (k - 1 - j)=vs.length - k+j by omega,hj]
  rfl
 exact h _ hmem
theorem hit_bvs {b:Int}{vs:List Version}{k:Nat}{v:Version}(hk:k≤vs.length) (h:Hit b (back vs k) v):bvs true b noV vs=v:=by
 obtain⟨ini,i,h1,h2,h3⟩:=h
 cases k with
 |zero=>simp[back]at h1
 |succ k =>
  rw[back_succ]at h1
  obtain⟨rfl,h5⟩:=List.append_inj' h1 rfl
  simp only[List.cons.injEq,Prod.mk.injEq,and_true]at h5
  obtain⟨rfl,h5⟩:=h5
  have hlt:vs.length - 1 - k < vs.length:=by omega
  have hv:vs[vs.length - 1 - k]? = some v:=by
   rw[List.getElem?_eq_getElem hlt]at h5 ⊢
   simpa using h5
  have hge:=back_ge (by omega) h2
  rw[split_at hv,bvs_append]
  simp only[bvs]
  rw[if_pos (by simpa using h3),show vs.length - 1 - k+1=vs.length - k by omega,bvs_ge hge]
theorem isAt_some {l:List Chain}{k:Str}{m:Nat}(h:isAt l k m=true):∃ c,l[m]? = some c∧c.key=k:=by
 unfold isAt isAtK at h
 split at h
 ·
  next c hc=>exact⟨c,hc,of_decide_eq_true h⟩
 ·
  cases h
theorem ok_pbefore (l:List Chain) (k:Str) (b:Int) (hl:l.length≤268435456) (hv:∀ c∈l,c.vs.length≤268435456) (hs:Srt Chain.key l) :
  FnOk Tryz.prog 68 [.d (encChains l),.d (dstr k),.d (dint b)] (.one (.agg (before l k b).enc)):=by
 obtain⟨m,hm⟩:=hs.at k
 have hf:=ok_find l k m hl hm
 cases hb:isAt l k m with
 |false =>
  refine fnOk_of tbl_ok mixed_ok Tryz.func68 rfl (by kernel_rfl) rfl rfl fun w0 own0=>?_
  rw[hb]at hf
  rw[before_no hs hm hb]
  try refine wk ?_
  exact .one (.cell rfl rfl rfl rfl (.aggd (ds:=noV.enc) rfl (.refl _)))
 |true =>
  obtain⟨c,hc,hck⟩:=isAt_some hb
  rw[before_yes hs hc hck]
  refine⟨⟨_,Tryz.func68,rfl,rfl⟩,fun w own vs hown ha=>?_⟩
  match vs,ha with
  | [x,y,z],⟨h1,h2,h3,_⟩ =>
   obtain rfl:y=str k:=rd_v h2
   obtain rfl:z = .int .i64 b:=rd_v h3
   have hfc:∀ W:World,w.heap.size≤W.heap.size→Below w.heap.size w W→Calls Tryz.prog 99 #[x,str k] W fun e W'=>e = .returned (.tuple #[.int .i64 (m:Int),.bool true])∧Below W.heap.size W W':=fun W hsz hB=>by
    have h1':Rd W own x (encChains l):=Rd.step (Ext.of_below hB) (fun b h => .inl h) h1
    refine(hf.calls W own [x,str k] ⟨fun b hb=>Nat.lt_of_lt_of_le (hown.1 b hb) hsz,hown.2.below hB⟩ ⟨h1',Rd.v _,trivial⟩).mono fun e W' he=>?_
    obtain⟨v,rfl,hB',vs,rfl,hsz',hr⟩:=he
    refine⟨?_,hB'⟩
    obtain⟨vl⟩:=vs
    match vl,hsz',hr with
    | [a,d],_,hr =>
     obtain rfl:a = .int .i64 (m:Int):=rd_v (hr 0 a (dint m) rfl rfl)
     obtain rfl:d = .bool (isAt l k m):=rd_v (hr 1 d (dbool (isAt l k m)) rfl rfl)
     rw[hb]
   have hcm:m < l.length:=(List.getElem?_eq_some_iff.1 hc).1
   have hcv:=hv c (List.mem_of_getElem? hc)
   have key:∃ ad n cp sv,x = .slice (some ad) n cp∧m < n∧ad.block < w.heap.size∧w.cell? (ad.add (m*2+1))=some sv∧Rd w own sv (encVs c.vs):=by
    have h1':=h1
    unfold ArgOk encChains at h1'
    generalize hr:l.map Chain.enc=rows at h1'
    generalize hd:D.sl 2 rows=d at h1'
    cases h1' with
    |v=>cases hd
    |x=>cases hd
    |agg=>cases hd
    |nil a cap k' =>
     cases hd
     have:l=[]:=by simpa using hr
     subst this
     simp at hc
    |sl ad cap k' rows f hb' hsz hcap hk hcc h1c hr' =>
     cases hd
     subst hr
     have hi:(l.map Chain.enc)[m]? = some c.enc:=by simp[hc]
     exact⟨ad,_,cap,f m 1,rfl,by simpa using hcm,hsz,hcc m 1 _ _ hi rfl,hr' m 1 _ (encVs c.vs) hi rfl⟩
   obtain⟨ad,n,cp,sv,rfl,hmn,had,hcell,hrd⟩:=key
   refine(before_raw m b ⟨k.toArray⟩ ad n cp sv c.vs w hmn had hcell (rd_vers hrd) hcv hfc).mono fun e W' ⟨he,hB⟩=>?_
   rcases he with ⟨rfl,hall⟩|⟨i,v,hi,hh,rfl⟩
   ·
    refine⟨_,rfl,hB,?_⟩
    have:=back_ge (Nat.le_refl _) hall
    rw[Nat.sub_self,List.drop_zero]at this
    rw[bvs_ge this]
    exact rd_ver noV
   ·
    refine⟨_,rfl,hB,?_⟩
    rw[hit_bvs hi hh]
    exact rd_ver v
end Go.Proofs.YtccblhpfjlgmbabGreatDoor
namespace Go.Proofs.YtccblhpfjlgmbabGreatDoor
open Go.AX Go.RF
set_option maxRecDepth 100000
set_option maxHeartbeats 8000000
def NB (e:Engine):Prop:=∀ (at_:Nat) (k:Str),(before e.chains k (e.base+at_)).made=false→e.base≤(before e.chains k (e.base+at_)).by_∧(before e.chains k (e.base+at_)).by_ < e.base+at_
theorem ok_pneeds (e:Engine) (at_:Nat) (d:Deed) (hs:e.Sm) (hd:e.deeds[at_]? = some d) (hn:d.reads.Nodup) (hk:Srt Chain.key e.chains) (hB:NB e) :
  FnOk Tryz.prog 57 [.d (.agg e.enc),.d (dint at_)] (.one (encInts (needs e at_ d))):=by
 refine fnOk_of tbl_ok mixed_ok Tryz.func57 rfl (by kernel_rfl) rfl rfl fun w0 own0=>?_
 rw[← pneeds_eq (hB at_)]
 have hat:=(List.getElem?_eq_some_iff.1 hd).1
 have hdl:=hs.d
 have hbase:=hs.b
 have hdd:=hs.dd d (List.mem_of_getElem? hd)
 have ck:=ok_pkeys d hn hdd.r hdd.w
 have hkl:=keysD_len hdd
 have cb:=fun k=>ok_pbefore e.chains k (e.base+at_) (by have:=hs.c;omega) (fun c h=>by have:=hs.v c h;omega) hk
 have hst0:StopR 2:=⟨rfl⟩
 try refine wkS ?_
 clear hst0
 refine Stop.go (CW.stut (stut_promote (i:=5) 3 1) ⟨rfl,rfl,trivial⟩ ?_)
 try refine wk ?_
 refine CW.loopT (fun t:Nat×List Int=>[sd 1 (dint at_),sp 2 0,ob 0 e.enc,sd 4 (.v nilS),so 5 1 t.2.length,oa 1 3 1 (t.2.map encInt1),sd 14 (encStrs (keysD d)),sd 15 (dint (keysD d).length),sd 16 (dint t.1),nxt 2])
  (fun t=>t.1≤(keysD d).length∧t.2.length≤t.1∧pneedsGo e.chains e.base (e.base+at_) t.2 ((keysD d).drop t.1)=pneedsGo e.chains e.base (e.base+at_) [] (keysD d)) (fun t=>(keysD d).length - t.1) (0,[]) ⟨by omega,by simp,rfl⟩ ?_ ?_
 ·
  exact by_less
 ·
  rintro ⟨j,out⟩ ⟨hj,ho,hI⟩
  dsimp only at hj ho hI ⊢
  rcases drop_case hj with ⟨h1,h2⟩|⟨k,h1,h2,h3⟩
  ·
   rw[h1]at hI
   simp only[pneedsGo]at hI
   have hsort:=in_sort out (by omega)
   repeat(first|refine wa ?_|((with_reducible apply s5);(first|(focus (with_reducible apply a_inplace);exact hsort;exact rfl;exact rfl;exact rfl;(focus first|exact rfl|(simp;done));exact rfl)|exact by_oa|exact by_ca);exact by_g)|refine wb ?_)
   exact .one (.tmp rfl (.one (.own rfl (by simp[sorted]) (dle_eq (by unfold pneeds;rw[← hI];rfl)))))
  ·
   rw[h1]at hI
   simp only[pneedsGo]at hI
   have cbk:=cb k
   have hBk:=hB at_ k
   obtain⟨⟨vb,vm,vh,vn⟩,hv⟩:∃ v,before e.chains k (e.base+at_)=v:=⟨_,rfl⟩
   rw[hv]at cbk hBk
   rw[hv]at hI
   dsimp only at hI hBk
   cases vm with
   |true =>
    rw[if_neg (by simp)]at hI
    repeat(first|refine wa ?_|((with_reducible apply s5);(first|exact a_call cbk rfl by_sub|exact by_oa|exact by_ca);exact by_g)|refine wb ?_)
    refine q_loopT (j+1,out) ⟨by dsimp only;omega,by dsimp only;omega,hI⟩ (by dsimp only;omega) ?_
    exact by_less
   |false =>
    obtain⟨hB1,hB2⟩:=hBk rfl
    have cc:=ok_containsI out (vb - e.base) (by omega)
    cases hc:isNum out (vb - e.base) with
    |true =>
     rw[hc]at cc hI
     rw[if_neg (by simp)]at hI
     repeat(first|refine wa ?_|((with_reducible apply s5);(first|exact a_call cbk rfl by_sub|(focus ((with_reducible apply a_lend);exact cc;exact rfl;exact .plain rfl;(focus first|exact rfl|(simp;done)|(simp;omega));(iterate 2 exact rfl);exact by_sub))|exact by_oa|exact by_ca);exact by_g)|refine wb ?_)
     refine q_loopT (j+1,out) ⟨by dsimp only;omega,by dsimp only;omega,hI⟩ (by dsimp only;omega) ?_
     exact by_less
    |false =>
     rw[hc]at cc hI
     rw[if_pos ⟨rfl,rfl⟩]at hI
     repeat(first|refine wa ?_|((with_reducible apply s5);(first|exact a_call cbk rfl by_sub|(focus ((with_reducible apply a_lend);exact cc;exact rfl;exact .plain rfl;(focus first|exact rfl|(simp;done)|(simp;omega));(iterate 2 exact rfl);exact by_sub))|exact by_oa|exact by_ca);exact by_g)|refine wb ?_)
     refine q_loopT (j+1,out++[vb - e.base]) ⟨by dsimp only;omega,by dsimp only;simp;omega,hI⟩ (by dsimp only;omega) ?_
     exact by_less
theorem ok_pready (e:Engine) (hs:e.Sm) (hl:e.state.length=e.deeds.length) (hn:∀ d∈e.deeds,d.reads.Nodup) (hk:Srt Chain.key e.chains) (hB:NB e) :
  FnOk Tryz.prog 32 [.d (.agg e.enc)] (.one (encInts (ready e))):=by
 refine fnOk_of tbl_ok mixed_ok Tryz.func32 rfl (by kernel_rfl) rfl rfl fun w0 own0=>?_
 have hd1:=hs.d
 have hst0:StopA 2:=⟨rfl⟩
 try refine wkS ?_
 clear hst0
 refine Stop.go (CW.stut (stut_promote (i:=3) 3 1) ⟨rfl,rfl,trivial⟩ ?_)
 try refine wk ?_
 refine CW.loopT (fun t:Nat×List Int=>[sp 1 0,ob 0 e.enc,sd 2 (.v nilS),so 3 1 t.2.length,oa 1 3 1 (t.2.map encInt1),sd 7 (encInts e.state),sd 8 (dint e.state.length),sd 9 (dint t.1),nxt 2])
  (fun t=>t.1≤e.state.length∧t.2.length≤t.1∧t.2++readyGo e t.1 (e.state.drop t.1)=ready e) (fun t=>e.state.length - t.1) (0,[]) ⟨by omega,by simp,rfl⟩ ?_ ?_
 ·
  exact by_less
 ·
  rintro ⟨i,out⟩ ⟨hi,ho,hI⟩
  dsimp only at hi ho hI ⊢
  rcases drop_case hi with ⟨h1,h2⟩|⟨s,h1,h2,h3⟩
  ·
   rw[h1]at hI
   simp only[readyGo,List.append_nil]at hI
   try refine wk ?_
   exact .one (.tmp rfl (.one (.own rfl (by simp) (dle_eq (by rw[← hI];rfl)))))
  ·
   rw[h1]at hI
   simp only[readyGo]at hI
   obtain⟨d,hd⟩:∃ d,e.deeds[i]? = some d:=⟨e.deeds[i]'(by omega),List.getElem?_eq_getElem (by omega)⟩
   have hna:needsAt e i=needs e i d:=by unfold needsAt;rw[hd]
   rw[hna]at hI
   have cn:=ok_pneeds e i d hs hd (hn d (List.mem_of_getElem? hd)) hk hB
   have hnl:(needs e i d).length≤268435456:=by
    have:=needs_len e.chains e.base (e.base+i) (keysD d) (List.range i) 0
    unfold needs
    simp at this
    omega
   by_cases h4:s=0
   ·
    cases h5:needs e i d with
    |nil =>
     rw[if_pos ⟨h4,h5⟩]at hI
     rw[h5]at cn
     try refine wk ?_
     refine q_loopT (i+1,out++[(i:Int)]) ⟨by dsimp only;omega,by dsimp only;simp;omega,by rw[← hI];simp⟩ (by dsimp only;omega) ?_
     exact by_less
    |cons x l =>
     rw[if_neg (by rw[h5];simp)]at hI
     rw[h5]at cn hnl
     have hne:¬ ((x::l).length:Int)=0:=by simp;omega
     try refine wk ?_
     refine q_loopT (i+1,out) ⟨by dsimp only;omega,by dsimp only;omega,hI⟩ (by dsimp only;omega) ?_
     exact by_less
   ·
    rw[if_neg (fun e=>h4 e.1)]at hI
    try refine wk ?_
    refine q_loopT (i+1,out) ⟨by dsimp only;omega,by dsimp only;omega,hI⟩ (by dsimp only;omega) ?_
    exact by_less
theorem kept_back (l:List Chain) (m:Nat) (c:Chain) (x:Value) (hc:l[m]? = some c):D.sl 2 ((keptRows l m c x).set m ([dstr c.key,D.v x].set 1 (.sl 4 (c.vs.map Version.enc))))=encChains l:=by
 have hlt:=(List.getElem?_eq_some_iff.1 hc).1
 unfold keptRows encChains
 rw[List.set_set]
 congr 1
 apply List.ext_getElem?
 intro j
 by_cases hj:m=j
 ·
  subst hj
  rw[List.getElem?_set_self (by simpa using hlt)]
  simp[hc];rfl
 ·
  rw[List.getElem?_set_ne hj]
theorem kept_at (l:List Chain) (m:Nat) (c:Chain) (x:Value) (hc:l[m]? = some c):(keptRows l m c x)[m]? = some [dstr c.key,D.v x]:=by
 have hlt:=(List.getElem?_eq_some_iff.1 hc).1
 unfold keptRows
 rw[List.getElem?_set_self (by simpa using hlt)]
theorem kept_set (l:List Chain) (m:Nat) (c:Chain) (x:Value) (vs:List Version):(keptRows l m c x).set m [dstr c.key,encVs vs]=(l.set m ⟨c.key,vs⟩).map Chain.enc:=by
 unfold keptRows
 rw[List.set_set,List.map_set]
 rfl
theorem addS_found {k:Str}{b:Int}:∀ {l:List Chain}{m:Nat}{c:Chain},Srt Chain.key l→l[m]? = some c→c.key=k→addS k b l=l.set m ⟨c.key,c.vs++[newV b]⟩
 | [],m,c,_,h,_=>by simp at h
 |d::l,0,c,_,h,hk=>by
  simp at h;subst h
  simp only[addS,if_pos hk,List.set_cons_zero]
 |d::l,m+1,c,hs,h,hk=>by
  have h':l[m]? = some c:=by simpa using h
  obtain⟨h1,h2⟩:=List.pairwise_cons.1 hs
  have h3:=h1 c (List.mem_of_getElem? h')
  rw[hk]at h3
  simp only[addS]
  rw[if_neg (slt_ne h3),if_pos h3,addS_found h2 h' hk,List.set_cons_succ]
theorem addS_new {k:Str}{b:Int}:∀ {l:List Chain}{m:Nat},AtK Chain.key l k m→isAtK Chain.key l k m=false→Srt Chain.key l→addS k b l=l.take m++⟨k,[newV b]⟩::l.drop m
 | [],m,hm,_,_=>by
  have:=hm.le
  obtain rfl:m=0:=by simpa using this
  rfl
 |d::l,0,hm,hn,hs=>by
  have h1:d.key≠k:=by simpa[isAtK] using hn
  have h2:=hm.ge 0 d rfl (Nat.le_refl _)
  simp only[addS]
  rw[if_neg h1,if_neg (by rw[h2];simp)]
  rfl
 |d::l,m+1,hm,hn,hs=>by
  have h2:=hm.lt 0 d rfl (by omega)
  simp only[addS]
  rw[if_neg (slt_ne h2),if_pos h2,addS_new (m:=m) ⟨by have:=hm.le;simpa using this,fun x c hx hlt=>hm.lt (x+1) c (by simpa using hx) (by omega),fun x c hx hge=>hm.ge (x+1) c (by simpa using hx) (by omega)⟩ (by simpa[isAtK] using hn) (List.pairwise_cons.1 hs).2]
  rfl
theorem ok_padd
  (l:List Chain) (k:Str) (b:Int) (hl:l.length≤268435455) (hv:∀ c∈l,c.vs.length≤268435455) (hs:Srt Chain.key l) :
  FnOk Tryz.prog 120 [.d (encChains l),.d (dstr k),.d (dint b)] (.one (encChains (addS k b l))):=by
 refine fnOk_of tbl_ok mixed_ok Tryz.func120 rfl (by kernel_rfl) rfl rfl fun w0 own0=>?_
 have hins:=upd_insert
 obtain⟨m,hm⟩:=hs.at k
 have hml:=hm.le
 have hf:=ok_find l k m (by omega) hm
 have hvv:∀ c∈l,c.vs.length≤268435456:=fun c hc=>by have:=hv c hc;omega
 cases hb:isAt l k m with
 |true =>
  obtain⟨c,hc,hck⟩:=isAt_some hb
  rw[hb]at hf
  have hmlt:=(List.getElem?_eq_some_iff.1 hc).1
  have hcv:=hv c (List.mem_of_getElem? hc)
  rw[addS_found hs hc hck]
  have ho2:=own2_chain l m c hc (by omega) hvv
  have hst0:StopR 1:=⟨rfl⟩
  try refine wkS ?_
  clear hst0
  refine Stop.go (CW.seq (CW.regionS ?_))
  repeat(first|((with_reducible apply SW.s1);exact rfl)|((with_reducible apply SW.s5);exact by_oa;exact rfl))
  refine SW.fam rfl (fam_own2 (nx:=0) ho2 rfl rfl (.cons rfl (.d (.refl _)) trivial .nil)) fun x=>?_
  refine SW.rw ?_
  have hkl:(keptRows l m c x).length=l.length:=by simp[keptRows]
  have hrow:=kept_at l m c x hc
  rw[← kept_back l m c x hc]at hf
  have hst0:StopR 5:=⟨rfl⟩
  repeat(first|refine waS ?_|((with_reducible apply s5);(first|(focus (with_reducible apply a_lend);exact hf;exact rfl;exact .pin (id2:=1) rfl hrow rfl rfl;exact rfl;exact rfl;exact rfl;apply SubsE.cons;exact rfl;exact .d (.refl _);exact trivial;exact SubsE.nil)|exact by_oa|exact by_ca);exact by_g)|refine wb ?_)
  clear hst0
  refine Stop.go (CW.seq (CW.regionS ?_))
  repeat(first|((with_reducible apply SW.s1);exact rfl)|((with_reducible apply SW.s5);exact by_oa;exact rfl))
  refine SW.stut (stut_unpin (i:=32) (id:=1) (nx:=2)) ⟨rfl,rfl,rfl,trivial⟩ ?_
  repeat(first|((with_reducible apply SW.s1);exact rfl)|((with_reducible apply SW.s5);exact by_oa;exact rfl))
  refine SW.stut (stut_freeze (i:=36) (id:=2) (by simp)) ⟨rfl,rfl,trivial⟩ ?_
  repeat(first|((with_reducible apply SW.s1);exact rfl)|((with_reducible apply SW.s5);exact by_oa;exact rfl))
  refine SW.nil ?_
  try refine wk ?_
  refine .one (.tmp rfl (.one (.own rfl (by simp) (dle_eq ?_))))
  have:=kept_set l m c x (c.vs++[newV b])
  show D.sl 2 _=D.sl 2 _
  rw[← this]
  congr 2
  simp[splice,encVs,Version.enc,newV]
 |false =>
  rw[hb]at hf
  have hn:=new_chainOwn l (by omega) hvv
  have hi:=hins (l.map Chain.enc) m (dstr k) (.v nilS) (by simp;omega) (by simp;omega)
  rw[addS_new hm hb hs]
  have hrow:((l.map Chain.enc).take m++[dstr k,.v nilS]::(l.map Chain.enc).drop m)[m]? = some [dstr k,.v nilS]:=by
   rw[List.getElem?_append_right (by simp;omega)]
   simp[Nat.min_eq_left hml]
  have hlen:((l.map Chain.enc).take m++[dstr k,.v nilS]::(l.map Chain.enc).drop m).length=l.length+1:=by simp;omega
  have hmlt:m < ((l.map Chain.enc).take m++[dstr k,.v nilS]::(l.map Chain.enc).drop m).length:=by omega
  have hst0:StopR 5:=⟨rfl⟩
  repeat(first|refine waS ?_|((with_reducible apply s5);(first|exact a_callnew hn rfl rfl by_sub|(focus ((with_reducible apply a_lend);exact hf;exact rfl;exact .plain rfl;(focus first|exact rfl|(simp;done)|(simp;omega));(iterate 2 exact rfl);exact by_sub))|(focus ((with_reducible apply a_upd);exact hi;(iterate 3 exact rfl);(focus first|exact rfl|(simp;done)|(simp;omega));exact rfl;exact by_sub))|exact by_oa|exact by_ca);exact by_g)|refine wb ?_)
  clear hst0
  refine Stop.go (CW.seq (CW.regionS ?_))
  repeat(first|((with_reducible apply SW.s1);exact rfl)|((with_reducible apply SW.s5);exact by_oa;exact rfl))
  refine SW.stut (stut_promote (i:=32) 133 4) ⟨rfl,rfl,trivial⟩ ?_
  repeat(first|((with_reducible apply SW.s1);exact rfl)|((with_reducible apply SW.s5);exact by_oa;exact rfl))
  refine SW.stut (stut_freeze (i:=36) (id:=2) (by simp)) ⟨rfl,rfl,trivial⟩ ?_
  repeat(first|((with_reducible apply SW.s1);exact rfl)|((with_reducible apply SW.s5);exact by_oa;exact rfl))
  refine SW.nil ?_
  try refine wk ?_
  refine .one (.tmp rfl (.one (.own rfl (by simp) (dle_eq ?_))))
  show D.sl 2 _=D.sl 2 _
  congr 1
  rw[List.set_append_right _ _ (by simp;omega)]
  simp[splice,encVs,Version.enc,newV,Chain.enc,Nat.min_eq_left hml]
theorem setV_false (v w:Version):setV false v w=w:=by simp[setV]
theorem setC_ne {k:Str}{v:Version}{c:Chain}(h:c.key≠k):setC k v c=c:=by
 unfold setC
 rw[decide_eq_false h]
 have:c.vs.map (setV false v)=c.vs:=by
  rw[show setV false v=id from funext fun w=>setV_false v w];simp
 rw[this]
theorem set_found {k:Str}{v:Version}{l:List Chain}{m:Nat}{c:Chain}(hs:Srt Chain.key l) (hc:l[m]? = some c) (hk:c.key=k):setChains l k v=l.set m ⟨c.key,c.vs.map (setV true v)⟩:=by
 apply List.ext_getElem?
 intro j
 unfold setChains
 rw[List.getElem?_map]
 by_cases hj:m=j
 ·
  subst hj
  rw[List.getElem?_set_self (List.getElem?_eq_some_iff.1 hc).1,hc]
  simp[setC,hk]
 ·
  rw[List.getElem?_set_ne hj]
  cases hd:l[j]? with
  |none=>rfl
  |some d =>
   have:d.key≠k:=by rw[← hk];exact hs.ne hd hc fun e=>hj e.symm
   simp[setC_ne this]
theorem set_none {k:Str}{v:Version}{l:List Chain}{m:Nat}(hs:Srt Chain.key l) (hm:AtK Chain.key l k m) (hn:isAtK Chain.key l k m=false):setChains l k v=l:=by
 have key:∀ c∈l,setC k v c=c:=fun c hc=>setC_ne fun e=>by
  obtain⟨j,hj⟩:=List.getElem?_of_mem hc
  rcases Nat.lt_trichotomy j m with h|h|h
  ·
   have:=hm.lt j c hj h
   rw[e,slt_irrefl]at this;cases this
  ·
   subst h
   rw[isAtK,hj]at hn
   simp[e]at hn
  ·
   have hml:m < l.length:=by have:=(List.getElem?_eq_some_iff.1 hj).1;omega
   have hme:l[m]? = some l[m]:=List.getElem?_eq_getElem hml
   have h1:=hm.ge m l[m] hme (Nat.le_refl _)
   have h2:=hs.lt hme hj h
   rw[e,h1]at h2;cases h2
 unfold setChains
 conv=>rhs;rw[← List.map_id l]
 exact List.map_congr_left key
def midV (v:Version) (vs:List Version) (i:Nat):List Version:=(vs.take i).map (setV true v)++vs.drop i
theorem midV_at {v:Version}{vs:List Version}{i:Nat}{x:Version}(h:vs[i]? = some x):((midV v vs i).map Version.enc)[i]? = some x.enc∧((midV v vs i).map Version.enc).set i (setV true v x).enc=(midV v vs (i+1)).map Version.enc:=by
 have hlt:=(List.getElem?_eq_some_iff.1 h).1
 have h1:vs.drop i=x::vs.drop (i+1):=by
  have:=List.drop_eq_getElem_cons hlt
  rw[(List.getElem?_eq_some_iff.1 h).2]at this
  exact this
 have h2:vs.take (i+1)=vs.take i++[x]:=by rw[List.take_add_one,h];rfl
 have hl:((vs.take i).map (setV true v)).length=i:=by simp;omega
 unfold midV
 constructor
 ·
  rw[List.map_append,List.getElem?_append_right (by simp;omega),h1]
  simp[Nat.min_eq_left (Nat.le_of_lt hlt)]
 ·
  rw[h1,h2,List.map_append,List.set_append_right _ _ (by simp;omega)]
  simp[Nat.min_eq_left (Nat.le_of_lt hlt)]
theorem ok_pset (l:List Chain) (k:Str) (v:Version) (hl:l.length≤268435455) (hv:∀ c∈l,c.vs.length≤268435455) (hs:Srt Chain.key l) :
  FnOk Tryz.prog 94 [.d (encChains l),.d (dstr k),.d (.agg v.enc)] (.one (encChains (setChains l k v))):=by
 refine fnOk_of tbl_ok mixed_ok Tryz.func94 rfl (by kernel_rfl) rfl rfl fun w0 own0=>?_
 obtain⟨m,hm⟩:=hs.at k
 have hml:=hm.le
 have hf:=ok_find l k m (by omega) hm
 have hvv:∀ c∈l,c.vs.length≤268435456:=fun c hc=>by have:=hv c hc;omega
 cases hb:isAt l k m with
 |true =>
  obtain⟨c,hc,hck⟩:=isAt_some hb
  rw[hb]at hf
  have hmlt:=(List.getElem?_eq_some_iff.1 hc).1
  have hcv:=hv c (List.mem_of_getElem? hc)
  rw[set_found hs hc hck]
  have ho2:=own2_chain l m c hc (by omega) hvv
  have hst0:StopR 1:=⟨rfl⟩
  try refine wkS ?_
  clear hst0
  refine Stop.go (CW.seq (CW.regionS ?_))
  repeat(first|((with_reducible apply SW.s1);exact rfl)|((with_reducible apply SW.s5);exact by_oa;exact rfl))
  refine SW.fam rfl (fam_own2 (nx:=1) ho2 rfl rfl (.cons rfl (.d (.refl _)) trivial .nil)) fun x=>?_
  refine SW.rw ?_
  have hkl:(keptRows l m c x).length=l.length:=by simp[keptRows]
  have hrow:=kept_at l m c x hc
  rw[← kept_back l m c x hc]at hf
  have hst0:StopR 4:=⟨rfl⟩
  repeat(first|refine waS ?_|((with_reducible apply s5);(first|(focus (with_reducible apply a_lend);exact hf;exact rfl;exact .pin (id2:=2) rfl hrow rfl rfl;exact rfl;exact rfl;exact rfl;apply SubsE.cons;exact rfl;exact .d (.refl _);exact trivial;exact SubsE.nil)|exact by_oa|exact by_ca);exact by_g)|refine wb ?_)
  clear hst0
  refine Stop.go (CW.fact (pin_slice (id:=2) rfl) ?_)
  rintro ⟨p,cp,rfl⟩
  have hmk:m < (keptRows l m c (.slice p (c.vs.map Version.enc).length cp)).length:=by omega
  repeat(first|refine wa ?_|((with_reducible apply s5);(first|((with_reducible apply a_lenv);(iterate 4 exact rfl))|exact by_oa|exact by_ca);exact by_g)|refine wb ?_)
  have hvl:(c.vs.map Version.enc).length=c.vs.length:=by simp
  rw[hvl]at hrow hmk hkl ⊢
  generalize hx:Value.slice p c.vs.length cp=x at hrow hmk hkl ⊢
  refine CW.loopT (fun t:Nat=>[sp 5 0,ob 0 v.enc,so 7 1 (keptRows l m c x).length,oa 1 131 2 (keptRows l m c x),(.o 2,.ob (.pin 133 4 ((midV v c.vs t).map Version.enc) x)),sd 8 (dint m),sd 25 (dint c.vs.length),sd 26 (dint t),nxt 3])
   (fun t=>t≤c.vs.length) (fun t=>c.vs.length - t) 0 (Nat.zero_le _) ?_ ?_
  ·
   exact by_less
  ·
   rintro t ht
   rcases drop_case ht with ⟨h1,h2⟩|⟨y,h1,h2,h3⟩
   ·
    subst h2
    have hmid:midV v c.vs c.vs.length=c.vs.map (setV true v):=by simp[midV]
    rw[hmid]
    have hst0:StopR 10:=⟨rfl⟩
    try refine wkS ?_
    clear hst0
    refine Stop.go (CW.stut (stut_fold (id:=1) (id2:=2) (j:=1) hrow rfl) ⟨rfl,rfl,trivial⟩ ?_)
    try refine wk ?_
    refine .one (.tmp rfl (.one (.own rfl (by simp) (dle_eq ?_))))
    exact congrArg _ (kept_set l m c x (c.vs.map (setV true v)))
   ·
    obtain⟨hat,hset⟩:=midV_at (v:=v) h2
    have hne:(midV v c.vs t).map Version.enc≠[]:=by
     intro e
     have:=congrArg List.length e
     simp[midV]at this
     omega
    refine CW.fact (pin_shape (id:=2) rfl hne) ?_
    rintro ⟨b,cp',hxe⟩
    have hml2:((midV v c.vs t).map Version.enc).length=c.vs.length:=by simp[midV];omega
    rw[hml2]at hxe
    subst hxe
    by_cases h4:y.by_=v.by_
    ·
     have hsv:setV true v y=v:=by simp[setV,h4]
     rw[hsv]at hset
     repeat(first|refine wa ?_|((with_reducible apply s5);(first|((with_reducible apply a_iav);(iterate 5 exact rfl);omega)|((with_reducible apply a_fav);(iterate 4 exact rfl))|((with_reducible apply(a_lpin 2 t 0));(iterate 4 exact rfl);exact hat;exact rfl;(first|rfl|omega))|((with_reducible apply(a_spin 2 t 0));(iterate 6 exact rfl);exact hat;exact rfl;(first|rfl|omega))|exact by_oa|exact by_ca);exact by_g)|refine wb ?_)
     refine q_loopT (t+1) (by omega) (by omega) ?_
     dsimp only
     rw[← hset]
     exact by_less
    ·
     have hsv:setV true v y=y:=by unfold setV;rw[if_neg (by simpa using h4)]
     rw[hsv]at hset
     have hset2:(midV v c.vs t).map Version.enc=(midV v c.vs (t+1)).map Version.enc:=by
      rw[← hset]
      refine(List.ext_getElem? fun j=>?_)
      by_cases hj:t=j
      ·
       subst hj
       rw[List.getElem?_set_self (by rw[hml2];exact(List.getElem?_eq_some_iff.1 h2).1),hat]
      ·
       rw[List.getElem?_set_ne hj]
     repeat(first|refine wa ?_|((with_reducible apply s5);(first|((with_reducible apply a_iav);(iterate 5 exact rfl);omega)|((with_reducible apply a_fav);(iterate 4 exact rfl))|((with_reducible apply(a_lpin 2 t 0));(iterate 4 exact rfl);exact hat;exact rfl;(first|rfl|omega))|exact by_oa|exact by_ca);exact by_g)|refine wb ?_)
     refine q_loopT (t+1) (by omega) (by omega) ?_
     rw[hset2]
     exact by_less
 |false =>
  rw[hb]at hf
  have hn:=new_chainOwn l (by omega) hvv
  rw[set_none hs hm hb]
  repeat(first|refine wa ?_|((with_reducible apply s5);(first|exact a_callnew hn rfl rfl by_sub|(focus ((with_reducible apply a_lend);exact hf;exact rfl;exact .plain rfl;(focus first|exact rfl|(simp;done)|(simp;omega));(iterate 2 exact rfl);exact by_sub))|exact by_oa|exact by_ca);exact by_g)|refine wb ?_)
  exact .one (.tmp rfl (.one (.own rfl (by simp) (.refl _))))
def pickV (k:Str):Version→List (Str×(Bool×Int))→Version
 |v,[]=>v
 |v,c::r=>pickV k (if c.1=k then chVer c else v) r
def madeV (cs:List Chain) (b:Int) (ch:List (Str×(Bool×Int))) (k:Str):Version:=⟨b,true,(pickV k (before cs k b) ch).has,(pickV k (before cs k b) ch).n⟩
def pgoSets (cs0:List Chain) (b:Int) (ch:List (Str×(Bool×Int))):List Chain→List Str→List Chain
 |cs,[]=>cs
 |cs,k::ks=>pgoSets cs0 b ch (setChains cs k (madeV cs0 b ch k)) ks
def viewE (cs:List Chain) (b:Int) (k:Str):Int×Bool:=((before cs k b).n,(before cs k b).has)
def pgoNew (e:Engine) (A:Nat) (d:Deed):Engine :=
 ⟨pgoSets e.chains (e.base+A) (runC (viewE e.chains (e.base+A)) d) e.chains d.writes,e.deeds,e.state.set A 1,e.ends.set A (runM (viewE e.chains (e.base+A)) d).2,e.base⟩
theorem ok_viewE (e:Engine) (b:Int) (k:Str) (hs:e.Sm) (hk:Srt Chain.key e.chains):FnOk Tryz.prog 92 [.d (dstr k),.pd e.enc,.pd [dint b]] (.tup [dint (viewE e.chains b k).1,dbool (viewE e.chains b k).2]):=by
 refine fnOk_of tbl_ok mixed_ok Tryz.func92 rfl (by kernel_rfl) rfl rfl fun w0 own0=>?_
 have c1:=ok_pbefore e.chains k b (by have:=hs.c;omega) (fun c h=>by have:=hs.v c h;omega) hk
 unfold viewE
 obtain⟨⟨vb,vm,vh,vn⟩,hv⟩:∃ v,before e.chains k b=v:=⟨_,rfl⟩
 rw[hv]at c1 ⊢
 try refine wk ?_
 exact .two (.tmp rfl (.one (.d (.refl _)))) (.tmp rfl (.one (.d (.refl _))))
theorem pgo_loop (e:Engine) (A:Nat) (d:Deed) (hs:e.Sm) (hd:e.deeds[A]? = some d) (hst:e.state.length=e.deeds.length) (hen:e.ends.length=e.deeds.length) (hk:Srt Chain.key e.chains)
  (hw:wrongDeed d=0) (hch:chOk e.chains) (N:Int) (hb:∀ c∈e.chains,VSrt c.vs∧∀ v∈c.vs,v.by_ < N) (hne:needs e A d=[]) (s:Int) (hsA:e.state[A]? = some s) (hs1:¬ s=1) (hn:FnOk Tryz.prog 57 [.d (.agg e.enc),.d (dint A)] (.one (encInts []))) :
  FnOk Tryz.prog 65 [.d (.agg e.enc),.d (dint A)] (.tup [.agg (pgoNew e A d).enc,dint 0]):=by
 refine fnOk_of tbl_ok mixed_ok Tryz.func65 rfl (by kernel_rfl) rfl rfl fun w0 own0=>?_
 have hA:=(List.getElem?_eq_some_iff.1 hd).1
 have hdl:=hs.d
 have hbase:=hs.b
 have hcl:=hs.c
 have ho:=wrongDeed_ok hw
 have hwl:=ho.w
 have co:=news_planOwn e hs
 have cr:=ok_run 92 [refD e.enc,refD [dint (e.base+A)]] [.pd e.enc,.pd [dint (e.base+A)]] (viewE e.chains (e.base+A)) d (.ref (.ref .nil)) (fun k _=>ok_viewE e (e.base+A) k hs hk)
  (fun k _=>before_ok hch k _) (by have:=ho.c;omega) (by omega) ho.i (wrong_reads hw)
 unfold pgoNew
 have hrl:(runC (viewE e.chains (e.base+A)) d).length≤5:=by
  unfold runC
  split
  ·
   simp
  ·
   exact Nat.le_trans (chg_len _ _) hwl
 unfold runRes at cr
 generalize runC (viewE e.chains (e.base+A)) d=ch at cr hrl ⊢
 generalize (runM (viewE e.chains (e.base+A)) d).2=dn at cr ⊢
 have hAl:¬ ((A:Int) < 0):=by omega
 have hst0:StopR 9:=⟨rfl⟩
 repeat(first|refine waS ?_|((with_reducible apply s5);(first|exact a_call hn rfl by_sub|exact a_callnews co rfl rfl by_sub|exact by_oa|exact by_ca);exact by_g)|refine wb ?_)
 clear hst0
 refine Stop.go (CW.stut (stut_freezebox (i:=2) (id:=0) (ds:=e.enc) rfl) ⟨rfl,rfl,trivial⟩ ?_)
 refine CW.stut (stut_freezebox (i:=7) (id:=6) (ds:=[dint (e.base+A)]) rfl) ⟨rfl,rfl,trivial⟩ ?_
 have hst0:StopR 10:=⟨rfl⟩
 repeat(first|refine waS ?_|((with_reducible apply s5);(first|((with_reducible apply(a_mkfn (ds:=[refD e.enc,refD [dint (e.base+A)]])));exact rfl;apply SubsE.cons;exact rfl;exact .d (.refl _);exact trivial;apply SubsE.cons;exact rfl;exact .d (.refl _);exact trivial;exact SubsE.nil)|exact by_oa|exact by_ca);exact by_g)|refine wb ?_)
 clear hst0
 refine Stop.go (CW.stut (stut_refpd (i:=2)) ⟨rfl,trivial⟩ ?_)
 refine CW.stut (stut_refpd (i:=7)) ⟨rfl,trivial⟩ ?_
 try refine wk ?_
 refine CW.loopT (fun t:Nat×List Chain=>[sd 1 (dint A),(.s 2,.av (.pd e.enc)),sp 4 1,ob 1 noE.enc0,sd 5 (dint 0),sp 6 5,(.o 5,.ob (.box [.d (encChains t.2),.own 2 (e.deeds.map Deed.enc).length,.own 3 (e.state.map encInt1).length,.own 4 (e.ends.map Done.enc).length,.d (dint e.base)])),(.s 7,.av (.pd [dint (e.base+A)])),sp 9 7,ob 7 dn.enc,sd 10 (encVs (ch.map chVer)),sd 11 (encStrs (ch.map (·.1))),sd 69 (encStrs d.writes),sd 70 (dint d.writes.length),sd 71 (dint t.1),oa 2 28 3 (e.deeds.map Deed.enc),oa 3 3 1 (e.state.map encInt1),oa 4 163 5 (e.ends.map Done.enc),nxt 8])
  (fun t=>t.1≤d.writes.length∧t.2.length≤134217728∧(∀ c∈t.2,c.vs.length≤134217728)∧(Srt Chain.key t.2∧∀ c∈t.2,VSrt c.vs∧∀ v∈c.vs,v.by_ < N)∧pgoSets e.chains (e.base+A) ch t.2 (d.writes.drop t.1)=pgoSets e.chains (e.base+A) ch e.chains d.writes) (fun t=>d.writes.length - t.1) (0,e.chains) ⟨by omega,hcl,hs.v,⟨hk,hb⟩,rfl⟩ ?_ ?_
 ·
  exact by_less
 ·
  rintro ⟨j,cs⟩ ⟨hj,hl1,hl2,hl3,hJ⟩
  dsimp only at hj hl1 hl2 hl3 hJ ⊢
  rcases drop_case hj with ⟨h1,h2⟩|⟨k,h1,h2,h3⟩
  ·
   rw[h1,pgoSets]at hJ
   have hsA':(e.state.map encInt1)[A]? = some (encInt1 s):=by rw[List.getElem?_map,hsA];rfl
   have hEl:A < e.ends.length:=by omega
   obtain⟨q,hq⟩:∃ q,e.ends[A]? = some q:=⟨e.ends[A],List.getElem?_eq_getElem hEl⟩
   have hq':(e.ends.map Done.enc)[A]? = some q.enc:=by rw[List.getElem?_map,hq];rfl
   have hAs:A < (e.state.map encInt1).length:=by simp;omega
   have hAe:A < (e.ends.map Done.enc).length:=by simp;omega
   try refine wk ?_
   rw[← hJ]
   refine .two (.cell rfl rfl rfl rfl (.agg (.cons (.d (.refl _)) (.cons (.own rfl (by simp) (.refl _)) (.cons (.own rfl (by simp) (dle_eq ?_)) (.cons (.own rfl (by simp) (dle_eq ?_)) (.cons (.d (.refl _)) .nil))))))) (.tmp rfl (.one (.d (.refl _))))
   ·
    show D.sl 1 _=D.sl 1 _
    rw[List.map_set];rfl
   ·
    show D.sl 5 _=D.sl 5 _
    rw[List.map_set];rfl
  ·
   rw[h1,pgoSets]at hJ
   have cb:=ok_pbefore e.chains k (e.base+A) (by omega) (fun c h=>by have:=hs.v c h;omega) hk
   try refine wk ?_
   refine CW.loopT (fun t:Nat×Version=>[sd 1 (dint A),(.s 2,.av (.pd e.enc)),sp 4 1,ob 1 noE.enc0,sd 5 (dint 0),sp 6 5,(.o 5,.ob (.box [.d (encChains cs),.own 2 (e.deeds.map Deed.enc).length,.own 3 (e.state.map encInt1).length,.own 4 (e.ends.map Done.enc).length,.d (dint e.base)])),(.s 7,.av (.pd [dint (e.base+A)])),sp 9 7,ob 7 dn.enc,sd 10 (encVs (ch.map chVer)),sd 11 (encStrs (ch.map (·.1))),sd 69 (encStrs d.writes),sd 70 (dint d.writes.length),sd 71 (dint j),oa 2 28 3 (e.deeds.map Deed.enc),oa 3 3 1 (e.state.map encInt1),oa 4 163 5 (e.ends.map Done.enc),sd 13 (dstr k),sp 14 8,ob 8 t.2.enc,sd 80 (encStrs (ch.map (·.1))),sd 81 (dint (ch.map (·.1)).length),sd 82 (dint t.1),nxt 9])
    (fun t=>t.1≤ch.length∧pickV k t.2 (ch.drop t.1)=pickV k (before e.chains k (e.base+A)) ch) (fun t=>ch.length - t.1) (0,before e.chains k (e.base+A)) ⟨by omega,rfl⟩ ?_ ?_
   ·
    exact by_less
   ·
    rintro ⟨i,v⟩ ⟨hi,hI⟩
    dsimp only at hi hI ⊢
    rcases drop_case hi with ⟨g1,g2⟩|⟨c,g1,g2,g3⟩
    ·
     rw[g1,pickV]at hI
     have hmv:madeV e.chains (e.base+A) ch k=⟨e.base+A,true,v.has,v.n⟩:=by unfold madeV;rw[← hI]
     have cset:=ok_pset cs k ⟨e.base+A,true,v.has,v.n⟩ (by omega) (fun c h=>by have:=hl2 c h;omega) hl3.1
     rw[hmv]at hJ
     obtain⟨vb,vm,vh,vn⟩:=v
     dsimp only at cset hJ
     try refine wk ?_
     refine q_loopT (j+1,setChains cs k ⟨e.base+A,true,vh,vn⟩) ⟨by dsimp only;omega,by dsimp only;rw[set_len];exact hl1,set_vs hl2,set_srt hl3.1 hl3.2,hJ⟩ (by dsimp only;omega) ?_
     exact by_less
    ·
     rw[g1,pickV]at hI
     have g4:(ch.map chVer)[i]? = some (chVer c):=by rw[List.getElem?_map,g2];rfl
     have g5:(ch.map (·.1))[i]? = some c.1:=by rw[List.getElem?_map,g2];rfl
     by_cases h:c.1=k
     ·
      rw[if_pos h]at hI
      try refine wk ?_
      refine q_loopT (i+1,chVer c) ⟨by dsimp only;omega,hI⟩ (by dsimp only;omega) ?_
      exact by_less
     ·
      rw[if_neg h]at hI
      try refine wk ?_
      refine q_loopT (i+1,v) ⟨by dsimp only;omega,hI⟩ (by dsimp only;omega) ?_
      exact by_less
structure WInv (e:Engine):Prop where
 d:∀ d∈e.deeds,wrongDeed d=0
 n:∀ c∈e.chains,∀ v∈c.vs,v.made=false→∃ (k:Nat) (x:Deed),v.by_=e.base+k∧e.state[k]? = some 0∧e.deeds[k]? = some x∧c.key∈x.writes
 h:∀ c∈e.chains,∀ v∈c.vs,v.has=false→v.n=0
 l:e.state.length=e.deeds.length
theorem newE_w (r:List Pair):WInv (newE r):=by
 have h0:∀ c∈(newE r).chains,∀ v∈c.vs,v.made=true∧v.has=true:=by
  intro c hc v hv
  obtain⟨p,_,rfl⟩:=List.mem_map.1 hc
  simp[rowChain]at hv
  subst hv;exact⟨rfl,rfl⟩
 refine⟨by simp[newE],fun c hc v hv hm=>?_,fun c hc v hv hm=>?_,rfl⟩
 ·
  rw[(h0 c hc v hv).1]at hm;cases hm
 ·
  rw[(h0 c hc v hv).2]at hm;cases hm
theorem addKeys_mem {b:Int}:∀ {ks:List Str}{l:List Chain},Srt Chain.key l→∀ c∈addKeys b l ks,∀ v∈c.vs,(∃ c0∈l,c0.key=c.key∧v∈c0.vs)∨(v=newV b∧c.key∈ks)
 | [],l,_,c,hc,v,hv => .inl ⟨c,hc,rfl,hv⟩
 |k::ks,l,hs,c,hc,v,hv=>by
  simp only[addKeys]at hc
  rw[addC_srt hs]at hc
  rcases addKeys_mem (addS_srt hs) c hc v hv with ⟨c0,h0,h1,h2⟩|⟨h1,h2⟩
  ·
   rcases addS_mem h0 with h3|rfl|⟨c1,h3,h4,rfl⟩
   ·
    exact .inl ⟨c0,h3,h1,h2⟩
   ·
    simp at h2
    exact .inr ⟨h2,by rw[← h1];exact List.mem_cons_self ..⟩
   ·
    rcases List.mem_append.1 h2 with h2|h2
    ·
     exact .inl ⟨c1,h3,by rw[h4];exact h1,h2⟩
    ·
     simp at h2
     exact .inr ⟨h2,by rw[← h1];exact List.mem_cons_self ..⟩
  ·
   exact .inr ⟨h1,List.mem_cons_of_mem _ h2⟩
theorem WInv.add1 {e:Engine}(h:WInv e) (hs:SInv e) {d:Deed}(hd:wrongDeed d=0):WInv (add1 e d):=by
 have hlt:∀ (k:Nat) (x:Deed),e.deeds[k]? = some x→k < e.deeds.length:=fun k x hx=>(List.getElem?_eq_some_iff.1 hx).1
 refine⟨fun x hx=>?_,fun c hc v hv hm=>?_,fun c hc v hv hm=>?_,?_⟩
 ·
  rcases List.mem_append.1 hx with hx|hx
  ·
   exact h.d x hx
  ·
   simp at hx;subst hx;exact hd
 ·
  rcases addKeys_mem hs.k c hc v hv with ⟨c0,h0,h1,h2⟩|⟨rfl,h2⟩
  ·
   obtain⟨k,x,h3,h4,h5,h6⟩:=h.n c0 h0 v h2 hm
   have:=hlt k x h5
   refine⟨k,x,h3,?_,?_,by rw[← h1];exact h6⟩
   ·
    show(e.state++[0])[k]? = _
    rw[List.getElem?_append_left (by rw[h.l];exact this)];exact h4
   ·
    show(e.deeds++[d])[k]? = _
    rw[List.getElem?_append_left this];exact h5
  ·
   refine⟨e.deeds.length,d,rfl,?_,?_,h2⟩
   ·
    show(e.state++[0])[e.deeds.length]? = _
    rw[← h.l];simp
   ·
    show(e.deeds++[d])[e.deeds.length]? = _
    simp
 ·
  rcases addKeys_mem hs.k c hc v hv with ⟨c0,h0,h1,h2⟩|⟨rfl,h2⟩
  ·
   exact h.h c0 h0 v h2 hm
  ·
   rfl
 ·
  show(e.state++[0]).length=(e.deeds++[d]).length
  simp[h.l]
theorem WInv.addAll:∀ {l:List Deed}{e:Engine},WInv e→SInv e→(∀ d∈l,wrongDeed d=0)→WInv (addAll e l)
 | [],e,h,_,_=>h
 |d::l,e,h,hs,hl=>by
  simp only[RF.addAll]
  have hd:=hl d (List.mem_cons_self ..)
  exact WInv.addAll (h.add1 hs hd) (hs.add1 (wrong_keys hd).2) fun x hx=>hl x (List.mem_cons_of_mem _ hx)
theorem WInv.addE {e:Engine}(h:WInv e) (hs:SInv e) {l:List Deed}(hw:(addE e l).2=0):WInv (addE e l).1:=by
 unfold RF.addE at hw ⊢
 by_cases h0:wrongs l=0
 ·
  rw[if_pos h0]
  exact h.addAll hs fun d hd=>wrongs_mem h0 d hd
 ·
  rw[if_neg h0]at hw;exact absurd hw h0
theorem get_none0 {k:Str}:∀ {r:List Pair},(RF.get r k).2=false→(RF.get r k).1=0
 | [],_=>rfl
 |p::r,h=>by
  simp only[RF.get]at h ⊢
  by_cases hp:p.key=k
  ·
   rw[if_pos hp]at h;cases h
  ·
   rw[if_neg hp]at h ⊢;exact get_none0 h
theorem goSets_mem {r:List Pair}{b:Int}:∀ {ks:List Str}{l:List Chain},∀ c∈goSets r b l ks,∀ v∈c.vs,
  (∃ c0∈l,c0.key=c.key∧v∈c0.vs∧(v.by_=b→c.key∉ks))∨(v.made=true∧(v.has=false→v.n=0))
 | [],l,c,hc,v,hv => .inl ⟨c,hc,rfl,hv,fun _=>by simp⟩
 |k::ks,l,c,hc,v,hv=>by
  simp only[goSets]at hc
  rcases goSets_mem c hc v hv with ⟨c0,h0,h1,h2,h3⟩|h1
  ·
   obtain⟨c1,h4,rfl⟩:=List.mem_map.1 h0
   obtain⟨w,h5,rfl⟩:=List.mem_map.1 h2
   by_cases hh:decide (c1.key=k)=true∧w.by_=b
   ·
    refine .inr ?_
    have e:setV (decide (c1.key=k)) ⟨b,true,(RF.get r k).2,(RF.get r k).1⟩ w=⟨b,true,(RF.get r k).2,(RF.get r k).1⟩:=by unfold setV;rw[if_pos hh]
    rw[e]
    exact⟨rfl,get_none0⟩
   ·
    have e:setV (decide (c1.key=k)) ⟨b,true,(RF.get r k).2,(RF.get r k).1⟩ w=w:=by unfold setV;rw[if_neg hh]
    rw[e]at h3 ⊢
    refine .inl ⟨c1,h4,h1,h5,fun hb=>?_⟩
    have h6:=h3 hb
    intro hm
    rcases List.mem_cons.1 hm with hm|hm
    ·
     exact hh ⟨by simp[show c1.key=c.key from h1,hm],hb⟩
    ·
     exact h6 hm
  ·
   exact .inr h1
theorem WInv.goNew {e:Engine}(h:WInv e) (A:Nat) (d:Deed) (hd:e.deeds[A]? = some d):WInv (goNew e A d):=by
 refine⟨h.d,fun c hc v hv hm=>?_,fun c hc v hv hm=>?_,?_⟩
 ·
  rcases goSets_mem c hc v hv with ⟨c0,h0,h1,h2,h3⟩|h1
  ·
   obtain⟨k,x,h4,h5,h6,h7⟩:=h.n c0 h0 v h2 hm
   by_cases hk:k=A
   ·
    subst hk
    rw[hd]at h6
    cases h6
    exact absurd (h1▸h7) (h3 h4)
   ·
    refine⟨k,x,h4,?_,h6,by rw[← h1];exact h7⟩
    show(e.state.set A 1)[k]? = _
    rw[List.getElem?_set_ne (fun e=>hk e.symm)];exact h5
  ·
   rw[h1.1]at hm;cases hm
 ·
  rcases goSets_mem c hc v hv with ⟨c0,h0,h1,h2,h3⟩|h1
  ·
   exact h.h c0 h0 v h2 hm
  ·
   exact h1.2 hm
 ·
  show(e.state.set A 1).length=_
  rw[List.length_set];exact h.l
theorem WInv.goE {e:Engine}(h:WInv e) (at_:Int):WInv (goE e at_).1:=by
 unfold Proofs.YtccblhpfjlgmbabGreatDoor.goE
 split
 ·
  exact h
 unfold goAt
 cases hA:e.deeds[at_.toNat]? with
 |none=>exact h
 |some d =>
  dsimp only
  split
  ·
   exact h
  split
  ·
   exact h.goNew _ _ hA
  ·
   exact h
theorem markN_one:∀ {s:List Int}{j:Nat},j < markN s→s[j]? = some 1
 | [],j,h=>by simp[markN]at h
 |x::s,j,h=>by
  simp only[markN]at h
  by_cases hx:x=1
  ·
   rw[if_pos hx]at h
   cases j with
   |zero=>simp[hx]
   |succ j=>simpa using markN_one (s:=s) (j:=j) (by omega)
  ·
   rw[if_neg hx]at h;omega
theorem WInv.clearE {e:Engine}(h:WInv e):WInv (clearE e):=by
 refine⟨fun d hd=>h.d d (List.mem_of_mem_drop hd),fun c hc v hv hm=>?_,fun c hc v hv hm=>?_,?_⟩
 ·
  obtain⟨c0,h0,rfl⟩:=clear_mem hc
  obtain⟨k,x,h1,h2,h3,h4⟩:=h.n c0 h0 v (clrV_sub hv) hm
  have hk:markN e.state≤k:=by
   rcases Nat.lt_or_ge k (markN e.state) with hlt|hge
   ·
    have:=markN_one hlt
    rw[h2]at this;cases this
   ·
    exact hge
  refine⟨k - markN e.state,x,?_,?_,?_,h4⟩
  ·
   show v.by_=e.base+markN e.state+((k - markN e.state:Nat):Int)
   omega
  ·
   show(e.state.drop (markN e.state))[k - markN e.state]? = _
   rw[List.getElem?_drop,show markN e.state+(k - markN e.state)=k by omega];exact h2
  ·
   show(e.deeds.drop (markN e.state))[k - markN e.state]? = _
   rw[List.getElem?_drop,show markN e.state+(k - markN e.state)=k by omega];exact h3
 ·
  obtain⟨c0,h0,rfl⟩:=clear_mem hc
  exact h.h c0 h0 v (clrV_sub hv) hm
 ·
  show(e.state.drop _).length=(e.deeds.drop _).length
  simp[h.l]
theorem bvs_mem {h:Bool}{b:Int}:∀ {l:List Version}{out:Version},bvs h b out l=out∨(h=true∧bvs h b out l∈l∧(bvs h b out l).by_ < b)
 | [],out => .inl rfl
 |v::l,out=>by
  simp only[bvs]
  rcases bvs_mem (h:=h) (b:=b) (l:=l) (out:=if h&&decide (v.by_ < b) then v else out) with e|⟨h1,h2,h3⟩
  ·
   rw[e]
   by_cases hc:(h&&decide (v.by_ < b))=true
   ·
    rw[if_pos hc]
    simp only[Bool.and_eq_true,decide_eq_true_eq]at hc
    exact .inr ⟨hc.1,List.mem_cons_self ..,hc.2⟩
   ·
    rw[if_neg hc];exact .inl rfl
  ·
   exact .inr ⟨h1,List.mem_cons_of_mem _ h2,h3⟩
theorem beforeGo_mem {k:Str}{b:Int}:∀ {l:List Chain}{out:Version},beforeGo k b out l=out∨∃ c∈l,c.key=k∧beforeGo k b out l∈c.vs∧(beforeGo k b out l).by_ < b
 | [],out => .inl rfl
 |c::l,out=>by
  simp only[beforeGo]
  rcases beforeGo_mem (k:=k) (b:=b) (l:=l) (out:=bvs (decide (c.key=k)) b out c.vs) with e|⟨c',h1,h2⟩
  ·
   rw[e]
   rcases bvs_mem (h:=decide (c.key=k)) (b:=b) (l:=c.vs) (out:=out) with e2|⟨h1,h2,h3⟩
   ·
    exact .inl e2
   ·
    exact .inr ⟨c,List.mem_cons_self ..,by simpa using h1,h2,h3⟩
  ·
   exact .inr ⟨c',List.mem_cons_of_mem _ h1,h2⟩
theorem before_mem (l:List Chain) (k:Str) (b:Int):before l k b=noV∨∃ c∈l,c.key=k∧before l k b∈c.vs∧(before l k b).by_ < b:=beforeGo_mem
theorem WInv.nb {e:Engine}(h:WInv e):NB e:=by
 intro at_ k hm
 rcases before_mem e.chains k (e.base+at_) with h1|⟨c,h1,h2,h3,h4⟩
 ·
  rw[h1]at hm;cases hm
 ·
  obtain⟨j,x,h5,_⟩:=h.n c h1 _ h3 hm
  exact⟨by omega,h4⟩
theorem WInv.bh {e:Engine}(h:WInv e) (k:Str) (b:Int):(before e.chains k b).has=false→(before e.chains k b).n=0:=by
 intro hm
 rcases before_mem e.chains k b with h1|⟨c,h1,h2,h3,h4⟩
 ·
  rw[h1];rfl
 ·
  exact h.h c h1 _ h3 hm
theorem keysGo'_mem {k:Str}:∀ {l out:List Str},k∈keysGo' out l↔k∈out∨k∈l
 | [],out=>by simp[keysGo']
 |x::l,out=>by
  simp only[keysGo']
  rw[keysGo'_mem]
  by_cases h:isIn out x=true
  ·
   rw[if_pos h]
   have:=isIn_true h
   constructor
   ·
    rintro (h1|h1)
    ·
     exact .inl h1
    ·
     exact .inr (List.mem_cons_of_mem _ h1)
   ·
    rintro (h1|h1)
    ·
     exact .inl h1
    ·
     rcases List.mem_cons.1 h1 with rfl|h1
     ·
      exact .inl this
     ·
      exact .inr h1
  ·
   rw[if_neg h]
   simp[or_assoc]
theorem goRows_get {cs:List Chain}{b:Int}:∀ {ks:List Str}{r:List Pair},Srt Pair.key r→Srt Pair.key (goRows cs b r ks)∧∀ k,RF.get (goRows cs b r ks) k=if k∈ks∧(before cs k b).has=true then ((before cs k b).n,true) else RF.get r k
 | [],r,h=>⟨h,fun k=>by simp[goRows]⟩
 |x::ks,r,h=>by
  simp only[goRows]
  by_cases hx:(before cs x b).has=true
  ·
   rw[if_pos hx,put_true h]
   obtain⟨h1,h2⟩:=goRows_get (cs:=cs) (b:=b) (ks:=ks) (putS_srt (k:=x) (n:=(before cs x b).n) h)
   refine⟨h1,fun k=>?_⟩
   rw[h2 k,get_put]
   by_cases hk:k∈ks∧(before cs k b).has=true
   ·
    rw[if_pos hk,if_pos ⟨List.mem_cons_of_mem _ hk.1,hk.2⟩]
   ·
    rw[if_neg hk]
    by_cases he:x=k
    ·
     subst he
     rw[if_pos rfl,if_pos ⟨List.mem_cons_self ..,hx⟩]
    ·
     rw[if_neg he,if_neg]
     rintro ⟨h3,h4⟩
     rcases List.mem_cons.1 h3 with h3|h3
     ·
      exact he h3.symm
     ·
      exact hk ⟨h3,h4⟩
  ·
   rw[if_neg hx]
   obtain⟨h1,h2⟩:=goRows_get (cs:=cs) (b:=b) (ks:=ks) h
   refine⟨h1,fun k=>?_⟩
   rw[h2 k]
   by_cases hk:k∈ks∧(before cs k b).has=true
   ·
    rw[if_pos hk,if_pos ⟨List.mem_cons_of_mem _ hk.1,hk.2⟩]
   ·
    rw[if_neg hk,if_neg]
    rintro ⟨h3,h4⟩
    rcases List.mem_cons.1 h3 with h3|h3
    ·
     subst h3;exact hx h4
    ·
     exact hk ⟨h3,h4⟩
theorem pickV_chg {k:Str}{m:Mk}:∀ {ws:List Str}{v:Version},pickV k v (chg m ws)=match mG m k with
  |some c=>if k∈ws then chVer (k,c) else v
  |none=>v
 | [],v=>by
  simp only[chg,pickV]
  split <;> simp
 |x::ws,v=>by
  simp only[chg]
  cases hx:mG m x with
  |none =>
   dsimp only
   rw[pickV_chg]
   cases hk:mG m k with
   |none=>rfl
   |some c =>
    have hne:¬ k=x:=fun e=>by subst e;rw[hx]at hk;cases hk
    dsimp only
    by_cases hw:k∈ws
    ·
     rw[if_pos hw,if_pos (List.mem_cons_of_mem _ hw)]
    ·
     rw[if_neg hw,if_neg (by simp[hne,hw])]
  |some c =>
   simp only[pickV]
   rw[pickV_chg]
   by_cases he:x=k
   ·
    subst he
    rw[hx,if_pos rfl]
    dsimp only
    rw[if_pos (List.mem_cons_self ..)]
    simp
   ·
    rw[if_neg he]
    have hne:¬ k=x:=fun e=>he e.symm
    cases hk:mG m k with
    |none=>rfl
    |some c' =>
     dsimp only
     by_cases hw:k∈ws
     ·
      rw[if_pos hw,if_pos (List.mem_cons_of_mem _ hw)]
     ·
      rw[if_neg hw,if_neg (by simp[hne,hw])]
theorem pgoSets_eq {cs0:List Chain}{b:Int}{ch:List (Str×(Bool×Int))}{R:List Pair}:∀ {ks:List Str}{cs:List Chain},(∀ k∈ks,madeV cs0 b ch k=⟨b,true,(RF.get R k).2,(RF.get R k).1⟩)→pgoSets cs0 b ch cs ks=goSets R b cs ks
 | [],cs,_=>rfl
 |k::ks,cs,h=>by
  simp only[pgoSets,goSets]
  rw[h k (List.mem_cons_self ..)]
  exact pgoSets_eq fun x hx=>h x (List.mem_cons_of_mem _ hx)
theorem pgoNew_eq {e:Engine}(h:WInv e) {A:Nat}{d:Deed}(hd:e.deeds[A]? = some d):pgoNew e A d=goNew e A d:=by
 have hw:=h.d d (List.mem_of_getElem? hd)
 obtain⟨hs0,hget⟩:=goRows_get (cs:=e.chains) (b:=e.base+A) (ks:=keysD d) (r:=[]) List.Pairwise.nil
 have hkd:∀ k,k∈d.reads∨k∈d.writes→RF.get (goRows e.chains (e.base+A) [] (keysD d)) k=viewE e.chains (e.base+A) k:=fun k hk=>by
  have hm:k∈keysD d:=by
   unfold keysD
   rw[keysGo'_mem]
   exact .inr (by simpa using hk)
  rw[hget k]
  unfold viewE
  cases hh:(before e.chains k (e.base+A)).has with
  |true=>rw[if_pos ⟨hm,rfl⟩]
  |false =>
   rw[if_neg (by simp),h.bh k _ hh]
   rfl
 have hrun:runM (viewE e.chains (e.base+A)) d=runM (RF.get (goRows e.chains (e.base+A) [] (keysD d))) d :=
  runGo_congr fun i hi hk=>by rw[hkd i.key (.inl (wrong_reads hw i hi hk))]
 have hrunC:runC (viewE e.chains (e.base+A)) d=runC (RF.get (goRows e.chains (e.base+A) [] (keysD d))) d:=by unfold runC;rw[hrun]
 unfold pgoNew goNew goDone
 rw[hrunC,hrun]
 generalize hr0:goRows e.chains (e.base+A) [] (keysD d)=r0 at hs0 hkd
 have hpl:=plain_do hs0 (wrong_keyed hw)
 rw[← hpl]
 unfold plainD
 dsimp only
 congr 1
 refine pgoSets_eq fun k hk=>?_
 obtain⟨h1,h2,h3⟩:=run_do (r:=r0) (W:=d.writes) (l:=d.code) (sk:=0) (m:=[]) (e:=done0) (now:=r0) ⟨hs0,fun k=>rfl,fun k c h=>by simp[mG]at h,fun k c h=>by simp[mG]at h⟩ rfl (wrong_keyed hw)
 unfold madeV
 have key:(RF.get (appC r0 (runC (RF.get r0) d)) k).2=(pickV k (before e.chains k (e.base+A)) (runC (RF.get r0) d)).has∧(RF.get (appC r0 (runC (RF.get r0) d)) k).1=(pickV k (before e.chains k (e.base+A)) (runC (RF.get r0) d)).n:=by
  unfold runC
  by_cases hf:(runM (RF.get r0) d).2.failed=true
  ·
   rw[if_pos hf]
   simp only[appC,pickV]
   rw[hkd k (.inr hk)]
   exact⟨rfl,rfl⟩
  ·
   rw[if_neg hf,appC_get hs0,if_pos hk,pickV_chg]
   have hf':(doGo r0 0 r0 done0 d.code).2.failed=false:=by rw[← h1];exact Bool.eq_false_iff.2 hf
   have hmi:=h3 hf'
   unfold chAt
   have hmm:(runM (RF.get r0) d).1=(runGo (RF.get r0) 0 [] done0 d.code).1:=rfl
   cases hm:mG (runM (RF.get r0) d).1 k with
   |none =>
    dsimp only
    rw[hkd k (.inr hk)]
    exact⟨rfl,rfl⟩
   |some c =>
    dsimp only
    rw[if_pos hk]
    unfold chOf chVer
    by_cases hc:c.1=true
    ·
     rw[if_pos hc]
     exact⟨hc.symm,rfl⟩
    ·
     rw[if_neg hc]
     have hc':c.1=false:=Bool.eq_false_iff.2 hc
     exact⟨hc'.symm,(hmi.f k c (by rw[← hmm];exact hm) hc').symm⟩
 rw[key.1,key.2]
theorem do_get {r:List Pair}{d:Deed}(hs:Srt Pair.key r) (hw:wrongDeed d=0) (k:Str) :
  RF.get (doD r d).1 k=if (runM (RF.get r) d).2.failed=true then RF.get r k else if k∈d.writes then chAt r (runM (RF.get r) d).1 k else RF.get r k:=by
 rw[← plain_do hs (wrong_keyed hw)]
 unfold plainD runC
 dsimp only
 by_cases hf:(runM (RF.get r) d).2.failed=true
 ·
  rw[if_pos hf,if_pos hf];rfl
 ·
  rw[if_neg hf,if_neg hf,appC_get hs]
theorem do_end {r:List Pair}{d:Deed}(hs:Srt Pair.key r) (hw:wrongDeed d=0):(doD r d).2=(runM (RF.get r) d).2:=by
 rw[← plain_do hs (wrong_keyed hw)];rfl
theorem do_same {r:List Pair}{d:Deed}(hs:Srt Pair.key r) (hw:wrongDeed d=0) {k:Str}(hk:k∉d.writes):RF.get (doD r d).1 k=RF.get r k:=by
 rw[do_get hs hw,if_neg hk,ite_self]
theorem setV_by (h:Bool) (v w:Version):(setV h v w).by_=w.by_:=by
 unfold setV
 split
 ·
  next hh=>exact hh.2.symm
 ·
  rfl
theorem bvs_map {h hit:Bool}{x:Int}{v:Version}:∀ {l:List Version}{out:Version},bvs h x (setV hit v out) (l.map (setV hit v))=setV hit v (bvs h x out l)
 | [],out=>rfl
 |w::l,out=>by
  simp only[List.map_cons,bvs,setV_by]
  have e:(if (h&&decide (w.by_ < x))=true then setV hit v w else setV hit v out)=setV hit v (if (h&&decide (w.by_ < x))=true then w else out):=by split <;> rfl
  rw[e]
  exact bvs_map
theorem beforeGo_set {k:Str}{x:Int}{v:Version}:∀ {l:List Chain}{out:Version},beforeGo k x (setV true v out) (setChains l k v)=setV true v (beforeGo k x out l)
 | [],out=>rfl
 |c::l,out=>by
  simp only[setChains,List.map_cons,beforeGo,setC]
  by_cases hk:c.key=k
  ·
   rw[decide_eq_true hk,bvs_map]
   exact beforeGo_set (l:=l)
  ·
   rw[decide_eq_false hk,bvs_false,bvs_false]
   exact beforeGo_set (l:=l)
theorem beforeGo_set_ne {k k':Str}{x:Int}{v:Version}(hne:k≠k'):∀ {l:List Chain}{out:Version},beforeGo k x out (setChains l k' v)=beforeGo k x out l
 | [],out=>rfl
 |c::l,out=>by
  simp only[setChains,List.map_cons,beforeGo,setC]
  by_cases hk:c.key=k
  ·
   have hk':¬ c.key=k':=fun e=>hne (hk.symm.trans e)
   have hid:c.vs.map (setV (decide (c.key=k')) v)=c.vs:=by
    rw[decide_eq_false hk']
    exact(List.map_congr_left fun w _=>show setV false v w=w by unfold setV;simp).trans (List.map_id _)
   rw[hid]
   exact beforeGo_set_ne hne (l:=l)
  ·
   rw[decide_eq_false hk,bvs_false,bvs_false]
   exact beforeGo_set_ne hne (l:=l)
theorem before_setG {l:List Chain}{k k':Str}{x:Int}{v:Version}(hv:v.by_ ≠ -1):before (setChains l k' v) k x=if k'=k then setV true v (before l k x) else before l k x:=by
 unfold before
 by_cases h:k'=k
 ·
  subst h
  rw[if_pos rfl,← beforeGo_set]
  congr 1
  unfold setV
  rw[if_neg (fun e=>hv e.2.symm)]
 ·
  rw[if_neg h]
  exact beforeGo_set_ne (fun e=>h e.symm)
def doneV (r:List Pair) (b:Int) (k:Str):Version:=⟨b,true,(RF.get r k).2,(RF.get r k).1⟩
theorem before_goSets {r:List Pair}{b:Int}(hb:b ≠ -1) {k:Str}{x:Int}:∀ {ks:List Str}{l:List Chain},before (goSets r b l ks) k x=if k∈ks∧(before l k x).by_=b then doneV r b k else before l k x
 | [],l=>by simp[goSets]
 |k'::ks,l=>by
  simp only[goSets]
  rw[before_goSets hb,before_setG hb]
  by_cases h:k'=k
  ·
   subst h
   rw[if_pos rfl,setV_by]
   by_cases hx:(before l k' x).by_=b
   ·
    have e:setV true (⟨b,true,(RF.get r k').2,(RF.get r k').1⟩:Version) (before l k' x)=doneV r b k':=by unfold setV;rw[if_pos ⟨rfl,hx⟩];rfl
    rw[e,ite_self,if_pos ⟨List.mem_cons_self ..,hx⟩]
   ·
    rw[if_neg (fun e=>hx e.2),if_neg (fun e=>hx e.2)]
    unfold setV
    rw[if_neg (fun e=>hx e.2)]
  ·
   rw[if_neg h]
   by_cases hk:k∈ks∧(before l k x).by_=b
   ·
    rw[if_pos hk,if_pos ⟨List.mem_cons_of_mem _ hk.1,hk.2⟩]
   ·
    rw[if_neg hk,if_neg]
    rintro ⟨h1,h2⟩
    rcases List.mem_cons.1 h1 with h1|h1
    ·
     exact h h1.symm
    ·
     exact hk ⟨h1,h2⟩
def sq (r:List Pair) (l:List Deed) (i:Nat):List Pair:=(allD r (l.take i)).1
theorem allD_snoc:∀ {l:List Deed}{r:List Pair}{d:Deed},allD r (l++[d])=((doD (allD r l).1 d).1,(allD r l).2++[(doD (allD r l).1 d).2])
 | [],r,d=>rfl
 |x::l,r,d=>by simp only[List.cons_append,allD];rw[allD_snoc]
theorem sq_succ {r:List Pair}{l:List Deed}{i:Nat}{d:Deed}(h:l[i]? = some d):sq r l (i+1)=(doD (sq r l i) d).1:=by
 unfold sq
 rw[List.take_add_one,h]
 show(allD r (l.take i++[d])).1=_
 rw[allD_snoc]
theorem sq_srt {r:List Pair}{l:List Deed}(hs:Srt Pair.key r) (hw:∀ d∈l,wrongDeed d=0):∀ (i:Nat),Srt Pair.key (sq r l i)
 |0=>hs
 |i+1=>by
  cases h:l[i]? with
  |none =>
   have hle:=List.getElem?_eq_none_iff.1 h
   have:sq r l (i+1)=sq r l i:=by unfold sq;rw[List.take_of_length_le (by omega),List.take_of_length_le hle]
   rw[this];exact sq_srt hs hw i
  |some d =>
   rw[sq_succ h]
   exact doD_srt (sq_srt hs hw i) (wrong_keyed (hw d (List.mem_of_getElem? h)))
theorem sq_append {r:List Pair}{l m:List Deed}{i:Nat}(h:i≤l.length):sq r (l++m) i=sq r l i:=by
 unfold sq;rw[List.take_append_of_le_length h]
structure QInv (e:Engine) (r:List Pair):Prop where
 s:Srt Pair.key r
 z:∀ k,(before e.chains k e.base).made=true
 m:∀ (k:Str) (i:Nat),i≤e.deeds.length→(before e.chains k (e.base+i)).made=true→RF.get (sq r e.deeds i) k=((before e.chains k (e.base+i)).n,(before e.chains k (e.base+i)).has)
 p:∀ (k:Str) (i:Nat) (d:Deed),e.deeds[i]? = some d→k∈d.writes→(before e.chains k (e.base+(i+1:Nat))).by_=e.base+i∧(e.state[i]? = some 1→(before e.chains k (e.base+(i+1:Nat))).made=true)
 q:∀ (k:Str) (i:Nat) (d:Deed),e.deeds[i]? = some d→k∉d.writes→before e.chains k (e.base+(i+1:Nat))=before e.chains k (e.base+i)
 w:∀ (i:Nat) (d:Deed),e.deeds[i]? = some d→e.state[i]? = some 1→e.ends[i]? = some (doD (sq r e.deeds i) d).2
 b:0≤e.base
theorem newE_q {r:List Pair}(hs:Srt Pair.key r):QInv (newE r) r:=by
 have hv:∀ k x,-1 < x→((∃ p∈r,p.key=k∧before (r.map rowChain) k x=⟨-1,true,true,p.n⟩)∨((∀ p∈r,p.key≠k)∧before (r.map rowChain) k x=noV)):=fun k x hx=>by
  by_cases h:∃ p∈r,p.key=k
  ·
   obtain⟨p,hp,rfl⟩:=h
   exact .inl ⟨p,hp,rfl,before_row hs hp hx⟩
  ·
   have hn:∀ p∈r,p.key≠k:=fun p hp he=>h ⟨p,hp,he⟩
   refine .inr ⟨hn,beforeGo_none fun c hc=>?_⟩
   obtain⟨p,hp,rfl⟩:=List.mem_map.1 hc
   exact hn p hp
 refine⟨hs,fun k=>?_,fun k i hi hm=>?_,fun k i d h=>by simp[newE]at h,fun k i d h=>by simp[newE]at h,fun i d h=>by simp[newE]at h,by simp[newE]⟩
 ·
  rcases hv k 0 (by omega) with ⟨p,_,_,h⟩|⟨_,h⟩
  ·
   show(before (r.map rowChain) k 0).made=true
   rw[h]
  ·
   show(before (r.map rowChain) k 0).made=true
   rw[h];rfl
 ·
  have hi0:i=0:=by simpa[newE] using hi
  subst hi0
  show RF.get r k=((before (r.map rowChain) k (0+((0:Nat):Int))).n,(before (r.map rowChain) k (0+((0:Nat):Int))).has)
  rcases hv k (0+((0:Nat):Int)) (by omega) with ⟨p,hp,rfl,h⟩|⟨hn,h⟩
  ·
   rw[h,get_of_mem hs hp]
  ·
   rw[h,get_absent hn];rfl
theorem addKeys_le {k:Str}{b x:Int}(hx:x≤b):∀ {ks:List Str}{l:List Chain},Srt Chain.key l→before (addKeys b l ks) k x=before l k x
 | [],l,_=>rfl
 |k'::ks,l,hs=>by
  simp only[addKeys]
  rw[addC_srt hs,addKeys_le hx (addS_srt hs)]
  exact before_addS fun _=>hx
theorem addKeys_out {k:Str}{b x:Int}:∀ {ks:List Str}{l:List Chain},Srt Chain.key l→k∉ks→before (addKeys b l ks) k x=before l k x
 | [],l,_,_=>rfl
 |k'::ks,l,hs,hk=>by
  simp only[addKeys]
  rw[addC_srt hs,addKeys_out (addS_srt hs) (fun h=>hk (List.mem_cons_of_mem _ h))]
  exact before_addS fun e=>absurd (List.mem_cons.2 (.inl e)) hk
theorem addKeys_in {k:Str}{b x:Int}(hx:b < x):∀ {ks:List Str}{l:List Chain},Srt Chain.key l→ks.Nodup→k∈ks→before (addKeys b l ks) k x=newV b
 | [],l,_,_,hk=>by simp at hk
 |k'::ks,l,hs,hn,hk=>by
  obtain⟨hn1,hn2⟩:=List.nodup_cons.1 hn
  simp only[addKeys]
  rw[addC_srt hs]
  by_cases h:k=k'
  ·
   subst h
   rw[addKeys_out (addS_srt hs) hn1]
   exact behind_add hx hs
  ·
   exact addKeys_in hx (addS_srt hs) hn2 (by
    rcases List.mem_cons.1 hk with e|e
    ·
     exact absurd e h
    ·
     exact e)
theorem bvs_top {h:Bool}{x y B:Int}(hx:B≤x) (hy:B≤y):∀ {l:List Version}{out:Version},(∀ v∈l,v.by_ < B)→bvs h x out l=bvs h y out l
 | [],out,_=>rfl
 |v::l,out,hl=>by
  have hv:=hl v (List.mem_cons_self ..)
  simp only[bvs]
  rw[decide_eq_true (show v.by_ < x by omega),decide_eq_true (show v.by_ < y by omega)]
  exact bvs_top hx hy fun w hw=>hl w (List.mem_cons_of_mem _ hw)
theorem before_top {x y B:Int}{k:Str}(hx:B≤x) (hy:B≤y):∀ {l:List Chain}{out:Version},(∀ c∈l,∀ v∈c.vs,v.by_ < B)→beforeGo k x out l=beforeGo k y out l
 | [],out,_=>rfl
 |c::l,out,hl=>by
  simp only[beforeGo]
  rw[bvs_top hx hy (hl c (List.mem_cons_self ..))]
  exact before_top hx hy fun d hd=>hl d (List.mem_cons_of_mem _ hd)
theorem QInv.add1 {e:Engine}{r:List Pair}(h:QInv e r) (hS:SInv e) (hW:WInv e) (hn:e.ends.length=e.deeds.length) {d:Deed}(hd:wrongDeed d=0):QInv (RF.add1 e d) r:=by
 have hnd:=(wrong_keys hd).2
 have hle:∀ k (i:Nat),i≤e.deeds.length→before (RF.add1 e d).chains k (e.base+i)=before e.chains k (e.base+i):=fun k i hi=>addKeys_le (by omega) hS.k
 have hlt:∀ (i:Nat) (x:Deed),(RF.add1 e d).deeds[i]? = some x→(i < e.deeds.length∧e.deeds[i]? = some x)∨(i=e.deeds.length∧x=d):=fun i x hx=>by
  have hx':(e.deeds++[d])[i]? = some x:=hx
  rcases Nat.lt_or_ge i e.deeds.length with hi|hi
  ·
   rw[List.getElem?_append_left hi]at hx'
   exact .inl ⟨hi,hx'⟩
  ·
   rw[List.getElem?_append_right hi]at hx'
   have h0:i - e.deeds.length=0:=by
    have:=(List.getElem?_eq_some_iff.1 hx').1
    simpa using this
   rw[h0]at hx'
   exact .inr ⟨by omega,by simpa using hx'.symm⟩
 have hsqe:∀ i,i≤e.deeds.length→sq r (e.deeds++[d]) i=sq r e.deeds i:=fun i hi=>sq_append hi
 have hst:∀ i,i < e.deeds.length→(e.state++[0])[i]? = e.state[i]? := fun i hi=>List.getElem?_append_left (by rw[hW.l];exact hi)
 have hst1:(e.state++[0])[e.deeds.length]? ≠ some 1:=by rw[← hW.l];simp
 have htop:∀ k,before e.chains k (e.base+(e.deeds.length+1:Nat))=before e.chains k (e.base+e.deeds.length):=fun k=>before_top (B:=e.base+e.deeds.length) (by omega) (by omega) hS.b
 refine⟨h.s,fun k=>?_,fun k i hi hm=>?_,fun k i x hx hk=>?_,fun k i x hx hk=>?_,fun i x hx h1=>?_,h.b⟩
 ·
  have:=hle k 0 (by omega)
  simp only[Int.natCast_zero,Int.add_zero]at this
  show(before (RF.add1 e d).chains k e.base).made=true
  rw[this];exact h.z k
 ·
  have hi':i≤e.deeds.length+1:=by simpa[RF.add1] using hi
  show RF.get (sq r (e.deeds++[d]) i) k=((before (RF.add1 e d).chains k (e.base+i)).n,(before (RF.add1 e d).chains k (e.base+i)).has)
  have hm':(before (RF.add1 e d).chains k (e.base+i)).made=true:=hm
  by_cases hil:i≤e.deeds.length
  ·
   rw[hle k i hil]at hm' ⊢
   rw[hsqe i hil]
   exact h.m k i hil hm'
  ·
   obtain rfl:i=e.deeds.length+1:=by omega
   by_cases hkw:k∈d.writes
   ·
    have:before (RF.add1 e d).chains k (e.base+(e.deeds.length+1:Nat))=newV (e.base+e.deeds.length):=addKeys_in (by omega) hS.k hnd hkw
    rw[this]at hm';cases hm'
   ·
    have hb:before (RF.add1 e d).chains k (e.base+(e.deeds.length+1:Nat))=before e.chains k (e.base+(e.deeds.length+1:Nat)):=addKeys_out hS.k hkw
    rw[hb,htop]at hm' ⊢
    have hg:(e.deeds++[d])[e.deeds.length]? = some d:=by simp
    rw[sq_succ hg,do_same (sq_srt h.s (fun x hx=>by
     rcases List.mem_append.1 hx with hx|hx
     ·
      exact hW.d x hx
     ·
      simp at hx;subst hx;exact hd) _) hd hkw,hsqe _ (Nat.le_refl _)]
    exact h.m k _ (Nat.le_refl _) hm'
 ·
  rcases hlt i x hx with ⟨hi,hx'⟩|⟨rfl,rfl⟩
  ·
   have:=h.p k i x hx' hk
   show(before (RF.add1 e d).chains k (e.base+(i+1:Nat))).by_=e.base+i∧((e.state++[0])[i]? = some 1→(before (RF.add1 e d).chains k (e.base+(i+1:Nat))).made=true)
   rw[hle k (i+1) (by omega),hst i hi]
   exact this
  ·
   have hb:before (RF.add1 e x).chains k (e.base+(e.deeds.length+1:Nat))=newV (e.base+e.deeds.length):=addKeys_in (by omega) hS.k hnd hk
   refine⟨by show(before (RF.add1 e x).chains k (e.base+(e.deeds.length+1:Nat))).by_=_;rw[hb];rfl,fun h1=>absurd h1 hst1⟩
 ·
  rcases hlt i x hx with ⟨hi,hx'⟩|⟨rfl,rfl⟩
  ·
   show before (RF.add1 e d).chains k (e.base+(i+1:Nat))=before (RF.add1 e d).chains k (e.base+i)
   rw[hle k (i+1) (by omega),hle k i (by omega)]
   exact h.q k i x hx' hk
  ·
   show before (RF.add1 e x).chains k (e.base+(e.deeds.length+1:Nat))=before (RF.add1 e x).chains k (e.base+e.deeds.length)
   have h1:before (RF.add1 e x).chains k (e.base+(e.deeds.length+1:Nat))=before e.chains k (e.base+(e.deeds.length+1:Nat)):=addKeys_out hS.k hk
   rw[h1,hle k _ (Nat.le_refl _),htop]
 ·
  rcases hlt i x hx with ⟨hi,hx'⟩|⟨rfl,rfl⟩
  ·
   show(e.ends++[done0])[i]? = some (doD (sq r (e.deeds++[d]) i) x).2
   have h1':(e.state++[0])[i]? = some 1:=h1
   rw[hst i hi]at h1'
   rw[List.getElem?_append_left (by rw[hn];exact hi),hsqe i (by omega)]
   exact h.w i x hx' h1'
  ·
   exact absurd h1 hst1
theorem before_lt {l:List Chain}{k:Str}{b:Int}(h:(before l k b).by_ ≠ -1):(before l k b).by_ < b:=by
 rcases before_mem l k b with e|⟨c,_,_,_,h4⟩
 ·
  rw[e]at h;exact absurd rfl h
 ·
  exact h4
theorem QInv.stay {e:Engine}{r:List Pair}(h:QInv e r) (hW:WInv e) (k:Str) (A:Nat):∀ (i:Nat),A < i→i≤e.deeds.length→(before e.chains k (e.base+i)).by_=e.base+A→RF.get (sq r e.deeds i) k=RF.get (sq r e.deeds (A+1)) k
 |0,hA,_,_=>by omega
 |i+1,hA,hi,hb=>by
  by_cases he:i=A
  ·
   subst he;rfl
  ·
   obtain⟨d,hd⟩:∃ d,e.deeds[i]? = some d:=⟨e.deeds[i]'(by omega),List.getElem?_eq_getElem (by omega)⟩
   by_cases hk:k∈d.writes
   ·
    have:=(h.p k i d hd hk).1
    rw[hb]at this
    omega
   ·
    rw[h.q k i d hd hk]at hb
    rw[sq_succ hd,do_same (sq_srt h.s hW.d i) (hW.d d (List.mem_of_getElem? hd)) hk]
    exact h.stay hW k A i (by omega) (by omega) hb
theorem needs_made {e:Engine}(hW:WInv e) {A:Nat}{d:Deed}(hne:needs e A d=[]):∀ k∈keysD d,(before e.chains k (e.base+A)).made=true:=by
 intro k hk
 cases hm:(before e.chains k (e.base+A)).made with
 |true=>rfl
 |false =>
  obtain⟨h1,h2⟩:=hW.nb A k hm
  have:((before e.chains k (e.base+A)).by_ - e.base)∈needs e A d:=by
   unfold needs
   rw[needsGo_mem]
   exact⟨((before e.chains k (e.base+A)).by_ - e.base).toNat,List.mem_range.2 (by omega),by omega,anyHit_iff.2 ⟨k,hk,hm,by omega⟩⟩
  rw[hne]at this
  simp at this
theorem go_done {e:Engine}{r:List Pair}(h:QInv e r) (hW:WInv e) {A:Nat}{d:Deed}(hd:e.deeds[A]? = some d) (hne:needs e A d=[]) :
  (goDone e A d).2=(doD (sq r e.deeds A) d).2∧∀ k∈d.writes,RF.get (goDone e A d).1 k=RF.get (sq r e.deeds (A+1)) k:=by
 have hA:=(List.getElem?_eq_some_iff.1 hd).1
 have hw:=hW.d d (List.mem_of_getElem? hd)
 have hmade:=needs_made hW hne
 obtain⟨hs0,hget⟩:=goRows_get (cs:=e.chains) (b:=e.base+A) (ks:=keysD d) (r:=[]) List.Pairwise.nil
 have hsq:=sq_srt h.s hW.d A
 have hsame:∀ k,k∈d.reads∨k∈d.writes→RF.get (goRows e.chains (e.base+A) [] (keysD d)) k=RF.get (sq r e.deeds A) k:=fun k hk=>by
  have hm:k∈keysD d:=by
   unfold keysD
   rw[keysGo'_mem]
   exact .inr (by simpa using hk)
  rw[h.m k A (by omega) (hmade k hm),hget k]
  cases hh:(before e.chains k (e.base+A)).has with
  |true=>rw[if_pos ⟨hm,rfl⟩]
  |false =>
   rw[if_neg (by simp),hW.bh k _ hh]
   rfl
 have hrun:runM (RF.get (goRows e.chains (e.base+A) [] (keysD d))) d=runM (RF.get (sq r e.deeds A)) d :=
  runGo_congr fun i hi hk=>by rw[hsame i.key (.inl (wrong_reads hw i hi hk))]
 unfold goDone
 refine⟨by rw[do_end hs0 hw,do_end hsq hw,hrun],fun k hk=>?_⟩
 rw[sq_succ hd,do_get hs0 hw,do_get hsq hw,hrun,hsame k (.inr hk)]
 unfold chAt
 rw[hsame k (.inr hk)]
theorem QInv.goNew {e:Engine}{r:List Pair}(h:QInv e r) (hW:WInv e) (hn:e.ends.length=e.deeds.length) {A:Nat}{d:Deed}(hd:e.deeds[A]? = some d) (hne:needs e A d=[]):QInv (Proofs.YtccblhpfjlgmbabGreatDoor.goNew e A d) r:=by
 have hA:=(List.getElem?_eq_some_iff.1 hd).1
 obtain⟨hg1,hg2⟩:=go_done h hW hd hne
 have hb:=h.b
 have hbf:∀ k x,before (Proofs.YtccblhpfjlgmbabGreatDoor.goNew e A d).chains k x=if k∈d.writes∧(before e.chains k x).by_=e.base+A then doneV (goDone e A d).1 (e.base+A) k else before e.chains k x:=fun k x=>before_goSets (by omega)
 refine⟨h.s,fun k=>?_,fun k i hi hm=>?_,fun k i x hx hk=>?_,fun k i x hx hk=>?_,fun i x hx h1=>?_,h.b⟩
 ·
  show(before (Proofs.YtccblhpfjlgmbabGreatDoor.goNew e A d).chains k e.base).made=true
  rw[hbf]
  split
  ·
   rfl
  ·
   exact h.z k
 ·
  have hi':i≤e.deeds.length:=hi
  show RF.get (sq r e.deeds i) k=((before (Proofs.YtccblhpfjlgmbabGreatDoor.goNew e A d).chains k (e.base+i)).n,(before (Proofs.YtccblhpfjlgmbabGreatDoor.goNew e A d).chains k (e.base+i)).has)
  have hm':(before (Proofs.YtccblhpfjlgmbabGreatDoor.goNew e A d).chains k (e.base+i)).made=true:=hm
  rw[hbf]at hm' ⊢
  by_cases hc:k∈d.writes∧(before e.chains k (e.base+i)).by_=e.base+A
  ·
   rw[if_pos hc]
   have hlt:=before_lt (l:=e.chains) (k:=k) (b:=e.base+i) (by rw[hc.2];omega)
   rw[hc.2]at hlt
   rw[h.stay hW k A i (by omega) hi' hc.2,← hg2 k hc.1]
   rfl
  ·
   rw[if_neg hc]at hm' ⊢
   exact h.m k i hi' hm'
 ·
  have hx':e.deeds[i]? = some x:=hx
  have hp:=h.p k i x hx' hk
  show(before (Proofs.YtccblhpfjlgmbabGreatDoor.goNew e A d).chains k (e.base+(i+1:Nat))).by_=e.base+i∧((e.state.set A 1)[i]? = some 1→(before (Proofs.YtccblhpfjlgmbabGreatDoor.goNew e A d).chains k (e.base+(i+1:Nat))).made=true)
  rw[hbf]
  by_cases hc:k∈d.writes∧(before e.chains k (e.base+(i+1:Nat))).by_=e.base+A
  ·
   rw[if_pos hc]
   refine⟨?_,fun _=>rfl⟩
   show e.base+A=e.base+i
   rw[← hc.2];exact hp.1
  ·
   rw[if_neg hc]
   refine⟨hp.1,fun h1=>?_⟩
   by_cases he:i=A
   ·
    subst he
    rw[hd]at hx'
    cases hx'
    exact absurd ⟨hk,hp.1⟩ hc
   ·
    rw[List.getElem?_set_ne (fun e=>he e.symm)]at h1
    exact hp.2 h1
 ·
  have hx':e.deeds[i]? = some x:=hx
  show before (Proofs.YtccblhpfjlgmbabGreatDoor.goNew e A d).chains k (e.base+(i+1:Nat))=before (Proofs.YtccblhpfjlgmbabGreatDoor.goNew e A d).chains k (e.base+i)
  rw[hbf,hbf,h.q k i x hx' hk]
 ·
  have hx':e.deeds[i]? = some x:=hx
  show(e.ends.set A (goDone e A d).2)[i]? = some (doD (sq r e.deeds i) x).2
  have h1':(e.state.set A 1)[i]? = some 1:=h1
  by_cases he:i=A
  ·
   subst he
   rw[hd]at hx'
   cases hx'
   rw[List.getElem?_set_self (by omega),hg1]
  ·
   rw[List.getElem?_set_ne (fun e=>he e.symm)]at h1' ⊢
   exact h.w i x hx' h1'
theorem sq_drop {r:List Pair}{l:List Deed}{m:Nat}:∀ (i:Nat),m+i≤l.length→sq (sq r l m) (l.drop m) i=sq r l (m+i)
 |0,_=>rfl
 |i+1,h=>by
  obtain⟨d,hd⟩:∃ d,l[m+i]? = some d:=⟨l[m+i]'(by omega),List.getElem?_eq_getElem (by omega)⟩
  have hd':(l.drop m)[i]? = some d:=by rw[List.getElem?_drop];exact hd
  rw[sq_succ hd',sq_drop i (by omega),← Nat.add_assoc,sq_succ hd]
theorem clrV_keep {b:Int}{w:Version}:∀ {l:List Version},w∈clrV b l→¬ (w.by_ < b∧w.made=true∧w.has=false)
 | [],h=>by simp[clrV]at h
 |v::l,h=>by
  simp only[clrV]at h
  split at h
  ·
   exact clrV_keep h
  ·
   next ho =>
   rcases List.mem_cons.1 h with rfl|h
   ·
    rintro ⟨h1,h2,h3⟩
    exact ho (by simp[old,h1,h2,h3])
   ·
    exact clrV_keep h
theorem before_clear {l:List Chain}(hs:Srt Chain.key l) (hv:∀ c∈l,VSrt c.vs) {b x:Int}(hx:b≤x) (k:Str) :
  before (clear b l) k x=if (before l k x).by_ < b∧(before l k x).made=true∧(before l k x).has=false then noV else before l k x:=by
 have h:=seen_clear2 (k:=k) (out:=noV) hx hs hv
 by_cases hc:(before l k x).by_ < b∧(before l k x).made=true∧(before l k x).has=false
 ·
  rw[if_pos hc]
  rcases h with h|h
  ·
   have h':before (clear b l) k x=before l k x:=h
   rcases before_mem (clear b l) k x with h1|⟨c,h1,h2,h3,h4⟩
   ·
    exact h1
   ·
    obtain⟨c0,h5,rfl⟩:=clear_mem h1
    rw[h']at h3
    exact absurd hc (clrV_keep h3)
  ·
   exact h.2.2.1
 ·
  rw[if_neg hc]
  rcases h with h|h
  ·
   exact h
  ·
   exact absurd ⟨h.2.2.2,h.1,h.2.1⟩ hc
theorem QInv.clearE {e:Engine}{r:List Pair}(h:QInv e r) (hS:SInv e) (hW:WInv e):QInv (clearE e) (sq r e.deeds (markN e.state)):=by
 have hml:markN e.state≤e.deeds.length:=by rw[← hW.l];exact markN_le e.state
 have hb:=h.b
 obtain⟨M,hM⟩:∃ M,markN e.state=M:=⟨_,rfl⟩
 have hform:∀ k x,e.base+M≤x→before (clear (e.base+M) e.chains) k x=if (before e.chains k x).by_ < e.base+M∧(before e.chains k x).made=true∧(before e.chains k x).has=false then noV else before e.chains k x:=fun k x hx=>before_clear hS.k hS.v hx k
 unfold RF.clearE
 rw[hM]at hml ⊢
 have hmade:∀ k,(before e.chains k (e.base+M)).made=true:=fun k=>by
  cases hm:(before e.chains k (e.base+M)).made with
  |true=>rfl
  |false =>
   rcases before_mem e.chains k (e.base+M) with h1|⟨c,h1,h2,h3,h4⟩
   ·
    rw[h1]at hm;cases hm
   ·
    obtain⟨j,x,h5,h6,_⟩:=hW.n c h1 _ h3 hm
    have:j < markN e.state:=by omega
    have:=markN_one this
    rw[h6]at this;cases this
 refine⟨sq_srt h.s hW.d M,fun k=>?_,fun k i hi hm=>?_,fun k i x hx hk=>?_,fun k i x hx hk=>?_,fun i x hx h1=>?_,by show 0≤e.base+(M:Int);omega⟩
 ·
  show(before (clear (e.base+M) e.chains) k (e.base+M)).made=true
  rw[hform k _ (Int.le_refl _)]
  split
  ·
   rfl
  ·
   exact hmade k
 ·
  have hi':i≤e.deeds.length - M:=by simpa using hi
  show RF.get (sq (sq r e.deeds M) (e.deeds.drop M) i) k=((before (clear (e.base+M) e.chains) k (e.base+M+i)).n,(before (clear (e.base+M) e.chains) k (e.base+M+i)).has)
  have hm':(before (clear (e.base+M) e.chains) k (e.base+M+i)).made=true:=hm
  have hx:e.base+(M:Int)+(i:Int)=e.base+((M+i:Nat):Int):=by omega
  rw[sq_drop i (by omega)]
  rw[hx]at hm' ⊢
  rw[hform k _ (by omega)]at hm' ⊢
  by_cases hc:(before e.chains k (e.base+((M+i:Nat):Int))).by_ < e.base+M∧(before e.chains k (e.base+((M+i:Nat):Int))).made=true∧(before e.chains k (e.base+((M+i:Nat):Int))).has=false
  ·
   rw[if_pos hc,h.m k (M+i) (by omega) hc.2.1,hc.2.2,hW.bh k _ hc.2.2]
   rfl
  ·
   rw[if_neg hc]at hm' ⊢
   exact h.m k (M+i) (by omega) hm'
 ·
  have hx':e.deeds[M+i]? = some x:=by
   have:(e.deeds.drop M)[i]? = some x:=hx
   rwa [List.getElem?_drop]at this
  obtain⟨h1,h2⟩:=h.p k (M+i) x hx' hk
  show(before (clear (e.base+M) e.chains) k (e.base+M+(i+1:Nat))).by_=e.base+M+i∧((e.state.drop M)[i]? = some 1→(before (clear (e.base+M) e.chains) k (e.base+M+(i+1:Nat))).made=true)
  have hxx:e.base+(M:Int)+((i+1:Nat):Int)=e.base+((M+i+1:Nat):Int):=by omega
  rw[hxx,List.getElem?_drop]
  rw[hform k _ (by omega),if_neg (by rw[h1];omega)]
  exact⟨by rw[h1];omega,h2⟩
 ·
  have hx':e.deeds[M+i]? = some x:=by
   have:(e.deeds.drop M)[i]? = some x:=hx
   rwa [List.getElem?_drop]at this
  have hq:=h.q k (M+i) x hx' hk
  show before (clear (e.base+M) e.chains) k (e.base+M+(i+1:Nat))=before (clear (e.base+M) e.chains) k (e.base+M+i)
  have hxx:e.base+(M:Int)+((i+1:Nat):Int)=e.base+((M+i+1:Nat):Int):=by omega
  have hxy:e.base+(M:Int)+(i:Int)=e.base+((M+i:Nat):Int):=by omega
  rw[hxx,hxy]
  rw[hform k _ (by omega),hform k _ (by omega),hq]
 ·
  have hx':e.deeds[M+i]? = some x:=by
   have:(e.deeds.drop M)[i]? = some x:=hx
   rwa [List.getElem?_drop]at this
  have h1':(e.state.drop M)[i]? = some 1:=h1
  rw[List.getElem?_drop]at h1'
  show(e.ends.drop M)[i]? = some (doD (sq (sq r e.deeds M) (e.deeds.drop M) i) x).2
  have hlt:=(List.getElem?_eq_some_iff.1 hx').1
  rw[List.getElem?_drop,sq_drop i (by omega)]
  exact h.w (M+i) x hx' h1'
structure BInv (e:Engine) (r:List Pair):Prop where
 S:SInv e
 W:WInv e
 Q:QInv e r
 n:e.ends.length=e.deeds.length
 t:∀ s∈e.state,s=0∨s=1
 u:∀ (k:Str) (i:Nat) (d:Deed),e.deeds[i]? = some d→k∈d.writes→e.state[i]? = some 0→(before e.chains k (e.base+(i+1:Nat))).made=false
theorem newE_b {r:List Pair}(h:wrongRows r=0):BInv (newE r) r :=
 ⟨newE_srt (wrongRows_srt h).1,newE_w r,newE_q (wrongRows_srt h).1,rfl,by simp[newE],fun k i d h=>by simp[newE]at h⟩
theorem BInv.add1 {e:Engine}{r:List Pair}(h:BInv e r) {d:Deed}(hd:wrongDeed d=0):BInv (RF.add1 e d) r:=by
 refine⟨h.S.add1 (wrong_keys hd).2,h.W.add1 h.S hd,h.Q.add1 h.S h.W h.n hd,by simp[RF.add1,h.n],fun s hs=>?_,fun k i x hx hk h0=>?_⟩
 ·
  rcases List.mem_append.1 (show s∈e.state++[0] from hs) with hs|hs
  ·
   exact h.t s hs
  ·
   simp at hs;exact .inl hs
 ·
  have hx':(e.deeds++[d])[i]? = some x:=hx
  show(before (addKeys (e.base+e.deeds.length) e.chains d.writes) k (e.base+(i+1:Nat))).made=false
  rcases Nat.lt_or_ge i e.deeds.length with hi|hi
  ·
   rw[List.getElem?_append_left hi]at hx'
   have h0':(e.state++[0])[i]? = some 0:=h0
   rw[List.getElem?_append_left (by rw[h.W.l];exact hi)]at h0'
   rw[addKeys_le (by omega) h.S.k]
   exact h.u k i x hx' hk h0'
  ·
   rw[List.getElem?_append_right hi]at hx'
   have hz:i - e.deeds.length=0:=by
    have:=(List.getElem?_eq_some_iff.1 hx').1
    simpa using this
   rw[hz]at hx'
   have hx2:x=d:=by simpa using hx'.symm
   subst hx2
   rw[addKeys_in (by omega) h.S.k (wrong_keys hd).2 hk]
   rfl
theorem BInv.addAll:∀ {l:List Deed}{e:Engine}{r:List Pair},BInv e r→(∀ d∈l,wrongDeed d=0)→BInv (RF.addAll e l) r
 | [],e,r,h,_=>h
 |d::l,e,r,h,hl=>by
  simp only[RF.addAll]
  exact BInv.addAll (h.add1 (hl d (List.mem_cons_self ..))) fun x hx=>hl x (List.mem_cons_of_mem _ hx)
theorem addAll_deeds:∀ {l:List Deed}{e:Engine},(RF.addAll e l).deeds=e.deeds++l∧(RF.addAll e l).base=e.base
 | [],e=>by simp[RF.addAll]
 |d::l,e=>by
  simp only[RF.addAll]
  rw[addAll_deeds.1,addAll_deeds.2]
  simp[RF.add1]
theorem BInv.addE {e:Engine}{r:List Pair}(h:BInv e r) {l:List Deed}(hw:(RF.addE e l).2=0):BInv (RF.addE e l).1 r:=by
 unfold RF.addE at hw ⊢
 by_cases h0:wrongs l=0
 ·
  rw[if_pos h0]
  exact h.addAll fun d hd=>wrongs_mem h0 d hd
 ·
  rw[if_neg h0]at hw;exact absurd hw h0
theorem BInv.goNew {e:Engine}{r:List Pair}(h:BInv e r) {A:Nat}{d:Deed}(hd:e.deeds[A]? = some d) (hne:needs e A d=[]):BInv (Proofs.YtccblhpfjlgmbabGreatDoor.goNew e A d) r:=by
 have hb:=h.Q.b
 refine⟨h.S.goNew A d,h.W.goNew A d hd,h.Q.goNew h.W h.n hd hne,?_,fun s hs=>?_,fun k i x hx hk h0=>?_⟩
 ·
  show(e.ends.set A _).length=e.deeds.length
  rw[List.length_set];exact h.n
 ·
  rcases List.mem_or_eq_of_mem_set (show s∈e.state.set A 1 from hs) with hs|hs
  ·
   exact h.t s hs
  ·
   exact .inr hs
 ·
  have hx':e.deeds[i]? = some x:=hx
  have h0':(e.state.set A 1)[i]? = some 0:=h0
  have hiA:i≠A:=fun e1=>by
   subst e1
   rw[List.getElem?_set_self (by rw[h.W.l];exact(List.getElem?_eq_some_iff.1 hd).1)]at h0'
   simp at h0'
  rw[List.getElem?_set_ne (fun e1=>hiA e1.symm)]at h0'
  have hp:=(h.Q.p k i x hx' hk).1
  show(before (goSets (goDone e A d).1 (e.base+A) e.chains d.writes) k (e.base+(i+1:Nat))).made=false
  rw[before_goSets (by omega),if_neg (fun e1=>by have:=e1.2;rw[hp]at this;omega)]
  exact h.u k i x hx' hk h0'
theorem BInv.goE {e:Engine}{r:List Pair}(h:BInv e r) (x:Int):BInv (Proofs.YtccblhpfjlgmbabGreatDoor.goE e x).1 r:=by
 unfold Proofs.YtccblhpfjlgmbabGreatDoor.goE
 split
 ·
  exact h
 unfold goAt
 cases hA:e.deeds[x.toNat]? with
 |none=>exact h
 |some d =>
  dsimp only
  split
  ·
   exact h
  split
  ·
   next hn=>exact h.goNew hA hn
  ·
   exact h
theorem BInv.clearE {e:Engine}{r:List Pair}(h:BInv e r):BInv (RF.clearE e) (sq r e.deeds (markN e.state)):=by
 refine⟨h.S.clearE,h.W.clearE,h.Q.clearE h.S h.W,?_,fun s hs=>h.t s (List.mem_of_mem_drop hs),fun k i x hx hk h0=>?_⟩
 ·
  show(e.ends.drop _).length=(e.deeds.drop _).length
  simp[h.n]
 ·
  have hx':e.deeds[markN e.state+i]? = some x:=by
   have:(e.deeds.drop (markN e.state))[i]? = some x:=hx
   rwa [List.getElem?_drop]at this
  have h0':e.state[markN e.state+i]? = some 0:=by
   have:(e.state.drop (markN e.state))[i]? = some 0:=h0
   rwa [List.getElem?_drop]at this
  show(before (clear (e.base+markN e.state) e.chains) k (e.base+markN e.state+(i+1:Nat))).made=false
  have hp:=(h.Q.p k _ x hx' hk).1
  have hu:=h.u k _ x hx' hk h0'
  rw[before_clear h.S.k h.S.v (by omega)]
  rw[show e.base+(markN e.state:Int)+((i+1:Nat):Int)=e.base+((markN e.state+i+1:Nat):Int) by omega]
  rw[if_neg (by rw[hp];omega)]
  exact hu
theorem readyGo_mem {e:Engine}{x:Int}:∀ {l:List Int}{i:Nat},x∈readyGo e i l↔∃ j:Nat,x=((i+j:Nat):Int)∧l[j]? = some 0∧needsAt e (i+j)=[]
 | [],i=>by simp[readyGo]
 |s::l,i=>by
  have tl:x∈readyGo e (i+1) l→∃ j:Nat,x=((i+j:Nat):Int)∧(s::l)[j]? = some 0∧needsAt e (i+j)=[]:=fun h=>by
   obtain⟨j,h1,h2,h3⟩:=readyGo_mem.1 h
   exact⟨j+1,by rw[h1];omega,by rw[List.getElem?_cons_succ];exact h2,by rw[show i+(j+1)=i+1+j by omega];exact h3⟩
  simp only[readyGo]
  constructor
  ·
   intro h
   by_cases hc:s=0∧needsAt e i=[]
   ·
    rw[if_pos hc]at h
    rcases List.mem_cons.1 h with h|h
    ·
     exact⟨0,h,by rw[hc.1];rfl,hc.2⟩
    ·
     exact tl h
   ·
    rw[if_neg hc]at h
    exact tl h
  ·
   rintro ⟨j,h1,h2,h3⟩
   cases j with
   |zero =>
    have h4:s=0:=by simpa using h2
    rw[if_pos ⟨h4,h3⟩,h1];exact List.mem_cons_self ..
   |succ j =>
    have:x∈readyGo e (i+1) l:=readyGo_mem.2 ⟨j,by rw[h1];omega,by rw[List.getElem?_cons_succ]at h2;exact h2,by rw[show i+1+j=i+(j+1) by omega];exact h3⟩
    split
    ·
     exact List.mem_cons_of_mem _ this
    ·
     exact this
theorem ready_mem {e:Engine}{x:Int}:x∈ready e↔∃ A:Nat,x=(A:Int)∧e.state[A]? = some 0∧needsAt e A=[]:=by
 unfold ready
 rw[readyGo_mem]
 simp only[Nat.zero_add]
theorem needs_nil {e:Engine}(hW:WInv e) {A:Nat}{d:Deed}:needs e A d=[]↔∀ k∈keysD d,(before e.chains k (e.base+A)).made=true:=by
 refine⟨needs_made hW,fun h=>?_⟩
 cases hn:needs e A d with
 |nil=>rfl
 |cons x l =>
  have hx:x∈needs e A d:=by rw[hn];exact List.mem_cons_self ..
  unfold needs at hx
  obtain⟨k,_,_,h1⟩:=needsGo_mem.1 hx
  obtain⟨s,h2,h3,_⟩:=anyHit_iff.1 h1
  rw[h s h2]at h3
  cases h3
theorem go_ready {e:Engine}(hl:e.state.length=e.deeds.length) {A:Nat}(h0:e.state[A]? = some 0) (hn:needsAt e A=[]) :
  ∃ d,e.deeds[A]? = some d∧needs e A d=[]∧goE e (A:Int)=(goNew e A d,0):=by
 have hA:=(List.getElem?_eq_some_iff.1 h0).1
 obtain⟨d,hd⟩:∃ d,e.deeds[A]? = some d:=⟨e.deeds[A]'(by omega),List.getElem?_eq_getElem (by omega)⟩
 unfold needsAt at hn
 rw[hd]at hn
 refine⟨d,hd,hn,?_⟩
 unfold goE goAt
 rw[if_neg (by omega),Int.toNat_natCast,hd]
 dsimp only
 rw[h0,if_neg (by simp),if_pos hn]
theorem first_wait {l:List Int}{A:Nat}(h:l[A]? = some 0):∃ B:Nat,l[B]? = some 0∧∀ j:Nat,j < B→l[j]? ≠ some 0:=by
 induction A using Nat.strongRecOn with
 |ind A ih =>
  by_cases hj:∃ j,j < A∧l[j]? = some 0
  ·
   obtain⟨j,h1,h2⟩:=hj
   exact ih j h1 h2
  ·
   exact⟨A,h,fun j hj1 hj2=>hj ⟨j,hj1,hj2⟩⟩
theorem free_one {e:Engine}(hW:WInv e) {A:Nat}(h:e.state[A]? = some 0):∃ B:Nat,e.state[B]? = some 0∧needsAt e B=[]:=by
 obtain⟨B,h1,h2⟩:=first_wait h
 refine⟨B,h1,?_⟩
 unfold needsAt
 split
 ·
  refine(needs_nil hW).2 fun k _=>?_
  cases hm:(before e.chains k (e.base+B)).made with
  |true=>rfl
  |false =>
   rcases before_mem e.chains k (e.base+B) with h3|⟨c,h3,h4,h5,h6⟩
   ·
    rw[h3]at hm;cases hm
   ·
    obtain⟨j,x,h7,h8,_⟩:=hW.n c h3 _ h5 hm
    exact absurd h8 (h2 j (by omega))
 ·
  rfl
theorem ready_nil {e:Engine}{r:List Pair}(h:BInv e r) (hr:ready e=[]):∀ s∈e.state,s=1:=fun s hs=>by
 rcases h.t s hs with rfl|h1
 ·
  obtain⟨A,hA⟩:=List.mem_iff_getElem?.1 hs
  obtain⟨B,h1,h2⟩:=free_one h.W hA
  have:((B:Nat):Int)∈ready e:=ready_mem.2 ⟨B,rfl,h1,h2⟩
  rw[hr]at this
  simp at this
 ·
  exact h1
def waitN:List Int→Nat
 | []=>0
 |s::l=>if s=0 then waitN l+1 else waitN l
theorem waitN_set:∀ {l:List Int}{A:Nat},l[A]? = some 0→waitN (l.set A 1)+1=waitN l
 | [],A,h=>by simp at h
 |s::l,0,h=>by simp at h;subst h;simp[waitN]
 |s::l,A+1,h=>by
  have:=waitN_set (l:=l) (A:=A) (by rw[List.getElem?_cons_succ]at h;exact h)
  simp only[List.set_cons_succ,waitN]
  split <;> omega
def pickAt (p:Int) (n:Nat):Nat:=((p.tmod n+n).tmod n).toNat
theorem pickAt_lt {n:Nat}(h:0 < n) (p:Int):pickAt p n < n:=by
 have:=Int.tmod_lt_of_pos (p.tmod n+n) (show(0:Int) < n by omega)
 unfold pickAt
 omega
def pickI (l:List Int):List Int→Nat
 | []=>0
 |p::_=>pickAt p l.length
theorem pickI_lt {l:List Int}(h:l≠[]) (p:List Int):pickI l p < l.length:=by
 have:=List.length_pos_iff.2 h
 cases p with
 |nil=>exact this
 |cons p _=>exact pickAt_lt this p
def allGo:Nat→Engine→List Int→Engine
 |0,e,_=>e
 |f+1,e,p=>match (ready e)[pickI (ready e) p]? with
  |some x=>allGo f (goE e x).1 p.tail
  |none=>e
def allE (e:Engine) (p:List Int):Engine:=allGo (waitN e.state) e p
theorem all_nil {e:Engine}{p:List Int}(h:ready e=[]):allE e p=e:=by
 unfold allE
 cases waitN e.state with
 |zero=>rfl
 |succ f=>simp only[allGo];rw[h];rfl
theorem all_step {e:Engine}(hl:e.state.length=e.deeds.length) {p:List Int}{x:Int}(hx:(ready e)[pickI (ready e) p]? = some x) :
  ∃ (A:Nat) (d:Deed),x=(A:Int)∧e.deeds[A]? = some d∧e.state[A]? = some 0∧needs e A d=[]∧goE e x=(goNew e A d,0)∧waitN (goE e x).1.state+1=waitN e.state∧allE e p=allE (goE e x).1 p.tail:=by
 obtain⟨A,rfl,h1,h2⟩:=ready_mem.1 (List.mem_of_getElem? hx)
 obtain⟨d,h3,h4,h5⟩:=go_ready hl h1 h2
 have hw:waitN (goE e (A:Int)).1.state+1=waitN e.state:=by rw[h5];exact waitN_set h1
 refine⟨A,d,rfl,h3,h1,h4,h5,hw,?_⟩
 unfold allE
 rw[← hw]
 simp only[allGo]
 rw[hx]
theorem goE_deeds (e:Engine) (x:Int):(goE e x).1.deeds=e.deeds∧(goE e x).1.base=e.base:=by
 unfold goE
 split
 ·
  exact⟨rfl,rfl⟩
 unfold goAt
 split
 ·
  split
  ·
   exact⟨rfl,rfl⟩
  split <;> exact⟨rfl,rfl⟩
 ·
  exact⟨rfl,rfl⟩
theorem all_inv {r:List Pair}:∀ {f:Nat}{e:Engine}{p:List Int},waitN e.state=f→BInv e r→BInv (allE e p) r∧(allE e p).deeds=e.deeds∧(allE e p).base=e.base∧∀ s∈(allE e p).state,s=1
 |f,e,p,hf,h=>by
  by_cases hr:ready e=[]
  ·
   rw[all_nil hr]
   exact⟨h,rfl,rfl,ready_nil h hr⟩
  ·
   have hp:=pickI_lt hr p
   have hx:(ready e)[pickI (ready e) p]? = some ((ready e)[pickI (ready e) p]'hp):=List.getElem?_eq_getElem hp
   obtain⟨A,d,h1,h2,h3,h4,h5,h6,h7⟩:=all_step h.W.l hx
   rw[h7]
   cases f with
   |zero=>omega
   |succ f =>
    have ih:=all_inv (f:=f) (e:=(goE e ((ready e)[pickI (ready e) p]'hp)).1) (p:=p.tail) (by omega) (h.goE _)
    rw[(goE_deeds _ _).1,(goE_deeds _ _).2]at ih
    exact ih
def seenP (cs:List Chain) (b:Int) (c:Chain):Option Pair:=if (before cs c.key b).has=true then some ⟨c.key,(before cs c.key b).n⟩ else none
theorem rowsAtGo_made {cs:List Chain}{b:Int}:∀ {l:List Chain}{out:List Pair},(∀ c∈l,(before cs c.key b).made=true)→rowsAtGo cs b out l=(out++l.filterMap (seenP cs b),true)
 | [],out,_=>by simp[rowsAtGo]
 |c::l,out,h=>by
  have h1:=h c (List.mem_cons_self ..)
  have h2:∀ c∈l,(before cs c.key b).made=true:=fun x hx=>h x (List.mem_cons_of_mem _ hx)
  simp only[rowsAtGo]
  rw[if_neg (by rw[h1];simp)]
  by_cases hh:(before cs c.key b).has=true
  ·
   rw[if_pos hh,rowsAtGo_made h2,List.filterMap_cons_some (show seenP cs b c=some _ from if_pos hh)]
   simp
  ·
   rw[if_neg hh,rowsAtGo_made h2,List.filterMap_cons_none (show seenP cs b c=none from if_neg hh)]
theorem rowsAt_made {cs:List Chain}{b:Int}(hs:Srt Chain.key cs) (hb:∀ k,(before cs k b).has=false→(before cs k b).n=0) (h:∀ k,(before cs k b).made=true) :
  (rowsAt cs b).2=true∧Srt Pair.key (rowsAt cs b).1∧∀ k,RF.get (rowsAt cs b).1 k=((before cs k b).n,(before cs k b).has):=by
 have he:rowsAt cs b=(cs.filterMap (seenP cs b),true):=rowsAtGo_made fun c _=>h c.key
 have hsr:Srt Pair.key (cs.filterMap (seenP cs b)):=by
  refine List.pairwise_filterMap.2 (List.Pairwise.imp (fun {x y} hxy p hp q hq=>?_) hs)
  unfold seenP at hp hq
  split at hp
  ·
   split at hq
   ·
    cases hp;cases hq;exact hxy
   ·
    cases hq
  ·
   cases hp
 rw[he]
 refine⟨rfl,hsr,fun k=>?_⟩
 show RF.get (cs.filterMap (seenP cs b)) k=_
 cases hh:(before cs k b).has with
 |true =>
  rcases before_mem cs k b with h1|⟨c,h1,rfl,_,_⟩
  ·
   rw[h1]at hh;cases hh
  ·
   have hm:(⟨c.key,(before cs c.key b).n⟩:Pair)∈cs.filterMap (seenP cs b):=List.mem_filterMap.2 ⟨c,h1,if_pos hh⟩
   exact get_of_mem hsr hm
 |false =>
  rw[hb k hh]
  refine get_absent fun p hp e=>?_
  obtain⟨c,h1,h2⟩:=List.mem_filterMap.1 hp
  unfold seenP at h2
  split at h2
  ·
   next hc =>
   cases h2
   have e':c.key=k:=e
   rw[e',hh]at hc
   cases hc
  ·
   cases h2
theorem done_made {e:Engine}(hW:WInv e) (h:∀ s∈e.state,s=1) (k:Str) (b:Int):(before e.chains k b).made=true:=by
 cases hm:(before e.chains k b).made with
 |true=>rfl
 |false =>
  rcases before_mem e.chains k b with h1|⟨c,h1,_,h3,_⟩
  ·
   rw[h1]at hm;cases hm
  ·
   obtain⟨j,x,_,h5,_⟩:=hW.n c h1 _ h3 hm
   have:=h 0 (List.mem_of_getElem? h5)
   omega
theorem BInv.rows {e:Engine}{r:List Pair}(h:BInv e r) {i:Nat}(hi:i≤e.deeds.length) (hm:∀ k,(before e.chains k (e.base+i)).made=true):rowsAt e.chains (e.base+i)=(sq r e.deeds i,true):=by
 obtain⟨h1,h2,h3⟩:=rowsAt_made h.S.k (fun k=>h.W.bh k _) hm
 exact Prod.ext (get_ext h2 (sq_srt h.Q.s h.W.d i) fun k=>by rw[h3,h.Q.m k i hi (hm k)]) h1
theorem allD_ends:∀ {l:List Deed}{r:List Pair}{i:Nat}{d:Deed},l[i]? = some d→(allD r l).2[i]? = some (doD (sq r l i) d).2
 | [],r,i,d,h=>by simp at h
 |x::l,r,0,d,h=>by simp at h;subst h;rfl
 |x::l,r,i+1,d,h=>by
  rw[List.getElem?_cons_succ]at h
  have:=allD_ends (r:=(doD r x).1) h
  simp only[allD]
  rw[List.getElem?_cons_succ,this]
  rfl
theorem allD_len:∀ {l:List Deed}{r:List Pair},(allD r l).2.length=l.length
 | [],r=>rfl
 |x::l,r=>by simp only[allD,List.length_cons];rw[allD_len]
theorem BInv.ends {e:Engine}{r:List Pair}(h:BInv e r) (h1:∀ s∈e.state,s=1):e.ends=(allD r e.deeds).2:=by
 refine List.ext_getElem? fun i=>?_
 rcases Nat.lt_or_ge i e.deeds.length with hi|hi
 ·
  have hd:e.deeds[i]? = some e.deeds[i]:=List.getElem?_eq_getElem hi
  have hs:i < e.state.length:=by rw[h.W.l];exact hi
  have hs1:e.state[i]? = some 1:=by
   rw[List.getElem?_eq_getElem hs,h1 _ (List.getElem_mem hs)]
  rw[h.Q.w i _ hd hs1,allD_ends hd]
 ·
  rw[List.getElem?_eq_none (by rw[h.n];exact hi),List.getElem?_eq_none (by rw[allD_len];exact hi)]
theorem markN_all:∀ {l:List Int},(∀ s∈l,s=1)→markN l=l.length
 | [],_=>rfl
 |x::l,h=>by
  simp only[markN,List.length_cons]
  rw[if_pos (h x (List.mem_cons_self ..)),markN_all fun y hy=>h y (List.mem_cons_of_mem _ hy)]
theorem seen_done {e:Engine}{r:List Pair}(h:BInv e r) (h1:∀ s∈e.state,s=1):seenE e e.deeds.length=(sq r e.deeds e.deeds.length,0):=by
 have:=h.rows (Nat.le_refl _) fun k=>done_made h.W h1 k _
 unfold seenE
 rw[if_neg (by omega),this,if_pos rfl]
theorem wrongs_all:∀ {l:List Deed},(∀ d∈l,wrongDeed d=0)→wrongs l=0
 | [],_=>rfl
 |d::l,h=>by
  simp only[wrongs]
  rw[if_pos (h d (List.mem_cons_self ..)),wrongs_all fun x hx=>h x (List.mem_cons_of_mem _ hx)]
theorem wrongEntry_out {e:Entry}(h:wrongEntry e=0):(0≤e.number∧e.number≤11)∧e.deeds.length≤6∧wrongs e.deeds=0∧∀ d∈e.deeds,wrongDeed d=0:=by
 unfold wrongEntry at h
 split at h
 ·
  cases h
 split at h
 ·
  cases h
 exact⟨by omega,by omega,h,wrongs_mem h⟩
theorem addE_right {e:Engine}{l:List Deed}(h:wrongs l=0):addE e l=(addAll e l,0):=by unfold RF.addE;rw[if_pos h]
structure RInv (r:Replica):Prop where
 e:EInv r.engine (1+30*r.next.toNat)
 b:∃ q,BInv r.engine q
 n:0≤r.next∧r.next≤12
 l:r.early.length≤4
 w:∀ x∈r.early,wrongEntry x=0
 g:∀ x∈r.early,r.next < x.number
 d:(r.early.map Entry.number).Nodup
theorem noR_inv:RInv noR:=by
 have h1:EInv (newE []) ([].length+1):=newE_inv (r:=[]) (by simp[rowsOk])
 have h2:BInv (newE []) []:=newE_b (r:=[]) (by decide)
 exact⟨h1,⟨_,h2⟩,by simp[noR],by simp[noR],by simp[noR],by simp[noR],by simp[noR]⟩
structure DInv (r:Replica):Prop where
 e:EInv r.engine (1+30*r.next.toNat)
 b:∃ q,BInv r.engine q
 n:0≤r.next∧r.next≤12
 l:r.early.length≤5
 w:∀ x∈r.early,wrongEntry x=0
 g:∀ x∈r.early,r.next≤x.number
 d:(r.early.map Entry.number).Nodup
theorem RInv.D {r:Replica}(h:RInv r):DInv r:=⟨h.e,h.b,h.n,by have:=h.l;omega,h.w,fun x hx=>by have:=h.g x hx;omega,h.d⟩
theorem erase_sub {l:List Entry}{k:Nat}{x:Entry}(h:x∈l.eraseIdx k):x∈l:=List.mem_of_mem_eraseIdx h
theorem take_inv {r:Replica}(h:DInv r) {k:Nat}{x:Entry}(hx:r.early[k]? = some x) (hn:x.number=r.next) :
  DInv ⟨(addE r.engine x.deeds).1,r.next+1,r.early.eraseIdx k⟩:=by
 obtain⟨he,⟨q,hb⟩,hnn,hl,hw,hg,hd⟩:=h
 have hm:=List.mem_of_getElem? hx
 obtain⟨hx1,hx2,hx3,hx4⟩:=wrongEntry_out (hw x hm)
 have ha:=addE_right (e:=r.engine) hx3
 have hkl:=(List.getElem?_eq_some_iff.1 hx).1
 have hlen:=List.length_eraseIdx_of_lt hkl
 refine⟨?_,⟨q,?_⟩,by dsimp only;omega,by dsimp only;omega,fun y hy=>hw y (erase_sub hy),fun y hy=>?_,?_⟩
 ·
  exact(he.addE (fun d hd=>wrong_sm (hx4 d hd)) (by rw[ha])).mono (by dsimp only;omega)
 ·
  exact hb.addE (by rw[ha])
 ·
  have h1:=hg y (erase_sub hy)
  dsimp only
  refine Classical.byContradiction fun hlt=>?_
  have h2:y.number=r.next:=by omega
  obtain⟨j,hj⟩:=List.mem_iff_getElem?.1 hy
  rw[List.getElem?_eraseIdx]at hj
  have key:∀ (i:Nat),i≠k→r.early[i]? = some y→False:=fun i hik hi=>by
   have hi':(r.early.map Entry.number)[i]? = some r.next:=by rw[List.getElem?_map,hi];simp[h2]
   have hk':(r.early.map Entry.number)[k]? = some r.next:=by rw[List.getElem?_map,hx];simp[hn]
   have hil:=(List.getElem?_eq_some_iff.1 hi').1
   exact hik ((List.getElem?_inj hil hd).1 (by rw[hi',hk']))
  split at hj
  ·
   exact key j (by omega) hj
  ·
   exact key (j+1) (by omega) hj
 ·
  dsimp only
  exact hd.sublist ((List.eraseIdx_sublist _ _).map _)
theorem drainR_inv:∀ {f:Nat}{r:Replica},DInv r→r.early.length≤f→DInv (drainR f r)∧(drainR f r).early.length≤r.early.length∧(∀ x∈(drainR f r).early,(drainR f r).next < x.number)∧(∀ x∈(drainR f r).early,x∈r.early)∧r.next≤(drainR f r).next
 |0,r,h,hf=>by
  have:r.early=[]:=List.eq_nil_of_length_eq_zero (by omega)
  have hd:drainR 0 r=r:=rfl
  rw[hd]
  exact⟨h,Nat.le_refl _,by rw[this];simp,fun x hx=>hx,Int.le_refl _⟩
 |f+1,r,h,hf=>by
  rcases firstN_cases (n:=r.next) (l:=r.early) (i:=0) with ⟨h1,h2⟩|⟨k,x,h1,h2,h3⟩
  ·
   rw[drainR_none (by omega)]
   exact⟨h,Nat.le_refl _,fun x hx=>by have:=h.g x hx;have:=h2 x hx;omega,fun x hx=>hx,Int.le_refl _⟩
  ·
   rw[Nat.zero_add]at h1
   rw[drainR_some h1 h2]
   have hkl:=(List.getElem?_eq_some_iff.1 h2).1
   have hlen:=List.length_eraseIdx_of_lt hkl
   obtain⟨g1,g2,g3,g4,g5⟩:=drainR_inv (f:=f) (take_inv h h2 h3) (by dsimp only;omega)
   dsimp only at g2 g4 g5
   exact⟨g1,by omega,g3,fun y hy=>erase_sub (g4 y hy),by omega⟩
theorem DInv.R {r:Replica}(h:DInv r) (hl:r.early.length≤4) (hg:∀ x∈r.early,r.next < x.number):RInv r:=⟨h.e,h.b,h.n,hl,h.w,hg,h.d⟩
theorem snoc_nodup {l:List Entry}{e:Entry}(hd:(l.map Entry.number).Nodup) (hh:hasN e.number l=false):((l++[e]).map Entry.number).Nodup:=by
 rw[List.map_append,List.nodup_append]
 refine⟨hd,by simp,fun a ha b hb=>?_⟩
 simp at hb
 subst hb
 obtain⟨x,hx,rfl⟩:=List.mem_map.1 ha
 exact hasN_false.1 hh x hx
theorem snoc_inv {r:Replica}(h:RInv r) {e:Entry}(he:wrongEntry e=0) (h1:¬ e.number < r.next) (h2:hasN e.number r.early=false):DInv ⟨r.engine,r.next,r.early++[e]⟩:=by
 refine⟨h.e,h.b,h.n,by have:=h.l;simp;omega,fun x hx=>?_,fun x hx=>?_,snoc_nodup h.d h2⟩
 ·
  rcases List.mem_append.1 hx with hx|hx
  ·
   exact h.w x hx
  ·
   rw[List.mem_singleton.1 hx];exact he
 ·
  dsimp only
  rcases List.mem_append.1 hx with hx|hx
  ·
   have:=h.g x hx;omega
  ·
   rw[List.mem_singleton.1 hx];omega
theorem drainR_snoc {r:Replica}{e:Entry}(hn:e.number=r.next) (h2:hasN e.number r.early=false) :
  drainR (r.early.length+1) ⟨r.engine,r.next,r.early++[e]⟩=drainR r.early.length ⟨(addE r.engine e.deeds).1,r.next+1,r.early⟩:=by
 have h3:∀ x∈r.early,x.number≠r.next:=fun x hx=>by rw[← hn];exact hasN_false.1 h2 x hx
 have h4:=firstN_app hn (i:=0) h3
 rw[Nat.zero_add]at h4
 rw[drainR_some (r:=⟨r.engine,r.next,r.early++[e]⟩) (k:=r.early.length) (x:=e) h4 (by simp)]
 dsimp only
 rw[List.eraseIdx_append_of_length_le (Nat.le_refl _)]
 simp
theorem comeE_inv {r:Replica}(h:RInv r) {e:Entry}(he:wrongEntry e=0):RInv (comeE r e).1:=by
 unfold comeE
 split
 ·
  exact h
 next h1 =>
  have h2:hasN e.number r.early=false:=by cases hh:hasN e.number r.early with
   |false=>rfl
   |true=>exact absurd (.inr hh) h1
  have h3:¬ e.number < r.next:=fun hh=>h1 (.inl hh)
  have hD:=snoc_inv h he h3 h2
  split
  ·
   next h4 =>
   split
   ·
    exact h
   ·
    next h5 =>
    refine hD.R (by simp;omega) fun x hx=>?_
    dsimp only at hx ⊢
    rcases List.mem_append.1 hx with hx|hx
    ·
     exact h.g x hx
    ·
     rw[List.mem_singleton.1 hx];exact h4
  ·
   next h4 =>
   have hn:e.number=r.next:=by omega
   dsimp only
   rw[← drainR_snoc hn h2]
   obtain⟨g1,g2,g3,g4,g5⟩:=drainR_inv (f:=r.early.length+1) hD (by simp)
   rw[drainR_snoc hn h2]at g1 g2 g3 g4 g5 ⊢
   have hT:=take_inv hD (k:=r.early.length) (x:=e) (by simp) hn
   rw[List.eraseIdx_append_of_length_le (Nat.le_refl _)]at hT
   simp at hT
   obtain⟨k1,k2,k3,k4,k5⟩:=drainR_inv (f:=r.early.length) hT (Nat.le_refl _)
   exact k1.R (by have:=h.l;dsimp only at k2;omega) k3
theorem come_had {r:Replica}{e:Entry}(h:e.number < r.next∨hasN e.number r.early=true):comeE r e=(r,11):=by
 unfold comeE;rw[if_pos h]
structure CInv (L:List Entry) (Q:Nat→Engine→Prop) (r:Replica):Prop where
 n:∃ k:Nat,r.next=k∧k≤L.length∧Q k r.engine
 e:∀ x∈r.early,r.next≤x.number∧∃ i:Nat,x.number=i∧L[i]? = some x
 d:(r.early.map Entry.number).Nodup
def Adds (L:List Entry) (Q:Nat→Engine→Prop):Prop:=∀ (k:Nat) (e:Engine) (x:Entry),Q k e→L[k]? = some x→Q (k+1) (addE e x.deeds).1
theorem CInv.take {L:List Entry}{Q:Nat→Engine→Prop}(hQ:Adds L Q) {r:Replica}(h:CInv L Q r) {k:Nat}{x:Entry}(hx:r.early[k]? = some x) (hn:x.number=r.next) :
  CInv L Q ⟨(addE r.engine x.deeds).1,r.next+1,r.early.eraseIdx k⟩:=by
 obtain⟨⟨m,hm,hml,hq⟩,he,hd⟩:=h
 obtain⟨h1,i,h2,h3⟩:=he x (List.mem_of_getElem? hx)
 obtain rfl:i=m:=by omega
 have hil:=(List.getElem?_eq_some_iff.1 h3).1
 refine⟨⟨i+1,by dsimp only;omega,hil,hQ i _ x hq h3⟩,fun y hy=>?_,hd.sublist ((List.eraseIdx_sublist _ _).map _)⟩
 obtain⟨g1,g2⟩:=he y (erase_sub hy)
 refine⟨?_,g2⟩
 dsimp only
 refine Classical.byContradiction fun hlt=>?_
 have h4:y.number=r.next:=by omega
 obtain⟨j,hj⟩:=List.mem_iff_getElem?.1 hy
 rw[List.getElem?_eraseIdx]at hj
 have key:∀ (a:Nat),a≠k→r.early[a]? = some y→False:=fun a hak ha=>by
  have ha':(r.early.map Entry.number)[a]? = some r.next:=by rw[List.getElem?_map,ha];simp[h4]
  have hk':(r.early.map Entry.number)[k]? = some r.next:=by rw[List.getElem?_map,hx];simp[hn]
  exact hak ((List.getElem?_inj (List.getElem?_eq_some_iff.1 ha').1 hd).1 (by rw[ha',hk']))
 split at hj
 ·
  exact key j (by omega) hj
 ·
  exact key (j+1) (by omega) hj
theorem CInv.drain {L:List Entry}{Q:Nat→Engine→Prop}(hQ:Adds L Q):∀ {f:Nat}{r:Replica},CInv L Q r→r.early.length≤f →
  CInv L Q (drainR f r)∧(∀ x∈(drainR f r).early,(drainR f r).next < x.number)∧r.next≤(drainR f r).next∧∀ x∈r.early,x.number < (drainR f r).next∨x∈(drainR f r).early
 |0,r,h,hf=>by
  have:r.early=[]:=List.eq_nil_of_length_eq_zero (by omega)
  have hd:drainR 0 r=r:=rfl
  rw[hd]
  exact⟨h,by rw[this];simp,Int.le_refl _,fun x hx => .inr hx⟩
 |f+1,r,h,hf=>by
  rcases firstN_cases (n:=r.next) (l:=r.early) (i:=0) with ⟨h1,h2⟩|⟨k,x,h1,h2,h3⟩
  ·
   rw[drainR_none (by omega)]
   exact⟨h,fun x hx=>by have:=(h.e x hx).1;have:=h2 x hx;omega,Int.le_refl _,fun x hx => .inr hx⟩
  ·
   rw[Nat.zero_add]at h1
   rw[drainR_some h1 h2]
   have hkl:=(List.getElem?_eq_some_iff.1 h2).1
   have hlen:=List.length_eraseIdx_of_lt hkl
   obtain⟨g1,g2,g3,g4⟩:=CInv.drain hQ (f:=f) (h.take hQ h2 h3) (by dsimp only;omega)
   dsimp only at g3 g4
   refine⟨g1,g2,by omega,fun y hy=>?_⟩
   obtain⟨j,hj⟩:=List.mem_iff_getElem?.1 hy
   by_cases hjk:j=k
   ·
    subst hjk
    rw[h2]at hj
    cases hj
    exact .inl (by omega)
   ·
    refine g4 y (List.mem_iff_getElem?.2 ?_)
    rcases Nat.lt_or_ge j k with hlt|hge
    ·
     exact⟨j,by rw[List.getElem?_eraseIdx,if_pos hlt];exact hj⟩
    ·
     exact⟨j - 1,by rw[List.getElem?_eraseIdx,if_neg (by omega),show j - 1+1=j by omega];exact hj⟩
def Has (r:Replica) (x:Entry):Prop:=x.number < r.next∨hasN x.number r.early=true
theorem CInv.come {L:List Entry}{Q:Nat→Engine→Prop}(hQ:Adds L Q) {r:Replica}(h:CInv L Q r) {i:Nat}{x:Entry}(hx:L[i]? = some x) (hn:x.number=i) :
  CInv L Q (comeE r x).1∧r.next≤(comeE r x).1.next∧(∀ y,Has r y→Has (comeE r x).1 y)∧((∀ y∈r.early,r.next < y.number)→∀ y∈(comeE r x).1.early,(comeE r x).1.next < y.number)∧(Has (comeE r x).1 x∨(4≤r.early.length∧(comeE r x).1=r)):=by
 by_cases h1:x.number < r.next∨hasN x.number r.early=true
 ·
  rw[come_had h1]
  exact⟨h,Int.le_refl _,fun y hy=>hy,fun h=>h,.inl h1⟩
 have h2:hasN x.number r.early=false:=by cases hh:hasN x.number r.early with
  |false=>rfl
  |true=>exact absurd (.inr hh) h1
 have h3:¬ x.number < r.next:=fun hh=>h1 (.inl hh)
 by_cases h4:r.next < x.number
 ·
  by_cases h5:4≤r.early.length
  ·
   have:comeE r x=(r,5):=by unfold comeE;rw[if_neg h1,if_pos h4,if_pos h5]
   rw[this]
   exact⟨h,Int.le_refl _,fun y hy=>hy,fun h=>h,.inr ⟨h5,rfl⟩⟩
  ·
   have:comeE r x=(⟨r.engine,r.next,r.early++[x]⟩,12):=by unfold comeE;rw[if_neg h1,if_pos h4,if_neg h5]
   rw[this]
   refine⟨⟨h.n,fun y hy=>?_,snoc_nodup h.d h2⟩,Int.le_refl _,fun y hy=>?_,fun hg y hy=>?_,.inl (.inr (hasN_true.2 ⟨x,by simp,rfl⟩))⟩
   ·
    rcases List.mem_append.1 hy with hy|hy
    ·
     exact h.e y hy
    ·
     rw[List.mem_singleton.1 hy];exact⟨by dsimp only;omega,i,hn,hx⟩
   ·
    rcases hy with hy|hy
    ·
     exact .inl hy
    ·
     obtain⟨z,hz,he⟩:=hasN_true.1 hy
     exact .inr (hasN_true.2 ⟨z,List.mem_append.2 (.inl hz),he⟩)
   ·
    dsimp only at hy ⊢
    rcases List.mem_append.1 hy with hy|hy
    ·
     exact hg y hy
    ·
     rw[List.mem_singleton.1 hy];exact h4
 ·
  have hnx:x.number=r.next:=by omega
  have:comeE r x=(drainR r.early.length ⟨(addE r.engine x.deeds).1,r.next+1,r.early⟩,0):=by unfold comeE;rw[if_neg h1,if_neg h4]
  rw[this,← drainR_snoc hnx h2]
  have hC:CInv L Q ⟨r.engine,r.next,r.early++[x]⟩:=by
   refine⟨h.n,fun y hy=>?_,snoc_nodup h.d h2⟩
   rcases List.mem_append.1 hy with hy|hy
   ·
    exact h.e y hy
   ·
    rw[List.mem_singleton.1 hy];exact⟨by dsimp only;omega,i,hn,hx⟩
  obtain⟨g1,g2,g3,g4⟩:=hC.drain hQ (f:=r.early.length+1) (by simp)
  dsimp only at g3 g4 ⊢
  have hh:∀ y,y∈r.early++[x]→Has (drainR (r.early.length+1) ⟨r.engine,r.next,r.early++[x]⟩) y:=fun y hy=>by
   rcases g4 y hy with h|h
   ·
    exact .inl h
   ·
    exact .inr (hasN_true.2 ⟨y,h,rfl⟩)
  refine⟨g1,g3,fun y hy=>?_,fun _=>g2,.inl (hh x (by simp))⟩
  rcases hy with hy|hy
  ·
   exact .inl (by omega)
  ·
   obtain⟨z,hz,he⟩:=hasN_true.1 hy
   have:=hh z (List.mem_append.2 (.inl hz))
   unfold Has at this ⊢
   rw[← he];exact this
def dOf (L:List Entry) (n:Nat):List Deed:=(L.take n).flatMap Entry.deeds
theorem dOf_succ {L:List Entry}{n:Nat}{x:Entry}(h:L[n]? = some x):dOf L (n+1)=dOf L n++x.deeds:=by
 unfold dOf
 rw[List.take_add_one,h]
 simp
def comes:Replica→List Entry→Replica
 |r,[]=>r
 |r,x::l=>comes (comeE r x).1 l
def Behind (a b:Engine):Prop:=∃ (q:List Pair) (m:Nat),BInv a q∧BInv b (sq q a.deeds m)∧m≤a.deeds.length∧b.deeds=a.deeds.drop m
theorem Behind.add {a b:Engine}(h:Behind a b) {l:List Deed}(hl:wrongs l=0):Behind (addE a l).1 (addE b l).1:=by
 obtain⟨q,m,h1,h2,h3,h4⟩:=h
 rw[addE_right hl,addE_right hl]
 dsimp only
 have hw:=wrongs_mem hl
 have ha:=(addAll_deeds (l:=l) (e:=a)).1
 have hb:=(addAll_deeds (l:=l) (e:=b)).1
 refine⟨q,m,h1.addAll hw,?_,by rw[ha];simp;omega,by rw[ha,hb,h4,List.drop_append_of_le_length h3]⟩
 rw[ha,sq_append h3]
 exact h2.addAll hw
theorem Behind.ok {a b:Engine}(h:Behind a b):(∃ q,BInv a q)∧∃ q,BInv b q:=by
 obtain⟨q,m,h1,h2,_,_⟩:=h
 exact⟨⟨_,h1⟩,⟨_,h2⟩⟩
theorem mark_made {e:Engine}{q:List Pair}(h:BInv e q) (k:Str):(before e.chains k (e.base+markN e.state)).made=true:=by
 cases hm:(before e.chains k (e.base+markN e.state)).made with
 |true=>rfl
 |false =>
  rcases before_mem e.chains k (e.base+markN e.state) with h1|⟨c,h1,h2,h3,h4⟩
  ·
   rw[h1]at hm;cases hm
  ·
   obtain⟨j,x,h5,h6,_⟩:=h.W.n c h1 _ h3 hm
   have:=markN_one (s:=e.state) (j:=j) (by omega)
   rw[h6]at this;cases this
theorem seen_mark {e:Engine}{q:List Pair}(h:BInv e q):seenE e (markN e.state)=(sq q e.deeds (markN e.state),0):=by
 have hm:=markN_le e.state
 have hl:=h.W.l
 have:=h.rows (i:=markN e.state) (by omega) (mark_made h)
 unfold seenE
 rw[if_neg (by omega),this]
 rfl
end Go.Proofs.YtccblhpfjlgmbabGreatDoor
namespace Go.AX
open Go.RowKit
variable {cx:Cx}{g:Nat→Value}{σ σ':St}{a:Act}{w w':World}{nx:Nat}
variable {ty:TypeId}{pos:String}{af:Array Edge}{gd:Option (Nat×Bool)}{d:Nat}
theorem flatten_len {k:Nat}:∀ {rs:List (List D)},(∀ r∈rs,r.length=k)→rs.flatten.length=rs.length*k
 | [],_=>by simp
 |r::rs,h=>by
  rw[List.flatten_cons,List.length_append,h r (List.mem_cons_self ..),flatten_len fun x hx=>h x (List.mem_cons_of_mem _ hx),List.length_cons,Nat.add_mul,Nat.one_mul,Nat.add_comm]
theorem ok_bsO {t e:TypeId}{n k n0:Nat}{ps:List (Nat×Operand)}{rs:List (List D)}{l:List (Key×Val)}{ti te:TI}(hn:d < cx.n) (ht:tget cx.T t=some ti) (hk:ti.kind = .sl e k)
  (hte:tget cx.T e=some te) (h1:∀ c∈te.zero,Value.oneCell' c=true) (hp:Parts ps (numb 0 rs) l) (hrs:∀ r∈rs,r.length=k) (hnl:n=rs.length) (hsm:n*k≤65536) (hpos:n*k≠0) :
  OpOk cx ⟨some d,.buildSlice t n ⟨ps⟩,ty,pos,af,gd⟩ ⟨(.nx,.num n0)::l,[(.s d,.av (.own n0 n)),(.o n0,.ob (.arr e k rs)),(.nx,.num (n0+1))]⟩:=by
 rintro σ a w K Q ⟨g,nx,hs⟩ hr hK
 obtain⟨hnn,hr⟩:=hr
 have hnx:nx=n0:=by
  have h2:=hs.hnx
  rw[hnn]at h2
  simpa using h2.symm
 subst hnx
 have hF:=(cx.hT t ti ht).kind
 rw[hk]at hF
 obtain⟨hu,⟨ie,hie,hks⟩,hk0,_⟩:=hF
 obtain⟨ie',hie',hes,_,z,hz,hzc⟩:=(cx.hT e te hte).info
 rw[hie]at hie'
 cases hie'
 obtain⟨h2,h3⟩:=hp.ok hs hr
 have hzl:z.cells.size=k:=by
  have:=(cx.hT e te hte).len
  rw[← hzc]at this
  simp at this
  omega
 have hinit:RdL w (cx.own g σ) ((Array.range (n*ie.size)).map (z.cells[· % z.cells.size]!)).toList (((Array.range (n*ie.size)).map (z.cells[· % z.cells.size]!)).toList.map D.v):=by
  refine zero_rd fun c hc=>?_
  simp only[Array.toList_map,List.mem_map]at hc
  obtain⟨q,_,rfl⟩:=hc
  refine h1 _ ?_
  rw[← hzc]
  have hlt:q%z.cells.size < z.cells.size:=Nat.mod_lt _ (by rw[hzl];exact Nat.pos_of_ne_zero fun e=>hpos (by rw[e,Nat.mul_zero]))
  rw[getElem!_pos z.cells _ hlt]
  simp
 have hfr:=fill_rows (k:=k) (n:=n) (rs:=rs) (i:=0) (ds:=((Array.range (n*ie.size)).map (z.cells[· % z.cells.size]!)).toList.map D.v) hrs (by simp[hks]) (by omega)
 rw[Nat.zero_mul,List.take_zero,List.nil_append,List.drop_eq_nil_of_le (by simp[hks,hnl]),List.append_nil]at hfr
 obtain⟨cs',h4,h5⟩:=fill_ok (cs:=(Array.range (n*ie.size)).map (z.cells[· % z.cells.size]!)) h2 h3 hinit hfr
 have hrun:=run_buildSlice (P:=cx.P) w t e n (ps.map fun p=>(p.1,a.eval p.2)).toArray cs' ie z hu hie hz (by rw[hks];omega) (by rw[hks];exact hpos) (by rw[← h4,hks])
 have hflen:rs.flatten.length=n*k:=by rw[hnl];exact flatten_len hrs
 have hcl:cs'.size=n*k:=by have:=h5.1;simp only[Array.length_toList]at this;omega
 have hb:Below w.heap.size w (w.alloc (.cells cs' e)):=(Below.refl _ _).alloc (Nat.le_refl _) _
 have hst:ObjStep cx σ g nx (nx+1) w (w.alloc (.cells cs' e)) nx (.arr e k rs) (.slice (some ⟨w.heap.size,0,none⟩) n n) :=
  ⟨.inl ⟨rfl,rfl⟩,hb.mono hs.below.size,fun c hc _=>hb.block c hc,fun c hc => .inr (by cases hc;exact Nat.le_refl _)⟩
 have hn65:n≤65536:=by
  rcases Nat.eq_zero_or_pos k with h|h
  ·
   exact absurd (by rw[h,Nat.mul_zero]) hpos
  ·
   exact Nat.le_trans (Nat.le_mul_of_pos_right n h) hsm
 have hG:=SimG.obj hs hst (fun hl=>⟨cs'.toList,by
   rw[upd_same,← hnl]
   refine⟨by simpa using hcl,.inr ⟨w.heap.size,n,cs',rfl,hs.below.size,heap_alloc_new w _,Nat.le_refl _,by unfold maxLen;omega,hcl,?_⟩⟩
   rw[List.take_of_length_le (by simp[hcl])],h5.2.1,hrs,fun i j r x v hi hj hv=>by
   have hf:=flat_get hrs hi hj
   exact(h5.2.2 _ v x hf hv).step hl.ext hl.own⟩) trivial
 have hex:(execOp a.eval ⟨some d,.buildSlice t n ⟨ps⟩,ty,pos,af,gd⟩).run cx.P w = .ok (.value (.slice (some ⟨w.heap.size,0,none⟩) n n)) (w.alloc (.cells cs' e)):=by
  simp only[execOp,List.map_toArray,Sem.run_bind,hrun,Result.andThen_ok,Sem.run_pure]
 refine wp_val rfl hex (hK _ _ ?_)
 refine Sim.eqv (Sim.put hG hn (Below.refl _ _) (av := .own nx n) ⟨.of get_cons_same,fun e' k' rows' hg=>?_⟩ (Nat.lt_succ_self nx)) fun q=>?_
 ·
  rw[get_cons_same]at hg
  simp only[Val.ob.injEq,Ob.arr.injEq]at hg
  obtain⟨_,_,rfl⟩:=hg
  exact⟨by omega,fun _=>(upd_same _ _ _).symm⟩
 cases q with
 |s i =>
  by_cases hi:i=d
  ·
   subst hi;rw[get_cons_same];exact get_cons_same.symm
  ·
   rw[get_cons_ne (by simpa using fun e=>hi e.symm),objSt_s]
   exact((get_cons_ne (by simpa using fun e=>hi e.symm)).trans ((get_cons_ne (by simp)).trans (get_cons_ne (by simp)))).symm
 |o i =>
  rw[get_cons_ne (by simp)]
  by_cases hi:i=nx
  ·
   subst hi;rw[get_cons_same];exact((get_cons_ne (by simp)).trans get_cons_same).symm
  ·
   rw[objSt_o hi]
   exact((get_cons_ne (by simp)).trans ((get_cons_ne (by simpa using fun e=>hi e.symm)).trans (get_cons_ne (by simp)))).symm
 |nx =>
  rw[get_cons_ne (by simp),objSt_nx]
  exact((get_cons_ne (by simp)).trans ((get_cons_ne (by simp)).trans get_cons_same)).symm
theorem a_bsO {t e n k n0:Nat}{ps:List (Nat×Operand)}(rs:List (List D)) {l:List (Key×Val)}{ti te:TI}(hn0:get σ .nx = .num n0) (ht:tget cx.T t=some ti) (hk:ti.kind = .sl e k)
  (hte:tget cx.T e=some te) (h1:(te.zero.all Value.oneCell')=true) (hrs:(rs.all fun r=>Nat.beq r.length k)=true) (hnl:n=rs.length) (hsm:Nat.ble (n*k) 65536=true) (hpos:Nat.blt 0 (n*k)=true)
  (hd:Nat.blt d cx.n=true) (hp:PartsE σ ps (numb 0 rs) l):OA cx σ ⟨some d,.buildSlice t n ⟨ps⟩,ty,pos,af,gd⟩ ⟨(.nx,.num n0)::l,[(.s d,.av (.own n0 n)),(.o n0,.ob (.arr e k rs)),(.nx,.num (n0+1))]⟩ :=
 ⟨ok_bsO (lt_of_blt hd) ht hk hte (fun c hc=>List.all_eq_true.1 h1 c hc) hp.out.1 (fun r hr=>by simpa using List.all_eq_true.1 hrs r hr) hnl (by simpa using hsm) (Nat.ne_of_gt (lt_of_blt hpos)),hn0,hp.out.2⟩
end Go.AX
namespace Go.AX
open Go.RowKit Go.Lib
variable {cx:Cx}{g:Nat→Value}{σ σ':St}{a:Act}{w w':World}{nx:Nat}
variable {ty:TypeId}{pos:String}{af:Array Edge}{gd:Option (Nat×Bool)}{d:Nat}
def byteD (c:UInt8):List D:=[.v (.int .u8 c.toNat)]
theorem a_appstr {t t2 e id n:Nat}{x y:Operand}{rows:List (List D)}{s:List UInt8}{ti te si:TI}(hx:ev σ x=some (.own id n)) (ho:get σ (.o id) = .ob (.arr e 1 rows)) (hy:ev σ y=some (.d (.v (str s)))) (ht:tget cx.T t=some ti) (hk:ti.kind = .sl e 1)
  (hte:tget cx.T e=some te) (hzz:∀ w,(zeroValue e).run cx.P w = .ok (.int .u8 0) w) (hb1:te.bytes=1) (hn1:te.n=1) (ht2:tget cx.T t2=some si) (hk2:si.kind = .str) (hd:Nat.blt d cx.n=true) (hnn:n=rows.length) (hlen:rows.length+s.length≤1073741824) :
  OA cx σ ⟨some d,.call { callee := .builtin .append,args := #[x,y],argTypes := #[t,t2] },ty,pos,af,gd⟩
   ⟨rdOf x (.own id n)++(rdOf y (.d (.v (str s)))++[(.o id,.ob (.arr e 1 rows))]),[(.s d,.av (.own id (n+s.length))),(.o id,.ob (.arr e 1 (rows++s.map byteD)))]⟩:=by
 refine⟨?_,(ev_out hx).2.append ((ev_out hy).2.append ⟨ho,trivial⟩)⟩
 rintro σ1 a w K Q ⟨g,nx,hs⟩ hr hK
 subst hnn
 have ho1:get σ1 (.o id) = .ob (.arr e 1 rows):=hr.right.right.1
 have hv:a.eval x=g id:=((hs.ev (ev_out hx).1 hr.left).1.2 e 1 rows ho1).2 rfl
 have hyv:a.eval y=str s:=rd_v (hs.ev (ev_out hy).1 hr.right.left).1
 obtain⟨hid,⟨xs,h1,h2,h3,h4⟩,_⟩:=hs.objs id _ ho1
 have hF:=(cx.hT t ti ht).kind
 rw[hk]at hF
 obtain⟨hu,⟨ie,hie,hks⟩,hk0,_⟩:=hF
 have hF2:=(cx.hT t2 si ht2).kind
 rw[hk2]at hF2
 obtain⟨hu2,_⟩:=hF2
 obtain⟨ie',hie',hes,heb,z,hz,hzc⟩:=(cx.hT e te hte).info
 rw[hie]at hie'
 cases hie'
 have hzv:z = .int .u8 0:=by
  have:=hzz w
  simp[zeroValue,typeInfo,hie,hz]at this
  exact this
 subst hzv
 have hsz:(⟨s.toArray⟩:ByteArray).size=s.length:=by show s.toArray.size=_;simp
 obtain⟨v',w',hrun,hown,hgr,_⟩:=run_append_own_string (P:=cx.P) w cx.w0.heap.size t t2 ty e ie hu hu2 hie hz hks (by rw[heb,hb1]) (g id) rows.length xs h1 ⟨s.toArray⟩ (by simp only[maxLen];omega) (by omega) hs.below.size
 rw[hsz]at hown
 have hst0:strCells ⟨s.toArray⟩=s.map fun b=>Value.int .u8 b.toNat:=by simp[strCells]
 -- where it lies now
 have hat:(v'.ownBlock=(g id).ownBlock∨v'.ownBlock=some w.heap.size)∧(s.length=0→v'=g id):=by
  rcases h1.2 with ⟨e1,e2⟩|⟨gb,cap,cur,e1,hbg,hg,hnc,hcm,hcs,htake⟩
  ·
   by_cases h0:s.length=0
   ·
    have hs0:s=[]:=List.eq_nil_of_length_eq_zero h0
    subst hs0
    have hr2:(Builtin.append_ #[t,t2] ty #[g id,.string ⟨#[]⟩]).run cx.P w = .ok (.slice none 0 0) w:=by
     rw[e1]
     have hf:=run_firstCells_string (P:=cx.P) w 1 ⟨#[]⟩
     have hz2:(⟨#[]⟩:ByteArray).size=0:=rfl
     rw[hz2]at hf
     simp[Builtin.append_,run_underlying hu,run_underlying hu2,sizeOf,typeInfo,hie,hks,Builtin.lenOf,hz2,hf]
    have hr3:(Builtin.append_ #[t,t2] ty #[g id,.string ⟨#[]⟩]).run cx.P w = .ok v' w':=hrun
    rw[hr2]at hr3
    cases hr3
    exact⟨.inl (by rw[e1]),fun _=>e1.symm⟩
   ·
    have hr2:=run_append_nil_string (P:=cx.P) w t t2 ty e ie (.int .u8 0) hu hu2 hie hz ⟨s.toArray⟩ (by omega) (by omega) (by rw[heb,hb1];omega)
    rw[e1]at hrun
    rw[hr2]at hrun
    cases hrun
    exact⟨.inr rfl,fun h=>absurd h h0⟩
  ·
   have hcs':cur.size=cap:=by simpa using hcs
   by_cases hroom:rows.length+s.length≤cap
   ·
    have hr2:=run_append_room_string (P:=cx.P) w t t2 ty e ie hu hu2 hie hks gb rows.length cap cur hg ⟨s.toArray⟩ (by rw[hsz];exact hroom) (by rw[hsz,hcs'];exact hroom)
    rw[e1]at hrun
    rw[hr2]at hrun
    cases hrun
    exact⟨.inl (by rw[e1];rfl),fun h=>by rw[e1,hsz,h];rfl⟩
   ·
    have holds:∀ j u,xs[j]? = some u→w.cell? ((⟨gb,0,none⟩:Addr).add j)=some u:=h1.cells (g:=gb) (by rw[e1];rfl)
    have hr2:=run_append_grow_string (P:=cx.P) w t t2 ty e ie (.int .u8 0) hu hu2 hie hz ⟨gb,0,none⟩ rows.length cap xs (by rw[hks];exact h1.1) holds ⟨s.toArray⟩ (by rw[hsz];omega) (by omega) (by rw[heb,hb1];exact growslice_fits (by omega) (by omega))
    rw[e1]at hrun
    rw[hr2]at hrun
    cases hrun
    exact⟨.inr rfl,fun h=>by omega⟩
 have hgb:∀ b,blk (g id)=some b↔(g id).ownBlock=some b:=fun b=>by rw[blk_own h1]
 have hst:ObjStep cx σ1 g nx nx w w' id (.arr e 1 (rows++s.map byteD)) v':=by
  refine⟨.inr ⟨rfl,_,ho1,rfl,rfl,by simp,fun h=>?_⟩,?_,fun b hb hno=>?_,fun b hb=>?_⟩
  ·
   rw[List.length_append,List.length_map]at h
   rw[upd_same]
   exact hat.2 (by omega)
  ·
   exact(Below.refl _ _).grown hgr hs.below.size fun q hq=>obj_ge hs ho1 (by rw[hgb];exact hq)
  ·
   exact hgr.block b hb fun e=>hno _ ho1 (by rw[hgb];exact e.symm)
  ·
   have hb':v'.ownBlock=some b:=by rw[← blk_own hown];exact hb
   rcases hat.1 with h|h
   ·
    exact .inl ⟨_,ho1,by rw[hgb,← h];exact hb'⟩
   ·
    rw[h]at hb'
    right
    simp at hb'
    omega
 have hG:=SimG.obj hs hst (fun hl=>⟨xs++strCells ⟨s.toArray⟩,by rw[upd_same,List.length_append,List.length_map];exact hown,fun u hu=>?_,fun r hr'=>?_,fun i j r q u hi hj hu=>?_⟩) trivial
 ·
  refine wp_val rfl (v:=v') (w':=w') ?_ (hK _ _ (Sim.eqv (Sim.put hG (lt_of_blt hd) (Below.refl _ _) (av := .own id (rows.length+s.length)) ⟨.of get_cons_same,fun e' k' rows' hg=>?_⟩ hid) fun q=>?_))
  ·
   have:(Builtin.append_ #[t,t2] ty #[a.eval x,a.eval y]).run cx.P w = .ok v' w':=by rw[hv,hyv];exact hrun
   simp[execOp,resolve,invoke,builtin,this]
  ·
   rw[get_cons_same]at hg
   cases hg
   exact⟨by simp,fun _=>(upd_same _ _ _).symm⟩
  ·
   cases q with
   |s i =>
    by_cases hi:i=d
    ·
     subst hi;rw[get_cons_same];exact get_cons_same.symm
    ·
     rw[get_cons_ne (by simpa using fun e=>hi e.symm),objSt_s]
     exact((get_cons_ne (by simpa using fun e=>hi e.symm)).trans (get_cons_ne (by simp))).symm
   |o i =>
    rw[get_cons_ne (by simp)]
    by_cases hi:i=id
    ·
     subst hi
     rw[get_cons_same]
     exact((get_cons_ne (by simp)).trans get_cons_same).symm
    ·
     rw[objSt_o hi]
     exact((get_cons_ne (by simp)).trans (get_cons_ne (by simpa using fun e=>hi e.symm))).symm
   |nx =>
    rw[get_cons_ne (by simp),objSt_nx]
    exact(((get_cons_ne (by simp)).trans (get_cons_ne (by simp))).trans hs.hnx).symm
 ·
  rcases List.mem_append.1 hu with hu|hu
  ·
   exact h2 u hu
  ·
   exact strCells_oneCell _ u hu
 ·
  rcases List.mem_append.1 hr' with hr'|hr'
  ·
   exact h3 r hr'
  ·
   obtain⟨c,_,rfl⟩:=List.mem_map.1 hr'
   rfl
 ·
  have hxl:xs.length=rows.length:=by have:=h1.1;omega
  rcases Nat.lt_or_ge i rows.length with hil|hil
  ·
   rw[List.getElem?_append_left hil]at hi
   have hjk:j < 1:=by
    have:=(List.getElem?_eq_some_iff.1 hj).1
    rw[h3 r (List.mem_of_getElem? hi)]at this
    exact this
   rw[List.getElem?_append_left (by omega)]at hu
   exact(h4 i j r q u hi hj hu).step hl.ext hl.own
  ·
   rw[List.getElem?_append_right hil,List.getElem?_map,Option.map_eq_some_iff]at hi
   obtain⟨c,hc,rfl⟩:=hi
   have hj0:j=0:=by
    have:=(List.getElem?_eq_some_iff.1 hj).1
    simp[byteD]at this
    exact this
   subst hj0
   simp[byteD]at hj
   subst hj
   rw[List.getElem?_append_right (by omega),hst0,List.getElem?_map,show i*1+0 - xs.length=i - rows.length by omega,hc]at hu
   obtain rfl:Value.int .u8 c.toNat=u:=by simpa using hu
   exact Rd.v _
theorem foldl_push:∀ (s:List UInt8) (b:ByteArray),(s.map fun c=>(c.toNat:Int)).foldl (fun r n=>r.push (UInt8.ofNat n.toNat)) b=⟨(b.data.toList++s).toArray⟩
 | [],b=>by simp
 |c::s,b=>by
  rw[List.map_cons,List.foldl_cons,foldl_push s]
  congr 1
  have:UInt8.ofNat (c.toNat:Int).toNat=c:=by
   apply UInt8.toNat_inj.1
   rw[Int.toNat_natCast,UInt8.toNat_ofNat']
   have:=c.toNat_lt
   omega
  rw[this]
  simp[ByteArray.push]
theorem a_b2s {t t2 e:Nat}{x:Operand}{s:List UInt8}{ti te si:TI}(hx:ev σ x=some (.d (.sl 1 (s.map byteD)))) (ht:tget cx.T t=some ti) (hk:ti.kind = .sl e 1) (hte:tget cx.T e=some te) (hke:te.kind = .int .u8) (ht2:tget cx.T t2=some si) (hk2:si.kind = .str) (hd:Nat.blt d cx.n=true) :
  OA cx σ ⟨some d,.convert t t2 x,ty,pos,af,gd⟩ ⟨rdOf x (.d (.sl 1 (s.map byteD))),[(.s d,.av (.d (.v (str s))))]⟩:=by
 refine⟨ok_val rfl (lt_of_blt hd) fun σ1 a w g nx hs hr=>⟨str s,w,?_,Below.refl _ _,Rd.v _,trivial⟩,(ev_out hx).2⟩
 have hr1:Rd w (cx.own g σ1) (a.eval x) (.sl 1 (s.map byteD)):=(hs.ev (ev_out hx).1 hr).1
 have hF:=(cx.hT t ti ht).kind
 rw[hk]at hF
 obtain⟨hu,_⟩:=hF
 have hF2:=(cx.hT t2 si ht2).kind
 rw[hk2]at hF2
 obtain⟨hu2,_⟩:=hF2
 have hF3:=(cx.hT e te hte).kind
 rw[hke]at hF3
 obtain⟨hu3,_⟩:=hF3
 have key:∃ ad l c,a.eval x = .slice ad l c∧(Conv.bytesToString (.slice ad l c)).run cx.P w = .ok (str s) w:=by
  by_cases h0:s=[]
  ·
   subst h0
   generalize a.eval x=v at hr1
   generalize hD:D.sl 1 (List.map byteD [])=D0 at hr1
   cases hr1 with
   |v=>cases hD
   |x=>cases hD
   |agg=>cases hD
   |nil p c =>
    refine⟨p,0,c,rfl,?_⟩
    cases p with
    |none=>simp[Conv.bytesToString];rfl
    |some ad=>exact run_bytesToString w ad 0 c [] (run_loadCells_list w ad [] (fun j v h=>by simp at h))
   |sl ad cap k rows hb hs2 =>
    cases hD
    refine⟨some ad,_,cap,rfl,?_⟩
    exact run_bytesToString w ad 0 cap [] (run_loadCells_list w ad [] (fun j v h=>by simp at h))
  ·
   obtain⟨ad,c,news,h1,h2,h3,h4,h5⟩:=sl_cells hr1 (by simpa using h0)
   refine⟨some ad,_,c,h1,?_⟩
   have hnews:news=(s.map fun c=>(c.toNat:Int)).map (Value.int .u8):=by
    refine List.ext_getElem? fun j=>?_
    rw[List.map_map,List.getElem?_map]
    cases hj:s[j]? with
    |none =>
     have:=List.getElem?_eq_none_iff.1 hj
     rw[List.getElem?_eq_none (by rw[h2,List.length_map];omega)];rfl
    |some b =>
     have hlt:=(List.getElem?_eq_some_iff.1 hj).1
     obtain⟨u,hu⟩:∃ u,news[j]? = some u:=⟨news[j]'(by rw[h2,List.length_map];omega),List.getElem?_eq_getElem _⟩
     have:=h5 j 0 (byteD b) (.v (.int .u8 b.toNat)) u (by rw[List.getElem?_map,hj];rfl) rfl (by rw[show j*1+0=j by omega];exact hu)
     rw[hu,rd_v this];rfl
   have hl:(loadCells ad (s.map byteD).length).run cx.P w = .ok ((s.map fun c=>(c.toNat:Int)).map (Value.int .u8)).toArray w:=by
    have:=run_loadCells_list (P:=cx.P) w ad news h3
    rw[hnews]at this
    simpa using this
   have:=run_bytesToString w ad (s.map byteD).length c _ hl
   rw[foldl_push]at this
   exact this
 obtain⟨ad,l,c,h1,h2⟩:=key
 have hc:=run_convert_bytes_string (P:=cx.P) w t t2 e ad l c hu hu3 hu2
 simp[execOp,h1,hc,h2]
theorem wrap_u8_in {n:Int}(h:0≤n∧n≤255):IntKind.u8.wrap n=n:=by
 rw[IntKind.wrap_u8];omega
theorem bin_shr8 {P:Program}{t:TypeId}{k:IntKind}{n:Int}:BinR P .shr t (.int .i64 n) (.int k 8) (.int .i64 (n / 256)):=by
 intro w x y
 rw[eqGuard_shr,binOp_shr,shift_shr .i64 k n 8 (by omega) (by decide)]
 rfl
theorem bin_shl8 {P:Program}{t:TypeId}{k:IntKind}{n:Nat}(h:n < 256):BinR P .shl t (.int .i64 n) (.int k 8) (.int .i64 ((n:Int)*256)):=by
 intro w x y
 have:IntKind.i64.wrap ((n:Int)*2 ^ min (8:Int).toNat IntKind.i64.bits)=(n:Int)*256:=by
  rw[show(2:Int) ^ min (8:Int).toNat IntKind.i64.bits=256 by decide]
  exact wrap_in (by omega)
 rw[eqGuard_shl,binOp_shl,shift_shl_any .i64 k n 8 (by omega),this]
 rfl
theorem bin_or8 {P:Program}{t:TypeId}{n m:Nat}(h:n < 256) (hm:m < 256):BinR P .or t (.int .i64 ((n:Int)*256)) (.int .i64 (m:Int)) (.int .i64 ((n:Int)*256+m)):=by
 intro w x y
 have h1:(BitVec.ofInt IntKind.i64.bits ((n:Int)*256)).toNat=n*256:=by
  rw[BitVec.toNat_ofInt,show IntKind.i64.bits=64 from rfl];omega
 have h2:(BitVec.ofInt IntKind.i64.bits (m:Int)).toNat=m:=by
  rw[BitVec.toNat_ofInt,show IntKind.i64.bits=64 from rfl];omega
 have h3:n*256 ||| m=n*256+m:=by
  have:=Nat.shiftLeft_add_eq_or_of_lt (i:=8) (b:=m) (by omega) n
  rw[Nat.shiftLeft_eq]at this
  exact this.symm
 have h4:(BitVec.ofInt IntKind.i64.bits ((n:Int)*256) ||| BitVec.ofInt IntKind.i64.bits (m:Int)).toNat=n*256+m:=by rw[BitVec.toNat_or,h1,h2,h3]
 have h5:IntKind.i64.wrap ((n*256+m:Nat):Int)=(n:Int)*256+m:=by rw[wrap_in (by omega)];omega
 rw[eqGuard_or,binOp_or]
 unfold Op.intBits
 simp only[h4,h5]
 rfl
end Go.AX
namespace Go.AX
open Go.RowKit
variable {cx:Cx}{g:Nat→Value}{σ σ':St}{a:Act}{w w':World}{nx:Nat}
variable {ty:TypeId}{pos:String}{af:Array Edge}{gd:Option (Nat×Bool)}{d:Nat}
theorem ok_gennew {op:Op}{l:List (Key×Val)}{n0:Nat}(p:Value→Obj→Prop) (hd:d < cx.n)
  (hex:∀ σ a w g nx,SimG cx σ a w g nx→App σ l→∃ v o,(execOp a.eval ⟨some d,op,ty,pos,af,gd⟩).run cx.P w = .ok (.value v) (w.alloc o)∧blk v=some w.heap.size∧p v o) :
  OpOk cx ⟨some d,op,ty,pos,af,gd⟩ ⟨(.nx,.num n0)::l,[(.s d,.av (.h n0)),(.o n0,.ob (.gen p)),(.nx,.num (n0+1))]⟩:=by
 rintro σ a w K Q ⟨g,nx,hs⟩ hr hK
 obtain⟨hn,hl⟩:=hr
 have hnx:nx=n0:=by
  have h2:=hs.hnx
  rw[hn]at h2
  simpa using h2.symm
 subst hnx
 obtain⟨v,o,hrun,hbv,hp⟩:=hex σ a w g nx hs hl
 have hb:Below w.heap.size w (w.alloc o):=(Below.refl _ _).alloc (Nat.le_refl _) _
 have hst:ObjStep cx σ g nx (nx+1) w (w.alloc o) nx (.gen p) v :=
  ⟨.inl ⟨rfl,rfl⟩,hb.mono hs.below.size,fun c hc _=>hb.block c hc,fun c hc => .inr (by rw[hbv]at hc;cases hc;exact Nat.le_refl _)⟩
 have hG:=SimG.obj hs hst (fun _=>⟨w.heap.size,o,by rw[upd_same];exact hbv,hs.below.size,heap_alloc_new w _,by rw[upd_same];exact hp⟩) trivial
 refine wp_val rfl hrun (hK _ _ ?_)
 refine Sim.eqv (Sim.put hG hd (Below.refl _ _) (av := .h nx) ⟨.of get_cons_same,fun p' _ _=>(upd_same _ _ _).symm⟩ (Nat.lt_succ_self nx)) fun q=>?_
 cases q with
 |s i =>
  by_cases hi:i=d
  ·
   subst hi;rw[get_cons_same];exact get_cons_same.symm
  ·
   rw[get_cons_ne (by simpa using fun e=>hi e.symm),objSt_s]
   exact((get_cons_ne (by simpa using fun e=>hi e.symm)).trans ((get_cons_ne (by simp)).trans (get_cons_ne (by simp)))).symm
 |o i =>
  rw[get_cons_ne (by simp)]
  by_cases hi:i=nx
  ·
   subst hi;rw[get_cons_same];exact((get_cons_ne (by simp)).trans get_cons_same).symm
  ·
   rw[objSt_o hi]
   exact((get_cons_ne (by simp)).trans ((get_cons_ne (by simpa using fun e=>hi e.symm)).trans (get_cons_ne (by simp)))).symm
 |nx =>
  rw[get_cons_ne (by simp),objSt_nx]
  exact((get_cons_ne (by simp)).trans ((get_cons_ne (by simp)).trans get_cons_same)).symm
theorem gen_set (hs:SimG cx σ a w g nx) {id b:Nat}{p p':Value→Obj→Prop}{o':Obj}(ho:get σ (.o id) = .ob (.gen p)) (hb:blk (g id)=some b) (hlt:b < w.heap.size) (hp:p' (g id) o') :
  SimG cx (objSt σ nx id (.gen p')) a { w with heap:=w.heap.setIfInBounds b o' } (upd g id (g id)) nx:=by
 have hoth:∀ c,c≠b→({ w with heap:=w.heap.setIfInBounds b o' }:World).heap[c]? = w.heap[c]? := fun c hc=>by
  show(w.heap.setIfInBounds b _)[c]? = _
  rw[Array.getElem?_setIfInBounds,if_neg (fun e=>hc e.symm)]
 obtain⟨hid,⟨b1,o1,h1,h2,h3,h4⟩,_⟩:=hs.objs id _ ho
 obtain rfl:b1=b:=Option.some.inj (h1.symm.trans hb)
 have hst:ObjStep cx σ g nx nx w { w with heap:=w.heap.setIfInBounds b1 o' } id (.gen p') (g id) :=
  ⟨.inr ⟨rfl,_,ho,by simp[ObLe,upd_same]⟩,⟨rfl,rfl,rfl,by simp,fun c hc=>hoth c (by omega)⟩,fun c hc hn=>hoth c fun e=>hn _ ho (by rw[hb,e]),fun c hc => .inl ⟨_,ho,hc⟩⟩
 exact SimG.obj hs hst (fun _=>⟨b1,o',by rw[upd_same];exact hb,h2,by show(w.heap.setIfInBounds b1 _)[b1]? = _;rw[Array.getElem?_setIfInBounds,if_pos rfl,if_pos hlt],by rw[upd_same];exact hp⟩) trivial
theorem gen_at (hs:SimG cx σ a w g nx) {id:Nat}{p:Value→Obj→Prop}{x:Value}(ho:get σ (.o id) = .ob (.gen p)) (hr:Rep cx g σ w x (.h id)) :
  ∃ b o,blk x=some b∧blk (g id)=some b∧b < w.heap.size∧w.heap[b]? = some o∧p x o∧x=g id:=by
 obtain⟨_,⟨b,o,h1,h2,h3,h4⟩,_⟩:=hs.objs id _ ho
 have hx:x=g id:=hr.2 _ ho rfl
 refine⟨b,o,by rw[hx];exact h1,h1,?_,h3,by rw[hx];exact h4,hx⟩
 rcases Nat.lt_or_ge b w.heap.size with h|h
 ·
  exact h
 ·
  rw[Array.getElem?_eq_none h]at h3;cases h3
def ItP (s:List UInt8) (k:Nat):Value→Obj→Prop:=fun v o=>(∃ b,v = .pointer (some ⟨b,0,none⟩))∧o = .stringIter ⟨s.toArray⟩ k
theorem a_range {t:TypeId}{x:Operand}{s:List UInt8}{n0:Nat}(hn:get σ .nx = .num n0) (hx:ev σ x=some (.d (.v (str s)))) (ht:cx.P.underlying t=some .string) (hd:Nat.blt d cx.n=true) :
  OA cx σ ⟨some d,.range t x,ty,pos,af,gd⟩ ⟨(.nx,.num n0)::rdOf x (.d (.v (str s))),[(.s d,.av (.h n0)),(.o n0,.ob (.gen (ItP s 0))),(.nx,.num (n0+1))]⟩:=by
 refine⟨ok_gennew (ItP s 0) (lt_of_blt hd) fun σ a w g nx hs hl=>⟨.pointer (some ⟨w.heap.size,0,none⟩),.stringIter ⟨s.toArray⟩ 0,?_,rfl,⟨_,rfl⟩,rfl⟩,hn,(ev_out hx).2⟩
 have hv:=rep_v (hs.ev (ev_out hx).1 hl).1
 simp[execOp,hv,Instr.range,run_underlying ht,newObj,Result.andThen]
 rfl
theorem decode_ascii {s:List UInt8}{k:Nat}{c:UInt8}(h:s[k]? = some c) (hc:c.toNat < 128):Utf8.decode ⟨s.toArray⟩ k=(c.toNat,1):=by
 have hg:(⟨s.toArray⟩:ByteArray).get! (k+0)=c:=by
  show s.toArray[k+0]! = c
  rw[Nat.add_zero,Array.getElem!_eq_getD,Array.getD_eq_getD_getElem?]
  simp[h]
 unfold Utf8.decode
 simp only[hg]
 rw[if_pos hc]
theorem a_next {x:Operand}{s:List UInt8}{k:Nat}{c:UInt8}(id:Nat) (hx:ev σ x=some (.h id)) (ho:get σ (.o id) = .ob (.gen (ItP s k))) (hk:s[k]? = some c) (hc:c.toNat < 128) (hd:Nat.blt d cx.n=true) :
  OA cx σ ⟨some d,.next x true,ty,pos,af,gd⟩ ⟨rdOf x (.h id)++[(.o id,.ob (.gen (ItP s k)))],
   [(.s d,.av (.tup [.d (.v (.bool true)),.d (.v (.int .i64 k)),.d (.v (.int .i32 c.toNat))])),(.o id,.ob (.gen (ItP s (k+1))))]⟩:=by
 refine⟨?_,(ev_out hx).2.append ⟨ho,trivial⟩⟩
 rintro σ a w K Q ⟨g,nx,hs⟩ hr hK
 have ho:=hr.right.1
 obtain⟨b,o,h1,h2,h3,h4,⟨⟨b',h7⟩,h5⟩,h6⟩:=gen_at hs ho (hs.ev (ev_out hx).1 hr.left).1
 subst h5
 obtain rfl:b'=b:=by rw[h7]at h1;simpa[blk] using h1
 have hkl:=(List.getElem?_eq_some_iff.1 hk).1
 have hdec:=decode_ascii hk hc
 have hG:=gen_set hs (p':=ItP s (k+1)) (o' := .stringIter ⟨s.toArray⟩ (k+1)) ho h2 h3 ⟨⟨b',by rw[← h6];exact h7⟩,rfl⟩
 have hrun:(execOp a.eval ⟨some d,.next x true,ty,pos,af,gd⟩).run cx.P w = .ok (.value (.tuple #[.bool true,.int .i64 k,.int .i32 c.toNat])) { w with heap:=w.heap.setIfInBounds b' (.stringIter ⟨s.toArray⟩ (k+1)) }:=by
  have hsz:k < (⟨s.toArray⟩:ByteArray).size:=by show k < s.toArray.size;simpa using hkl
  have hget:(getObj b').run cx.P w = .ok (.stringIter ⟨s.toArray⟩ k) w:=by simp[getObj,Sem.run,h4]
  have hset:∀ o,(setObj b' o).run cx.P w = .ok () { w with heap:=w.heap.setIfInBounds b' o }:=fun o=>by simp[setObj,Sem.run,h4]
  simp[execOp,h7,Instr.next,hget,hset,hsz,hdec,goInt,Result.andThen]
 refine wp_val rfl hrun (hK _ _ (Sim.eqv (Sim.put hG (lt_of_blt hd) (Below.refl _ _) (av := .tup [.d (.v (.bool true)),.d (.v (.int .i64 k)),.d (.v (.int .i32 c.toNat))]) ⟨_,rfl,rfl,fun j x av hj hc=>?_⟩ (by intro av hav;simp at hav;rcases hav with rfl|rfl|rfl <;> trivial)) fun q=>?_))
 ·
  match j,hj,hc with
  |0,hj,hc=>simp at hj hc;subst hj hc;exact Rd.v _
  |1,hj,hc=>simp at hj hc;subst hj hc;exact Rd.v _
  |2,hj,hc=>simp at hj hc;subst hj hc;exact Rd.v _
  |j+3,hj,hc=>simp at hj
 cases q with
 |s i =>
  by_cases hi:i=d
  ·
   subst hi;rw[get_cons_same];exact get_cons_same.symm
  ·
   rw[get_cons_ne (by simpa using fun e=>hi e.symm),objSt_s]
   exact((get_cons_ne (by simpa using fun e=>hi e.symm)).trans (get_cons_ne (by simp))).symm
 |o i =>
  rw[get_cons_ne (by simp)]
  by_cases hi:i=id
  ·
   subst hi;rw[get_cons_same];exact((get_cons_ne (by simp)).trans get_cons_same).symm
  ·
   rw[objSt_o hi]
   exact((get_cons_ne (by simp)).trans (get_cons_ne (by simpa using fun e=>hi e.symm))).symm
 |nx =>
  rw[get_cons_ne (by simp),objSt_nx]
  exact(((get_cons_ne (by simp)).trans (get_cons_ne (by simp))).trans hs.hnx).symm
theorem a_nextE {x:Operand}{s:List UInt8}{k:Nat}(id:Nat) (hx:ev σ x=some (.h id)) (ho:get σ (.o id) = .ob (.gen (ItP s k))) (hk:s.length≤k) (hd:Nat.blt d cx.n=true) :
  OA cx σ ⟨some d,.next x true,ty,pos,af,gd⟩ ⟨rdOf x (.h id)++[(.o id,.ob (.gen (ItP s k)))],[(.s d,.av (.tup [.d (.v (.bool false))]))]⟩:=by
 refine⟨?_,(ev_out hx).2.append ⟨ho,trivial⟩⟩
 rintro σ a w K Q ⟨g,nx,hs⟩ hr hK
 have ho:=hr.right.1
 obtain⟨b,o,h1,h2,h3,h4,⟨⟨b',h7⟩,h5⟩,h6⟩:=gen_at hs ho (hs.ev (ev_out hx).1 hr.left).1
 subst h5
 obtain rfl:b'=b:=by rw[h7]at h1;simpa[blk] using h1
 have hrun:(execOp a.eval ⟨some d,.next x true,ty,pos,af,gd⟩).run cx.P w = .ok (.value (.tuple #[.bool false])) w:=by
  have hsz:¬ k < (⟨s.toArray⟩:ByteArray).size:=by show ¬ k < s.toArray.size;simp;omega
  have hget:(getObj b').run cx.P w = .ok (.stringIter ⟨s.toArray⟩ k) w:=by simp[getObj,Sem.run,h4]
  simp[execOp,h7,Instr.next,hget,hsz,Result.andThen]
 refine wp_val rfl hrun (hK _ _ (Sim.put hs (lt_of_blt hd) (Below.refl _ _) (av := .tup [.d (.v (.bool false))]) ⟨_,rfl,rfl,fun j x av hj hc=>?_⟩ (by intro av hav;simp at hav;subst hav;trivial)))
 match j,hj,hc with
 |0,hj,hc=>simp at hj hc;subst hj hc;exact Rd.v _
 |j+1,hj,hc=>simp at hj
end Go.AX
namespace Go.AX
open Go.RowKit Go.Lib
variable {cx:Cx}{g:Nat→Value}{σ σ':St}{a:Act}{w w':World}{nx:Nat}
variable {ty:TypeId}{pos:String}{af:Array Edge}{gd:Option (Nat×Bool)}{d:Nat}
theorem a_ft {t:TypeId}{x lo hi:Operand}{kd ke:IntKind}{m q:Int}{k:Nat}{rows out:List (List D)}{ti:TI}(hx:ev σ x=some (.d (.sl k rows))) (hlo:ev σ lo=some (.d (.v (.int kd m)))) (hhi:ev σ hi=some (.d (.v (.int ke q)))) (ht:tget cx.T t=some ti) (hk:slK ti=some k)
  (hd:Nat.blt d cx.n=true) (hc:cutI rows (some m) (some q)=some out):OA cx σ ⟨some d,.slice t x (some lo) (some hi) none,ty,pos,af,gd⟩ ⟨rdOf x (.d (.sl k rows))++(rdOf lo (.d (.v (.int kd m)))++rdOf hi (.d (.v (.int ke q)))),[(.s d,.av (.d (.sl k out)))]⟩ :=
 ⟨ok_slice (lt_of_blt hd) (ev_out hx).1 (.at_ (ev_out hlo).1) (.at_ (ev_out hhi).1) ht hk hc,(ev_out hx).2.append ((ev_out hlo).2.append (ev_out hhi).2)⟩
theorem cut_ft {rows:List (List D)}{m n:Nat}(h:m≤n) (hn:n≤rows.length):cutI rows (some (m:Int)) (some (n:Int))=some ((rows.take n).drop m):=by
 unfold cutI
 dsimp only[Option.getD]
 rw[if_pos (by omega)]
 simp
theorem bin_remI {P:Program}{t:TypeId}{a b r:Int}(hb:b≠0) (h:a.tmod b=r):BinR P .rem t (.int .i64 a) (.int .i64 b) (.int .i64 r):=by
 subst h;exact bin_rem hb
theorem tmod_sum {s c:Nat}:((s:Int)*257+(c:Int)+1).tmod 65521=(((s*257+c+1)%65521:Nat):Int):=by
 rw[Int.tmod_eq_emod_of_nonneg (by omega)];omega
theorem bin_shrJ {P:Program}{t:TypeId}{k:IntKind}{a c r:Int}(hc:c=8) (h:a / 256=r):BinR P .shr t (.int .i64 a) (.int k c) (.int .i64 r):=by
 subst hc h;exact bin_shr8
theorem bin_shlJ {P:Program}{t:TypeId}{k:IntKind}{n:Nat}{c:Int}(hc:c=8) (h:n < 256):BinR P .shl t (.int .i64 n) (.int k c) (.int .i64 ((n:Int)*256)):=by
 subst hc;exact bin_shl8 h
theorem div_256 {s:Nat}:(s:Int) / 256=((s / 256:Nat):Int):=by omega
theorem wrap_u8_n {s:Nat}:IntKind.u8.wrap (s:Int)=((s%256:Nat):Int):=by
 rw[IntKind.wrap_u8];omega
theorem a_convW {s t:TypeId}{x:Operand}{ks kt:IntKind}{n m:Int}{si ti:TI}(hx:ev σ x=some (.d (.v (.int ks n)))) (hs':tget cx.T s=some si) (hks:inK si=some ks) (ht:tget cx.T t=some ti) (hkt:inK ti=some kt) (hd:Nat.blt d cx.n=true) (hw:kt.wrap n=m) :
  OA cx σ ⟨some d,.convert s t x,ty,pos,af,gd⟩ ⟨rdOf x (.d (.v (.int ks n))),[(.s d,.av (.d (.v (.int kt m))))]⟩:=by
 refine⟨ok_val rfl (lt_of_blt hd) fun σ a w g nx hs hr=>⟨.int kt m,w,?_,Below.refl _ _,Rd.v _,trivial⟩,(ev_out hx).2⟩
 have hv:=rep_v (hs.ev (ev_out hx).1 hr).1
 have h1:=int_of (cx:=cx) hs' hks
 have h2:=int_of (cx:=cx) ht hkt
 have h3:cx.P.intKind t=kt:=by simp[Program.intKind,h2]
 have:=run_convert_int (P:=cx.P) w s t ks n (by simp[h1]) (by rw[h3];exact h2)
 rw[h3,hw]at this
 simp[execOp,hv,this]
theorem byte_row {s:Nat}(h:s < 256):[D.v (.int .u8 (s:Int))]=byteD (UInt8.ofNat s):=by
 unfold byteD
 rw[UInt8.toNat_ofNat',Nat.mod_eq_of_lt h]
end Go.AX
namespace Go.RF
open Go.AX
def sumN:Nat→Str→Nat
 |s,[]=>s
 |s,c::r=>sumN ((s*257+c.toNat+1)%65521) r
def linesD (l:List Deed):Str:=l.flatMap fun d=>printD d++[10]
def headE (e:Entry):Str:=UInt8.ofNat e.number.toNat::linesD e.deeds
def sum2 (s:Nat):Str:=[UInt8.ofNat (s / 256),UInt8.ofNat (s%256)]
def bytesE (e:Entry):Str:=headE e++sum2 (sumN 1 (headE e))
def parseL:List Str→Except Int (List Deed)
 | [] => .ok []
 |s::r=>match parseE s with
  |.error e => .error e
  |.ok d=>match parseL r with
   |.error e => .error e
   |.ok l => .ok (d::l)
def bodyB (b:Str):Str:=(b.take (b.length - 2)).drop 1
def byteN (b:Str) (k:Nat):Nat:=(b.getD k 0).toNat
def parseB (b:Str):Except Int Entry :=
 if b.length < 3 then .error 8
 else if sumN 1 (b.take (b.length - 2))=byteN b (b.length - 2)*256+byteN b (b.length - 1) then
  (if (split (bodyB b) [10]).getLast? = some [] then match parseL (split (bodyB b) [10]).dropLast with
   |.error e => .error e
   |.ok ds=>if wrongEntry ⟨byteN b 0,ds⟩=0 then .ok ⟨byteN b 0,ds⟩ else .error (wrongEntry ⟨byteN b 0,ds⟩)
  else .error 2)
 else .error 2
def noEntry:Entry:=⟨0,[]⟩
def resB:Except Int Entry→Entry×Int
 |.ok e=>(e,0)
 |.error w=>(noEntry,w)
abbrev encBytes (b:Str):D := .sl 1 (b.map byteD)
end Go.RF
namespace Go.AX
open Go.RowKit Go.RF
variable {cx:Cx}{g:Nat→Value}{σ:St}{a:Act}{w w':World}{nx:Nat}
variable {ty:TypeId}{pos:String}{af:Array Edge}{gd:Option (Nat×Bool)}{d:Nat}
theorem a_noerr {t t':TypeId}{x:Operand}{ms:Array (String×TypeId)}(hx:ev σ x=some (.d (.v .nilIface))) (ht:cx.P.underlying t=some (.interface ms)) (hd:Nat.blt d cx.n=true) :
  OA cx σ ⟨some d,.binOp .eql t x (.const .nilIface) t',ty,pos,af,gd⟩ ⟨rdOf x (.d (.v .nilIface)),[(.s d,.av (.d (.v (.bool true))))]⟩:=by
 refine⟨ok_val rfl (lt_of_blt hd) fun σ1 a w g nx hs hr=>?_,(ev_out hx).2⟩
 have hv:=rep_v (hs.ev (ev_out hx).1 hr).1
 refine⟨.bool true,w,?_,Below.refl _ _,Rd.v _,trivial⟩
 have h:∀ d:Nat,(Op.equalIn (d+1) t .nilIface .nilIface).run cx.P w = .ok true w:=fun d=>by
  simp[Op.equalIn,run_underlying ht]
 have hg:eqGuard .eql t x (.const .nilIface) .nilIface .nilIface=pure ():=by cases x <;> rfl
 have hc:a.eval (.const .nilIface) = .nilIface:=rfl
 simp[execOp,hv,hc,hg,binOp,Op.equal,Op.maxDepth,h 9999]
end Go.AX
namespace Go.Proofs.YtccblhpfjlgmbabGreatDoor
open Go.AX Go.RF
set_option maxRecDepth 100000
set_option maxHeartbeats 4000000
theorem splitF_len (sep:Str):∀ (n:Nat) (cur r:Str),(splitF sep n cur r).length≤n+1
 |0,cur,r=>by simp[splitF]
 |n+1,cur,r=>by
  simp only[splitF]
  split
  ·
   simp
  split
  ·
   have:=splitF_len sep n [] (r.drop sep.length);simp;omega
  cases r with
  |nil=>simp
  |cons c t=>have:=splitF_len sep n (cur++[c]) t;simp;omega
theorem splitF_succ (sep:Str) (n:Nat) (cur r:Str):splitF sep (n+1) cur r=if r.length < sep.length then [cur++r]
  else if r.take sep.length=sep then cur::splitF sep n [] (r.drop sep.length)
  else match r with
   | []=>[cur]
   |c::t=>splitF sep n (cur++[c]) t:=by cases r <;> rfl
theorem sumN_lt:∀ {l:Str}{s:Nat},s < 65521→sumN s l < 65521
 | [],s,h=>h
 |c::r,s,h=>by simp only[sumN];exact sumN_lt (Nat.mod_lt _ (by omega))
theorem toNat_ofNat {n:Nat}(h:n < 256):(UInt8.ofNat n).toNat=n:=by
 rw[UInt8.toNat_ofNat'];omega
def hiS (w:Str):Prop:=∀ c∈w,32≤c.toNat
theorem hiS_app {a b:Str}(ha:hiS a) (hb:hiS b):hiS (a++b):=fun c hc=>by
 rcases List.mem_append.1 hc with h|h
 ·
  exact ha c h
 ·
  exact hb c h
theorem key_hi {k:Str}(h:key k=true):hiS k:=by
 have:∀ r:Str,keyGo k r=true→hiS r:=by
  intro r
  induction r with
  |nil=>intro _ c hc;cases hc
  |cons x r ih =>
   intro h
   simp only[keyGo]at h
   split at h
   ·
    cases h
   ·
    next hx =>
    intro c hc
    rcases List.mem_cons.1 hc with rfl|hc
    ·
     simp only[bad,Bool.or_eq_true,decide_eq_true_eq,not_or]at hx
     omega
    ·
     exact ih h c hc
 exact this k h
theorem words_hi:∀ k:Nat,hiS (words.getD k []):=by
 intro k
 rcases Nat.lt_or_ge k 10 with h|h
 ·
  have:∀ k:Fin 10,∀ c∈words.getD k.val [],32≤c.toNat:=by decide
  exact this ⟨k,h⟩
 ·
  rw[List.getD_eq_getElem?_getD,List.getElem?_eq_none (show words.length≤k from h)]
  intro c hc;cases hc
theorem itoa_hi (n:Int):hiS (Lib.itoa n):=fun c hc=>by
 have key:∀ u:Nat,c∈Lib.decDigits u→32≤c.toNat:=fun u h=>by have:=dec_clean u c h;omega
 unfold Lib.itoa at hc
 split at hc
 ·
  rcases List.mem_cons.1 hc with rfl|hc
  ·
   decide
  ·
   exact key _ hc
 ·
  exact key _ hc
theorem reg_hi (n:Int):hiS (114::Lib.itoa n):=fun c hc=>by
 rcases List.mem_cons.1 hc with rfl|hc
 ·
  decide
 ·
  exact itoa_hi n c hc
theorem field_hi {i:Ins}{c:UInt8}(hk:hiS i.key):hiS (fieldW i c):=by
 unfold fieldW
 split
 ·
  exact reg_hi _
 split
 ·
  exact reg_hi _
 split
 ·
  exact itoa_hi _
 ·
  exact hk
theorem join_hi {sep:Str}(hs:hiS sep):∀ {ws:List Str},(∀ w∈ws,hiS w)→hiS (joinS sep ws)
 | [],_=>fun c hc=>by cases hc
 | [w],h=>h w (List.mem_cons_self ..)
 |w::x::r,h=>by
  simp only[joinS]
  exact hiS_app (h w (List.mem_cons_self ..)) (hiS_app hs (join_hi hs fun y hy=>h y (List.mem_cons_of_mem _ hy)))
theorem insW_hi {d:Deed}(h:wrongDeed d=0) {i:Ins}(hi:i∈d.code):∀ w∈insW i,hiS w:=by
 obtain⟨m,_,hm⟩:=ins_wrong h hi
 obtain⟨h1,h2⟩:=wrong_key h
 have hk:hiS i.key:=by
  rcases wrongIns_key hm with h3|h3|h3
  ·
   rw[h3];intro c hc;cases hc
  ·
   exact key_hi (h1 _ h3)
  ·
   exact key_hi (h2 _ h3)
 intro w hw
 unfold insW at hw
 rcases List.mem_cons.1 hw with rfl|hw
 ·
  exact words_hi _
 ·
  obtain⟨c,_,rfl⟩:=List.mem_map.1 hw
  exact field_hi hk
theorem printD_hi {d:Deed}(h:wrongDeed d=0):hiS (printD d):=by
 obtain⟨h1,h2⟩:=wrong_key h
 have c0:hiS wReads:=by intro c hc;revert c;decide
 have c1:hiS wWrites:=by intro c hc;revert c;decide
 have s1:hiS [32]:=by intro c hc;revert c;decide
 have s2:hiS [59,32]:=by intro c hc;revert c;decide
 refine join_hi s2 fun w hm=>?_
 unfold partsD at hm
 rcases List.mem_cons.1 hm with rfl|hm
 ·
  refine join_hi s1 fun w hw=>?_
  rcases List.mem_cons.1 hw with rfl|hw
  ·
   exact c0
  ·
   exact key_hi (h1 w hw)
 rcases List.mem_cons.1 hm with rfl|hm
 ·
  refine join_hi s1 fun w hw=>?_
  rcases List.mem_cons.1 hw with rfl|hw
  ·
   exact c1
  ·
   exact key_hi (h2 w hw)
 obtain⟨i,hi,rfl⟩:=List.mem_map.1 hm
 exact join_hi s1 (insW_hi h hi)
theorem printD_no10 {d:Deed}(h:wrongDeed d=0):(10:UInt8)∉printD d:=fun hm=>absurd (printD_hi h 10 hm) (by decide)
theorem split_lines:∀ {l:List Str},(∀ s∈l,(10:UInt8)∉s)→split (l.flatMap fun s=>s++[10]) [10]=l++[[]]:=by
 intro l h
 have key:(l.flatMap fun s=>s++[10])=joinS [10] (l++[[]]):=by
  induction l with
  |nil=>rfl
  |cons s l ih =>
   rw[List.flatMap_cons,ih fun x hx=>h x (List.mem_cons_of_mem _ hx),List.cons_append,joinS_cons]
   cases l with
   |nil=>simp[joinS,tailS]
   |cons x l=>rw[List.cons_append,joinS_cons];simp[tailS]
 rw[key]
 exact join_split_id (by simp) fun w hw=>by
  rcases List.mem_append.1 hw with hw|hw
  ·
   exact h w hw
  ·
   rw[List.mem_singleton.1 hw];simp
theorem linesD_eq (l:List Deed):linesD l=(l.map printD).flatMap fun s=>s++[10]:=by
 unfold linesD
 rw[List.flatMap_map]
theorem parseL_of:∀ {l:List Deed},(∀ d∈l,wrongDeed d=0)→parseL (l.map printD) = .ok l
 | [],_=>rfl
 |d::l,h=>by
  simp only[List.map_cons,parseL]
  rw[parse_print (h d (List.mem_cons_self ..)),parseL_of fun x hx=>h x (List.mem_cons_of_mem _ hx)]
def accL (acc:List Deed):Except Int (List Deed)→Except Int (List Deed)
 |.error e => .error e
 |.ok l => .ok (acc++l)
theorem parseB_app (h0:UInt8) (L:Str) (u v:UInt8):parseB (h0::(L++[u,v])) =
  if sumN 1 (h0::L)=u.toNat*256+v.toNat then
   (if (split L [10]).getLast? = some [] then match parseL (split L [10]).dropLast with
    |.error e => .error e
    |.ok ds=>if wrongEntry ⟨h0.toNat,ds⟩=0 then .ok ⟨h0.toNat,ds⟩ else .error (wrongEntry ⟨h0.toNat,ds⟩)
   else .error 2)
  else .error 2:=by
 have hl:(h0::(L++[u,v])).length=L.length+3:=by simp
 have h1:(h0::(L++[u,v])).take (L.length+1)=h0::L:=by simp
 have h2:byteN (h0::(L++[u,v])) (L.length+1)=u.toNat:=by simp[byteN]
 have h3:byteN (h0::(L++[u,v])) (L.length+2)=v.toNat:=by simp[byteN,List.getElem?_append_right]
 have h4:byteN (h0::(L++[u,v])) 0=h0.toNat:=by simp[byteN]
 have h5:bodyB (h0::(L++[u,v]))=L:=by
  unfold bodyB
  rw[hl,show L.length+3 - 2=L.length+1 by omega,h1]
  rfl
 unfold parseB
 rw[hl,if_neg (by omega),show L.length+3 - 2=L.length+1 by omega,show L.length+3 - 1=L.length+2 by omega,h1,h2,h3,h4,h5]
 all_goals rfl
theorem bytes_form {b:Str}(h:3≤b.length):∃ h0 L u v,b=h0::(L++[u,v]):=by
 match b,h with
 |c::r,h =>
  have hl:r.length=(r.length - 2)+2:=by simp at h;omega
  have h1:r=r.take (r.length - 2)++r.drop (r.length - 2):=(List.take_append_drop _ _).symm
  have h2:(r.drop (r.length - 2)).length=2:=by rw[List.length_drop];omega
  match hd:r.drop (r.length - 2),h2 with
  | [u,v],_=>exact⟨c,r.take (r.length - 2),u,v,by rw[hd]at h1;rw[← h1]⟩
theorem sum2_eq {s:Nat}(h:s < 65521):(UInt8.ofNat (s / 256)).toNat*256+(UInt8.ofNat (s%256)).toNat=s:=by
 rw[toNat_ofNat (by omega),toNat_ofNat (by omega)];omega
theorem bytesE_eq (e:Entry):bytesE e=UInt8.ofNat e.number.toNat::(linesD e.deeds++[UInt8.ofNat (sumN 1 (headE e) / 256),UInt8.ofNat (sumN 1 (headE e)%256)]):=rfl
theorem parse_bytes {e:Entry}(h:wrongEntry e=0):parseB (bytesE e) = .ok e:=by
 obtain⟨h1,h2,h3,h4⟩:=wrongEntry_out h
 have hs:=sumN_lt (l:=headE e) (s:=1) (by omega)
 have hsp:split (linesD e.deeds) [10]=e.deeds.map printD++[[]]:=by
  rw[linesD_eq]
  exact split_lines fun s hs=>by
   obtain⟨d,hd,rfl⟩:=List.mem_map.1 hs
   exact printD_no10 (h4 d hd)
 have hhd:UInt8.ofNat e.number.toNat::linesD e.deeds=headE e:=rfl
 rw[bytesE_eq,parseB_app,hhd,if_pos (sum2_eq hs).symm,hsp,if_pos (by simp),List.dropLast_concat,parseL_of h4]
 have hn:((UInt8.ofNat e.number.toNat).toNat:Int)=e.number:=by rw[toNat_ofNat (by omega)];omega
 dsimp only
 rw[hn,if_pos h]
structure Replica.Sm (r:Replica):Prop where
 e:r.engine.Sm
 l:r.early.length≤134217728
 d:∀ e∈r.early,e.deeds.length≤134217728∧∀ d∈e.deeds,d.Sm
end Go.Proofs.YtccblhpfjlgmbabGreatDoor
namespace Go.Proofs
open Go.Shelf Go.RowKit
set_option maxRecDepth 100000
noncomputable def Tryz.lays160_ren : Go.Shelf.Ren := ⟨fun | 119 => 190 | 120 => 184 | 137 => 189 | 151 => 168 | 152 => 183 | 160 => 108 | 197 => 102 | 217 => 129 | 224 => 131 | 225 => 130 | 227 => 140 | 228 => 167 | 231 => 138 | 232 => 139 | 233 => 141 | 234 => 142 | 235 => 143 | 236 => 144 | 260 => 128 | 266 => 162 | 271 => 169 | n => n, fun | 0 => 0 | 3 => 3 | 4 => 4 | 5 => 5 | 9 => 9 | 21 => 21 | 46 => 154 | 105 => 176 | 116 => 211 | 117 => 212 | 119 => 231 | 124 => 215 | 138 => 233 | 139 => 234 | n => n, fun | 3 => (Tryz.prog.globals.findIdx? (·.name == "unicode/utf8.first")).getD 0 | 4 => (Tryz.prog.globals.findIdx? (·.name == "unicode/utf8.acceptRanges")).getD 0 | n => n⟩
theorem Tryz.lays160:Go.Proofs.Lays.n160 Tryz.prog Tryz.lays160_ren:={
 mixed:=by kernel_rfl
 f119:=Tryz.func190.trans (congrArg some (by kernel_rfl))
 f120:=Tryz.func184.trans (congrArg some (by kernel_rfl))
 f137:=Tryz.func189.trans (congrArg some (by kernel_rfl))
 f151:=Tryz.func168.trans (congrArg some (by kernel_rfl))
 f152:=Tryz.func183.trans (congrArg some (by kernel_rfl))
 f160:=Tryz.func108.trans (congrArg some (by kernel_rfl))
 f197:=Tryz.func102.trans (congrArg some (by kernel_rfl))
 f217:=Tryz.func129.trans (congrArg some (by kernel_rfl))
 f224:=Tryz.func131.trans (congrArg some (by kernel_rfl))
 f225:=Tryz.func130.trans (congrArg some (by kernel_rfl))
 f227:=Tryz.func140.trans (congrArg some (by kernel_rfl))
 f228:=Tryz.func167.trans (congrArg some (by kernel_rfl))
 f231:=Tryz.func138.trans (congrArg some (by kernel_rfl))
 f232:=Tryz.func139.trans (congrArg some (by kernel_rfl))
 f233:=Tryz.func141.trans (congrArg some (by kernel_rfl))
 f234:=Tryz.func142.trans (congrArg some (by kernel_rfl))
 f235:=Tryz.func143.trans (congrArg some (by kernel_rfl))
 f236:=Tryz.func144.trans (congrArg some (by kernel_rfl))
 f260:=Tryz.func128.trans (congrArg some (by kernel_rfl))
 f266:=Tryz.func162.trans (congrArg some (by kernel_rfl))
 f271:=Tryz.func169.trans (congrArg some (by kernel_rfl))
 t0:=Tryz.underlying0
 a0:=Tryz.isAgg0
 z0:=Tryz.sizeOf0
 v0:=Tryz.zeroValue0
 t3:=Tryz.underlying3
 a3:=Tryz.isAgg3
 z3:=Tryz.sizeOf3
 v3:=Tryz.zeroValue3
 t4:=Tryz.underlying4
 a4:=Tryz.isAgg4
 z4:=Tryz.sizeOf4
 v4:=Tryz.zeroValue4
 t5:=Tryz.underlying5
 a5:=Tryz.isAgg5
 z5:=Tryz.sizeOf5
 v5:=Tryz.zeroValue5
 t9:=Tryz.underlying9
 a9:=Tryz.isAgg9
 z9:=Tryz.sizeOf9
 v9:=Tryz.zeroValue9
 t21:=Tryz.underlying21
 a21:=Tryz.isAgg21
 z21:=Tryz.sizeOf21
 v21:=Tryz.zeroValue21
 t46:=Tryz.underlying154
 a46:=Tryz.isAgg154
 z46:=Tryz.sizeOf154
 v46:=Tryz.zeroValue154
 t105:=Tryz.underlying176
 a105:=Tryz.isAgg176
 z105:=Tryz.sizeOf176
 v105:=Tryz.zeroValue176
 t116:=Tryz.underlying211
 a116:=Tryz.isAgg211
 z116:=Tryz.sizeOf211
 t117:=Tryz.underlying212
 a117:=Tryz.isAgg212
 z117:=Tryz.sizeOf212
 v117:=Tryz.zeroValue212
 t119:=Tryz.underlying231
 a119:=Tryz.isAgg231
 z119:=Tryz.sizeOf231
 t124:=Tryz.underlying215
 a124:=Tryz.isAgg215
 z124:=Tryz.sizeOf215
 v124:=Tryz.zeroValue215
 t138:=Tryz.underlying233
 a138:=Tryz.isAgg233
 z138:=Tryz.sizeOf233
 v138:=Tryz.zeroValue233
 t139:=Tryz.underlying234
 a139:=Tryz.isAgg234
 z139:=Tryz.sizeOf234
 v139:=Tryz.zeroValue234
 g3:=by kernel_rfl
 g4:=by kernel_rfl
 }
end Go.Proofs
namespace Go.Proofs.YtccblhpfjlgmbabGreatDoor
open Go.AX Go.RF Go.RowKit
set_option maxRecDepth 100000
set_option maxHeartbeats 8000000
theorem ok_trim (s:Str) (hs:s.length≤1073741824):FnOk Tryz.prog 108 [.d (dstr s),.d (dstr alpha)] (.one (dstr (Lib.trimS s alpha))):=by
 refine⟨⟨_,Tryz.func108,by kernel_rfl,by kernel_rfl⟩,fun w own vs hown ha=>?_⟩
 match vs,ha with
 | [x,y],⟨h1,h2,_⟩ =>
  obtain rfl:x=str s:=rd_v h1
  obtain rfl:y=str alpha:=rd_v h2
  refine(Any.strings_Trim_laid Tryz.lays160 (by kernel_rfl) ⟨s.toArray⟩ ⟨alpha.toArray⟩ w (by show s.toArray.size≤_;simp;omega) (by decide) (ascii_of_all (by decide))).mono fun e w' he=>?_
  obtain⟨rfl,hb⟩:=he
  exact⟨_,rfl,hb,Rd.v _⟩
theorem ok_pkey (s:Str) (hs:s.length≤1073741824):FnOk Tryz.prog 74 [.d (dstr s)] (.one (dbool (key s))):=by
 refine fnOk_of tbl_ok mixed_ok Tryz.func74 rfl (by kernel_rfl) rfl rfl fun w0 own0=>?_
 have ht:=ok_trim s hs
 rw[key_trim]
 by_cases h1:1≤s.length
 ·
  by_cases h2:s.length≤6
  ·
   try refine wk ?_
   exact .one (.tmp rfl (.one (.d (dle_bool (by simp[h1,h2])))))
  ·
   try refine wk ?_
   exact .one (.tmp rfl (.one (.d (dle_bool (by simp[h2])))))
 ·
  try refine wk ?_
  exact .one (.tmp rfl (.one (.d (dle_bool (by simp[h1])))))
end Go.Proofs.YtccblhpfjlgmbabGreatDoor
namespace Go.Proofs.YtccblhpfjlgmbabGreatDoor
open Go.AX Go.RF
set_option maxRecDepth 100000
set_option maxHeartbeats 8000000
def regsN (k:Int):Int:=if k=3∨k=4∨k=5 then 2 else if k=7 then 0 else 1
def keyedB (k:Int):Bool:=decide (k=1∨k=6∨k=7)
def loI (k:Int):Int:=if k=2 then -1073741824 else if k=8 then 1 else 0
def hiI (k m:Int):Int:=if k=2 then 1073741824 else if k=8 then m else 0
def outI (n lo hi a b x:Int):Bool:=decide (a < 0∨4≤a∨(n < 1∧a≠0)∨b < 0∨4≤b∨(n < 2∧b≠0)∨x < lo∨hi < x)
def pwrongIns (d:Deed) (m:Int) (i:Ins):Int :=
 if i.kind < 1∨9 < i.kind then 1
 else if outI (regsN i.kind) (loI i.kind) (hiI i.kind m) i.a i.b i.n=true then 3
 else if keyedB i.kind=false∧i.key≠[] then 2
 else if (i.kind=1∧isIn d.reads i.key=false)∨(keyedB i.kind=true∧i.kind≠1∧isIn d.writes i.key=false) then 9 else 0
theorem pwrong_eq (d:Deed) (m:Int) (i:Ins):pwrongIns d m i=wrongIns d m i:=by
 unfold pwrongIns wrongIns
 by_cases h:i.kind < 1∨9 < i.kind
 ·
  rw[if_pos h,if_pos h]
 rw[if_neg h,if_neg h]
 obtain⟨kd,a,b,n,key⟩:=i
 dsimp only at h ⊢
 have hout:outI (regsN kd) (loI kd) (hiI kd m) a b n=insOut kd.toNat a b n m:=by
  have hkd:kd=1∨kd=2∨kd=3∨kd=4∨kd=5∨kd=6∨kd=7∨kd=8∨kd=9:=by omega
  unfold outI insOut
  rw[Bool.eq_iff_iff]
  simp only[Bool.or_eq_true,decide_eq_true_eq]
  rcases hkd with rfl|rfl|rfl|rfl|rfl|rfl|rfl|rfl|rfl
  ·
   rw[show regsN 1=1 from rfl,show loI 1=0 from rfl,show hiI 1 m=0 from rfl,show insA (Int.toNat 1)=3 from rfl,show insB (Int.toNat 1)=0 from rfl,show insLow (Int.toNat 1)=0 from rfl,show insHigh (Int.toNat 1) m=0 from rfl]
   omega
  ·
   rw[show regsN 2=1 from rfl,show loI 2 = -1073741824 from rfl,show hiI 2 m=1073741824 from rfl,show insA (Int.toNat 2)=3 from rfl,show insB (Int.toNat 2)=0 from rfl,show insLow (Int.toNat 2) = -1073741824 from rfl,show insHigh (Int.toNat 2) m=1073741824 from rfl]
   omega
  ·
   rw[show regsN 3=2 from rfl,show loI 3=0 from rfl,show hiI 3 m=0 from rfl,show insA (Int.toNat 3)=3 from rfl,show insB (Int.toNat 3)=3 from rfl,show insLow (Int.toNat 3)=0 from rfl,show insHigh (Int.toNat 3) m=0 from rfl]
   omega
  ·
   rw[show regsN 4=2 from rfl,show loI 4=0 from rfl,show hiI 4 m=0 from rfl,show insA (Int.toNat 4)=3 from rfl,show insB (Int.toNat 4)=3 from rfl,show insLow (Int.toNat 4)=0 from rfl,show insHigh (Int.toNat 4) m=0 from rfl]
   omega
  ·
   rw[show regsN 5=2 from rfl,show loI 5=0 from rfl,show hiI 5 m=0 from rfl,show insA (Int.toNat 5)=3 from rfl,show insB (Int.toNat 5)=3 from rfl,show insLow (Int.toNat 5)=0 from rfl,show insHigh (Int.toNat 5) m=0 from rfl]
   omega
  ·
   rw[show regsN 6=1 from rfl,show loI 6=0 from rfl,show hiI 6 m=0 from rfl,show insA (Int.toNat 6)=3 from rfl,show insB (Int.toNat 6)=0 from rfl,show insLow (Int.toNat 6)=0 from rfl,show insHigh (Int.toNat 6) m=0 from rfl]
   omega
  ·
   rw[show regsN 7=0 from rfl,show loI 7=0 from rfl,show hiI 7 m=0 from rfl,show insA (Int.toNat 7)=0 from rfl,show insB (Int.toNat 7)=0 from rfl,show insLow (Int.toNat 7)=0 from rfl,show insHigh (Int.toNat 7) m=0 from rfl]
   omega
  ·
   rw[show regsN 8=1 from rfl,show loI 8=1 from rfl,show hiI 8 m=m from rfl,show insA (Int.toNat 8)=3 from rfl,show insB (Int.toNat 8)=0 from rfl,show insLow (Int.toNat 8)=1 from rfl,show insHigh (Int.toNat 8) m=m from rfl]
   omega
  ·
   rw[show regsN 9=1 from rfl,show loI 9=0 from rfl,show hiI 9 m=0 from rfl,show insA (Int.toNat 9)=3 from rfl,show insB (Int.toNat 9)=0 from rfl,show insLow (Int.toNat 9)=0 from rfl,show insHigh (Int.toNat 9) m=0 from rfl]
   omega
 rw[hout]
 split
 ·
  rfl
 have hkd:kd=1∨kd=2∨kd=3∨kd=4∨kd=5∨kd=6∨kd=7∨kd=8∨kd=9:=by omega
 have hk9:has kd.toNat 107=keyedB kd:=by rcases hkd with rfl|rfl|rfl|rfl|rfl|rfl|rfl|rfl|rfl <;> decide
 rw[hk9]
 cases hkb:keyedB kd with
 |false =>
  have h1:¬ kd=1:=fun e=>by subst e;cases hkb
  by_cases hk0:key=[]
  ·
   simp[hk0,h1]
  ·
   simp[hk0]
 |true =>
  simp only[Bool.true_eq_false,false_and,if_false,true_and]
  by_cases h1:kd=1
  ·
   simp only[h1,if_true,ne_eq,not_true_eq_false,false_and,or_false,true_and]
   cases isIn d.reads key <;> rfl
  ·
   simp only[h1,if_false,false_and,ne_eq,not_false_eq_true,true_and,false_or]
   cases isIn d.writes key <;> rfl
theorem ok_regs (k:Int):FnOk Tryz.prog 76 [.d (dint k)] (.one (dint (regsN k))):=by
 refine fnOk_of tbl_ok mixed_ok Tryz.func76 rfl (by kernel_rfl) rfl rfl fun w0 own0=>?_
 unfold regsN
 by_cases h3:k=3
 ·
  rw[if_pos (.inl h3)]
  try refine wk ?_
  exact .one (.tmp rfl (.one (.d (.refl _))))
 by_cases h4:k=4
 ·
  rw[if_pos (.inr (.inl h4))]
  try refine wk ?_
  exact .one (.tmp rfl (.one (.d (.refl _))))
 by_cases h5:k=5
 ·
  rw[if_pos (.inr (.inr h5))]
  try refine wk ?_
  exact .one (.tmp rfl (.one (.d (.refl _))))
 rw[if_neg (by omega)]
 by_cases h7:k=7
 ·
  rw[if_pos h7]
  try refine wk ?_
  exact .one (.tmp rfl (.one (.d (.refl _))))
 ·
  rw[if_neg h7]
  try refine wk ?_
  exact .one (.tmp rfl (.one (.d (.refl _))))
theorem ok_instr (d:Deed) (i:Ins) (m:Int) (hr:d.reads.length≤268435456) (hw:d.writes.length≤268435456) :
  FnOk Tryz.prog 53 [.pd d.enc,.d (.agg i.enc),.d (dint m)] (.one (dint (wrongIns d m i))):=by
 refine fnOk_of tbl_ok mixed_ok Tryz.func53 rfl (by kernel_rfl) rfl rfl fun w0 own0=>?_
 rw[← pwrong_eq]
 have cr:=ok_regs i.kind
 have c1:=ok_containsS d.reads i.key (by omega)
 have c2:=ok_containsS d.writes i.key (by omega)
 have hst0:StopR 1:=⟨rfl⟩
 try refine wkS ?_
 clear hst0
 refine Stop.cutk [sd 7 (dbool (keyedB i.kind))] [.s 0,.s 2,.s 4,.o 0,.nx] ?_ ?_
 ·
  by_cases h1:i.kind=1
  ·
   rw[show keyedB i.kind=true from decide_eq_true (.inl h1)]
   try refine wk ?_
   refine q_cut ?_
   exact by_less
  by_cases h6:i.kind=6
  ·
   rw[show keyedB i.kind=true from decide_eq_true (.inr (.inl h6))]
   try refine wk ?_
   refine q_cut ?_
   exact by_less
  by_cases h7:i.kind=7
  ·
   rw[show keyedB i.kind=true from decide_eq_true (.inr (.inr h7))]
   try refine wk ?_
   refine q_cut ?_
   exact by_less
  ·
   rw[show keyedB i.kind=false from decide_eq_false (by omega)]
   try refine wk ?_
   refine q_cut ?_
   exact by_less
 have hst0:StopA 3:=⟨rfl⟩
 try refine wkS ?_
 clear hst0
 refine Stop.cutk [sd 8 (dint (loI i.kind)),sd 9 (dint (hiI i.kind m))] [.s 0,.s 4,.s 7,.o 0,.nx] ?_ ?_
 ·
  by_cases h2:i.kind=2
  ·
   rw[show loI i.kind = -1073741824 from if_pos h2,show hiI i.kind m=1073741824 from if_pos h2]
   try refine wk ?_
   refine q_cut ?_
   exact by_less
  by_cases h8:i.kind=8
  ·
   rw[show loI i.kind=1 by unfold loI;rw[if_neg h2,if_pos h8],show hiI i.kind m=m by unfold hiI;rw[if_neg h2,if_pos h8]]
   try refine wk ?_
   refine q_cut ?_
   exact by_less
  ·
   rw[show loI i.kind=0 by unfold loI;rw[if_neg h2,if_neg h8],show hiI i.kind m=0 by unfold hiI;rw[if_neg h2,if_neg h8]]
   try refine wk ?_
   refine q_cut ?_
   exact by_less
 unfold pwrongIns
 generalize regsN i.kind=n at cr ⊢
 generalize loI i.kind=lo
 generalize hiI i.kind m=hi
 by_cases hk0:i.kind < 1
 ·
  rw[if_pos (.inl hk0)]
  try refine wk ?_
  exact .one (.tmp rfl (.one (.d (.refl _))))
 by_cases hk9:9 < i.kind
 ·
  rw[if_pos (.inr hk9)]
  try refine wk ?_
  exact .one (.tmp rfl (.one (.d (.refl _))))
 rw[if_neg (by omega)]
 have hst0:StopA 11:=⟨rfl⟩
 try refine wkS ?_
 clear hst0
 refine Stop.cutk [sd 43 (dbool (outI n lo hi i.a i.b i.n))] [.s 0,.s 4,.s 7,.o 0,.nx] ?_ ?_
 ·
  have T:(i.a < 0∨4≤i.a∨(n < 1∧i.a≠0)∨i.b < 0∨4≤i.b∨(n < 2∧i.b≠0)∨i.n < lo∨hi < i.n)→outI n lo hi i.a i.b i.n=true:=fun h=>decide_eq_true h
  have F:¬ (i.a < 0∨4≤i.a∨(n < 1∧i.a≠0)∨i.b < 0∨4≤i.b∨(n < 2∧i.b≠0)∨i.n < lo∨hi < i.n)→outI n lo hi i.a i.b i.n=false:=fun h=>decide_eq_false h
  by_cases ha0:i.a < 0
  ·
   rw[T (by omega)]
   try refine wk ?_
   refine q_cut ?_
   exact by_less
  by_cases ha4:4≤i.a
  ·
   rw[T (by omega)]
   try refine wk ?_
   refine q_cut ?_
   exact by_less
  by_cases hn1:n < 1
  ·
   by_cases ha:i.a=0
   ·
    skip
    by_cases hb0:i.b < 0
    ·
     rw[T (by omega)]
     try refine wk ?_
     refine q_cut ?_
     exact by_less
    by_cases hb4:4≤i.b
    ·
     rw[T (by omega)]
     try refine wk ?_
     refine q_cut ?_
     exact by_less
    by_cases hn2:n < 2
    ·
     by_cases hb:i.b=0
     ·
      skip
      by_cases hx0:i.n < lo
      ·
       rw[T (by omega)]
       try refine wk ?_
       refine q_cut ?_
       exact by_less
      by_cases hx1:hi < i.n
      ·
       rw[T (by omega)]
       try refine wk ?_
       refine q_cut ?_
       exact by_less
      rw[F (by omega)]
      try refine wk ?_
      refine q_cut ?_
      exact by_less
     ·
      rw[T (by omega)]
      try refine wk ?_
      refine q_cut ?_
      exact by_less
    by_cases hx0:i.n < lo
    ·
     rw[T (by omega)]
     try refine wk ?_
     refine q_cut ?_
     exact by_less
    by_cases hx1:hi < i.n
    ·
     rw[T (by omega)]
     try refine wk ?_
     refine q_cut ?_
     exact by_less
    rw[F (by omega)]
    try refine wk ?_
    refine q_cut ?_
    exact by_less
   ·
    rw[T (by omega)]
    try refine wk ?_
    refine q_cut ?_
    exact by_less
  by_cases hb0:i.b < 0
  ·
   rw[T (by omega)]
   try refine wk ?_
   refine q_cut ?_
   exact by_less
  by_cases hb4:4≤i.b
  ·
   rw[T (by omega)]
   try refine wk ?_
   refine q_cut ?_
   exact by_less
  by_cases hn2:n < 2
  ·
   by_cases hb:i.b=0
   ·
    skip
    by_cases hx0:i.n < lo
    ·
     rw[T (by omega)]
     try refine wk ?_
     refine q_cut ?_
     exact by_less
    by_cases hx1:hi < i.n
    ·
     rw[T (by omega)]
     try refine wk ?_
     refine q_cut ?_
     exact by_less
    rw[F (by omega)]
    try refine wk ?_
    refine q_cut ?_
    exact by_less
   ·
    rw[T (by omega)]
    try refine wk ?_
    refine q_cut ?_
    exact by_less
  by_cases hx0:i.n < lo
  ·
   rw[T (by omega)]
   try refine wk ?_
   refine q_cut ?_
   exact by_less
  by_cases hx1:hi < i.n
  ·
   rw[T (by omega)]
   try refine wk ?_
   refine q_cut ?_
   exact by_less
  rw[F (by omega)]
  try refine wk ?_
  refine q_cut ?_
  exact by_less
 cases ho:outI n lo hi i.a i.b i.n with
 |true =>
  rw[if_pos rfl]
  try refine wk ?_
  exact .one (.tmp rfl (.one (.d (.refl _))))
 |false =>
  rw[if_neg (by simp)]
  by_cases hkey:i.key=[]
  ·
   rw[if_neg (fun h=>h.2 hkey)]
   by_cases h1:i.kind=1
   ·
    have hk1:keyedB i.kind=true:=decide_eq_true (.inl h1)
    rw[hk1]
    cases hin:isIn d.reads i.key with
    |false =>
     rw[if_pos (.inl ⟨h1,rfl⟩)]
     rw[hin]at c1
     repeat(first|refine wa ?_|((with_reducible apply s5);(first|exact a_call c1 rfl by_sub|((with_reducible apply a_nilpd);(iterate 2 exact rfl))|exact by_oa|exact by_ca);exact by_g)|refine wb ?_)
     exact .one (.tmp rfl (.one (.d (.refl _))))
    |true =>
     rw[if_neg (by simp[h1])]
     rw[hin]at c1
     repeat(first|refine wa ?_|((with_reducible apply s5);(first|exact a_call c1 rfl by_sub|((with_reducible apply a_nilpd);(iterate 2 exact rfl))|exact by_oa|exact by_ca);exact by_g)|refine wb ?_)
     exact .one (.tmp rfl (.one (.d (.refl _))))
   ·
    cases hkb:keyedB i.kind with
    |false =>
     rw[if_neg (by simp[h1])]
     try refine wk ?_
     exact .one (.tmp rfl (.one (.d (.refl _))))
    |true =>
     cases hin:isIn d.writes i.key with
     |false =>
      rw[if_pos (.inr ⟨rfl,h1,rfl⟩)]
      rw[hin]at c2
      repeat(first|refine wa ?_|((with_reducible apply s5);(first|exact a_call c2 rfl by_sub|((with_reducible apply a_nilpd);(iterate 2 exact rfl))|exact by_oa|exact by_ca);exact by_g)|refine wb ?_)
      exact .one (.tmp rfl (.one (.d (.refl _))))
     |true =>
      rw[if_neg (by simp[h1])]
      rw[hin]at c2
      repeat(first|refine wa ?_|((with_reducible apply s5);(first|exact a_call c2 rfl by_sub|((with_reducible apply a_nilpd);(iterate 2 exact rfl))|exact by_oa|exact by_ca);exact by_g)|refine wb ?_)
      exact .one (.tmp rfl (.one (.d (.refl _))))
  ·
   by_cases h1:i.kind=1
   ·
    have hk1:keyedB i.kind=true:=decide_eq_true (.inl h1)
    rw[hk1,if_neg (by simp)]
    cases hin:isIn d.reads i.key with
    |false =>
     rw[if_pos (.inl ⟨h1,rfl⟩)]
     rw[hin]at c1
     repeat(first|refine wa ?_|((with_reducible apply s5);(first|exact a_call c1 rfl by_sub|((with_reducible apply a_nilpd);(iterate 2 exact rfl))|exact by_oa|exact by_ca);exact by_g)|refine wb ?_)
     exact .one (.tmp rfl (.one (.d (.refl _))))
    |true =>
     rw[if_neg (by simp[h1])]
     rw[hin]at c1
     repeat(first|refine wa ?_|((with_reducible apply s5);(first|exact a_call c1 rfl by_sub|((with_reducible apply a_nilpd);(iterate 2 exact rfl))|exact by_oa|exact by_ca);exact by_g)|refine wb ?_)
     exact .one (.tmp rfl (.one (.d (.refl _))))
   ·
    cases hkb:keyedB i.kind with
    |false =>
     rw[if_pos ⟨rfl,hkey⟩]
     try refine wk ?_
     exact .one (.tmp rfl (.one (.d (.refl _))))
    |true =>
     rw[if_neg (by simp)]
     cases hin:isIn d.writes i.key with
     |false =>
      rw[if_pos (.inr ⟨rfl,h1,rfl⟩)]
      rw[hin]at c2
      repeat(first|refine wa ?_|((with_reducible apply s5);(first|exact a_call c2 rfl by_sub|((with_reducible apply a_nilpd);(iterate 2 exact rfl))|exact by_oa|exact by_ca);exact by_g)|refine wb ?_)
      exact .one (.tmp rfl (.one (.d (.refl _))))
     |true =>
      rw[if_neg (by simp[h1])]
      rw[hin]at c2
      repeat(first|refine wa ?_|((with_reducible apply s5);(first|exact a_call c2 rfl by_sub|((with_reducible apply a_nilpd);(iterate 2 exact rfl))|exact by_oa|exact by_ca);exact by_g)|refine wb ?_)
      exact .one (.tmp rfl (.one (.d (.refl _))))
theorem ok_dkeys (l:List Str) (hl:l.length≤268435456) (hk:∀ s∈l,s.length≤1073741824):FnOk Tryz.prog 52 [.d (encStrs l)] (.one (dint (keysWrong l))):=by
 refine fnOk_of tbl_ok mixed_ok Tryz.func52 rfl (by kernel_rfl) rfl rfl fun w0 own0=>?_
 unfold keysWrong
 by_cases h4:5 < l.length
 ·
  rw[if_pos h4]
  try refine wk ?_
  exact .one (.tmp rfl (.one (.d (.refl _))))
 ·
  rw[if_neg h4]
  try refine wk ?_
  refine CW.loopT (fun t:Nat=>[sd 0 (encStrs l),sd 2 (dint 0),sd 8 (encStrs l),sd 9 (dint l.length),sd 10 (dint t),nxt 0])
   (fun t=>t≤l.length∧keysGo l t (l.drop t)=keysGo l 0 l) (fun t=>l.length - t) 0 ⟨by omega,rfl⟩ ?_ ?_
  ·
   exact by_less
  ·
   rintro i ⟨hi,hJ⟩
   rcases drop_case hi with ⟨h5,h6⟩|⟨k,h5,h6,h7⟩
   ·
    rw[h5,keysGo]at hJ
    try refine wk ?_
    rw[← hJ]
    exact .one (.tmp rfl (.one (.d (.refl _))))
   ·
    rw[h5,keysGo]at hJ
    have hck:=ok_pkey k (hk k (List.mem_of_getElem? h6))
    have hin:FnOk Tryz.prog 75 [.d (.sl 1 ((l.map encStr1).take i)),.d (dstr k)] (.one (dbool (isIn (l.take i) k))):=by
     rw[← List.map_take]
     exact ok_containsS (l.take i) k (by rw[List.length_take];omega)
    cases h8:key k with
    |false =>
     rw[h8]at hck
     rw[if_pos h8]at hJ
     try refine wk ?_
     rw[← hJ]
     exact .one (.tmp rfl (.one (.d (.refl _))))
    |true =>
     rw[h8]at hck
     rw[if_neg (by simp[h8])]at hJ
     cases h9:isIn (l.take i) k with
     |false =>
      rw[h9]at hin
      rw[if_neg (by simp[h9])]at hJ
      repeat(first|refine wa ?_|((with_reducible apply s5);(first|exact a_call hin rfl by_sub|exact by_oa|exact by_ca);exact by_g)|refine wb ?_)
      refine q_loopT (i+1) ⟨by omega,hJ⟩ (by omega) ?_
      exact by_less
     |true =>
      rw[h9]at hin
      rw[if_pos h9]at hJ
      repeat(first|refine wa ?_|((with_reducible apply s5);(first|exact a_call hin rfl by_sub|exact by_oa|exact by_ca);exact by_g)|refine wb ?_)
      rw[← hJ]
      exact .one (.tmp rfl (.one (.d (.refl _))))
theorem ok_pwrongDeed (d:Deed) (hs:d.Sm):FnOk Tryz.prog 29 [.d (.agg d.enc)] (.one (dint (wrongDeed d))):=by
 refine fnOk_of tbl_ok mixed_ok Tryz.func29 rfl (by kernel_rfl) rfl rfl fun w0 own0=>?_
 have hc:=hs.c
 repeat(first|((with_reducible apply s5);((with_reducible apply a_bs ([d.reads,d.writes].map fun l=>[encStrs l]));(iterate 9 exact rfl);(repeat(first|exact PartsE.nil|(apply PartsE.cons;exact rfl;exact rfl))));exact by_g)|refine wa1 ?_|((with_reducible apply s5);(first|exact by_oa|exact by_ca);exact by_g)|refine wb ?_)
 refine CW.loopT (fun j:Nat=>[sp 1 0,ob 0 d.enc,sd 2 (dint 0),sd 13 (.sl 1 ([d.reads,d.writes].map fun l=>[encStrs l])),sd 14 (dint 2),sd 15 (dint j),nxt 1])
  (fun j=>j≤[d.reads,d.writes].length∧lsGo ([d.reads,d.writes].drop j)=lsGo [d.reads,d.writes]) (fun j=>2 - j) 0 ⟨by simp,rfl⟩ ?_ ?_
 ·
  exact by_less
 ·
  rintro j ⟨hj,hI⟩
  have hj2:j≤2:=hj
  rcases drop_case hj with ⟨h1,h2⟩|⟨l,h1,h2,h3⟩
  ·
   have h2':j=2:=h2
   rw[h1]at hI
   have hI':lsGo [d.reads,d.writes]=0:=hI.symm
   unfold wrongDeed
   rw[if_pos hI']
   by_cases h4:12 < d.code.length
   ·
    rw[if_pos h4]
    try refine wk ?_
    exact .one (.tmp rfl (.one (.d (.refl _))))
   ·
    rw[if_neg h4]
    try refine wk ?_
    refine CW.loopT (fun k:Nat=>[sp 1 0,ob 0 d.enc,sd 2 (dint 0),sd 30 (encCode d.code),sd 31 (dint d.code.length),sd 32 (dint k),nxt 1])
     (fun k=>k≤d.code.length∧codeGo d k (d.code.drop k)=codeGo d 0 d.code) (fun k=>d.code.length - k) 0 ⟨by omega,rfl⟩ ?_ ?_
    ·
     exact by_less
    ·
     rintro k ⟨hk,hJ⟩
     rcases drop_case hk with ⟨h5,h6⟩|⟨i,h5,h6,h7⟩
     ·
      rw[h5,codeGo]at hJ
      try refine wk ?_
      rw[← hJ]
      exact .one (.tmp rfl (.one (.d (.refl _))))
     ·
      rw[h5,codeGo]at hJ
      have ci:FnOk Tryz.prog 53 [.pd d.enc,.d (.agg i.enc),.d (dint (((d.code.map Ins.enc).length:Int) - 1 - k))] (.one (dint (wrongIns d ((d.code.length:Int) - 1 - k) i))):=by
       rw[List.length_map];exact ok_instr d i ((d.code.length:Int) - 1 - k) hs.r hs.w
      by_cases h8:wrongIns d ((d.code.length:Int) - 1 - k) i=0
      ·
       rw[if_pos h8]at hJ
       rw[h8]at ci
       repeat(first|refine wa ?_|((with_reducible apply s5);(first|exact a_call ci rfl by_sub|exact by_oa|exact by_ca);exact by_g)|refine wb ?_)
       refine q_loopT (k+1) ⟨by omega,hJ⟩ (by omega) ?_
       exact by_less
      ·
       rw[if_neg h8]at hJ
       repeat(first|refine wa ?_|((with_reducible apply s5);(first|exact a_call ci rfl by_sub|exact by_oa|exact by_ca);exact by_g)|refine wb ?_)
       rw[← hJ]
       exact .one (.tmp rfl (.one (.d (.refl _))))
  ·
   rw[h1,lsGo]at hI
   have h3':j < 2:=h3
   have hl:l.length≤268435456∧∀ s∈l,s.length≤1073741824:=by
    have:=List.mem_of_getElem? h2
    simp at this
    rcases this with rfl|rfl
    ·
     exact⟨hs.r,hs.rk⟩
    ·
     exact⟨hs.w,hs.wk⟩
   have ck:=ok_dkeys l hl.1 hl.2
   by_cases h8:keysWrong l=0
   ·
    rw[if_pos h8]at hI
    rw[h8]at ck
    try refine wk ?_
    refine q_loopT (j+1) ⟨by simp;omega,hI⟩ (by omega) ?_
    exact by_less
   ·
    rw[if_neg h8]at hI
    unfold wrongDeed
    rw[if_neg (by rw[← hI];exact h8)]
    try refine wk ?_
    rw[← hI]
    exact .one (.tmp rfl (.one (.d (.refl _))))
theorem ok_pnew (r:List Pair) (hl:r.length≤134217728):FnOk Tryz.prog 59 [.d (encRows r)] (.one (.agg (newE r).enc)):=by
 refine fnOk_of tbl_ok mixed_ok Tryz.func59 rfl (by kernel_rfl) rfl rfl fun w0 own0=>?_
 have c1:=ok_of r hl
 try refine wk ?_
 exact .one (.cell rfl rfl rfl rfl (.aggd (ds:=[encChains (r.map rowChain),.v nilS,.v nilS,.v nilS,dint 0]) rfl (DLes.agg (.cons (.refl _) (.cons (dle_nil 3) (.cons (dle_nil 1) (.cons (dle_nil 5) (.cons (.refl _) .nil))))))))
theorem ok_padde (e:Engine) (l:List Deed) (N:Nat) (hE:EInv e N) (hS:SInv e) (hd:∀ d∈l,d.Sm) (hl:l.length≤10000000) (hN:N≤50000000) :
  FnOk Tryz.prog 90 [.d (.agg e.enc),.d (encDeeds l)] (.tup [.agg (addE e l).1.enc,dint (addE e l).2]):=by
 refine fnOk_of tbl_ok mixed_ok Tryz.func90 rfl (by kernel_rfl) rfl rfl fun w0 own0=>?_
 try refine wk ?_
 refine CW.loopT (fun i:Nat=>[sd 1 (encDeeds l),sp 2 0,ob 0 e.enc,sp 4 1,ob 1 noE.enc0,sd 5 (dint 0),sd 15 (encDeeds l),sd 16 (dint l.length),sd 17 (dint i),nxt 2])
  (fun i=>i≤l.length∧wrongs (l.drop i)=wrongs l) (fun i=>l.length - i) 0 ⟨by omega,rfl⟩ ?_ ?_
 ·
  exact by_less
 ·
  rintro i ⟨hi,hI⟩
  rcases drop_case hi with ⟨h1,h2⟩|⟨d,h1,h2,h3⟩
  ·
   rw[h1,wrongs]at hI
   have hw:wrongs l=0:=hI.symm
   have hok:=wrongs_mem hw
   have hres:addE e l=(addAll e l,0):=by rw[addE,if_pos hw]
   rw[hres]
   have hs:=hE.z.sm (by omega)
   have co:=news_planOwn e hs
   repeat(first|refine wa ?_|((with_reducible apply s5);(first|exact a_callnews co rfl rfl by_sub|exact by_oa|exact by_ca);exact by_g)|refine wb ?_)
   refine CW.loopT (fun t:Nat×Engine=>[sd 1 (encDeeds l),sp 4 1,ob 1 noE.enc0,sd 5 (dint 0),sp 9 5,(.o 5,.ob (.box [.d (encChains t.2.chains),.own 2 (t.2.deeds.map Deed.enc).length,.own 3 (t.2.state.map encInt1).length,.own 4 (t.2.ends.map Done.enc).length,.d (dint t.2.base)])),
     oa 2 28 3 (t.2.deeds.map Deed.enc),oa 3 3 1 (t.2.state.map encInt1),oa 4 163 5 (t.2.ends.map Done.enc),sd 30 (encDeeds l),sd 31 (dint l.length),sd 32 (dint t.1),nxt 6])
    (fun t=>t.1≤l.length∧EInv t.2 (N+5*t.1)∧SInv t.2∧addAll t.2 (l.drop t.1)=addAll e l) (fun t=>l.length - t.1) (0,e) ⟨by omega,hE,hS,rfl⟩ ?_ ?_
   ·
    exact by_less
   ·
    rintro ⟨i,x⟩ ⟨hi,hX,hSx,hJ⟩
    dsimp only at hi hX hSx hJ ⊢
    rcases drop_case hi with ⟨h1,h2⟩|⟨d,h1,h2,h3⟩
    ·
     rw[h1,addAll]at hJ
     try refine wk ?_
     rw[← hJ]
     exact .two (.cell rfl rfl rfl rfl (.agg (.cons (.d (.refl _)) (.cons (.own rfl (by simp) (.refl _)) (.cons (.own rfl (by simp) (.refl _)) (.cons (.own rfl (by simp) (.refl _)) (.cons (.d (.refl _)) .nil))))))) (.tmp rfl (.one (.d (.refl _))))
    ·
     rw[h1,addAll]at hJ
     have hdm:=List.mem_of_getElem? h2
     have hds:=hd d hdm
     have hdo:=wrongDeed_ok (hok d hdm)
     have hX1:=hX.add1 hds hdo
     have hS1:=hSx.add1 (wrong_keys (hok d hdm)).2
     have cow:=ok_deedOwn d hds
     have hz:=hX.z
     have hb:=hz.b
     have hwl:=hdo.w
     have hdl:=hz.d
     have hst:=hz.s
     have hen:=hz.n
     try refine wk ?_
     refine CW.loopT (fun t:Nat×List Chain=>[sd 1 (encDeeds l),sp 4 1,ob 1 noE.enc0,sd 5 (dint 0),sp 9 5,(.o 5,.ob (.box [.d (encChains t.2),.own 2 (x.deeds.map Deed.enc).length,.own 3 (x.state.map encInt1).length,.own 4 (x.ends.map Done.enc).length,.d (dint x.base)])),
       oa 2 28 3 (x.deeds.map Deed.enc),oa 3 3 1 (x.state.map encInt1),oa 4 163 5 (x.ends.map Done.enc),sd 30 (encDeeds l),sd 31 (dint l.length),sd 32 (dint i),
       sp 11 6,ob 6 d.enc,sd 12 (dint (x.base+x.deeds.length)),sd 43 (encStrs d.writes),sd 44 (dint d.writes.length),sd 45 (dint t.1),nxt 7])
      (fun t=>t.1≤d.writes.length∧t.2.length≤N+5*i+t.1∧(∀ c∈t.2,c.vs.length≤N+5*i+t.1)∧Srt Chain.key t.2∧addKeys (x.base+x.deeds.length) t.2 (d.writes.drop t.1)=addKeys (x.base+x.deeds.length) x.chains d.writes) (fun t=>d.writes.length - t.1) (0,x.chains) ⟨by omega,hz.c,hz.v,hSx.k,rfl⟩ ?_ ?_
     ·
      exact by_less
     ·
      rintro ⟨j,cs⟩ ⟨hj,hcl,hcv,hcs,hK⟩
      dsimp only at hj hcl hcv hcs hK ⊢
      rcases drop_case hj with ⟨g1,g2⟩|⟨k,g1,g2,g3⟩
      ·
       rw[g1,addKeys]at hK
       subst hK
       try refine wk ?_
       refine q_loopT (i+1,add1 x d) ⟨by dsimp only;omega,by dsimp only;rw[show N+5*(i+1)=N+5*i+5 by omega];exact hX1,hS1,hJ⟩ (by dsimp only;omega) ?_
       unfold add1
       exact by_less
      ·
       rw[g1,addKeys,addC_srt hcs]at hK
       have ca:=ok_padd cs k (x.base+x.deeds.length) (by omega) (fun c hc=>by have:=hcv c hc;omega) hcs
       try refine wk ?_
       refine q_loopT (j+1,addS k (x.base+x.deeds.length) cs) ⟨by dsimp only;omega,by have:=addS_len (k:=k) (b:=x.base+x.deeds.length) cs;dsimp only;omega,fun c hc=>by have:=addS_vs hcv c hc;dsimp only;omega,addS_srt hcs,hK⟩ (by dsimp only;omega) ?_
       exact by_less
  ·
   rw[h1]at hI
   simp only[wrongs]at hI
   have hc:=ok_pwrongDeed d (hd d (List.mem_of_getElem? h2))
   by_cases h4:wrongDeed d=0
   ·
    rw[if_pos h4]at hI
    rw[h4]at hc
    try refine wk ?_
    refine q_loopT (i+1) ⟨by omega,hI⟩ (by omega) ?_
    exact by_less
   ·
    rw[if_neg h4]at hI
    have hres:addE e l=(noE,wrongs l):=by rw[addE,if_neg (by rw[← hI];exact h4)]
    rw[hres]
    try refine wk ?_
    exact .two (.cell rfl rfl rfl rfl (.aggd (ds:=noE.enc0) rfl (DLes.agg (.cons (dle_nil 2) (.cons (dle_nil 3) (.cons (dle_nil 1) (.cons (dle_nil 5) (.cons (.refl _) .nil)))))))) (.tmp rfl (.one (.d (dle_int hI))))
end Go.Proofs.YtccblhpfjlgmbabGreatDoor
namespace Go.AX
open Go.RowKit
variable {cx:Cx}{g:Nat→Value}{σ σ':St}{a:Act}{w w':World}{nx:Nat}{c:Code}{Q:Exit→St→Prop}
variable {ty:TypeId}{pos:String}{af:Array Edge}{gd:Option (Nat×Bool)}{d:Nat}
theorem ref_pd {v:Value}{ds:List D}(h:Rep cx g σ w v (.d (refD ds))):Rep cx g σ w v (.pd ds):=by
 obtain⟨ad,h1,h2,h3,h4⟩:=rd_x h
 exact⟨ad,h1,.inr h2,h3,h4⟩
theorem a_faref {t:TypeId}{x:Operand}{cells:List D}{ti:TI}{f off:Nat}(hx:ev σ x=some (.d (refD cells))) (ht:tget cx.T t=some ti) (hf:fldOff ti f=some off) (hd:Nat.blt d cx.n=true) :
  OA cx σ ⟨some d,.fieldAddr t x f,ty,pos,af,gd⟩ ⟨rdOf x (.d (refD cells)),[(.s d,.av (.pd (cells.drop off)))]⟩:=by
 refine⟨ok_val rfl (lt_of_blt hd) fun _ a w _ _ hs hr=>?_,(ev_out hx).2⟩
 obtain⟨ad,hv,h1,h2,hc⟩:=ref_pd (hs.ev (ev_out hx).1 hr).1
 exact⟨.pointer (some (ad.add off)),w,by simp[execOp,hv,fieldAt_of (cx.hT t ti ht) hf],Below.refl _ _,
  ⟨_,rfl,by rw[add_block];exact h1,by rw[add_block];exact h2,hc.drop off⟩,trivial⟩
theorem a_ldref {t:TypeId}{x:Operand}{cells:List D}{ti:TI}{y:D}(hx:ev σ x=some (.d (refD cells))) (ht:tget cx.T t=some ti) (hl:ldD ti cells=some y) (hd:Nat.blt d cx.n=true) :
  OA cx σ ⟨some d,.load t x,ty,pos,af,gd⟩ ⟨rdOf x (.d (refD cells)),[(.s d,.av (.d y))]⟩:=by
 refine⟨ok_val rfl (lt_of_blt hd) fun _ a w _ _ hs hr=>?_,(ev_out hx).2⟩
 obtain⟨ad,hv,_,_,hc⟩:=ref_pd (hs.ev (ev_out hx).1 hr).1
 obtain⟨v,h1,h2⟩:=run_load_cells (cx.hT t ti ht) hc hl
 exact⟨v,w,by simp[execOp,hv,h1],Below.refl _ _,h2,trivial⟩
theorem a_nilref {x:Operand}{cells:List D}(hx:ev σ x=some (.d (refD cells))) (hd:Nat.blt d cx.n=true) :
  OA cx σ ⟨some d,.nilCheck x,ty,pos,af,gd⟩ ⟨rdOf x (.d (refD cells)),[(.s d,.av (.d (refD cells)))]⟩:=by
 refine⟨ok_val rfl (lt_of_blt hd) fun _ a w _ _ hs hr=>?_,(ev_out hx).2⟩
 have h:=(hs.ev (ev_out hx).1 hr).1
 obtain⟨ad,hv,_,_,hc⟩:=ref_pd h
 refine⟨_,w,?_,Below.refl _ _,h,trivial⟩
 simp[execOp,hv]
inductive Lent (σ:St):List AV→List D→List (Key×Val)→Prop
 |nil:Lent σ [] [] []
 |d {x:D} {cs:List AV} {ds:List D} {l:List (Key×Val)} (h:Lent σ cs ds l):Lent σ (.d x::cs) (x::ds) l
 |own {id n e k:Nat} {rows:List (List D)} {cs:List AV} {ds:List D} {l:List (Key×Val)} (ho:get σ (.o id) = .ob (.arr e k rows)) (hn:n=rows.length) (h:Lent σ cs ds l) :
   Lent σ (.own id n::cs) (.sl k rows::ds) ((.o id,.ob (.arr e k rows))::l)
theorem Lent.app {cs:List AV}{ds:List D}{l:List (Key×Val)}(h:Lent σ cs ds l):App σ l:=by
 induction h with
 |nil=>trivial
 |d h ih=>exact ih
 |own ho hn h ih=>exact⟨ho,ih⟩
def lids:List AV→List Nat
 | []=>[]
 |.own id _::r=>id::lids r
 |_::r=>lids r
theorem Lent.rd {σ0:St}{own':Nat→Prop}(hs:SimG cx σ a w g nx) (hle:∀ b,own' b→cx.own g σ b):∀ {cs:List AV}{ds:List D}{l:List (Key×Val)},Lent σ0 cs ds l→App σ l→(∀ i∈lids cs,∀ b,own' b→blk (g i)≠some b) →
  ds.length=cs.length∧∀ (j:Nat) (z:D) (av:AV) (v:Value),ds[j]? = some z→cs[j]? = some av→Rep1 cx g σ w v av→Rd w own' v z:=by
 intro cs ds l h
 induction h with
 |nil=>exact fun _ _=>⟨rfl,fun j z av v hz=>by simp at hz⟩
 |@d x cs ds l h ih =>
  intro ha hb
  obtain⟨h1,h2⟩:=ih ha hb
  refine⟨by simp[h1],fun j z av v hz hav hr=>?_⟩
  cases j with
  |zero=>simp at hz hav;subst hz hav;exact Rd.less hle hr
  |succ j=>exact h2 j z av v (by simpa using hz) (by simpa using hav) hr
 |@own id n e k rows cs ds l ho hn h ih =>
  intro ha hb
  obtain⟨h1,h2⟩:=ih ha.2 fun i hi=>hb i (List.mem_cons_of_mem _ hi)
  refine⟨by simp[h1],fun j z av v hz hav hr=>?_⟩
  cases j with
  |zero =>
   simp at hz hav
   subst hz hav
   have ho':get σ (.o id) = .ob (.arr e k rows):=ha.1
   have hv:v=g id:=(hr.2 e k rows ho').2 hn
   rw[hv]
   exact(objRows hs ho').rd fun b h=>⟨hle b h,hb id (List.mem_cons_self ..) b h⟩
  |succ j=>exact h2 j z av v (by simpa using hz) (by simpa using hav) hr
theorem a_lendbox {f:FuncId}{x:Operand}{r:Res}{ats:Array TypeId}{id:Nat}{cells:List AV}{ds:List D}{lv:List (Key×Val)}
  (hc:FnOk cx.P f [.d (refD ds)] r) (hx:ev σ x=some (.ptr id 0)) (ho:get σ (.o id) = .ob (.box cells)) (hv:Lent σ cells ds lv) (hp:plainR r=true) (hd:Nat.blt d cx.n=true) :
  OA cx σ ⟨some d,.call { callee := .value (.func f),args := #[x],argTypes:=ats },ty,pos,af,gd⟩ ⟨rdOf x (.ptr id 0)++((.o id,.ob (.box cells))::lv),[(.s d,.av r.av)]⟩:=by
 refine⟨?_,(ev_out hx).2.append ⟨ho,hv.app⟩⟩
 rintro σ1 a w K Q ⟨g,nx,hs⟩ hr hK
 have hxv:=hs.ev (ev_out hx).1 hr.left
 have ho1:get σ1 (.o id) = .ob (.box cells):=hr.right.1
 have hlv:App σ1 lv:=hr.right.2
 obtain⟨b0,hg0,hval⟩:=hxv.1.2 _ ho1
 obtain⟨_,⟨b,cs,t,h0,h1,h2,h3,h4,h5⟩,_⟩:=hs.objs id _ ho1
 obtain rfl:b0=b:=by rw[hg0]at h0;simpa using h0
 have hlt:b0 < w.heap.size:=by
  rcases Nat.lt_or_ge b0 w.heap.size with h|h
  ·
   exact h
  ·
   rw[Array.getElem?_eq_none h]at h2;cases h2
 obtain⟨hlen,hrd⟩:=Lent.rd (own':=fun b=>cx.own g σ1 b∧blk (g id)≠some b∧∀ i∈lids cells,blk (g i)≠some b) hs (fun b hb=>hb.1) hv hlv (fun i hi b hb=>hb.2.2 i hi)
 have harg:Rd w (fun b=>cx.own g σ1 b∧blk (g id)≠some b∧∀ i∈lids cells,blk (g i)≠some b) (a.eval x) (refD ds):=by
  refine rd_ref ⟨_,hval,fun h=>h.2.1 (by rw[hg0];rfl),hlt,fun j z hz=>?_⟩
  have hjd:=(List.getElem?_eq_some_iff.1 hz).1
  have hjl:j < cs.size:=by rw[h3];omega
  have hcs:cs[j]? = some cs[j]:=Array.getElem?_eq_getElem hjl
  have hav:cells[j]? = some (cells[j]'(by omega)):=List.getElem?_eq_getElem (by omega)
  exact⟨cs[j],by rw[add_lit];simp[World.cell?,h2,hcs],h4 _ _ hcs,hrd j z _ _ hz hav (h5 j _ _ hav hcs)⟩
 have hcall:=hc.calls w _ [a.eval x] ⟨fun b hb=>own_lt hs hb.1,hs.gl⟩ ⟨harg,trivial⟩
 unfold Oper.wp
 have hrun:=call_run (a:=a) (d:=d) (ty:=ty) (pos:=pos) (af:=af) (gd:=gd) (w:=w) (xs:=[x]) (ats:=ats) hc.run
 rw[hrun]
 refine hcall.mono fun z w' he=>?_
 obtain⟨v,rfl,hb,hres⟩:=he
 obtain⟨h1,h2⟩:=Res.rep (nx:=nx) (plainR_ok hp (own':=cx.own g σ1) hres)
 exact hK _ _ (Sim.put hs (lt_of_blt hd) hb h1 h2)
end Go.AX
namespace Go.Proofs.YtccblhpfjlgmbabGreatDoor
open Go.AX Go.RF
set_option maxRecDepth 100000
set_option maxHeartbeats 8000000
theorem new_logOwn (l:List Entry) (hl:l.length≤134217728) (hd:∀ e∈l,e.deeds.length≤134217728∧∀ d∈e.deeds,d.Sm):FnNew Tryz.prog 42 [.d (encEntries l)] 119 2 (l.map Entry.enc):=by
 refine fnNew_of tbl_ok mixed_ok Tryz.func42 rfl (by kernel_rfl) rfl rfl fun w0 own0=>?_
 try refine wk ?_
 refine CW.stut (stut_promote (i:=3) 119 2) ⟨rfl,rfl,trivial⟩ ?_
 refine CW.loopT (fun i:Nat=>[sd 9 (encEntries l),sd 10 (dint l.length),sd 11 (dint i),so 3 0 i,oa 0 119 2 ((l.take i).map Entry.enc),nxt 1]) (fun i=>i≤l.length) (fun i=>l.length - i) 0 (by omega) ?_ ?_
 ·
  exact by_less
 ·
  rintro i hi
  rcases drop_case hi with ⟨h1,h2⟩|⟨e,h1,h2,h3⟩
  ·
   subst h2
   rw[List.take_length]
   try refine wk ?_
   exact RetNew.own rfl rfl (by simp)
  ·
   have h4:(l.take i).map Entry.enc++[e.enc]=(l.take (i+1)).map Entry.enc:=by rw[List.take_add_one,h2];simp
   obtain⟨hel,hed⟩:=hd e (List.mem_of_getElem? h2)
   try refine wk ?_
   refine CW.stut (stut_promote_cell (id:=2) (j:=1) 28 3 rfl) ⟨rfl,rfl,trivial⟩ ?_
   refine CW.loopT (fun j:Nat=>[sd 9 (encEntries l),sd 10 (dint l.length),sd 11 (dint i),so 3 0 i,oa 0 119 2 ((l.take i).map Entry.enc),sp 6 2,(.o 2,.ob (.box [.d (dint e.number),.own 3 j])),oa 3 28 3 ((e.deeds.take j).map Deed.enc),sd 19 (encDeeds e.deeds),sd 20 (dint e.deeds.length),sd 21 (dint j),nxt 4])
    (fun j=>j≤e.deeds.length) (fun j=>e.deeds.length - j) 0 (by omega) ?_ ?_
   ·
    exact by_less
   ·
    rintro j hj
    rcases drop_case hj with ⟨h5,h6⟩|⟨d,h5,h6,h7⟩
    ·
     subst h6
     rw[List.take_length]
     have hst0:StopX 11:=⟨rfl⟩
     try refine wkS ?_
     clear hst0
     refine Stop.go (CW.stut (stut_freeze_cell (id:=2) (j:=1) (i:=3) rfl (by simp)) ⟨rfl,rfl,trivial⟩ ?_)
     have h8:(l.take i).map Entry.enc++[[dint e.number,.sl 3 (e.deeds.map Deed.enc)]]=(l.take (i+1)).map Entry.enc:=h4
     try refine wk ?_
     refine q_loopT (i+1) (by omega) (by omega) ?_
     exact by_less
    ·
     have h8:(e.deeds.take j).map Deed.enc++[d.enc]=(e.deeds.take (j+1)).map Deed.enc:=by rw[List.take_add_one,h6];simp
     have hd:=ok_deedOwn d (hed d (List.mem_of_getElem? h6))
     try refine wk ?_
     refine q_loopT (j+1) (by omega) (by omega) ?_
     exact by_less
theorem ok_logOwn (l:List Entry) (hl:l.length≤134217728) (hd:∀ e∈l,e.deeds.length≤134217728∧∀ d∈e.deeds,d.Sm):FnOk Tryz.prog 42 [.d (encEntries l)] (.one (encEntries l)):=(new_logOwn l hl hd).ok
theorem ok_repNew:FnOk Tryz.prog 36 [] (.one (.agg noR.enc)):=by
 refine fnOk_of tbl_ok mixed_ok Tryz.func36 rfl (by kernel_rfl) rfl rfl fun w0 own0=>?_
 have c1:=ok_pnew [] (by simp)
 have hc:FnOk Tryz.prog 59 [.d (.sl 2 [])] (.one (.agg (newE []).enc)):=c1
 repeat(first|refine wa ?_|((with_reducible apply s5);(first|exact a_call hc rfl by_sub|((with_reducible apply a_buildA);(iterate 4 exact rfl);(repeat(first|exact PartsV.nil|(apply PartsV.cons;exact rfl;exact rfl;(first|exact⟨rfl,trivial⟩|(apply nw_own;exact rfl;(focus first|exact rfl|(simp;done)|(simp;omega)))))));exact rfl)|exact by_oa|exact by_ca);exact by_g)|refine wb ?_)
 exact .one (.cell rfl rfl rfl rfl (.aggd (ds:=[encChains [],encDeeds [],encInts [],encEnds [],dint 0,dint 0,.v nilS]) rfl (DLes.agg (.cons (.refl _) (.cons (.refl _) (.cons (.refl _) (.cons (.refl _) (.cons (.refl _) (.cons (.refl _) (.cons (dle_nil 2) .nil))))))))))
abbrev ownR (r:Replica):List Part:=[.d (encChains r.engine.chains),.d (encDeeds r.engine.deeds),.d (encInts r.engine.state),.d (encEnds r.engine.ends),.d (dint r.engine.base),.d (dint r.next),.own 119 2 (r.early.map Entry.enc)]
theorem news_repOwn (r:Replica) (hs:Replica.Sm r):FnNews Tryz.prog 43 [.d (.agg r.enc)] (ownR r):=by
 refine fnNews_of tbl_ok mixed_ok Tryz.func43 rfl (by kernel_rfl) rfl rfl fun w0 own0=>?_
 have c1:=ok_planOwn r.engine hs.e
 have c2:=new_logOwn r.early hs.l hs.d
 repeat(first|refine wa ?_|((with_reducible apply s5);(first|((with_reducible apply a_buildA);(iterate 4 exact rfl);(repeat(first|exact PartsV.nil|(apply PartsV.cons;exact rfl;exact rfl;(first|exact⟨rfl,trivial⟩|(apply nw_own;exact rfl;(focus first|exact rfl|(simp;done)|(simp;omega)))))));exact rfl)|exact a_callnew c2 rfl rfl by_sub|exact by_oa|exact by_ca);exact by_g)|refine wb ?_)
 refine .cell rfl rfl rfl rfl (.cons .d (.cons .d (.cons .d (.cons .d (.cons .d (.cons .d (.cons (.own rfl (by simp)) .nil))))))) (show([2]:List Nat).Nodup by decide)
theorem ok_repOwn (r:Replica) (hs:Replica.Sm r):FnOk Tryz.prog 43 [.d (.agg r.enc)] (.one (.agg r.enc)):=by
 refine fnOk_of tbl_ok mixed_ok Tryz.func43 rfl (by kernel_rfl) rfl rfl fun w0 own0=>?_
 have c1:=ok_planOwn r.engine hs.e
 have c2:=ok_logOwn r.early hs.l hs.d
 repeat(first|refine wa ?_|((with_reducible apply s5);(first|((with_reducible apply a_buildA);(iterate 4 exact rfl);(repeat(first|exact PartsV.nil|(apply PartsV.cons;exact rfl;exact rfl;(first|exact⟨rfl,trivial⟩|(apply nw_own;exact rfl;(focus first|exact rfl|(simp;done)|(simp;omega)))))));exact rfl)|exact by_oa|exact by_ca);exact by_g)|refine wb ?_)
 exact .one (.cell rfl rfl rfl rfl (.aggd (ds:=r.enc) rfl (.refl _)))
theorem ok_indexE (l:List Entry) (n:Int) (f:FuncId) (ds:List D) (zs:List Arg) (hcap:Caps ds zs) (hp:∀ x∈l,FnOk Tryz.prog f ([.d (.agg x.enc)]++zs) (.one (dbool (decide (x.number=n))))) (hl:l.length≤1073741824) :
  FnOk Tryz.prog 118 [.d (encEntries l),.d (fnD f ds)] (.one (dint (firstN n 0 l))):=by
 refine fnOk_of tbl_ok mixed_ok Tryz.func118 rfl (by kernel_rfl) rfl rfl fun w0 own0=>?_
 try refine wk ?_
 refine CW.loopT (fun t:Nat=>[sd 0 (encEntries l),sd 1 (fnD f ds),sd 7 (dint l.length),sd 8 (dint t),nxt 0])
  (fun t=>t≤l.length∧firstN n t (l.drop t)=firstN n 0 l) (fun t=>l.length - t) 0 ⟨by omega,rfl⟩ ?_ ?_
 ·
  exact by_less
 ·
  rintro t ⟨ht,hI⟩
  rcases drop_case ht with ⟨h1,h2⟩|⟨x,h1,h2,h3⟩
  ·
   rw[h1,firstN]at hI
   try refine wk ?_
   rw[← hI]
   exact .one (.tmp rfl (.one (.d (.refl _))))
  ·
   rw[h1,firstN]at hI
   have hx:=hp x (List.mem_of_getElem? h2)
   by_cases h:x.number=n
   ·
    rw[if_pos h]at hI
    rw[decide_eq_true h]at hx
    repeat(first|refine wa ?_|((with_reducible apply s5);(first|(focus (with_reducible apply(a_callfn (ys:=[.d (.agg x.enc)])));exact hx;exact hcap;exact rfl;exact rfl;exact by_sub)|exact by_oa|exact by_ca);exact by_g)|refine wb ?_)
    rw[← hI]
    exact .one (.tmp rfl (.one (.d (.refl _))))
   ·
    rw[if_neg h]at hI
    rw[decide_eq_false h]at hx
    repeat(first|refine wa ?_|((with_reducible apply s5);(first|(focus (with_reducible apply(a_callfn (ys:=[.d (.agg x.enc)])));exact hx;exact hcap;exact rfl;exact rfl;exact by_sub)|exact by_oa|exact by_ca);exact by_g)|refine wb ?_)
    refine q_loopT (t+1) ⟨by omega,hI⟩ (by omega) ?_
    exact by_less
theorem firstN_has {n:Int}:∀ {l:List Entry}{i:Nat},decide (0≤firstN n i l)=hasN n l
 | [],i=>rfl
 |x::l,i=>by
  simp only[hasN]
  by_cases h:x.number=n
  ·
   have h1:firstN n i (x::l)=(i:Int):=by simp only[firstN];rw[if_pos h]
   rw[if_pos h,h1];exact decide_eq_true (by omega)
  ·
   have h1:firstN n i (x::l)=firstN n (i+1) l:=by simp only[firstN];rw[if_neg h]
   rw[if_neg h,h1,firstN_has]
theorem ok_containsE (l:List Entry) (n:Int) (f:FuncId) (ds:List D) (zs:List Arg) (hcap:Caps ds zs) (hp:∀ x∈l,FnOk Tryz.prog f ([.d (.agg x.enc)]++zs) (.one (dbool (decide (x.number=n))))) (hl:l.length≤1073741824) :
  FnOk Tryz.prog 87 [.d (encEntries l),.d (fnD f ds)] (.one (dbool (hasN n l))):=by
 refine fnOk_of tbl_ok mixed_ok Tryz.func87 rfl (by kernel_rfl) rfl rfl fun w0 own0=>?_
 have c1:=ok_indexE l n f ds zs hcap hp hl
 have h:=firstN_has (n:=n) (l:=l) (i:=0)
 rw[← h]
 generalize firstN n 0 l=k at *
 try refine wk ?_
 exact .one (.tmp rfl (.one (.d (dle_bool rfl))))
end Go.Proofs.YtccblhpfjlgmbabGreatDoor
