/-
  Part 3 of what the claim leans on: P2 Sh G2 G5 G6 G7 AxBool AxFam AxFam2 G8 AxPin4 G11 AxIns G12 G9 AxPin5 G10 F4 F11 L2 AxLaid P3 L3 AxFnD AxMap Rn R1.
-/
import Derived.Test.YtfpkamiobdkcpaaK2
import Derived.Shelf.Small.Strs
import Derived.Test.YtfpkamiobdkcpaaProg
import Derived.RangeFuncNested
import Derived.RangeFuncLeaves
import Derived.Shelf.Abstract
import Derived.WalkKit
import Derived.OwnWalkIn
import Derived.TacticsInMore
import Derived.LoopNIn
import Derived.LoopIn
import Derived.Laws.Small
import Derived.Shelf.Spec.SlicesInsertGrow
import Derived.Maps.AppendAt
import Derived.Shelf.Vars
import Derived.FnData
import Derived.MapKept
set_option linter.all false

namespace Go.Proofs.Ytfpkamiobdkcpaa
open Go.AX Go.RF
theorem rightVs_srt:∀ {l:List Version}{p:Option Int},rightVs p l=true→VSrt l∧(∀ v∈l,-1≤v.by_∧v.by_≤1000000∧nOk v.n)∧∀ u,p=some u→∀ v∈l,u < v.by_
 | [],p,_=>⟨List.Pairwise.nil,by simp,by simp⟩
 |v::l,p,h=>by
  simp only[rightVs]at h
  cases hb:vBad p v with
  |true=>rw[hb]at h;simp at h
  |false =>
   rw[hb]at h
   simp only[Bool.false_eq_true,if_false]at h
   obtain⟨h1,h2,h3⟩:=rightVs_srt h
   simp only[vBad,Bool.or_eq_false_iff,decide_eq_false_iff_not]at hb
   obtain⟨b1,b2,b3,b4,b5,_⟩:=hb
   have h4:=h3 v.by_ rfl
   refine⟨VSrt.cons.2 ⟨h4,h1⟩,fun w hw=>?_,fun u hu w hw=>?_⟩
   ·
    rcases List.mem_cons.1 hw with rfl|hw
    ·
     exact⟨by omega,by omega,by unfold nOk;omega⟩
    ·
     exact h2 w hw
   ·
    subst hu
    have h5:u < v.by_:=by simpa[prevBad] using b3
    rcases List.mem_cons.1 hw with rfl|hw
    ·
     exact h5
    ·
     exact Int.lt_trans h5 (h4 w hw)
structure RC (l:List Chain):Prop where
 s:Srt Chain.key l
 v:∀ c∈l,VSrt c.vs
 k:∀ c∈l,key c.key=true
 n:∀ c∈l,c.vs≠[]
 b:∀ c∈l,∀ v∈c.vs,-1≤v.by_∧v.by_≤1000000∧nOk v.n
theorem rightCs_srt:∀ {l:List Chain}{p:Option Str},rightCs p l=true→RC l∧∀ u,p=some u→∀ c∈l,slt u c.key=true
 | [],p,_=>⟨⟨List.Pairwise.nil,by simp,by simp,by simp,by simp⟩,by simp⟩
 |c::l,p,h=>by
  simp only[rightCs]at h
  cases hb:cBad p c with
  |true=>rw[hb]at h;simp at h
  |false =>
   rw[hb]at h
   simp only[Bool.false_eq_true,if_false]at h
   by_cases hv:rightVs none c.vs=true
   ·
    rw[if_pos hv]at h
    obtain⟨h1,h2⟩:=rightCs_srt h
    obtain⟨v1,v2,_⟩:=rightVs_srt hv
    simp only[cBad,Bool.or_eq_false_iff,Bool.not_eq_false',decide_eq_false_iff_not]at hb
    obtain⟨b1,b2,b3⟩:=hb
    have h4:=h2 c.key rfl
    refine⟨⟨List.pairwise_cons.2 ⟨h4,h1.s⟩,?_,?_,?_,?_⟩,fun u hu d hd=>?_⟩
    ·
     exact fun d hd=>by
             rcases List.mem_cons.1 hd with rfl|hd
             ·
              exact v1
             ·
              exact h1.v d hd
    ·
     exact fun d hd=>by
             rcases List.mem_cons.1 hd with rfl|hd
             ·
              exact b1
             ·
              exact h1.k d hd
    ·
     exact fun d hd=>by
             rcases List.mem_cons.1 hd with rfl|hd
             ·
              exact b3
             ·
              exact h1.n d hd
    ·
     exact fun d hd=>by
             rcases List.mem_cons.1 hd with rfl|hd
             ·
              exact v2
             ·
              exact h1.b d hd
    ·
     subst hu
     have h5:slt u c.key=true:=by simpa[prevSBad] using b2
     rcases List.mem_cons.1 hd with rfl|hd
     ·
      exact h5
     ·
      exact slt_trans h5 (h4 d hd)
   ·
    rw[if_neg hv]at h;simp at h
theorem rightChains_srt {l:List Chain}(h:rightChains l=true):RC l:=(rightCs_srt h).1
theorem chains_srt {r:List Pair}(h:Srt Pair.key r):Srt Chain.key (r.map rowChain):=List.pairwise_map.2 h
theorem before_row {r:List Pair}(h:Srt Pair.key r) {p:Pair}(hp:p∈r) {b:Int}(hb : -1 < b):before (r.map rowChain) p.key b=⟨-1,true,true,p.n⟩:=by
 obtain⟨i,hi⟩:=List.getElem?_of_mem hp
 unfold before
 have hil:=(List.getElem?_eq_some_iff.1 hi).1
 have hsp:r=r.take i++p::r.drop (i+1):=by
  have h1:=List.take_append_drop i r
  rw[List.drop_eq_getElem_cons hil,(List.getElem?_eq_some_iff.1 hi).2]at h1
  exact h1.symm
 have hne:∀ q∈r.take i++r.drop (i+1),q.key≠p.key:=by
  intro q hq
  rcases List.mem_append.1 hq with hq|hq
  ·
   obtain⟨j,hj⟩:=List.getElem?_of_mem hq
   rw[List.getElem?_take]at hj
   split at hj
   ·
    exact h.ne hj hi (by omega)
   ·
    cases hj
  ·
   obtain⟨j,hj⟩:=List.getElem?_of_mem hq
   rw[List.getElem?_drop]at hj
   exact h.ne hj hi (by omega)
 have n1:∀ out,beforeGo p.key b out ((r.take i).map rowChain)=out:=fun out=>beforeGo_none fun c hc=>by
  obtain⟨q,hq,rfl⟩:=List.mem_map.1 hc
  exact hne q (List.mem_append_left _ hq)
 have n2:∀ out,beforeGo p.key b out ((r.drop (i+1)).map rowChain)=out:=fun out=>beforeGo_none fun c hc=>by
  obtain⟨q,hq,rfl⟩:=List.mem_map.1 hc
  exact hne q (List.mem_append_right _ hq)
 rw[hsp,List.map_append,beforeGo_append,n1,List.map_cons]
 simp only[beforeGo]
 rw[n2]
 simp[rowChain,bvs,hb]
theorem rowsAtGo_rows {r0:List Pair}(h:Srt Pair.key r0) {b:Int}(hb : -1 < b):∀ {r out:List Pair},(∀ p∈r,p∈r0)→rowsAtGo (r0.map rowChain) b out (r.map rowChain)=(out++r,true)
 | [],out,_=>by simp[rowsAtGo]
 |p::r,out,hr=>by
  have h1:before (r0.map rowChain) (rowChain p).key b=⟨-1,true,true,p.n⟩:=before_row h (hr p (List.mem_cons_self ..)) hb
  simp only[List.map_cons,rowsAtGo,h1,Bool.true_eq_false,if_false,if_true]
  rw[rowsAtGo_rows h hb fun q hq=>hr q (List.mem_cons_of_mem _ hq)]
  simp[rowChain]
theorem rowsAt_rows {r:List Pair}(h:Srt Pair.key r) {b:Int}(hb : -1 < b):rowsAt (r.map rowChain) b=(r,true):=by
 unfold rowsAt
 rw[rowsAtGo_rows h hb (fun _ h=>h)]
 rfl
theorem rowsAtGo_len {l0:List Chain}{b:Int}:∀ (l:List Chain) (out:List Pair),(rowsAtGo l0 b out l).1.length≤out.length+l.length
 | [],out=>by simp[rowsAtGo]
 |c::l,out=>by
  simp only[rowsAtGo]
  split
  ·
   simp
  split
  ·
   have:=rowsAtGo_len (l0:=l0) (b:=b) l (out++[⟨c.key,(before l0 c.key b).n⟩]);simp at this ⊢;omega
  ·
   have:=rowsAtGo_len (l0:=l0) (b:=b) l out;simp at this ⊢;omega
theorem rowsAt_len (l:List Chain) (b:Int):(rowsAt l b).1.length≤l.length:=by
 have:=rowsAtGo_len (l0:=l) (b:=b) l []
 unfold rowsAt
 simpa using this
theorem same_refl (l:List Chain):allB sameC l l=true:=allB_refl sameC_refl l
theorem addS_len {k:Str}{b:Int}:∀ l:List Chain,(addS k b l).length≤l.length+1
 | []=>by simp[addS]
 |c::l=>by
  have:=addS_len (k:=k) (b:=b) l
  simp only[addS]
  split
  ·
   simp
  ·
   split
   ·
    simp;omega
   ·
    simp
theorem addS_vs {k:Str}{b:Int}{l:List Chain}{N:Nat}(h:∀ c∈l,c.vs.length≤N):∀ c∈addS k b l,c.vs.length≤N+1:=by
 intro c hc
 rcases addS_mem hc with h0|rfl|⟨c0,h0,_,rfl⟩
 ·
  have:=h c h0;omega
 ·
  simp
 ·
  have:=h c0 h0;simp;omega
theorem set_len (l:List Chain) (k:Str) (v:Version):(setChains l k v).length=l.length:=by simp[setChains]
theorem clear_vs {l:List Chain}{b:Int}{N:Nat}(h:∀ c∈l,c.vs.length≤N):∀ c∈clear b l,c.vs.length≤N:=by
 intro c hc
 obtain⟨c0,h0,rfl⟩:=clear_mem hc
 exact Nat.le_trans (clrV_sublist _).length_le (h c0 h0)
end Go.Proofs.Ytfpkamiobdkcpaa
namespace Go.Proofs
open Go.Shelf Go.RowKit
def Try.lays106_ren:Go.Shelf.Ren:=⟨fun|106=>48|213=>60|265=>66|n=>n,fun|9=>9|3=>3|n=>n,fun|n=>n⟩
theorem Try.lays106:Go.Proofs.Lays.n106 Try.prog Try.lays106_ren:={
 mixed:=by kernel_rfl
 f106:=Try.func48.trans (congrArg some (by kernel_rfl))
 f213:=Try.func60.trans (congrArg some (by kernel_rfl))
 f265:=Try.func66.trans (congrArg some (by kernel_rfl))
 t3:=Try.underlying3
 a3:=Try.isAgg3
 z3:=Try.sizeOf3
 v3:=Try.zeroValue3
 t9:=Try.underlying9
 a9:=Try.isAgg9
 z9:=Try.sizeOf9
 v9:=Try.zeroValue9 }
theorem Try.strings_Compare (a b:ByteArray) (w:World) :
  Calls Try.prog 48 #[.string a,.string b] w fun e w'=>e = .returned (.int .i64 (Lib.compareBytes a.data.toList b.data.toList))∧w'=w:=Any.strings_Compare Try.lays106 a b w
end Go.Proofs
namespace Go.Proofs.Ytfpkamiobdkcpaa
open Go.AX Go.RF Go.RowKit
set_option maxRecDepth 100000
set_option maxHeartbeats 4000000
def cmpT (a b:Str):Int:=if slt a b=true then -1 else if a=b then 0 else 1
theorem compare_eq:∀ (a b:Str),Lib.compareBytes a b=cmpT a b
 | [],[]=>by simp[Lib.compareBytes,cmpT,bl_nil]
 | [],b::r=>by simp[Lib.compareBytes,cmpT,bl_nil_cons]
 |a::l,[]=>by simp[Lib.compareBytes,cmpT,bl_nil]
 |a::l,b::r=>by
  simp only[Lib.compareBytes,cmpT,bl_cons]
  by_cases h1:a < b
  ·
   simp[h1]
  ·
   by_cases h2:b < a
   ·
    have h3:¬ a=b:=fun h=>by subst h;exact h1 h2
    simp[h1,h2,h3]
   ·
    have h3:a=b:=UInt8.le_antisymm (UInt8.not_lt.1 h2) (UInt8.not_lt.1 h1)
    subst h3
    rw[compare_eq l r]
    simp[h1,cmpT]
theorem cmpT_lt {a b:Str}:cmpT a b < 0↔slt a b=true:=by
 unfold cmpT
 split
 ·
  next h=>simp[h]
 ·
  next h=>split <;> simp[h]
theorem cmpT_zero {a b:Str}:cmpT a b=0↔a=b:=by
 unfold cmpT
 split
 ·
  next h =>
  constructor
  ·
   intro h0;simp at h0
  ·
   intro h0;subst h0;rw[slt_irrefl]at h;cases h
 ·
  split <;> simp_all
theorem ok_compare (a b:Str):FnOk Try.prog 48 [.d (dstr a),.d (dstr b)] (.one (dint (cmpT a b))):=by
 refine⟨⟨_,Try.func48,rfl,rfl⟩,fun w own vs hown ha=>?_⟩
 match vs,ha with
 | [x,y],⟨h1,h2,_⟩ =>
  obtain rfl:x=str a:=rd_v h1
  obtain rfl:y=str b:=rd_v h2
  refine(Try.strings_Compare ⟨a.toArray⟩ ⟨b.toArray⟩ w).mono fun e w' he=>?_
  obtain⟨rfl,rfl⟩:=he
  exact⟨_,rfl,Below.refl _ _,by rw[← compare_eq];exact Rd.v _⟩
theorem ok_find1 (c:Chain) (k:Str):FnOk Try.prog 47 [.d (.agg c.enc),.d (dstr k)] (.one (dint (cmpT c.key k))):=by
 refine fnOk_of tbl_ok mixed_ok Try.func47 rfl (by kernel_rfl) rfl rfl fun w0 own0=>?_
 have hc:=ok_compare c.key k
 try refine wk ?_
 exact .one (.tmp rfl (.one (.d (.refl _))))
abbrev At (l:List Chain) (k:Str) (m:Nat):Prop:=AtK Chain.key l k m
abbrev isAt (l:List Chain) (k:Str) (m:Nat):Bool:=isAtK Chain.key l k m
theorem ok_bsearch (l:List Chain) (k:Str) (m:Nat) (hl:l.length≤268435456) (hm:At l k m) :
  FnOk Try.prog 46 [.d (encChains l),.d (dstr k),.d (.v (.func (.func 47) #[] #[]))] (.tup [dint m,dbool (isAt l k m)]):=by
 refine fnOk_of tbl_ok mixed_ok Try.func46 rfl (by kernel_rfl) rfl rfl fun w0 own0=>?_
 have hml:=hm.le
 try refine wk ?_
 refine CW.loopT (fun t:Nat×Nat=>[sd 0 (encChains l),sd 1 (dstr k),sd 2 (.v (.func (.func 47) #[] #[])),sd 8 (dint l.length),sd 9 (dint t.1),sd 10 (dint t.2),nxt 0])
  (fun t=>t.1≤m∧m≤t.2∧t.2≤l.length) (fun t=>t.2 - t.1) (0,l.length) ⟨by omega,hm.le,by omega⟩ ?_ ?_
 ·
  exact by_less
 ·
  rintro ⟨i,j⟩ ⟨h1,h2,h3⟩
  dsimp only at h1 h2 h3 ⊢
  by_cases h4:i < j
  ·
   obtain⟨c,hc⟩:∃ c,l[(i+j) / 2]? = some c:=⟨l[(i+j) / 2]'(by omega),List.getElem?_eq_getElem (by omega)⟩
   have hcall:=ok_find1 c k
   have hst0:StopR 4:=⟨rfl⟩
   try refine wkS ?_
   clear hst0
   refine Stop.cutk [sd 11 (dint ((i+j) / 2:Nat))] [.s 0,.s 1,.s 2,.s 8,.s 9,.s 10,.nx] ?_ ?_
   ·
    repeat(first|refine wa ?_|((with_reducible apply s5);(first|((with_reducible apply a_bin);(iterate 2 exact rfl);exact bin_half;exact rfl)|exact by_oa|exact by_ca);exact by_g)|refine wb ?_)
    refine q_cut ?_
    exact by_less
   have hcz:=@cmpT_lt c.key k
   by_cases h5:cmpT c.key k < 0
   ·
    have h6:(i+j) / 2 < m:=by
     rcases Nat.lt_or_ge ((i+j) / 2) m with h|h
     ·
      exact h
     ·
      have:=hm.ge _ c hc h
      rw[hcz.1 h5]at this;cases this
    repeat(first|refine wa ?_|((with_reducible apply s5);(first|exact a_callv hcall rfl rfl by_sub|exact by_oa|exact by_ca);exact by_g)|refine wb ?_)
    refine q_loopT ((i+j) / 2+1,j) ⟨by dsimp only;omega,h2,h3⟩ (by dsimp only;omega) ?_
    exact by_less
   ·
    have h6:m≤(i+j) / 2:=by
     rcases Nat.lt_or_ge ((i+j) / 2) m with h|h
     ·
      exact absurd (hcz.2 (hm.lt _ c hc h)) h5
     ·
      exact h
    repeat(first|refine wa ?_|((with_reducible apply s5);(first|exact a_callv hcall rfl rfl by_sub|exact by_oa|exact by_ca);exact by_g)|refine wb ?_)
    refine q_loopT (i,(i+j) / 2) ⟨h1,h6,by dsimp only;omega⟩ (by dsimp only;omega) ?_
    exact by_less
  ·
   obtain rfl:i=m:=by omega
   cases hc:l[i]? with
   |none =>
    have h5:l.length≤i:=by
     rcases Nat.lt_or_ge i l.length with h|h
     ·
      rw[List.getElem?_eq_getElem h]at hc;cases hc
     ·
      exact h
    try refine wk ?_
    exact .two (.tmp rfl (.one (.d (.refl _)))) (.tmp rfl (.one (.d (dle_bool (by simp[isAtK,hc])))))
   |some c =>
    have h5:i < l.length:=(List.getElem?_eq_some_iff.1 hc).1
    have hcall:=ok_find1 c k
    repeat(first|refine wa ?_|((with_reducible apply s5);(first|exact a_callv hcall rfl rfl by_sub|exact by_oa|exact by_ca);exact by_g)|refine wb ?_)
    refine .two (.tmp rfl (.one (.d (.refl _)))) (.tmp rfl (.one (.d (dle_bool ?_))))
    rw[show isAt l k i=decide (c.key=k) by simp[isAt,isAtK,hc]]
    show decide (cmpT c.key k=0)=decide (c.key=k)
    rw[decide_eq_decide]
    exact cmpT_zero
theorem ok_find (l:List Chain) (k:Str) (m:Nat) (hl:l.length≤268435456) (hm:At l k m):FnOk Try.prog 33 [.d (encChains l),.d (dstr k)] (.tup [dint m,dbool (isAt l k m)]):=by
 refine fnOk_of tbl_ok mixed_ok Try.func33 rfl (by kernel_rfl) rfl rfl fun w0 own0=>?_
 have hc:=ok_bsearch l k m hl hm
 try refine wk ?_
 exact .two (.tmp rfl (.one (.d (.refl _)))) (.tmp rfl (.one (.d (.refl _))))
end Go.Proofs.Ytfpkamiobdkcpaa
namespace Go.Proofs.Ytfpkamiobdkcpaa
open Go.AX Go.RF Go.RowKit Go.Shelf
attribute [local go_sem] Oper.semAt_some
def verV (v:Version):Value := .agg #[.int .i64 v.by_,.bool v.made,.bool v.has,.int .i64 v.n]
def verC (v:Version) (j:Nat):Value:=match j with
 |0 => .int .i64 v.by_
 |1 => .bool v.made
 |2 => .bool v.has
 |_ => .int .i64 v.n
def back (vs:List Version) (k:Nat):List (Nat×Version):=(List.range k).map fun j=>(vs.length - 1 - j,vs[vs.length - 1 - j]?.getD ⟨0,false,false,0⟩)
theorem back_succ (vs:List Version) (k:Nat):back vs (k+1)=back vs k++[(vs.length - 1 - k,vs[vs.length - 1 - k]?.getD ⟨0,false,false,0⟩)]:=by simp[back,List.range_succ]
theorem back_length (vs:List Version) (k:Nat):(back vs k).length=k:=by simp[back]
def VerAt (n₀:Nat) (W:World) (ad:Addr) (vs:List Version):Prop:=ad.block < n₀∧∀ (i j:Nat) (v:Version),vs[i]? = some v→j < 4→W.cell? (ad.add (i*4+j))=some (verC v j)
theorem VerAt.below {n₀:Nat}{A B:World}{ad:Addr}{vs:List Version}(h:VerAt n₀ A ad vs) (hb:Below n₀ A B):VerAt n₀ B ad vs :=
 ⟨h.1,fun i j v hi hj=>(hb.cell (by rw[add_block];exact h.1)).trans (h.2 i j v hi hj)⟩
theorem ver_cells {n₀:Nat}{W:World}{ad:Addr}{vs:List Version}(h:VerAt n₀ W ad vs) {i:Nat}{v:Version}(hi:vs[i]? = some v) :
  W.cell? (ad.add (i*4))=some (.int .i64 v.by_)∧W.cell? ⟨(ad.add (i*4)).block,(ad.add (i*4)).off+1,none⟩=some (.bool v.made) ∧
   W.cell? ⟨(ad.add (i*4)).block,(ad.add (i*4)).off+2,none⟩=some (.bool v.has)∧W.cell? ⟨(ad.add (i*4)).block,(ad.add (i*4)).off+3,none⟩=some (.int .i64 v.n):=by
 have hx:∀ j,j < 4→W.cell? ((ad.add (i*4)).add j)=some (verC v j):=fun j hj=>by rw[add_add];exact h.2 i j v hi hj
 exact⟨hx 0 (by omega),hx 1 (by omega),hx 2 (by omega),hx 3 (by omega)⟩
set_option maxRecDepth 100000 in
set_option maxHeartbeats 2000000 in
theorem backward1_in (F:Fence) (n:Nat) (hF:F.fn 49) (hro:F.round=none) (hn:1≤n) (l Bs n₀ cap:Nat) (ad:Addr) (vs:List Version) (hreach:vs.length≤268435456) (J Jx:List (Nat×Version)→World→Prop)
  (hY:∀ pre x W,J pre W→pre.length < vs.length→YieldAt F (n - 1) Try.prog l #[.int .i64 (x.1:Int),verV x.2] W fun e W' =>
   (e = .returned (.bool true)∧J (pre++[x]) W'∧Below n₀ W W')∨(e = .returned (.bool false)∧Jx (pre++[x]) W'))
  (W:World) (hBs:W.cell? ⟨Bs,0,none⟩=some (.slice (some ad) vs.length cap)) (hBl:Bs < n₀) (hc:VerAt n₀ W ad vs) (h0:J [] W) :
  CallsIn F n Try.prog 49 #[.func (.yield l) #[] #[],.pointer (some ⟨Bs,0,none⟩)] W fun e W'=>(∃ v,e = .returned v) ∧
   ((∃ ys,ys=back vs vs.length∧J ys W')∨(∃ pre,(∃ k,k≤vs.length∧pre=back vs k)∧Jx pre W')):=by
 refine callsIn_of_wp Try.func49 rfl hF ?_ hro
 simp only[Try.ntmps49,List.size_toArray,List.length_cons,List.length_nil,Nat.reduceAdd,Nat.reduceSub,Array.replicate_succ,Array.replicate_zero,List.push_toArray,List.append_toArray,List.nil_append,List.cons_append]
 gi_wp2
 gi_loopw [3] (fun i wr=>∃ k:Nat,k≤vs.length∧i = .int .i64 ((vs.length:Int) - 1 - k)∧J (back vs k) wr∧Below n₀ W wr)
  (fun i _=>(intOf i+1).toNat)
 case atStart=>exact⟨0,Nat.zero_le _,by simp,h0,Below.refl _ _⟩
 case round =>
  obtain⟨k,hk,rfl,hJs,hnx⟩:=hrel
  by_cases hlt:k < vs.length
  ·
   obtain⟨i,hi,hi2⟩:∃ i:Nat,(vs.length:Int) - 1 - k=i∧i=vs.length - 1 - k:=⟨vs.length - 1 - k,by omega,rfl⟩
   obtain⟨v,hv⟩:∃ v,vs[i]? = some v:=⟨vs[i]'(by omega),List.getElem?_eq_getElem (by omega)⟩
   have hB2:wr.cell? ⟨Bs,0,none⟩=some (.slice (some ad) vs.length cap):=(hnx.cell (p:=⟨Bs,0,none⟩) hBl).trans hBs
   obtain⟨hc0,hc1,hc2,hc3⟩:=ver_cells (hc.below hnx) hv
   obtain⟨fn,tmps,assign,body,hy,hR⟩:=hY _ (i,v) wr hJs (by rw[back_length];exact hlt)
   dsimp only at hy
   have hi0:(0:Int)≤(i:Int):=by omega
   have hlen:i < vs.length:=by omega
   have hnext:back vs k++[(i,v)]=back vs (k+1):=by rw[back_succ,← hi2,hv];rfl
   rw[hi]
   clear hi2
   unfold verV at hy
   gi_wp2
   refine hR.mono ?_
   rintro e W3 (⟨rfl,hJ3,hk3⟩|⟨rfl,hJx3⟩)
   ·
    gi_wp2
    go_roundw
    case rel=>exact⟨k+1,by omega,by congr 1 <;> omega,by rw[← hnext];exact hJ3,hnx.trans hk3⟩
    case measure=>simp[intOf] <;> omega
   ·
    gi_wp2
    refine bodyPost_ret (results_none rfl _ _ _) rfl ?_
    exact⟨⟨_,rfl⟩,.inr ⟨_,⟨k+1,by omega,hnext⟩,hJx3⟩⟩
  ·
   obtain rfl:k=vs.length:=by omega
   have hi:(vs.length:Int) - 1 - vs.length = -1:=by omega
   rw[hi]
   gi_wp2
   go_end0
   exact⟨⟨_,rfl⟩,.inl ⟨_,rfl,hJs⟩⟩
set_option maxRecDepth 100000 in
set_option maxHeartbeats 1000000 in
theorem backward1_nil_in (F:Fence) (n:Nat) (hF:F.fn 49) (hro:F.round=none) (l Bs cap:Nat) (p:Option Addr) (J:List (Nat×Version)→World→Prop) (W:World) (hBs:W.cell? ⟨Bs,0,none⟩=some (.slice p 0 cap)) (h0:J [] W) :
  CallsIn F n Try.prog 49 #[.func (.yield l) #[] #[],.pointer (some ⟨Bs,0,none⟩)] W fun e W'=>(∃ v,e = .returned v)∧J [] W':=by
 refine callsIn_of_wp Try.func49 rfl hF ?_ hro
 simp only[Try.ntmps49,List.size_toArray,List.length_cons,List.length_nil,Nat.reduceAdd,Nat.reduceSub,Array.replicate_succ,Array.replicate_zero,List.push_toArray,List.append_toArray,List.nil_append,List.cons_append]
 gi_wp2
 gi_loopw [3] (fun i wr=>i = .int .i64 (-1)∧J [] wr) (fun _ _=>0)
 case atStart=>exact⟨rfl,h0⟩
 case round =>
  obtain⟨rfl,hJs⟩:=hrel
  gi_wp2
  go_end0
  exact⟨⟨_,rfl⟩,hJs⟩
set_option maxHeartbeats 1000000 in
theorem backward_in (F:Fence) (n:Nat) (hF:F.fn 34) (hro:F.round=none) (a:Option Addr) (len cap:Nat) (w:World) :
  CallsIn F n Try.prog 34 #[.slice a len cap] w fun e w'=>e = .returned (.func (.func 49) #[] #[.pointer (some ⟨w.heap.size,0,none⟩)])∧w'=w.alloc (.cells #[.slice a len cap] 43):=by
 refine callsIn_of_wp Try.func34 rfl hF ?_ hro
 simp only[Try.ntmps34,List.size_toArray,List.length_cons,List.length_nil,Nat.reduceAdd,Nat.reduceSub,Array.replicate_succ,Array.replicate_zero,List.push_toArray,List.append_toArray,List.nil_append,List.cons_append]
 gi_wp2
 go_ret
 exact⟨rfl,rfl⟩
def Vers (n₀:Nat) (W:World) (sv:Value) (vs:List Version):Prop :=
 ∃ p cap,sv = .slice p vs.length cap∧(vs=[]∨∃ ad,p=some ad∧VerAt n₀ W ad vs)
theorem Vers.below {n₀:Nat}{A B:World}(h:Below n₀ A B) {sv:Value}{vs:List Version}:Vers n₀ A sv vs→Vers n₀ B sv vs
 |⟨p,cap,e,.inl h0⟩=>⟨p,cap,e,.inl h0⟩
 |⟨p,cap,e,.inr ⟨ad,h1,h2⟩⟩=>⟨p,cap,e,.inr ⟨ad,h1,h2.below h⟩⟩
theorem Vers.mono {n₀ n₁:Nat}{A:World}(h:n₀≤n₁) {sv:Value}{vs:List Version}:Vers n₀ A sv vs→Vers n₁ A sv vs
 |⟨p,cap,e,.inl h0⟩=>⟨p,cap,e,.inl h0⟩
 |⟨p,cap,e,.inr ⟨ad,h1,h2⟩⟩=>⟨p,cap,e,.inr ⟨ad,h1,⟨Nat.lt_of_lt_of_le h2.1 h,h2.2⟩⟩⟩
theorem backward_stops (F:Fence) (n:Nat) (hF:F.fn 49) (hro:F.round=none) (hn:1≤n) (Bs n₀:Nat) (sv:Value) (vs:List Version) (hreach:vs.length≤268435456) (w:World) (hBs:Bs < n₀) (hn₀:n₀≤w.heap.size)
  (hc:w.cell? ⟨Bs,0,none⟩=some sv) (hI:Vers n₀ w sv vs) :
  SeqStopsK F n Try.prog 49 #[.pointer (some ⟨Bs,0,none⟩)] (fun x:Nat×Version => #[Value.int .i64 (x.1:Int),verV x.2]) (Below n₀) (fun ys=>ys=back vs vs.length)
   (fun pre=>∃ k,k≤vs.length∧pre=back vs k) vs.length w:=fun l J Jx W hW _ _ hY h0=>by
 have hc':=(hW.cell (p:=⟨Bs,0,none⟩) (show Bs < w.heap.size by omega)).trans hc
 obtain⟨p,cap,rfl,rfl|⟨ad,rfl,hv⟩⟩:=hI.below (hW.mono hn₀)
 ·
  exact(backward1_nil_in F n hF hro l Bs cap p J W hc' h0).mono fun e W' ⟨he,hj⟩=>⟨he,.inl ⟨_,rfl,hj⟩⟩
 ·
  exact backward1_in F n hF hro hn l Bs n₀ cap ad vs hreach J Jx hY W hc' hBs hv h0
attribute [local go_sem] Oper.semAt_some
def AllGe (b:Int) (pre:List (Nat×Version)):Prop:=∀ x∈pre,b≤x.2.by_
def Hit (b:Int) (pre:List (Nat×Version)) (v:Version):Prop:=∃ ini i,pre=ini++[(i,v)]∧AllGe b ini∧v.by_ < b
theorem AllGe.snoc {b:Int}{pre:List (Nat×Version)}(h:AllGe b pre) {i:Nat}{v:Version}(hv:b≤v.by_):AllGe b (pre++[(i,v)]):=fun x hx=>by
 rcases List.mem_append.1 hx with hx|hx
 ·
  exact h x hx
 ·
  simp at hx;subst hx;exact hv
def Box4 (W:World) (B:Nat) (v:Version):Prop:=W.heap[B]? = some (.cells #[.int .i64 v.by_,.bool v.made,.bool v.has,.int .i64 v.n] 26 (0,0))
theorem Box4.lt {W:World}{B:Nat}{v:Version}(h:Box4 W B v):B < W.heap.size:=(Array.getElem?_eq_some_iff.1 h).1
theorem Box4.cells {W:World}{B:Nat}{v:Version}(h:Box4 W B v):W.cell? ⟨B,0,none⟩=some (.int .i64 v.by_)∧W.cell? ⟨B,1,none⟩=some (.bool v.made)∧W.cell? ⟨B,2,none⟩=some (.bool v.has)∧W.cell? ⟨B,3,none⟩=some (.int .i64 v.n):=by
 have h':W.heap[B]? = _:=h
 refine⟨?_,?_,?_,?_⟩ <;> simp[World.cell?,h']
theorem Box4.frozens {W:World}{B:Nat}{v:Version}(h:Box4 W B v):W.frozen? ⟨B,0,none⟩=false∧W.frozen? ⟨B,1,none⟩=false∧W.frozen? ⟨B,2,none⟩=false∧W.frozen? ⟨B,3,none⟩=false:=by
 have h':W.heap[B]? = _:=h
 refine⟨?_,?_,?_,?_⟩ <;> simp[World.frozen?,h']
theorem Box4.kept {W W':World}{row:Option Nat}{B:Nat}{v:Version}(h:Box4 W B v) (hg:W.grownBy W' row) (hne:some B≠row):Box4 W' B v:=(hg.block B h.lt hne).trans h
theorem Box4.alloc {W:World}{B:Nat}{v:Version}(h:Box4 W B v) (o:Obj):Box4 (W.alloc o) B v:=h.kept (World.grownBy_alloc W o none) (by simp)
theorem Box4.below {n:Nat}{W W':World}{B:Nat}{v:Version}(h:Box4 W B v) (hb:Below n W W') (hB:B < n):Box4 W' B v:=(hb.block B hB).trans h
theorem box4_own (B:Nat) {β:Type}(f:β→Version):Own (fun s W=>Box4 W B (f s)):=fun s X Y row hs hg hrow =>
 Box4.kept hs hg (fun e=>by
  obtain⟨o,ho,hc⟩:=hrow B e.symm
  rw[show X.heap[B]? = _ from hs]at ho
  cases ho
  simp[Obj.isCells]at hc)
theorem sets_box {W:World}{B:Nat}{v:Version}(h:Box4 W B v) (u:Version) :
  Box4 ((((W.setCell ⟨B,0,none⟩ (.int .i64 u.by_)).setCell ⟨B,1,none⟩ (.bool u.made)).setCell ⟨B,2,none⟩ (.bool u.has)).setCell ⟨B,3,none⟩ (.int .i64 u.n)) B u:=by
 have h':W.heap[B]? = _:=h
 simp[Box4,World.setCell,Array.getElem?_modify,h']
theorem sets_keeps (W:World) (B:Nat) (a b c d:Value):KeepsOthers W ((((W.setCell ⟨B,0,none⟩ a).setCell ⟨B,1,none⟩ b).setCell ⟨B,2,none⟩ c).setCell ⟨B,3,none⟩ d) :=
 (((KeepsOthers.setCell W _ _).trans (KeepsOthers.setCell _ _ _)).trans (KeepsOthers.setCell _ _ _)).trans (KeepsOthers.setCell _ _ _)
theorem sets_below {W:World}{n B:Nat}{a b c d:Value}(h:n≤B):Below n W ((((W.setCell ⟨B,0,none⟩ a).setCell ⟨B,1,none⟩ b).setCell ⟨B,2,none⟩ c).setCell ⟨B,3,none⟩ d) :=
 ((((Below.refl n W).setCell (p:=⟨B,0,none⟩) h _).setCell (p:=⟨B,1,none⟩) h _).setCell (p:=⟨B,2,none⟩) h _).setCell (p:=⟨B,3,none⟩) h _
theorem results_box {W:World}{B:Nat}{v:Version}{x:Array Value}(c0:W.cell? ⟨B,0,none⟩=some (.int .i64 v.by_)) (c1:W.cell? ⟨B,1,none⟩=some (.bool v.made)) (c2:W.cell? ⟨B,2,none⟩=some (.bool v.has)) (c3:W.cell? ⟨B,3,none⟩=some (.int .i64 v.n))
  (hx:x[6]? = some (.pointer (some ⟨B,0,none⟩)):=by rfl):(results Try.f11 x).run Try.prog W = .ok (verV v) W:=by
 simp[results,Try.f11,go_sem,hx,c0,c1,c2,c3,verV,Act.eval,Array.getD_eq_getD_getElem?]
set_option maxRecDepth 100000 in
set_option maxHeartbeats 4000000 in
theorem before_raw (m:Nat) (by_:Int) (k:ByteArray) (ad:Addr) (n cp:Nat) (sv:Value) (vs:List Version) (w:World) (hm:m < n) (had:ad.block < w.heap.size)
  (hcell:w.cell? (ad.add (m*2+1))=some sv) (hvs:Vers w.heap.size w sv vs) (hreach:vs.length≤268435456)
  (hf:∀ W:World,w.heap.size≤W.heap.size→Below w.heap.size w W→Calls Try.prog 33 #[.slice (some ad) n cp,.string k] W fun e W'=>e = .returned (.tuple #[.int .i64 (m:Int),.bool true])∧Below W.heap.size W W') :
  Calls Try.prog 11 #[.slice (some ad) n cp,.string k,.int .i64 by_] w fun e W' =>
   ((e = .returned (verV noV)∧AllGe by_ (back vs vs.length))∨∃ k v,k≤vs.length∧Hit by_ (back vs k) v∧e = .returned (verV v))∧Below w.heap.size w W':=by
 refine(callsIn_wide (n:=3)).1 ?_
 refine callsIn_of_wp_marks Try.func11 rfl trivial ?_
 simp only[Try.ntmps11,List.size_toArray,List.length_cons,List.length_nil,Nat.reduceAdd,Nat.reduceSub,Array.replicate_succ,Array.replicate_zero,List.push_toArray,List.append_toArray,List.nil_append,List.cons_append]
 have hB1:Below w.heap.size w ((w.alloc (.cells #[.int .i64 by_] 3)).alloc (.cells #[.int .i64 0,.bool false,.bool false,.int .i64 0] 26)):=((Below.refl _ w).alloc (Nat.le_refl _) _).alloc (by simp) _
 have hf1:=hf _ hB1.size hB1
 obtain⟨p,cap,rfl,hvs1⟩:=hvs
 have hcell':w.cell? ⟨(ad.add (m*2)).block,(ad.add (m*2)).off+1,none⟩=some (.slice p vs.length cap):=by
  rw[← add_add]at hcell
  exact hcell
 have hc0:∀ {w1:World},Below w.heap.size w w1→w1.cell? ⟨(ad.add (m*2)).block,(ad.add (m*2)).off+1,none⟩=some (.slice p vs.length cap):=fun hB =>
  (hB.cell (p:=⟨(ad.add (m*2)).block,(ad.add (m*2)).off+1,none⟩) (by show(ad.add (m*2)).block < _;rw[add_block];exact had)).trans hcell'
 gi_wp2_with (refine⟨trivial,?_⟩;first|(gi_at_call 33;refine(callsIn_wide.2 hf1).mono ?_;clear hf1;rintro e w1 ⟨rfl,hb1⟩;have hB2:=hB1.trans (hb1.mono hB1.size);have hc1:=hc0 hB2) |
  (gi_at_call 34;refine(backward_in _ _ trivial rfl _ _ _ _).mono ?_;rintro e w' ⟨rfl,rfl⟩))
 have hsz1:w.heap.size+1+1≤w1.heap.size:=by have:=hb1.size;simpa using this
 have bY:Boxed w1 w.heap.size 3 (.int .i64 by_):=by
  have h0:=(Boxed.new w 3 (.int .i64 by_)).alloc (.cells #[.int .i64 0,.bool false,.bool false,.int .i64 0] 26)
  exact(hb1.block _ (by simp;omega)).trans h0
 have bR:Box4 w1 (w.heap.size+1) ⟨0,false,false,0⟩:=by
  have h0:Box4 ((w.alloc (.cells #[.int .i64 by_] 3)).alloc (.cells #[.int .i64 0,.bool false,.bool false,.int .i64 0] 26)) (w.heap.size+1) ⟨0,false,false,0⟩:=by
   have:=World.alloc_heap_new (w.alloc (.cells #[.int .i64 by_] 3)) (.cells #[.int .i64 0,.bool false,.bool false,.int .i64 0] 26)
   simpa[Box4] using this
  exact h0.below hb1 (by simp)
 have bN:=Boxed.new w1 43 (.slice p vs.length cap)
 have hV1:Vers w.heap.size w1 (.slice p vs.length cap) vs:=Vers.below hB2 ⟨p,cap,rfl,hvs1⟩
 obtain⟨W0,hW0⟩:∃ W0,w1.alloc (.cells #[.slice p vs.length cap] 43)=W0:=⟨_,rfl⟩
 have hBW:Below w1.heap.size w1 W0:=by rw[← hW0];exact(Below.refl _ w1).alloc (Nat.le_refl _) _
 have hsz0:W0.heap.size=w1.heap.size+1:=by rw[← hW0];simp
 rw[hW0]at bN ⊢
 have bY0:Boxed W0 w.heap.size 3 (.int .i64 by_):=(hBW.block _ (by omega)).trans bY
 have bR0:Box4 W0 (w.heap.size+1) ⟨0,false,false,0⟩:=bR.below hBW (by omega)
 have hB0:Below w.heap.size w W0:=hB2.trans (hBW.mono hB2.size)
 clear hW0
 refine wpIn_rangeFunc_ownH (F:=Fence.wide) rfl (by omega) (gf:=49) (lb := #[.pointer (some ⟨w1.heap.size,0,none⟩)]) rfl trivial (enters_of Try.func49 (by kernel_rfl) rfl)
  (backward_stops Fence.wide (3 - 1) trivial rfl (by omega) w1.heap.size W0.heap.size _ vs hreach W0 (by omega) (Nat.le_refl _) bN.cell (Vers.mono hB0.size (Vers.below (hBW.mono hB2.size) hV1))) belowK_t (belowK_b (Nat.le_refl _)) (Below.refl _ _) (fun _=>rfl)
  (fun pre W=>AllGe by_ pre∧Below W0.heap.size W0 W)
  (fun c pre W=>(c = .ret∧∃ v,Hit by_ pre v∧Box4 W (w.heap.size+1) v)∧Below w.heap.size w W)
  (OwnFrom.and (Own.from (fun s A B row hs hg hr=>hs) _) (ownFrom_below (Nat.le_refl _) (Nat.le_refl _)))
  (fun c=>OwnFrom.and (Own.from (fun s A B row hs hg hr=>by obtain⟨hc,v,e1,e4⟩:=hs;exact⟨hc,v,e1,box4_own (w.heap.size+1) (fun(_:Unit)=>v) () A B row e4 hg hr⟩) _) (ownFrom_below (Nat.le_refl _) hB0.size))
  ⟨fun x hx=>by simp at hx,Below.refl _ _⟩
  (fun x a' W=>∃ Bx,w.heap.size+1 < Bx∧Box4 W Bx x.2∧a'={ tmps := #[.slice (some ad) n cp,.string k,.int .i64 by_,undef,undef,.pointer (some ⟨w.heap.size,0,none⟩),.pointer (some ⟨w.heap.size+1,0,none⟩),.int .i64 (m:Int),.bool true,undef,.pointer (some ⟨Bx,0,none⟩),
   .tuple #[.int .i64 (m:Int),.bool true],.slice (some ad) n cp,.string k,.tuple #[.int .i64 (m:Int),.bool true],.int .i64 (m:Int),.bool true,.bool true,.slice (some ad) n cp,.int .i64 (m:Int),.pointer (some (ad.add (m*2))),.pointer (some ⟨(ad.add (m*2)).block,(ad.add (m*2)).off+1,none⟩),.slice p vs.length cap,
   .func (.func 49) #[] #[.pointer (some ⟨w1.heap.size,0,none⟩)],.int .i64 (x.1:Int),verV x.2,undef,undef,undef,undef,undef,undef],defers:=[] })
  (fun x a' _ X Y row hs hg hr=>by obtain⟨Bx,h1,h2,h3⟩:=hs;exact⟨Bx,h1,box4_own Bx (fun(_:Unit)=>x.2) () X Y row h2 hg (fun r e=>(hr r e).2),h3⟩)
  ?assign ?body ?done ?stop
 case assign =>
  rintro l pre ⟨xi,xb,xm,xh,xn⟩ W K ⟨hp,hB⟩ hK
  simp only[verV]
  gi_wp2
  have hbx:Below W0.heap.size W (W.alloc (.cells #[.int .i64 xb,.bool xm,.bool xh,.int .i64 xn] 26)):=(Below.refl _ W).alloc hB.size _
  exact hK _ _ ((KeepsOthers.alloc _ _).from _) hbx ⟨hp,hB.trans hbx⟩ ⟨W.heap.size,by have:=hB.size;omega,World.alloc_heap_new W _,rfl⟩
 case body =>
  rintro l pre ⟨xi,xb,xm,xh,xn⟩ a' W hl ⟨r,hr⟩ ⟨hp,hB⟩ ⟨Bx,hBx,bX,rfl⟩ hlt
  simp only[verV]
  have bR1:=bR0.below hB (by omega)
  have bY1:Boxed W w.heap.size 3 (.int .i64 by_):=(hB.block _ (by omega)).trans bY0
  obtain⟨x0,x1,x2,x3⟩:=bX.cells
  obtain⟨y0,y1,y2,y3⟩:=bR1.cells
  obtain⟨z0,z1,z2,z3⟩:=bR1.frozens
  have cY:=bY1.cell
  have hB9:Below w.heap.size w W:=hB0.trans (hB.mono hB0.size)
  dsimp only at x0 x1 x2 x3
  gi_wp2
  ·
   have hx:xb < by_:=by assumption
   exact⟨(sets_keeps W _ _ _ _ _).from _,⟨rfl,⟨xb,xm,xh,xn⟩,⟨pre,xi,rfl,hp,hx⟩,sets_box bR1 ⟨xb,xm,xh,xn⟩⟩,hB9.trans (sets_below (by omega))⟩
  ·
   have hx:by_≤xb:=by assumption
   exact⟨KeepsFrom.refl _ _,Below.refl _ _,hp.snoc hx,by rw[← hsz0];exact hB⟩
 case done =>
  rintro D ys W hD rfl ⟨hne,hB⟩ hK
  have bR1:=bR0.below hB (by omega)
  obtain⟨y0,y1,y2,y3⟩:=bR1.cells
  obtain⟨z0,z1,z2,z3⟩:=bR1.frozens
  gi_wp2
  have hK':=(sets_keeps W (w.heap.size+1) (.int .i64 (-1)) (.bool true) (.bool false) (.int .i64 0)).same D _ hK rfl
  have bF:=sets_box bR1 noV
  have hB9:Below w.heap.size w W:=hB0.trans (hB.mono hB0.size)
  have hBs:=hB9.trans (sets_below (W:=W) (n:=w.heap.size) (B:=w.heap.size+1) (a := .int .i64 (-1)) (b := .bool true) (c := .bool false) (d := .int .i64 0) (by omega))
  refine⟨by simp,.inl ⟨_,_,rfl,run_takeDeferred hK',?_⟩⟩
  have hD':w.heap.size+1≠D:=by have:=bR1.lt;omega
  obtain⟨c0,c1,c2,c3⟩:=Box4.cells (Box4.kept bF (grownBy_putObj' _ D (.deferred none)) (fun e=>hD' (by cases e;rfl)))
  refine⟨verV noV,?_,.inl rfl,hBs.trans (belowK_b (w:=w) (Nat.le_refl _) _ D _ _ (by have:=hB0.size;omega) hK' rfl rfl)⟩
  exact results_box c0 c1 c2 c3
 case stop =>
  rintro D c pre W hD ⟨k,hk,rfl⟩ ⟨⟨rfl,v,hv,hcr⟩,hB⟩ hK
  gi_wp2
  refine⟨by simp,.inl ⟨_,_,rfl,run_takeDeferred hK,?_⟩⟩
  have hD':w.heap.size+1≠D:=by have:=hB0.size;omega
  obtain⟨c0,c1,c2,c3⟩:=Box4.cells (Box4.kept hcr (grownBy_putObj' _ D (.deferred none)) (fun e=>hD' (by cases e;rfl)))
  exact⟨verV v,results_box c0 c1 c2 c3,.inr ⟨k,v,hk,hv,rfl⟩,hB.trans (belowK_b (w:=w) (Nat.le_refl _) W D _ _ (by have:=hB0.size;omega) hK rfl rfl)⟩
theorem rd_ver {w:World}{own:Nat→Prop}(v:Version):Rd w own (verV v) (.agg v.enc):=by
 refine .agg _ _ rfl (fun j c hc=>?_) fun j d c hd hc=>?_
 ·
  match j,hc with
  |0,hc=>simp at hc;subst hc;rfl
  |1,hc=>simp at hc;subst hc;rfl
  |2,hc=>simp at hc;subst hc;rfl
  |3,hc=>simp at hc;subst hc;rfl
 ·
  match j,hd,hc with
  |0,hd,hc=>simp[Version.enc]at hc hd;subst hc hd;exact .v _
  |1,hd,hc=>simp[Version.enc]at hc hd;subst hc hd;exact .v _
  |2,hd,hc=>simp[Version.enc]at hc hd;subst hc hd;exact .v _
  |3,hd,hc=>simp[Version.enc]at hc hd;subst hc hd;exact .v _
theorem rd_vers {w:World}{own:Nat→Prop}{sv:Value}{vs:List Version}(h:Rd w own sv (encVs vs)):Vers w.heap.size w sv vs:=by
 unfold encVs at h
 generalize hr:vs.map Version.enc=rows at h
 generalize hd:D.sl 4 rows=d at h
 cases h with
 |v=>cases hd
 |x=>cases hd
 |agg=>cases hd
 |nil a cap k =>
  cases hd
  have:vs=[]:=by simpa using hr
  subst this
  exact⟨a,cap,rfl,.inl rfl⟩
 |sl ad cap k rows f hb hs hcap hk hc h1 hr' =>
  cases hd
  subst hr
  refine⟨some ad,cap,by simp,.inr ⟨ad,rfl,hs,fun i j v hi hj=>?_⟩⟩
  have hi':(vs.map Version.enc)[i]? = some v.enc:=by simp[hi]
  have hval:∀ d,v.enc[j]? = some d→∀ x,d = .v x→w.cell? (ad.add (i*4+j))=some x:=fun d hd x hx=>by
   subst hx
   rw[hc i j _ _ hi' hd,rd_v (hr' i j _ _ hi' hd)]
  match j,hj with
  |0,_=>exact hval _ rfl _ rfl
  |1,_=>exact hval _ rfl _ rfl
  |2,_=>exact hval _ rfl _ rfl
  |3,_=>exact hval _ rfl _ rfl
theorem back_ge {b:Int}{vs:List Version}{k:Nat}(hk:k≤vs.length) (h:AllGe b (back vs k)):∀ v∈vs.drop (vs.length - k),b≤v.by_:=fun v hv=>by
 obtain⟨j,hj⟩:=List.getElem?_of_mem hv
 rw[List.getElem?_drop]at hj
 have hlt:=(List.getElem?_eq_some_iff.1 hj).1
 have hmem:(vs.length - k+j,v)∈back vs k:=by
  unfold back
  refine List.mem_map.2 ⟨k - 1 - j,by simp;omega,?_⟩
  rw[show vs.length - 1 - (k - 1 - j)=vs.length - k+j by omega,hj]
  rfl
 exact h _ hmem
theorem hit_bvs {b:Int}{vs:List Version}{k:Nat}{v:Version}(hk:k≤vs.length) (h:Hit b (back vs k) v):bvs true b noV vs=v:=by
 obtain⟨ini,i,h1,h2,h3⟩:=h
 cases k with
 |zero=>simp[back]at h1
 |succ k =>
  rw[back_succ]at h1
  obtain⟨rfl,h5⟩:=List.append_inj' h1 rfl
  simp only[List.cons.injEq,Prod.mk.injEq,and_true]at h5
  obtain⟨rfl,h5⟩:=h5
  have hlt:vs.length - 1 - k < vs.length:=by omega
  have hv:vs[vs.length - 1 - k]? = some v:=by
   rw[List.getElem?_eq_getElem hlt]at h5 ⊢
   simpa using h5
  have hge:=back_ge (by omega) h2
  rw[split_at hv,bvs_append]
  simp only[bvs]
  rw[if_pos (by simpa using h3),show vs.length - 1 - k+1=vs.length - k by omega,bvs_ge hge]
theorem isAt_some {l:List Chain}{k:Str}{m:Nat}(h:isAt l k m=true):∃ c,l[m]? = some c∧c.key=k:=by
 unfold isAt isAtK at h
 split at h
 ·
  next c hc=>exact⟨c,hc,of_decide_eq_true h⟩
 ·
  cases h
theorem ok_pbefore (l:List Chain) (k:Str) (b:Int) (hl:l.length≤268435456) (hv:∀ c∈l,c.vs.length≤268435456) (hs:Srt Chain.key l) :
  FnOk Try.prog 11 [.d (encChains l),.d (dstr k),.d (dint b)] (.one (.agg (before l k b).enc)):=by
 obtain⟨m,hm⟩:=hs.at k
 have hf:=ok_find l k m hl hm
 cases hb:isAt l k m with
 |false =>
  refine fnOk_of tbl_ok mixed_ok Try.func11 rfl (by kernel_rfl) rfl rfl fun w0 own0=>?_
  rw[hb]at hf
  rw[before_no hs hm hb]
  try refine wk ?_
  exact .one (.cell rfl rfl rfl rfl (.aggd (ds:=noV.enc) rfl (.refl _)))
 |true =>
  obtain⟨c,hc,hck⟩:=isAt_some hb
  rw[before_yes hs hc hck]
  refine⟨⟨_,Try.func11,rfl,rfl⟩,fun w own vs hown ha=>?_⟩
  match vs,ha with
  | [x,y,z],⟨h1,h2,h3,_⟩ =>
   obtain rfl:y=str k:=rd_v h2
   obtain rfl:z = .int .i64 b:=rd_v h3
   have hfc:∀ W:World,w.heap.size≤W.heap.size→Below w.heap.size w W→Calls Try.prog 33 #[x,str k] W fun e W'=>e = .returned (.tuple #[.int .i64 (m:Int),.bool true])∧Below W.heap.size W W':=fun W hsz hB=>by
    have h1':Rd W own x (encChains l):=Rd.step (Ext.of_below hB) (fun b h => .inl h) h1
    refine(hf.calls W own [x,str k] ⟨fun b hb=>Nat.lt_of_lt_of_le (hown.1 b hb) hsz,hown.2.below hB⟩ ⟨h1',Rd.v _,trivial⟩).mono fun e W' he=>?_
    obtain⟨v,rfl,hB',vs,rfl,hsz',hr⟩:=he
    refine⟨?_,hB'⟩
    obtain⟨vl⟩:=vs
    match vl,hsz',hr with
    | [a,d],_,hr =>
     obtain rfl:a = .int .i64 (m:Int):=rd_v (hr 0 a (dint m) rfl rfl)
     obtain rfl:d = .bool (isAt l k m):=rd_v (hr 1 d (dbool (isAt l k m)) rfl rfl)
     rw[hb]
   have hcm:m < l.length:=(List.getElem?_eq_some_iff.1 hc).1
   have hcv:=hv c (List.mem_of_getElem? hc)
   have key:∃ ad n cp sv,x = .slice (some ad) n cp∧m < n∧ad.block < w.heap.size∧w.cell? (ad.add (m*2+1))=some sv∧Rd w own sv (encVs c.vs):=by
    have h1':=h1
    unfold ArgOk encChains at h1'
    generalize hr:l.map Chain.enc=rows at h1'
    generalize hd:D.sl 2 rows=d at h1'
    cases h1' with
    |v=>cases hd
    |x=>cases hd
    |agg=>cases hd
    |nil a cap k' =>
     cases hd
     have:l=[]:=by simpa using hr
     subst this
     simp at hc
    |sl ad cap k' rows f hb' hsz hcap hk hcc h1c hr' =>
     cases hd
     subst hr
     have hi:(l.map Chain.enc)[m]? = some c.enc:=by simp[hc]
     exact⟨ad,_,cap,f m 1,rfl,by simpa using hcm,hsz,hcc m 1 _ _ hi rfl,hr' m 1 _ (encVs c.vs) hi rfl⟩
   obtain⟨ad,n,cp,sv,rfl,hmn,had,hcell,hrd⟩:=key
   refine(before_raw m b ⟨k.toArray⟩ ad n cp sv c.vs w hmn had hcell (rd_vers hrd) hcv hfc).mono fun e W' ⟨he,hB⟩=>?_
   rcases he with ⟨rfl,hall⟩|⟨i,v,hi,hh,rfl⟩
   ·
    refine⟨_,rfl,hB,?_⟩
    have:=back_ge (Nat.le_refl _) hall
    rw[Nat.sub_self,List.drop_zero]at this
    rw[bvs_ge this]
    exact rd_ver noV
   ·
    refine⟨_,rfl,hB,?_⟩
    rw[hit_bvs hi hh]
    exact rd_ver v
end Go.Proofs.Ytfpkamiobdkcpaa
namespace Go.Proofs.Ytfpkamiobdkcpaa
open Go.AX Go.RF
set_option maxRecDepth 100000
set_option maxHeartbeats 4000000
theorem ok_prows (l:List Chain) (b:Int) (hl:l.length≤268435456) (hv:∀ c∈l,c.vs.length≤268435456) (hs:Srt Chain.key l):FnOk Try.prog 19 [.d (encChains l),.d (dint b)] (.tup [encRows (rowsAt l b).1,dbool (rowsAt l b).2]):=by
 refine fnOk_of tbl_ok mixed_ok Try.func19 rfl (by kernel_rfl) rfl rfl fun w0 own0=>?_
 try refine wk ?_
 refine CW.stut (stut_promote (i:=6) 73 2) ⟨rfl,rfl,trivial⟩ ?_
 refine CW.loopT (fun t:Nat×List Pair=>[(.s 0,.av (.d (encChains l))),(.s 1,.av (.d (dint b))),(.s 6,.av (.own 0 t.2.length)),(.o 0,.ob (.arr 73 2 (t.2.map Pair.enc))),(.s 10,.av (.d (encChains l))),(.s 11,.av (.d (dint l.length))),(.s 12,.av (.d (dint t.1))),(.nx,.num 1)])
  (fun t=>t.1≤l.length∧t.2.length≤t.1∧rowsAtGo l b t.2 (l.drop t.1)=rowsAt l b) (fun t=>l.length - t.1) (0,[]) ⟨by omega,by simp,rfl⟩ ?_ ?_
 ·
  exact by_less
 ·
  rintro ⟨i,out⟩ ⟨hi,ho,hI⟩
  dsimp only at hi ho hI ⊢
  rcases drop_case hi with ⟨h1,h2⟩|⟨c,h1,h2,h3⟩
  ·
   rw[h1]at hI
   simp only[rowsAtGo]at hI
   try refine wk ?_
   rw[← hI]
   exact .two (.tmp rfl (.one (.own rfl (by simp) (.refl _)))) (.tmp rfl (.one (.d (.refl _))))
  ·
   rw[h1]at hI
   simp only[rowsAtGo]at hI
   have hc:=ok_pbefore l c.key b hl hv hs
   generalize before l c.key b=v at hc hI
   obtain⟨vb,vm,vh,vn⟩:=v
   dsimp only at hI
   cases vm
   ·
    rw[if_pos rfl]at hI
    try refine wk ?_
    rw[← hI]
    exact .two (.tmp rfl (.one (.d (.nil 2)))) (.tmp rfl (.one (.d (.refl _))))
   ·
    rw[if_neg (by simp)]at hI
    cases vh
    ·
     rw[if_neg (by simp)]at hI
     try refine wk ?_
     refine q_loopT (i+1,out) ⟨by dsimp only;omega,by dsimp only;omega,hI⟩ (by dsimp only;omega) ?_
     exact by_less
    ·
     rw[if_pos rfl]at hI
     try refine wk ?_
     refine q_loopT (i+1,_) ⟨by dsimp only;omega,by dsimp only;simp;omega,hI⟩ (by dsimp only;omega) ?_
     exact by_less
end Go.Proofs.Ytfpkamiobdkcpaa
namespace Go.AX
open Go.RowKit
section
variable {P:Program}{t:TypeId}
theorem bin_bneq {a b:Bool}(h:P.underlying t=some .bool):BinR P .neq t (.bool a) (.bool b) (.bool (!decide (a=b))):=by
 intro w x y
 rw[Sem.run_bind,eqGuard_at_bool,Sem.run_pure,Result.andThen_ok,run_neq_bool _ _ _ _ h]
 cases a <;> cases b <;> rfl
theorem bin_beql {a b:Bool}(h:P.underlying t=some .bool):BinR P .eql t (.bool a) (.bool b) (.bool (decide (a=b))):=by
 intro w x y
 simp only[Sem.run_bind,eqGuard_at_bool,Sem.run_pure,Result.andThen_ok,binOp,run_equal_bool _ _ _ _ h]
 cases a <;> cases b <;> rfl
end
variable {cx:Cx}{g:Nat→Value}{σ σ':St}{a:Act}{w w':World}{nx:Nat}
variable {ty:TypeId}{pos:String}{af:Array Edge}{gd:Option (Nat×Bool)}{d:Nat}
inductive AggV:AV→List Value→Prop
 |d {ds:List D} {us:List Value} (h:ds=us.map D.v):AggV (.d (.agg ds)) us
 |a {cs:List AV} {us:List Value} (h:cs=us.map fun u=>AV.d (.v u)):AggV (.agg cs) us
theorem rep_aggv {v:Value}{av:AV}{us:List Value}(h:AggV av us) (hr:Rep cx g σ w v av):v = .agg us.toArray:=by
 cases h with
 |d h=>subst h;exact rd_agg_v hr
 |a h =>
  subst h
  obtain⟨cs,rfl,hs,_,hr⟩:=hr
  congr 1
  apply Array.ext_getElem?
  intro j
  have hs':cs.size=us.length:=by simpa using hs
  rcases Nat.lt_or_ge j us.length with hj|hj
  ·
   have h1:=hr j cs[j] (.d (.v us[j])) (by simp[List.getElem?_map,List.getElem?_eq_getElem hj]) (Array.getElem?_eq_getElem (by omega))
   have h2:cs[j]=us[j]:=rd_v h1
   rw[Array.getElem?_eq_getElem (by omega)]
   simp[h2]
  ·
   rw[Array.getElem?_eq_none (by omega)]
   simp[hj]
theorem a_agg2 {op:BinOp}{t t':TypeId}{x y:Operand}{ax ay:AV}{us vs:List Value}{r:Value}(hb:BinR cx.P op t (.agg us.toArray) (.agg vs.toArray) r) (hx:ev σ x=some ax) (hy:ev σ y=some ay)
  (hu:AggV ax us) (hv:AggV ay vs) (hd:Nat.blt d cx.n=true):OA cx σ ⟨some d,.binOp op t x y t',ty,pos,af,gd⟩ ⟨rdOf x ax++rdOf y ay,[(.s d,.av (.d (.v r)))]⟩:=by
 refine⟨?_,(ev_out hx).2.append (ev_out hy).2⟩
 have ex:=(ev_out hx).1
 have ey:=(ev_out hy).1
 refine ok_val rfl (lt_of_blt hd) fun _ a w _ _ hs hr=>⟨r,w,?_,Below.refl _ _,Rd.v _,trivial⟩
 have h1:=rep_aggv hu (hs.ev ex hr.left).1
 have h2:=rep_aggv hv (hs.ev ey hr.right).1
 have:=hb w x y
 simp only[execOp,h1,h2,Sem.run_bind,Sem.run_pure]at this ⊢
 rw[this]
 rfl
end Go.AX
namespace Go.AX
open Go.RowKit
variable {cx:Cx}{σ σ':St}{a a':Act}{w w':World}{ops:Array Oper}
theorem wpAny_but {ts:List Tr}{s0:Nat}{Q:Exit→Act→World→Prop}(hA:∀ i o,ops[i]? = some o→i≠s0→∃ t,ts[i]? = some t∧TrOk cx ops o t) (hlen:ts.length=ops.size) (hfit:Fit ops.toList ts) :
  ∀ (fuel:Nat) (listed:Array Bool) (σ:St) (a:Act) (w:World),listed.size=ops.size→listed.getD s0 true=true→Closed ops listed→Run (left ts listed 0) σ→(left ts listed 0).length=fuel→Sim cx σ a w →
   (∀ a' w',Sim cx (fin (left ts listed 0) σ) a' w'→Q .normal a' w')→wpAny cx.P .any ops Q fuel listed a w:=by
 intro fuel
 induction fuel with
 |zero =>
  intro listed σ a w hsz hls hcl hrun hl hs hq
  have hnil:left ts listed 0=[]:=List.eq_nil_of_length_eq_zero hl
  refine⟨?_,hq a w (by rw[hnil];exact hs)⟩
  refine List.eq_nil_iff_forall_not_mem.2 fun i hi=>?_
  obtain⟨h1,o,ho,_⟩:=mem_ready.1 hi
  have:=left_nil hnil i (by rw[hlen];exact(Array.getElem?_eq_some_iff.1 ho).1)
  rw[Nat.zero_add,h1]at this
  cases this
 |succ fuel ih =>
  intro listed σ a w hsz hls hcl hrun hl hs hq
  refine⟨fun hr=>?_,fun i hi=>?_⟩
  ·
   have hne:left ts listed 0≠[]:=by intro e;rw[e]at hl;simp at hl
   obtain⟨i,h1,h2,h3⟩:=left_ne hne
   rw[Nat.zero_add]at h2
   have hi:i < ops.size:=by omega
   have hm:i∈Region.ready .any ops listed:=mem_ready.2 ⟨h2,ops[i],Array.getElem?_eq_getElem hi,fun j hj=>by
    have hj':=hfit.down i ops[i] (by simp[hi]) j hj
    have:=h3 j hj'
    rw[Nat.zero_add]at this
    rw[← getD_tf (by omega)];exact this⟩
   rw[hr]at hm
   cases hm
  ·
   obtain⟨h1,o,ho,h2⟩:=mem_ready.1 hi
   have hi':i < ops.size:=(Array.getElem?_eq_some_iff.1 ho).1
   have his:i≠s0:=fun e=>by subst e;rw[hls]at h1;cases h1
   obtain⟨t,ht,htr⟩:=hA i o ho his
   obtain⟨pre,post,h3,h4,h5⟩:=left_split (k:=0) ht (by rw[Nat.zero_add];exact h1) (by omega)
   rw[Nat.zero_add]at h4
   rw[h3]at hrun hq hl
   have hap:∀ s∈pre,Apart s t:=by
    intro s hsm
    obtain⟨j,h6,h7,h8⟩:=h5 s hsm
    rw[Nat.zero_add]at h8
    rcases hfit.apart i j s t h6 h7 ht with h9|h9
    ·
     exfalso
     have hanc:∀ m,m∈edges o→Anc ops.toList j m→False:=fun m hm hma=>by
      have hml:listed.getD m false=true:=h2 m hm
      have hms:=hfit.down i o (by simpa using ho) m hm
      have:=hcl.anc hsz hma (by rw[getD_tf (by omega)];exact hml) (by omega)
      rw[← getD_tf (by omega)]at this
      rw[h8]at this;cases this
     cases h9 with
     |one ho' h =>
      rw[show ops.toList[i]? = some o by simpa using ho]at ho'
      cases ho'
      have:=h2 j h
      rw[← getD_tf (by omega)]at this
      rw[h8]at this;cases this
     |step ho' h hm =>
      rw[show ops.toList[i]? = some o by simpa using ho]at ho'
      cases ho'
      exact hanc _ h hm
    ·
     exact h9
   obtain⟨h6,h7⟩:=Run.front hap hrun
   unfold wpOp
   rw[ho]
   have hstep:=htr σ a w (wpAny cx.P .any ops Q fuel (listed.setIfInBounds i true)) Q hs h6.1 fun a' w' hs'=>by
    refine ih _ _ a' w' (by simp[hsz]) (by simpa only[Array.getD_eq_getD_getElem?,Array.getElem?_setIfInBounds,if_neg his] using hls) (fun i' o' ho' hi2 hli j hj=>?_) (by rw[h4];exact h6.2) (by rw[h4];simp at hl ⊢;omega) hs' (fun a2 w2 hs2=>hq a2 w2 ?_)
    ·
     by_cases he:i'=i
     ·
      subst he
      rw[ho]at ho'
      cases ho'
      have hne:j≠i':=fun e=>by have:=hfit.down i' o (by simpa using ho) j hj;omega
      simp only[Array.getD_eq_getD_getElem?,Array.getElem?_setIfInBounds,if_neg (show ¬ i'=j from fun e=>hne e.symm)]
      simpa only[Array.getD_eq_getD_getElem?] using h2 j hj
     ·
      have hli':listed.getD i' true=true:=by
       simpa only[Array.getD_eq_getD_getElem?,Array.getElem?_setIfInBounds,if_neg (show ¬ i=i' from fun e=>he e.symm)] using hli
      have hjl:=hcl i' o' ho' (by simpa using hi2) hli' j hj
      by_cases hji:i=j
      ·
       subst hji
       simp[Array.getD_eq_getD_getElem?,hsz,hi']
      ·
       simpa only[Array.getD_eq_getD_getElem?,Array.getElem?_setIfInBounds,if_neg hji] using hjl
    ·
     rw[h4]at hs2
     exact hs2.eqv h7.symm
   dsimp only
   split
   ·
    rename_i hw;rw[if_pos hw]at hstep;exact .inl hstep
   ·
    rename_i hw;rw[if_neg hw]at hstep;exact hstep
theorem wpAny_fam {ι:Type}{ts:ι→List Tr}{s0:Nat}{os:Oper}{rs:List (Key×Val)}{Q:Exit→Act→World→Prop}(x0:ι) (hA:∀ x i o,ops[i]? = some o→i≠s0→∃ t,(ts x)[i]? = some t∧TrOk cx ops o t)
  (hpre:∀ x i,i < s0→(ts x)[i]? = (ts x0)[i]?) (hlen:∀ x,(ts x).length=ops.size) (hfit:∀ x,Fit ops.toList (ts x))
  (hos:ops[s0]? = some os) (hgs:os.guard=none) (hrs:∀ x,∃ t,(ts x)[s0]? = some t∧t.rd=rs)
  (hsp:∀ (σ:St) (a:Act) (w:World) (K:Act→World→Prop) (Q:Exit→Act→World→Prop),Sim cx σ a w→App σ rs→(∀ x t a' w',(ts x)[s0]? = some t→Sim cx (t.wr++σ) a' w'→K a' w')→os.wp cx.P a w K Q)
  (hanc:∀ i,s0 < i→i < ops.size→Anc ops.toList s0 i) :
  ∀ (fuel:Nat) (listed:Array Bool) (σ:St) (a:Act) (w:World),listed.size=ops.size→listed.getD s0 true=false→Closed ops listed→(∀ x,Run (left (ts x) listed 0) σ)→(∀ x,(left (ts x) listed 0).length=fuel)→Sim cx σ a w →
   (∀ x a' w',Sim cx (fin (left (ts x) listed 0) σ) a' w'→Q .normal a' w')→wpAny cx.P .any ops Q fuel listed a w:=by
 intro fuel
 induction fuel with
 |zero =>
  intro listed σ a w hsz hls hcl hrun hl hs hq
  have hnil:left (ts x0) listed 0=[]:=List.eq_nil_of_length_eq_zero (hl x0)
  have:=left_nil hnil s0 (by rw[hlen];exact(Array.getElem?_eq_some_iff.1 hos).1)
  rw[Nat.zero_add,hls]at this
  cases this
 |succ fuel ih =>
  intro listed σ a w hsz hls hcl hrun hl hs hq
  refine⟨fun hr=>?_,fun i hi=>?_⟩
  ·
   have hne:left (ts x0) listed 0≠[]:=by intro e;have:=hl x0;rw[e]at this;simp at this
   obtain⟨i,h1,h2,h3⟩:=left_ne hne
   rw[Nat.zero_add]at h2
   have hi:i < ops.size:=by have:=hlen x0;omega
   have hm:i∈Region.ready .any ops listed:=mem_ready.2 ⟨h2,ops[i],Array.getElem?_eq_getElem hi,fun j hj=>by
    have hj':=(hfit x0).down i ops[i] (by simp[hi]) j hj
    have:=h3 j hj'
    rw[Nat.zero_add]at this
    rw[← getD_tf (by omega)];exact this⟩
   rw[hr]at hm
   cases hm
  ·
   obtain⟨h1,o,ho,h2⟩:=mem_ready.1 hi
   have hi':i < ops.size:=(Array.getElem?_eq_some_iff.1 ho).1
   -- the listed places are closed still
   have hcl':Closed ops (listed.setIfInBounds i true):=fun i' o' ho' hi2 hli j hj=>by
    by_cases he:i'=i
    ·
     subst he
     rw[ho]at ho'
     cases ho'
     have hne:j≠i':=fun e=>by have:=(hfit x0).down i' o (by simpa using ho) j hj;omega
     simp only[Array.getD_eq_getD_getElem?,Array.getElem?_setIfInBounds,if_neg (show ¬ i'=j from fun e=>hne e.symm)]
     simpa only[Array.getD_eq_getD_getElem?] using h2 j hj
    ·
     have hli':listed.getD i' true=true:=by
      simpa only[Array.getD_eq_getD_getElem?,Array.getElem?_setIfInBounds,if_neg (show ¬ i=i' from fun e=>he e.symm)] using hli
     have hjl:=hcl i' o' ho' (by simpa using hi2) hli' j hj
     by_cases hji:i=j
     ·
      subst hji
      simp[Array.getD_eq_getD_getElem?,hsz,hi']
     ·
      simpa only[Array.getD_eq_getD_getElem?,Array.getElem?_setIfInBounds,if_neg hji] using hjl
   -- what stands ahead of it in the text,and is still to come,is apart from it
   have hapx:∀ (x:ι) (t:Tr) (pre:List Tr),(ts x)[i]? = some t→(∀ s∈pre,∃ j,j < i∧(ts x)[j]? = some s∧listed.getD (0+j) true=false)→∀ s∈pre,Apart s t:=by
    intro x t pre ht h5 s hsm
    obtain⟨j,h6,h7,h8⟩:=h5 s hsm
    rw[Nat.zero_add]at h8
    rcases(hfit x).apart i j s t h6 h7 ht with h9|h9
    ·
     exfalso
     have hanc2:∀ m,m∈edges o→Anc ops.toList j m→False:=fun m hm hma=>by
      have hml:listed.getD m false=true:=h2 m hm
      have hms:=(hfit x).down i o (by simpa using ho) m hm
      have:=hcl.anc hsz hma (by rw[getD_tf (by omega)];exact hml) (by omega)
      rw[← getD_tf (by omega)]at this
      rw[h8]at this;cases this
     cases h9 with
     |one ho' h =>
      rw[show ops.toList[i]? = some o by simpa using ho]at ho'
      cases ho'
      have:=h2 j h
      rw[← getD_tf (by omega)]at this
      rw[h8]at this;cases this
     |step ho' h hm =>
      rw[show ops.toList[i]? = some o by simpa using ho]at ho'
      cases ho'
      exact hanc2 _ h hm
    ·
     exact h9
   by_cases his:i=s0
   ·
    -- the special one
    subst his
    rw[hos]at ho
    cases ho
    unfold wpOp
    rw[hos]
    have hrs0:App σ rs:=by
     obtain⟨t,ht,htr⟩:=hrs x0
     obtain⟨pre,post,h3,h4,h5⟩:=left_split (k:=0) ht (by rw[Nat.zero_add];exact h1) (by omega)
     have hr0:=hrun x0
     rw[h3]at hr0
     have:=(Run.front (hapx x0 t pre ht h5) hr0).1.1
     rwa [htr]at this
    have hstep:=hsp σ a w (wpAny cx.P .any ops Q fuel (listed.setIfInBounds i true)) Q hs hrs0 fun x t a' w' ht hs'=>by
     obtain⟨pre,post,h3,h4,h5⟩:=left_split (k:=0) ht (by rw[Nat.zero_add];exact h1) (by omega)
     rw[Nat.zero_add]at h4
     have hr0:=hrun x
     have hl0:=hl x
     rw[h3]at hr0 hl0
     obtain⟨h6,h7⟩:=Run.front (hapx x t pre ht h5) hr0
     refine wpAny_but (s0:=i) (hA x) (hlen x) (hfit x) fuel _ _ a' w' (by simp[hsz]) (by simp[Array.getD_eq_getD_getElem?,hsz,hi']) hcl' (by rw[h4];exact h6.2) (by rw[h4];simp at hl0 ⊢;omega) hs' fun a2 w2 hs2=>hq x a2 w2 ?_
     rw[h4]at hs2
     rw[h3]
     exact hs2.eqv h7.symm
    dsimp only
    rw[if_pos (by simp[Region.wanted,hgs])]
    exact .inl hstep
   ·
    -- one ahead of it
    have hlt:i < s0:=by
     rcases Nat.lt_or_ge i s0 with h|h
     ·
      exact h
     ·
      exfalso
      have ha:=hanc i (by omega) hi'
      cases ha with
      |one ho' h =>
       rw[show ops.toList[i]? = some o by simpa using ho]at ho'
       cases ho'
       have:=h2 s0 h
       have hs0:s0 < ops.size:=(Array.getElem?_eq_some_iff.1 hos).1
       rw[← getD_tf (by omega),hls]at this;cases this
      |@step _ _ m _ ho' h hm =>
       rw[show ops.toList[i]? = some o by simpa using ho]at ho'
       cases ho'
       have hml:listed.getD m false=true:=h2 m h
       have hms:=(hfit x0).down i o (by simpa using ho) m h
       have:=hcl.anc hsz hm (by rw[getD_tf (by omega)];exact hml) (by omega)
       have hs0:s0 < ops.size:=(Array.getElem?_eq_some_iff.1 hos).1
       rw[← getD_tf (by omega),hls]at this;cases this
    obtain⟨t,ht,htr⟩:=hA x0 i o ho his
    have htx:∀ x,(ts x)[i]? = some t:=fun x=>(hpre x i hlt).trans ht
    have hspl:∀ x,App σ t.rd∧Run (left (ts x) (listed.setIfInBounds i true) 0) (t.wr++σ)∧(left (ts x) (listed.setIfInBounds i true) 0).length=fuel ∧
      Eqv (fin (left (ts x) listed 0) σ) (fin (left (ts x) (listed.setIfInBounds i true) 0) (t.wr++σ)):=by
     intro x
     obtain⟨pre,post,h3,h4,h5⟩:=left_split (k:=0) (htx x) (by rw[Nat.zero_add];exact h1) (by omega)
     rw[Nat.zero_add]at h4
     have hr0:=hrun x
     have hl0:=hl x
     rw[h3]at hr0 hl0
     obtain⟨h6,h7⟩:=Run.front (hapx x t pre (htx x) h5) hr0
     rw[h3,h4]
     exact⟨h6.1,h6.2,by simp at hl0 ⊢;omega,h7⟩
    unfold wpOp
    rw[ho]
    have hstep:=htr σ a w (wpAny cx.P .any ops Q fuel (listed.setIfInBounds i true)) Q hs (hspl x0).1 fun a' w' hs' =>
     ih _ _ a' w' (by simp[hsz]) (by simpa only[Array.getD_eq_getD_getElem?,Array.getElem?_setIfInBounds,if_neg his] using hls) hcl' (fun x=>(hspl x).2.1) (fun x=>(hspl x).2.2.1) hs' fun x a2 w2 hs2=>hq x a2 w2 (hs2.eqv (hspl x).2.2.2.symm)
    dsimp only
    split
    ·
     rename_i hw;rw[if_pos hw]at hstep;exact .inl hstep
    ·
     rename_i hw;rw[if_neg hw]at hstep;exact hstep
end Go.AX
namespace Go.AX
open Go.RowKit
variable {cx:Cx}{σ σ':St}{a a':Act}{w w':World}{ops:Array Oper}{Q:Exit→St→Prop}
variable {ty:TypeId}{pos:String}{af:Array Edge}{gd:Option (Nat×Bool)}{d nx:Nat}{g:Nat→Value}
theorem Run.append:∀ {t1 t2:List Tr}{σ:St},Run t1 σ→Run t2 (fin t1 σ)→Run (t1++t2) σ∧fin (t1++t2) σ=fin t2 (fin t1 σ)
 | [],t2,σ,_,h=>⟨h,rfl⟩
 |t::t1,t2,σ,h1,h2=>by
  obtain⟨h3,h4⟩:=Run.append h1.2 h2
  exact⟨⟨h1.1,h3⟩,h4⟩
def ancB (s0:Nat):Nat→List Oper→Bool
 |_,[]=>true
 |i,o::l=>(Nat.ble i s0 || (edges o).any fun j=>Nat.ble s0 j&&Nat.blt j i)&&ancB s0 (i+1) l
theorem ancB_at {s0:Nat}:∀ {l:List Oper}{k i:Nat}{o:Oper},ancB s0 k l=true→l[i]? = some o→s0 < k+i→∃ j∈edges o,s0≤j∧j < k+i
 | [],k,i,o,_,h,_=>by simp at h
 |o'::l,k,i,o,h,ho,hs=>by
  simp only[ancB,Bool.and_eq_true,Bool.or_eq_true]at h
  cases i with
  |zero =>
   obtain rfl:o'=o:=by simpa using ho
   rcases h.1 with h1|h1
   ·
    have:=Nat.le_of_ble_eq_true h1;omega
   ·
    obtain⟨j,hj,hb⟩:=List.any_eq_true.1 h1
    simp only[Bool.and_eq_true]at hb
    exact⟨j,hj,Nat.le_of_ble_eq_true hb.1,by have:=hb.2;simp[Nat.blt_eq]at this;omega⟩
  |succ i =>
   obtain⟨j,h1,h2,h3⟩:=ancB_at (k:=k+1) (i:=i) h.2 (by simpa using ho) (by omega)
   exact⟨j,h1,h2,by omega⟩
theorem anc_of {s0:Nat}{l:List Oper}(h:ancB s0 0 l=true):∀ (n i:Nat),i < n→s0 < i→i < l.length→Anc l s0 i
 |0,i,hn,_,_=>by omega
 |n+1,i,hn,hs,hl=>by
  obtain⟨j,h1,h2,h3⟩:=ancB_at (k:=0) (i:=i) h (List.getElem?_eq_getElem hl) (by omega)
  rcases Nat.lt_or_ge s0 j with h4|h4
  ·
   exact .step (List.getElem?_eq_getElem hl) h1 (anc_of h n j (by omega) h4 (by omega))
  ·
   obtain rfl:j=s0:=by omega
   exact .one (List.getElem?_eq_getElem hl) h1
theorem CW.drawF {ι:Type}(x0:ι) {id:Nat}{l l1 l2:List Oper}{os:Oper}{tS:ι→Tr}{rs:List (Key×Val)}(hl:l=l1++os::l2) (hgs:os.guard=none) (hrs:∀ x,(tS x).rd=rs)
  (hsp:∀ (σ:St) (a:Act) (w:World) (K:Act→World→Prop) (Q:Exit→Act→World→Prop),Sim cx σ a w→App σ rs→(∀ x a' w',Sim cx ((tS x).wr++σ) a' w'→K a' w')→os.wp cx.P a w K Q)
  (hanc:ancB l1.length 0 l=true)
  (h:RW cx l.toArray (fun ts1 σ1=>App σ1 rs∧∀ x,RW cx l.toArray (fun ts2 σ2=>chk [] [] l (ts1++tS x::ts2)=true∧Q .normal σ2) [] l2 ((tS x).wr++σ1)) [] l1 σ):CW cx (.region id l.toArray true) Q σ:=by
 obtain⟨ts1,σ1,h1,h2,h3⟩:=h
 rw[List.nil_append]at h3
 obtain⟨F,hF⟩:∃ F:ι→List Tr×St,∀ x,Steps' cx l.toArray l2 ((tS x).wr++σ1) (F x).1 (F x).2∧chk [] [] l (ts1++tS x::(F x).1)=true∧Q .normal (F x).2:=by
  refine⟨fun x=>(Classical.choose (h3 x),Classical.choose (Classical.choose_spec (h3 x))),fun x=>?_⟩
  have:=Classical.choose_spec (Classical.choose_spec (h3 x))
  exact⟨this.1,by simpa using this.2.1,this.2.2⟩
 have hlenA:∀ {ops:Array Oper} {l:List Oper} {ts:List Tr},All2 cx ops l ts→ts.length=l.length:=by
  intro ops l
  induction l with
  |nil=>intro ts h;cases ts with
   |nil=>rfl
   |cons t ts=>exact h.elim
  |cons o l ih=>intro ts h;cases ts with
   |nil=>exact h.elim
   |cons t ts=>simp[ih h.2]
 have hA1:=h1.trs
 have hl1:=hlenA hA1
 have hl2:∀ x,(F x).1.length=l2.length:=fun x=>hlenA (hF x).1.trs
 have hleft:∀ (ts:List Tr) (n k:Nat),k+ts.length≤n→left ts (Array.replicate n false) k=ts:=by
  intro ts
  induction ts with
  |nil=>intro n k _;rfl
  |cons t ts ih =>
   intro n k hk
   simp at hk
   have h0:(Array.replicate n false).getD k true=false:=by simp[Array.getD,show k < n by omega]
   simp only[left,h0]
   rw[if_neg (by simp),ih n (k+1) (by omega)]
 have hsz:l.toArray.size=l1.length+(l2.length+1):=by subst hl;simp
 have hl0:∀ x,left (ts1++tS x::(F x).1) (Array.replicate l.toArray.size false) 0=ts1++tS x::(F x).1:=fun x=>hleft _ _ _ (by have:=hl2 x;rw[hsz];simp;omega)
 have hrun:∀ x,Run (ts1++tS x::(F x).1) σ∧fin (ts1++tS x::(F x).1) σ=(F x).2:=fun x=>by
  obtain⟨r1,r2⟩:=h1.run
  obtain⟨r3,r4⟩:=(hF x).1.run
  obtain⟨r5,r6⟩:=Run.append (t2:=tS x::(F x).1) r1 (by rw[r2];exact⟨by rw[hrs];exact h2,r3⟩)
  exact⟨r5,by rw[r6,r2];exact r4⟩
 intro a w hs
 refine wp_region_any cx.mixed (wpAny_fam (ts:=fun x=>ts1++tS x::(F x).1) (s0:=l1.length) (os:=os) (rs:=rs) x0 (fun x i o ho hne=>?_) (fun x i hi=>?_) (fun x=>by have:=hl2 x;rw[hsz];simp;omega) (fun x=>fit_of_chk (hF x).2.1) (by subst hl;simp) hgs (fun x=>⟨tS x,by simp[← hl1],hrs x⟩)
  (fun σ a w K Q hs ha hK=>hsp σ a w K Q hs ha fun x a' w' hs'=>hK x (tS x) a' w' (by simp[← hl1]) hs') (fun i hi hil=>anc_of hanc (i+1) i (by omega) hi (by simpa using hil)) l.toArray.size _ σ a _ (by simp) ?_ (fun i o _ hi hli=>?_) (fun x=>by rw[hl0];exact(hrun x).1) (fun x=>by rw[hl0];have:=hl2 x;rw[hsz];simp;omega) hs.drawn fun x a' w' hs'=>⟨(F x).2,by rw[hl0,(hrun x).2]at hs';exact hs',(hF x).2.2⟩)
 ·
  have ho':l[i]? = some o:=by simpa using ho
  rw[hl]at ho'
  rcases Nat.lt_or_ge i l1.length with hi|hi
  ·
   rw[List.getElem?_append_left hi]at ho'
   obtain⟨t,h4,h5⟩:=hA1.at ho'
   exact⟨t,by rw[List.getElem?_append_left (by omega)];exact h4,h5⟩
  ·
   rw[List.getElem?_append_right hi]at ho'
   obtain⟨j,rfl⟩:∃ j,i=l1.length+(j+1):=⟨i - l1.length - 1,by omega⟩
   rw[show l1.length+(j+1) - l1.length=j+1 by omega,List.getElem?_cons_succ]at ho'
   obtain⟨t,h4,h5⟩:=(hF x).1.trs.at ho'
   exact⟨t,by rw[List.getElem?_append_right (by omega),hl1,show l1.length+(j+1) - l1.length=j+1 by omega,List.getElem?_cons_succ];exact h4,h5⟩
 ·
  show(ts1++tS x::(F x).1)[i]? = (ts1++tS x0::(F x0).1)[i]?
  rw[List.getElem?_append_left (by omega),List.getElem?_append_left (by omega)]
 ·
  simp[Array.getD,hsz]
 ·
  have h9:i < l.length:=by simpa using hi
  simp[Array.getD]at hli
  omega
theorem fam_newpin {f:FuncId}{xs:List Operand}{avs:List AV}{ys:List Arg}{l:List (Key×Val)}{e k:Nat}{rows:List (List D)}{ats:Array TypeId}(hd:Nat.blt d cx.n=true) (hc:FnNew cx.P f ys e k rows) (hsub:Subs xs avs ys l)
  (σ:St) (a:Act) (w:World) (K:Act→World→Prop) (Q:Exit→Act→World→Prop) (hs:Sim cx σ a w) (hr:App σ (l++[(.nx,.num nx)]))
  (hK:∀ (x:Option Addr×Nat×Nat) a' w',Sim cx ([(.s d,.av (.d (.v (.slice x.1 x.2.1 x.2.2)))),(.o nx,.ob (.pin e k rows (.slice x.1 x.2.1 x.2.2))),(.nx,.num (nx+1))]++σ) a' w'→K a' w') :
  Oper.wp cx.P ⟨some d,.call { callee := .value (.func f),args:=⟨xs⟩,argTypes:=ats },ty,pos,af,gd⟩ a w K Q:=by
 obtain⟨g,n',hs⟩:=hs
 have hnx:n'=nx:=by
  have h2:=hr.right.1
  rw[hs.hnx]at h2
  simpa using h2
 subst hnx
 have hcall:=hc.calls w (cx.own g σ) (xs.map a.eval) ⟨fun b hb=>own_lt hs hb,hs.gl⟩ (hsub.ok hs hr.left)
 unfold Oper.wp
 rw[call_run hc.run]
 refine hcall.mono fun r w' he=>?_
 obtain⟨v,rfl,hb,hres⟩:=he
 have hG:=SimG.join hs hb hres (.inr rfl)
 have hsl:∃ p n c,v = .slice p n c:=by
  obtain⟨xs,h1,_⟩:=hres
  rcases h1.2 with ⟨h,_⟩|⟨g,cap,cur,h,_⟩
  ·
   exact⟨_,_,_,h⟩
  ·
   exact⟨_,_,_,h⟩
 obtain⟨p,n,c,rfl⟩:=hsl
 exact hK (p,n,c) _ _ (Sim.put hG (lt_of_blt hd) (Below.refl _ _) (av := .d (.v (.slice p n c))) (Rd.v _) trivial)
theorem own2_ret {t e k e2 k2 id n id2:Nat}{rowsF:Value→List (List D)}{rows2:List (List D)}{x:Value}(h1:get σ (.s t) = .av (.own id n)) (h2:get σ (.o id) = .ob (.arr e k (rowsF x))) (h3:n=(rowsF x).length)
  (h4:get σ (.o id2) = .ob (.pin e2 k2 rows2 x)):own2Q t e k rowsF e2 k2 rows2 .ret σ:=⟨id,n,id2,x,h1,h2,h3,h4⟩
end Go.AX
namespace Go.Proofs.Ytfpkamiobdkcpaa
open Go.AX Go.RF
set_option maxRecDepth 100000
set_option maxHeartbeats 8000000
theorem new_chainOwn (l:List Chain) (hl:l.length≤268435456) (hv:∀ c∈l,c.vs.length≤268435456):FnNew Try.prog 10 [.d (encChains l)] 45 2 (l.map Chain.enc):=by
 refine fnNew_of tbl_ok mixed_ok Try.func10 rfl (by kernel_rfl) rfl rfl fun w0 own0=>?_
 try refine wk ?_
 refine CW.stut (stut_promote (i:=3) 45 2) ⟨rfl,rfl,trivial⟩ ?_
 refine CW.loopT (fun i:Nat=>[sd 6 (encChains l),sd 7 (dint l.length),sd 8 (dint i),so 3 0 i,oa 0 45 2 ((l.take i).map Chain.enc),nxt 1]) (fun i=>i≤l.length) (fun i=>l.length - i) 0 (by omega) ?_ ?_
 ·
  exact by_less
 ·
  rintro i hi
  rcases drop_case hi with ⟨h1,h2⟩|⟨c,h1,h2,h3⟩
  ·
   subst h2
   rw[List.take_length]
   try refine wk ?_
   exact RetNew.own rfl rfl (by simp)
  ·
   have h4:(l.take i).map Chain.enc++[c.enc]=(l.take (i+1)).map Chain.enc:=by rw[List.take_add_one,h2];simp
   have hcv:=hv c (List.mem_of_getElem? h2)
   have hc:=ok_clone_version (c.vs.map Version.enc) (by simp;omega)
   try refine wk ?_
   refine q_loopT (i+1) (by omega) (by omega) ?_
   exact by_less
def keptRows (l:List Chain) (m:Nat) (c:Chain) (x:Value):List (List D):=(l.map Chain.enc).set m [dstr c.key,.v x]
theorem own2_chain (l:List Chain) (m:Nat) (c0:Chain) (h0:l[m]? = some c0) (hl:l.length≤268435456) (hv:∀ c∈l,c.vs.length≤268435456) :
  FnOwn2 Try.prog 10 [.d (encChains l)] 45 2 (keptRows l m c0) 26 4 (c0.vs.map Version.enc):=by
 refine fnOwn2_of tbl_ok mixed_ok Try.func10 rfl (by kernel_rfl) rfl rfl fun w0 own0=>?_
 have hml:m < l.length:=(List.getElem?_eq_some_iff.1 h0).1
 try refine wk ?_
 refine CW.stut (stut_promote (i:=3) 45 2) ⟨rfl,rfl,trivial⟩ ?_
 refine CW.loopT (fun t:Nat×Option Value=>match t.2 with
   |none=>[sd 6 (encChains l),sd 7 (dint l.length),sd 8 (dint t.1),so 3 0 t.1,oa 0 45 2 ((l.take t.1).map Chain.enc),nxt 1]
   |some x=>[sd 6 (encChains l),sd 7 (dint l.length),sd 8 (dint t.1),so 3 0 t.1,oa 0 45 2 ((keptRows l m c0 x).take t.1),(.o 2,.ob (.pin 26 4 (c0.vs.map Version.enc) x)),nxt 3])
  (fun t=>t.1≤l.length∧(t.2=none→t.1≤m)∧(t.2≠none→m < t.1)) (fun t=>l.length - t.1) (0,none) ⟨by omega,fun _=>Nat.zero_le _,fun h=>absurd rfl h⟩ ?_ ?_
 ·
  exact by_less
 ·
  rintro ⟨i,o⟩ ⟨hi,hn,hs⟩
  dsimp only at hi hn hs ⊢
  have hkl:∀ x,(keptRows l m c0 x).length=l.length:=fun x=>by simp[keptRows]
  cases o with
  |none =>
   have him:=hn rfl
   dsimp only
   rcases drop_case hi with ⟨h1,h2⟩|⟨c,h1,h2,h3⟩
   ·
    omega
   ·
    have hcv:=hv c (List.mem_of_getElem? h2)
    rcases Nat.lt_or_ge i m with hlt|hge
    ·
     have h4:(l.take i).map Chain.enc++[c.enc]=(l.take (i+1)).map Chain.enc:=by rw[List.take_add_one,h2];simp
     have hc:=ok_clone_version (c.vs.map Version.enc) (by simp;omega)
     try refine wk ?_
     refine q_loopT (i+1,none) ⟨by dsimp only;omega,fun _=>by dsimp only;omega,fun h=>absurd rfl h⟩ (by dsimp only;omega) ?_
     exact by_less
    ·
     obtain rfl:i=m:=by omega
     obtain rfl:c0=c:=by rw[h0]at h2;exact Option.some.inj h2
     have h4:∀ x,(l.take i).map Chain.enc++[[dstr c0.key,.v x]]=(keptRows l i c0 x).take (i+1):=fun x=>by
      rw[keptRows,List.take_add_one,List.getElem?_set_self (by simpa using hml),List.take_set_of_le (Nat.le_refl _),List.map_take];rfl
     have hc:=new_clone_version (c0.vs.map Version.enc) (by simp;omega)
     have hst0:StopX 5:=⟨rfl⟩
     try refine wkS ?_
     clear hst0
     refine Stop.go ?_
     apply CW.drawF (x0:=((none,0,0):Option Addr×Nat×Nat)) (l1:=[_,_,_,_,_]) (l2:=[_,_,_,_]) (tS:=fun x=>⟨(rdOf (.tmp 16) (.d (encVs c0.vs))++([]++[]))++[(.nx,.num 2)],[(.s 17,.av (.d (.v (.slice x.1 x.2.1 x.2.2)))),(.o 2,.ob (.pin 26 4 (c0.vs.map Version.enc) (.slice x.1 x.2.1 x.2.2))),(.nx,.num 3)]⟩)
      (rs:=(rdOf (.tmp 16) (.d (encVs c0.vs))++([]++[]))++[(.nx,.num 2)])
     ·
      rfl
     ·
      rfl
     ·
      exact fun _=>rfl
     ·
      exact fam_newpin rfl hc (.cons (x := .tmp 16) (av := .d (encVs c0.vs)) trivial (.d (.refl _)) .nil)
     ·
      rfl
     try refine wk ?_
     refine And.intro ⟨rfl,rfl,trivial⟩ fun x=>?_
     obtain⟨p,n,cp⟩:=x
     have h4':=h4 (.slice p n cp)
     have hk:=hkl (.slice p n cp)
     dsimp only
     try refine wk ?_
     refine q_loopT (i+1,some (.slice p n cp)) ⟨by dsimp only;omega,fun h=>(by cases h),fun _=>by dsimp only;omega⟩ (by dsimp only;omega) ?_
     exact by_less
  |some x =>
   have him:=hs (by simp)
   have hk:=hkl x
   dsimp only
   rcases drop_case hi with ⟨h1,h2⟩|⟨c,h1,h2,h3⟩
   ·
    subst h2
    rw[List.take_of_length_le (by rw[hkl];exact Nat.le_refl _)]
    try refine wk ?_
    exact own2_ret (id2:=2) rfl rfl (hkl x).symm rfl
   ·
    have hcv:=hv c (List.mem_of_getElem? h2)
    have h4:(keptRows l m c0 x).take i++[c.enc]=(keptRows l m c0 x).take (i+1):=by
     rw[List.take_add_one,keptRows,List.getElem?_set_ne (by omega)];simp[h2]
    have hc:=ok_clone_version (c.vs.map Version.enc) (by simp;omega)
    try refine wk ?_
    refine q_loopT (i+1,some x) ⟨by dsimp only;omega,fun h=>(by cases h),fun _=>by dsimp only;omega⟩ (by dsimp only;omega) ?_
    exact by_less
end Go.Proofs.Ytfpkamiobdkcpaa
namespace Go.AX
open Go.RowKit
variable {cx:Cx}{g:Nat→Value}{σ σ':St}{a:Act}{w w':World}{nx:Nat}{c:Code}{Q:Exit→St→Prop}
variable {ty:TypeId}{pos:String}{af:Array Edge}{gd:Option (Nat×Bool)}{d:Nat}
variable {ops:Array Oper}{rest:List Oper}{o:Oper}
theorem SW.s1 {rd wr:List (Key×Val)}(ha:autA cx σ o=some ⟨rd,wr⟩) (h:SW cx ops Q rest (wr++σ)):SW cx ops Q (o::rest) σ:=by
 obtain⟨dst,op,ty,pos,af,gd⟩:=o
 cases gd with
 |some p=>cases ha
 |none =>
  simp only[autA]at ha
  split at ha
  ·
   next hd =>
   obtain⟨h1,h2⟩:=trA_ok (cx:=cx) (ty:=ty) (pos:=pos) (af:=af) (gd:=none) hd ha
   exact SW.step rfl ⟨h1,h2⟩ h
  ·
   cases ha
theorem SW.s5 {rd wr:List (Key×Val)}(ho:OA cx σ o ⟨rd,wr⟩) (hg:o.guard=none) (h:SW cx ops Q rest (wr++σ)):SW cx ops Q (o::rest) σ:=SW.step hg ho h
theorem SW.nil (h:Q .normal σ):SW cx ops Q [] σ:=fun a w hs=>wpList_nil ⟨σ,hs,h⟩
theorem SW.stut {t:Tr}{l:List Oper}(hs:Stut cx t) (ha:App σ t.rd) (h:SW cx ops Q l (t.wr++σ)):SW cx ops Q l σ:=fun a w hsim=>h a w (hs σ a w hsim ha)
theorem CW.fact {p:Prop}(hf:∀ a w,Sim cx σ a w→p) (h:p→CW cx c Q σ):CW cx c Q σ:=fun a w hs=>h (hf a w hs) a w hs
theorem SW.fact {p:Prop}{l:List Oper}(hf:∀ a w,Sim cx σ a w→p) (h:p→SW cx ops Q l σ):SW cx ops Q l σ:=fun a w hs=>h (hf a w hs) a w hs
theorem pin_shape {id e k:Nat}{rows:List (List D)}{x:Value}(ho:get σ (.o id) = .ob (.pin e k rows x)) (h0:rows≠[]) (a:Act) (w:World) (hs:Sim cx σ a w):∃ b cp,x = .slice (some ⟨b,0,none⟩) rows.length cp:=by
 obtain⟨g,nx,hs⟩:=hs
 obtain⟨_,⟨hgx,xs,h1,_⟩,_⟩:=hs.objs id _ ho
 rcases h1.2 with ⟨_,hn⟩|⟨b,cap,cur,hv,_⟩
 ·
  exact absurd (List.eq_nil_of_length_eq_zero hn) h0
 ·
  exact⟨b,cap,by rw[← hgx];exact hv⟩
theorem pin_slice {id e k:Nat}{rows:List (List D)}{x:Value}(ho:get σ (.o id) = .ob (.pin e k rows x)) (a:Act) (w:World) (hs:Sim cx σ a w):∃ p cp,x = .slice p rows.length cp:=by
 obtain⟨g,nx,hs⟩:=hs
 obtain⟨_,⟨hgx,xs,h1,_⟩,_⟩:=hs.objs id _ ho
 rcases h1.2 with ⟨hv,hn⟩|⟨b,cap,cur,hv,_⟩
 ·
  exact⟨none,0,by rw[← hgx,hv,hn]⟩
 ·
  exact⟨_,cap,by rw[← hgx];exact hv⟩
theorem stut_unpin {i id e k:Nat}{rows:List (List D)}{x:Value} :
  Stut cx ⟨[(.s i,.av (.d (.v x))),(.o id,.ob (.pin e k rows x)),(.nx,.num nx)],[(.s i,.av (.own nx rows.length)),(.o nx,.ob (.arr e k rows)),(.nx,.num (nx+1)),(.o id,.none)]⟩:=by
 intro σ a w hs hr
 exact sim_unpin i id e k nx rows x hr.1 hr.2.1 hr.2.2.1 hs
theorem ok_iav {t:TypeId}{x y:Operand}{b n cp k i:Nat}{kd:IntKind}{ti:TI}(hd:d < cx.n) (hx:EvS x (.d (.v (.slice (some ⟨b,0,none⟩) n cp)))) (hy:EvS y (.d (.v (.int kd (i:Int))))) (ht:tget cx.T t=some ti) (hk:slK ti=some k) (hi:i < n) :
  OpOk cx ⟨some d,.indexAddr t x y,ty,pos,af,gd⟩ ⟨rdOf x (.d (.v (.slice (some ⟨b,0,none⟩) n cp)))++rdOf y (.d (.v (.int kd (i:Int)))),[(.s d,.av (.d (.v (.pointer (some ⟨b,i*k,none⟩)))))]⟩:=by
 refine ok_val rfl hd fun σ a w g nx hs hr=>?_
 obtain⟨_,ie,hu,hie,hks,_⟩:=slice_of (cx.hT t ti ht) hk
 have hv:=rep_v (hs.ev hx hr.left).1
 have hy':=rep_v (hs.ev hy hr.right).1
 refine⟨.pointer (some ⟨b,i*k,none⟩),w,?_,Below.refl _ _,Rd.v _,trivial⟩
 have:(⟨b,0,none⟩:Addr).add (i*k)=⟨b,i*k,none⟩:=by rw[add_lit,Nat.zero_add]
 simp[execOp,hy',hv,Instr.indexAt,asIntOf,run_underlying hu,sizeOf,typeInfo,hie,hks,this]
 omega
theorem ok_fav {t:TypeId}{x:Operand}{b q:Nat}{ti:TI}{fl off:Nat}(hd:d < cx.n) (hx:EvS x (.d (.v (.pointer (some ⟨b,q,none⟩))))) (ht:tget cx.T t=some ti) (hf:fldOff ti fl=some off) :
  OpOk cx ⟨some d,.fieldAddr t x fl,ty,pos,af,gd⟩ ⟨rdOf x (.d (.v (.pointer (some ⟨b,q,none⟩)))),[(.s d,.av (.d (.v (.pointer (some ⟨b,q+off,none⟩)))))]⟩:=by
 refine ok_val rfl hd fun σ a w g nx hs hr=>?_
 have hv:=rep_v (hs.ev hx hr).1
 refine⟨.pointer (some ⟨b,q+off,none⟩),w,?_,Below.refl _ _,Rd.v _,trivial⟩
 have h2:=fieldAt_of (cx.hT t ti ht) hf ⟨b,q,none⟩ w
 rw[add_lit]at h2
 simp[execOp,hv,h2]
theorem ok_load_pin {t:TypeId}{x:Operand}{id n i f e k b cp q:Nat}{rows:List (List D)}{r:List D}{ti:TI}{y:D}(hd:d < cx.n) (hx:EvS x (.d (.v (.pointer (some ⟨b,q,none⟩))))) (ht:tget cx.T t=some ti) (hq:q=i*k+f) (hr:rows[i]? = some r)
  (hl:ldD ti (r.drop f)=some y) :
  OpOk cx ⟨some d,.load t x,ty,pos,af,gd⟩ ⟨rdOf x (.d (.v (.pointer (some ⟨b,q,none⟩))))++[(.o id,.ob (.pin e k rows (.slice (some ⟨b,0,none⟩) n cp)))],[(.s d,.av (.d y))]⟩:=by
 refine ok_val rfl hd fun σ a w g nx hs hrd=>?_
 have ho:get σ (.o id) = .ob (.pin e k rows (.slice (some ⟨b,0,none⟩) n cp)):=hrd.right.1
 subst hq
 have hv:=rep_v (hs.ev hx hrd.left).1
 obtain⟨_,⟨hgx,xs,h1,h2,h3,h4⟩,_⟩:=hs.objs id _ ho
 have hb:blk (g id)=some b:=by rw[hgx];rfl
 have hil:=(List.getElem?_eq_some_iff.1 hr).1
 have hrk:=h3 r (List.mem_of_getElem? hr)
 have hc:RdCells w (cx.own g σ) ⟨b,i*k+f,none⟩ (r.drop f):=by
  intro j z hz
  rw[List.getElem?_drop]at hz
  have hj:f+j < k:=by rw[← hrk];exact(List.getElem?_eq_some_iff.1 hz).1
  have hlen:i*k+(f+j) < xs.length:=by
   rw[h1.1]
   have h5:(i+1)*k≤rows.length*k:=Nat.mul_le_mul_right _ hil
   rw[Nat.add_mul,Nat.one_mul]at h5
   omega
  refine⟨xs[i*k+(f+j)],?_,h2 _ (List.getElem_mem _),h4 i (f+j) r z _ hr hz (List.getElem?_eq_getElem hlen)⟩
  rw[add_lit,show i*k+f+j=i*k+(f+j) by omega]
  have:=h1.cells (g:=b) (by rw[← blk_own h1];exact hb) (i*k+(f+j)) _ (List.getElem?_eq_getElem hlen)
  rw[add_lit,Nat.zero_add]at this
  exact this
 obtain⟨v,h5,h6⟩:=run_load_cells (cx.hT t ti ht) hc hl
 have h5':(loadVar t ⟨b,i*k+f,none⟩).run cx.P w = .ok v w:=by simpa[Instr.loadAt,Instr.sureAddr] using h5
 exact⟨v,w,by simp[execOp,hv,Instr.loadAt,Instr.sureAddr,h5'],Below.refl _ _,h6,trivial⟩
theorem ok_store_pin {t:TypeId}{x y:Operand}{id n i f e k b cp q:Nat}{rows:List (List D)}{r new:List D}{av:AV}{ti:TI}(hx:EvS x (.d (.v (.pointer (some ⟨b,q,none⟩))))) (hy:EvS y av) (ht:tget cx.T t=some ti) (hc:dcells av=some new)
  (hq:q=i*k+f) (hr:rows[i]? = some r) (hnn:Nat.beq new.length ti.n=true) (hle:f+new.length≤r.length) :
  OpOk cx ⟨none,.store t x y,ty,pos,af,gd⟩ ⟨rdOf x (.d (.v (.pointer (some ⟨b,q,none⟩))))++(rdOf y av++[(.o id,.ob (.pin e k rows (.slice (some ⟨b,0,none⟩) n cp)))]),[(.o id,.ob (.pin e k (rows.set i (splice r f new)) (.slice (some ⟨b,0,none⟩) n cp)))]⟩:=by
 rintro σ a w K Q ⟨g,nx,hs⟩ hrd hK
 have ho:get σ (.o id) = .ob (.pin e k rows (.slice (some ⟨b,0,none⟩) n cp)):=hrd.right.right.1
 subst hq
 have hv:=rep_v (hs.ev hx hrd.left).1
 obtain⟨hav,hbd⟩:=hs.ev hy hrd.right.left
 obtain⟨hidn,⟨hgx,xs,h1,h2,h3,h4⟩,_⟩:=hs.objs id _ ho
 have hb:blk (g id)=some b:=by rw[hgx];rfl
 obtain⟨c1,c2,c3⟩:=dcells_ok hs hav hc
 have hF:=cx.hT t ti ht
 have hnn':new.length=ti.n:=by simpa using hnn
 have hil:=(List.getElem?_eq_some_iff.1 hr).1
 have hrk:=h3 r (List.mem_of_getElem? hr)
 have h5:(i+1)*k≤rows.length*k:=Nat.mul_le_mul_right _ hil
 rw[Nat.add_mul,Nat.one_mul]at h5
 rcases h1.2 with ⟨_,h6⟩|⟨b',cap,cur,hv',hge,hh,hle',hcm,hsz,htk⟩
 ·
  omega
 have hbb:b'=b:=by rw[hv']at hb;simpa[blk] using hb
 subst hbb
 generalize hX:a.eval y=X at hav c1 c2 c3
 have hlen:X.cells.toList.length=new.length:=c1
 have hcap:rows.length*k≤cap*k:=Nat.mul_le_mul_right _ hle'
 have hst:=run_storeCells_at (P:=cx.P) b' (i*k+f) e X.cells.toList 0 cur w hh (by rw[hlen];omega) c2
 simp only[Nat.add_zero]at hst
 have hX':X.cells.size=ti.n:=by rw[← hnn',← hlen];simp
 have hrun:(Instr.storeAt t (.pointer (some ⟨b',i*k+f,none⟩)) X).run cx.P w = .ok () (w.setRow b' (splice cur.toList (i*k+f) X.cells.toList).toArray):=by
  simp[Instr.storeAt,Instr.sureAddr,storeVar,sizeOf_of hF w,hX',hst,splice]
 generalize hcs':(splice cur.toList (i*k+f) X.cells.toList).toArray=cs' at hrun
 have hheap:(w.setRow b' cs').heap[b']? = some (.cells cs' e (0,0)):=setRow_heap w b' cur cs' e (0,0) hh
 have hle2:i*k+f+X.cells.toList.length≤cur.toList.length:=by rw[hlen];simp;omega
 have hrows:(rows.set i (splice r f new)).length=rows.length:=by simp
 have hOS:ObjStep cx σ g nx nx w (w.setRow b' cs') id (.pin e k (rows.set i (splice r f new)) (.slice (some ⟨b',0,none⟩) n cp)) (g id):=by
  refine⟨.inr ⟨rfl,.pin e k rows (.slice (some ⟨b',0,none⟩) n cp),ho,trivial⟩,⟨rfl,rfl,rfl,by simp,fun k hk=>setRow_other w b' k cs' (by omega)⟩,fun b hb hne=>setRow_other w b' b cs' (fun e=>hne _ ho (by rw[hv',e];rfl)),fun b hb => .inl ⟨_,ho,hb⟩⟩
 have hxs':cs'.toList.take (rows.length*k)=splice xs (i*k+f) X.cells.toList:=by
  subst hcs'
  apply List.ext_getElem?
  intro j
  have hxl:xs.length=rows.length*k:=h1.1
  rw[List.getElem?_take]
  show(if j < rows.length*k then (splice cur.toList (i*k+f) X.cells.toList)[j]? else none)=_
  rw[splice_get hle2,splice_get (l:=xs) (by rw[hxl,hlen];omega)]
  by_cases hj:j < rows.length*k
  ·
   rw[if_pos hj]
   split
   ·
    rfl
   ·
    rw[← htk,List.getElem?_take,if_pos hj]
  ·
   rw[if_neg hj,if_neg (by rw[hlen];omega),List.getElem?_eq_none (by omega)]
 have hG:=SimG.obj hs hOS (fun hlat=>?_) trivial
 ·
  unfold Oper.wp
  simp only[execOp,hv,hX,Sem.run_bind,hrun,Result.andThen_ok,Sem.run_pure,Oper.upon,Act.put]
  refine hK _ _ (Sim.eqv ⟨_,_,hG⟩ fun k=>?_)
  cases k with
  |s i=>rw[objSt_s];exact(get_cons_ne (by simp)).symm
  |o i =>
   by_cases hi:i=id
   ·
    subst hi;rw[get_cons_same];exact get_cons_same.symm
   ·
    rw[objSt_o hi];exact(get_cons_ne (by simpa using fun e=>hi e.symm)).symm
  |nx=>rw[objSt_nx];exact hs.hnx.symm.trans (get_cons_ne (by simp)).symm
 ·
  have hsl:(splice xs (i*k+f) X.cells.toList).length=xs.length:=splice_len (by rw[h1.1,hlen];omega)
  refine⟨(upd_same _ _ _).trans hgx,splice xs (i*k+f) X.cells.toList,⟨by rw[hsl,h1.1,hrows],.inr ⟨b',cap,cs',?_,hge,hheap,by rw[hrows];exact hle',hcm,?_,by rw[hrows];exact hxs'⟩⟩,fun x hx=>?_,fun r' hr'=>?_,fun i' j r' z x hi' hj hx=>?_⟩
  ·
   rw[upd_same,hv',hrows]
  ·
   subst hcs';rw[← hsz];simpa using splice_len hle2
  ·
   obtain⟨j,hj⟩:=List.getElem?_of_mem hx
   rw[splice_get (by rw[h1.1,hlen];omega)]at hj
   split at hj
   ·
    exact c2 x (List.mem_of_getElem? hj)
   ·
    exact h2 x (List.mem_of_getElem? hj)
  ·
   rcases List.mem_or_eq_of_mem_set hr' with h|h
   ·
    exact h3 r' h
   ·
    subst h;rw[splice_len hle,hrk]
  ·
   have hjk:j < k:=by
    have hm:r'∈rows.set i (splice r f new):=List.mem_of_getElem? hi'
    have:r'.length=k:=by
     rcases List.mem_or_eq_of_mem_set hm with h|h
     ·
      exact h3 r' h
     ·
      subst h;rw[splice_len hle,hrk]
    rw[← this];exact(List.getElem?_eq_some_iff.1 hj).1
   rw[splice_get (by rw[h1.1,hlen];omega)]at hx
   by_cases hii:i=i'
   ·
    subst hii
    rw[List.getElem?_set_self hil]at hi'
    cases hi'
    rw[splice_get hle]at hj
    by_cases hin:f≤j∧j < f+new.length
    ·
     rw[if_pos hin]at hj
     rw[if_pos (by rw[hlen];omega),show i*k+j - (i*k+f)=j - f by omega]at hx
     exact(c3 (j - f) x z hj hx).step hlat.ext hlat.own
    ·
     rw[if_neg hin]at hj
     rw[if_neg (by rw[hlen];omega)]at hx
     exact(h4 i j r z x hr hj hx).step hlat.ext hlat.own
   ·
    rw[List.getElem?_set_ne hii]at hi'
    have hout:¬ (i*k+f≤i'*k+j∧i'*k+j < i*k+f+X.cells.toList.length):=by
     rw[hlen]
     rcases Nat.lt_or_ge i' i with hlt|hge
     ·
      have:=Nat.mul_le_mul_right k hlt
      rw[Nat.succ_mul]at this
      omega
     ·
      have:=Nat.mul_le_mul_right k (show i+1≤i' by omega)
      rw[Nat.add_mul,Nat.one_mul]at this
      omega
    rw[if_neg hout]at hx
    exact(h4 i' j r' z x hi' hj hx).step hlat.ext hlat.own
theorem a_iav {t:TypeId}{x y:Operand}{b n cp k i:Nat}{kd:IntKind}{ti:TI}(hx:ev σ x=some (.d (.v (.slice (some ⟨b,0,none⟩) n cp)))) (hy:ev σ y=some (.d (.v (.int kd (i:Int))))) (ht:tget cx.T t=some ti) (hk:slK ti=some k) (hd:Nat.blt d cx.n=true) (hi:i < n) :
  OA cx σ ⟨some d,.indexAddr t x y,ty,pos,af,gd⟩ ⟨rdOf x (.d (.v (.slice (some ⟨b,0,none⟩) n cp)))++rdOf y (.d (.v (.int kd (i:Int)))),[(.s d,.av (.d (.v (.pointer (some ⟨b,i*k,none⟩)))))]⟩ :=
 ⟨ok_iav (lt_of_blt hd) (ev_out hx).1 (ev_out hy).1 ht hk hi,(ev_out hx).2.append (ev_out hy).2⟩
theorem a_fav {t:TypeId}{x:Operand}{b q:Nat}{ti:TI}{fl off:Nat}(hx:ev σ x=some (.d (.v (.pointer (some ⟨b,q,none⟩))))) (ht:tget cx.T t=some ti) (hf:fldOff ti fl=some off) (hd:Nat.blt d cx.n=true) :
  OA cx σ ⟨some d,.fieldAddr t x fl,ty,pos,af,gd⟩ ⟨rdOf x (.d (.v (.pointer (some ⟨b,q,none⟩)))),[(.s d,.av (.d (.v (.pointer (some ⟨b,q+off,none⟩)))))]⟩ :=
 ⟨ok_fav (lt_of_blt hd) (ev_out hx).1 ht hf,(ev_out hx).2⟩
theorem a_lpin {t:TypeId}{x:Operand}(id i f:Nat) {n e k b cp q:Nat}{rows:List (List D)}{r:List D}{ti:TI}{y:D}(hx:ev σ x=some (.d (.v (.pointer (some ⟨b,q,none⟩))))) (ho:get σ (.o id) = .ob (.pin e k rows (.slice (some ⟨b,0,none⟩) n cp))) (ht:tget cx.T t=some ti)
  (hd:Nat.blt d cx.n=true) (hr:rows[i]? = some r) (hl:ldD ti (r.drop f)=some y) (hq:q=i*k+f) :
  OA cx σ ⟨some d,.load t x,ty,pos,af,gd⟩ ⟨rdOf x (.d (.v (.pointer (some ⟨b,q,none⟩))))++[(.o id,.ob (.pin e k rows (.slice (some ⟨b,0,none⟩) n cp)))],[(.s d,.av (.d y))]⟩ :=
 ⟨ok_load_pin (lt_of_blt hd) (ev_out hx).1 ht hq hr hl,(ev_out hx).2.append ⟨ho,trivial⟩⟩
theorem a_spin {t:TypeId}{x y:Operand}(id i f:Nat) {n e k b cp q:Nat}{rows:List (List D)}{r new:List D}{av:AV}{ti:TI}(hx:ev σ x=some (.d (.v (.pointer (some ⟨b,q,none⟩))))) (ho:get σ (.o id) = .ob (.pin e k rows (.slice (some ⟨b,0,none⟩) n cp))) (hy:ev σ y=some av) (ht:tget cx.T t=some ti)
  (hc:dcells av=some new) (hnn:Nat.beq new.length ti.n=true) (hr:rows[i]? = some r) (hle:Nat.ble (f+new.length) r.length=true) (hq:q=i*k+f) :
  OA cx σ ⟨none,.store t x y,ty,pos,af,gd⟩ ⟨rdOf x (.d (.v (.pointer (some ⟨b,q,none⟩))))++(rdOf y av++[(.o id,.ob (.pin e k rows (.slice (some ⟨b,0,none⟩) n cp)))]),[(.o id,.ob (.pin e k (rows.set i (splice r f new)) (.slice (some ⟨b,0,none⟩) n cp)))]⟩ :=
 ⟨ok_store_pin (ev_out hx).1 (ev_out hy).1 ht hc hq hr hnn (by simpa using hle),(ev_out hx).2.append ((ev_out hy).2.append ⟨ho,trivial⟩)⟩
end Go.AX
namespace Go.Proofs.Ytfpkamiobdkcpaa
open Go.AX Go.RF Go.RowKit Go.Shelf Go.Lib
theorem run_copy_k {P:Program}(w:World) (dT sT ty elem:TypeId) (k g o dLen dCap:Nat) (a:Addr) (sLen sCap q:Nat) (cur:Array Value) (t:TypeId) (cs:List Value)
  (hu:P.underlying dT=some (.slice elem)) (hs:(P.info? elem).map (·.size)=some k)
  (hg:w.heap[g]? = some (.cells cur t (0,0))) (hq:Nat.min sLen dLen=q) (hn:cs.length=q*k)
  (hsrc:∀ j v,cs[j]? = some v→w.cell? (a.add j)=some v) (hfit:o+cs.length≤cur.size) (h1:∀ v∈cs,v.oneCell'=true) :
  (Builtin.copy_ #[dT,sT] ty #[.slice (some ⟨g,o,none⟩) dLen dCap,.slice (some a) sLen sCap]).run P w =
   .ok (goInt q) (w.setRow g (cur.toList.take o++cs++cur.toList.drop (o+cs.length)).toArray):=by
 have hl:=run_loadCells_list (P:=P) w a cs hsrc
 have hst:=run_storeCells_at P g o t cs 0 cur w hg (by simpa using hfit) h1
 cases hq':P.info? elem with
 |none=>simp[hq']at hs
 |some i =>
  have hi:i.size=k:=by simpa[hq'] using hs
  simp[Builtin.copy_,run_underlying hu,Builtin.lenOf,Builtin.firstCells,sizeOf,typeInfo,hq',hi,hq,← hn,hl,hst]
theorem overlaps_arm {motive:Array Value→Type}{a b:Option Addr}{la ca lb cb:Nat}{h1:∀ (a:Option Addr) (la c:Nat) (b:Option Addr) (lb d:Nat),motive #[.slice a la c,.slice b lb d]}{h2:∀ x,motive x} :
  Extern.SlicesOverlaps.overlaps.match_4 motive #[.slice a la ca,.slice b lb cb] h1 h2=h1 a la ca b lb cb:=rfl
theorem run_overlaps_b {P:Program}(w:World) (tS tR e:TypeId) (ht:P.underlying tS=some (.slice e)) (size:Nat) (hz:∀ w,(Go.sizeOf e).run P w = .ok size w)
  (a b:Addr) (la ca lb cb:Nat) (hne:a.block≠b.block) (tA tB:TypeId) (kA kB:Nat)
  (hsa:w.shape? a.block=some (tA,kA+1)) (hsb:w.shape? b.block=some (tB,kB+1)) (hfb:w.frozen? b=false) (hfe:w.frozen? { block:=b.block,off:=kB+1 }=false) :
  (Extern.SlicesOverlaps.overlaps #[tS,tS] #[tR] #[.slice (some a) la ca,.slice (some b) lb cb]).run P w = .ok (.bool false) w:=by
 have hnb:(a.block != b.block)=true:=by simpa using hne
 have hnb':(a.block==b.block)=false:=by simpa using hne
 delta Extern.SlicesOverlaps.overlaps
 dsimp only
 rw[overlaps_arm]
 by_cases h0:la=0∨lb=0∨size=0
 ·
  simp[run_underlying ht,hz,h0]
 ·
  cases hfa:w.frozen? a <;> cases hfa2:w.frozen? { block:=a.block,off:=kA+1 } <;>
   simp[run_underlying ht,hz,h0,hnb,hnb',frozen,noView,viewAt,mayBeOne,stringish,shape,Sem.run,hsa,hsb,hfb,hfe,hfa,hfa2]
theorem alloc_new_at (w:World) (o:Obj):(w.alloc o).heap[w.heap.size]? = some o:=heap_alloc_new w o
theorem append_ty {P:Program}(ts:Array TypeId) (ty:TypeId) (args:Array Value) (w:World):(Builtin.append_ ts ty args).run P w=(Builtin.append_ ts 0 args).run P w:=rfl
theorem append_types {P:Program}{t u e e':TypeId}(ht:P.underlying t=some (.slice e)) (hu:P.underlying u=some (.slice e')) (ty:TypeId) (args:Array Value) (w:World) :
  (Builtin.append_ #[t,u] ty args).run P w=(Builtin.append_ #[t,t] ty args).run P w:=by
 cases h0:args[0]? with
 |none=>simp[Builtin.append_,h0]
 |some s =>
  cases h1:args[1]? with
  |none=>simp[Builtin.append_,h0,h1]
  |some x=>cases s <;> simp[Builtin.append_,h0,h1,run_underlying ht,run_underlying hu]
theorem room_cells {cur:List Value}{n i:Nat}{c0 c1:Value}(hi:i < n) (hl:(n+1)*2≤cur.length) :
  let mid:=cur.take ((i+1)*2)++(cur.drop (i*2)).take ((n - i)*2)++cur.drop ((i+1)*2+(n - i)*2)
  (mid.take (i*2)++[c0,c1]++mid.drop (i*2+2)).take ((n+1)*2)=(cur.take (n*2)).take (i*2)++[c0,c1]++(cur.take (n*2)).drop (i*2):=by
 intro mid
 have hm:mid=cur.take ((i+1)*2)++(cur.drop (i*2)).take ((n - i)*2)++cur.drop ((i+1)*2+(n - i)*2):=rfl
 have hml:mid.length=cur.length:=by rw[hm];simp;omega
 have h1:(cur.take ((i+1)*2)).length=(i+1)*2:=by simp;omega
 have h2:((cur.drop (i*2)).take ((n - i)*2)).length=(n - i)*2:=by simp;omega
 have e1:mid.take (i*2)=cur.take (i*2):=by
  rw[hm,List.append_assoc,List.take_append_of_le_length (by rw[h1];omega),List.take_take,Nat.min_eq_left (by omega)]
 have e2:mid.drop (i*2+2)=(cur.drop (i*2)).take ((n - i)*2)++cur.drop ((i+1)*2+(n - i)*2):=by
  rw[hm,List.append_assoc,List.drop_append_of_le_length (by rw[h1];omega),List.drop_eq_nil_of_le (by rw[h1];omega),List.nil_append]
 rw[e1,e2,List.take_take,Nat.min_eq_left (show i*2≤n*2 by omega),List.drop_take]
 have h3:(cur.take (i*2)).length=i*2:=by simp;omega
 rw[List.take_append,List.take_of_length_le (by simp;omega)]
 congr 1
 rw[List.take_append_of_le_length (by simp;omega),List.take_of_length_le (by simp;omega)]
 congr 1
 omega
theorem shape_of {w:World}{ad:Addr}{c:Value}(h:w.cell? (ad.add 0)=some c):∃ t k,w.shape? ad.block=some (t,k+1):=by
 rw[AX.add_zero]at h
 unfold World.cell? at h
 unfold World.shape?
 split at h
 ·
  next cs e fr hh =>
  split at h
  ·
   cases h
  ·
   have:=(Array.getElem?_eq_some_iff.1 h).1
   exact⟨e,cs.size - 1,by simp;omega⟩
 ·
  cases h
set_option maxHeartbeats 4000000 in
set_option maxRecDepth 100000 in
theorem insert_room (g n cap i:Nat) (ad:Addr) (cp:Nat) (w:World) (cur:Array Value) (c0 c1:Value) (hg:w.heap[g]? = some (.cells cur 45 (0,0))) (hsz:cur.size=cap*2) (hi:i < n) (hn:n≤268435456) (hc:n+1≤cap) (hcm:cap≤maxLen)
  (had:ad.block≠g) (h0:w.cell? (ad.add 0)=some c0) (h1:w.cell? (ad.add 1)=some c1) (hone:∀ v∈cur.toList.take (n*2),v.oneCell'=true) (hc0:c0.oneCell'=true) (hc1:c1.oneCell'=true) :
  Calls Try.prog 35 #[.slice (some ⟨g,0,none⟩) n cap,.int .i64 (i:Int),.slice (some ad) 1 cp] w fun e w' =>
   e = .returned (.slice (some ⟨g,0,none⟩) (n+1) cap)∧∃ m1 cs',w'=(w.drew.setRow g m1).setRow g cs'∧cs'.size=cap*2∧cs'.toList.take ((n+1)*2)=(cur.toList.take (n*2)).take (i*2)++[c0,c1]++(cur.toList.take (n*2)).drop (i*2):=by
 have mixed:=mixed_ok
 have hz1:¬ ((1:Int)=0):=by omega
 have hz2:¬ ((i:Int)=(n:Int)):=by omega
 have hz3:¬ ((cap:Int) < (n:Int)+1):=by omega
 have hb2:¬ (cap=i+1):=by omega
 have hb4:¬ (cap=i):=by omega
 have hin:i≤n:=by omega
 have hw1:IntKind.i64.wrap ((i:Int)+1)=(i:Int)+1:=by rw[IntKind.wrap_i64];omega
 have hb1:(0:Int)≤(i:Int)+1:=by omega
 have htn:((i:Int)+1).toNat=i+1:=by omega
 have hb3:(i:Int)≤(n:Int)+1:=by omega
 have hov:∀ lb cb,(callFunc 50 #[.slice (some ad) 1 cp,.slice (some ⟨g,(i+1)*2,none⟩) lb cb]).run Try.prog w = .ok (.value (.bool false)) w:=fun lb cb=>by
  obtain⟨tA,kA,hsa⟩:=shape_of h0
  have hsb:w.shape? g=some (45,(cap*2 - 1)+1):=by
   simp[World.shape?,hg,hsz];omega
  rw[run_callFunc_extern Try.func50 (by kernel_rfl) (by kernel_rfl) (by kernel_rfl) (e:=Extern.SlicesOverlaps.overlaps #[22,22] #[4]) (by kernel_rfl),
   run_overlaps_b w 22 4 45 Try.underlying22 2 Try.sizeOf45 ad ⟨g,(i+1)*2,none⟩ 1 cp lb cb had tA 45 kA (cap*2 - 1) hsa hsb (by simp[World.frozen?,hg]) (by simp[World.frozen?,hg])]
  rfl
 have hin2:(Try.prog.info? 45).map (·.size)=some 2:=by kernel_rfl
 have hT:Try.prog.underlying 22=some (.slice 45):=Try.underlying22
 have hcl:(n+1)*2≤cur.size:=by rw[hsz];exact Nat.mul_le_mul_right 2 hc
 have hgd:w.drew.heap[g]? = some (.cells cur 45 (0,0)):=hg
 have htl:((cur.toList.drop (i*2)).take ((n - i)*2)).length=(n - i)*2:=by simp;omega
 have hcp1:∀ ty dc sc,(Builtin.copy_ #[22,22] ty #[.slice (some ⟨g,(i+1)*2,none⟩) (n - i) dc,.slice (some ⟨g,i*2,none⟩) (n+1 - i) sc]).run Try.prog w.drew =
   .ok (goInt (n - i:Nat)) (w.drew.setRow g (cur.toList.take ((i+1)*2)++(cur.toList.drop (i*2)).take ((n - i)*2)++cur.toList.drop ((i+1)*2+(n - i)*2)).toArray):=fun ty dc sc=>by
  have h:=run_copy_k (P:=Try.prog) w.drew 22 22 ty 45 2 g ((i+1)*2) (n - i) dc ⟨g,i*2,none⟩ (n+1 - i) sc (n - i) cur 45 ((cur.toList.drop (i*2)).take ((n - i)*2)) hT hin2 hgd
   (Nat.min_eq_right (by omega)) htl (fun j v hj=>by
    rw[List.getElem?_take]at hj
    split at hj
    ·
     rw[List.getElem?_drop]at hj
     rw[Addr.add_lit]
     simp[World.cell?,hgd]
     simpa using hj
    ·
     cases hj) (by rw[htl];omega) (fun v hv=>?_)
  ·
   rw[htl]at h
   exact h
  ·
   obtain⟨j,hj⟩:=List.getElem?_of_mem hv
   rw[List.getElem?_take]at hj
   split at hj
   ·
    rw[List.getElem?_drop]at hj
    refine hone v (List.mem_of_getElem? (i:=i*2+j) ?_)
    rw[List.getElem?_take,if_pos (by omega)];exact hj
   ·
    cases hj
 generalize hmid:cur.toList.take ((i+1)*2)++(cur.toList.drop (i*2)).take ((n - i)*2)++cur.toList.drop ((i+1)*2+(n - i)*2)=mid at hcp1
 have hml:mid.length=cur.size:=by rw[← hmid];simp;omega
 have hg1:(w.drew.setRow g mid.toArray).heap[g]? = some (.cells mid.toArray 45 (0,0)):=setRow_heap _ _ _ _ _ _ hgd
 have hadc:∀ j v,[c0,c1][j]? = some v→(w.drew.setRow g mid.toArray).cell? (ad.add j)=some v:=fun j v hj=>by
  have hk:∀ q,(w.drew.setRow g mid.toArray).cell? (ad.add q)=w.cell? (ad.add q):=fun q=>by
   have hb:(ad.add q).block=ad.block:=add_block ad q
   simp only[World.cell?,hb]
   rw[setRow_other _ _ _ _ had]
   rfl
  match j,hj with
  |0,hj=>simp at hj;subst hj;rw[hk];exact h0
  |1,hj=>simp at hj;subst hj;rw[hk];exact h1
 have hcp2:∀ ty dc,(Builtin.copy_ #[22,22] ty #[.slice (some ⟨g,i*2,none⟩) (n+1 - i) dc,.slice (some ad) 1 cp]).run Try.prog (w.drew.setRow g mid.toArray) =
   .ok (goInt (1:Nat)) ((w.drew.setRow g mid.toArray).setRow g (mid.take (i*2)++[c0,c1]++mid.drop (i*2+2)).toArray):=fun ty dc=>by
  have h:=run_copy_k (P:=Try.prog) (w.drew.setRow g mid.toArray) 22 22 ty 45 2 g (i*2) (n+1 - i) dc ad 1 cp 1 mid.toArray 45 [c0,c1] hT hin2 hg1
   (Nat.min_eq_left (by omega)) rfl hadc (by simp;omega) (by simp[hc0,hc1])
  simpa using h
 go_enter Try.func35,Try.ntmps35
 go_wp2_with (simp only[hov])
 go_region_law_o (refine step_copy_runI rfl _ _ 22 22 rfl _ _ (by simp[Act.eval,Act.put]) (by simp[Act.eval,Act.put]) (hcp1 _ _ _) ?_)
 go_wp2_with (at_builtin;refine wpList_copy_runI _ rfl _ _ 22 22 rfl _ _ rfl rfl (hcp2 _ _) ?_)
 go_ret
 refine⟨rfl,_,_,rfl,by simp;omega,?_⟩
 have:=room_cells (cur:=cur.toList) (n:=n) (i:=i) (c0:=c0) (c1:=c1) hi (by simpa using hcl)
 rw[hmid]at this
 simpa using this
theorem grow_cells {xs zs:List Value}{n i:Nat}{c0 c1:Value}(hi:i < n) (hl:xs.length=n*2) (hz:(n+1 - i)*2≤zs.length) :
  let row:=xs.take (i*2)++zs
  let mid:=row.take (i*2)++[c0,c1]++row.drop (i*2+2)
  (mid.take ((i+1)*2)++xs.drop (i*2)++mid.drop ((i+1)*2+(n - i)*2)).take ((n+1)*2)=xs.take (i*2)++[c0,c1]++xs.drop (i*2):=by
 intro row mid
 have h3:(xs.take (i*2)).length=i*2:=by simp;omega
 have hr:row.take (i*2)=xs.take (i*2):=by
  show(xs.take (i*2)++zs).take (i*2)=_
  rw[List.take_append_of_le_length (by omega),List.take_of_length_le (by omega)]
 have hm:mid.take ((i+1)*2)=xs.take (i*2)++[c0,c1]:=by
  show(row.take (i*2)++[c0,c1]++row.drop (i*2+2)).take ((i+1)*2)=_
  rw[hr,List.take_append_of_le_length (by simp;omega),List.take_of_length_le (by simp;omega)]
 rw[hm,List.take_append_of_le_length (by simp;omega),List.take_of_length_le (by simp;omega)]
set_option maxHeartbeats 4000000 in
set_option maxRecDepth 100000 in
theorem insert_grow (g n cap i:Nat) (ad:Addr) (cp:Nat) (w:World) (cur:Array Value) (c0 c1:Value) (hg:w.heap[g]? = some (.cells cur 45 (0,0))) (hsz:cur.size=cap*2) (hi:i < n) (hn:n≤268435456) (hnc:n≤cap) (hc:cap < n+1) (hcm:cap≤maxLen)
  (hadw:ad.block < w.heap.size) (h0:w.cell? (ad.add 0)=some c0) (h1:w.cell? (ad.add 1)=some c1) (hone:∀ v∈cur.toList.take (n*2),v.oneCell'=true) (hc0:c0.oneCell'=true) (hc1:c1.oneCell'=true) :
  Calls Try.prog 35 #[.slice (some ⟨g,0,none⟩) n cap,.int .i64 (i:Int),.slice (some ad) 1 cp] w fun e w' =>
   ∃ G,e = .returned (.slice (some ⟨w.heap.size,0,none⟩) (n+1) G)∧n+1≤G∧G≤maxLen∧Below w.heap.size w w'∧∃ cs',w'.heap[w.heap.size]? = some (.cells cs' 45 (0,0))∧cs'.size=G*2 ∧
    cs'.toList.take ((n+1)*2)=(cur.toList.take (n*2)).take (i*2)++[c0,c1]++(cur.toList.take (n*2)).drop (i*2):=by
 have mixed:=mixed_ok
 have hz1:¬ ((1:Int)=0):=by omega
 have hz2:¬ ((i:Int)=(n:Int)):=by omega
 have hz3:(cap:Int) < (n:Int)+1:=by omega
 have hin:i≤n:=by omega
 have hw1:IntKind.i64.wrap ((i:Int)+1)=(i:Int)+1:=by rw[IntKind.wrap_i64];omega
 have hb1:(0:Int)≤(i:Int)+1:=by omega
 have htn:((i:Int)+1).toNat=i+1:=by omega
 have hb3:(i:Int)≤(n:Int):=by omega
 have hci:¬ (cap=i):=by omega
 have hin2:(Try.prog.info? 45).map (·.size)=some 2:=by kernel_rfl
 have hT:Try.prog.underlying 22=some (.slice 45):=Try.underlying22
 have hcl:n*2≤cur.size:=by rw[hsz];exact Nat.mul_le_mul_right 2 hnc
 have hgw:g < w.heap.size:=by
  rcases Nat.lt_or_ge g w.heap.size with h|h
  ·
   exact h
  ·
   rw[Array.getElem?_eq_none h]at hg;cases hg
 generalize hxs:cur.toList.take (n*2)=xs at hone
 have hxl:xs.length=n*2:=by rw[← hxs];simp;omega
 have hcell:∀ (W:World),W.heap[g]? = w.heap[g]? → ∀ j v,xs[j]? = some v→W.cell? ⟨g,j,none⟩=some v:=fun W hW j v hj=>by
  rw[← hxs,List.getElem?_take]at hj
  split at hj
  ·
   simp[World.cell?,hW,hg]
   simpa using hj
  ·
   cases hj
 have htb:∃ ti,tget tbl 45=some ti∧ti.n=2∧ti.bytes=40∧ti.zero=[.string ⟨#[]⟩,.slice none 0 0]:=⟨_,rfl,rfl,rfl,rfl⟩
 obtain⟨ti,ht1,ht2,ht3,ht4⟩:=htb
 obtain⟨i0,hi0,hzs,hzb,z,hz0,hzc⟩:=(tbl_ok _ _ ht1).info
 rw[ht2]at hzs
 rw[ht3]at hzb
 rw[ht4]at hzc
 have hzz:z.cells.size=2:=by rw[← Array.length_toList,hzc];rfl
 have hold:(Builtin.firstCells i0.size i (.slice (some ⟨g,0,none⟩) i cap)).run Try.prog w.drew = .ok (xs.take (i*2)).toArray w.drew:=by
  rw[hzs]
  exact run_firstCells_some w.drew 2 i ⟨g,0,none⟩ i cap (xs.take (i*2)) (by rw[List.length_take];omega) (fun j v hj=>by
   rw[Addr.add_lit,Nat.zero_add]
   rw[List.getElem?_take]at hj
   split at hj
   ·
    exact hcell w.drew rfl j v hj
   ·
    cases hj)
 obtain⟨G,hG⟩:∃ G,G=grownCap w (n+1) cap 45:=⟨_,rfl⟩
 have hGn:n+1≤G:=by rw[hG];exact grownCap_ge w _ _ _
 have hGm:G≤maxLen:=by rw[hG];exact grownCap_le_maxLen w (n+1) cap 45 (by unfold maxLen;omega)
 have hG63:G≤9223372036854775807:=by unfold maxLen at hGm;omega
 obtain⟨zs,hzs2⟩:∃ zs:Array Value,zs=Builtin.zeroCells z.cells (n+1 - i)++Builtin.zeroCells z.cells (G - (n+1)):=⟨_,rfl⟩
 have hzl:zs.size=(G - i)*2:=by rw[hzs2];simp[size_zeroCells,hzz];omega
 obtain⟨ROW,hROW⟩:∃ ROW:Array Value,ROW=(xs.take (i*2)).toArray++zs:=⟨_,rfl⟩
 have hRl:ROW.size=G*2:=by rw[hROW];simp[hzl];omega
 have hrz:∀ ty,(Builtin.append_ #[22,3] ty #[.slice (some ⟨g,0,none⟩) i cap,.int .i64 ((n:Int)+1 - (i:Int))]).run Try.prog w =
   .ok (.slice (some ⟨w.heap.size,0,none⟩) (n+1) G) (w.drew.alloc (.cells ROW 45)):=fun ty=>by
  have h:=Lib.run_append_grow_zeros (P:=Try.prog) w 22 3 ty 45 i0 z .i64 .i64 hT Try.underlying3 hi0 hz0 (some ⟨g,0,none⟩) i cap (xs.take (i*2)) hold (n+1 - i) (by omega) (by omega) (by omega) (by omega) (by rw[hzb];omega)
   (by rw[hzb,show i+(n+1 - i)=n+1 by omega];exact growslice_fits hc (by omega))
  rw[show i+(n+1 - i)=n+1 by omega,← hG,Array.append_assoc,← hzs2,← hROW]at h
  rw[show(n:Int)+1 - (i:Int)=((n+1 - i:Nat):Int) by omega]
  exact h
 have hGi:¬ (G=i):=by omega
 have hGim:¬ (G=i+1):=by omega
 have hgs:¬ w.heap.size=g:=by omega
 obtain⟨mid,hmid⟩:∃ mid:List Value,mid=ROW.toList.take (i*2)++[c0,c1]++ROW.toList.drop (i*2+2):=⟨_,rfl⟩
 have hml:mid.length=G*2:=by rw[hmid];simp;omega
 obtain⟨fin,hfin⟩:∃ fin:List Value,fin=mid.take ((i+1)*2)++xs.drop (i*2)++mid.drop ((i+1)*2+(n - i)*2):=⟨_,rfl⟩
 have hfl:fin.length=G*2:=by rw[hfin];simp;omega
 have hN:(w.alloc (.cells ROW 45)).heap[w.heap.size]? = some (.cells ROW 45 (0,0)):=alloc_new_at w _
 have hadc:∀ (W:World),W.heap=(w.alloc (.cells ROW 45)).heap→∀ j v,[c0,c1][j]? = some v→W.cell? (ad.add j)=some v:=fun W hW j v hj=>by
  have hk:∀ q,W.cell? (ad.add q)=w.cell? (ad.add q):=fun q=>by
   have hb:(ad.add q).block=ad.block:=add_block ad q
   simp only[World.cell?,hb,hW]
   rw[Below.heap_alloc w _ _ hadw]
  match j,hj with
  |0,hj=>simp at hj;subst hj;rw[hk];exact h0
  |1,hj=>simp at hj;subst hj;rw[hk];exact h1
 have hcpA:∀ (W:World),W.heap=(w.alloc (.cells ROW 45)).heap→∀ ty dc,(Builtin.copy_ #[22,22] ty #[.slice (some ⟨w.heap.size,i*2,none⟩) (n+1 - i) dc,.slice (some ad) 1 cp]).run Try.prog W =
   .ok (goInt (1:Nat)) (W.setRow w.heap.size mid.toArray):=fun W hW ty dc=>by
  have h:=run_copy_k (P:=Try.prog) W 22 22 ty 45 2 w.heap.size (i*2) (n+1 - i) dc ad 1 cp 1 ROW 45 [c0,c1] hT hin2 (by rw[hW];exact hN)
   (Nat.min_eq_left (by omega)) rfl (hadc W hW) (by simp;omega) (by simp[hc0,hc1])
  rw[hmid]
  simpa using h
 have hdl:(xs.drop (i*2)).length=(n - i)*2:=by rw[List.length_drop,hxl];omega
 have hcpB:∀ (W:World),W.heap[w.heap.size]? = some (.cells mid.toArray 45 (0,0))→W.heap[g]? = w.heap[g]? → ∀ ty dc sc,(Builtin.copy_ #[22,22] ty #[.slice (some ⟨w.heap.size,(i+1)*2,none⟩) (n - i) dc,.slice (some ⟨g,i*2,none⟩) (n - i) sc]).run Try.prog W =
   .ok (goInt (n - i:Nat)) (W.setRow w.heap.size fin.toArray):=fun W hW hWg ty dc sc=>by
  have h:=run_copy_k (P:=Try.prog) W 22 22 ty 45 2 w.heap.size ((i+1)*2) (n - i) dc ⟨g,i*2,none⟩ (n - i) sc (n - i) mid.toArray 45 (xs.drop (i*2)) hT hin2 hW
   (Nat.min_self _) hdl (fun j v hj=>by
    rw[Addr.add_lit]
    rw[List.getElem?_drop]at hj
    exact hcell W hWg _ v hj) (by rw[hdl];simp;omega) (fun v hv=>hone v (List.mem_of_mem_drop hv))
  rw[hdl]at h
  rw[hfin]
  simpa using h
 have hE:((w.alloc (.cells ROW 45)).drew).heap=(w.alloc (.cells ROW 45)).heap:=rfl
 have hB1:∀ (W:World),W.heap=(w.alloc (.cells ROW 45)).heap→(W.setRow w.heap.size mid.toArray).drew.heap[w.heap.size]? = some (.cells mid.toArray 45 (0,0)):=fun W hW=>setRow_heap W _ _ _ _ _ (by rw[hW];exact hN)
 have hB2:∀ (W:World),W.heap=(w.alloc (.cells ROW 45)).heap→(W.setRow w.heap.size mid.toArray).drew.heap[g]? = w.heap[g]? := fun W hW=>by
  show(W.setRow w.heap.size mid.toArray).heap[g]? = _
  rw[setRow_other _ _ _ _ (by omega),hW]
  exact Below.heap_alloc w _ _ hgw
 have hlast:fin.take ((n+1)*2)=xs.take (i*2)++[c0,c1]++xs.drop (i*2):=by
  have h:=grow_cells (xs:=xs) (zs:=zs.toList) (n:=n) (i:=i) (c0:=c0) (c1:=c1) hi hxl (by rw[Array.length_toList,hzl];exact Nat.mul_le_mul_right 2 (by omega))
  rw[hfin,hmid,hROW]
  simpa using h
 clear hzs2 hROW hmid hfin hG
 go_enter Try.func35,Try.ntmps35
 go_wp2_with (first
  |(at_builtin;refine Lib.wpList_append_run _ rfl _ _ _ _ rfl _ _ rfl rfl _ _ (hrz _) ?_)
  |(at_builtin;refine wpList_copy_runI _ rfl _ _ 22 22 rfl _ _ rfl rfl (hcpA _ rfl _ _) ?_))
 go_region_law_o (refine step_copy_runI rfl _ _ 22 22 rfl (.slice (some ⟨w.heap.size,(i+1)*2,none⟩) (n - i) (G - (i+1))) (.slice (some ⟨g,i*2,none⟩) (n - i) (cap - i)) (by simp[Act.eval,Act.put]) (by simp[Act.eval,Act.put]) (hcpB ((w.alloc (.cells ROW 45)).drew.setRow w.heap.size mid.toArray).drew (hB1 _ hE) (hB2 _ hE) _ _ _) ?_)
 go_wp2
 go_ret
 refine⟨G,rfl,hGn,hGm,⟨rfl,rfl,rfl,by simp[setRow_size],fun k hk=>?_⟩,fin.toArray,setRow_heap _ _ _ _ _ _ (hB1 _ hE),by simp[hfl],by simpa using hlast⟩
 rw[setRow_other _ _ _ _ (by omega)]
 show((w.alloc (.cells ROW 45)).drew.setRow w.heap.size mid.toArray).heap[k]? = _
 rw[setRow_other _ _ _ _ (by omega)]
 exact Below.heap_alloc w _ _ hk
set_option maxHeartbeats 4000000 in
set_option maxRecDepth 100000 in
theorem insert_end (v:Value) (n:Nat) (xs:List Value) (ad:Addr) (cp:Nat) (w:World) (c0 c1:Value) (hown:w.ownsRow 0 45 2 v n xs) (hn:n≤268435456)
  (h0:w.cell? (ad.add 0)=some c0) (h1:w.cell? (ad.add 1)=some c1) (hc0:c0.oneCell'=true) (hc1:c1.oneCell'=true) :
  Calls Try.prog 35 #[v,.int .i64 (n:Int),.slice (some ad) 1 cp] w fun e w' =>
   ∃ v',e = .returned v'∧w'.ownsRow 0 45 2 v' (n+1) (xs++[c0,c1])∧w.grownBy w' v.ownBlock∧(v'.ownBlock=v.ownBlock∨v'.ownBlock=some w.heap.size):=by
 have mixed:=mixed_ok
 have hz1:¬ ((1:Int)=0):=by omega
 have hT:Try.prog.underlying 22=some (.slice 45):=Try.underlying22
 have htb:∃ ti,tget tbl 45=some ti∧ti.n=2∧ti.bytes=40∧ti.zero=[.string ⟨#[]⟩,.slice none 0 0]:=⟨_,rfl,rfl,rfl,rfl⟩
 obtain⟨ti,ht1,ht2,ht3,ht4⟩:=htb
 obtain⟨i0,hi0,hzs,hzb,z,hz0,hzc⟩:=(tbl_ok _ _ ht1).info
 rw[ht2]at hzs
 rw[ht3]at hzb
 rw[ht4]at hzc
 have hzz:z.cells.size=2:=by rw[← Array.length_toList,hzc];rfl
 have hnews:∀ j u,[c0,c1][j]? = some u→w.cell? (ad.add j)=some u:=fun j u hj=>by
  match j,hj with
  |0,hj=>simp at hj;subst hj;exact h0
  |1,hj=>simp at hj;subst hj;exact h1
 have hone:∀ u∈[c0,c1],u.oneCell'=true:=by simp[hc0,hc1]
 obtain⟨R,hR⟩:∃ R:Value→World→Prop,R=fun v' w'=>w'.ownsRow 0 45 2 v' (n+1) (xs++[c0,c1])∧w.grownBy w' v.ownBlock∧(v'.ownBlock=v.ownBlock∨v'.ownBlock=some w.heap.size):=⟨_,rfl⟩
 have hmk:∀ v' w',w'.ownsRow 0 45 2 v' (n+1) (xs++[c0,c1])→w.grownBy w' v.ownBlock→(v'.ownBlock=v.ownBlock∨v'.ownBlock=some w.heap.size)→R v' w':=fun v' w' a b c=>by rw[hR];exact⟨a,b,c⟩
 suffices h:Calls Try.prog 35 #[v,.int .i64 (n:Int),.slice (some ad) 1 cp] w fun e w'=>∃ v',e = .returned v'∧R v' w' by
  refine h.mono fun e w'=>?_
  rintro ⟨v',a,b⟩
  rw[hR]at b
  exact⟨v',a,b⟩
 clear hR
 have hb:n+1≤maxLen:=by unfold maxLen;omega
 have hv:(v = .slice none 0 0∧n=0)∨∃ g cap,v = .slice (some ⟨g,0,none⟩) n cap∧n≤cap:=by
  rcases hown.2 with h|⟨g,cap,cur,e,_,_,h,_⟩
  ·
   exact .inl h
  ·
   exact .inr ⟨g,cap,e,h⟩
 obtain⟨v',w',hr,q1,q2,_,q4⟩:=run_append_own_at (P:=Try.prog) w 0 22 0 45 i0 z 2 40 hT hi0 hz0 hzs hzb hzz (by decide) v n xs hown ad 1 cp [c0,c1] rfl hnews hone hb (by omega) (Nat.zero_le _)
 have hR:=hmk v' w' q1 q2 q4
 have hap:∀ ty,(Builtin.append_ #[22,22] ty #[v,.slice (some ad) 1 cp]).run Try.prog w = .ok v' w':=fun ty=>(append_types hT Try.underlying22 ty _ w).trans ((append_ty _ _ _ w).trans hr)
 clear hmk q1 q2 q4 hr hown hnews
 rcases hv with ⟨rfl,rfl⟩|⟨g,cap,rfl,hnc⟩
 ·
  go_enter Try.func35,Try.ntmps35
  go_wp2_with (at_builtin;refine Lib.wpList_append_run _ rfl _ _ 22 22 rfl _ _ rfl rfl _ _ (hap _) ?_)
  go_ret
  exact⟨_,rfl,hR⟩
 ·
  go_enter Try.func35,Try.ntmps35
  go_wp2_with (at_builtin;refine Lib.wpList_append_run _ rfl _ _ 22 22 rfl _ _ rfl rfl _ _ (hap _) ?_)
  all_goals
   go_ret
   exact⟨_,rfl,hR⟩
end Go.Proofs.Ytfpkamiobdkcpaa
namespace Go.AX
open Go.RowKit
theorem getElem?_ins {α:Type}{l:List α}{m:Nat}{x:α}(hm:m≤l.length) (i:Nat) :
  (l.take m++x::l.drop m)[i]? = if i < m then l[i]? else if i=m then some x else l[i - 1]? := by
 have hl:(l.take m).length=m:=by simp;omega
 by_cases h1:i < m
 ·
  rw[if_pos h1,List.getElem?_append_left (by omega),List.getElem?_take,if_pos h1]
 ·
  rw[if_neg h1,List.getElem?_append_right (by omega),hl]
  by_cases h2:i=m
  ·
   subst h2;simp
  ·
   rw[if_neg h2]
   obtain⟨j,rfl⟩:∃ j,i=m+(j+1):=⟨i - m - 1,by omega⟩
   rw[show m+(j+1) - m=j+1 by omega,List.getElem?_cons_succ,List.getElem?_drop]
   congr 1
theorem getElem?_ins2 {α:Type}{l:List α}{m n:Nat}{a b:α}(hl:l.length=n*2) (hm:m≤n) (i j:Nat) (hj:j < 2) :
  (l.take (m*2)++[a,b]++l.drop (m*2))[i*2+j]? = if i < m then l[i*2+j]? else if i=m then [a,b][j]? else l[(i - 1)*2+j]? := by
 have hm2:m*2≤n*2:=Nat.mul_le_mul_right 2 hm
 have h1:(l.take (m*2)).length=m*2:=by simp;omega
 rw[List.append_assoc]
 by_cases hi:i < m
 ·
  have:(i+1)*2≤m*2:=Nat.mul_le_mul_right 2 hi
  rw[if_pos hi,List.getElem?_append_left (by omega),List.getElem?_take,if_pos (by omega)]
 ·
  rw[if_neg hi,List.getElem?_append_right (by omega),h1]
  by_cases he:i=m
  ·
   subst he
   rw[if_pos rfl,show i*2+j - i*2=j by omega,List.getElem?_append_left (by simpa using hj)]
  ·
   rw[if_neg he]
   have:(m+1)*2≤i*2:=Nat.mul_le_mul_right 2 (by omega)
   rw[List.getElem?_append_right (by simp;omega),List.getElem?_drop]
   congr 1
   simp;omega
theorem rows_ins {w w':World}{own:Nat→Prop}{v v':Value}{e m:Nat}{rows:List (List D)}{xs:List Value}{c0 c1:Value}{d0 d1:D}
  (hm:m≤rows.length) (hb:BelowBut v w w') (hp:∀ b,blk v'=some b→blk v=some b∨w.heap.size≤b)
  (hlen:xs.length=rows.length*2) (hone:∀ x∈xs,Value.oneCell' x=true) (hrl:∀ r∈rows,r.length=2)
  (hrd:∀ (i j:Nat) (r:List D) (d:D) (x:Value),rows[i]? = some r→r[j]? = some d→xs[i*2+j]? = some x→Rd w (with1 own v) x d)
  (h0:Rd w (with1 own v) c0 d0) (h1:Rd w (with1 own v) c1 d1) (o0:c0.oneCell'=true) (o1:c1.oneCell'=true)
  (hown:w'.ownsRow 0 e 2 v' (rows.length+1) (xs.take (m*2)++[c0,c1]++xs.drop (m*2))) :
  RowsAt w' 0 (with1 own v') e 2 v' (rows.take m++[d0,d1]::rows.drop m):=by
 have hext:Ext (with1 own v) w w':=⟨hb.size,fun b h1 h2=>hb.block b h1 fun h=>h2 (.inr h)⟩
 have ho:∀ b,with1 own v' b→with1 own v b∨w.heap.size≤b:=by
  rintro b (h|h)
  ·
   exact .inl (.inl h)
  ·
   rcases hp b h with h|h
   ·
    exact .inl (.inr h)
   ·
    exact .inr h
 refine⟨xs.take (m*2)++[c0,c1]++xs.drop (m*2),?_,fun x hx=>?_,fun r hr=>?_,fun i j r d x hi hj hx=>?_⟩
 ·
  have:(rows.take m++[d0,d1]::rows.drop m).length=rows.length+1:=by simp;omega
  rw[this];exact hown
 ·
  rcases List.mem_append.1 hx with hx|hx
  ·
   rcases List.mem_append.1 hx with hx|hx
   ·
    exact hone x (List.mem_of_mem_take hx)
   ·
    simp at hx;rcases hx with rfl|rfl
    ·
     exact o0
    ·
     exact o1
  ·
   exact hone x (List.mem_of_mem_drop hx)
 ·
  rcases List.mem_append.1 hr with h|h
  ·
   exact hrl r (List.mem_of_mem_take h)
  ·
   rcases List.mem_cons.1 h with rfl|h
   ·
    rfl
   ·
    exact hrl r (List.mem_of_mem_drop h)
 ·
  refine Rd.step hext ho ?_
  rw[getElem?_ins hm]at hi
  have hj2:j < 2:=by
   have hjl:=(List.getElem?_eq_some_iff.1 hj).1
   split at hi
   ·
    rw[hrl r (List.mem_of_getElem? hi)]at hjl;exact hjl
   ·
    split at hi
    ·
     cases hi;simpa using hjl
    ·
     rw[hrl r (List.mem_of_getElem? hi)]at hjl;exact hjl
  rw[getElem?_ins2 hlen hm i j hj2]at hx
  split at hi
  ·
   next h=>rw[if_pos h]at hx;exact hrd i j r d x hi hj hx
  ·
   next h =>
   rw[if_neg h]at hx
   split at hi
   ·
    next h' =>
    rw[if_pos h']at hx
    cases hi
    match j,hj2,hj,hx with
    |0,_,hj,hx=>simp at hj hx;subst hj;subst hx;exact h0
    |1,_,hj,hx=>simp at hj hx;subst hj;subst hx;exact h1
   ·
    next h'=>rw[if_neg h']at hx;exact hrd (i - 1) j r d x hi hj hx
theorem getElem?_del {α:Type}{l:List α}{m:Nat}(hm:m < l.length) (i:Nat):(l.take m++l.drop (m+1))[i]? = if i < m then l[i]? else l[i+1]? := by
 have hl:(l.take m).length=m:=by simp;omega
 by_cases h1:i < m
 ·
  rw[if_pos h1,List.getElem?_append_left (by omega),List.getElem?_take,if_pos h1]
 ·
  rw[if_neg h1,List.getElem?_append_right (by omega),hl,List.getElem?_drop]
  congr 1;omega
theorem getElem?_del2 {α:Type}{l:List α}{m n:Nat}(hl:l.length=n*2) (hm:m < n) (i j:Nat) (hj:j < 2) :
  (l.take (m*2)++l.drop ((m+1)*2))[i*2+j]? = if i < m then l[i*2+j]? else l[(i+1)*2+j]? := by
 have hm2:m*2≤n*2:=Nat.mul_le_mul_right 2 (by omega)
 have h1:(l.take (m*2)).length=m*2:=by simp;omega
 by_cases hi:i < m
 ·
  have:(i+1)*2≤m*2:=Nat.mul_le_mul_right 2 hi
  rw[if_pos hi,List.getElem?_append_left (by omega),List.getElem?_take,if_pos (by omega)]
 ·
  rw[if_neg hi,List.getElem?_append_right (by omega),h1,List.getElem?_drop]
  congr 1;omega
theorem rows_del {w w':World}{own:Nat→Prop}{v v':Value}{e m:Nat}{rows:List (List D)}{xs:List Value}
  (hm:m < rows.length) (hb:BelowBut v w w') (hp:∀ b,blk v'=some b→blk v=some b∨w.heap.size≤b)
  (hlen:xs.length=rows.length*2) (hone:∀ x∈xs,Value.oneCell' x=true) (hrl:∀ r∈rows,r.length=2)
  (hrd:∀ (i j:Nat) (r:List D) (d:D) (x:Value),rows[i]? = some r→r[j]? = some d→xs[i*2+j]? = some x→Rd w (with1 own v) x d)
  (hown:w'.ownsRow 0 e 2 v' (rows.length - 1) (xs.take (m*2)++xs.drop ((m+1)*2))) :
  RowsAt w' 0 (with1 own v') e 2 v' (rows.take m++rows.drop (m+1)):=by
 have hext:Ext (with1 own v) w w':=⟨hb.size,fun b h1 h2=>hb.block b h1 fun h=>h2 (.inr h)⟩
 have ho:∀ b,with1 own v' b→with1 own v b∨w.heap.size≤b:=by
  rintro b (h|h)
  ·
   exact .inl (.inl h)
  ·
   rcases hp b h with h|h
   ·
    exact .inl (.inr h)
   ·
    exact .inr h
 refine⟨xs.take (m*2)++xs.drop ((m+1)*2),?_,fun x hx=>?_,fun r hr=>?_,fun i j r d x hi hj hx=>?_⟩
 ·
  have:(rows.take m++rows.drop (m+1)).length=rows.length - 1:=by simp;omega
  rw[this];exact hown
 ·
  rcases List.mem_append.1 hx with hx|hx
  ·
   exact hone x (List.mem_of_mem_take hx)
  ·
   exact hone x (List.mem_of_mem_drop hx)
 ·
  rcases List.mem_append.1 hr with h|h
  ·
   exact hrl r (List.mem_of_mem_take h)
  ·
   exact hrl r (List.mem_of_mem_drop h)
 ·
  refine Rd.step hext ho ?_
  rw[getElem?_del hm]at hi
  have hj2:j < 2:=by
   have hjl:=(List.getElem?_eq_some_iff.1 hj).1
   split at hi <;> (rw[hrl r (List.mem_of_getElem? hi)]at hjl;exact hjl)
  rw[getElem?_del2 hlen hm i j hj2]at hx
  split at hi
  ·
   next h=>rw[if_pos h]at hx;exact hrd i j r d x hi hj hx
  ·
   next h=>rw[if_neg h]at hx;exact hrd (i+1) j r d x hi hj hx
theorem rd_pair {w:World}{own:Nat→Prop}{v:Value}{d0 d1:D}(h:Rd w own v (.sl 2 [[d0,d1]])) :
  ∃ ad cp c0 c1,v = .slice (some ad) 1 cp∧¬ own ad.block∧ad.block < w.heap.size∧w.cell? (ad.add 0)=some c0∧w.cell? (ad.add 1)=some c1 ∧
   c0.oneCell'=true∧c1.oneCell'=true∧Rd w own c0 d0∧Rd w own c1 d1:=by
 cases h with
 |sl ad cap k rows f hb hs hcap hk hc h1 hr =>
  exact⟨ad,cap,f 0 0,f 0 1,rfl,hb,hs,by simpa using hc 0 0 _ d0 rfl rfl,by simpa using hc 0 1 _ d1 rfl rfl,h1 0 0 _ d0 rfl rfl,h1 0 1 _ d1 rfl rfl,hr 0 0 _ d0 rfl rfl,hr 0 1 _ d1 rfl rfl⟩
end Go.AX
namespace Go.Proofs.Ytfpkamiobdkcpaa
open Go.AX Go.RF
theorem upd_insert (rows:List (List D)) (m:Nat) (d0 d1:D) (hm:m≤rows.length) (hl:rows.length≤268435456) :
  FnUpd Try.prog 35 45 2 rows [.d (dint m),.d (.sl 2 [[d0,d1]])] (rows.take m++[d0,d1]::rows.drop m):=by
 refine⟨⟨_,Try.func35,by kernel_rfl,by kernel_rfl⟩,fun w own v vs hown hR hsep ha=>?_⟩
 match vs,ha with
 | [v1,v2],⟨h1,h2,_⟩ =>
  have e1:=rd_v h1
  subst e1
  obtain⟨ad,cp,c0,c1,rfl,hnb,hadw,hc0,hc1,o0,o1,r0,r1⟩:=rd_pair h2
  obtain⟨xs,hrow,hone,hrl,hrd⟩:=hR
  have hbv:blk v=v.ownBlock:=blk_own hrow
  have hxl:=hrow.1
  by_cases hmn:m=rows.length
  ·
   subst hmn
   refine(insert_end v rows.length xs ad cp w c0 c1 hrow hl hc0 hc1 o0 o1).mono fun e w'=>?_
   rintro ⟨v',rfl,q1,q2,q3⟩
   have hp:∀ b,blk v'=some b→blk v=some b∨w.heap.size≤b:=fun b hb=>by
    rw[blk_own q1]at hb
    rw[hbv]
    rcases q3 with h|h
    ·
     rw[h]at hb;exact .inl hb
    ·
     rw[h]at hb;cases hb;exact .inr (Nat.le_refl _)
   have hbb:BelowBut v w w':=⟨q2.os,q2.tape,q2.output,q2.size,fun b hb hn=>q2.block b hb fun h=>hn (by rw[hbv,h])⟩
   refine⟨v',rfl,hbb,hp,rows_ins (Nat.le_refl _) hbb hp hxl hone hrl hrd r0 r1 o0 o1 ?_⟩
   rw[List.take_of_length_le (by omega),List.drop_eq_nil_of_le (by omega),List.append_nil]
   exact q1
  ·
   rcases hrow.2 with ⟨_,h0⟩|⟨g,cap,cur,rfl,_,hg,hnc,hcm,hsz,htk⟩
   ·
    omega
   ·
    have hadg:ad.block≠g:=fun h=>hnb (.inr (by rw[h];rfl))
    by_cases hroom:rows.length+1≤cap
    ·
     refine(insert_room g rows.length cap m ad cp w cur c0 c1 hg hsz (by omega) hl hroom hcm hadg hc0 hc1 (by rw[htk];exact hone) o0 o1).mono fun e w'=>?_
     rintro ⟨rfl,m1,cs',rfl,q1,q2⟩
     have hp:∀ b,blk (.slice (some ⟨g,0,none⟩) (rows.length+1) cap)=some b→blk (.slice (some ⟨g,0,none⟩) rows.length cap)=some b∨w.heap.size≤b:=fun b hb => .inl hb
     have hbb:BelowBut (.slice (some ⟨g,0,none⟩) rows.length cap) w ((w.drew.setRow g m1).setRow g cs'):=⟨rfl,rfl,rfl,by simp[setRow_size],fun b hb hn=>by
      have hbg:b≠g:=fun h=>hn (by rw[h];rfl)
      rw[setRow_other _ _ _ _ hbg,setRow_other _ _ _ _ hbg];rfl⟩
     refine⟨_,rfl,hbb,hp,rows_ins hm hbb hp hxl hone hrl hrd r0 r1 o0 o1 ⟨by simp;omega,.inr ⟨g,cap,cs',rfl,Nat.zero_le _,setRow_heap _ _ _ _ _ _ (setRow_heap _ _ _ _ _ _ hg),hroom,hcm,q1,?_⟩⟩⟩
     rw[q2,htk]
    ·
     refine(insert_grow g rows.length cap m ad cp w cur c0 c1 hg hsz (by omega) hl hnc (by omega) hcm hadw hc0 hc1 (by rw[htk];exact hone) o0 o1).mono fun e w'=>?_
     rintro ⟨G,rfl,q1,q2,hB,cs',q3,q4,q5⟩
     have hp:∀ b,blk (.slice (some ⟨w.heap.size,0,none⟩) (rows.length+1) G)=some b→blk (.slice (some ⟨g,0,none⟩) rows.length cap)=some b∨w.heap.size≤b:=fun b hb => .inr (by cases hb;exact Nat.le_refl _)
     have hbb:BelowBut (.slice (some ⟨g,0,none⟩) rows.length cap) w w':=⟨hB.os,hB.tape,hB.output,hB.size,fun b hb _=>hB.block b hb⟩
     refine⟨_,rfl,hbb,hp,rows_ins hm hbb hp hxl hone hrl hrd r0 r1 o0 o1 ⟨by simp;omega,.inr ⟨_,G,cs',rfl,Nat.zero_le _,q3,q1,q2,q4,?_⟩⟩⟩
     rw[q5,htk]
set_option maxRecDepth 100000
set_option maxHeartbeats 8000000
theorem kept_back (l:List Chain) (m:Nat) (c:Chain) (x:Value) (hc:l[m]? = some c):D.sl 2 ((keptRows l m c x).set m ([dstr c.key,D.v x].set 1 (.sl 4 (c.vs.map Version.enc))))=encChains l:=by
 have hlt:=(List.getElem?_eq_some_iff.1 hc).1
 unfold keptRows encChains
 rw[List.set_set]
 congr 1
 apply List.ext_getElem?
 intro j
 by_cases hj:m=j
 ·
  subst hj
  rw[List.getElem?_set_self (by simpa using hlt)]
  simp[hc];rfl
 ·
  rw[List.getElem?_set_ne hj]
theorem kept_at (l:List Chain) (m:Nat) (c:Chain) (x:Value) (hc:l[m]? = some c):(keptRows l m c x)[m]? = some [dstr c.key,D.v x]:=by
 have hlt:=(List.getElem?_eq_some_iff.1 hc).1
 unfold keptRows
 rw[List.getElem?_set_self (by simpa using hlt)]
theorem kept_set (l:List Chain) (m:Nat) (c:Chain) (x:Value) (vs:List Version):(keptRows l m c x).set m [dstr c.key,encVs vs]=(l.set m ⟨c.key,vs⟩).map Chain.enc:=by
 unfold keptRows
 rw[List.set_set,List.map_set]
 rfl
theorem addS_found {k:Str}{b:Int}:∀ {l:List Chain}{m:Nat}{c:Chain},Srt Chain.key l→l[m]? = some c→c.key=k→addS k b l=l.set m ⟨c.key,c.vs++[newV b]⟩
 | [],m,c,_,h,_=>by simp at h
 |d::l,0,c,_,h,hk=>by
  simp at h;subst h
  simp only[addS,if_pos hk,List.set_cons_zero]
 |d::l,m+1,c,hs,h,hk=>by
  have h':l[m]? = some c:=by simpa using h
  obtain⟨h1,h2⟩:=List.pairwise_cons.1 hs
  have h3:=h1 c (List.mem_of_getElem? h')
  rw[hk]at h3
  simp only[addS]
  rw[if_neg (slt_ne h3),if_pos h3,addS_found h2 h' hk,List.set_cons_succ]
theorem addS_new {k:Str}{b:Int}:∀ {l:List Chain}{m:Nat},AtK Chain.key l k m→isAtK Chain.key l k m=false→Srt Chain.key l→addS k b l=l.take m++⟨k,[newV b]⟩::l.drop m
 | [],m,hm,_,_=>by
  have:=hm.le
  obtain rfl:m=0:=by simpa using this
  rfl
 |d::l,0,hm,hn,hs=>by
  have h1:d.key≠k:=by simpa[isAtK] using hn
  have h2:=hm.ge 0 d rfl (Nat.le_refl _)
  simp only[addS]
  rw[if_neg h1,if_neg (by rw[h2];simp)]
  rfl
 |d::l,m+1,hm,hn,hs=>by
  have h2:=hm.lt 0 d rfl (by omega)
  simp only[addS]
  rw[if_neg (slt_ne h2),if_pos h2,addS_new (m:=m) ⟨by have:=hm.le;simpa using this,fun x c hx hlt=>hm.lt (x+1) c (by simpa using hx) (by omega),fun x c hx hge=>hm.ge (x+1) c (by simpa using hx) (by omega)⟩ (by simpa[isAtK] using hn) (List.pairwise_cons.1 hs).2]
  rfl
theorem ok_padd
  (l:List Chain) (k:Str) (b:Int) (hl:l.length≤268435455) (hv:∀ c∈l,c.vs.length≤268435455) (hs:Srt Chain.key l) :
  FnOk Try.prog 13 [.d (encChains l),.d (dstr k),.d (dint b)] (.one (encChains (addS k b l))):=by
 refine fnOk_of tbl_ok mixed_ok Try.func13 rfl (by kernel_rfl) rfl rfl fun w0 own0=>?_
 have hins:=upd_insert
 obtain⟨m,hm⟩:=hs.at k
 have hml:=hm.le
 have hf:=ok_find l k m (by omega) hm
 have hvv:∀ c∈l,c.vs.length≤268435456:=fun c hc=>by have:=hv c hc;omega
 cases hb:isAt l k m with
 |true =>
  obtain⟨c,hc,hck⟩:=isAt_some hb
  rw[hb]at hf
  have hmlt:=(List.getElem?_eq_some_iff.1 hc).1
  have hcv:=hv c (List.mem_of_getElem? hc)
  rw[addS_found hs hc hck]
  have ho2:=own2_chain l m c hc (by omega) hvv
  have hst0:StopR 1:=⟨rfl⟩
  try refine wkS ?_
  clear hst0
  refine Stop.go (CW.seq (CW.regionS ?_))
  repeat(first|((with_reducible apply SW.s1);exact rfl)|((with_reducible apply SW.s5);exact by_oa;exact rfl))
  refine SW.fam rfl (fam_own2 (nx:=0) ho2 rfl rfl (.cons rfl (.d (.refl _)) trivial .nil)) fun x=>?_
  refine SW.rw ?_
  have hkl:(keptRows l m c x).length=l.length:=by simp[keptRows]
  have hrow:=kept_at l m c x hc
  rw[← kept_back l m c x hc]at hf
  have hst0:StopR 5:=⟨rfl⟩
  repeat(first|refine waS ?_|((with_reducible apply s5);(first|(focus (with_reducible apply a_lend);exact hf;exact rfl;exact .pin (id2:=1) rfl hrow rfl rfl;exact rfl;exact rfl;exact rfl;apply SubsE.cons;exact rfl;exact .d (.refl _);exact trivial;exact SubsE.nil)|exact by_oa|exact by_ca);exact by_g)|refine wb ?_)
  clear hst0
  refine Stop.go (CW.seq (CW.regionS ?_))
  repeat(first|((with_reducible apply SW.s1);exact rfl)|((with_reducible apply SW.s5);exact by_oa;exact rfl))
  refine SW.stut (stut_unpin (i:=32) (id:=1) (nx:=2)) ⟨rfl,rfl,rfl,trivial⟩ ?_
  repeat(first|((with_reducible apply SW.s1);exact rfl)|((with_reducible apply SW.s5);exact by_oa;exact rfl))
  refine SW.stut (stut_freeze (i:=36) (id:=2) (by simp)) ⟨rfl,rfl,trivial⟩ ?_
  repeat(first|((with_reducible apply SW.s1);exact rfl)|((with_reducible apply SW.s5);exact by_oa;exact rfl))
  refine SW.nil ?_
  try refine wk ?_
  refine .one (.tmp rfl (.one (.own rfl (by simp) (dle_eq ?_))))
  have:=kept_set l m c x (c.vs++[newV b])
  show D.sl 2 _=D.sl 2 _
  rw[← this]
  congr 2
  simp[splice,encVs,Version.enc,newV]
 |false =>
  rw[hb]at hf
  have hn:=new_chainOwn l (by omega) hvv
  have hi:=hins (l.map Chain.enc) m (dstr k) (.v nilS) (by simp;omega) (by simp;omega)
  rw[addS_new hm hb hs]
  have hrow:((l.map Chain.enc).take m++[dstr k,.v nilS]::(l.map Chain.enc).drop m)[m]? = some [dstr k,.v nilS]:=by
   rw[List.getElem?_append_right (by simp;omega)]
   simp[Nat.min_eq_left hml]
  have hlen:((l.map Chain.enc).take m++[dstr k,.v nilS]::(l.map Chain.enc).drop m).length=l.length+1:=by simp;omega
  have hmlt:m < ((l.map Chain.enc).take m++[dstr k,.v nilS]::(l.map Chain.enc).drop m).length:=by omega
  have hst0:StopR 5:=⟨rfl⟩
  repeat(first|refine waS ?_|((with_reducible apply s5);(first|exact a_callnew hn rfl rfl by_sub|(focus ((with_reducible apply a_lend);exact hf;exact rfl;exact .plain rfl;(focus first|exact rfl|(simp;done)|(simp;omega));(iterate 2 exact rfl);exact by_sub))|(focus ((with_reducible apply a_upd);exact hi;(iterate 3 exact rfl);(focus first|exact rfl|(simp;done)|(simp;omega));exact rfl;exact by_sub))|exact by_oa|exact by_ca);exact by_g)|refine wb ?_)
  clear hst0
  refine Stop.go (CW.seq (CW.regionS ?_))
  repeat(first|((with_reducible apply SW.s1);exact rfl)|((with_reducible apply SW.s5);exact by_oa;exact rfl))
  refine SW.stut (stut_promote (i:=32) 26 4) ⟨rfl,rfl,trivial⟩ ?_
  repeat(first|((with_reducible apply SW.s1);exact rfl)|((with_reducible apply SW.s5);exact by_oa;exact rfl))
  refine SW.stut (stut_freeze (i:=36) (id:=2) (by simp)) ⟨rfl,rfl,trivial⟩ ?_
  repeat(first|((with_reducible apply SW.s1);exact rfl)|((with_reducible apply SW.s5);exact by_oa;exact rfl))
  refine SW.nil ?_
  try refine wk ?_
  refine .one (.tmp rfl (.one (.own rfl (by simp) (dle_eq ?_))))
  show D.sl 2 _=D.sl 2 _
  congr 1
  rw[List.set_append_right _ _ (by simp;omega)]
  simp[splice,encVs,Version.enc,newV,Chain.enc,Nat.min_eq_left hml]
end Go.Proofs.Ytfpkamiobdkcpaa
namespace Go.AX
open Go.RowKit
variable {cx:Cx}{g:Nat→Value}{σ σ':St}{a:Act}{w w':World}{nx:Nat}{c:Code}{Q:Exit→St→Prop}
variable {ty:TypeId}{pos:String}{af:Array Edge}{gd:Option (Nat×Bool)}{d:Nat}
theorem ok_lenv {t tt:TypeId}{x:Operand}{p:Option Addr}{n cp k:Nat}{ti:TI}(hd:d < cx.n) (hx:EvS x (.d (.v (.slice p n cp)))) (ht:tget cx.T t=some ti) (hk:slK ti=some k) :
  OpOk cx ⟨some d,.call { callee := .builtin .len,args := #[x],argTypes := #[t] },tt,pos,af,gd⟩ ⟨rdOf x (.d (.v (.slice p n cp))),[(.s d,.av (.d (.v (.int .i64 n))))]⟩:=by
 refine ok_val rfl hd fun σ a w g nx hs hr=>?_
 obtain⟨_,ie,hu,_⟩:=slice_of (cx.hT t ti ht) hk
 have hv:=rep_v (hs.ev hx hr).1
 exact⟨.int .i64 n,w,by simp[execOp,resolve,invoke,builtin,hv,Builtin.len_,run_underlying hu,goInt],Below.refl _ _,Rd.v _,trivial⟩
theorem a_lenv {t tt:TypeId}{x:Operand}{p:Option Addr}{n cp k:Nat}{ti:TI}(hx:ev σ x=some (.d (.v (.slice p n cp)))) (ht:tget cx.T t=some ti) (hk:slK ti=some k) (hd:Nat.blt d cx.n=true) :
  OA cx σ ⟨some d,.call { callee := .builtin .len,args := #[x],argTypes := #[t] },tt,pos,af,gd⟩ ⟨rdOf x (.d (.v (.slice p n cp))),[(.s d,.av (.d (.v (.int .i64 n))))]⟩ :=
 ⟨ok_lenv (lt_of_blt hd) (ev_out hx).1 ht hk,(ev_out hx).2⟩
theorem SimG.drop (hG:SimG cx σ a w g nx) (id:Nat):SimG cx ((.o id,.none)::σ) a w g nx:=by
 have hl:=Less.drop ⟨g,nx,hG⟩ id
 have hlat:Later cx g g σ ((.o id,.none)::σ) w w nx:=by
  refine⟨Ext.refl _ _,Below.refl _ _,fun b hb=>?_,fun j o' _ h=>⟨o',hl.o _ _ h,?_⟩⟩
  ·
   rcases hb with hb|⟨j,o,h5,h6⟩
   ·
    exact .inl (.inl hb)
   ·
    exact .inl (.inr ⟨j,o,hl.o _ _ h5,h6⟩)
  ·
   cases o' <;> simp[ObLe]
 exact hG.next hlat ((get_cons_ne (by simp)).trans hG.hnx) (Nat.le_refl _) hG.size hG.defers (Below.refl _ _) (fun j av hj => .inl ⟨hl.s _ _ hj,rfl⟩) (fun j o hj => .inl ⟨hl.o _ _ hj,rfl,fun _ _=>rfl⟩)
  (fun j j' o o' b h1 h2=>hG.sep j j' o o' b (hl.o _ _ h1) (hl.o _ _ h2))
theorem stut_fold {id id2 i j e k e2 k2:Nat}{rows rows2:List (List D)}{r:List D}{x:Value}(hi:rows[i]? = some r) (hj:r[j]? = some (.v x)) :
  Stut cx ⟨[(.o id,.ob (.arr e k rows)),(.o id2,.ob (.pin e2 k2 rows2 x))],[(.o id,.ob (.arr e k (rows.set i (r.set j (.sl k2 rows2))))),(.o id2,.none)]⟩:=by
 rintro σ a w ⟨g,nx,hG⟩ hr
 have ho:get σ (.o id) = .ob (.arr e k rows):=hr.1
 have ho2:get σ (.o id2) = .ob (.pin e2 k2 rows2 x):=hr.2.1
 have hne:id2≠id:=fun he=>by subst he;rw[ho2]at ho;cases ho
 obtain⟨_,⟨hgx,hp⟩,_⟩:=hG.objs id2 _ ho2
 have hp':RowsAt w cx.w0.heap.size (cx.own g σ) e2 k2 (g id2) rows2:=hp
 have hG3:=hG.drop id2
 have ho':get ((.o id2,.none)::σ) (.o id) = .ob (.arr e k rows):=(get_cons_ne (by simpa using hne)).trans ho
 have hown:∀ b,cx.own g ((.o id2,.none)::σ) b→cx.own g σ b∧blk (g id2)≠some b:=by
  rintro b (h|⟨q,o,h1,h2⟩)
  ·
   refine⟨.inl h,fun hb=>?_⟩
   have h3:=obj_ge hG ho2 hb
   have h4:=hG.own0.1 b h
   omega
  ·
   have hq:q≠id2:=fun e=>by subst e;rw[get_cons_same]at h1;cases h1
   rw[get_cons_ne (by simpa using fun e=>hq e.symm)]at h1
   exact⟨.inr ⟨q,o,h1,h2⟩,fun hb=>hq (hG.sep q id2 o _ b h1 ho2 h2 hb)⟩
 have hrd:Rd w (cx.own g ((.o id2,.none)::σ)) x (.sl k2 rows2):=by rw[← hgx];exact hp'.rd hown
 have hR:=(objRows hG3 ho').at hi hj hrd
 exact⟨g,nx,hG3.reob ho' (o' := .arr e k (rows.set i (r.set j (.sl k2 rows2)))) ⟨rfl,rfl,by simp,fun _=>rfl⟩ hR trivial⟩
end Go.AX
namespace Go.Proofs.Ytfpkamiobdkcpaa
open Go.AX Go.RF
set_option maxRecDepth 100000
set_option maxHeartbeats 8000000
theorem setV_false (v w:Version):setV false v w=w:=by simp[setV]
theorem setC_ne {k:Str}{v:Version}{c:Chain}(h:c.key≠k):setC k v c=c:=by
 unfold setC
 rw[decide_eq_false h]
 have:c.vs.map (setV false v)=c.vs:=by
  rw[show setV false v=id from funext fun w=>setV_false v w];simp
 rw[this]
theorem set_found {k:Str}{v:Version}{l:List Chain}{m:Nat}{c:Chain}(hs:Srt Chain.key l) (hc:l[m]? = some c) (hk:c.key=k):setChains l k v=l.set m ⟨c.key,c.vs.map (setV true v)⟩:=by
 apply List.ext_getElem?
 intro j
 unfold setChains
 rw[List.getElem?_map]
 by_cases hj:m=j
 ·
  subst hj
  rw[List.getElem?_set_self (List.getElem?_eq_some_iff.1 hc).1,hc]
  simp[setC,hk]
 ·
  rw[List.getElem?_set_ne hj]
  cases hd:l[j]? with
  |none=>rfl
  |some d =>
   have:d.key≠k:=by rw[← hk];exact hs.ne hd hc fun e=>hj e.symm
   simp[setC_ne this]
theorem set_none {k:Str}{v:Version}{l:List Chain}{m:Nat}(hs:Srt Chain.key l) (hm:AtK Chain.key l k m) (hn:isAtK Chain.key l k m=false):setChains l k v=l:=by
 have key:∀ c∈l,setC k v c=c:=fun c hc=>setC_ne fun e=>by
  obtain⟨j,hj⟩:=List.getElem?_of_mem hc
  rcases Nat.lt_trichotomy j m with h|h|h
  ·
   have:=hm.lt j c hj h
   rw[e,slt_irrefl]at this;cases this
  ·
   subst h
   rw[isAtK,hj]at hn
   simp[e]at hn
  ·
   have hml:m < l.length:=by have:=(List.getElem?_eq_some_iff.1 hj).1;omega
   have hme:l[m]? = some l[m]:=List.getElem?_eq_getElem hml
   have h1:=hm.ge m l[m] hme (Nat.le_refl _)
   have h2:=hs.lt hme hj h
   rw[e,h1]at h2;cases h2
 unfold setChains
 conv=>rhs;rw[← List.map_id l]
 exact List.map_congr_left key
def midV (v:Version) (vs:List Version) (i:Nat):List Version:=(vs.take i).map (setV true v)++vs.drop i
theorem midV_at {v:Version}{vs:List Version}{i:Nat}{x:Version}(h:vs[i]? = some x):((midV v vs i).map Version.enc)[i]? = some x.enc∧((midV v vs i).map Version.enc).set i (setV true v x).enc=(midV v vs (i+1)).map Version.enc:=by
 have hlt:=(List.getElem?_eq_some_iff.1 h).1
 have h1:vs.drop i=x::vs.drop (i+1):=by
  have:=List.drop_eq_getElem_cons hlt
  rw[(List.getElem?_eq_some_iff.1 h).2]at this
  exact this
 have h2:vs.take (i+1)=vs.take i++[x]:=by rw[List.take_add_one,h];rfl
 have hl:((vs.take i).map (setV true v)).length=i:=by simp;omega
 unfold midV
 constructor
 ·
  rw[List.map_append,List.getElem?_append_right (by simp;omega),h1]
  simp[Nat.min_eq_left (Nat.le_of_lt hlt)]
 ·
  rw[h1,h2,List.map_append,List.set_append_right _ _ (by simp;omega)]
  simp[Nat.min_eq_left (Nat.le_of_lt hlt)]
theorem ok_pset (l:List Chain) (k:Str) (v:Version) (hl:l.length≤268435455) (hv:∀ c∈l,c.vs.length≤268435455) (hs:Srt Chain.key l) :
  FnOk Try.prog 15 [.d (encChains l),.d (dstr k),.d (.agg v.enc)] (.one (encChains (setChains l k v))):=by
 refine fnOk_of tbl_ok mixed_ok Try.func15 rfl (by kernel_rfl) rfl rfl fun w0 own0=>?_
 obtain⟨m,hm⟩:=hs.at k
 have hml:=hm.le
 have hf:=ok_find l k m (by omega) hm
 have hvv:∀ c∈l,c.vs.length≤268435456:=fun c hc=>by have:=hv c hc;omega
 cases hb:isAt l k m with
 |true =>
  obtain⟨c,hc,hck⟩:=isAt_some hb
  rw[hb]at hf
  have hmlt:=(List.getElem?_eq_some_iff.1 hc).1
  have hcv:=hv c (List.mem_of_getElem? hc)
  rw[set_found hs hc hck]
  have ho2:=own2_chain l m c hc (by omega) hvv
  have hst0:StopR 1:=⟨rfl⟩
  try refine wkS ?_
  clear hst0
  refine Stop.go (CW.seq (CW.regionS ?_))
  repeat(first|((with_reducible apply SW.s1);exact rfl)|((with_reducible apply SW.s5);exact by_oa;exact rfl))
  refine SW.fam rfl (fam_own2 (nx:=1) ho2 rfl rfl (.cons rfl (.d (.refl _)) trivial .nil)) fun x=>?_
  refine SW.rw ?_
  have hkl:(keptRows l m c x).length=l.length:=by simp[keptRows]
  have hrow:=kept_at l m c x hc
  rw[← kept_back l m c x hc]at hf
  have hst0:StopR 4:=⟨rfl⟩
  repeat(first|refine waS ?_|((with_reducible apply s5);(first|(focus (with_reducible apply a_lend);exact hf;exact rfl;exact .pin (id2:=2) rfl hrow rfl rfl;exact rfl;exact rfl;exact rfl;apply SubsE.cons;exact rfl;exact .d (.refl _);exact trivial;exact SubsE.nil)|exact by_oa|exact by_ca);exact by_g)|refine wb ?_)
  clear hst0
  refine Stop.go (CW.fact (pin_slice (id:=2) rfl) ?_)
  rintro ⟨p,cp,rfl⟩
  have hmk:m < (keptRows l m c (.slice p (c.vs.map Version.enc).length cp)).length:=by omega
  repeat(first|refine wa ?_|((with_reducible apply s5);(first|((with_reducible apply a_lenv);(iterate 4 exact rfl))|exact by_oa|exact by_ca);exact by_g)|refine wb ?_)
  have hvl:(c.vs.map Version.enc).length=c.vs.length:=by simp
  rw[hvl]at hrow hmk hkl ⊢
  generalize hx:Value.slice p c.vs.length cp=x at hrow hmk hkl ⊢
  refine CW.loopT (fun t:Nat=>[sp 5 0,ob 0 v.enc,so 7 1 (keptRows l m c x).length,oa 1 45 2 (keptRows l m c x),(.o 2,.ob (.pin 26 4 ((midV v c.vs t).map Version.enc) x)),sd 8 (dint m),sd 25 (dint c.vs.length),sd 26 (dint t),nxt 3])
   (fun t=>t≤c.vs.length) (fun t=>c.vs.length - t) 0 (Nat.zero_le _) ?_ ?_
  ·
   exact by_less
  ·
   rintro t ht
   rcases drop_case ht with ⟨h1,h2⟩|⟨y,h1,h2,h3⟩
   ·
    subst h2
    have hmid:midV v c.vs c.vs.length=c.vs.map (setV true v):=by simp[midV]
    rw[hmid]
    have hst0:StopR 10:=⟨rfl⟩
    try refine wkS ?_
    clear hst0
    refine Stop.go (CW.stut (stut_fold (id:=1) (id2:=2) (j:=1) hrow rfl) ⟨rfl,rfl,trivial⟩ ?_)
    try refine wk ?_
    refine .one (.tmp rfl (.one (.own rfl (by simp) (dle_eq ?_))))
    exact congrArg _ (kept_set l m c x (c.vs.map (setV true v)))
   ·
    obtain⟨hat,hset⟩:=midV_at (v:=v) h2
    have hne:(midV v c.vs t).map Version.enc≠[]:=by
     intro e
     have:=congrArg List.length e
     simp[midV]at this
     omega
    refine CW.fact (pin_shape (id:=2) rfl hne) ?_
    rintro ⟨b,cp',hxe⟩
    have hml2:((midV v c.vs t).map Version.enc).length=c.vs.length:=by simp[midV];omega
    rw[hml2]at hxe
    subst hxe
    by_cases h4:y.by_=v.by_
    ·
     have hsv:setV true v y=v:=by simp[setV,h4]
     rw[hsv]at hset
     repeat(first|refine wa ?_|((with_reducible apply s5);(first|((with_reducible apply a_iav);(iterate 5 exact rfl);omega)|((with_reducible apply a_fav);(iterate 4 exact rfl))|((with_reducible apply(a_lpin 2 t 0));(iterate 4 exact rfl);exact hat;exact rfl;(first|rfl|omega))|((with_reducible apply(a_spin 2 t 0));(iterate 6 exact rfl);exact hat;exact rfl;(first|rfl|omega))|exact by_oa|exact by_ca);exact by_g)|refine wb ?_)
     refine q_loopT (t+1) (by omega) (by omega) ?_
     dsimp only
     rw[← hset]
     exact by_less
    ·
     have hsv:setV true v y=y:=by unfold setV;rw[if_neg (by simpa using h4)]
     rw[hsv]at hset
     have hset2:(midV v c.vs t).map Version.enc=(midV v c.vs (t+1)).map Version.enc:=by
      rw[← hset]
      refine(List.ext_getElem? fun j=>?_)
      by_cases hj:t=j
      ·
       subst hj
       rw[List.getElem?_set_self (by rw[hml2];exact(List.getElem?_eq_some_iff.1 h2).1),hat]
      ·
       rw[List.getElem?_set_ne hj]
     repeat(first|refine wa ?_|((with_reducible apply s5);(first|((with_reducible apply a_iav);(iterate 5 exact rfl);omega)|((with_reducible apply a_fav);(iterate 4 exact rfl))|((with_reducible apply(a_lpin 2 t 0));(iterate 4 exact rfl);exact hat;exact rfl;(first|rfl|omega))|exact by_oa|exact by_ca);exact by_g)|refine wb ?_)
     refine q_loopT (t+1) (by omega) (by omega) ?_
     rw[hset2]
     exact by_less
 |false =>
  rw[hb]at hf
  have hn:=new_chainOwn l (by omega) hvv
  rw[set_none hs hm hb]
  repeat(first|refine wa ?_|((with_reducible apply s5);(first|exact a_callnew hn rfl rfl by_sub|(focus ((with_reducible apply a_lend);exact hf;exact rfl;exact .plain rfl;(focus first|exact rfl|(simp;done)|(simp;omega));(iterate 2 exact rfl);exact by_sub))|exact by_oa|exact by_ca);exact by_g)|refine wb ?_)
  exact .one (.tmp rfl (.one (.own rfl (by simp) (.refl _))))
set_option maxHeartbeats 4000000
theorem ok_wrongRows (l:List Pair) (hl:l.length≤268435456) (hk:∀ p∈l,p.key.length≤1073741824):FnOk Try.prog 22 [.d (encRows l)] (.one (dint (wrongRows l))):=by
 refine fnOk_of tbl_ok mixed_ok Try.func22 rfl (by kernel_rfl) rfl rfl fun w0 own0=>?_
 try refine wk ?_
 refine CW.loopT (fun t:Nat×Str=>[(.s 3,.av (.d (dstr t.2))),(.s 6,.av (.d (encRows l))),(.s 7,.av (.d (dint l.length))),(.s 8,.av (.d (dint t.1))),(.nx,.num 0)])
  (fun t=>t.1≤l.length∧wrongRowsGo t.1 t.2 (l.drop t.1)=wrongRows l) (fun t=>l.length - t.1) (0,[]) ⟨by omega,rfl⟩ ?_ ?_
 ·
  exact by_less
 ·
  rintro ⟨i,last⟩ ⟨hi,hI⟩
  dsimp only at hi hI ⊢
  rcases drop_case hi with ⟨h1,h2⟩|⟨p,h1,h2,h3⟩
  ·
   rw[h1]at hI
   simp only[wrongRowsGo]at hI
   try refine wk ?_
   exact .one (.tmp rfl (.one (.d (dle_int hI))))
  ·
   rw[h1]at hI
   simp only[wrongRowsGo]at hI
   have hc:=ok_key p.key (hk p (List.mem_of_getElem? h2))
   cases h4:key p.key
   ·
    rw[if_pos h4]at hI
    try refine wk ?_
    exact .one (.tmp rfl (.one (.d (dle_int hI))))
   ·
    rw[if_neg (by simp[h4])]at hI
    by_cases h5:0 < i
    ·
     cases h6:sle p.key last
     ·
      rw[if_neg (by simp[h6])]at hI
      have h6':(Go.Op.bytesLess p.key last || decide (p.key=last))=false:=h6
      by_cases h7:1073741824 < p.n
      ·
       rw[if_pos (.inl h7)]at hI
       try refine wk ?_
       exact .one (.tmp rfl (.one (.d (dle_int hI))))
      ·
       by_cases h8:p.n < -1073741824
       ·
        rw[if_pos (.inr h8)]at hI
        try refine wk ?_
        exact .one (.tmp rfl (.one (.d (dle_int hI))))
       ·
        rw[if_neg (by omega)]at hI
        try refine wk ?_
        refine q_loopT (i+1,_) ⟨by omega,hI⟩ (by dsimp only;omega) ?_
        exact by_less
     ·
      rw[if_pos ⟨h5,h6⟩]at hI
      have h6':(Go.Op.bytesLess p.key last || decide (p.key=last))=true:=h6
      try refine wk ?_
      exact .one (.tmp rfl (.one (.d (dle_int hI))))
    ·
     rw[if_neg (by simp;omega)]at hI
     by_cases h7:1073741824 < p.n
     ·
      rw[if_pos (.inl h7)]at hI
      try refine wk ?_
      exact .one (.tmp rfl (.one (.d (dle_int hI))))
     ·
      by_cases h8:p.n < -1073741824
      ·
       rw[if_pos (.inr h8)]at hI
       try refine wk ?_
       exact .one (.tmp rfl (.one (.d (dle_int hI))))
      ·
       rw[if_neg (by omega)]at hI
       try refine wk ?_
       refine q_loopT (i+1,_) ⟨by omega,hI⟩ (by dsimp only;omega) ?_
       exact by_less
def prevOf (l:List Version):Nat→Option Int
 |0=>none
 |j+1=>(l[j]?).map (·.by_)
def prevKey (l:List Chain):Nat→Option Str
 |0=>none
 |j+1=>(l[j]?).map (·.key)
theorem ok_rightChains (l:List Chain) (hl:l.length≤268435456) (hs:∀ c∈l,c.Sm):FnOk Try.prog 7 [.d (encChains l)] (.one (dbool (rightChains l))):=by
 refine fnOk_of tbl_ok mixed_ok Try.func7 rfl (by kernel_rfl) rfl rfl fun w0 own0=>?_
 try refine wk ?_
 refine CW.loopT (fun i:Nat=>[(.s 0,.av (.d (encChains l))),(.s 7,.av (.d (encChains l))),(.s 8,.av (.d (dint l.length))),(.s 9,.av (.d (dint i))),(.nx,.num 0)])
  (fun i=>i≤l.length∧rightCs (prevKey l i) (l.drop i)=rightChains l) (fun i=>l.length - i) 0 ⟨by omega,rfl⟩ ?_ ?_
 ·
  exact by_less
 ·
  rintro i ⟨hi,hI⟩
  rcases drop_case hi with ⟨h1,h2⟩|⟨c,h1,h2,h3⟩
  ·
   rw[h1]at hI
   simp only[rightCs]at hI
   try refine wk ?_
   rw[← hI]
   exact .one (.tmp rfl (.one (.d (.refl _))))
  ·
   rw[h1]at hI
   simp only[rightCs]at hI
   have hc:=ok_key c.key (hs c (List.mem_of_getElem? h2)).k
   have hcv:=(hs c (List.mem_of_getElem? h2)).v
   have hst0:StopR 4:=⟨rfl⟩
   try refine wkS ?_
   clear hst0
   refine Stop.cutk [(.s 38,.av (.d (dbool (cBad (prevKey l i) c))))] [.s 0,.s 7,.s 8,.s 9,.s 3,.s 4,.o 0,.nx] ?_ ?_
   ·
    cases hk:key c.key
    ·
     rw[show cBad (prevKey l i) c=true by simp[cBad,hk]]
     try refine wk ?_
     refine q_cut ?_
     exact by_less
    ·
     cases i with
     |zero =>
      by_cases hv:c.vs=[]
      ·
       rw[show cBad (prevKey l 0) c=true by simp[cBad,hv]]
       have hv':c.vs.length=0:=by rw[hv];rfl
       try refine wk ?_
       refine q_cut ?_
       exact by_less
      ·
       rw[show cBad (prevKey l 0) c=false by simp[cBad,hv,hk,prevKey,prevSBad]]
       have hv':¬ c.vs.length=0:=by simpa using hv
       try refine wk ?_
       refine q_cut ?_
       exact by_less
     |succ i =>
      obtain⟨p,hp⟩:∃ p,l[i]? = some p:=⟨l[i],List.getElem?_eq_getElem (by omega)⟩
      have hp':l[((i+1:Nat):Int).toNat - 1]? = some p:=by simpa using hp
      have hsub:(((i+1:Nat):Int) - 1)=((i:Nat):Int):=by omega
      cases hlt:slt p.key c.key
      ·
       rw[show cBad (prevKey l (i+1)) c=true by simp[cBad,prevKey,hp,prevSBad,hlt]]
       repeat(first|refine wa ?_|((with_reducible apply s5);(first|((with_reducible apply a_ia);(iterate 5 exact rfl);rw[hsub];apply idx_map;assumption)|exact by_oa|exact by_ca);exact by_g)|refine wb ?_)
       refine q_cut ?_
       exact by_less
      ·
       by_cases hv:c.vs=[]
       ·
        rw[show cBad (prevKey l (i+1)) c=true by simp[cBad,hv]]
        have hv':c.vs.length=0:=by rw[hv];rfl
        repeat(first|refine wa ?_|((with_reducible apply s5);(first|((with_reducible apply a_ia);(iterate 5 exact rfl);rw[hsub];apply idx_map;assumption)|exact by_oa|exact by_ca);exact by_g)|refine wb ?_)
        refine q_cut ?_
        exact by_less
       ·
        rw[show cBad (prevKey l (i+1)) c=false by simp[cBad,hv,hk,prevKey,hp,prevSBad,hlt]]
        have hv':¬ c.vs.length=0:=by simpa using hv
        repeat(first|refine wa ?_|((with_reducible apply s5);(first|((with_reducible apply a_ia);(iterate 5 exact rfl);rw[hsub];apply idx_map;assumption)|exact by_oa|exact by_ca);exact by_g)|refine wb ?_)
        refine q_cut ?_
        exact by_less
   cases hb:cBad (prevKey l i) c
   ·
    rw[if_neg (by rw[hb];simp)]at hI
    try refine wk ?_
    refine CW.loopT (fun j:Nat=>[(.s 0,.av (.d (encChains l))),(.s 7,.av (.d (encChains l))),(.s 8,.av (.d (dint l.length))),(.s 9,.av (.d (dint i))),(.s 3,.av (.d (dint i))),(.s 4,.av (.ptr 0 0)),(.o 0,.ob (.box (c.enc.map AV.d))),
      (.s 40,.av (.d (encVs c.vs))),(.s 41,.av (.d (dint c.vs.length))),(.s 42,.av (.d (dint j))),(.nx,.num 1)])
     (fun j=>j≤c.vs.length∧rightVs (prevOf c.vs j) (c.vs.drop j)=rightVs none c.vs) (fun j=>c.vs.length - j) 0 ⟨by omega,rfl⟩ ?_ ?_
    ·
     exact by_less
    ·
     rintro j ⟨hj,hJ⟩
     rcases drop_case hj with ⟨h5,h6⟩|⟨v,h5,h6,h7⟩
     ·
      rw[h5]at hJ
      simp only[rightVs]at hJ
      rw[if_pos hJ.symm]at hI
      try refine wk ?_
      refine q_loopT (i+1) ⟨by omega,by rw[← hI,prevKey,h2];rfl⟩ (by omega) ?_
      exact by_less
     ·
      rw[h5]at hJ
      simp only[rightVs]at hJ
      obtain⟨vb,vm,vh,vn⟩:=v
      have hst0:StopR 9:=⟨rfl⟩
      try refine wkS ?_
      clear hst0
      refine Stop.cutk [(.s 99,.av (.d (dbool (vBad (prevOf c.vs j) ⟨vb,vm,vh,vn⟩))))] [.s 0,.s 7,.s 8,.s 9,.s 3,.s 4,.o 0,.s 40,.s 41,.s 42,.nx] ?_ ?_
      ·
       by_cases e1:vb < -1
       ·
        rw[show vBad (prevOf c.vs j) ⟨vb,vm,vh,vn⟩=true by simp[vBad,e1]]
        try refine wk ?_
        refine q_cut ?_
        exact by_less
       by_cases e2:(1000000:Int) < vb
       ·
        rw[show vBad (prevOf c.vs j) ⟨vb,vm,vh,vn⟩=true by simp[vBad,e2]]
        try refine wk ?_
        refine q_cut ?_
        exact by_less
       cases j with
       |zero =>
        have e3:prevBad (prevOf c.vs 0) vb=false:=rfl
        by_cases e4:vn < -1073741824
        ·
         rw[show vBad (prevOf c.vs 0) ⟨vb,vm,vh,vn⟩=true by simp[vBad,e4]]
         try refine wk ?_
         refine q_cut ?_
         exact by_less
        by_cases e5:(1073741824:Int) < vn
        ·
         rw[show vBad (prevOf c.vs 0) ⟨vb,vm,vh,vn⟩=true by simp[vBad,e5]]
         try refine wk ?_
         refine q_cut ?_
         exact by_less
        cases vh
        ·
         by_cases e6:vn=0
         ·
          cases vm
          ·
           rw[show vBad (prevOf c.vs 0) ⟨vb,false,false,vn⟩=false by simp[vBad,e1,e2,e3,e4,e5,e6]]
           try refine wk ?_
           refine q_cut ?_
           exact by_less
          ·
           rw[show vBad (prevOf c.vs 0) ⟨vb,true,false,vn⟩=false by simp[vBad,e1,e2,e3,e4,e5,e6]]
           try refine wk ?_
           refine q_cut ?_
           exact by_less
         ·
          rw[show vBad (prevOf c.vs 0) ⟨vb,vm,false,vn⟩=true by simp[vBad,e6]]
          try refine wk ?_
          refine q_cut ?_
          exact by_less
        ·
         cases vm
         ·
          rw[show vBad (prevOf c.vs 0) ⟨vb,false,true,vn⟩=true by simp[vBad]]
          try refine wk ?_
          refine q_cut ?_
          exact by_less
         ·
          rw[show vBad (prevOf c.vs 0) ⟨vb,true,true,vn⟩=false by simp[vBad,e1,e2,e3,e4,e5]]
          try refine wk ?_
          refine q_cut ?_
          exact by_less
       |succ j =>
        obtain⟨p,hp⟩:∃ p,c.vs[j]? = some p:=⟨c.vs[j],List.getElem?_eq_getElem (by omega)⟩
        have hsub:(((j+1:Nat):Int) - 1)=((j:Nat):Int):=by omega
        by_cases e3:vb≤p.by_
        ·
         rw[show vBad (prevOf c.vs (j+1)) ⟨vb,vm,vh,vn⟩=true by simp[vBad,prevOf,hp,prevBad,e3]]
         repeat(first|refine wa ?_|((with_reducible apply s5);(first|((with_reducible apply a_ia);(iterate 5 exact rfl);rw[hsub];apply idx_map;assumption)|exact by_oa|exact by_ca);exact by_g)|refine wb ?_)
         refine q_cut ?_
         exact by_less
        have e3':prevBad (prevOf c.vs (j+1)) vb=false:=by simp[prevOf,hp,prevBad];omega
        by_cases e4:vn < -1073741824
        ·
         rw[show vBad (prevOf c.vs (j+1)) ⟨vb,vm,vh,vn⟩=true by simp[vBad,e4]]
         repeat(first|refine wa ?_|((with_reducible apply s5);(first|((with_reducible apply a_ia);(iterate 5 exact rfl);rw[hsub];apply idx_map;assumption)|exact by_oa|exact by_ca);exact by_g)|refine wb ?_)
         refine q_cut ?_
         exact by_less
        by_cases e5:(1073741824:Int) < vn
        ·
         rw[show vBad (prevOf c.vs (j+1)) ⟨vb,vm,vh,vn⟩=true by simp[vBad,e5]]
         repeat(first|refine wa ?_|((with_reducible apply s5);(first|((with_reducible apply a_ia);(iterate 5 exact rfl);rw[hsub];apply idx_map;assumption)|exact by_oa|exact by_ca);exact by_g)|refine wb ?_)
         refine q_cut ?_
         exact by_less
        cases vh
        ·
         by_cases e6:vn=0
         ·
          cases vm
          ·
           rw[show vBad (prevOf c.vs (j+1)) ⟨vb,false,false,vn⟩=false by simp[vBad,e1,e2,e3',e4,e5,e6]]
           repeat(first|refine wa ?_|((with_reducible apply s5);(first|((with_reducible apply a_ia);(iterate 5 exact rfl);rw[hsub];apply idx_map;assumption)|exact by_oa|exact by_ca);exact by_g)|refine wb ?_)
           refine q_cut ?_
           exact by_less
          ·
           rw[show vBad (prevOf c.vs (j+1)) ⟨vb,true,false,vn⟩=false by simp[vBad,e1,e2,e3',e4,e5,e6]]
           repeat(first|refine wa ?_|((with_reducible apply s5);(first|((with_reducible apply a_ia);(iterate 5 exact rfl);rw[hsub];apply idx_map;assumption)|exact by_oa|exact by_ca);exact by_g)|refine wb ?_)
           refine q_cut ?_
           exact by_less
         ·
          rw[show vBad (prevOf c.vs (j+1)) ⟨vb,vm,false,vn⟩=true by simp[vBad,e6]]
          repeat(first|refine wa ?_|((with_reducible apply s5);(first|((with_reducible apply a_ia);(iterate 5 exact rfl);rw[hsub];apply idx_map;assumption)|exact by_oa|exact by_ca);exact by_g)|refine wb ?_)
          refine q_cut ?_
          exact by_less
        ·
         cases vm
         ·
          rw[show vBad (prevOf c.vs (j+1)) ⟨vb,false,true,vn⟩=true by simp[vBad]]
          repeat(first|refine wa ?_|((with_reducible apply s5);(first|((with_reducible apply a_ia);(iterate 5 exact rfl);rw[hsub];apply idx_map;assumption)|exact by_oa|exact by_ca);exact by_g)|refine wb ?_)
          refine q_cut ?_
          exact by_less
         ·
          rw[show vBad (prevOf c.vs (j+1)) ⟨vb,true,true,vn⟩=false by simp[vBad,e1,e2,e3',e4,e5]]
          repeat(first|refine wa ?_|((with_reducible apply s5);(first|((with_reducible apply a_ia);(iterate 5 exact rfl);rw[hsub];apply idx_map;assumption)|exact by_oa|exact by_ca);exact by_g)|refine wb ?_)
          refine q_cut ?_
          exact by_less
      cases hvb:vBad (prevOf c.vs j) ⟨vb,vm,vh,vn⟩
      ·
       rw[if_neg (by rw[hvb];simp)]at hJ
       try refine wk ?_
       refine q_loopT (j+1) ⟨by omega,by rw[← hJ,prevOf,h6];rfl⟩ (by omega) ?_
       exact by_less
      ·
       rw[if_pos hvb]at hJ
       rw[if_neg (by rw[← hJ];simp)]at hI
       try refine wk ?_
       rw[← hI]
       exact .one (.tmp rfl (.one (.d (.refl _))))
   ·
    rw[if_pos hb]at hI
    try refine wk ?_
    rw[← hI]
    exact .one (.tmp rfl (.one (.d (.refl _))))
set_option maxHeartbeats 8000000
theorem ok_ChainTells (l:List Chain) (r:List Pair) (k:Str) (b:Int) (v:Version) (hl:l.length≤1048576) (hlk:∀ c∈l,c.key.length≤1048576∧c.vs.length≤1048576) (hrl:r.length≤1048576) (hrk:∀ q∈r,q.key.length≤1048576) (hk:k.length≤1048576) :
  FnOk Try.prog 3 [.d (encChains l),.d (encRows r),.d (dstr k),.d (dint b),.d (.agg v.enc)] (.one (dbool true)):=by
 refine fnOk_of tbl_ok mixed_ok Try.func3 rfl (by kernel_rfl) rfl rfl fun w0 own0=>?_
 have hv:∀ c∈l,c.vs.length≤1048576:=fun c hc=>(hlk c hc).2
 have c1:=ok_rightChains l (by omega) (fun c hc=>⟨by have:=(hlk c hc).1;omega,by have:=(hlk c hc).2;omega⟩)
 have c2:=ok_key k (by omega)
 cases h1:rightChains l with
 |false =>
  rw[h1]at c1
  try refine wk ?_
  exact .one (.tmp rfl (.one (.d (.refl _))))
 |true =>
 rw[h1]at c1
 cases h2:key k with
 |false =>
  rw[h2]at c2
  try refine wk ?_
  exact .one (.tmp rfl (.one (.d (.refl _))))
 |true =>
 rw[h2]at c2
 by_cases h3:b < -10
 ·
  try refine wk ?_
  exact .one (.tmp rfl (.one (.d (.refl _))))
 by_cases h4:2000000 < b
 ·
  try refine wk ?_
  exact .one (.tmp rfl (.one (.d (.refl _))))
 have hR:=rightChains_srt h1
 have v2:∀ c∈l,c.vs.length≤268435455:=fun c hc=>by have:=hv c hc;omega
 have v3:∀ c∈l,c.vs.length≤268435456:=fun c hc=>by have:=hv c hc;omega
 have c3:=ok_chainOwn l (by omega) v3
 have c4:=ok_sameChains l l (by omega) v3
 have c5:=ok_pbefore l k b (by omega) v3 hR.s
 have c6:=ok_before l k b (by omega) v3
 have c7:=ok_padd l k b (by omega) v2 hR.s
 have c8:=ok_add l k b (by omega) v3
 have c9:=ok_sameChains (addS k b l) (addS k b l) (by have:=addS_len (k:=k) (b:=b) l;omega) (fun c hc=>by have:=addS_vs hv c hc;omega)
 have c10:=ok_pset l k v (by omega) v2 hR.s
 have c11:=ok_set l k v (by omega) v3
 have c12:=ok_sameChains (setChains l k v) (setChains l k v) (by rw[set_len];omega) (fun c hc=>by have:=set_vs hv c hc;omega)
 have c13:=ok_pclear l b (by omega) v3
 have c14:=ok_clear l b (by omega) v3
 have c15:=ok_sameChains (clear b l) (clear b l) (by have:=clear_len (b:=b) l;omega) (fun c hc=>by have:=clear_vs hv c hc;omega)
 have c16:=ok_prows l b (by omega) v3 hR.s
 have c17:=ok_rowsAt l b (by omega) v3
 have c18:=ok_SameRows (rowsAt l b).1 (rowsAt l b).1 (by have:=rowsAt_len l b;omega)
 have c19:=ok_wrongRows r (by omega) (fun q hq=>by have:=hrk q hq;omega)
 rw[same_refl]at c4 c9 c12 c15
 rw[allB_refl (by simp)]at c18
 rw[addC_srt hR.s]at c8
 rw[pclear_eq hR.v]at c13
 by_cases h5:wrongRows r=0
 ·
  have hrs:=(wrongRows_srt h5).1
  have c20:=ok_of r (by omega)
  have c21:=ok_prows (r.map rowChain) 0 (by simp;omega) (fun c hc=>by obtain⟨p,_,rfl⟩:=List.mem_map.1 hc;simp[rowChain]) (chains_srt hrs)
  rw[rowsAt_rows hrs (by omega)]at c21
  have c22:=ok_SameRows r r (by omega)
  rw[allB_refl (by simp)]at c22
  repeat(first|refine wa ?_|((with_reducible apply s5);(first|exact a_call c4 rfl by_sub|exact a_call c9 rfl by_sub|exact a_call c12 rfl by_sub|exact a_call c15 rfl by_sub|exact a_call c16 rfl by_sub|exact a_call c18 rfl by_sub|exact a_call c21 rfl by_sub|exact a_call c22 rfl by_sub|((with_reducible apply a_agg);exact neq_version (before l k b) (before l k b);(iterate 5 exact rfl))|((with_reducible apply a_bin);(iterate 2 exact rfl);(first|exact bin_bneq (by kernel_rfl)|exact bin_beql (by kernel_rfl));exact rfl)|exact by_oa|exact by_ca);exact by_g)|refine wb ?_)
  exact .one (.tmp rfl (.one (.d (.refl _))))
 ·
  repeat(first|refine wa ?_|((with_reducible apply s5);(first|exact a_call c4 rfl by_sub|exact a_call c9 rfl by_sub|exact a_call c12 rfl by_sub|exact a_call c15 rfl by_sub|exact a_call c16 rfl by_sub|exact a_call c18 rfl by_sub|((with_reducible apply a_agg);exact neq_version (before l k b) (before l k b);(iterate 5 exact rfl))|((with_reducible apply a_bin);(iterate 2 exact rfl);(first|exact bin_bneq (by kernel_rfl)|exact bin_beql (by kernel_rfl));exact rfl)|exact by_oa|exact by_ca);exact by_g)|refine wb ?_)
  exact .one (.tmp rfl (.one (.d (.refl _))))
end Go.Proofs.Ytfpkamiobdkcpaa
namespace Go.AX
open Go.RowKit
theorem gl_none {P:Program}{w:World}{n:String}{p:Array Value→Prop}(h:P.globalNamed n=none):GlAt P w n p:=fun g hg=>by rw[h]at hg;cases hg
theorem gl_int {P:Program}{w:World}{n:String}{g:Nat}{m:Int}(hg:P.globalNamed n=some g) (h:w.cell? ⟨g,0,none⟩=some (.int .i64 m)):GlAt P w n fun cs=>∃ m,cs[0]? = some (.int .i64 m):=by
 intro g' hg'
 have hx:∃ cs,w.var? P n=some cs∧cs[0]? = some (.int .i64 m):=by
  unfold World.var?
  rw[hg]
  simp only[Option.bind_some]
  unfold World.cell? at h
  simp only at h
  split at h
  ·
   next cs _ _ hh=>rw[hh];exact⟨cs,rfl,h⟩
  ·
   cases h
 obtain⟨cs,h1,h2⟩:=hx
 exact⟨cs,h1,m,h2⟩
end Go.AX
namespace Go.Proofs.Ytfpkamiobdkcpaa
open Go.AX Go.RF
theorem before_addS {k k':Str}{b b':Int}(h:k=k'→b≤b'):∀ {l:List Chain}{out:Version},beforeGo k b out (addS k' b' l)=beforeGo k b out l
 | [],out=>by
  simp only[addS,beforeGo,bvs,newV]
  by_cases hk:k'=k
  ·
   have:=h hk.symm
   simp;omega
  ·
   simp[hk]
 |c::l,out=>by
  simp only[addS]
  by_cases hk:c.key=k'
  ·
   rw[if_pos hk]
   simp only[beforeGo,bvs_append,bvs,newV]
   by_cases hc:c.key=k
   ·
    have:=h (by rw[← hc,hk])
    rw[if_neg (by simp;omega)]
   ·
    simp[hc]
  ·
   rw[if_neg hk]
   split
   ·
    simp only[beforeGo]
    exact before_addS h
   ·
    have h1:bvs (decide (k'=k)) b out [newV b']=out:=by
     simp only[bvs]
     by_cases hc:k'=k
     ·
      have:=h hc.symm
      have h2:¬ (newV b').by_ < b:=by show ¬ b' < b;omega
      rw[decide_eq_false h2];simp
     ·
      simp[hc]
    show beforeGo k b (bvs (decide (k'=k)) b out [newV b']) (c::l)=_
    rw[h1]
theorem bvs_set {h hit:Bool}{b:Int}{v:Version}(hh:h=true→hit=true→b≤v.by_):∀ {l:List Version}{out:Version},bvs h b out (l.map (setV hit v))=bvs h b out l
 | [],out=>rfl
 |w::l,out=>by
  simp only[List.map_cons,bvs]
  rw[bvs_set hh]
  congr 1
  cases h with
  |false=>simp
  |true =>
   cases hit with
   |false=>simp[setV]
   |true =>
    have:=hh rfl rfl
    simp only[setV,Bool.true_and,true_and,decide_eq_true_eq]
    by_cases hw:w.by_=v.by_
    ·
     rw[if_pos hw,if_neg (by omega),if_neg (by omega)]
    ·
     rw[if_neg hw]
theorem before_set {k k':Str}{b:Int}{v:Version}(h:k=k'→b≤v.by_):∀ {l:List Chain}{out:Version},beforeGo k b out (setChains l k' v)=beforeGo k b out l
 | [],out=>rfl
 |c::l,out=>by
  show beforeGo k b (bvs (decide (c.key=k)) b out (c.vs.map (setV (decide (c.key=k')) v))) (setChains l k' v)=_
  rw[bvs_set (fun h1 h2=>h (by rw[← of_decide_eq_true h1,of_decide_eq_true h2])),before_set h]
  rfl
theorem ne_tail {c:Chain}{l:List Chain}(hs:Srt Chain.key (c::l)) {k:Str}(h:slt k c.key=true∨c.key=k):∀ d∈l,d.key≠k:=by
 intro d hd e
 have h1:=(List.pairwise_cons.1 hs).1 d hd
 rw[e]at h1
 rcases h with h|h
 ·
  have:=slt_trans h h1;rw[slt_irrefl]at this;cases this
 ·
  rw[h,slt_irrefl]at h1;cases h1
theorem slt_flip {a b:Str}(h:¬ slt a b=true) (hn:a≠b):slt b a=true:=by
 rcases slt_tri a b with h1|h1|h1
 ·
  exact absurd h1 h
 ·
  exact absurd h1 hn
 ·
  exact h1
theorem behind_set {k:Str}{b b':Int}{v:Version}(hv:v.by_=b') (hb:b' < b):∀ {l:List Chain}{out:Version},Srt Chain.key l→beforeGo k b out (setChains (addS k b' l) k v)=v
 | [],out,_=>by
  simp[addS,setChains,setC,setV,newV,beforeGo,bvs,hv,hb]
 |c::l,out,hs=>by
  simp only[addS]
  by_cases hk:c.key=k
  ·
   rw[if_pos hk]
   have hn:=ne_tail hs (.inr hk)
   have h0:∀ o,beforeGo k b o (setChains l k v)=o:=fun o=>beforeGo_none fun d hd=>by
    obtain⟨d0,h1,rfl⟩:=List.mem_map.1 hd
    exact hn d0 h1
   show beforeGo k b (bvs (decide (c.key=k)) b out ((c.vs++[newV b']).map (setV (decide (c.key=k)) v))) (setChains l k v)=v
   rw[h0,List.map_append,bvs_append]
   simp[hk,setV,newV,bvs,hv,hb]
  ·
   rw[if_neg hk]
   split
   ·
    show beforeGo k b _ (setChains (addS k b' l) k v)=v
    exact behind_set hv hb (List.pairwise_cons.1 hs).2
   ·
    next h2 =>
    have hn:=ne_tail hs (.inl (slt_flip h2 hk))
    have h0:∀ o,beforeGo k b o (setChains (c::l) k v)=o:=fun o=>beforeGo_none fun d hd=>by
     obtain⟨d0,h1,rfl⟩:=List.mem_map.1 hd
     rcases List.mem_cons.1 h1 with rfl|h1
     ·
      exact hk
     ·
      exact hn d0 h1
    show beforeGo k b (bvs (decide (k=k)) b out ([newV b'].map (setV (decide (k=k)) v))) (setChains (c::l) k v)=v
    rw[h0]
    simp[setV,newV,bvs,hv,hb]
theorem behind_add {k:Str}{b b':Int}(hb:b' < b) {l:List Chain}{out:Version}(hs:Srt Chain.key l):beforeGo k b out (addS k b' l)=newV b':=by
 have h:=behind_set (k:=k) (v:=newV b') (b':=b') rfl hb (l:=l) (out:=out) hs
 have h1:∀ w:Version,∀ hit,w.by_=b'→setV hit (newV b') w=w∨setV hit (newV b') w=newV b':=fun w hit _=>by
  unfold setV;split
  ·
   exact .inr rfl
  ·
   exact .inl rfl
 clear h1 h
 revert out
 induction l with
 |nil=>intro out;simp[addS,beforeGo,bvs,newV,hb]
 |cons c l ih =>
  intro out
  simp only[addS]
  by_cases hk:c.key=k
  ·
   rw[if_pos hk]
   have hn:=ne_tail hs (.inr hk)
   simp only[beforeGo]
   rw[beforeGo_none hn,bvs_append]
   simp[hk,newV,bvs,hb]
  ·
   rw[if_neg hk]
   split
   ·
    simp only[beforeGo]
    exact ih (List.pairwise_cons.1 hs).2
   ·
    next h2 =>
    have hn:=ne_tail hs (.inl (slt_flip h2 hk))
    have h0:∀ o,beforeGo k b o (c::l)=o:=fun o=>beforeGo_none fun d hd=>by
     rcases List.mem_cons.1 hd with rfl|h1
     ·
      exact hk
     ·
      exact hn d h1
    show beforeGo k b (bvs (decide (k=k)) b out [newV b']) (c::l)=_
    rw[h0]
    simp[newV,bvs,hb]
theorem clrV_ge {b:Int}:∀ {l:List Version},(∀ v∈l,b≤v.by_)→clrV b l=l
 | [],_=>rfl
 |v::l,h=>by
  have:=h v (List.mem_cons_self ..)
  have h1:decide (v.by_ < b)=false:=by simp;omega
  simp only[clrV]
  rw[if_neg (by simp[old,h1]),clrV_ge fun w hw=>h w (List.mem_cons_of_mem _ hw)]
theorem seen_clr2 {b at_:Int}(hba:b≤at_):∀ {l:List Version}{out:Version},VSrt l →
  bvs true at_ out (clrV b l)=bvs true at_ out l∨((bvs true at_ out l).made=true∧(bvs true at_ out l).has=false∧bvs true at_ out (clrV b l)=out∧(bvs true at_ out l).by_ < b)
 | [],out,_ => .inl rfl
 |v::l,out,hs=>by
  obtain⟨h1,h2⟩:=VSrt.cons.1 hs
  by_cases hva:v.by_ < at_
  ·
   have hge:b≤v.by_→clrV b l=l:=fun h=>clrV_ge fun w hw=>by have:=h1 w hw;omega
   by_cases hlt:later b l=true
   ·
    cases l with
    |nil=>simp[later]at hlt
    |cons w l' =>
     have hw:w.by_ < b:=by simpa[later] using hlt
     have hvb:v.by_ < b:=by have:=h1 w (List.mem_cons_self ..);omega
     have hold:old b (w::l') v=true:=by simp[old,later,hw,hvb]
     have ih:=seen_clr2 hba (out:=out) h2
     have hsame:bvs true at_ v (w::l')=bvs true at_ out (w::l'):=by
      simp only[bvs]
      rw[if_pos (by simp;omega),if_pos (by simp;omega)]
     have h5:clrV b (v::w::l')=clrV b (w::l'):=by rw[clrV,if_pos hold]
     rw[h5]
     have h4:bvs true at_ out (v::w::l')=bvs true at_ (if (true&&decide (v.by_ < at_))=true then v else out) (w::l'):=rfl
     rw[if_pos (by simp;omega)]at h4
     rw[h4,hsame]
     exact ih
   ·
    have hl:∀ w∈l,b≤w.by_:=by
     cases l with
     |nil=>simp
     |cons w l' =>
      have hw:¬ w.by_ < b:=by simpa[later] using hlt
      intro x hx
      rcases List.mem_cons.1 hx with rfl|hx
      ·
       omega
      ·
       have:=(VSrt.cons.1 h2).1 x hx;omega
    have hl0:later b l=false:=by simpa using hlt
    have hc:=clrV_ge hl
    simp only[clrV]
    rw[hc]
    by_cases hold:old b l v=true
    ·
     rw[if_pos hold]
     have h3:v.made=true∧v.has=false∧v.by_ < b:=by
      simp[old,hl0]at hold
      exact⟨hold.2.1,hold.2.2,hold.1⟩
     have h4:bvs true at_ out (v::l)=bvs true at_ v l:=by simp only[bvs];rw[if_pos (by simp;omega)]
     rw[h4]
     cases l with
     |nil=>exact .inr ⟨h3.1,h3.2.1,rfl,h3.2.2⟩
     |cons w l' =>
      by_cases hw:w.by_ < at_
      ·
       left
       simp only[bvs]
       rw[if_pos (by simp;omega),if_pos (by simp;omega)]
      ·
       have h5:∀ x∈w::l',at_≤x.by_:=fun x hx=>by
        rcases List.mem_cons.1 hx with rfl|hx
        ·
         omega
        ·
         have:=(VSrt.cons.1 h2).1 x hx;omega
       rw[bvs_ge h5,bvs_ge h5]
       exact .inr ⟨h3.1,h3.2.1,rfl,h3.2.2⟩
    ·
     rw[if_neg hold]
     exact .inl rfl
  ·
   have h3:∀ x∈v::l,at_≤x.by_:=fun x hx=>by
    rcases List.mem_cons.1 hx with rfl|hx
    ·
     omega
    ·
     have:=h1 x hx;omega
   rw[clrV_ge fun x hx=>by have:=h3 x hx;omega]
   exact .inl rfl
theorem seen_clear2 {b at_:Int}{k:Str}(hba:b≤at_):∀ {l:List Chain}{out:Version},Srt Chain.key l→(∀ c∈l,VSrt c.vs) →
  beforeGo k at_ out (clear b l)=beforeGo k at_ out l∨((beforeGo k at_ out l).made=true∧(beforeGo k at_ out l).has=false∧beforeGo k at_ out (clear b l)=out∧(beforeGo k at_ out l).by_ < b)
 | [],out,_,_ => .inl rfl
 |c::l,out,hs,hv=>by
  have h2:=(List.pairwise_cons.1 hs).2
  by_cases hk:c.key=k
  ·
   have hn:=ne_tail hs (.inr hk)
   have n1:∀ o,beforeGo k at_ o l=o:=fun o=>beforeGo_none hn
   have n2:∀ o,beforeGo k at_ o (clear b l)=o:=fun o=>beforeGo_none fun d hd=>by
    obtain⟨d0,h0,rfl⟩:=clear_mem hd
    exact hn d0 h0
   have h3:beforeGo k at_ out (c::l)=bvs true at_ out c.vs:=by
    simp only[beforeGo];rw[n1];simp[hk]
   have h4:beforeGo k at_ out (clear b (c::l))=bvs true at_ out (clrV b c.vs):=by
    simp only[clear]
    split
    ·
     next h=>rw[n2,h];rfl
    ·
     simp only[beforeGo];rw[n2];simp[hk]
   rw[h3,h4]
   exact seen_clr2 hba (hv c (List.mem_cons_self ..))
  ·
   have h3:beforeGo k at_ out (c::l)=beforeGo k at_ out l:=by
    simp only[beforeGo];simp[hk,bvs_false]
   have h4:beforeGo k at_ out (clear b (c::l))=beforeGo k at_ out (clear b l):=by
    simp only[clear]
    split
    ·
     rfl
    ·
     simp only[beforeGo];simp[hk,bvs_false]
   rw[h3,h4]
   exact seen_clear2 hba h2 fun d hd=>hv d (List.mem_cons_of_mem _ hd)
theorem seen_clear {b at_:Int}{k:Str}(hba:b≤at_) {l:List Chain}{out:Version}(hs:Srt Chain.key l) (hv:∀ c∈l,VSrt c.vs) :
  beforeGo k at_ out (clear b l)=beforeGo k at_ out l∨((beforeGo k at_ out l).made=true∧(beforeGo k at_ out l).has=false∧beforeGo k at_ out (clear b l)=out) :=
 (seen_clear2 hba hs hv).imp_right fun h=>⟨h.1,h.2.1,h.2.2.1⟩
theorem rightVs_iff:∀ {l:List Version}{p:Option Int},rightVs p l=true↔VSrt l∧(∀ v∈l,vBad none v=false)∧∀ u,p=some u→∀ v∈l,u < v.by_
 | [],p=>by simp[rightVs,VSrt]
 |v::l,p=>by
  have hb:vBad p v=false↔vBad none v=false∧∀ u,p=some u→u < v.by_:=by
   cases p with
   |none=>simp
   |some u=>simp[vBad,prevBad];constructor <;> simp_all
  simp only[rightVs]
  constructor
  ·
   intro h
   cases hv:vBad p v with
   |true=>rw[hv]at h;simp at h
   |false =>
    rw[hv]at h
    simp only[Bool.false_eq_true,if_false]at h
    obtain⟨h1,h2,h3⟩:=rightVs_iff.1 h
    obtain⟨h4,h5⟩:=hb.1 hv
    have h6:=h3 v.by_ rfl
    refine⟨VSrt.cons.2 ⟨h6,h1⟩,fun w hw=>?_,fun u hu w hw=>?_⟩
    ·
     rcases List.mem_cons.1 hw with rfl|hw
     ·
      exact h4
     ·
      exact h2 w hw
    ·
     rcases List.mem_cons.1 hw with rfl|hw
     ·
      exact h5 u hu
     ·
      exact Int.lt_trans (h5 u hu) (h6 w hw)
  ·
   rintro ⟨h1,h2,h3⟩
   obtain⟨h4,h5⟩:=VSrt.cons.1 h1
   rw[hb.2 ⟨h2 v (List.mem_cons_self ..),fun u hu=>h3 u hu v (List.mem_cons_self ..)⟩]
   simp only[Bool.false_eq_true,if_false]
   exact rightVs_iff.2 ⟨h5,fun w hw=>h2 w (List.mem_cons_of_mem _ hw),fun u hu w hw=>by cases hu;exact h4 w hw⟩
theorem rightCs_iff:∀ {l:List Chain}{p:Option Str},rightCs p l=true↔Srt Chain.key l∧(∀ c∈l,cBad none c=false∧rightVs none c.vs=true)∧∀ u,p=some u→∀ c∈l,slt u c.key=true
 | [],p=>by simp[rightCs,Srt]
 |c::l,p=>by
  have hb:cBad p c=false↔cBad none c=false∧∀ u,p=some u→slt u c.key=true:=by
   cases p with
   |none=>simp
   |some u=>simp[cBad,prevSBad];constructor <;> simp_all
  simp only[rightCs]
  constructor
  ·
   intro h
   cases hv:cBad p c with
   |true=>rw[hv]at h;simp at h
   |false =>
    rw[hv]at h
    simp only[Bool.false_eq_true,if_false]at h
    by_cases hr:rightVs none c.vs=true
    ·
     rw[if_pos hr]at h
     obtain⟨h1,h2,h3⟩:=rightCs_iff.1 h
     obtain⟨h4,h5⟩:=hb.1 hv
     have h6:=h3 c.key rfl
     refine⟨List.pairwise_cons.2 ⟨h6,h1⟩,fun w hw=>?_,fun u hu w hw=>?_⟩
     ·
      rcases List.mem_cons.1 hw with rfl|hw
      ·
       exact⟨h4,hr⟩
      ·
       exact h2 w hw
     ·
      rcases List.mem_cons.1 hw with rfl|hw
      ·
       exact h5 u hu
      ·
       exact slt_trans (h5 u hu) (h6 w hw)
    ·
     rw[if_neg hr]at h;simp at h
  ·
   rintro ⟨h1,h2,h3⟩
   obtain⟨h4,h5⟩:=List.pairwise_cons.1 h1
   obtain⟨h6,h7⟩:=h2 c (List.mem_cons_self ..)
   rw[hb.2 ⟨h6,fun u hu=>h3 u hu c (List.mem_cons_self ..)⟩,if_pos h7]
   simp only[Bool.false_eq_true,if_false]
   exact rightCs_iff.2 ⟨h5,fun w hw=>h2 w (List.mem_cons_of_mem _ hw),fun u hu w hw=>by cases hu;exact h4 w hw⟩
theorem clear_mem' {b:Int}:∀ {l:List Chain}{c:Chain},c∈clear b l→∃ c0∈l,c=⟨c0.key,clrV b c0.vs⟩∧clrV b c0.vs≠[]
 | [],c,h=>by simp[clear]at h
 |x::l,c,h=>by
  simp only[clear]at h
  split at h
  ·
   obtain⟨c0,h0,h1⟩:=clear_mem' h
   exact⟨c0,List.mem_cons_of_mem _ h0,h1⟩
  ·
   next hn =>
   rcases List.mem_cons.1 h with rfl|h
   ·
    exact⟨x,List.mem_cons_self ..,rfl,hn⟩
   ·
    obtain⟨c0,h0,h1⟩:=clear_mem' h
    exact⟨c0,List.mem_cons_of_mem _ h0,h1⟩
theorem right_clear {l:List Chain}{b:Int}(h:rightChains l=true):rightChains (clear b l)=true:=by
 obtain⟨h1,h2,_⟩:=rightCs_iff.1 h
 refine rightCs_iff.2 ⟨clear_srt h1,fun c hc=>?_,by simp⟩
 obtain⟨c0,h0,rfl,hne⟩:=clear_mem' hc
 obtain⟨h3,h4⟩:=h2 c0 h0
 obtain⟨h5,h6,_⟩:=rightVs_iff.1 h4
 refine⟨?_,rightVs_iff.2 ⟨h5.sublist (clrV_sublist _),fun v hv=>h6 v ((clrV_sublist _).subset hv),by simp⟩⟩
 simp only[cBad,prevSBad,Bool.or_eq_false_iff,decide_eq_false_iff_not]at h3 ⊢
 exact⟨h3.1,trivial,hne⟩
theorem sizeGo_add:∀ {l:List Chain}{n:Int},sizeGo n l=n+sizeGo 0 l
 | [],n=>by simp[sizeGo]
 |c::l,n=>by
  simp only[sizeGo]
  rw[sizeGo_add,sizeGo_add (n:=0+_)]
  omega
theorem size_clear {b:Int}:∀ {l:List Chain},sizeGo 0 (clear b l)≤sizeGo 0 l
 | []=>by simp[clear]
 |c::l=>by
  have ih:=size_clear (b:=b) (l:=l)
  have h1:(clrV b c.vs).length≤c.vs.length:=(clrV_sublist _).length_le
  simp only[clear,sizeGo]
  rw[sizeGo_add (l:=l)]
  split
  ·
   omega
  ·
   simp only[sizeGo]
   rw[sizeGo_add (l:=clear b l)]
   omega
set_option maxRecDepth 100000
set_option maxHeartbeats 8000000
def lv0:List Chain:=[⟨[97],[⟨-1,true,true,5⟩]⟩]
def lv1:List Chain:=[⟨[97],[⟨-1,true,true,5⟩,⟨3,false,false,0⟩]⟩]
def lv2:List Chain:=[⟨[97],[⟨-1,true,true,5⟩,⟨3,true,true,6⟩]⟩]
def lv3:List Chain:=[⟨[97],[⟨3,true,true,6⟩]⟩]
theorem lv1_eq:addS [97] 3 lv0=lv1:=by kernel_rfl
theorem lv2_eq:setChains lv1 [97] ⟨3,true,true,6⟩=lv2:=by kernel_rfl
theorem lv3_eq:pclear 9 lv2=lv3:=by kernel_rfl
theorem lv_b3:before lv1 [97] 3=⟨-1,true,true,5⟩:=by kernel_rfl
theorem lv_b4:before lv1 [97] 4=⟨3,false,false,0⟩:=by kernel_rfl
theorem lv_r1:rowsAt lv1 9=([],false):=by kernel_rfl
theorem lv_r2:rowsAt lv2 9=([⟨[97],6⟩],true):=by kernel_rfl
theorem one_srt {c:Chain}:Srt Chain.key [c]:=List.pairwise_singleton ..
theorem ok_chainAlive:FnOk Try.prog 24 [] (.one (dbool true)):=by
 refine fnOk_of tbl_ok mixed_ok Try.func24 rfl (by kernel_rfl) rfl rfl fun w0 own0=>?_
 have c1:FnOk Try.prog 23 [.d (encRows [⟨[97],5⟩])] (.one (encChains lv0)):=ok_of [⟨[97],5⟩] (by decide)
 have c2:=ok_padd lv0 [97] 3 (by decide) (by decide) one_srt
 rw[lv1_eq]at c2
 have c3:=ok_pbefore lv1 [97] 3 (by decide) (by decide) one_srt
 rw[lv_b3]at c3
 have c4:=ok_pbefore lv1 [97] 4 (by decide) (by decide) one_srt
 rw[lv_b4]at c4
 have c5:=ok_pset lv1 [97] ⟨3,true,true,6⟩ (by decide) (by decide) one_srt
 rw[lv2_eq]at c5
 have c6:=ok_prows lv2 9 (by decide) (by decide) one_srt
 rw[lv_r2]at c6
 have c7:=ok_prows lv1 9 (by decide) (by decide) one_srt
 rw[lv_r1]at c7
 have c8:=ok_pclear lv2 9 (by decide) (by decide)
 rw[lv3_eq]at c8
 have c9:=ok_chainOwn lv2 (by decide) (by decide)
 repeat(first|refine wa ?_|((with_reducible apply s5);(first|(focus ((with_reducible apply(a_call c1));exact rfl;(repeat(first|exact SubsE.nil|(apply SubsE.cons;exact rfl;(first|exact .d (.refl _)|exact .d (.nil _)|exact .agg rfl (.refl _)|exact .pd|exact .ptr rfl);(first|exact trivial|exact⟨rfl,trivial⟩))));done))|(focus ((with_reducible apply(a_call c3));exact rfl;(repeat(first|exact SubsE.nil|(apply SubsE.cons;exact rfl;(first|exact .d (.refl _)|exact .d (.nil _)|exact .agg rfl (.refl _)|exact .pd|exact .ptr rfl);(first|exact trivial|exact⟨rfl,trivial⟩))));done))|(focus ((with_reducible apply(a_call c4));exact rfl;(repeat(first|exact SubsE.nil|(apply SubsE.cons;exact rfl;(first|exact .d (.refl _)|exact .d (.nil _)|exact .agg rfl (.refl _)|exact .pd|exact .ptr rfl);(first|exact trivial|exact⟨rfl,trivial⟩))));done))|(focus ((with_reducible apply(a_call c6));exact rfl;(repeat(first|exact SubsE.nil|(apply SubsE.cons;exact rfl;(first|exact .d (.refl _)|exact .d (.nil _)|exact .agg rfl (.refl _)|exact .pd|exact .ptr rfl);(first|exact trivial|exact⟨rfl,trivial⟩))));done))|(focus ((with_reducible apply(a_call c7));exact rfl;(repeat(first|exact SubsE.nil|(apply SubsE.cons;exact rfl;(first|exact .d (.refl _)|exact .d (.nil _)|exact .agg rfl (.refl _)|exact .pd|exact .ptr rfl);(first|exact trivial|exact⟨rfl,trivial⟩))));done))|((with_reducible apply a_ia);(iterate 6 exact rfl))|exact by_oa|exact by_ca);exact by_g)|refine wb ?_)
 exact .one (.tmp rfl (.one (.d (.refl _))))
theorem ok_chainSize (l:List Chain) (hl:l.length≤134217728) (hv:∀ c∈l,c.vs.length≤134217728):FnOk Try.prog 25 [.d (encChains l)] (.one (dint (sizeGo 0 l))):=by
 refine fnOk_of tbl_ok mixed_ok Try.func25 rfl (by kernel_rfl) rfl rfl fun w0 own0=>?_
 try refine wk ?_
 refine CW.loopT (fun t:Nat×Int=>[sd 3 (dint t.2),sd 6 (encChains l),sd 7 (dint l.length),sd 8 (dint t.1),nxt 0])
  (fun t=>t.1≤l.length∧(0≤t.2∧t.2≤134217728*t.1)∧sizeGo t.2 (l.drop t.1)=sizeGo 0 l) (fun t=>l.length - t.1) (0,0) ⟨by omega,by simp,rfl⟩ ?_ ?_
 ·
  exact by_less
 ·
  rintro ⟨i,n⟩ ⟨hi,hn,hI⟩
  dsimp only at hi hn hI ⊢
  rcases drop_case hi with ⟨h1,h2⟩|⟨c,h1,h2,h3⟩
  ·
   rw[h1]at hI
   simp only[sizeGo]at hI
   rw[hI]
   try refine wk ?_
   exact .one (.tmp rfl (.one (.d (.refl _))))
  ·
   rw[h1]at hI
   simp only[sizeGo]at hI
   have hv:=hv c (List.mem_of_getElem? h2)
   try refine wk ?_
   refine q_loopT (i+1,n+c.vs.length) ⟨by dsimp only;omega,by dsimp only;omega,hI⟩ (by dsimp only;omega) ?_
   exact by_less
theorem chainsSet_srt {l:List Chain}{k:Str}{v:Version}(hs:Srt Chain.key l):Srt Chain.key (setChains l k v):=List.pairwise_map.2 hs
theorem ok_ChainAhead (l:List Chain) (k:Str) (b n:Int) (o:Str) (at_:Int) (hl:l.length≤1048576) (hlk:∀ c∈l,c.key.length≤1048576∧c.vs.length≤1048576) (hk:k.length≤1048576) (ho:o.length≤1048576) :
  FnOk Try.prog 4 [.d (encChains l),.d (dstr k),.d (dint b),.d (dint n),.d (dstr o),.d (dint at_)] (.one (dbool true)):=by
 refine fnOk_of tbl_ok mixed_ok Try.func4 rfl (by kernel_rfl) rfl rfl fun w0 own0=>?_
 have ca:=ok_chainAlive
 have hv:∀ c∈l,c.vs.length≤1048576:=fun c hc=>(hlk c hc).2
 have c1:=ok_rightChains l (by omega) (fun c hc=>⟨by have:=(hlk c hc).1;omega,by have:=(hlk c hc).2;omega⟩)
 have c2:=ok_key k (by omega)
 have c3:=ok_key o (by omega)
 cases h1:rightChains l with
 |false =>
  rw[h1]at c1
  try refine wk ?_
  exact .one (.tmp rfl (.one (.d (.refl _))))
 |true =>
 rw[h1]at c1
 cases h2:key k with
 |false =>
  rw[h2]at c2
  repeat(first|refine wa ?_|((with_reducible apply s5);(first|(focus ((with_reducible apply(a_call c2));exact rfl;(repeat(first|exact SubsE.nil|(apply SubsE.cons;exact rfl;(first|exact .d (.refl _)|exact .d (.nil _)|exact .agg rfl (.refl _)|exact .pd|exact .ptr rfl);(first|exact trivial|exact⟨rfl,trivial⟩))));done))|exact by_oa|exact by_ca);exact by_g)|refine wb ?_)
  exact .one (.tmp rfl (.one (.d (.refl _))))
 |true =>
 rw[h2]at c2
 cases h3:key o with
 |false =>
  rw[h3]at c3
  repeat(first|refine wa ?_|((with_reducible apply s5);(first|(focus ((with_reducible apply(a_call c2));exact rfl;(repeat(first|exact SubsE.nil|(apply SubsE.cons;exact rfl;(first|exact .d (.refl _)|exact .d (.nil _)|exact .agg rfl (.refl _)|exact .pd|exact .ptr rfl);(first|exact trivial|exact⟨rfl,trivial⟩))));done))|(focus ((with_reducible apply(a_call c3));exact rfl;(repeat(first|exact SubsE.nil|(apply SubsE.cons;exact rfl;(first|exact .d (.refl _)|exact .d (.nil _)|exact .agg rfl (.refl _)|exact .pd|exact .ptr rfl);(first|exact trivial|exact⟨rfl,trivial⟩))));done))|exact by_oa|exact by_ca);exact by_g)|refine wb ?_)
  exact .one (.tmp rfl (.one (.d (.refl _))))
 |true =>
 rw[h3]at c3
 by_cases h4:b < 0
 ·
  repeat(first|refine wa ?_|((with_reducible apply s5);(first|(focus ((with_reducible apply(a_call c2));exact rfl;(repeat(first|exact SubsE.nil|(apply SubsE.cons;exact rfl;(first|exact .d (.refl _)|exact .d (.nil _)|exact .agg rfl (.refl _)|exact .pd|exact .ptr rfl);(first|exact trivial|exact⟨rfl,trivial⟩))));done))|(focus ((with_reducible apply(a_call c3));exact rfl;(repeat(first|exact SubsE.nil|(apply SubsE.cons;exact rfl;(first|exact .d (.refl _)|exact .d (.nil _)|exact .agg rfl (.refl _)|exact .pd|exact .ptr rfl);(first|exact trivial|exact⟨rfl,trivial⟩))));done))|exact by_oa|exact by_ca);exact by_g)|refine wb ?_)
  exact .one (.tmp rfl (.one (.d (.refl _))))
 by_cases h5:1000000 < b
 ·
  repeat(first|refine wa ?_|((with_reducible apply s5);(first|(focus ((with_reducible apply(a_call c2));exact rfl;(repeat(first|exact SubsE.nil|(apply SubsE.cons;exact rfl;(first|exact .d (.refl _)|exact .d (.nil _)|exact .agg rfl (.refl _)|exact .pd|exact .ptr rfl);(first|exact trivial|exact⟨rfl,trivial⟩))));done))|(focus ((with_reducible apply(a_call c3));exact rfl;(repeat(first|exact SubsE.nil|(apply SubsE.cons;exact rfl;(first|exact .d (.refl _)|exact .d (.nil _)|exact .agg rfl (.refl _)|exact .pd|exact .ptr rfl);(first|exact trivial|exact⟨rfl,trivial⟩))));done))|exact by_oa|exact by_ca);exact by_g)|refine wb ?_)
  exact .one (.tmp rfl (.one (.d (.refl _))))
 by_cases h6:at_ < 0
 ·
  repeat(first|refine wa ?_|((with_reducible apply s5);(first|(focus ((with_reducible apply(a_call c2));exact rfl;(repeat(first|exact SubsE.nil|(apply SubsE.cons;exact rfl;(first|exact .d (.refl _)|exact .d (.nil _)|exact .agg rfl (.refl _)|exact .pd|exact .ptr rfl);(first|exact trivial|exact⟨rfl,trivial⟩))));done))|(focus ((with_reducible apply(a_call c3));exact rfl;(repeat(first|exact SubsE.nil|(apply SubsE.cons;exact rfl;(first|exact .d (.refl _)|exact .d (.nil _)|exact .agg rfl (.refl _)|exact .pd|exact .ptr rfl);(first|exact trivial|exact⟨rfl,trivial⟩))));done))|exact by_oa|exact by_ca);exact by_g)|refine wb ?_)
  exact .one (.tmp rfl (.one (.d (.refl _))))
 by_cases h7:2000000 < at_
 ·
  repeat(first|refine wa ?_|((with_reducible apply s5);(first|(focus ((with_reducible apply(a_call c2));exact rfl;(repeat(first|exact SubsE.nil|(apply SubsE.cons;exact rfl;(first|exact .d (.refl _)|exact .d (.nil _)|exact .agg rfl (.refl _)|exact .pd|exact .ptr rfl);(first|exact trivial|exact⟨rfl,trivial⟩))));done))|(focus ((with_reducible apply(a_call c3));exact rfl;(repeat(first|exact SubsE.nil|(apply SubsE.cons;exact rfl;(first|exact .d (.refl _)|exact .d (.nil _)|exact .agg rfl (.refl _)|exact .pd|exact .ptr rfl);(first|exact trivial|exact⟨rfl,trivial⟩))));done))|exact by_oa|exact by_ca);exact by_g)|refine wb ?_)
  exact .one (.tmp rfl (.one (.d (.refl _))))
 by_cases h8:o=k∧b < at_
 ·
  obtain⟨h8,h9⟩:=h8
  repeat(first|refine wa ?_|((with_reducible apply s5);(first|(focus ((with_reducible apply(a_call c2));exact rfl;(repeat(first|exact SubsE.nil|(apply SubsE.cons;exact rfl;(first|exact .d (.refl _)|exact .d (.nil _)|exact .agg rfl (.refl _)|exact .pd|exact .ptr rfl);(first|exact trivial|exact⟨rfl,trivial⟩))));done))|(focus ((with_reducible apply(a_call c3));exact rfl;(repeat(first|exact SubsE.nil|(apply SubsE.cons;exact rfl;(first|exact .d (.refl _)|exact .d (.nil _)|exact .agg rfl (.refl _)|exact .pd|exact .ptr rfl);(first|exact trivial|exact⟨rfl,trivial⟩))));done))|exact by_oa|exact by_ca);exact by_g)|refine wb ?_)
  exact .one (.tmp rfl (.one (.d (.refl _))))
 have hR:=rightChains_srt h1
 have hle:o=k→at_≤b:=fun e=>by
  rcases Int.lt_or_le b at_ with h|h
  ·
   exact absurd ⟨e,h⟩ h8
  ·
   exact h
 have v2:∀ c∈l,c.vs.length≤268435455:=fun c hc=>by have:=hv c hc;omega
 have v3:∀ c∈l,c.vs.length≤268435456:=fun c hc=>by have:=hv c hc;omega
 have d1:=ok_padd l k b (by omega) v2 hR.s
 have hml:=addS_len (k:=k) (b:=b) l
 have hmv:=addS_vs (k:=k) (b:=b) hv
 have hms:=addS_srt (k:=k) (b:=b) hR.s
 have hmk:=behind_add (k:=k) (out:=⟨-1,true,false,0⟩) (show b < b+1 by omega) hR.s
 have hma:beforeGo o at_ ⟨-1,true,false,0⟩ (addS k b l)=beforeGo o at_ ⟨-1,true,false,0⟩ l:=before_addS hle
 have hxk:=behind_set (k:=k) (out:=⟨-1,true,false,0⟩) (v:=⟨b,true,true,n⟩) rfl (show b < b+1 by omega) hR.s
 have hxa:beforeGo o at_ ⟨-1,true,false,0⟩ (setChains (addS k b l) k ⟨b,true,true,n⟩)=beforeGo o at_ ⟨-1,true,false,0⟩ (addS k b l):=before_set hle
 have hxv:=set_vs (k:=k) (v:=⟨b,true,true,n⟩) hmv
 have hxs:=chainsSet_srt (k:=k) (v:=⟨b,true,true,n⟩) hms
 generalize addS k b l=m at d1 hml hmv hms hmk hma hxk hxa hxv hxs
 have d2:=ok_pset m k ⟨b,true,true,n⟩ (by omega) (fun c hc=>by have:=hmv c hc;omega) hms
 have hxl:=set_len m k ⟨b,true,true,n⟩
 generalize setChains m k ⟨b,true,true,n⟩=x at d2 hxl hxk hxa hxv hxs
 have d3:=ok_pbefore l o at_ (by omega) v3 hR.s
 have d4:=ok_pbefore m o at_ (by omega) (fun c hc=>by have:=hmv c hc;omega) hms
 have d5:=ok_pbefore x o at_ (by omega) (fun c hc=>by have:=hxv c hc;omega) hxs
 have d6:=ok_pbefore m k (b+1) (by omega) (fun c hc=>by have:=hmv c hc;omega) hms
 have d7:=ok_pbefore x k (b+1) (by omega) (fun c hc=>by have:=hxv c hc;omega) hxs
 unfold before at d3 d4 d5 d6 d7
 rw[hxa,hma]at d5
 rw[hma]at d4
 rw[hmk]at d6
 rw[hxk]at d7
 generalize beforeGo o at_ ⟨-1,true,false,0⟩ l=a at d3 d4 d5
 have hsp:¬ o=k∨(o=k∧¬ b < at_):=by
  by_cases e:o=k
  ·
   exact .inr ⟨e,fun h=>h8 ⟨e,h⟩⟩
  ·
   exact .inl e
 rcases hsp with g1|⟨g1,g2⟩
 all_goals
  repeat(first|refine wa ?_|((with_reducible apply s5);(first|(focus ((with_reducible apply(a_call c2));exact rfl;(repeat(first|exact SubsE.nil|(apply SubsE.cons;exact rfl;(first|exact .d (.refl _)|exact .d (.nil _)|exact .agg rfl (.refl _)|exact .pd|exact .ptr rfl);(first|exact trivial|exact⟨rfl,trivial⟩))));done))|(focus ((with_reducible apply(a_call c3));exact rfl;(repeat(first|exact SubsE.nil|(apply SubsE.cons;exact rfl;(first|exact .d (.refl _)|exact .d (.nil _)|exact .agg rfl (.refl _)|exact .pd|exact .ptr rfl);(first|exact trivial|exact⟨rfl,trivial⟩))));done))|exact by_oa|exact by_ca);exact by_g)|refine wb ?_)
  refine CW.loop (fun i=>[sd 0 (encChains l),sd 1 (dstr k),sd 2 (dint b),sd 3 (dint n),sd 4 (dstr o),sd 5 (dint at_),sd 59 (encChains l),sd 60 (dint l.length),sd 61 (dint i),nxt 0]) l.length ?_ fun i hi=>?_
  ·
   exact by_less
  ·
   rcases drop_case hi with ⟨e1,e2⟩|⟨c,e1,e2,e3⟩
   ·
    subst e2
    repeat(first|refine wa ?_|((with_reducible apply s5);(first|(focus ((with_reducible apply(a_call d3));exact rfl;(repeat(first|exact SubsE.nil|(apply SubsE.cons;exact rfl;(first|exact .d (.refl _)|exact .d (.nil _)|exact .agg rfl (.refl _)|exact .pd|exact .ptr rfl);(first|exact trivial|exact⟨rfl,trivial⟩))));done))|(focus ((with_reducible apply(a_call d4));exact rfl;(repeat(first|exact SubsE.nil|(apply SubsE.cons;exact rfl;(first|exact .d (.refl _)|exact .d (.nil _)|exact .agg rfl (.refl _)|exact .pd|exact .ptr rfl);(first|exact trivial|exact⟨rfl,trivial⟩))));done))|(focus ((with_reducible apply(a_call d5));exact rfl;(repeat(first|exact SubsE.nil|(apply SubsE.cons;exact rfl;(first|exact .d (.refl _)|exact .d (.nil _)|exact .agg rfl (.refl _)|exact .pd|exact .ptr rfl);(first|exact trivial|exact⟨rfl,trivial⟩))));done))|(focus ((with_reducible apply(a_call d6));exact rfl;(repeat(first|exact SubsE.nil|(apply SubsE.cons;exact rfl;(first|exact .d (.refl _)|exact .d (.nil _)|exact .agg rfl (.refl _)|exact .pd|exact .ptr rfl);(first|exact trivial|exact⟨rfl,trivial⟩))));done))|(focus ((with_reducible apply(a_call d7));exact rfl;(repeat(first|exact SubsE.nil|(apply SubsE.cons;exact rfl;(first|exact .d (.refl _)|exact .d (.nil _)|exact .agg rfl (.refl _)|exact .pd|exact .ptr rfl);(first|exact trivial|exact⟨rfl,trivial⟩))));done))|((with_reducible apply a_agg2);exact eql_version a a;(iterate 2 exact rfl);(first|exact .d rfl|exact .a rfl);(first|exact .d rfl|exact .a rfl);exact rfl)|((with_reducible apply a_agg2);exact eql_version ⟨b,true,true,n⟩ ⟨b,true,true,n⟩;(iterate 2 exact rfl);(first|exact .d rfl|exact .a rfl);(first|exact .d rfl|exact .a rfl);exact rfl)|exact by_oa|exact by_ca);exact by_g)|refine wb ?_)
    exact .one (.tmp rfl (.one (.d (dle_eq (by simp)))))
   ·
    by_cases hck:c.key=k
    ·
     have hne:=hR.n c (List.mem_of_getElem? e2)
     have hvc:=hv c (List.mem_of_getElem? e2)
     have hpos:0 < c.vs.length:=List.length_pos_iff.2 hne
     obtain⟨w,hw⟩:∃ w,c.vs[c.vs.length - 1]? = some w:=⟨_,List.getElem?_eq_getElem (by omega)⟩
     have hcast:(((c.vs.map Version.enc).length:Int) - 1)=((c.vs.length - 1:Nat):Int):=by rw[List.length_map];omega
     by_cases hwb:b≤w.by_
     ·
      repeat(first|refine wa ?_|((with_reducible apply s5);(first|((with_reducible apply a_ia);(iterate 5 exact rfl);rw[hcast];apply idx_map;assumption)|exact by_oa|exact by_ca);exact by_g)|refine wb ?_)
      exact .one (.tmp rfl (.one (.d (.refl _))))
     ·
      repeat(first|refine wa ?_|((with_reducible apply s5);(first|((with_reducible apply a_ia);(iterate 5 exact rfl);rw[hcast];apply idx_map;assumption)|exact by_oa|exact by_ca);exact by_g)|refine wb ?_)
      refine q_loop e3 ?_
      exact by_less
    ·
     try refine wk ?_
     refine q_loop e3 ?_
     exact by_less
theorem ok_ChainClear (l:List Chain) (b:Int) (k:Str) (at_:Int) (hl:l.length≤1048576) (hlk:∀ c∈l,c.key.length≤1048576∧c.vs.length≤1048576) (hk:k.length≤1048576) :
  FnOk Try.prog 5 [.d (encChains l),.d (dint b),.d (dstr k),.d (dint at_)] (.one (dbool true)):=by
 refine fnOk_of tbl_ok mixed_ok Try.func5 rfl (by kernel_rfl) rfl rfl fun w0 own0=>?_
 have ca:=ok_chainAlive
 have hv:∀ c∈l,c.vs.length≤1048576:=fun c hc=>(hlk c hc).2
 have c1:=ok_rightChains l (by omega) (fun c hc=>⟨by have:=(hlk c hc).1;omega,by have:=(hlk c hc).2;omega⟩)
 have c2:=ok_key k (by omega)
 cases h1:rightChains l with
 |false =>
  rw[h1]at c1
  try refine wk ?_
  exact .one (.tmp rfl (.one (.d (.refl _))))
 |true =>
 rw[h1]at c1
 cases h2:key k with
 |false =>
  rw[h2]at c2
  try refine wk ?_
  exact .one (.tmp rfl (.one (.d (.refl _))))
 |true =>
 rw[h2]at c2
 by_cases h4:b < 0
 ·
  try refine wk ?_
  exact .one (.tmp rfl (.one (.d (.refl _))))
 by_cases h5:2000000 < b
 ·
  try refine wk ?_
  exact .one (.tmp rfl (.one (.d (.refl _))))
 by_cases h6:at_ < b
 ·
  try refine wk ?_
  exact .one (.tmp rfl (.one (.d (.refl _))))
 by_cases h7:2000000 < at_
 ·
  try refine wk ?_
  exact .one (.tmp rfl (.one (.d (.refl _))))
 have hR:=rightChains_srt h1
 have v3:∀ c∈l,c.vs.length≤268435456:=fun c hc=>by have:=hv c hc;omega
 have d1:=ok_pclear l b (by omega) v3
 rw[pclear_eq hR.v]at d1
 have hml:=clear_len (b:=b) l
 have hmv:=clear_vs (b:=b) hv
 have hms:=clear_srt (b:=b) hR.s
 have hmr:=right_clear (b:=b) h1
 have hsz:=size_clear (b:=b) (l:=l)
 have hmk:∀ c∈clear b l,c.key.length≤1048576:=fun c hc=>by
  obtain⟨c0,h0,rfl⟩:=clear_mem hc
  exact(hlk c0 h0).1
 have hsee:=seen_clear (b:=b) (at_:=at_) (k:=k) (out:=⟨-1,true,false,0⟩) (by omega) hR.s hR.v
 generalize clear b l=m at d1 hml hmv hms hmr hsz hsee hmk
 have d2:=ok_pbefore l k at_ (by omega) v3 hR.s
 have d3:=ok_pbefore m k at_ (by omega) (fun c hc=>by have:=hmv c hc;omega) hms
 unfold before at d2 d3
 generalize beforeGo k at_ ⟨-1,true,false,0⟩ l=x at d2 hsee
 generalize beforeGo k at_ ⟨-1,true,false,0⟩ m=y at d3 hsee
 have d4:=ok_rightChains m (by omega) (fun c hc=>⟨by have:=hmk c hc;omega,by have:=hmv c hc;omega⟩)
 rw[hmr]at d4
 have d5:=ok_chainSize l (by omega) (fun c hc=>by have:=hv c hc;omega)
 have d6:=ok_chainSize m (by omega) (fun c hc=>by have:=hmv c hc;omega)
 rcases hsee with rfl|⟨e1,e2,rfl⟩
 ·
  obtain⟨yb,ym,yh,yn⟩:=y
  cases ym <;> cases yh
  ·
   repeat(first|refine wa ?_|((with_reducible apply s5);(first|(focus ((with_reducible apply(a_call c1));exact rfl;(repeat(first|exact SubsE.nil|(apply SubsE.cons;exact rfl;(first|exact .d (.refl _)|exact .d (.nil _)|exact .agg rfl (.refl _)|exact .pd|exact .ptr rfl);(first|exact trivial|exact⟨rfl,trivial⟩))));done))|(focus ((with_reducible apply(a_call d2));exact rfl;(repeat(first|exact SubsE.nil|(apply SubsE.cons;exact rfl;(first|exact .d (.refl _)|exact .d (.nil _)|exact .agg rfl (.refl _)|exact .pd|exact .ptr rfl);(first|exact trivial|exact⟨rfl,trivial⟩))));done))|(focus ((with_reducible apply(a_call d3));exact rfl;(repeat(first|exact SubsE.nil|(apply SubsE.cons;exact rfl;(first|exact .d (.refl _)|exact .d (.nil _)|exact .agg rfl (.refl _)|exact .pd|exact .ptr rfl);(first|exact trivial|exact⟨rfl,trivial⟩))));done))|(focus ((with_reducible apply(a_call d4));exact rfl;(repeat(first|exact SubsE.nil|(apply SubsE.cons;exact rfl;(first|exact .d (.refl _)|exact .d (.nil _)|exact .agg rfl (.refl _)|exact .pd|exact .ptr rfl);(first|exact trivial|exact⟨rfl,trivial⟩))));done))|(focus ((with_reducible apply(a_call d5));exact rfl;(repeat(first|exact SubsE.nil|(apply SubsE.cons;exact rfl;(first|exact .d (.refl _)|exact .d (.nil _)|exact .agg rfl (.refl _)|exact .pd|exact .ptr rfl);(first|exact trivial|exact⟨rfl,trivial⟩))));done))|(focus ((with_reducible apply(a_call d6));exact rfl;(repeat(first|exact SubsE.nil|(apply SubsE.cons;exact rfl;(first|exact .d (.refl _)|exact .d (.nil _)|exact .agg rfl (.refl _)|exact .pd|exact .ptr rfl);(first|exact trivial|exact⟨rfl,trivial⟩))));done))|((with_reducible apply a_agg2);exact eql_version ⟨yb,false,false,yn⟩ ⟨yb,false,false,yn⟩;(iterate 2 exact rfl);(first|exact .d rfl|exact .a rfl);(first|exact .d rfl|exact .a rfl);exact rfl)|exact by_oa|exact by_ca);exact by_g)|refine wb ?_)
   exact .one (.tmp rfl (.one (.d (dle_eq (by simp[hsz])))))
  ·
   repeat(first|refine wa ?_|((with_reducible apply s5);(first|(focus ((with_reducible apply(a_call c1));exact rfl;(repeat(first|exact SubsE.nil|(apply SubsE.cons;exact rfl;(first|exact .d (.refl _)|exact .d (.nil _)|exact .agg rfl (.refl _)|exact .pd|exact .ptr rfl);(first|exact trivial|exact⟨rfl,trivial⟩))));done))|(focus ((with_reducible apply(a_call d2));exact rfl;(repeat(first|exact SubsE.nil|(apply SubsE.cons;exact rfl;(first|exact .d (.refl _)|exact .d (.nil _)|exact .agg rfl (.refl _)|exact .pd|exact .ptr rfl);(first|exact trivial|exact⟨rfl,trivial⟩))));done))|(focus ((with_reducible apply(a_call d3));exact rfl;(repeat(first|exact SubsE.nil|(apply SubsE.cons;exact rfl;(first|exact .d (.refl _)|exact .d (.nil _)|exact .agg rfl (.refl _)|exact .pd|exact .ptr rfl);(first|exact trivial|exact⟨rfl,trivial⟩))));done))|(focus ((with_reducible apply(a_call d4));exact rfl;(repeat(first|exact SubsE.nil|(apply SubsE.cons;exact rfl;(first|exact .d (.refl _)|exact .d (.nil _)|exact .agg rfl (.refl _)|exact .pd|exact .ptr rfl);(first|exact trivial|exact⟨rfl,trivial⟩))));done))|(focus ((with_reducible apply(a_call d5));exact rfl;(repeat(first|exact SubsE.nil|(apply SubsE.cons;exact rfl;(first|exact .d (.refl _)|exact .d (.nil _)|exact .agg rfl (.refl _)|exact .pd|exact .ptr rfl);(first|exact trivial|exact⟨rfl,trivial⟩))));done))|(focus ((with_reducible apply(a_call d6));exact rfl;(repeat(first|exact SubsE.nil|(apply SubsE.cons;exact rfl;(first|exact .d (.refl _)|exact .d (.nil _)|exact .agg rfl (.refl _)|exact .pd|exact .ptr rfl);(first|exact trivial|exact⟨rfl,trivial⟩))));done))|((with_reducible apply a_agg2);exact eql_version ⟨yb,false,true,yn⟩ ⟨yb,false,true,yn⟩;(iterate 2 exact rfl);(first|exact .d rfl|exact .a rfl);(first|exact .d rfl|exact .a rfl);exact rfl)|exact by_oa|exact by_ca);exact by_g)|refine wb ?_)
   exact .one (.tmp rfl (.one (.d (dle_eq (by simp[hsz])))))
  ·
   repeat(first|refine wa ?_|((with_reducible apply s5);(first|(focus ((with_reducible apply(a_call c1));exact rfl;(repeat(first|exact SubsE.nil|(apply SubsE.cons;exact rfl;(first|exact .d (.refl _)|exact .d (.nil _)|exact .agg rfl (.refl _)|exact .pd|exact .ptr rfl);(first|exact trivial|exact⟨rfl,trivial⟩))));done))|(focus ((with_reducible apply(a_call d2));exact rfl;(repeat(first|exact SubsE.nil|(apply SubsE.cons;exact rfl;(first|exact .d (.refl _)|exact .d (.nil _)|exact .agg rfl (.refl _)|exact .pd|exact .ptr rfl);(first|exact trivial|exact⟨rfl,trivial⟩))));done))|(focus ((with_reducible apply(a_call d3));exact rfl;(repeat(first|exact SubsE.nil|(apply SubsE.cons;exact rfl;(first|exact .d (.refl _)|exact .d (.nil _)|exact .agg rfl (.refl _)|exact .pd|exact .ptr rfl);(first|exact trivial|exact⟨rfl,trivial⟩))));done))|(focus ((with_reducible apply(a_call d4));exact rfl;(repeat(first|exact SubsE.nil|(apply SubsE.cons;exact rfl;(first|exact .d (.refl _)|exact .d (.nil _)|exact .agg rfl (.refl _)|exact .pd|exact .ptr rfl);(first|exact trivial|exact⟨rfl,trivial⟩))));done))|exact by_oa|exact by_ca);exact by_g)|refine wb ?_)
   exact .one (.tmp rfl (.one (.d (.refl _))))
  ·
   repeat(first|refine wa ?_|((with_reducible apply s5);(first|(focus ((with_reducible apply(a_call c1));exact rfl;(repeat(first|exact SubsE.nil|(apply SubsE.cons;exact rfl;(first|exact .d (.refl _)|exact .d (.nil _)|exact .agg rfl (.refl _)|exact .pd|exact .ptr rfl);(first|exact trivial|exact⟨rfl,trivial⟩))));done))|(focus ((with_reducible apply(a_call d2));exact rfl;(repeat(first|exact SubsE.nil|(apply SubsE.cons;exact rfl;(first|exact .d (.refl _)|exact .d (.nil _)|exact .agg rfl (.refl _)|exact .pd|exact .ptr rfl);(first|exact trivial|exact⟨rfl,trivial⟩))));done))|(focus ((with_reducible apply(a_call d3));exact rfl;(repeat(first|exact SubsE.nil|(apply SubsE.cons;exact rfl;(first|exact .d (.refl _)|exact .d (.nil _)|exact .agg rfl (.refl _)|exact .pd|exact .ptr rfl);(first|exact trivial|exact⟨rfl,trivial⟩))));done))|(focus ((with_reducible apply(a_call d4));exact rfl;(repeat(first|exact SubsE.nil|(apply SubsE.cons;exact rfl;(first|exact .d (.refl _)|exact .d (.nil _)|exact .agg rfl (.refl _)|exact .pd|exact .ptr rfl);(first|exact trivial|exact⟨rfl,trivial⟩))));done))|(focus ((with_reducible apply(a_call d5));exact rfl;(repeat(first|exact SubsE.nil|(apply SubsE.cons;exact rfl;(first|exact .d (.refl _)|exact .d (.nil _)|exact .agg rfl (.refl _)|exact .pd|exact .ptr rfl);(first|exact trivial|exact⟨rfl,trivial⟩))));done))|(focus ((with_reducible apply(a_call d6));exact rfl;(repeat(first|exact SubsE.nil|(apply SubsE.cons;exact rfl;(first|exact .d (.refl _)|exact .d (.nil _)|exact .agg rfl (.refl _)|exact .pd|exact .ptr rfl);(first|exact trivial|exact⟨rfl,trivial⟩))));done))|((with_reducible apply a_agg2);exact eql_version ⟨yb,true,true,yn⟩ ⟨yb,true,true,yn⟩;(iterate 2 exact rfl);(first|exact .d rfl|exact .a rfl);(first|exact .d rfl|exact .a rfl);exact rfl)|exact by_oa|exact by_ca);exact by_g)|refine wb ?_)
   exact .one (.tmp rfl (.one (.d (dle_eq (by simp[hsz])))))
 ·
  obtain⟨xb,xm,xh,xn⟩:=x
  dsimp only at e1 e2
  subst e1 e2
  repeat(first|refine wa ?_|((with_reducible apply s5);(first|(focus ((with_reducible apply(a_call c1));exact rfl;(repeat(first|exact SubsE.nil|(apply SubsE.cons;exact rfl;(first|exact .d (.refl _)|exact .d (.nil _)|exact .agg rfl (.refl _)|exact .pd|exact .ptr rfl);(first|exact trivial|exact⟨rfl,trivial⟩))));done))|(focus ((with_reducible apply(a_call d2));exact rfl;(repeat(first|exact SubsE.nil|(apply SubsE.cons;exact rfl;(first|exact .d (.refl _)|exact .d (.nil _)|exact .agg rfl (.refl _)|exact .pd|exact .ptr rfl);(first|exact trivial|exact⟨rfl,trivial⟩))));done))|(focus ((with_reducible apply(a_call d3));exact rfl;(repeat(first|exact SubsE.nil|(apply SubsE.cons;exact rfl;(first|exact .d (.refl _)|exact .d (.nil _)|exact .agg rfl (.refl _)|exact .pd|exact .ptr rfl);(first|exact trivial|exact⟨rfl,trivial⟩))));done))|(focus ((with_reducible apply(a_call d4));exact rfl;(repeat(first|exact SubsE.nil|(apply SubsE.cons;exact rfl;(first|exact .d (.refl _)|exact .d (.nil _)|exact .agg rfl (.refl _)|exact .pd|exact .ptr rfl);(first|exact trivial|exact⟨rfl,trivial⟩))));done))|exact by_oa|exact by_ca);exact by_g)|refine wb ?_)
  exact .one (.tmp rfl (.one (.d (.refl _))))
end Go.Proofs.Ytfpkamiobdkcpaa
namespace Go.AX
open Go.RowKit
variable {cx:Cx}{g:Nat→Value}{σ σ':St}{a:Act}{w w':World}{nx:Nat}
variable {ty:TypeId}{pos:String}{af:Array Edge}{gd:Option (Nat×Bool)}{d:Nat}
def refP (ds:List D) (w:World) (own:Nat→Prop) (v:Value):Prop:=∃ ad:Addr,v = .pointer (some ad)∧¬ own ad.block∧ad.block < w.heap.size∧RdCells w own ad ds
def refD (ds:List D):D := .x (refP ds)
def mapP (M:List (List UInt8×Value)) (w:World) (own:Nat→Prop) (v:Value):Prop:=∃ b es clock,v = .map (some b)∧¬ own b∧b < w.heap.size∧w.heap[b]? = some (.map es clock)∧MapIs es M
def mapD (M:List (List UInt8×Value)):D := .x (mapP M)
def fnP (f:FuncId) (ds:List D) (w:World) (own:Nat→Prop) (v:Value):Prop:=∃ cs:Array Value,v = .func (.func f) #[] cs∧cs.size=ds.length∧∀ (j:Nat) (x:D) (c:Value),ds[j]? = some x→cs[j]? = some c→Rd w own c x
def fnD (f:FuncId) (ds:List D):D := .x (fnP f ds)
theorem ref_stable (ds:List D):Stable (refP ds):=by
 rintro own own' w w' v hx ho ⟨ad,rfl,h1,h2,h3⟩
 refine⟨ad,rfl,fun h=>?_,Nat.lt_of_lt_of_le h2 hx.size,h3.step hx ho fun j=>hx.cell (by rw[add_block];exact h2) (by rw[add_block];exact h1)⟩
 rcases ho _ h with h|h
 ·
  exact h1 h
 ·
  omega
theorem map_stable (M:List (List UInt8×Value)):Stable (mapP M):=by
 rintro own own' w w' v hx ho ⟨b,es,clock,rfl,h1,h2,h3,h4⟩
 refine⟨b,es,clock,rfl,fun h=>?_,Nat.lt_of_lt_of_le h2 hx.size,(hx.block b h2 h1).trans h3,h4⟩
 rcases ho _ h with h|h
 ·
  exact h1 h
 ·
  omega
theorem fn_stable (f:FuncId) (ds:List D):Stable (fnP f ds):=by
 rintro own own' w w' v hx ho ⟨cs,rfl,h1,h2⟩
 exact⟨cs,rfl,h1,fun j x c hj hc=>(h2 j x c hj hc).step hx ho⟩
theorem rd_x {own:Nat→Prop}{v:Value}{p:World→(Nat→Prop)→Value→Prop}(h:Rd w own v (.x p)):p w own v:=by
 generalize hD:D.x p=D0 at h
 cases h with
 |v=>cases hD
 |sl=>cases hD
 |agg=>cases hD
 |nil=>cases hD
 |x p v h1 hst hp=>cases hD;exact hp
theorem rd_ref {own:Nat→Prop}{v:Value}{ds:List D}(h:refP ds w own v):Rd w own v (refD ds):=by
 obtain⟨ad,rfl,_⟩:=id h
 exact .x _ _ rfl (ref_stable ds) h
theorem rd_map {own:Nat→Prop}{v:Value}{M:List (List UInt8×Value)}(h:mapP M w own v):Rd w own v (mapD M):=by
 obtain⟨b,es,clock,rfl,_⟩:=id h
 exact .x _ _ rfl (map_stable M) h
theorem rd_fn {own:Nat→Prop}{v:Value}{f:FuncId}{ds:List D}(h:fnP f ds w own v):Rd w own v (fnD f ds):=by
 obtain⟨cs,rfl,_⟩:=id h
 exact .x _ _ rfl (fn_stable f ds) h
theorem stut_refpd {i:Nat}{ds:List D}:Stut cx ⟨[(.s i,.av (.d (refD ds)))],[(.s i,.av (.pd ds))]⟩:=by
 rintro σ a w ⟨g,nx,hG⟩ hr
 obtain⟨ad,h1,h2,h3,h4⟩:=rd_x (hG.slots i _ hr.1).1
 exact Sim.retell hG (av := .pd ds) ⟨ad,h1,.inr h2,h3,h4⟩ trivial
theorem own_drop (hs:SimG cx σ a w g nx) {id:Nat}{o:Ob}(ho:get σ (.o id) = .ob o) {b:Nat}(hb:cx.own g ((.o id,.none)::σ) b):cx.own g σ b∧blk (g id)≠some b:=by
 rcases hb with h|⟨j,o1,h1,h2⟩
 ·
  refine⟨.inl h,fun hb=>?_⟩
  have h3:=obj_ge hs ho hb
  have h4:=hs.own0.1 b h
  omega
 ·
  by_cases hj:id=j
  ·
   subst hj;rw[get_cons_same]at h1;cases h1
  ·
   rw[get_cons_ne (by simpa using hj)]at h1
   exact⟨.inr ⟨j,o1,h1,h2⟩,fun hb=>hj (hs.sep id j _ o1 b ho h1 hb h2)⟩
theorem stut_freezebox {i id:Nat}{cells:List AV}{ds:List D}(hc:cells=ds.map AV.d):Stut cx ⟨[(.s i,.av (.ptr id 0)),(.o id,.ob (.box cells))],[(.s i,.av (.d (refD ds))),(.o id,.none)]⟩:=by
 subst hc
 rintro σ a w hs hr
 have hs0:=hs
 obtain⟨g,nx,hG⟩:=hs0
 have ho:get σ (.o id) = .ob (.box (ds.map AV.d)):=hr.2.1
 obtain⟨b0,hg0,hv⟩:=(hG.slots i _ hr.1).1.2 _ ho
 obtain⟨_,⟨b,cs,t,h0,h1,h2,h3,h4,h5⟩,_⟩:=hG.objs id _ ho
 obtain rfl:b0=b:=by rw[hg0]at h0;simpa using h0
 have hl:=Less.drop hs id
 have hlat:Later cx g g σ ((.o id,.none)::σ) w w nx:=by
  refine⟨Ext.refl _ _,Below.refl _ _,fun b hb => .inl (own_drop hG ho hb).1,fun j o' _ h=>⟨o',hl.o _ _ h,?_⟩⟩
  cases o' <;> simp[ObLe]
 have hG2:SimG cx ((.o id,.none)::σ) a w g nx :=
  hG.next hlat ((get_cons_ne (by simp)).trans hG.hnx) (Nat.le_refl _) hG.size hG.defers (Below.refl _ _) (fun j av hj => .inl ⟨hl.s _ _ hj,rfl⟩) (fun j o hj => .inl ⟨hl.o _ _ hj,rfl,fun _ _=>rfl⟩)
   (fun j j' o o' b h1 h2=>hG.sep j j' o o' b (hl.o _ _ h1) (hl.o _ _ h2))
 have hlt:b0 < w.heap.size:=by
  rcases Nat.lt_or_ge b0 w.heap.size with h|h
  ·
   exact h
  ·
   rw[Array.getElem?_eq_none h]at h2;cases h2
 refine Sim.retell hG2 (av := .d (refD ds)) (rd_ref ⟨_,hv,fun h=>(own_drop hG ho h).2 (by rw[hg0];rfl),hlt,fun j z hz=>?_⟩) trivial
 have hjl:j < cs.size:=by rw[h3];simpa using(List.getElem?_eq_some_iff.1 hz).1
 have hcs:cs[j]? = some cs[j]:=Array.getElem?_eq_getElem hjl
 refine⟨cs[j],by rw[add_lit];simp[World.cell?,h2,hcs],h4 _ _ hcs,?_⟩
 exact Rd.less (fun b hb=>(own_drop hG ho hb).1) (h5 j _ (.d z) (by rw[List.getElem?_map,hz];rfl) hcs)
theorem argsOk_get {own:Nat→Prop}:∀ {vs:List Value}{ds:List D},ArgsOk w own vs (ds.map Arg.d)→vs.length=ds.length∧∀ (j:Nat) (x:D) (c:Value),ds[j]? = some x→vs[j]? = some c→Rd w own c x
 | [],[],_=>⟨rfl,by simp⟩
 |v::vs,y::ds,h=>by
  obtain⟨h1,h2⟩:=argsOk_get h.2
  refine⟨by simp[h1],fun j x c hj hc=>?_⟩
  cases j with
  |zero=>simp at hj hc;subst hj;subst hc;exact h.1
  |succ j=>exact h2 j x c (by simpa using hj) (by simpa using hc)
 | [],y::ds,h=>h.elim
 |v::vs,[],h=>h.elim
theorem argsOk_append {own:Nat→Prop}:∀ {vs us:List Value}{xs ys:List Arg},ArgsOk w own vs xs→ArgsOk w own us ys→ArgsOk w own (vs++us) (xs++ys)
 | [],us,[],ys,_,h=>h
 |v::vs,us,x::xs,ys,h,h'=>⟨h.1,argsOk_append h.2 h'⟩
 | [],us,x::xs,ys,h,_=>h.elim
 |v::vs,us,[],ys,h,_=>h.elim
theorem a_mkfn {f:FuncId}{xs:List Operand}{avs:List AV}{ds:List D}{l:List (Key×Val)}(hd:Nat.blt d cx.n=true) (hsub:SubsE σ xs avs (ds.map Arg.d) l) :
  OA cx σ ⟨some d,.makeFunc (.func f) #[] ⟨xs⟩,ty,pos,af,gd⟩ ⟨l,[(.s d,.av (.d (fnD f ds)))]⟩:=by
 refine⟨ok_val rfl (lt_of_blt hd) fun σ1 a w g nx hs hr=>⟨.func (.func f) #[] (xs.map a.eval).toArray,w,?_,Below.refl _ _,?_,trivial⟩,hsub.out.2⟩
 ·
  simp[execOp,Instr.makeFunc]
 ·
  obtain⟨h1,h2⟩:=argsOk_get (hsub.out.1.ok hs hr)
  exact rd_fn ⟨_,rfl,by simpa using h1,fun j x c hj hc=>h2 j x c hj (by simpa using hc)⟩
inductive Caps:List D→List Arg→Prop
 |nil:Caps [] []
 |ref {cs ds:List D} {zs:List Arg} (h:Caps ds zs):Caps (refD cs::ds) (.pd cs::zs)
 |d {x:D} {ds:List D} {zs:List Arg} (h:Caps ds zs):Caps (x::ds) (.d x::zs)
theorem Caps.ok {own:Nat→Prop}{ds:List D}{zs:List Arg}(h:Caps ds zs):∀ {vs:List Value},vs.length=ds.length→(∀ (j:Nat) (x:D) (c:Value),ds[j]? = some x→vs[j]? = some c→Rd w own c x)→ArgsOk w own vs zs:=by
 induction h with
 |nil =>
  intro vs hl _
  obtain rfl:vs=[]:=List.eq_nil_of_length_eq_zero hl
  trivial
 |@ref cs ds zs h ih =>
  intro vs hl hr
  cases vs with
  |nil=>simp at hl
  |cons v vs =>
   obtain⟨ad,h1,_,h2,h3⟩:=rd_x (hr 0 _ v rfl rfl)
   exact⟨⟨ad,h1,h2,h3⟩,ih (by simpa using hl) fun j x c hj hc=>hr (j+1) x c (by simpa using hj) (by simpa using hc)⟩
 |@d x ds zs h ih =>
  intro vs hl hr
  cases vs with
  |nil=>simp at hl
  |cons v vs=>exact⟨hr 0 _ v rfl rfl,ih (by simpa using hl) fun j x c hj hc=>hr (j+1) x c (by simpa using hj) (by simpa using hc)⟩
theorem callfn_run {P:Program}{f:FuncId}{ys:List Arg}{r:Res}(hc:FnOk P f ys r) {ev:Operand→Value}{z:Operand}{xs:List Operand}{ats:Array TypeId}{dd:Option Nat}{cs:Array Value}(hv:ev z = .func (.func f) #[] cs) :
  (execOp ev ⟨dd,.call { callee := .value z,args:=⟨xs⟩,argTypes:=ats },ty,pos,af,gd⟩).run P w = .ok (.enter f (xs.map ev++cs.toList).toArray) w:=by
 obtain⟨fn,h1,h2,h3⟩:=hc.run
 simp only[execOp,resolve,Deferred.ofValue,hv,invoke,callFunc,Sem.run_bind,Sem.run_pure,Result.andThen_ok,run_program,h1,h2,h3,Bool.false_eq_true,if_false]
 simp
theorem a_callfn {f:FuncId}{z:Operand}{xs:List Operand}{avs:List AV}{ys zs:List Arg}{l:List (Key×Val)}{r:Res}{ats:Array TypeId}{ds:List D}(hc:FnOk cx.P f (ys++zs) r) (hcap:Caps ds zs)
  (hz:ev σ z=some (.d (fnD f ds))) (hd:Nat.blt d cx.n=true) (hsub:SubsE σ xs avs ys l) :
  OA cx σ ⟨some d,.call { callee := .value z,args:=⟨xs⟩,argTypes:=ats },ty,pos,af,gd⟩ ⟨rdOf z (.d (fnD f ds))++l,[(.s d,.av r.av)]⟩:=by
 refine⟨?_,(ev_out hz).2.append hsub.out.2⟩
 rintro σ1 a w K Q ⟨g,nx,hs⟩ hr hK
 obtain⟨cs,hv,h1,h2⟩:=rd_x (hs.ev (ev_out hz).1 hr.left).1
 have hcall:=hc.calls w (cx.own g σ1) (xs.map a.eval++cs.toList) ⟨fun b hb=>own_lt hs hb,hs.gl⟩ (argsOk_append (hsub.out.1.ok hs hr.right) (hcap.ok (by simpa using h1) fun j x c hj hc=>h2 j x c hj (by simpa using hc)))
 unfold Oper.wp
 rw[callfn_run hc hv]
 refine hcall.mono fun e w' he=>?_
 obtain⟨v,rfl,hb,hres⟩:=he
 obtain⟨h1,h2⟩:=Res.rep (nx:=nx) hres
 exact hK _ _ (Sim.put hs (lt_of_blt hd) hb h1 h2)
inductive CapsM (x0:Value) (M:List (List UInt8×Value)):List D→List Arg→Prop
 |nil:CapsM x0 M [] []
 |map {ds:List D} {zs:List Arg} (h:CapsM x0 M ds zs):CapsM x0 M (refD [.v x0]::ds) (.pd [mapD M]::zs)
 |ref {cs ds:List D} {zs:List Arg} (h:CapsM x0 M ds zs):CapsM x0 M (refD cs::ds) (.pd cs::zs)
theorem CapsM.ok {own own':Nat→Prop}{x0:Value}{M:List (List UInt8×Value)}(ho:∀ b,own' b→own b) (hm:Rd w own' x0 (mapD M)) {ds:List D}{zs:List Arg}(h:CapsM x0 M ds zs) :
  ∀ {vs:List Value},vs.length=ds.length→(∀ (j:Nat) (x:D) (c:Value),ds[j]? = some x→vs[j]? = some c→Rd w own c x)→ArgsOk w own' vs zs:=by
 induction h with
 |nil =>
  intro vs hl _
  obtain rfl:vs=[]:=List.eq_nil_of_length_eq_zero hl
  trivial
 |@map ds zs h ih =>
  intro vs hl hr
  cases vs with
  |nil=>simp at hl
  |cons v vs =>
   obtain⟨ad,h1,_,h2,h3⟩:=rd_x (hr 0 _ v rfl rfl)
   refine⟨⟨ad,h1,h2,fun j z hz=>?_⟩,ih (by simpa using hl) fun j x c hj hc=>hr (j+1) x c (by simpa using hj) (by simpa using hc)⟩
   cases j with
   |zero =>
    simp at hz;subst hz
    obtain⟨u,h4,h5,h6⟩:=h3 0 _ rfl
    rw[rd_v h6]at h4 h5
    exact⟨x0,h4,h5,hm⟩
   |succ j=>simp at hz
 |@ref cs ds zs h ih =>
  intro vs hl hr
  cases vs with
  |nil=>simp at hl
  |cons v vs =>
   obtain⟨ad,h1,_,h2,h3⟩:=rd_x (hr 0 _ v rfl rfl)
   exact⟨⟨ad,h1,h2,fun j z hz=>by obtain⟨u,h4,h5,h6⟩:=h3 j z hz;exact⟨u,h4,h5,h6.less ho⟩⟩,ih (by simpa using hl) fun j x c hj hc=>hr (j+1) x c (by simpa using hj) (by simpa using hc)⟩
theorem a_callfnM {f:FuncId}{z:Operand}{xs:List Operand}{avs:List AV}{ys zs:List Arg}{l:List (Key×Val)}{r:Res}{ats:Array TypeId}{ds:List D}{id:Nat}{x0:Value}{M:List (List UInt8×Value)}
  (hc:FnOk cx.P f (ys++zs) r) (hcap:CapsM x0 M ds zs) (hp:plainR r=true) (ho:get σ (.o id) = .ob (.mp M x0)) (hz:ev σ z=some (.d (fnD f ds))) (hd:Nat.blt d cx.n=true) (hsub:SubsE σ xs avs ys l) :
  OA cx σ ⟨some d,.call { callee := .value z,args:=⟨xs⟩,argTypes:=ats },ty,pos,af,gd⟩ ⟨rdOf z (.d (fnD f ds))++(l++[(.o id,.ob (.mp M x0))]),[(.s d,.av r.av)]⟩:=by
 refine⟨?_,(ev_out hz).2.append (hsub.out.2.append ⟨ho,trivial⟩)⟩
 rintro σ1 a w K Q ⟨g,nx,hs⟩ hr hK
 have ho1:get σ1 (.o id) = .ob (.mp M x0):=hr.right.right.1
 obtain⟨cs,hv,h1,h2⟩:=rd_x (hs.ev (ev_out hz).1 hr.left).1
 obtain⟨_,⟨hgx,b,es,clock,hx0,hge,hh,hmi⟩,_⟩:=hs.objs id _ ho1
 have hblt:b < w.heap.size:=by
  rcases Nat.lt_or_ge b w.heap.size with h|h
  ·
   exact h
  ·
   rw[Array.getElem?_eq_none h]at hh;cases hh
 have hm:Rd w (fun c=>cx.own g σ1 c∧blk x0≠some c) x0 (mapD M):=rd_map ⟨b,es,clock,hx0,fun h=>h.2 (by rw[hx0];rfl),hblt,hh,hmi⟩
 have hcall:=hc.calls w (fun c=>cx.own g σ1 c∧blk x0≠some c) (xs.map a.eval++cs.toList) ⟨fun b hb=>own_lt hs hb.1,hs.gl⟩
  (argsOk_append ((hsub.out.1.ok hs hr.right.left).less fun b hb=>hb.1) (hcap.ok (fun b hb=>hb.1) hm (by simpa using h1) fun j x c hj hc=>h2 j x c hj (by simpa using hc)))
 unfold Oper.wp
 rw[callfn_run hc hv]
 refine hcall.mono fun e w' he=>?_
 obtain⟨v,rfl,hb,hres⟩:=he
 obtain⟨h1,h2⟩:=Res.rep (nx:=nx) (plainR_ok hp (own':=cx.own g σ1) hres)
 exact hK _ _ (Sim.put hs (lt_of_blt hd) hb h1 h2)
def mget (M:List (List UInt8×Value)) (k:List UInt8):Option Value:=match M with
 | []=>none
 |(s,v)::r=>if s=k then some v else mget r k
def mset (M:List (List UInt8×Value)) (k:List UInt8) (v:Value):List (List UInt8×Value):=match M with
 | []=>[(k,v)]
 |(s,u)::r=>if s=k then (s,v)::r else (s,u)::mset r k v
def mfind (k:List UInt8):List (List UInt8×Value)→Nat→Option (Nat×Value)
 | [],_=>none
 |(s,v)::r,i=>if s=k then some (i,v) else mfind k r (i+1)
theorem findNow_eq (k:List UInt8):∀ {es:List MapEntry}{M:List (List UInt8×Value)}(i:Nat),es.map (fun e=>(e.key,e.val))=M.map (fun p=>(Value.string ⟨p.1.toArray⟩,p.2)) →
  Instr.findNow .string (.string ⟨k.toArray⟩) es i=some ((mfind k M i).map fun p=>(p.1,p.2))
 | [],[],i,_=>rfl
 | [],p::M,i,h=>by simp at h
 |e::es,[],i,h=>by simp at h
 |e::es,(s,v)::M,i,h=>by
  simp only[List.map_cons,List.cons.injEq,Prod.mk.injEq]at h
  obtain⟨⟨h1,h2⟩,h3⟩:=h
  obtain⟨r,hr,hiff⟩:=MapKept.sameNow_of_keys (d := .string) (a := .string ⟨k.toArray⟩) (b := .string ⟨s.toArray⟩) (by simp[MapKept.IsKey]) (by simp[MapKept.IsKey])
  rw[← h1]at hr
  have hs':r=true↔s=k:=by
   rw[hiff]
   simp only[Value.string.injEq,ByteArray.mk.injEq]
   constructor
   ·
    intro h
    have:=congrArg Array.toList h
    simpa using this.symm
   ·
    rintro rfl;rfl
  simp only[Instr.findNow,hr,mfind]
  by_cases hs:s=k
  ·
   rw[if_pos hs]
   have hrt:=hs'.2 hs
   subst hrt
   simp[h2]
  ·
   rw[if_neg hs]
   have hrf:r=false:=by
    cases r with
    |false=>rfl
    |true=>exact absurd (hs'.1 rfl) hs
   subst hrf
   exact findNow_eq k (i+1) h3
theorem mfind_get (k:List UInt8):∀ (M:List (List UInt8×Value)) (i:Nat),(mfind k M i).map (·.2)=mget M k
 | [],_=>rfl
 |(s,v)::M,i=>by
  simp only[mfind,mget]
  split
  ·
   rfl
  ·
   exact mfind_get k M (i+1)
end Go.AX
namespace Go.AX
open Go.RowKit
variable {cx:Cx}{g:Nat→Value}{σ σ':St}{a:Act}{w w':World}{nx:Nat}
variable {ty:TypeId}{pos:String}{af:Array Edge}{gd:Option (Nat×Bool)}{d:Nat}
def flat:Value→Prop
 |.agg cs=>∀ c∈cs.toList,Value.oneCell' c=true
 |_=>True
def dv:Value→D
 |.agg cs => .agg (cs.toList.map D.v)
 |v => .v v
theorem rd_dv {own:Nat→Prop}{v:Value}(h:flat v):Rd w own v (dv v):=by
 cases v with
 |agg cs =>
  refine .agg _ _ (by simp) (fun j c hc=>h c (List.mem_of_getElem? (by simpa using hc))) fun j x c hx hc=>?_
  rw[List.getElem?_map]at hx
  have hc':cs.toList[j]? = some c:=by simpa using hc
  rw[hc']at hx
  simp at hx;subst hx
  exact Rd.v _
 |_=>exact Rd.v _
structure MapTy (cx:Cx) (t te:TypeId) (zv:Value):Prop where
 u:∃ tk,cx.P.underlying t=some (.map tk te)∧cx.P.underlying tk=some .string
 z:∀ w,(zeroValue te).run cx.P w = .ok zv w
theorem MapTy.st {t te:TypeId}{ti:TI}(hu:∃ tk,cx.P.underlying t=some (.map tk te)∧cx.P.underlying tk=some .string) (he:tget cx.T te=some ti) (h2:ti.zero.length≠1):MapTy cx t te (.agg ti.zero.toArray):=by
 refine⟨hu,fun w=>?_⟩
 obtain⟨i,hi,_,_,z,hz,hc⟩:=(cx.hT te ti he).info
 have hag:z = .agg ti.zero.toArray:=by
  cases z with
  |agg cs =>
   have:cs.toList=ti.zero:=hc
   rw[← this]
  |_=>exact absurd (by rw[← hc];rfl) h2
 subst hag
 simp[zeroValue,typeInfo,hi,hz]
def mlook (zv:Value) (M:List (List UInt8×Value)) (k:List UInt8):Value:=(mget M k).getD zv
theorem run_mlook {t te:TypeId}{zv:Value}(h:MapTy cx t te zv) {b:Nat}{es:Array MapEntry}{clock:Nat}{M:List (List UInt8×Value)}(hb:w.heap[b]? = some (.map es clock)) (hm:MapIs es M) (k:List UInt8) (ok:Bool) :
  (Instr.lookup t (.map (some b)) (.string ⟨k.toArray⟩) ok).run cx.P w = .ok (if ok then .tuple #[mlook zv M k,.bool (mget M k).isSome] else mlook zv M k) w:=by
 obtain⟨tk,h1,h2⟩:=h.u
 have hf:=findNow_eq k 0 hm
 have hg:=mfind_get k M 0
 have hck:(Instr.checkKey es.isEmpty 10000 tk (.string ⟨k.toArray⟩)).run cx.P w = .ok () w:=MapKept.run_checkKey h2 (by simp[MapKept.IsKey]) _ 9999
 have hz:=h.z w
 cases hfd:mfind k M 0 with
 |none =>
  rw[hfd]at hf hg
  simp only[Option.map_none]at hf hg
  cases ok <;> simp[Instr.lookup,run_underlying h1,MapKept.run_getObj_map hb,hck,Instr.findKey,run_underlying h2,hf,hz,mlook,← hg,Result.andThen]
 |some p =>
  rw[hfd]at hf hg
  simp only[Option.map_some]at hf hg
  cases ok <;> simp[Instr.lookup,run_underlying h1,MapKept.run_getObj_map hb,hck,Instr.findKey,run_underlying h2,hf,mlook,← hg,Result.andThen]
theorem tup_rep {v:Value}{r:Bool}(h1:flat v):Rep cx g σ w (.tuple #[v,.bool r]) (.tup [.d (dv v),.d (.v (.bool r))]):=by
 refine⟨_,rfl,rfl,fun j c av hj hc=>?_⟩
 match j,hj,hc with
 |0,hj,hc =>
  simp at hj hc;subst hj;subst hc
  exact rd_dv h1
 |1,hj,hc=>simp at hj hc;subst hj;subst hc;exact Rd.v _
theorem mget_mem {M:List (List UInt8×Value)}{k:List UInt8}{us:Value}(h:mget M k=some us):∃ p∈M,p.2=us:=by
 induction M with
 |nil=>cases h
 |cons q M ih =>
  obtain⟨s,v⟩:=q
  simp only[mget]at h
  split at h
  ·
   cases h;exact⟨_,List.mem_cons_self ..,rfl⟩
  ·
   obtain⟨p,h1,h2⟩:=ih h
   exact⟨p,List.mem_cons_of_mem _ h1,h2⟩
theorem mlook_flat {zv:Value}{M:List (List UInt8×Value)}{k:List UInt8}(hz:flat zv) (hM:∀ p∈M,flat p.2):flat (mlook zv M k):=by
 unfold mlook
 cases hg:mget M k with
 |none=>exact hz
 |some us =>
  obtain⟨p,h1,rfl⟩:=mget_mem hg
  exact hM p h1
theorem tup_bd {x y:D}:(AV.tup [.d x,.d y]).bd nx:=by
 intro av hav
 simp at hav
 rcases hav with rfl|rfl <;> trivial
theorem a_mlook {t te:TypeId}{zv:Value}{x y:Operand}{x0:Value}{k:List UInt8}{M:List (List UInt8×Value)}(id:Nat) (h:MapTy cx t te zv) (hz:flat zv) (hM:∀ p∈M,flat p.2)
  (hx:ev σ x=some (.d (.v x0))) (hy:ev σ y=some (.d (.v (.string ⟨k.toArray⟩)))) (ho:get σ (.o id) = .ob (.mp M x0)) (hd:Nat.blt d cx.n=true) :
  OA cx σ ⟨some d,.lookup t x y true,ty,pos,af,gd⟩ ⟨rdOf x (.d (.v x0))++(rdOf y (.d (.v (.string ⟨k.toArray⟩)))++[(.o id,.ob (.mp M x0))]),[(.s d,.av (.tup [.d (dv (mlook zv M k)),.d (.v (.bool (mget M k).isSome))]))]⟩:=by
 refine⟨ok_val rfl (lt_of_blt hd) fun σ1 a w g nx hs hr=>?_,(ev_out hx).2.append ((ev_out hy).2.append ⟨ho,trivial⟩)⟩
 have hv:=rep_v (hs.ev (ev_out hx).1 hr.left).1
 have hk:=rep_v (hs.ev (ev_out hy).1 hr.right.left).1
 obtain⟨_,⟨hgx,b,es,clock,hx0,hge,hh,hmi⟩,_⟩:=hs.objs id _ hr.right.right.1
 refine⟨_,w,?_,Below.refl _ _,tup_rep (mlook_flat hz hM),tup_bd⟩
 have:=run_mlook (w:=w) h hh hmi k true
 simp[execOp,hv,hk,hx0,this]
theorem a_mlookd {t te:TypeId}{zv:Value}{x y:Operand}{k:List UInt8}{M:List (List UInt8×Value)}(h:MapTy cx t te zv) (hz:flat zv) (hM:∀ p∈M,flat p.2)
  (hx:ev σ x=some (.d (mapD M))) (hy:ev σ y=some (.d (.v (.string ⟨k.toArray⟩)))) (hd:Nat.blt d cx.n=true) :
  OA cx σ ⟨some d,.lookup t x y true,ty,pos,af,gd⟩ ⟨rdOf x (.d (mapD M))++rdOf y (.d (.v (.string ⟨k.toArray⟩))),[(.s d,.av (.tup [.d (dv (mlook zv M k)),.d (.v (.bool (mget M k).isSome))]))]⟩:=by
 refine⟨ok_val rfl (lt_of_blt hd) fun σ1 a w g nx hs hr=>?_,(ev_out hx).2.append (ev_out hy).2⟩
 obtain⟨b,es,clock,hx0,_,_,hh,hmi⟩:=rd_x (hs.ev (ev_out hx).1 hr.left).1
 have hk:=rep_v (hs.ev (ev_out hy).1 hr.right).1
 refine⟨_,w,?_,Below.refl _ _,tup_rep (mlook_flat hz hM),tup_bd⟩
 have:=run_mlook (w:=w) h hh hmi k true
 simp[execOp,hx0,hk,this]
theorem mfind_some {k:List UInt8}{us v:Value}:∀ {M:List (List UInt8×Value)}{j i:Nat},mfind k M j=some (i,v)→∃ n,i=j+n∧M[n]? = some (k,v)∧mset M k us=M.set n (k,us)
 | [],j,i,h=>by cases h
 |(s,u)::M,j,i,h=>by
  simp only[mfind]at h
  by_cases hs:s=k
  ·
   rw[if_pos hs]at h
   cases h
   exact⟨0,rfl,by simp[hs],by simp[mset,hs]⟩
  ·
   rw[if_neg hs]at h
   obtain⟨n,h1,h2,h3⟩:=mfind_some (us:=us) h
   exact⟨n+1,by omega,by simpa using h2,by simp[mset,hs,h3]⟩
theorem mfind_none {k:List UInt8}{us:Value}:∀ {M:List (List UInt8×Value)}{j:Nat},mfind k M j=none→mset M k us=M++[(k,us)]
 | [],j,_=>rfl
 |(s,u)::M,j,h=>by
  simp only[mfind]at h
  by_cases hs:s=k
  ·
   rw[if_pos hs]at h;cases h
  ·
   rw[if_neg hs]at h
   simp[mset,hs,mfind_none h]
theorem run_mset {t te:TypeId}{zv:Value}(h:MapTy cx t te zv) {b:Nat}{es:Array MapEntry}{clock:Nat}{M:List (List UInt8×Value)}(hb:w.heap[b]? = some (.map es clock)) (hm:MapIs es M) (k:List UInt8) (us:Value) :
  ∃ es' clock',(Instr.mapUpdate t (.map (some b)) (.string ⟨k.toArray⟩) us).run cx.P w = .ok () { w with heap:=w.heap.setIfInBounds b (.map es' clock') }∧MapIs es' (mset M k us):=by
 obtain⟨tk,h1,h2⟩:=h.u
 have hf:=findNow_eq k 0 hm
 have hck:(Instr.checkKey false 10000 tk (.string ⟨k.toArray⟩)).run cx.P w = .ok () w:=MapKept.run_checkKey h2 (by simp[MapKept.IsKey]) _ 9999
 have hset:∀ o,(setObj b o).run cx.P w = .ok () { w with heap:=w.heap.setIfInBounds b o }:=fun o=>MapKept.run_setObj_map o hb
 cases hfd:mfind k M 0 with
 |none =>
  rw[hfd]at hf
  simp only[Option.map_none]at hf
  refine⟨es.push ⟨.string ⟨k.toArray⟩,us,clock⟩,clock+1,?_,?_⟩
  ·
   simp[Instr.mapUpdate,run_underlying h1,MapKept.run_getObj_map hb,hck,Instr.findKey,run_underlying h2,hf,hset,Result.andThen]
  ·
   rw[mfind_none hfd]
   unfold MapIs at hm ⊢
   simp[hm]
 |some p =>
  obtain⟨i,v⟩:=p
  rw[hfd]at hf
  simp only[Option.map_some]at hf
  obtain⟨n,hn,h3,h4⟩:=mfind_some (us:=us) hfd
  obtain rfl:i=n:=by omega
  have hes:(es.toList.map fun e=>(e.key,e.val))[i]? = some (Value.string ⟨k.toArray⟩,v):=by
   unfold MapIs at hm
   rw[hm,List.getElem?_map,h3];rfl
  obtain⟨e,he,hek⟩:∃ e,es[i]? = some e∧e.key=Value.string ⟨k.toArray⟩:=by
   rw[List.getElem?_map]at hes
   cases hx:es.toList[i]? with
   |none=>rw[hx]at hes;cases hes
   |some e =>
    rw[hx]at hes
    simp at hes
    exact⟨e,by simpa using hx,hes.1⟩
  refine⟨es.modify i fun e=>{ e with key := .string ⟨k.toArray⟩,val:=us },clock,?_,?_⟩
  ·
   have hst:(Instr.keyThatStays (((es[i]?).map (·.key)).getD (.string ⟨k.toArray⟩)) (.string ⟨k.toArray⟩)).run cx.P w = .ok (.string ⟨k.toArray⟩) w:=by
    rw[he]
    simp only[Option.map_some,Option.getD_some,hek]
    have hbb:((⟨k.toArray⟩:ByteArray)==⟨k.toArray⟩)=true:=(MapKept.bytes_beq _ _).2 rfl
    simp[Instr.keyThatStays,Instr.sameBits,hbb]
   simp[Instr.mapUpdate,run_underlying h1,MapKept.run_getObj_map hb,hck,Instr.findKey,run_underlying h2,hf,hst,hset,Result.andThen]
  ·
   rw[h4]
   unfold MapIs at hm ⊢
   rw[List.map_set,← hm]
   apply List.ext_getElem?
   intro j
   rw[List.getElem?_map,Array.getElem?_toList,Array.getElem?_modify]
   by_cases hj:i=j
   ·
    subst hj
    have hlt:=(Array.getElem?_eq_some_iff.1 he).1
    rw[if_pos rfl,List.getElem?_set_self (by simpa using hlt),he]
    rfl
   ·
    rw[if_neg hj,List.getElem?_set_ne hj,List.getElem?_map,Array.getElem?_toList]
inductive ValV:AV→Value→Prop
 |v {u:Value}:ValV (.d (.v u)) u
 |agg {av:AV} {us:List Value} (h:AggV av us):ValV av (.agg us.toArray)
theorem rep_valv {v u:Value}{av:AV}(h:ValV av u) (hr:Rep cx g σ w v av):v=u:=by
 cases h with
 |v=>exact rep_v hr
 |agg h=>exact rep_aggv h hr
theorem a_mset {t te:TypeId}{zv:Value}{x y z:Operand}{x0:Value}{av:AV}{k:List UInt8}{us:Value}{M:List (List UInt8×Value)}(id:Nat) (h:MapTy cx t te zv)
  (hx:ev σ x=some (.d (.v x0))) (hy:ev σ y=some (.d (.v (.string ⟨k.toArray⟩)))) (hz:ev σ z=some av) (hu:ValV av us) (ho:get σ (.o id) = .ob (.mp M x0)) :
  OA cx σ ⟨none,.mapUpdate t x y z,ty,pos,af,gd⟩ ⟨rdOf x (.d (.v x0))++(rdOf y (.d (.v (.string ⟨k.toArray⟩)))++(rdOf z av++[(.o id,.ob (.mp M x0))])),[(.o id,.ob (.mp (mset M k us) x0))]⟩:=by
 refine⟨?_,(ev_out hx).2.append ((ev_out hy).2.append ((ev_out hz).2.append ⟨ho,trivial⟩))⟩
 rintro σ1 a w K Q ⟨g,nx,hs⟩ hr hK
 have hv:=rep_v (hs.ev (ev_out hx).1 hr.left).1
 have hk:=rep_v (hs.ev (ev_out hy).1 hr.right.left).1
 have hzv:=rep_valv hu (hs.ev (ev_out hz).1 hr.right.right.left).1
 have ho1:get σ1 (.o id) = .ob (.mp M x0):=hr.right.right.right.1
 obtain⟨hid,⟨hgx,b,es,clock,hx0,hge,hh,hmi⟩,_⟩:=hs.objs id _ ho1
 obtain⟨es',clock',hrun,hmi'⟩:=run_mset (w:=w) h hh hmi k us
 have hblt:b < w.heap.size:=by
  rcases Nat.lt_or_ge b w.heap.size with h|h
  ·
   exact h
  ·
   rw[Array.getElem?_eq_none h]at hh;cases hh
 have hgb:blk (g id)=some b:=by rw[hgx,hx0];rfl
 have hoth:∀ c,c≠b→({ w with heap:=w.heap.setIfInBounds b (.map es' clock') }:World).heap[c]? = w.heap[c]? := fun c hc=>by
  show(w.heap.setIfInBounds b _)[c]? = _
  rw[Array.getElem?_setIfInBounds,if_neg (fun e=>hc e.symm)]
 have hst:ObjStep cx σ1 g nx nx w { w with heap:=w.heap.setIfInBounds b (.map es' clock') } id (.mp (mset M k us) x0) (g id):=by
  refine⟨.inr ⟨rfl,_,ho1,trivial⟩,⟨rfl,rfl,rfl,by simp,fun c hc=>hoth c (by have:=hs.below.size;omega)⟩,fun c hc hn=>hoth c fun e=>hn _ ho1 (by rw[hgb,e]),fun c hc => .inl ⟨_,ho1,hc⟩⟩
 have hG:=SimG.obj hs hst (fun _=>⟨by rw[upd_same];exact hgx,b,es',clock',hx0,hge,by show(w.heap.setIfInBounds b _)[b]? = _;rw[Array.getElem?_setIfInBounds,if_pos rfl,if_pos hblt],hmi'⟩) trivial
 unfold Oper.wp
 have hex:(execOp a.eval ⟨none,.mapUpdate t x y z,ty,pos,af,gd⟩).run cx.P w = .ok .skip { w with heap:=w.heap.setIfInBounds b (.map es' clock') }:=by
  simp[execOp,hv,hk,hzv,hx0,hrun]
 rw[hex]
 refine hK _ _ (Sim.eqv ⟨_,_,hG⟩ fun q=>?_)
 cases q with
 |s i=>rw[objSt_s];exact(get_cons_ne (by simp)).symm
 |o i =>
  by_cases hi:i=id
  ·
   subst hi;rw[get_cons_same];exact get_cons_same.symm
  ·
   rw[objSt_o hi];exact(get_cons_ne (by simpa using fun e=>hi e.symm)).symm
 |nx=>rw[objSt_nx];exact hs.hnx.symm.trans (get_cons_ne (by simp)).symm
theorem fam_mkmap {t:TypeId}{n0:Nat}(hn:get σ .nx = .num n0) (hd:Nat.blt d cx.n=true) (a:Act) (w:World) (K:Act→World→Prop) (Q:Exit→Act→World→Prop) (hs:Sim cx σ a w)
  (hK:∀ (x:Value) a' w',Sim cx ([(.s d,.av (.d (.v x))),(.o n0,.ob (.mp [] x)),(.nx,.num (n0+1))]++σ) a' w'→K a' w') :
  (⟨some d,.makeMap t none,ty,pos,af,gd⟩:Oper).wp cx.P a w K Q:=by
 obtain⟨g,nx,hs⟩:=hs
 have hnx:nx=n0:=by
  have h2:=hs.hnx
  rw[hn]at h2
  simpa using h2.symm
 subst hnx
 have hex:(execOp a.eval ⟨some d,.makeMap t none,ty,pos,af,gd⟩).run cx.P w = .ok (.value (.map (some w.heap.size))) (w.alloc (.map #[] 0)):=by
  simp[execOp,Instr.makeMap,newObj]
  rfl
 have hb:Below w.heap.size w (w.alloc (.map #[] 0)):=(Below.refl _ _).alloc (Nat.le_refl _) _
 have hst:ObjStep cx σ g nx (nx+1) w (w.alloc (.map #[] 0)) nx (.mp [] (.map (some w.heap.size))) (.map (some w.heap.size)) :=
  ⟨.inl ⟨rfl,rfl⟩,hb.mono hs.below.size,fun c hc _=>hb.block c hc,fun c hc => .inr (by cases hc;exact Nat.le_refl _)⟩
 have hG:=SimG.obj hs hst (fun _=>⟨upd_same _ _ _,w.heap.size,#[],0,rfl,hs.below.size,heap_alloc_new w _,rfl⟩) trivial
 refine wp_val rfl hex (hK (.map (some w.heap.size)) _ _ ?_)
 refine Sim.eqv (Sim.put hG (lt_of_blt hd) (Below.refl _ _) (av := .d (.v (.map (some w.heap.size)))) (Rd.v _) trivial) fun q=>?_
 cases q with
 |s i =>
  by_cases hi:i=d
  ·
   subst hi;rw[get_cons_same];exact get_cons_same.symm
  ·
   rw[get_cons_ne (by simpa using fun e=>hi e.symm),objSt_s]
   exact((get_cons_ne (by simpa using fun e=>hi e.symm)).trans ((get_cons_ne (by simp)).trans (get_cons_ne (by simp)))).symm
 |o i =>
  rw[get_cons_ne (by simp)]
  by_cases hi:i=nx
  ·
   subst hi;rw[get_cons_same];exact((get_cons_ne (by simp)).trans get_cons_same).symm
  ·
   rw[objSt_o hi]
   exact((get_cons_ne (by simp)).trans ((get_cons_ne (by simpa using fun e=>hi e.symm)).trans (get_cons_ne (by simp)))).symm
 |nx =>
  rw[get_cons_ne (by simp),objSt_nx]
  exact((get_cons_ne (by simp)).trans ((get_cons_ne (by simp)).trans get_cons_same)).symm
theorem map_known {id:Nat}{M:List (List UInt8×Value)}{x:Value}(ho:get σ (.o id) = .ob (.mp M x)) (a:Act) (w:World) (hs:Sim cx σ a w):∃ b,x = .map (some b):=by
 obtain⟨g,nx,hs⟩:=hs
 obtain⟨_,⟨_,b,_,_,h,_⟩,_⟩:=hs.objs id _ ho
 exact⟨b,h⟩
theorem a_nilp {x:Operand}{id off:Nat}{cells:List AV}(hx:ev σ x=some (.ptr id off)) (ho:get σ (.o id) = .ob (.box cells)) (hd:Nat.blt d cx.n=true) :
  OA cx σ ⟨some d,.nilCheck x,ty,pos,af,gd⟩ ⟨rdOf x (.ptr id off)++[(.o id,.ob (.box cells))],[(.s d,.av (.ptr id off))]⟩ :=
 ⟨ok_nilCheck_ptr (lt_of_blt hd) (ev_out hx).1,(ev_out hx).2.append ⟨ho,trivial⟩⟩
end Go.AX
namespace Go.RF
open Go.AX
abbrev Mk:=List (Str×(Bool×Int))
def mG:Mk→Str→Option (Bool×Int)
 | [],_=>none
 |(s,c)::r,k=>if s=k then some c else mG r k
def mS:Mk→Str→Bool×Int→Mk
 | [],k,c=>[(k,c)]
 |(s,u)::r,k,c=>if s=k then (s,c)::r else (s,u)::mS r k c
def chV (c:Bool×Int):List Value:=[.bool c.1,.int .i64 c.2]
def chA (c:Bool×Int):Value := .agg (chV c).toArray
def encM (m:Mk):List (Str×Value):=m.map fun p=>(p.1,chA p.2)
theorem mget_enc (m:Mk) (k:Str):mget (encM m) k=(mG m k).map chA:=by
 induction m with
 |nil=>rfl
 |cons p m ih =>
  obtain⟨s,c⟩:=p
  simp only[encM,List.map_cons,mget,mG]
  by_cases h:s=k
  ·
   rw[if_pos h,if_pos h];rfl
  ·
   rw[if_neg h,if_neg h];exact ih
theorem mset_enc (m:Mk) (k:Str) (c:Bool×Int):mset (encM m) k (chA c)=encM (mS m k c):=by
 induction m with
 |nil=>rfl
 |cons p m ih =>
  obtain⟨s,u⟩:=p
  simp only[encM,List.map_cons,mset,mS]
  by_cases h:s=k
  ·
   rw[if_pos h,if_pos h];rfl
  ·
   rw[if_neg h,if_neg h]
   show(s,chA u)::mset (encM m) k (chA c)=_
   rw[ih];rfl
theorem encM_one (m:Mk):∀ p∈encM m,flat p.2:=by
 intro p hp
 obtain⟨q,_,rfl⟩:=List.mem_map.1 hp
 intro u hu
 simp[chV]at hu
 rcases hu with rfl|rfl <;> rfl
theorem mG_mS (m:Mk) (k k':Str) (c:Bool×Int):mG (mS m k c) k'=if k=k' then some c else mG m k':=by
 induction m with
 |nil=>simp[mS,mG]
 |cons p m ih =>
  obtain⟨s,u⟩:=p
  simp only[mS]
  by_cases hs:s=k
  ·
   rw[if_pos hs]
   simp only[mG]
   by_cases h:k=k'
   ·
    simp[hs,h]
   ·
    rw[if_neg (by rw[hs];exact h),if_neg h,if_neg (by rw[hs];exact h)]
  ·
   rw[if_neg hs]
   simp only[mG,ih]
   by_cases h:s=k'
   ·
    rw[if_pos h,if_neg (fun e=>hs (by rw[h,e])),if_pos h]
   ·
    rw[if_neg h,if_neg h]
def seeM (view:Str→Int×Bool) (m:Mk) (k:Str):Int:=match mG m k with
 |some c=>c.2
 |none=>(view k).1
def runGo (view:Str→Int×Bool):Int→Mk→Done→List Ins→Mk×Done
 |_,m,e,[]=>(m,e)
 |sk,m,e,i::r =>
  if 0 < sk then runGo view (sk - 1) m e r
  else if i.kind=1 then runGo view sk m (rset e i.a.toNat (seeM view m i.key)) r
  else if i.kind=2 then runGo view sk m (rset e i.a.toNat i.n) r
  else if i.kind=3 then runGo view sk m (rset e i.a.toNat (round (rget e i.a.toNat+rget e i.b.toNat))) r
  else if i.kind=4 then runGo view sk m (rset e i.a.toNat (round (rget e i.a.toNat - rget e i.b.toNat))) r
  else if i.kind=5 then runGo view sk m (rset e i.a.toNat (round (rget e i.a.toNat*rget e i.b.toNat))) r
  else if i.kind=6 then runGo view sk (mS m i.key (true,rget e i.a.toNat)) e r
  else if i.kind=7 then runGo view sk (mS m i.key (false,0)) e r
  else if i.kind=8 then runGo view (if rget e i.a.toNat < 1 then i.n else sk) m e r
  else if rget e i.a.toNat < 0 then (m,bustE e) else runGo view sk m e r
theorem runGo_skip (view:Str→Int×Bool) (m:Mk) (e:Done):∀ (n:Nat) (l:List Ins),runGo view n m e l=runGo view 0 m e (l.drop n)
 |0,l=>rfl
 |n+1,[]=>by simp[runGo]
 |n+1,i::l=>by
  simp only[runGo]
  rw[if_pos (by omega),show(((n+1:Nat):Int) - 1)=(n:Int) by omega,runGo_skip view m e n l,List.drop_succ_cons]
def chg (m:Mk):List Str→List (Str×(Bool×Int))
 | []=>[]
 |k::r=>match mG m k with
  |some c=>(k,c)::chg m r
  |none=>chg m r
def runM (view:Str→Int×Bool) (d:Deed):Mk×Done:=runGo view 0 [] done0 d.code
def runC (view:Str→Int×Bool) (d:Deed):List (Str×(Bool×Int)):=if (runM view d).2.failed=true then [] else chg (runM view d).1 d.writes
def chVer (c:Str×(Bool×Int)):Version:=⟨0,true,c.2.1,c.2.2⟩
def runRes (view:Str→Int×Bool) (d:Deed):List D:=[.agg (runM view d).2.enc,encVs ((runC view d).map chVer),encStrs ((runC view d).map (·.1))]
theorem chg_len (m:Mk):∀ l:List Str,(chg m l).length≤l.length
 | []=>by simp[chg]
 |k::r=>by
  have:=chg_len m r
  simp only[chg]
  split <;> simp <;> omega
def mOk (m:Mk):Prop:=∀ k c,mG m k=some c→nOk c.2
theorem mOk_nil:mOk []:=by intro k c h;cases h
theorem mOk_set {m:Mk}(h:mOk m) (k:Str) {c:Bool×Int}(hc:nOk c.2):mOk (mS m k c):=by
 intro k' c' h'
 rw[mG_mS]at h'
 split at h'
 ·
  cases h';exact hc
 ·
  exact h k' c' h'
theorem see_ok {view:Str→Int×Bool}{m:Mk}{k:Str}(hv:nOk (view k).1) (hm:mOk m):nOk (seeM view m k):=by
 unfold seeM
 split
 ·
  next c h=>exact hm k c h
 ·
  exact hv
end Go.RF
namespace Go.Proofs.Ytfpkamiobdkcpaa
open Go.AX Go.RF Go.RowKit
set_option maxRecDepth 100000
set_option maxHeartbeats 4000000
theorem ok_rfind1 (c:Pair) (k:Str):FnOk Try.prog 63 [.d (.agg c.enc),.d (dstr k)] (.one (dint (cmpT c.key k))):=by
 refine fnOk_of tbl_ok mixed_ok Try.func63 rfl (by kernel_rfl) rfl rfl fun w0 own0=>?_
 have hc:=ok_compare c.key k
 try refine wk ?_
 exact .one (.tmp rfl (.one (.d (.refl _))))
abbrev AtR (l:List Pair) (k:Str) (m:Nat):Prop:=AtK Pair.key l k m
abbrev isAtR (l:List Pair) (k:Str) (m:Nat):Bool:=isAtK Pair.key l k m
theorem ok_rbsearch (l:List Pair) (k:Str) (m:Nat) (hl:l.length≤268435456) (hm:AtR l k m) :
  FnOk Try.prog 62 [.d (encRows l),.d (dstr k),.d (.v (.func (.func 63) #[] #[]))] (.tup [dint m,dbool (isAtR l k m)]):=by
 refine fnOk_of tbl_ok mixed_ok Try.func62 rfl (by kernel_rfl) rfl rfl fun w0 own0=>?_
 have hml:=hm.le
 try refine wk ?_
 refine CW.loopT (fun t:Nat×Nat=>[sd 0 (encRows l),sd 1 (dstr k),sd 2 (.v (.func (.func 63) #[] #[])),sd 8 (dint l.length),sd 9 (dint t.1),sd 10 (dint t.2),nxt 0])
  (fun t=>t.1≤m∧m≤t.2∧t.2≤l.length) (fun t=>t.2 - t.1) (0,l.length) ⟨by omega,hm.le,by omega⟩ ?_ ?_
 ·
  exact by_less
 ·
  rintro ⟨i,j⟩ ⟨h1,h2,h3⟩
  dsimp only at h1 h2 h3 ⊢
  by_cases h4:i < j
  ·
   obtain⟨c,hc⟩:∃ c,l[(i+j) / 2]? = some c:=⟨l[(i+j) / 2]'(by omega),List.getElem?_eq_getElem (by omega)⟩
   have hcall:=ok_rfind1 c k
   have hst0:StopR 4:=⟨rfl⟩
   try refine wkS ?_
   clear hst0
   refine Stop.cutk [sd 11 (dint ((i+j) / 2:Nat))] [.s 0,.s 1,.s 2,.s 8,.s 9,.s 10,.nx] ?_ ?_
   ·
    repeat(first|refine wa ?_|((with_reducible apply s5);(first|((with_reducible apply a_bin);(iterate 2 exact rfl);exact bin_half;exact rfl)|exact by_oa|exact by_ca);exact by_g)|refine wb ?_)
    refine q_cut ?_
    exact by_less
   have hcz:=@cmpT_lt c.key k
   by_cases h5:cmpT c.key k < 0
   ·
    have h6:(i+j) / 2 < m:=by
     rcases Nat.lt_or_ge ((i+j) / 2) m with h|h
     ·
      exact h
     ·
      have:=hm.ge _ c hc h
      rw[hcz.1 h5]at this;cases this
    repeat(first|refine wa ?_|((with_reducible apply s5);(first|exact a_callv hcall rfl rfl by_sub|exact by_oa|exact by_ca);exact by_g)|refine wb ?_)
    refine q_loopT ((i+j) / 2+1,j) ⟨by dsimp only;omega,h2,h3⟩ (by dsimp only;omega) ?_
    exact by_less
   ·
    have h6:m≤(i+j) / 2:=by
     rcases Nat.lt_or_ge ((i+j) / 2) m with h|h
     ·
      exact absurd (hcz.2 (hm.lt _ c hc h)) h5
     ·
      exact h
    repeat(first|refine wa ?_|((with_reducible apply s5);(first|exact a_callv hcall rfl rfl by_sub|exact by_oa|exact by_ca);exact by_g)|refine wb ?_)
    refine q_loopT (i,(i+j) / 2) ⟨h1,h6,by dsimp only;omega⟩ (by dsimp only;omega) ?_
    exact by_less
  ·
   obtain rfl:i=m:=by omega
   cases hc:l[i]? with
   |none =>
    have h5:l.length≤i:=by
     rcases Nat.lt_or_ge i l.length with h|h
     ·
      rw[List.getElem?_eq_getElem h]at hc;cases hc
     ·
      exact h
    try refine wk ?_
    exact .two (.tmp rfl (.one (.d (.refl _)))) (.tmp rfl (.one (.d (dle_bool (by simp[isAtK,hc])))))
   |some c =>
    have h5:i < l.length:=(List.getElem?_eq_some_iff.1 hc).1
    have hcall:=ok_rfind1 c k
    repeat(first|refine wa ?_|((with_reducible apply s5);(first|exact a_callv hcall rfl rfl by_sub|exact by_oa|exact by_ca);exact by_g)|refine wb ?_)
    refine .two (.tmp rfl (.one (.d (.refl _)))) (.tmp rfl (.one (.d (dle_bool ?_))))
    rw[show isAtR l k i=decide (c.key=k) by simp[isAtR,isAtK,hc]]
    show decide (cmpT c.key k=0)=decide (c.key=k)
    rw[decide_eq_decide]
    exact cmpT_zero
theorem ok_rfind (l:List Pair) (k:Str) (m:Nat) (hl:l.length≤268435456) (hm:AtR l k m):FnOk Try.prog 55 [.d (encRows l),.d (dstr k)] (.tup [dint m,dbool (isAtR l k m)]):=by
 refine fnOk_of tbl_ok mixed_ok Try.func55 rfl (by kernel_rfl) rfl rfl fun w0 own0=>?_
 have hc:=ok_rbsearch l k m hl hm
 try refine wk ?_
 exact .two (.tmp rfl (.one (.d (.refl _)))) (.tmp rfl (.one (.d (.refl _))))
end Go.Proofs.Ytfpkamiobdkcpaa
