/-
  Part 5 of what the claim leans on: J3 AxRen J4 Cl G7 L1 L6 J6 P24 ShNum ShNum2 AxErr H6 ShTxt AxGen2 H9 H12 J8 J10 H2 H3 H7 H10 H11 J9 J13 G24 P25 J19 AxDec4 AxDec5 J16 AxInl J17 J18 J20 P26 P27.
-/
import Derived.Test.YtccblhpfjlgmbabGreatDoorK4
import Derived.Shelf.Strconv.AtoiAll
import Derived.Shelf.Strconv.Itoa3
import Derived.Test.YtccblhpfjlgmbabGreatDoorProg
import Derived.Shelf.Strconv.ErrVarAll
import Derived.Shelf.Strings.Split
import Derived.Shelf.Small.Wraps
import Derived.Shelf.Strings.OnBuilder
set_option linter.all false

namespace Go.Proofs.YtccblhpfjlgmbabGreatDoor
open Go.AX Go.RF Go.RowKit Go.Shelf Go.Lib
set_option maxHeartbeats 4000000 in
set_option maxRecDepth 100000 in
theorem delete_walkE (g n cap m:Nat) (w:World) (cur:Array Value) (hg:w.heap[g]? = some (.cells cur 119 (0,0))) (hsz:cur.size=cap*2) (hm:m < n) (hn:n≤268435456) (hnc:n≤cap) (hcm:cap≤maxLen) (hone:∀ v∈cur.toList.take (n*2),v.oneCell'=true) :
  Calls Tryz.prog 91 #[.slice (some ⟨g,0,none⟩) n cap,.int .i64 (m:Int),.int .i64 ((m:Int)+1)] w fun e w' =>
   e = .returned (.slice (some ⟨g,0,none⟩) (n - 1) cap)∧∃ m1 cs',w'=(w.drew.setRow g m1).setRow g cs'∧cs'.size=cap*2∧cs'.toList.take ((n - 1)*2)=(cur.toList.take (n*2)).take (m*2)++(cur.toList.take (n*2)).drop ((m+1)*2):=by
 have mixed:=mixed_ok
 have hnm:¬ ((m:Int)=(m:Int)+1):=by omega
 have hT:Tryz.prog.underlying 48=some (.slice 119):=Tryz.underlying48
 have htb:∃ ti,tget tbl 119=some ti∧ti.n=2∧ti.zero=[.int .i64 0,.slice none 0 0]:=⟨_,rfl,rfl,rfl⟩
 obtain⟨ti,ht1,ht2,ht4⟩:=htb
 obtain⟨i0,hi0,hzs,_,z,hz0,hzc⟩:=(tbl_ok _ _ ht1).info
 rw[ht2]at hzs
 rw[ht4]at hzc
 have hcl:n*2≤cur.size:=by rw[hsz];exact Nat.mul_le_mul_right 2 hnc
 obtain⟨news,hnews⟩:∃ news,news=(cur.toList.drop ((m+1)*2)).take ((n - (m+1))*2):=⟨_,rfl⟩
 have hnl:news.length=(n - (m+1))*2:=by rw[hnews];simp;omega
 obtain⟨m1,hm1⟩:∃ m1:List Value,m1=cur.toList.take (m*2)++news++cur.toList.drop (m*2+news.length):=⟨_,rfl⟩
 have hm1l:m1.length=cur.size:=by rw[hm1];simp;omega
 obtain⟨zs,hzs2⟩:∃ zs:List Value,zs=[.int .i64 0,.slice none 0 0]:=⟨_,rfl⟩
 obtain⟨m2,hm2⟩:∃ m2:List Value,m2=m1.take ((m+(n - (m+1)))*2)++zs++m1.drop ((m+(n - (m+1)))*2+zs.length):=⟨_,rfl⟩
 have hm2l:m2.length=cur.size:=by rw[hm2,hzs2];simp;omega
 have hlast:m2.take ((n - 1)*2)=(cur.toList.take (n*2)).take (m*2)++(cur.toList.take (n*2)).drop ((m+1)*2):=by
  have h:=del_cells (cur:=cur.toList) (zs:=zs) hm (by simpa using hcl)
  rw[hm2,hm1,hnews]
  exact h
 have hap:∀ (A:Addr),(cap=m+1∨A=⟨g,(m+1)*2,none⟩)→∀ ty,(Builtin.append_ #[48,48] ty #[.slice (some ⟨g,0,none⟩) m cap,.slice (some A) (n - (m+1)) (cap - (m+1))]).run Tryz.prog w.drew =
   .ok (.slice (some ⟨g,0,none⟩) (m+(n - (m+1))) cap) (w.drew.setRow g m1.toArray):=fun A hA ty=>by
  have hnw:∀ j u,news[j]? = some u→w.drew.cell? (A.add j)=some u:=fun j u hj=>by
   rcases hA with hA|rfl
   ·
    have:news=[]:=List.eq_nil_of_length_eq_zero (by rw[hnl];omega)
    rw[this]at hj;simp at hj
   ·
    rw[hnews,List.getElem?_take]at hj
    split at hj
    ·
     rw[List.getElem?_drop]at hj
     rw[Addr.add_lit]
     have hgd:w.drew.heap[g]? = some (.cells cur 119 (0,0)):=hg
     simp[World.cell?,hgd]
     simpa using hj
    ·
     cases hj
  have ho1:∀ u∈news,u.oneCell'=true:=fun u hu=>by
   obtain⟨j,hj⟩:=List.getElem?_of_mem hu
   rw[hnews,List.getElem?_take]at hj
   split at hj
   ·
    rw[List.getElem?_drop]at hj
    refine hone u (List.mem_of_getElem? (i:=(m+1)*2+j) ?_)
    rw[List.getElem?_take,if_pos (by omega)];exact hj
   ·
    cases hj
  have h:=run_append_room (P:=Tryz.prog) (w:=w.drew) (ty:=ty) 48 119 i0 hT hi0 g m cap cur hg A (n - (m+1)) (cap - (m+1)) news (by rw[hzs];exact hnl) hnw ho1 (by omega) (by rw[hzs,hnl];omega)
  rw[hzs]at h
  rw[hm1]
  exact h
 have hg1:(w.drew.setRow g m1.toArray).heap[g]? = some (.cells m1.toArray 119 (0,0)):=setRow_heap _ _ _ _ _ _ hg
 have hclr:∀ ty,(Builtin.clear_ #[48] ty #[.slice (some ⟨g,(m+(n - (m+1)))*2,none⟩) (n - (m+(n - (m+1)))) (cap - (m+(n - (m+1))))]).run Tryz.prog (w.drew.setRow g m1.toArray) =
   .ok (.tuple #[]) ((w.drew.setRow g m1.toArray).setRow g m2.toArray):=fun ty=>by
  have e1:n - (m+(n - (m+1)))=1:=by omega
  have hst:=run_storeCells_at Tryz.prog g ((m+(n - (m+1)))*2) 119 zs 0 m1.toArray (w.drew.setRow g m1.toArray) hg1 (by rw[hzs2];simp;omega) (by rw[hzs2];simp[Value.oneCell'])
  have hzz:(Builtin.zeroCells z.cells 1).toList=zs:=by
   rw[hzs2,← hzc]
   have h2:z.cells.size=2:=by rw[← Array.length_toList,hzc];rfl
   apply List.ext_getElem
   ·
    simp[Builtin.zeroCells,h2]
   ·
    intro i h3 h4
    have h5:i < 2:=by simpa[h2] using h4
    simp[Builtin.zeroCells,Nat.mod_eq_of_lt h5,h2]
    exact getElem!_pos z.cells i (by omega)
  have hzv:(zeroValue 119).run Tryz.prog (w.drew.setRow g m1.toArray) = .ok z (w.drew.setRow g m1.toArray):=by simp[zeroValue,typeInfo,hi0,hz0]
  rw[e1]
  simp only[Nat.add_zero]at hst
  simp[Builtin.clear_,run_underlying hT,hzv,hzz,hst,hm2]
 have hi1:m≤cap:=by omega
 have hi2:m+1≤cap:=by omega
 have hi3:m+1≤n:=by omega
 clear hm1 hm2 hnews hzs2
 have hj1:(0:Int)≤(m:Int)+1:=by omega
 have hj2:(m:Int)+1≤(n:Int):=by omega
 have hj3:(m:Int)≤(m:Int)+1:=by omega
 have htn:((m:Int)+1).toNat=m+1:=by omega
 by_cases hcj:cap=m+1
 ·
  have hap1:=hap ⟨g,0,none⟩ (.inl hcj)
  obtain rfl:n=m+1:=by omega
  subst hcj
  have hap2:∀ ty,(Builtin.append_ #[48,48] ty #[.slice (some ⟨g,0,none⟩) m (m+1),.slice (some ⟨g,0,none⟩) 0 0]).run Tryz.prog w.drew = .ok (.slice (some ⟨g,0,none⟩) m (m+1)) (w.drew.setRow g m1.toArray):=fun ty=>by simpa using hap1 ty
  have hclr2:∀ ty,(Builtin.clear_ #[48] ty #[.slice (some ⟨g,m*2,none⟩) 1 1]).run Tryz.prog (w.drew.setRow g m1.toArray) = .ok (.tuple #[]) ((w.drew.setRow g m1.toArray).setRow g m2.toArray):=fun ty=>by
   have h:=hclr ty
   rw[show m+1 - (m+1)=0 by omega,show m+0=m by omega,show m+1 - m=1 by omega]at h
   exact h
  clear hap hap1 hclr
  go_enter Tryz.func91,Tryz.ntmps91
  go_wp2_with fail
  go_region_law_o (refine step_append_runI rfl _ _ 48 48 rfl (.slice (some ⟨g,0,none⟩) m (m+1)) (.slice (some ⟨g,0,none⟩) 0 0) (by simp[Act.eval,Act.put]) (by simp[Act.eval,Act.put]) (hap2 _) ?_)
  go_wp2_with (at_builtin;refine wpList_clear_runI rfl _ 48 rfl _ rfl (hclr2 _) ?_)
  go_ret
  exact⟨by rw[show m+1 - 1=m by omega];rfl,_,_,rfl,by simp[hm2l,hsz],by simpa using hlast⟩
 ·
  have hap1:=hap ⟨g,(m+1)*2,none⟩ (.inr rfl)
  clear hap
  go_enter Tryz.func91,Tryz.ntmps91
  go_wp2_with fail
  go_region_law_o (refine step_append_runI rfl _ _ 48 48 rfl (.slice (some ⟨g,0,none⟩) m cap) (.slice (some ⟨g,(m+1)*2,none⟩) (n - (m+1)) (cap - (m+1))) (by simp[Act.eval,Act.put]) (by simp[Act.eval,Act.put]) (hap1 _) ?_)
  go_wp2_with (at_builtin;refine wpList_clear_runI rfl _ 48 rfl _ rfl (hclr _) ?_)
  go_ret
  exact⟨by rw[show n - 1=m+(n - (m+1)) by omega];rfl,_,_,rfl,by simp[hm2l,hsz],by simpa using hlast⟩
theorem upd_deleteE (rows:List (List D)) (m:Nat) (hm:m < rows.length) (hl:rows.length≤268435456) :
  FnUpd Tryz.prog 91 119 2 rows [.d (dint m),.d (dint ((m:Int)+1))] (rows.take m++rows.drop (m+1)):=by
 refine⟨⟨_,Tryz.func91,by kernel_rfl,by kernel_rfl⟩,fun w own v vs hown hR hsep ha=>?_⟩
 match vs,ha with
 | [v1,v2],⟨h1,h2,_⟩ =>
  have e1:=rd_v h1
  have e2:=rd_v h2
  subst e1 e2
  obtain⟨xs,hrow,hone,hrl,hrd⟩:=hR
  have hxl:=hrow.1
  rcases hrow.2 with ⟨_,h0⟩|⟨g,cap,cur,rfl,_,hg,hnc,hcm,hsz,htk⟩
  ·
   omega
  ·
   refine(delete_walkE g rows.length cap m w cur hg hsz hm hl hnc hcm (by rw[htk];exact hone)).mono fun e w'=>?_
   rintro ⟨rfl,m1,cs',rfl,q1,q2⟩
   have hp:∀ b,blk (.slice (some ⟨g,0,none⟩) (rows.length - 1) cap)=some b→blk (.slice (some ⟨g,0,none⟩) rows.length cap)=some b∨w.heap.size≤b:=fun b hb => .inl hb
   have hbb:BelowBut (.slice (some ⟨g,0,none⟩) rows.length cap) w ((w.drew.setRow g m1).setRow g cs'):=⟨rfl,rfl,rfl,by simp[setRow_size],fun b hb hn=>by
    have hbg:b≠g:=fun h=>hn (by rw[h];rfl)
    rw[setRow_other _ _ _ _ hbg,setRow_other _ _ _ _ hbg];rfl⟩
   refine⟨_,rfl,hbb,hp,rows_del hm hbb hp hxl hone hrl hrd ⟨by simp;omega,.inr ⟨g,cap,cs',rfl,Nat.zero_le _,setRow_heap _ _ _ _ _ _ (setRow_heap _ _ _ _ _ _ hg),by omega,hcm,q1,?_⟩⟩⟩
   rw[q2,htk]
end Go.Proofs.YtccblhpfjlgmbabGreatDoor
namespace Go.AX
open Go.RowKit
def swN (i j k:Nat):Nat:=match Nat.beq k i with
 |true=>j
 |false=>match Nat.beq k j with
  |true=>i
  |false=>k
theorem swN_eq (i j k:Nat):swN i j k=if k=i then j else if k=j then i else k:=by
 unfold swN
 by_cases h1:k=i
 ·
  rw[if_pos h1,show Nat.beq k i=true by rw[h1];exact Nat.beq_refl _]
 ·
  rw[if_neg h1]
  have:Nat.beq k i=false:=by
   cases h:Nat.beq k i
   ·
    rfl
   ·
    exact absurd (Nat.eq_of_beq_eq_true h) h1
  rw[this]
  by_cases h2:k=j
  ·
   rw[if_pos h2,show Nat.beq k j=true by rw[h2];exact Nat.beq_refl _]
  ·
   rw[if_neg h2]
   have:Nat.beq k j=false:=by
    cases h:Nat.beq k j
    ·
     rfl
    ·
     exact absurd (Nat.eq_of_beq_eq_true h) h2
   rw[this]
theorem swN_swN (i j k:Nat):swN i j (swN i j k)=k:=by
 simp only[swN_eq]
 repeat' split
 all_goals omega
theorem swN_inj {i j a b:Nat}(h:swN i j a=swN i j b):a=b:=by rw[← swN_swN i j a,h,swN_swN]
theorem swN_lt {i j k n:Nat}(hi:i < n) (hj:j < n) (h:k < n):swN i j k < n:=by
 rw[swN_eq]
 repeat' split
 all_goals omega
def swA1 (i j:Nat):AV→AV
 |.d x => .d x
 |.pd x => .pd x
 |.ptr id off => .ptr (swN i j id) off
 |.own id n => .own (swN i j id) n
 |.pe id n a b => .pe (swN i j id) n a b
 |.agg c => .agg c
 |.tup v => .tup v
 |.h id => .h (swN i j id)
 |.any => .any
def swA2 (i j:Nat):AV→AV
 |.agg c => .agg (c.map (swA1 i j))
 |av=>swA1 i j av
def swA (i j:Nat):AV→AV
 |.tup v => .tup (v.map (swA2 i j))
 |av=>swA2 i j av
def swO (i j:Nat):Ob→Ob
 |.box c => .box (c.map (swA1 i j))
 |.lit k V ids => .lit k V (ids.map (swN i j))
 |.tok o b => .tok (swN i j o) b
 |o=>o
def swK (i j:Nat):Key→Key
 |.o k => .o (swN i j k)
 |k=>k
def swV (i j:Nat):Val→Val
 |.av x => .av (swA i j x)
 |.ob x => .ob (swO i j x)
 |v=>v
def swS (i j:Nat):St→St
 | []=>[]
 |(k,v)::r=>(swK i j k,swV i j v)::swS i j r
theorem swK_inj {i j:Nat}{a b:Key}(h:swK i j a=swK i j b):a=b:=by
 cases a <;> cases b <;> simp[swK]at h ⊢
 ·
  exact h
 ·
  exact swN_inj h
theorem get_sw {i j:Nat}{k:Key}:∀ {σ:St},get (swS i j σ) (swK i j k)=swV i j (get σ k)
 | []=>rfl
 |(q,v)::r=>by
  show get ((swK i j q,swV i j v)::swS i j r) (swK i j k)=_
  by_cases h:q=k
  ·
   subst h;rw[get_cons_same,get_cons_same]
  ·
   rw[get_cons_ne h,get_cons_ne fun e=>h (swK_inj e),get_sw]
theorem get_swo {i j id:Nat}{σ:St}:get (swS i j σ) (.o id)=swV i j (get σ (.o (swN i j id))):=by
 have:=get_sw (i:=i) (j:=j) (k := .o (swN i j id)) (σ:=σ)
 rwa [show swK i j (.o (swN i j id)) = .o id by simp[swK,swN_swN]]at this
theorem swV_ob {i j:Nat}{v:Val}{o:Ob}(h:swV i j v = .ob o):∃ o0,v = .ob o0∧swO i j o0=o:=by
 cases v <;> simp[swV]at h
 exact⟨_,rfl,h⟩
theorem swV_av {i j:Nat}{v:Val}{o:AV}(h:swV i j v = .av o):∃ o0,v = .av o0∧swA i j o0=o:=by
 cases v <;> simp[swV]at h
 exact⟨_,rfl,h⟩
variable {cx:Cx}{g:Nat→Value}{σ:St}{a:Act}{w:World}{nx:Nat}{c:Code}{Q:Exit→St→Prop}{i j:Nat}
theorem own_sw {b:Nat}(h:cx.own (fun k=>g (swN i j k)) (swS i j σ) b):cx.own g σ b:=by
 rcases h with h|⟨id,o,h1,h2⟩
 ·
  exact .inl h
 ·
  rw[get_swo]at h1
  obtain⟨o0,h3,_⟩:=swV_ob h1
  exact .inr ⟨_,o0,h3,h2⟩
theorem nr_sw {id:Nat}(h:NR σ id):NR (swS i j σ) (swN i j id):=fun hg=>by
 rw[get_swo,swN_swN]at hg
 obtain⟨o0,h1,h2⟩:=swV_ob hg
 refine h ?_
 rw[h1]
 cases o0 <;> simp[swO]at h2 ⊢
theorem rep1_sw {x:Value}{av:AV}(h:Rep1 cx g σ w x av):Rep1 cx (fun k=>g (swN i j k)) (swS i j σ) w x (swA1 i j av):=by
 cases av with
 |d y=>exact Rd.less (fun b hb=>own_sw hb) h
 |pd ds =>
  obtain⟨ad,h1,h2,h3,h4⟩:=h
  refine⟨ad,h1,?_,h3,fun q z hz=>by obtain⟨u,h5,h6,h7⟩:=h4 q z hz;exact⟨u,h5,h6,h7.less fun b hb=>own_sw hb⟩⟩
  rcases h2 with h2|h2
  ·
   exact .inl h2
  ·
   exact .inr fun hb=>h2 (own_sw hb)
 |ptr id off =>
  refine⟨nr_sw h.1,fun cells hg=>?_⟩
  rw[get_swo,swN_swN]at hg
  obtain⟨o0,h1,h2⟩:=swV_ob hg
  cases o0 <;> simp[swO]at h2
  obtain⟨b,h3,h4⟩:=h.2 _ h1
  exact⟨b,by dsimp only;rw[swN_swN];exact h3,h4⟩
 |own id n =>
  refine⟨nr_sw h.1,fun e k rows hg=>?_⟩
  rw[get_swo,swN_swN]at hg
  obtain⟨o0,h1,h2⟩:=swV_ob hg
  cases o0 <;> simp[swO]at h2
  obtain⟨rfl,rfl,rfl⟩:=h2
  dsimp only
  rw[swN_swN]
  exact h.2 _ _ _ h1
 |pe id n q f =>
  refine⟨nr_sw h.1,fun e k rows hg=>?_⟩
  rw[get_swo,swN_swN]at hg
  obtain⟨o0,h1,h2⟩:=swV_ob hg
  cases o0 <;> simp[swO]at h2
  obtain⟨rfl,rfl,rfl⟩:=h2
  dsimp only
  rw[swN_swN]
  exact h.2 _ _ _ h1
 |h id =>
  refine⟨nr_sw h.1,fun o hg ho=>?_⟩
  rw[get_swo,swN_swN]at hg
  obtain⟨o0,h1,h2⟩:=swV_ob hg
  dsimp only
  rw[swN_swN]
  refine h.2 o0 h1 ?_
  subst h2
  cases o0 <;> first|rfl|cases ho
 |any=>trivial
 |agg _=>exact h.elim
 |tup _=>exact h.elim
theorem cells_sw {cells:List AV}{cs:Array Value}(h:∀ (q:Nat) (c:Value) (av:AV),cells[q]? = some av→cs[q]? = some c→Rep1 cx g σ w c av) :
  ∀ (q:Nat) (c:Value) (av:AV),(cells.map (swA1 i j))[q]? = some av→cs[q]? = some c→Rep1 cx (fun k=>g (swN i j k)) (swS i j σ) w c av:=by
 intro q c av hq hc
 rw[List.getElem?_map,Option.map_eq_some_iff]at hq
 obtain⟨av0,h1,rfl⟩:=hq
 exact rep1_sw (h q c av0 h1 hc)
theorem rep2_sw {x:Value}{av:AV}(h:Rep2 cx g σ w x av):Rep2 cx (fun k=>g (swN i j k)) (swS i j σ) w x (swA2 i j av):=by
 cases av with
 |agg cells =>
  obtain⟨cs,h1,h2,h3,h4⟩:=h
  exact⟨cs,h1,by simpa using h2,h3,cells_sw h4⟩
 |tup _=>exact h.elim
 |d y=>exact rep1_sw (cx:=cx) (w:=w) (av := .d y) h
 |pd y=>exact rep1_sw (cx:=cx) (w:=w) (av := .pd y) h
 |ptr p q=>exact rep1_sw (cx:=cx) (w:=w) (av := .ptr p q) h
 |own p q=>exact rep1_sw (cx:=cx) (w:=w) (av := .own p q) h
 |pe p q r s=>exact rep1_sw (cx:=cx) (w:=w) (av := .pe p q r s) h
 |h p=>exact rep1_sw (cx:=cx) (w:=w) (av := .h p) h
 |any=>trivial
theorem rep_sw {x:Value}{av:AV}(h:Rep cx g σ w x av):Rep cx (fun k=>g (swN i j k)) (swS i j σ) w x (swA i j av):=by
 cases av with
 |tup vs =>
  obtain⟨us,h1,h2,h3⟩:=h
  refine⟨us,h1,by simpa using h2,fun q c av hq hc=>?_⟩
  rw[List.getElem?_map,Option.map_eq_some_iff]at hq
  obtain⟨av0,h4,rfl⟩:=hq
  exact rep2_sw (h3 q c av0 h4 hc)
 |agg cells=>exact rep2_sw (cx:=cx) (w:=w) (av := .agg cells) h
 |d y=>exact rep2_sw (cx:=cx) (w:=w) (av := .d y) h
 |pd y=>exact rep2_sw (cx:=cx) (w:=w) (av := .pd y) h
 |ptr p q=>exact rep2_sw (cx:=cx) (w:=w) (av := .ptr p q) h
 |own p q=>exact rep2_sw (cx:=cx) (w:=w) (av := .own p q) h
 |pe p q r s=>exact rep2_sw (cx:=cx) (w:=w) (av := .pe p q r s) h
 |h p=>exact rep2_sw (cx:=cx) (w:=w) (av := .h p) h
 |any=>trivial
theorem bd1_sw (hi:i < nx) (hj:j < nx) {av:AV}(h:av.bd1 nx):(swA1 i j av).bd1 nx:=by
 cases av <;> first|exact swN_lt hi hj h|exact h
theorem bd_sw (hi:i < nx) (hj:j < nx) {av:AV}(h:av.bd nx):(swA i j av).bd nx:=by
 cases av with
 |agg cells =>
  intro x hx
  obtain⟨y,hy,rfl⟩:=List.mem_map.1 hx
  exact bd1_sw hi hj (h y hy)
 |tup vs =>
  intro x hx
  obtain⟨y,hy,rfl⟩:=List.mem_map.1 hx
  have hb:=h y hy
  cases y with
  |agg cells =>
   intro x hx
   obtain⟨z,hz,rfl⟩:=List.mem_map.1 hx
   exact bd1_sw hi hj (hb z hz)
  |tup _=>exact hb
  |d _=>exact hb
  |pd _=>exact hb
  |ptr p q=>exact bd1_sw (av := .ptr p q) hi hj hb
  |own p q=>exact bd1_sw (av := .own p q) hi hj hb
  |pe p q r s=>exact bd1_sw (av := .pe p q r s) hi hj hb
  |h p=>exact bd1_sw (av := .h p) hi hj hb
  |any=>exact hb
 |d _=>exact h
 |pd _=>exact h
 |ptr p q=>exact bd1_sw (av := .ptr p q) hi hj h
 |own p q=>exact bd1_sw (av := .own p q) hi hj h
 |pe p q r s=>exact bd1_sw (av := .pe p q r s) hi hj h
 |h p=>exact bd1_sw (av := .h p) hi hj h
 |any=>exact h
theorem rows_sw {e k:Nat}{v:Value}{rows:List (List D)}(h:∃ xs:List Value,w.ownsRow cx.w0.heap.size e k v rows.length xs∧(∀ x∈xs,Value.oneCell' x=true)∧(∀ r∈rows,r.length=k) ∧
   ∀ (p q:Nat) (r:List D) (d:D) (x:Value),rows[p]? = some r→r[q]? = some d→xs[p*k+q]? = some x→Rd w (cx.own g σ) x d) :
  ∃ xs:List Value,w.ownsRow cx.w0.heap.size e k v rows.length xs∧(∀ x∈xs,Value.oneCell' x=true)∧(∀ r∈rows,r.length=k) ∧
   ∀ (p q:Nat) (r:List D) (d:D) (x:Value),rows[p]? = some r→r[q]? = some d→xs[p*k+q]? = some x→Rd w (cx.own (fun k=>g (swN i j k)) (swS i j σ)) x d:=by
 obtain⟨xs,h1,h2,h3,h4⟩:=h
 exact⟨xs,h1,h2,h3,fun p q r d x hp hq hx=>Rd.less (fun b hb=>own_sw hb) (h4 p q r d x hp hq hx)⟩
theorem ob_sw {id:Nat}{o:Ob}(h:ObOk cx g σ w (swN i j id) o):ObOk cx (fun k=>g (swN i j k)) (swS i j σ) w id (swO i j o):=by
 cases o with
 |box cells =>
  obtain⟨b,cs,t,h1,h2,h3,h4,h5,h6⟩:=h
  exact⟨b,cs,t,h1,h2,h3,by simpa using h4,h5,cells_sw h6⟩
 |arr e k rows=>exact rows_sw h
 |pin e k rows x=>exact⟨h.1,rows_sw h.2⟩
 |mp M x=>exact h
 |mi M x=>exact h
 |gen p=>exact h
 |res=>exact h
 |tok o b=>exact h
 |lit kk V ids =>
  obtain⟨b,es,clock,h1,h2,h3,h4,h5⟩:=h
  refine⟨b,es,clock,h1,h2,h3,h4,fun q k p hq hp hg=>?_⟩
  rw[List.getElem?_map,Option.map_eq_some_iff]at hq
  obtain⟨k0,h6,rfl⟩:=hq
  rw[get_swo,swN_swN]at hg
  obtain⟨o0,h7,h8⟩:=swV_ob hg
  cases o0 <;> simp[swO]at h8
  obtain⟨h9,rfl⟩:=h8
  refine h5 q k0 p h6 hp ?_
  rw[h7,← h9,swN_swN]
theorem obd_sw (hi:i < nx) (hj:j < nx) {o:Ob}(h:o.bd nx):(swO i j o).bd nx:=by
 cases o with
 |box cells =>
  intro x hx
  obtain⟨y,hy,rfl⟩:=List.mem_map.1 hx
  exact bd1_sw hi hj (h y hy)
 |lit kk V ids =>
  intro x hx
  obtain⟨y,hy,rfl⟩:=List.mem_map.1 hx
  exact swN_lt hi hj (h y hy)
 |_=>exact h
theorem SimG.sw (hs:SimG cx σ a w g nx) (hi:i < nx) (hj:j < nx) (hgn:cx.gn=0) (hgh:cx.gh=[]):SimG cx (swS i j σ) a w (fun k=>g (swN i j k)) nx:=by
 refine⟨?_,hs.size,hs.defers,hs.below,hs.own0,fun k av hk=>?_,fun id o ho=>?_,fun id id' o o' b h1 h2 h3 h4=>?_,by rw[hgn];exact Nat.zero_le _,fun p hp=>by rw[hgh]at hp;cases hp⟩
 ·
  have:=get_sw (i:=i) (j:=j) (k := .nx) (σ:=σ)
  rw[hs.hnx]at this
  exact this
 ·
  have:=get_sw (i:=i) (j:=j) (k := .s k) (σ:=σ)
  rw[show swK i j (.s k) = .s k from rfl,hk]at this
  obtain⟨av0,h1,rfl⟩:=swV_av this.symm
  obtain⟨h2,h3⟩:=hs.slots k av0 h1
  exact⟨rep_sw h2,bd_sw hi hj h3⟩
 ·
  rw[get_swo]at ho
  obtain⟨o0,h1,rfl⟩:=swV_ob ho
  obtain⟨h2,h3,h4⟩:=hs.objs _ o0 h1
  refine⟨?_,ob_sw h3,obd_sw hi hj h4⟩
  have:=swN_lt hi hj h2
  rwa [swN_swN]at this
 ·
  rw[get_swo]at h1 h2
  obtain⟨o0,h5,_⟩:=swV_ob h1
  obtain⟨o1,h6,_⟩:=swV_ob h2
  exact swN_inj (hs.sep _ _ o0 o1 b h5 h6 h3 h4)
theorem CW.ren (i j:Nat) {n:Nat}(hn:get σ .nx = .num n) (hi:Nat.blt i n=true) (hj:Nat.blt j n=true) (h:CW cx c Q (swS i j σ)) (hgn:cx.gn=0:=by rfl) (hgh:cx.gh=[]:=by rfl):CW cx c Q σ:=by
 rintro a w ⟨g,nx,hs⟩
 obtain rfl:nx=n:=by
  have:=hs.hnx
  rw[hn]at this
  simpa using this.symm
 exact h a w ⟨_,_,hs.sw (lt_of_blt hi) (lt_of_blt hj) hgn hgh⟩
end Go.AX
namespace Go.Proofs.YtccblhpfjlgmbabGreatDoor
open Go.AX Go.RF
set_option maxRecDepth 100000
set_option maxHeartbeats 8000000
theorem ok_come1 (x e:Entry):FnOk Tryz.prog 88 [.d (.agg x.enc),.pd e.enc] (.one (dbool (decide (x.number=e.number)))):=by
 refine fnOk_of tbl_ok mixed_ok Tryz.func88 rfl (by kernel_rfl) rfl rfl fun w0 own0=>?_
 try refine wk ?_
 exact .one (.tmp rfl (.one (.d (.refl _))))
theorem ok_early1 (x:Entry) (r:Replica):FnOk Tryz.prog 119 [.d (.agg x.enc),.pd [refD r.enc]] (.one (dbool (decide (x.number=r.next)))):=by
 refine fnOk_of tbl_ok mixed_ok Tryz.func119 rfl (by kernel_rfl) rfl rfl fun w0 own0=>?_
 repeat(first|refine wa ?_|((with_reducible apply s5);(first|((with_reducible apply a_nilref);(iterate 2 exact rfl))|((with_reducible apply a_faref);(iterate 4 exact rfl))|exact by_oa|exact by_ca);exact by_g)|refine wb ?_)
 exact .one (.tmp rfl (.one (.d (.refl _))))
theorem ok_early (r:Replica) (hl:r.early.length≤1073741824):FnOk Tryz.prog 89 [.d (refD r.enc)] (.one (dint (firstN r.next 0 r.early))):=by
 refine fnOk_of tbl_ok mixed_ok Tryz.func89 rfl (by kernel_rfl) rfl rfl fun w0 own0=>?_
 have c1:=ok_indexE r.early r.next 119 [refD [refD r.enc]] [.pd [refD r.enc]] (.ref .nil) (fun x _=>ok_early1 x r) hl
 generalize firstN r.next 0 r.early=k at *
 have hst0:StopR 1:=⟨rfl⟩
 try refine wkS ?_
 clear hst0
 refine Stop.go (CW.stut (stut_freezebox (i:=1) (id:=0) (ds:=[refD r.enc]) rfl) ⟨rfl,rfl,trivial⟩ ?_)
 repeat(first|refine wa ?_|((with_reducible apply s5);(first|((with_reducible apply a_nilref);(iterate 2 exact rfl))|((with_reducible apply a_faref);(iterate 4 exact rfl))|((with_reducible apply a_ldref);(iterate 4 exact rfl))|((with_reducible apply(a_mkfn (ds:=[refD [refD r.enc]])));exact rfl;exact by_sub)|exact by_oa|exact by_ca);exact by_g)|refine wb ?_)
 exact .one (.tmp rfl (.one (.d (.refl _))))
theorem RInv.sm {r:Replica}(h:RInv r):Replica.Sm r:=by
 have hn:=h.n
 refine⟨h.e.z.sm (by omega),by have:=h.l;omega,fun e he=>?_⟩
 obtain⟨_,h2,_,h4⟩:=wrongEntry_out (h.w e he)
 exact⟨by omega,fun d hd=>wrong_sm (h4 d hd)⟩
def noR0:List D:=[.v nilS,.v nilS,.v nilS,.v nilS,dint 0,dint 0,.v nilS]
theorem ok_come (r:Replica) (e:Entry) (h:RInv r) (he:wrongEntry e=0):FnOk Tryz.prog 64 [.d (.agg r.enc),.d (.agg e.enc)] (.tup [.agg (comeE r e).1.enc,dint (comeE r e).2]):=by
 refine fnOk_of tbl_ok mixed_ok Tryz.func64 rfl (by kernel_rfl) rfl rfl fun w0 own0=>?_
 have hl:=h.l
 obtain⟨hn1,hn2,hn3,hn4⟩:=wrongEntry_out he
 have c0:=news_repOwn r h.sm
 have c1:=ok_containsE r.early e.number 88 [refD e.enc] [.pd e.enc] (.ref .nil) (fun x _=>ok_come1 x e) (by omega)
 have c2:=ok_logOwn [e] (by simp) (by simp;exact⟨by omega,fun d hd=>wrong_sm (hn4 d hd)⟩)
 unfold comeE
 have hst0:StopR 2:=⟨rfl⟩
 repeat(first|refine waS ?_|((with_reducible apply s5);(first|exact a_callnews c0 rfl rfl by_sub|exact by_oa|exact by_ca);exact by_g)|refine wb ?_)
 clear hst0
 refine Stop.go (CW.stut (stut_freezebox (i:=3) (id:=1) (ds:=e.enc) rfl) ⟨rfl,rfl,trivial⟩ ?_)
 by_cases h1:e.number < r.next
 ·
  rw[if_pos (.inl h1)]
  repeat(first|refine wa ?_|((with_reducible apply s5);(first|((with_reducible apply a_faref);(iterate 4 exact rfl))|exact by_oa|exact by_ca);exact by_g)|refine wb ?_)
  exact .two (.cell rfl rfl rfl rfl (.agg (.cons (.d (.refl _)) (.cons (.d (.refl _)) (.cons (.d (.refl _)) (.cons (.d (.refl _)) (.cons (.d (.refl _)) (.cons (.d (.refl _)) (.cons (.own rfl (by simp) (.refl _)) .nil))))))))) (.tmp rfl (.one (.d (.refl _))))
 cases h2:hasN e.number r.early with
 |true =>
  rw[if_pos (.inr rfl)]
  rw[h2]at c1
  repeat(first|refine wa ?_|((with_reducible apply s5);(first|((with_reducible apply a_faref);(iterate 4 exact rfl))|((with_reducible apply(a_mkfn (ds:=[refD e.enc])));exact rfl;exact by_sub)|exact by_oa|exact by_ca);exact by_g)|refine wb ?_)
  exact .two (.cell rfl rfl rfl rfl (.agg (.cons (.d (.refl _)) (.cons (.d (.refl _)) (.cons (.d (.refl _)) (.cons (.d (.refl _)) (.cons (.d (.refl _)) (.cons (.d (.refl _)) (.cons (.own rfl (by simp) (.refl _)) .nil))))))))) (.tmp rfl (.one (.d (.refl _))))
 |false =>
  rw[if_neg (by simp;omega)]
  rw[h2]at c1
  by_cases h3:r.next < e.number
  ·
   rw[if_pos h3]
   by_cases h4:4≤r.early.length
   ·
    rw[if_pos h4]
    repeat(first|refine wa ?_|((with_reducible apply s5);(first|((with_reducible apply a_faref);(iterate 4 exact rfl))|((with_reducible apply(a_mkfn (ds:=[refD e.enc])));exact rfl;exact by_sub)|exact by_oa|exact by_ca);exact by_g)|refine wb ?_)
    exact .two (.cell rfl rfl rfl rfl (.agg (.cons (.d (.refl _)) (.cons (.d (.refl _)) (.cons (.d (.refl _)) (.cons (.d (.refl _)) (.cons (.d (.refl _)) (.cons (.d (.refl _)) (.cons (.own rfl (by simp) (.refl _)) .nil))))))))) (.tmp rfl (.one (.d (.refl _))))
   ·
    rw[if_neg h4]
    repeat(first|((with_reducible apply s5);((with_reducible apply a_bs [e.enc]);(iterate 9 exact rfl);(repeat(first|exact PartsE.nil|(apply PartsE.cons;exact rfl;exact rfl))));exact by_g)|refine wa1 ?_|((with_reducible apply s5);(first|((with_reducible apply a_faref);(iterate 4 exact rfl))|((with_reducible apply a_ldref);(iterate 4 exact rfl))|((with_reducible apply(a_mkfn (ds:=[refD e.enc])));exact rfl;exact by_sub)|exact by_oa|exact by_ca);exact by_g)|refine wb ?_)
    exact .two (.cell rfl rfl rfl rfl (.agg (.cons (.d (.refl _)) (.cons (.d (.refl _)) (.cons (.d (.refl _)) (.cons (.d (.refl _)) (.cons (.d (.refl _)) (.cons (.d (.refl _)) (.cons (.own rfl (by simp) (dle_eq (by simp[encEntries]))) .nil))))))))) (.tmp rfl (.one (.d (.refl _))))
  ·
   rw[if_neg h3]
   have hnx:e.number=r.next:=by omega
   have hD:=snoc_inv h he h1 h2
   have hT:drainR (r.early++[e]).length ⟨r.engine,r.next,r.early++[e]⟩=drainR r.early.length ⟨(addE r.engine e.deeds).1,r.next+1,r.early⟩:=by
    rw[← drainR_snoc hnx h2];simp
   generalize drainR r.early.length ⟨(addE r.engine e.deeds).1,r.next+1,r.early⟩=tgt at *
   have hE:FnOk Tryz.prog 89 [.d (refD [encChains r.engine.chains,encDeeds r.engine.deeds,encInts r.engine.state,encEnds r.engine.ends,dint r.engine.base,dint r.next,.sl 2 (r.early.map Entry.enc++[e.enc])])] (.one (dint (firstN r.next 0 (r.early++[e])))):=by
    have:=ok_early ⟨r.engine,r.next,r.early++[e]⟩ (by simp;omega)
    unfold Replica.enc encEntries at this
    rw[List.map_append]at this
    exact this
   have h8:r.early.map Entry.enc++[e.enc]=(r.early++[e]).map Entry.enc:=by simp
   repeat(first|((with_reducible apply s5);((with_reducible apply a_bs [e.enc]);(iterate 9 exact rfl);(repeat(first|exact PartsE.nil|(apply PartsE.cons;exact rfl;exact rfl))));exact by_g)|refine wa1 ?_|((with_reducible apply s5);(first|((with_reducible apply a_faref);(iterate 4 exact rfl))|((with_reducible apply a_ldref);(iterate 4 exact rfl))|((with_reducible apply(a_mkfn (ds:=[refD e.enc])));exact rfl;exact by_sub)|(focus (with_reducible apply a_lendbox);exact hE;exact rfl;exact rfl;exact .d (.d (.d (.d (.d (.d (.own rfl (by simp) .nil))))));exact rfl;exact rfl)|exact by_oa|exact by_ca);exact by_g)|refine wb ?_)
   refine CW.loopT (fun t:Replica=>[sp 4 2,ob 2 noR0,sd 5 (dint 0),sp 6 4,(.o 4,.ob (.box [.d (encChains t.engine.chains),.d (encDeeds t.engine.deeds),.d (encInts t.engine.state),.d (encEnds t.engine.ends),.d (dint t.engine.base),.d (dint t.next),.own 3 t.early.length])),oa 3 119 2 (t.early.map Entry.enc),sd 7 (dint (firstN t.next 0 t.early)),nxt 5])
    (fun t=>DInv t∧drainR t.early.length t=tgt) (fun t=>t.early.length) ⟨r.engine,r.next,r.early++[e]⟩ ⟨hD,hT⟩ ?_ ?_
   ·
    exact by_less
   ·
    rintro t ⟨hI,hJ⟩
    dsimp only
    have htl:=hI.l
    have htn:=hI.n
    rcases firstN_cases (n:=t.next) (l:=t.early) (i:=0) with ⟨k1,k2⟩|⟨k,x,k1,k2,k3⟩
    ·
     rw[drainR_none (by omega)]at hJ
     subst hJ
     rw[k1]
     try refine wk ?_
     exact .two (.cell rfl rfl rfl rfl (.agg (.cons (.d (.refl _)) (.cons (.d (.refl _)) (.cons (.d (.refl _)) (.cons (.d (.refl _)) (.cons (.d (.refl _)) (.cons (.d (.refl _)) (.cons (.own rfl (by simp) (.refl _)) .nil))))))))) (.tmp rfl (.one (.d (.refl _))))
    ·
     rw[Nat.zero_add]at k1
     have hkl:=(List.getElem?_eq_some_iff.1 k2).1
     have hel:=List.length_eraseIdx_of_lt hkl
     have hxm:(t.early.map Entry.enc)[k]? = some x.enc:=by rw[List.getElem?_map,k2];rfl
     obtain⟨x1,x2,x3,x4⟩:=wrongEntry_out (hI.w x (List.mem_of_getElem? k2))
     obtain⟨q,hb⟩:=hI.b
     have ca:=ok_padde t.engine x.deeds _ hI.e hb.S (fun d hd=>wrong_sm (x4 d hd)) (by omega) (by omega)
     have hI2:=take_inv hI k2 k3
     have hJ2:drainR (t.early.eraseIdx k).length ⟨(addE t.engine x.deeds).1,t.next+1,t.early.eraseIdx k⟩=tgt:=by
      rw[hel,← hJ]
      obtain⟨m,hm⟩:∃ m,t.early.length=m+1:=⟨t.early.length - 1,by omega⟩
      rw[hm,drainR_some k1 k2,Nat.add_sub_cancel]
     have hU:=upd_deleteE (t.early.map Entry.enc) k (by simpa using hkl) (by simp;omega)
     have hrw:(t.early.map Entry.enc).take k++(t.early.map Entry.enc).drop (k+1)=(t.early.eraseIdx k).map Entry.enc:=by
      rw[List.eraseIdx_eq_take_drop_succ,List.map_append,List.map_take,List.map_drop]
     rw[hrw]at hU
     generalize (addE t.engine x.deeds).1=E2 at *
     generalize (addE t.engine x.deeds).2=v2 at *
     have hE1:=ok_early ⟨E2,t.next+1,t.early.eraseIdx k⟩ (by dsimp only;omega)
     dsimp only at hE1
     rw[k1]
     have hkk:k < (t.early.map Entry.enc).length:=by simpa using hkl
     have hst0:StopX 15:=⟨rfl⟩
     repeat(first|refine waS ?_|((with_reducible apply s5);(first|(focus ((with_reducible apply a_upd);exact hU;(iterate 3 exact rfl);(focus first|exact rfl|(simp;done)|(simp;omega));exact rfl;exact by_sub))|exact by_oa|exact by_ca);exact by_g)|refine wb ?_)
     clear hst0
     refine Stop.go (CW.ren 3 6 rfl rfl rfl ?_)
     repeat(first|refine wa ?_|((with_reducible apply s5);(first|(focus (with_reducible apply a_lendbox);exact hE1;exact rfl;exact rfl;exact .d (.d (.d (.d (.d (.d (.own rfl (by simp) .nil))))));exact rfl;exact rfl)|exact by_oa|exact by_ca);exact by_g)|refine wb ?_)
     refine q_loopT ⟨E2,t.next+1,t.early.eraseIdx k⟩ ⟨hI2,hJ2⟩ (by dsimp only;omega) ?_
     exact by_less
structure Packet where
 dst:Int
 data:Str
 deriving DecidableEq
structure Cluster where
 log:List Entry
 reps:List Replica
 net:List Packet
 deriving DecidableEq
structure Step where
 kind:Int
 n:Int
 m:Int
 deeds:List Deed
 deriving DecidableEq
def Packet.enc (p:Packet):List D:=[dint p.dst,encBytes p.data]
def encNet (l:List Packet):D := .sl 2 (l.map Packet.enc)
def encReps (l:List Replica):D := .sl 7 (l.map Replica.enc)
def Cluster.enc (c:Cluster):List D:=[encEntries c.log,encReps c.reps,encNet c.net]
def Step.enc (s:Step):List D:=[dint s.kind,dint s.n,dint s.m,encDeeds s.deeds]
def encSteps (l:List Step):D := .sl 4 (l.map Step.enc)
def goR (r:Replica) (n:Int):Replica×Int:=if n < 0 then (r,6) else match (ready r.engine)[n.toNat]? with
 |some x=>(⟨(goE r.engine x).1,r.next,r.early⟩,0)
 |none=>(r,6)
def nth {α:Type}(l:List α) (n:Int):Option α:=if n < 0 then none else l[n.toNat]?
def batchC (c:Cluster) (l:List Deed):Cluster×Int :=
 if 12≤c.log.length then (c,5)
 else if wrongEntry ⟨c.log.length,l⟩=0 then ({ c with log:=c.log++[⟨c.log.length,l⟩] },0) else (c,wrongEntry ⟨c.log.length,l⟩)
def sendC (c:Cluster) (n m:Int):Cluster×Int:=match nth c.reps n with
 |none=>(c,6)
 |some _=>match nth c.log m with
  |none=>(c,6)
  |some e=>(if c.net.length < 16 then { c with net:=c.net++[⟨n,bytesE e⟩] } else c,0)
def comeC (c:Cluster) (p:Packet):Cluster:=match nth c.reps p.dst with
 |none=>c
 |some r=>match parseB p.data with
  |.error _=>c
  |.ok e=>{ c with reps:=c.reps.set p.dst.toNat (comeE r e).1 }
def packetC (c:Cluster) (k n:Int):Cluster×Int:=match nth c.net n with
 |none=>(c,6)
 |some p=>if k=5 then (if c.net.length < 16 then { c with net:=c.net++[p] } else c,0)
  else if k=4 then ({ c with net:=c.net.eraseIdx n.toNat },0)
  else (comeC { c with net:=c.net.eraseIdx n.toNat } p,0)
def runC (c:Cluster) (n m:Int):Cluster×Int:=match nth c.reps n with
 |none=>(c,6)
 |some r=>({ c with reps:=c.reps.set n.toNat (goR r m).1 },(goR r m).2)
def clrC (c:Cluster) (n:Int):Cluster×Int:=match nth c.reps n with
 |none=>(c,6)
 |some r=>({ c with reps:=c.reps.set n.toNat (clearR r) },0)
def doC (c:Cluster) (s:Step):Cluster×Int :=
 if s.kind=1 then batchC c s.deeds
 else if s.kind=2 then sendC c s.n s.m
 else if s.kind=3∨s.kind=4∨s.kind=5 then packetC c s.kind s.n
 else if s.kind=6 then runC c s.n s.m
 else if s.kind=7 then clrC c s.n
 else (c,1)
def newC (n:Int):Cluster:=⟨[],List.replicate n.toNat noR,[]⟩
def playC:Cluster→List Step→Cluster
 |c,[]=>c
 |c,s::l=>playC (doC c s).1 l
def errsC:Cluster→List Step→List Int
 |_,[]=>[]
 |c,s::l=>(doC c s).2::errsC (doC c s).1 l
theorem nth_some {α:Type}{l:List α}{n:Int}{x:α}(h:nth l n=some x):∃ k:Nat,n=k∧l[k]? = some x:=by
 unfold nth at h
 split at h
 ·
  cases h
 ·
  exact⟨n.toNat,by omega,h⟩
theorem nth_none {α:Type}{l:List α}{n:Int}(h:nth l n=none):n < 0∨(l.length:Int)≤n:=by
 unfold nth at h
 split at h
 ·
  exact .inl (by omega)
 ·
  have:=List.getElem?_eq_none_iff.1 h
  exact .inr (by omega)
theorem nth_nat {α:Type}{l:List α}{k:Nat}:nth l (k:Int)=l[k]? := by
 unfold nth
 rw[if_neg (by omega),Int.toNat_natCast]
set_option maxHeartbeats 4000000
theorem ok_prows (l:List Chain) (b:Int) (hl:l.length≤268435456) (hv:∀ c∈l,c.vs.length≤268435456) (hs:Srt Chain.key l):FnOk Tryz.prog 45 [.d (encChains l),.d (dint b)] (.tup [encRows (rowsAt l b).1,dbool (rowsAt l b).2]):=by
 refine fnOk_of tbl_ok mixed_ok Tryz.func45 rfl (by kernel_rfl) rfl rfl fun w0 own0=>?_
 try refine wk ?_
 refine CW.stut (stut_promote (i:=6) 41 2) ⟨rfl,rfl,trivial⟩ ?_
 refine CW.loopT (fun t:Nat×List Pair=>[(.s 0,.av (.d (encChains l))),(.s 1,.av (.d (dint b))),(.s 6,.av (.own 0 t.2.length)),(.o 0,.ob (.arr 41 2 (t.2.map Pair.enc))),(.s 10,.av (.d (encChains l))),(.s 11,.av (.d (dint l.length))),(.s 12,.av (.d (dint t.1))),(.nx,.num 1)])
  (fun t=>t.1≤l.length∧t.2.length≤t.1∧rowsAtGo l b t.2 (l.drop t.1)=rowsAt l b) (fun t=>l.length - t.1) (0,[]) ⟨by omega,by simp,rfl⟩ ?_ ?_
 ·
  exact by_less
 ·
  rintro ⟨i,out⟩ ⟨hi,ho,hI⟩
  dsimp only at hi ho hI ⊢
  rcases drop_case hi with ⟨h1,h2⟩|⟨c,h1,h2,h3⟩
  ·
   rw[h1]at hI
   simp only[rowsAtGo]at hI
   try refine wk ?_
   rw[← hI]
   exact .two (.tmp rfl (.one (.own rfl (by simp) (.refl _)))) (.tmp rfl (.one (.d (.refl _))))
  ·
   rw[h1]at hI
   simp only[rowsAtGo]at hI
   have hc:=ok_pbefore l c.key b hl hv hs
   generalize before l c.key b=v at hc hI
   obtain⟨vb,vm,vh,vn⟩:=v
   dsimp only at hI
   cases vm
   ·
    rw[if_pos rfl]at hI
    try refine wk ?_
    rw[← hI]
    exact .two (.tmp rfl (.one (.d (.nil 2)))) (.tmp rfl (.one (.d (.refl _))))
   ·
    rw[if_neg (by simp)]at hI
    cases vh
    ·
     rw[if_neg (by simp)]at hI
     try refine wk ?_
     refine q_loopT (i+1,out) ⟨by dsimp only;omega,by dsimp only;omega,hI⟩ (by dsimp only;omega) ?_
     exact by_less
    ·
     rw[if_pos rfl]at hI
     try refine wk ?_
     refine q_loopT (i+1,_) ⟨by dsimp only;omega,by dsimp only;simp;omega,hI⟩ (by dsimp only;omega) ?_
     exact by_less
theorem ok_pseen (e:Engine) (at_:Int) (hs:e.Sm) (hk:Srt Chain.key e.chains):FnOk Tryz.prog 25 [.d (.agg e.enc),.d (dint at_)] (.tup [encRows (seenE e at_).1,dint (seenE e at_).2]):=by
 refine fnOk_of tbl_ok mixed_ok Tryz.func25 rfl (by kernel_rfl) rfl rfl fun w0 own0=>?_
 have hd:=hs.d
 have hb:=hs.b
 have hc:=ok_prows e.chains (e.base+at_) (by have:=hs.c;omega) (fun c h=>by have:=hs.v c h;omega) hk
 unfold seenE
 by_cases h1:at_ < 0
 ·
  rw[if_pos (.inl h1)]
  try refine wk ?_
  exact .two (.tmp rfl (.one (.d (.nil 2)))) (.tmp rfl (.one (.d (.refl _))))
 ·
  by_cases h2:(e.deeds.length:Int) < at_
  ·
   rw[if_pos (.inr h2)]
   try refine wk ?_
   exact .two (.tmp rfl (.one (.d (.nil 2)))) (.tmp rfl (.one (.d (.refl _))))
  ·
   rw[if_neg (by omega)]
   cases h3:(rowsAt e.chains (e.base+at_)).2
   ·
    rw[if_neg (by simp)]
    rw[h3]at hc
    try refine wk ?_
    exact .two (.tmp rfl (.one (.d (.nil 2)))) (.tmp rfl (.one (.d (.refl _))))
   ·
    rw[if_pos rfl]
    rw[h3]at hc
    try refine wk ?_
    exact .two (.tmp rfl (.one (.d (.refl _)))) (.tmp rfl (.one (.d (.refl _))))
def pclearE (e:Engine):Engine:=⟨pclear (e.base+markN e.state) e.chains,e.deeds.drop (markN e.state),e.state.drop (markN e.state),e.ends.drop (markN e.state),e.base+markN e.state⟩
theorem ok_pclearE (e:Engine) (hs:e.Sm) (h1:e.state.length=e.deeds.length) (h2:e.ends.length=e.deeds.length):FnOk Tryz.prog 66 [.d (.agg e.enc)] (.one (.agg (pclearE e).enc)):=by
 refine fnOk_of tbl_ok mixed_ok Tryz.func66 rfl (by kernel_rfl) rfl rfl fun w0 own0=>?_
 have ho:=ok_planOwn e hs
 have hm:=ok_tmark e hs.s
 have hml:=markN_le e.state
 have hd:=hs.d
 have hb:=hs.b
 have hc:=ok_pclear e.chains (e.base+markN e.state) (by have:=hs.c;omega) (fun c h=>by have:=hs.v c h;omega)
 try refine wk ?_
 exact .one (.cell rfl rfl rfl rfl (.aggd (ds:=[encChains (pclear (e.base+markN e.state) e.chains),.sl 3 ((e.deeds.map Deed.enc).drop (markN e.state)),.sl 1 ((e.state.map encInt1).drop (markN e.state)),.sl 5 ((e.ends.map Done.enc).drop (markN e.state)),dint (e.base+markN e.state)]) rfl
  (dle_eq (by simp[pclearE,Engine.enc,encDeeds,encInts,encEnds]))))
set_option maxHeartbeats 8000000
theorem pclearE_eq {e:Engine}(h:SInv e):pclearE e=clearE e:=by
 unfold pclearE clearE
 rw[pclear_eq h.v]
theorem seenE_len (e:Engine) (at_:Int):(seenE e at_).1.length≤e.chains.length:=by
 unfold seenE
 split
 ·
  simp
 split
 ·
  exact rowsAt_len _ _
 ·
  simp
theorem ok_pgoE (e:Engine) (at_:Int) (hs:e.Sm) (hS:SInv e) (hW:WInv e) (hc:chOk e.chains) (hn:e.ends.length=e.deeds.length) :
  FnOk Tryz.prog 65 [.d (.agg e.enc),.d (dint at_)] (.tup [.agg (goE e at_).1.enc,dint (goE e at_).2]):=by
 have hdl:=hs.d
 have co:=ok_planOwn e hs
 unfold goE
 by_cases h1:at_ < 0
 ·
  rw[if_pos h1]
  refine fnOk_of tbl_ok mixed_ok Tryz.func65 rfl (by kernel_rfl) rfl rfl fun w0 own0=>?_
  try refine wk ?_
  exact .two (.cell rfl rfl rfl rfl (.aggd rfl (.refl _))) (.tmp rfl (.one (.d (.refl _))))
 rw[if_neg h1]
 obtain⟨A,rfl⟩:=Int.eq_ofNat_of_zero_le (show 0≤at_ by omega)
 rw[Int.toNat_natCast]
 unfold goAt
 cases hd:e.deeds[A]? with
 |none =>
  have hge:e.deeds.length≤A:=List.getElem?_eq_none_iff.1 hd
  refine fnOk_of tbl_ok mixed_ok Tryz.func65 rfl (by kernel_rfl) rfl rfl fun w0 own0=>?_
  try refine wk ?_
  exact .two (.cell rfl rfl rfl rfl (.aggd rfl (.refl _))) (.tmp rfl (.one (.d (.refl _))))
 |some d =>
  have hA:=(List.getElem?_eq_some_iff.1 hd).1
  dsimp only
  obtain⟨s,hsA⟩:∃ s,e.state[A]? = some s:=⟨e.state[A]'(by rw[hW.l];exact hA),List.getElem?_eq_getElem (by rw[hW.l];exact hA)⟩
  by_cases hs1:s=1
  ·
   subst hs1
   rw[if_pos hsA]
   refine fnOk_of tbl_ok mixed_ok Tryz.func65 rfl (by kernel_rfl) rfl rfl fun w0 own0=>?_
   try refine wk ?_
   exact .two (.cell rfl rfl rfl rfl (.aggd rfl (.refl _))) (.tmp rfl (.one (.d (.refl _))))
  rw[if_neg (by rw[hsA];simpa using hs1)]
  have hw:=hW.d d (List.mem_of_getElem? hd)
  have cn:=ok_pneeds e A d hs hd (wrong_keys hw).1 hS.k hW.nb
  cases hne:needs e A d with
  |nil =>
   rw[if_pos rfl]
   rw[hne]at cn
   have:=pgo_loop e A d hs hd hW.l hn hS.k hw hc (e.base+e.deeds.length) (fun c hc=>⟨hS.v c hc,hS.b c hc⟩) hne s hsA hs1 cn
   rw[pgoNew_eq hW hd]at this
   exact this
  |cons x l =>
   rw[if_neg (by simp)]
   rw[hne]at cn
   have hnl:(needs e A d).length≤268435456:=by
    have:=needs_len e.chains e.base (e.base+A) (keysD d) (List.range A) 0
    unfold needs
    simp at this
    omega
   rw[hne]at hnl
   have hpos:((x::l).length:Int) > 0:=by simp
   refine fnOk_of tbl_ok mixed_ok Tryz.func65 rfl (by kernel_rfl) rfl rfl fun w0 own0=>?_
   try refine wk ?_
   exact .two (.cell rfl rfl rfl rfl (.aggd rfl (.refl _))) (.tmp rfl (.one (.d (.refl _))))
theorem RInv.go {r:Replica}(h:RInv r) (n:Int):RInv (goR r n).1:=by
 unfold goR
 split
 ·
  exact h
 split
 ·
  next x hx =>
  obtain⟨q,hb⟩:=h.b
  exact⟨h.e.goE x,⟨q,hb.goE x⟩,h.n,h.l,h.w,h.g,h.d⟩
 ·
  exact h
theorem RInv.clear {r:Replica}(h:RInv r):RInv (clearR r):=by
 obtain⟨q,hb⟩:=h.b
 exact⟨h.e.clearE,⟨_,hb.clearE⟩,h.n,h.l,h.w,h.g,h.d⟩
theorem ready_small {e:Engine}(hs:e.Sm):(ready e).length≤134217728:=by
 have:=readyGo_len (e:=e) e.state 0
 have h5:=hs.s
 unfold ready;omega
theorem ok_repGo (r:Replica) (n:Int) (h:RInv r):FnOk Tryz.prog 40 [.d (.agg r.enc),.d (dint n)] (.tup [.agg (goR r n).1.enc,dint (goR r n).2]):=by
 refine fnOk_of tbl_ok mixed_ok Tryz.func40 rfl (by kernel_rfl) rfl rfl fun w0 own0=>?_
 obtain⟨q,hb⟩:=h.b
 have hs:=h.sm.e
 have c0:=ok_repOwn r h.sm
 have c1:=ok_pready r.engine hs h.e.z.s (fun d hd=>(wrong_keys (hb.W.d d hd)).1) hb.S.k hb.W.nb
 have c2:=fun x=>ok_pgoE r.engine x hs hb.S hb.W h.e.c h.e.z.n
 have hrl:=ready_small hs
 unfold goR
 by_cases h1:n < 0
 ·
  rw[if_pos h1]
  try refine wk ?_
  exact .two (.cell rfl rfl rfl rfl (.aggd (ds:=r.enc) rfl (.refl _))) (.tmp rfl (.one (.d (.refl _))))
 rw[if_neg h1]
 obtain⟨N,rfl⟩:=Int.eq_ofNat_of_zero_le (show 0≤n by omega)
 rw[Int.toNat_natCast]
 generalize ready r.engine=l at *
 cases hx:l[N]? with
 |none =>
  have hle:l.length≤N:=List.getElem?_eq_none_iff.1 hx
  try refine wk ?_
  exact .two (.cell rfl rfl rfl rfl (.aggd (ds:=r.enc) rfl (.refl _))) (.tmp rfl (.one (.d (.refl _))))
 |some x =>
  have hlt:=(List.getElem?_eq_some_iff.1 hx).1
  dsimp only
  have c3:=c2 x
  generalize (goE r.engine x).1=E at *
  generalize (goE r.engine x).2=v at *
  have hxm:(l.map encInt1)[N]? = some (encInt1 x):=by rw[List.getElem?_map,hx];rfl
  repeat(first|refine wa ?_|((with_reducible apply s5);(first|exact a_call c3 rfl by_sub|exact by_oa|exact by_ca);exact by_g)|refine wb ?_)
  exact .two (.cell rfl rfl rfl rfl (.aggd (ds:=Replica.enc ⟨E,r.next,r.early⟩) rfl (.refl _))) (.tmp rfl (.one (.d (.refl _))))
theorem ok_repClear (r:Replica) (h:RInv r):FnOk Tryz.prog 41 [.d (.agg r.enc)] (.one (.agg (clearR r).enc)):=by
 refine fnOk_of tbl_ok mixed_ok Tryz.func41 rfl (by kernel_rfl) rfl rfl fun w0 own0=>?_
 obtain⟨q,hb⟩:=h.b
 have c0:=ok_repOwn r h.sm
 have c1:=ok_pclearE r.engine h.sm.e h.e.z.s h.e.z.n
 rw[pclearE_eq hb.S]at c1
 unfold clearR
 generalize clearE r.engine=E at *
 try refine wk ?_
 exact .one (.cell rfl rfl rfl rfl (.aggd (ds:=Replica.enc ⟨E,r.next,r.early⟩) rfl (.refl _)))
theorem ok_repSeen (r:Replica) (h:RInv r):FnOk Tryz.prog 16 [.d (.agg r.enc)] (.one (encRows (seenE r.engine (markN r.engine.state)).1)):=by
 refine fnOk_of tbl_ok mixed_ok Tryz.func16 rfl (by kernel_rfl) rfl rfl fun w0 own0=>?_
 obtain⟨q,hb⟩:=h.b
 have hs:=h.sm.e
 have c0:=ok_tmark r.engine hs.s
 have c1:=ok_pseen r.engine (markN r.engine.state) hs hb.S.k
 generalize seenE r.engine (markN r.engine.state)=p at *
 obtain⟨p1,p2⟩:=p
 try refine wk ?_
 exact .one (.tmp rfl (.one (.d (.refl _))))
inductive ArgsLe:List Arg→List Arg→Prop
 |nil:ArgsLe [] []
 |d {x y:D} {xs ys:List Arg} (h:DLe x y) (hr:ArgsLe xs ys):ArgsLe (.d x::xs) (.d y::ys)
theorem ArgsLe.ok {w:World}{own:Nat→Prop}{xs ys:List Arg}(h:ArgsLe xs ys):∀ {vs:List Value},ArgsOk w own vs xs→ArgsOk w own vs ys:=by
 induction h with
 |nil=>exact fun ha=>ha
 |d h hr ih =>
  intro vs ha
  cases vs with
  |nil=>exact ha.elim
  |cons v vs=>exact⟨Rd.le h ha.1,ih ha.2⟩
theorem fnOk_le {P:Program}{f:FuncId}{xs ys:List Arg}{r:Res}(h:FnOk P f ys r) (hle:ArgsLe xs ys):FnOk P f xs r:=⟨h.run,fun w own vs ho ha=>h.calls w own vs ho (hle.ok ha)⟩
def QC (L:List Entry) (k:Nat) (e:Engine):Prop:=∃ m:Nat,e.base=m∧m≤(dOf L k).length∧e.deeds=(dOf L k).drop m∧BInv e (sq [] (dOf L k) m)
theorem dOf_ext {L M:List Entry}{k:Nat}(h:k≤L.length):dOf (L++M) k=dOf L k:=by
 unfold dOf
 rw[List.take_append_of_le_length h]
theorem dOf_pre {L:List Entry}{k:Nat}(h:k≤L.length):∃ t,dOf L L.length=dOf L k++t:=by
 refine⟨(L.drop k).flatMap Entry.deeds,?_⟩
 unfold dOf
 rw[← List.flatMap_append,List.take_append_drop,List.take_length]
theorem QC.adds {L:List Entry}(hw:∀ x∈L,wrongEntry x=0):Adds L (QC L):=by
 rintro k e x ⟨m,h1,h2,h3,h4⟩ hx
 obtain⟨_,_,hx3,hx4⟩:=wrongEntry_out (hw x (List.mem_of_getElem? hx))
 rw[addE_right hx3]
 have hd:=addAll_deeds (l:=x.deeds) (e:=e)
 refine⟨m,hd.2.trans h1,?_,?_,?_⟩
 ·
  rw[dOf_succ hx,List.length_append];omega
 ·
  rw[hd.1,h3,dOf_succ hx,List.drop_append_of_le_length h2]
 ·
  rw[dOf_succ hx,sq_append h2]
  exact h4.addAll hx4
theorem QC.go {L:List Entry}{k:Nat}{e:Engine}(h:QC L k e) (x:Int):QC L k (goE e x).1:=by
 obtain⟨m,h1,h2,h3,h4⟩:=h
 obtain⟨g1,g2⟩:=goE_deeds e x
 exact⟨m,g2.trans h1,h2,g1.trans h3,h4.goE x⟩
theorem QC.clear {L:List Entry}{k:Nat}{e:Engine}(h:QC L k e):QC L k (clearE e):=by
 obtain⟨m,h1,h2,h3,h4⟩:=h
 have hm:=markN_le e.state
 have hl:=h4.W.l
 have hdl:e.deeds.length=(dOf L k).length - m:=by rw[h3,List.length_drop]
 refine⟨m+markN e.state,?_,by omega,?_,?_⟩
 ·
  show e.base+(markN e.state:Int)=_
  rw[h1];omega
 ·
  show e.deeds.drop (markN e.state)=_
  rw[h3,List.drop_drop]
 ·
  have hc:=h4.clearE
  rw[h3,sq_drop _ (by omega)]at hc
  exact hc
theorem CInv.ext {L M:List Entry}{r:Replica}(h:CInv L (QC L) r):CInv (L++M) (QC (L++M)) r:=by
 obtain⟨⟨k,h1,h2,h3⟩,he,hd⟩:=h
 refine⟨⟨k,h1,by rw[List.length_append];omega,?_⟩,fun x hx=>?_,hd⟩
 ·
  unfold QC at h3 ⊢
  rw[dOf_ext h2];exact h3
 ·
  obtain⟨g1,i,g2,g3⟩:=he x hx
  refine⟨g1,i,g2,?_⟩
  rw[List.getElem?_append_left (List.getElem?_eq_some_iff.1 g3).1];exact g3
theorem CInv.go {L:List Entry}{r:Replica}(h:CInv L (QC L) r) (n:Int):CInv L (QC L) (goR r n).1:=by
 unfold goR
 split
 ·
  exact h
 split
 ·
  obtain⟨⟨k,h1,h2,h3⟩,he,hd⟩:=h
  exact⟨⟨k,h1,h2,h3.go _⟩,he,hd⟩
 ·
  exact h
theorem CInv.clear {L:List Entry}{r:Replica}(h:CInv L (QC L) r):CInv L (QC L) (clearR r):=by
 obtain⟨⟨k,h1,h2,h3⟩,he,hd⟩:=h
 exact⟨⟨k,h1,h2,h3.clear⟩,he,hd⟩
theorem noR_c (L:List Entry):CInv L (QC L) noR :=
 ⟨⟨0,rfl,by omega,0,rfl,by omega,rfl,newE_b (r:=[]) (by decide)⟩,by simp[noR],by simp[noR]⟩
structure KInv (c:Cluster):Prop where
 l:c.log.length≤12
 w:∀ (i:Nat) (x:Entry),c.log[i]? = some x→x.number=i∧wrongEntry x=0
 k:c.reps.length≤3
 r:∀ r∈c.reps,RInv r∧CInv c.log (QC c.log) r
 p:c.net.length≤16
 d:∀ p∈c.net,(0≤p.dst∧p.dst < c.reps.length)∧∃ (i:Nat) (e:Entry),c.log[i]? = some e∧p.data=bytesE e
theorem KInv.right {c:Cluster}(h:KInv c):∀ x∈c.log,wrongEntry x=0:=fun x hx=>by
 obtain⟨i,hi⟩:=List.mem_iff_getElem?.1 hx
 exact(h.w i x hi).2
theorem newC_inv {n:Int}(h:n≤3):KInv (newC n):=by
 refine⟨by simp[newC],fun i x hx=>by simp[newC]at hx,by simp[newC];omega,fun r hr=>?_,by simp[newC],fun p hp=>by simp[newC]at hp⟩
 obtain rfl:r=noR:=by simp[newC]at hr;exact hr.2
 exact⟨noR_inv,noR_c _⟩
theorem KInv.batch {c:Cluster}(h:KInv c) (l:List Deed):KInv (batchC c l).1:=by
 unfold batchC
 split
 ·
  exact h
 split
 ·
  next h1 h2 =>
  refine⟨by simp;omega,fun i x hx=>?_,h.k,fun r hr=>⟨(h.r r hr).1,(h.r r hr).2.ext⟩,h.p,fun p hp=>?_⟩
  ·
   dsimp only at hx
   rcases Nat.lt_or_ge i c.log.length with hi|hi
   ·
    rw[List.getElem?_append_left hi]at hx;exact h.w i x hx
   ·
    rw[List.getElem?_append_right hi]at hx
    have hi0:i=c.log.length:=by
     have:=(List.getElem?_eq_some_iff.1 hx).1
     simp at this;omega
    subst hi0
    simp at hx
    subst hx
    exact⟨rfl,h2⟩
  ·
   obtain⟨h3,i,e,h4,h5⟩:=h.d p hp
   exact⟨h3,i,e,by dsimp only;rw[List.getElem?_append_left (List.getElem?_eq_some_iff.1 h4).1];exact h4,h5⟩
 ·
  exact h
theorem KInv.send {c:Cluster}(h:KInv c) (n m:Int):KInv (sendC c n m).1:=by
 unfold sendC
 split
 ·
  exact h
 next r hr =>
 split
 ·
  exact h
 next e he =>
 obtain⟨j,rfl,hj⟩:=nth_some hr
 obtain⟨i,rfl,hi⟩:=nth_some he
 dsimp only
 split
 ·
  refine⟨h.l,h.w,h.k,h.r,by simp;omega,fun p hp=>?_⟩
  dsimp only at hp ⊢
  rcases List.mem_append.1 hp with hp|hp
  ·
   exact h.d p hp
  ·
   rw[List.mem_singleton.1 hp]
   have:=(List.getElem?_eq_some_iff.1 hj).1
   exact⟨by dsimp only;omega,i,e,hi,rfl⟩
 ·
  exact h
theorem KInv.drop {c:Cluster}(h:KInv c) (n:Nat):KInv { c with net:=c.net.eraseIdx n } :=
 ⟨h.l,h.w,h.k,h.r,Nat.le_trans (List.eraseIdx_sublist _ _).length_le h.p,fun p hp=>h.d p (List.mem_of_mem_eraseIdx hp)⟩
theorem KInv.setR {c:Cluster}(h:KInv c) {n:Nat}{r:Replica}(hr:RInv r∧CInv c.log (QC c.log) r):KInv { c with reps:=c.reps.set n r }:=by
 refine⟨h.l,h.w,by simp;exact h.k,fun x hx=>?_,h.p,fun p hp=>?_⟩
 ·
  rcases List.mem_or_eq_of_mem_set hx with hx|rfl
  ·
   exact h.r x hx
  ·
   exact hr
 ·
  have:=h.d p hp
  dsimp only
  rw[List.length_set];exact this
theorem KInv.come1 {c:Cluster}(h:KInv c) {r:Replica}(hr:r∈c.reps) {i:Nat}{e:Entry}(he:c.log[i]? = some e):RInv (comeE r e).1∧CInv c.log (QC c.log) (comeE r e).1:=by
 obtain⟨h1,h2⟩:=h.r r hr
 obtain⟨h3,h4⟩:=h.w i e he
 exact⟨comeE_inv h1 h4,(h2.come (QC.adds h.right) he h3).1⟩
theorem KInv.come {c:Cluster}(h:KInv c) {p:Packet}(hp:∃ (i:Nat) (e:Entry),c.log[i]? = some e∧p.data=bytesE e):KInv (comeC c p):=by
 obtain⟨i,e,h1,h2⟩:=hp
 unfold comeC
 split
 ·
  exact h
 next r hr =>
 obtain⟨j,hj1,hj⟩:=nth_some hr
 rw[h2,parse_bytes (h.w i e h1).2]
 exact h.setR (h.come1 (List.mem_of_getElem? hj) h1)
theorem KInv.packet {c:Cluster}(h:KInv c) (k n:Int):KInv (packetC c k n).1:=by
 unfold packetC
 split
 ·
  exact h
 next p hp =>
 obtain⟨j,rfl,hj⟩:=nth_some hp
 have hd:=h.d p (List.mem_of_getElem? hj)
 split
 ·
  dsimp only
  split
  ·
   refine⟨h.l,h.w,h.k,h.r,by simp;omega,fun q hq=>?_⟩
   rcases List.mem_append.1 hq with hq|hq
   ·
    exact h.d q hq
   ·
    rw[List.mem_singleton.1 hq];exact hd
  ·
   exact h
 split
 ·
  exact h.drop _
 ·
  exact(h.drop _).come hd.2
theorem KInv.run {c:Cluster}(h:KInv c) (n m:Int):KInv (runC c n m).1:=by
 unfold runC
 split
 ·
  exact h
 next r hr =>
 obtain⟨j,rfl,hj⟩:=nth_some hr
 obtain⟨h1,h2⟩:=h.r r (List.mem_of_getElem? hj)
 exact h.setR ⟨h1.go m,h2.go m⟩
theorem KInv.clr {c:Cluster}(h:KInv c) (n:Int):KInv (clrC c n).1:=by
 unfold clrC
 split
 ·
  exact h
 next r hr =>
 obtain⟨j,rfl,hj⟩:=nth_some hr
 obtain⟨h1,h2⟩:=h.r r (List.mem_of_getElem? hj)
 exact h.setR ⟨h1.clear,h2.clear⟩
theorem KInv.step {c:Cluster}(h:KInv c) (s:Step):KInv (doC c s).1:=by
 unfold doC
 split
 ·
  exact h.batch _
 split
 ·
  exact h.send _ _
 split
 ·
  exact h.packet _ _
 split
 ·
  exact h.run _ _
 split
 ·
  exact h.clr _
 ·
  exact h
theorem KInv.play:∀ {l:List Step}{c:Cluster},KInv c→KInv (playC c l)
 | [],_,h=>h
 |s::l,c,h=>by
  simp only[playC]
  exact KInv.play (h.step s)
theorem QC.out {L:List Entry}{k:Nat}{e:Engine}(h:QC L k e):∃ m:Nat,e.base=m∧m+e.deeds.length=(dOf L k).length∧e.deeds=(dOf L k).drop m∧e.ends.length=e.deeds.length∧e.state.length=e.deeds.length ∧
  ∀ (i:Nat),e.state[i]? = some 1→e.ends[i]? = (allD [] (dOf L k)).2[m+i]? := by
 obtain⟨m,h1,h2,h3,h4⟩:=h
 have hdl:e.deeds.length=(dOf L k).length - m:=by rw[h3,List.length_drop]
 refine⟨m,h1,by omega,h3,h4.n,h4.W.l,fun i hi=>?_⟩
 have hil:=(List.getElem?_eq_some_iff.1 hi).1
 have hl:=h4.W.l
 obtain⟨d,hd⟩:∃ d,e.deeds[i]? = some d:=⟨e.deeds[i]'(by omega),List.getElem?_eq_getElem (by omega)⟩
 rw[h4.Q.w i d hd hi]
 have hd':=hd
 rw[h3,List.getElem?_drop]at hd'
 rw[allD_ends hd',h3,sq_drop _ (by omega)]
theorem QC.seen {L:List Entry}{k:Nat}{e:Engine}(h:QC L k e) (hk:k≤L.length):∃ m:Nat,e.base+(markN e.state:Int)=((m+markN e.state:Nat):Int)∧m+markN e.state≤(dOf L L.length).length ∧
  seenE e (markN e.state)=((allD [] ((dOf L L.length).take (m+markN e.state))).1,0):=by
 obtain⟨m,h1,h2,h3,h4⟩:=h
 have hdl:e.deeds.length=(dOf L k).length - m:=by rw[h3,List.length_drop]
 have hm:=markN_le e.state
 have hl:=h4.W.l
 obtain⟨t,ht⟩:=dOf_pre hk
 refine⟨m,by rw[h1];omega,by rw[ht,List.length_append];omega,?_⟩
 rw[seen_mark h4,h3,sq_drop _ (by omega),ht]
 show _=(sq [] (dOf L k++t) (m+markN e.state),0)
 rw[sq_append (by omega)]
end Go.Proofs.YtccblhpfjlgmbabGreatDoor
namespace Go.Proofs
open Go.Shelf Go.RowKit
noncomputable def Tryz.laysC172_ren : Go.Shelf.Ren := ⟨fun | 129 => 110 | 171 => 18 | 172 => 73 | 205 => 166 | 243 => 31 | 244 => 106 | 245 => 107 | 246 => 56 | 247 => 133 | 279 => 134 | 280 => 135 | 281 => 136 | 282 => 137 | 283 => 77 | 284 => 78 | 285 => 79 | 286 => 80 | 287 => 164 | 316 => 165 | 317 => 109 | 318 => 111 | 319 => 112 | 320 => 113 | 321 => 181 | 322 => 182 | 337 => 145 | 338 => 146 | n => n, fun | 0 => 0 | 2 => 2 | 3 => 3 | 4 => 4 | 5 => 5 | 9 => 9 | 20 => 20 | 21 => 21 | 37 => 98 | 46 => 154 | 51 => 184 | 53 => 143 | 75 => 138 | 76 => 139 | 85 => 204 | 127 => 253 | 143 => 257 | 145 => 259 | 167 => 203 | 168 => 206 | 171 => 142 | 173 => 146 | 175 => 237 | 210 => 241 | 212 => 183 | 213 => 185 | 232 => 245 | 233 => 246 | 80 => 229 | n => n, fun | 15 => (Tryz.prog.globals.findIdx? (·.name == "strconv.ErrSyntax")).getD 0 | 16 => (Tryz.prog.globals.findIdx? (·.name == "strconv.ErrRange")).getD 0 | 17 => (Tryz.prog.globals.findIdx? (·.name == "internal/strconv.uint64pow10")).getD 0 | 18 => (Tryz.prog.globals.findIdx? (·.name == "math/bits.deBruijn32tab")).getD 0 | 19 => (Tryz.prog.globals.findIdx? (·.name == "math/bits.deBruijn64tab")).getD 0 | n => n⟩
theorem Tryz.laysC172:Go.Proofs.LaysC.n172 Tryz.prog Tryz.laysC172_ren:={
 mixed:=by kernel_rfl
 f129:=Tryz.func110.trans (congrArg some (by kernel_rfl))
 f171:=Tryz.func18.trans (congrArg some (by kernel_rfl))
 f172:=Tryz.func73.trans (congrArg some (by kernel_rfl))
 f205:=Tryz.func166.trans (congrArg some (by kernel_rfl))
 f243:=Tryz.func31.trans (congrArg some (by kernel_rfl))
 f244:=Tryz.func106.trans (congrArg some (by kernel_rfl))
 f245:=Tryz.func107.trans (congrArg some (by kernel_rfl))
 f246:=Tryz.func56.trans (congrArg some (by kernel_rfl))
 f247:=Tryz.func133.trans (congrArg some (by kernel_rfl))
 f279:=Tryz.func134.trans (congrArg some (by kernel_rfl))
 f280:=Tryz.func135.trans (congrArg some (by kernel_rfl))
 f281:=Tryz.func136.trans (congrArg some (by kernel_rfl))
 f282:=Tryz.func137.trans (congrArg some (by kernel_rfl))
 f283:=Tryz.func77.trans (congrArg some (by kernel_rfl))
 f284:=Tryz.func78.trans (congrArg some (by kernel_rfl))
 f285:=Tryz.func79.trans (congrArg some (by kernel_rfl))
 f286:=Tryz.func80.trans (congrArg some (by kernel_rfl))
 f287:=Tryz.func164.trans (congrArg some (by kernel_rfl))
 f316:=Tryz.func165.trans (congrArg some (by kernel_rfl))
 f317:=Tryz.func109.trans (congrArg some (by kernel_rfl))
 f318:=Tryz.func111.trans (congrArg some (by kernel_rfl))
 f319:=Tryz.func112.trans (congrArg some (by kernel_rfl))
 f320:=Tryz.func113.trans (congrArg some (by kernel_rfl))
 f321:=Tryz.func181.trans (congrArg some (by kernel_rfl))
 f322:=Tryz.func182.trans (congrArg some (by kernel_rfl))
 f337:=Tryz.func145.trans (congrArg some (by kernel_rfl))
 f338:=Tryz.func146.trans (congrArg some (by kernel_rfl))
 t0:=Tryz.underlying0
 a0:=Tryz.isAgg0
 z0:=Tryz.sizeOf0
 v0:=Tryz.zeroValue0
 t2:=Tryz.underlying2
 a2:=Tryz.isAgg2
 z2:=Tryz.sizeOf2
 v2:=Tryz.zeroValue2
 t3:=Tryz.underlying3
 a3:=Tryz.isAgg3
 z3:=Tryz.sizeOf3
 v3:=Tryz.zeroValue3
 t4:=Tryz.underlying4
 a4:=Tryz.isAgg4
 z4:=Tryz.sizeOf4
 v4:=Tryz.zeroValue4
 t5:=Tryz.underlying5
 a5:=Tryz.isAgg5
 z5:=Tryz.sizeOf5
 v5:=Tryz.zeroValue5
 t9:=Tryz.underlying9
 a9:=Tryz.isAgg9
 z9:=Tryz.sizeOf9
 v9:=Tryz.zeroValue9
 t20:=Tryz.underlying20
 a20:=Tryz.isAgg20
 z20:=Tryz.sizeOf20
 v20:=Tryz.zeroValue20
 t21:=Tryz.underlying21
 a21:=Tryz.isAgg21
 z21:=Tryz.sizeOf21
 v21:=Tryz.zeroValue21
 t37:=Tryz.underlying98
 a37:=Tryz.isAgg98
 z37:=Tryz.sizeOf98
 v37:=Tryz.zeroValue98
 t46:=Tryz.underlying154
 a46:=Tryz.isAgg154
 z46:=Tryz.sizeOf154
 v46:=Tryz.zeroValue154
 t51:=Tryz.underlying184
 a51:=Tryz.isAgg184
 z51:=Tryz.sizeOf184
 v51:=Tryz.zeroValue184
 t53:=Tryz.underlying143
 a53:=Tryz.isAgg143
 z53:=Tryz.sizeOf143
 v53:=Tryz.zeroValue143
 t75:=Tryz.underlying138
 a75:=Tryz.isAgg138
 z75:=Tryz.sizeOf138
 v75:=Tryz.zeroValue138
 t76:=Tryz.underlying139
 a76:=Tryz.isAgg139
 z76:=Tryz.sizeOf139
 v76:=Tryz.zeroValue139
 t85:=Tryz.underlying204
 a85:=Tryz.isAgg204
 z85:=Tryz.sizeOf204
 v85:=Tryz.zeroValue204
 t127:=Tryz.underlying253
 a127:=Tryz.isAgg253
 z127:=Tryz.sizeOf253
 v127:=Tryz.zeroValue253
 t143:=Tryz.underlying257
 a143:=Tryz.isAgg257
 z143:=Tryz.sizeOf257
 v143:=Tryz.zeroValue257
 t145:=Tryz.underlying259
 a145:=Tryz.isAgg259
 z145:=Tryz.sizeOf259
 v145:=Tryz.zeroValue259
 t167:=Tryz.underlying203
 a167:=Tryz.isAgg203
 z167:=Tryz.sizeOf203
 v167:=Tryz.zeroValue203
 t168:=Tryz.underlying206
 a168:=Tryz.isAgg206
 z168:=Tryz.sizeOf206
 v168:=Tryz.zeroValue206
 t171:=Tryz.underlying142
 a171:=Tryz.isAgg142
 z171:=Tryz.sizeOf142
 v171:=Tryz.zeroValue142
 t173:=Tryz.underlying146
 a173:=Tryz.isAgg146
 z173:=Tryz.sizeOf146
 v173:=Tryz.zeroValue146
 t175:=Tryz.underlying237
 a175:=Tryz.isAgg237
 z175:=Tryz.sizeOf237
 v175:=Tryz.zeroValue237
 t210:=Tryz.underlying241
 a210:=Tryz.isAgg241
 z210:=Tryz.sizeOf241
 v210:=Tryz.zeroValue241
 t212:=Tryz.underlying183
 a212:=Tryz.isAgg183
 z212:=Tryz.sizeOf183
 v212:=Tryz.zeroValue183
 t213:=Tryz.underlying185
 a213:=Tryz.isAgg185
 z213:=Tryz.sizeOf185
 t232:=Tryz.underlying245
 a232:=Tryz.isAgg245
 z232:=Tryz.sizeOf245
 v232:=Tryz.zeroValue245
 t233:=Tryz.underlying246
 a233:=Tryz.isAgg246
 z233:=Tryz.sizeOf246
 v233:=Tryz.zeroValue246
 g15:=by kernel_rfl
 g16:=by kernel_rfl
 g17:=by kernel_rfl
 g18:=by kernel_rfl
 g19:=by kernel_rfl
 t80:=Tryz.underlying229
 a80:=Tryz.isAgg229
 z80:=Tryz.sizeOf229
 v80:=Tryz.zeroValue229
 i0:=by kernel_rfl
 i2:=by kernel_rfl
 i3:=by kernel_rfl
 i4:=by kernel_rfl
 i5:=by kernel_rfl
 i9:=by kernel_rfl
 i20:=by kernel_rfl
 i21:=by kernel_rfl
 i37:=by kernel_rfl
 i46:=by kernel_rfl
 i51:=by kernel_rfl
 i53:=by kernel_rfl
 i75:=by kernel_rfl
 i76:=by kernel_rfl
 i80:=by kernel_rfl
 i85:=by kernel_rfl
 i127:=by kernel_rfl
 i143:=by kernel_rfl
 i145:=by kernel_rfl
 i167:=by kernel_rfl
 i168:=by kernel_rfl
 i171:=by kernel_rfl
 i173:=by kernel_rfl
 i175:=by kernel_rfl
 i210:=by kernel_rfl
 i212:=by kernel_rfl
 i232:=by kernel_rfl
 i233:=by kernel_rfl
 m15:=by kernel_rfl
 m16:=by kernel_rfl
 m17:=by kernel_rfl
 m18:=by kernel_rfl
 m19:=by kernel_rfl
 c0:=by kernel_rfl
 c2:=by kernel_rfl
 c3:=by kernel_rfl
 c4:=by kernel_rfl
 c5:=by kernel_rfl
 c9:=by kernel_rfl
 c20:=by kernel_rfl
 c21:=by kernel_rfl
 c37:=by kernel_rfl
 c46:=by kernel_rfl
 c51:=by kernel_rfl
 c53:=by kernel_rfl
 c75:=by kernel_rfl
 c76:=by kernel_rfl
 c80:=by kernel_rfl
 c85:=by kernel_rfl
 c127:=by kernel_rfl
 c143:=by kernel_rfl
 c145:=by kernel_rfl
 c167:=by kernel_rfl
 c168:=by kernel_rfl
 c171:=by kernel_rfl
 c173:=by kernel_rfl
 c175:=by kernel_rfl
 c210:=by kernel_rfl
 c212:=by kernel_rfl
 c213:=by kernel_rfl
 c232:=by kernel_rfl
 c233:=by kernel_rfl
 }
noncomputable def Tryz.laysM171_ren : Go.Shelf.Ren := ⟨fun | 129 => 110 | 171 => 18 | 243 => 31 | 246 => 56 | 283 => 77 | 284 => 78 | 285 => 79 | 286 => 80 | 317 => 109 | 318 => 111 | 319 => 112 | 320 => 113 | 337 => 145 | 338 => 146 | n => n, fun | 0 => 0 | 2 => 2 | 3 => 3 | 4 => 4 | 5 => 5 | 9 => 9 | 20 => 20 | 37 => 98 | 46 => 154 | 51 => 184 | 53 => 143 | 171 => 142 | 173 => 146 | 212 => 183 | 213 => 185 | 232 => 245 | 233 => 246 | n => n, fun | 17 => (Tryz.prog.globals.findIdx? (·.name == "internal/strconv.uint64pow10")).getD 0 | 18 => (Tryz.prog.globals.findIdx? (·.name == "math/bits.deBruijn32tab")).getD 0 | 19 => (Tryz.prog.globals.findIdx? (·.name == "math/bits.deBruijn64tab")).getD 0 | n => n⟩
theorem Tryz.laysM171:Go.Proofs.LaysM.n171 Tryz.prog Tryz.laysM171_ren:={
 mixed:=by kernel_rfl
 f129:=Tryz.func110.trans (congrArg some (by kernel_rfl))
 f171:=Tryz.func18.trans (congrArg some (by kernel_rfl))
 f243:=Tryz.func31.trans (congrArg some (by kernel_rfl))
 f246:=Tryz.func56.trans (congrArg some (by kernel_rfl))
 f283:=Tryz.func77.trans (congrArg some (by kernel_rfl))
 f284:=Tryz.func78.trans (congrArg some (by kernel_rfl))
 f285:=Tryz.func79.trans (congrArg some (by kernel_rfl))
 f286:=Tryz.func80.trans (congrArg some (by kernel_rfl))
 f317:=Tryz.func109.trans (congrArg some (by kernel_rfl))
 f318:=Tryz.func111.trans (congrArg some (by kernel_rfl))
 f319:=Tryz.func112.trans (congrArg some (by kernel_rfl))
 f320:=Tryz.func113.trans (congrArg some (by kernel_rfl))
 f337:=Tryz.func145.trans (congrArg some (by kernel_rfl))
 f338:=Tryz.func146.trans (congrArg some (by kernel_rfl))
 t0:=Tryz.underlying0
 a0:=Tryz.isAgg0
 z0:=Tryz.sizeOf0
 v0:=Tryz.zeroValue0
 t2:=Tryz.underlying2
 a2:=Tryz.isAgg2
 z2:=Tryz.sizeOf2
 v2:=Tryz.zeroValue2
 t3:=Tryz.underlying3
 a3:=Tryz.isAgg3
 z3:=Tryz.sizeOf3
 v3:=Tryz.zeroValue3
 t4:=Tryz.underlying4
 a4:=Tryz.isAgg4
 z4:=Tryz.sizeOf4
 v4:=Tryz.zeroValue4
 t5:=Tryz.underlying5
 a5:=Tryz.isAgg5
 z5:=Tryz.sizeOf5
 v5:=Tryz.zeroValue5
 t9:=Tryz.underlying9
 a9:=Tryz.isAgg9
 z9:=Tryz.sizeOf9
 v9:=Tryz.zeroValue9
 t20:=Tryz.underlying20
 a20:=Tryz.isAgg20
 z20:=Tryz.sizeOf20
 v20:=Tryz.zeroValue20
 t37:=Tryz.underlying98
 a37:=Tryz.isAgg98
 z37:=Tryz.sizeOf98
 v37:=Tryz.zeroValue98
 t46:=Tryz.underlying154
 a46:=Tryz.isAgg154
 z46:=Tryz.sizeOf154
 v46:=Tryz.zeroValue154
 t51:=Tryz.underlying184
 a51:=Tryz.isAgg184
 z51:=Tryz.sizeOf184
 v51:=Tryz.zeroValue184
 t53:=Tryz.underlying143
 a53:=Tryz.isAgg143
 z53:=Tryz.sizeOf143
 v53:=Tryz.zeroValue143
 t171:=Tryz.underlying142
 a171:=Tryz.isAgg142
 z171:=Tryz.sizeOf142
 v171:=Tryz.zeroValue142
 t173:=Tryz.underlying146
 a173:=Tryz.isAgg146
 z173:=Tryz.sizeOf146
 v173:=Tryz.zeroValue146
 t212:=Tryz.underlying183
 a212:=Tryz.isAgg183
 z212:=Tryz.sizeOf183
 v212:=Tryz.zeroValue183
 t213:=Tryz.underlying185
 a213:=Tryz.isAgg185
 z213:=Tryz.sizeOf185
 t232:=Tryz.underlying245
 a232:=Tryz.isAgg245
 z232:=Tryz.sizeOf245
 v232:=Tryz.zeroValue245
 t233:=Tryz.underlying246
 a233:=Tryz.isAgg246
 z233:=Tryz.sizeOf246
 v233:=Tryz.zeroValue246
 g17:=by kernel_rfl
 g18:=by kernel_rfl
 g19:=by kernel_rfl
 i0:=by kernel_rfl
 i2:=by kernel_rfl
 i3:=by kernel_rfl
 i4:=by kernel_rfl
 i5:=by kernel_rfl
 i9:=by kernel_rfl
 i20:=by kernel_rfl
 i37:=by kernel_rfl
 i46:=by kernel_rfl
 i51:=by kernel_rfl
 i53:=by kernel_rfl
 i171:=by kernel_rfl
 i173:=by kernel_rfl
 i212:=by kernel_rfl
 i232:=by kernel_rfl
 i233:=by kernel_rfl
 m17:=by kernel_rfl
 m18:=by kernel_rfl
 m19:=by kernel_rfl
 }
end Go.Proofs
namespace Go.AX
open Go.RowKit
variable {cx:Cx}{g:Nat→Value}{σ σ':St}{a:Act}{w w':World}{nx:Nat}
variable {ty:TypeId}{pos:String}{af:Array Edge}{gd:Option (Nat×Bool)}{d:Nat}
def errP (_w:World) (_own:Nat→Prop) (v:Value):Prop:=∃ t p,v = .iface t p
def errD:D := .x errP
theorem err_stable:Stable errP:=fun _ _ _ _ _ _ _ h=>h
theorem rd_err {own:Nat→Prop}{t:TypeId}{p:Value}:Rd w own (.iface t p) errD := .x errP _ rfl err_stable ⟨t,p,rfl⟩
theorem a_err {t t':TypeId}{x:Operand}{ms:Array (String×TypeId)}(hx:ev σ x=some (.d errD)) (ht:cx.P.underlying t=some (.interface ms)) (hd:Nat.blt d cx.n=true) :
  OA cx σ ⟨some d,.binOp .eql t x (.const .nilIface) t',ty,pos,af,gd⟩ ⟨rdOf x (.d errD),[(.s d,.av (.d (.v (.bool false))))]⟩:=by
 refine⟨ok_val rfl (lt_of_blt hd) fun σ1 a w g nx hs hr=>?_,(ev_out hx).2⟩
 obtain⟨t1,p1,hv⟩:=rd_x (hs.ev (ev_out hx).1 hr).1
 refine⟨.bool false,w,?_,Below.refl _ _,Rd.v _,trivial⟩
 have h:∀ d:Nat,(Op.equalIn (d+1) t (.iface t1 p1) .nilIface).run cx.P w = .ok false w:=fun d=>by
  simp[Op.equalIn,run_underlying ht]
 have hg:eqGuard .eql t x (.const .nilIface) (.iface t1 p1) .nilIface=pure ():=by cases x <;> rfl
 have hc:a.eval (.const .nilIface) = .nilIface:=rfl
 simp[execOp,hv,hc,hg,binOp,Op.equal,Op.maxDepth,h 9999]
end Go.AX
namespace Go.Proofs.YtccblhpfjlgmbabGreatDoor
open Go.AX Go.RF Go.RowKit
set_option maxRecDepth 100000
set_option maxHeartbeats 4000000
def atoiV (s:Str):Int:=match Lib.atoiAll s with
 |.ok v=>v
 |.range=>Lib.atoiSat s
 |_=>0
def atoiE (s:Str):D:=match Lib.atoiAll s with
 |.ok _ => .v .nilIface
 |_=>errD
theorem tup2 {w:World}{own:Nat→Prop}{u v:Value}{x y:D}(h1:Rd w own u x) (h2:Rd w own v y):ResOk w own (.tuple #[u,v]) (.tup [x,y]):=by
 refine⟨_,rfl,rfl,fun j c z hj hc=>?_⟩
 match j,hj,hc with
 |0,hj,hc=>simp at hj hc;subst hj hc;exact h1
 |1,hj,hc=>simp at hj hc;subst hj hc;exact h2
 |j+2,hj,hc=>simp at hj
theorem ok_atoiG (s:Str) (hs:s.length≤1073741824):FnOk Tryz.prog 73 [.d (dstr s)] (.tup [dint (atoiV s),atoiE s]):=by
 refine⟨⟨_,Tryz.func73,by kernel_rfl,by kernel_rfl⟩,fun w own vs hown ha=>?_⟩
 match vs,ha with
 | [x],⟨h1,_⟩ =>
  obtain rfl:x=str s:=rd_v h1
  have hsz:(⟨s.toArray⟩:ByteArray).size=s.length:=by show s.toArray.size=_;simp
  cases hc:Lib.atoiAll s with
  |ok v =>
   refine(Any.strconv_Atoi_ok Tryz.laysC172 ⟨s.toArray⟩ (by rw[hsz];omega) v (by simpa using hc) w).mono fun e w' he=>?_
   obtain⟨rfl,hw⟩:=he
   refine⟨_,rfl,?_,?_⟩
   ·
    rcases hw with rfl|⟨t,rfl⟩
    ·
     exact Below.refl _ _
    ·
     exact Lib.bytesWorld_below _ _ _
   ·
    unfold atoiV atoiE;rw[hc];exact tup2 (Rd.v _) (Rd.v _)
  |range =>
   obtain⟨cs,hv,tp,p,rfl⟩:=hown.2.er _ Tryz.laysC172.m16
   refine(Any.strconv_Atoi_range_var Tryz.laysC172 ⟨s.toArray⟩ (by rw[hsz];omega) (by simpa using hc) tp p w hv).mono fun e w' he=>?_
   obtain⟨N,rfl,_,_,hb⟩:=he
   refine⟨_,rfl,hb,?_⟩
   unfold atoiV atoiE;rw[hc];exact tup2 (Rd.v _) rd_err
  |_ =>
   obtain⟨cs,hv,tp,p,rfl⟩:=hown.2.es _ Tryz.laysC172.m15
   refine(Any.strconv_Atoi_syntax_var Tryz.laysC172 ⟨s.toArray⟩ (by rw[hsz];omega) (by simpa using hc) tp p w hv).mono fun e w' he=>?_
   obtain⟨N,rfl,_,_,hb⟩:=he
   refine⟨_,rfl,hb,?_⟩
   unfold atoiV atoiE;rw[hc];exact tup2 (Rd.v _) rd_err
theorem ok_itoaG (n:Int) (h0 : -9223372036854775808≤n) (h1:n≤9223372036854775807):FnOk Tryz.prog 18 [.d (dint n)] (.one (dstr (Lib.itoa n))):=by
 refine⟨⟨_,Tryz.func18,by kernel_rfl,by kernel_rfl⟩,fun w own vs hown ha=>?_⟩
 match vs,ha with
 | [x],⟨h2,_⟩ =>
  obtain rfl:x=i64 n:=rd_v h2
  have htab : Lib.TabIs Tryz.prog w "internal/strconv.uint64pow10" .u64 Lib.pow10Tab := by
   obtain⟨cs,hv,rfl⟩:=hown.2.pow _ Tryz.laysM171.m17
   exact hv
  refine(Any.strconv_Itoa Tryz.laysM171 n h0 h1 w htab).mono fun e w' he=>?_
  obtain⟨rfl,k,os,rfl⟩:=he
  refine⟨_,rfl,?_,Rd.v _⟩
  exact⟨rfl,rfl,rfl,(by show w.heap.size≤(w.heap++os).size;simp),fun k hk=>(by show(w.heap++os)[k]? = w.heap[k]?;exact Array.getElem?_append_left hk)⟩
theorem atoi_in {s:Str}{v:Int}(h:Lib.atoiAll s = .ok v) : -9223372036854775808≤v∧v≤9223372036854775807:=Lib.atoiAll_bounds h
end Go.Proofs.YtccblhpfjlgmbabGreatDoor
namespace Go.Proofs
open Go.Shelf Go.RowKit
noncomputable def Tryz.lays146_ren : Go.Shelf.Ren := ⟨fun | 138 => 70 | 143 => 71 | 146 => 27 | 195 => 101 | 197 => 102 | 217 => 129 | 218 => 103 | 219 => 104 | 221 => 46 | 224 => 131 | 225 => 130 | 260 => 128 | 266 => 162 | 267 => 132 | 268 => 69 | 314 => 163 | n => n, fun | 0 => 0 | 3 => 3 | 4 => 4 | 5 => 5 | 9 => 9 | 21 => 21 | 31 => 25 | 46 => 154 | 51 => 184 | 105 => 176 | 119 => 231 | 138 => 233 | 139 => 234 | 146 => 235 | n => n, fun | 1 => (Tryz.prog.globals.findIdx? (·.name == "internal/bytealg.MaxLen")).getD 0 | 3 => (Tryz.prog.globals.findIdx? (·.name == "unicode/utf8.first")).getD 0 | 4 => (Tryz.prog.globals.findIdx? (·.name == "unicode/utf8.acceptRanges")).getD 0 | n => n⟩
theorem Tryz.lays146:Go.Proofs.Lays.n146 Tryz.prog Tryz.lays146_ren:={
 mixed:=by kernel_rfl
 f138:=Tryz.func70.trans (congrArg some (by kernel_rfl))
 f143:=Tryz.func71.trans (congrArg some (by kernel_rfl))
 f146:=Tryz.func27.trans (congrArg some (by kernel_rfl))
 f195:=Tryz.func101.trans (congrArg some (by kernel_rfl))
 f197:=Tryz.func102.trans (congrArg some (by kernel_rfl))
 f217:=Tryz.func129.trans (congrArg some (by kernel_rfl))
 f218:=Tryz.func103.trans (congrArg some (by kernel_rfl))
 f219:=Tryz.func104.trans (congrArg some (by kernel_rfl))
 f221:=Tryz.func46.trans (congrArg some (by kernel_rfl))
 f224:=Tryz.func131.trans (congrArg some (by kernel_rfl))
 f225:=Tryz.func130.trans (congrArg some (by kernel_rfl))
 f260:=Tryz.func128.trans (congrArg some (by kernel_rfl))
 f266:=Tryz.func162.trans (congrArg some (by kernel_rfl))
 f267:=Tryz.func132.trans (congrArg some (by kernel_rfl))
 f268:=Tryz.func69.trans (congrArg some (by kernel_rfl))
 f314:=Tryz.func163.trans (congrArg some (by kernel_rfl))
 t0:=Tryz.underlying0
 a0:=Tryz.isAgg0
 z0:=Tryz.sizeOf0
 v0:=Tryz.zeroValue0
 t3:=Tryz.underlying3
 a3:=Tryz.isAgg3
 z3:=Tryz.sizeOf3
 v3:=Tryz.zeroValue3
 t4:=Tryz.underlying4
 a4:=Tryz.isAgg4
 z4:=Tryz.sizeOf4
 v4:=Tryz.zeroValue4
 t5:=Tryz.underlying5
 a5:=Tryz.isAgg5
 z5:=Tryz.sizeOf5
 v5:=Tryz.zeroValue5
 t9:=Tryz.underlying9
 a9:=Tryz.isAgg9
 z9:=Tryz.sizeOf9
 v9:=Tryz.zeroValue9
 t21:=Tryz.underlying21
 a21:=Tryz.isAgg21
 z21:=Tryz.sizeOf21
 v21:=Tryz.zeroValue21
 t31:=Tryz.underlying25
 a31:=Tryz.isAgg25
 z31:=Tryz.sizeOf25
 v31:=Tryz.zeroValue25
 t46:=Tryz.underlying154
 a46:=Tryz.isAgg154
 z46:=Tryz.sizeOf154
 v46:=Tryz.zeroValue154
 t51:=Tryz.underlying184
 a51:=Tryz.isAgg184
 z51:=Tryz.sizeOf184
 v51:=Tryz.zeroValue184
 t105:=Tryz.underlying176
 a105:=Tryz.isAgg176
 z105:=Tryz.sizeOf176
 v105:=Tryz.zeroValue176
 t119:=Tryz.underlying231
 a119:=Tryz.isAgg231
 z119:=Tryz.sizeOf231
 t138:=Tryz.underlying233
 a138:=Tryz.isAgg233
 z138:=Tryz.sizeOf233
 v138:=Tryz.zeroValue233
 t139:=Tryz.underlying234
 a139:=Tryz.isAgg234
 z139:=Tryz.sizeOf234
 v139:=Tryz.zeroValue234
 t146:=Tryz.underlying235
 a146:=Tryz.isAgg235
 z146:=Tryz.sizeOf235
 v146:=Tryz.zeroValue235
 g1:=by kernel_rfl
 g3:=by kernel_rfl
 g4:=by kernel_rfl
 }
noncomputable def Tryz.lays103_ren:Go.Shelf.Ren:=⟨fun|103=>50|206=>105|210=>72|n=>n,fun|3=>3|4=>4|9=>9|24=>106|n=>n,fun|n=>n⟩
theorem Tryz.lays103:Go.Proofs.Lays.n103 Tryz.prog Tryz.lays103_ren:={
 mixed:=by kernel_rfl
 f103:=Tryz.func50.trans (congrArg some (by kernel_rfl))
 f206:=Tryz.func105.trans (congrArg some (by kernel_rfl))
 f210:=Tryz.func72.trans (congrArg some (by kernel_rfl))
 t3:=Tryz.underlying3
 a3:=Tryz.isAgg3
 z3:=Tryz.sizeOf3
 v3:=Tryz.zeroValue3
 t4:=Tryz.underlying4
 a4:=Tryz.isAgg4
 z4:=Tryz.sizeOf4
 v4:=Tryz.zeroValue4
 t9:=Tryz.underlying9
 a9:=Tryz.isAgg9
 z9:=Tryz.sizeOf9
 v9:=Tryz.zeroValue9
 t24:=Tryz.underlying106
 a24:=Tryz.isAgg106
 z24:=Tryz.sizeOf106
 v24:=Tryz.zeroValue106
 }
noncomputable def Tryz.lays156_ren:Go.Shelf.Ren:=⟨fun|156=>117|165=>157|166=>158|169=>159|240=>176|241=>177|276=>186|277=>187|n=>n,fun|0=>0|3=>3|4=>4|5=>5|9=>9|20=>20|31=>25|37=>98|70=>225|72=>227|75=>138|76=>139|80=>229|127=>253|164=>264|n=>n,fun|n=>n⟩
theorem Tryz.lays156:Go.Proofs.Lays.n156 Tryz.prog Tryz.lays156_ren:={
 mixed:=by kernel_rfl
 f156:=Tryz.func117.trans (congrArg some (by kernel_rfl))
 f165:=Tryz.func157.trans (congrArg some (by kernel_rfl))
 f166:=Tryz.func158.trans (congrArg some (by kernel_rfl))
 f169:=Tryz.func159.trans (congrArg some (by kernel_rfl))
 f240:=Tryz.func176.trans (congrArg some (by kernel_rfl))
 f241:=Tryz.func177.trans (congrArg some (by kernel_rfl))
 f276:=Tryz.func186.trans (congrArg some (by kernel_rfl))
 f277:=Tryz.func187.trans (congrArg some (by kernel_rfl))
 t0:=Tryz.underlying0
 a0:=Tryz.isAgg0
 z0:=Tryz.sizeOf0
 v0:=Tryz.zeroValue0
 t3:=Tryz.underlying3
 a3:=Tryz.isAgg3
 z3:=Tryz.sizeOf3
 v3:=Tryz.zeroValue3
 t4:=Tryz.underlying4
 a4:=Tryz.isAgg4
 z4:=Tryz.sizeOf4
 v4:=Tryz.zeroValue4
 t9:=Tryz.underlying9
 a9:=Tryz.isAgg9
 z9:=Tryz.sizeOf9
 v9:=Tryz.zeroValue9
 t20:=Tryz.underlying20
 a20:=Tryz.isAgg20
 z20:=Tryz.sizeOf20
 v20:=Tryz.zeroValue20
 t31:=Tryz.underlying25
 a31:=Tryz.isAgg25
 z31:=Tryz.sizeOf25
 v31:=Tryz.zeroValue25
 t37:=Tryz.underlying98
 a37:=Tryz.isAgg98
 z37:=Tryz.sizeOf98
 v37:=Tryz.zeroValue98
 t70:=Tryz.underlying225
 a70:=Tryz.isAgg225
 z70:=Tryz.sizeOf225
 v70:=Tryz.zeroValue225
 t72:=Tryz.underlying227
 a72:=Tryz.isAgg227
 z72:=Tryz.sizeOf227
 v72:=Tryz.zeroValue227
 t75:=Tryz.underlying138
 a75:=Tryz.isAgg138
 z75:=Tryz.sizeOf138
 v75:=Tryz.zeroValue138
 t76:=Tryz.underlying139
 a76:=Tryz.isAgg139
 z76:=Tryz.sizeOf139
 v76:=Tryz.zeroValue139
 t127:=Tryz.underlying253
 a127:=Tryz.isAgg253
 z127:=Tryz.sizeOf253
 v127:=Tryz.zeroValue253
 t164:=Tryz.underlying264
 a164:=Tryz.isAgg264
 z164:=Tryz.sizeOf264
 v164:=Tryz.zeroValue264
 }
theorem Tryz.bld156:Go.Proofs.Builder.Extra Tryz.prog Tryz.lays156_ren:={
 sizeBuilder:=by kernel_rfl
 liesBuilder:=by kernel_rfl
 t5:=Tryz.underlying5
 a5:=Tryz.isAgg5
 z5:=Tryz.sizeOf5
 v5:=Tryz.zeroValue5
 infoByte:=by kernel_rfl
 cellsByte:=by kernel_rfl
 sizeByte:=by kernel_rfl
 neB5:=by decide
 }
end Go.Proofs
namespace Go.AX
open Go.RowKit
variable {cx:Cx}{g:Nat→Value}{σ σ':St}{a:Act}{w w':World}{nx:Nat}{kk:IntKind}
variable {ty:TypeId}{pos:String}{af:Array Edge}{gd:Option (Nat×Bool)}{d:Nat}
theorem bytes_append (a b:List UInt8):(⟨a.toArray⟩:ByteArray)++⟨b.toArray⟩=⟨(a++b).toArray⟩:=by
 apply ByteArray.ext
 simp
theorem bin_sadd {P:Program}{t:TypeId}{a b:List UInt8}(h:a.length+b.length≤4611686018427387904):BinR P .add t (str a) (str b) (str (a++b)):=by
 intro w x y
 have h1:(⟨a.toArray⟩:ByteArray).size=a.length:=by show a.toArray.size=_;simp
 have h2:(⟨b.toArray⟩:ByteArray).size=b.length:=by show b.toArray.size=_;simp
 have h3:¬ (((⟨a.toArray⟩:ByteArray).size+(⟨b.toArray⟩:ByteArray).size:Nat):Int) > IntKind.i64.max:=by
  rw[h1,h2]
  show ¬ ((a.length+b.length:Nat):Int) > 9223372036854775807
  omega
 simp only[str,Sem.run_bind,eqGuard,Sem.run_pure,Result.andThen_ok,binOp,Op.stringOp]
 rw[if_neg h3,bytes_append]
 rfl
end Go.AX
namespace Go.Proofs.YtccblhpfjlgmbabGreatDoor
open Go.AX Go.RF Go.RowKit
set_option maxRecDepth 100000
set_option maxHeartbeats 8000000
theorem ok_lsplit (s sep:Str) (hs:s.length≤1000000000) (hp:sep≠[]):FnOk Tryz.prog 27 [.d (dstr s),.d (dstr sep)] (.one (encStrs (split s sep))):=by
 refine⟨⟨_,Tryz.func27,by kernel_rfl,by kernel_rfl⟩,fun w own vs hown ha=>?_⟩
 match vs,ha with
 | [x,y],⟨h1,h2,_⟩ =>
  obtain rfl:x=str s:=rd_v h1
  obtain rfl:y=str sep:=rd_v h2
  obtain ⟨cs, hv, m, hm⟩ := hown.2.mx _ (show Tryz.prog.globalNamed "internal/bytealg.MaxLen" = some (Tryz.lays146_ren.g 1) by kernel_rfl)
  have hm':w.cell? ⟨Tryz.lays146_ren.g 1,0,none⟩=some (.int .i64 m):=by rw[World.var?_cell (by kernel_rfl) hv 0];exact hm
  have hl:1≤(⟨sep.toArray⟩:ByteArray).size:=by
   show 1≤sep.toArray.size
   have:=List.length_pos_iff.2 hp
   rw[List.size_toArray];omega
  refine(Any.strings_Split Tryz.lays146 (by kernel_rfl) ⟨s.toArray⟩ ⟨sep.toArray⟩ m w (by show s.toArray.size < _;simp;omega) hm' hl).mono fun e w' he=>?_
  obtain⟨rfl,rfl⟩:=he
  have hmap:=Lib.splitB_data ⟨sep.toArray⟩ 0 (Lib.countB ⟨s.toArray⟩ ⟨sep.toArray⟩) ⟨s.toArray⟩
  have hlen:=Lib.splitB_all ⟨sep.toArray⟩ hl 0 _ ⟨s.toArray⟩ rfl
  have hsp:(Lib.splitB ⟨sep.toArray⟩ 0 (Lib.countB ⟨s.toArray⟩ ⟨sep.toArray⟩) ⟨s.toArray⟩).map (·.data.toList)=split s sep:=by
   rw[hmap,split_lib hp];rfl
  generalize Lib.splitB ⟨sep.toArray⟩ 0 (Lib.countB ⟨s.toArray⟩ ⟨sep.toArray⟩) ⟨s.toArray⟩=L at hsp hlen
  refine⟨_,rfl,(Below.refl _ _).alloc (Nat.le_refl _) _,?_⟩
  rw[← hlen]
  refine rd_new hown.1 ?_ (fun r hr=>?_) L.length ?_
  ·
   have hfl:((split s sep).map encStr1).flatten=(split s sep).map dstr:=by
    induction split s sep with
    |nil=>rfl
    |cons x l ih=>simp[encStr1,ih]
   rw[hfl,← hsp]
   refine⟨by simp,fun c hc=>?_,fun j c x hj hc=>?_⟩
   ·
    simp at hc
    obtain⟨b,_,rfl⟩:=hc
    rfl
   ·
    simp only[List.map_map,List.getElem?_map,Option.map_eq_some_iff]at hj hc
    obtain⟨b,hb,rfl⟩:=hj
    obtain⟨b',hb',rfl⟩:=hc
    rw[hb]at hb'
    cases hb'
    exact Rd.v _
  ·
   obtain⟨q,_,rfl⟩:=List.mem_map.1 hr
   rfl
  ·
   rw[List.length_map,← hsp,List.length_map]
theorem ok_join (l:List Str) (sep:Str) (hl:l.length≤1000000) (hj:(joinS sep l).length≤1000000):FnOk Tryz.prog 117 [.d (encStrs l),.d (dstr sep)] (.one (dstr (joinS sep l))):=by
 refine⟨⟨_,Tryz.func117,by kernel_rfl,by kernel_rfl⟩,fun w own vs hown ha=>?_⟩
 match vs,ha with
 | [x,y],⟨h1,h2,_⟩ =>
  obtain rfl:y=str sep:=rd_v h2
  have h1':Rd w own x (.sl 1 (l.map encStr1)):=h1
  generalize hr:l.map encStr1=rows at h1'
  generalize hd:D.sl 1 rows=dd at h1'
  cases h1' with
  |v=>cases hd
  |x=>cases hd
  |agg=>cases hd
  |nil a cap k =>
   cases hd
   have:l=[]:=by simpa using hr
   subst this
   refine(Any.strings_Join_none Tryz.lays156 Tryz.bld156 a cap ⟨sep.toArray⟩ w).mono fun e w' he=>?_
   obtain⟨rfl,rfl⟩:=he
   exact⟨_,rfl,Below.refl _ _,Rd.v _⟩
  |sl ad cap k rows' f hb hs hcap hk hc h3 hrd =>
   cases hd
   have hrl:rows.length=l.length:=by rw[← hr,List.length_map]
   by_cases h0:l=[]
   ·
    subst h0
    rw[show rows.length=0 by rw[hrl];rfl]
    refine(Any.strings_Join_none Tryz.lays156 Tryz.bld156 (some ad) cap ⟨sep.toArray⟩ w).mono fun e w' he=>?_
    obtain⟨rfl,rfl⟩:=he
    exact⟨_,rfl,Below.refl _ _,Rd.v _⟩
   have hcell:∀ (j:Nat) (u:Str),l[j]? = some u→w.cell? (ad.add j)=some (str u):=fun j u hj=>by
    have h4:rows[j]? = some [dstr u]:=by rw[← hr,List.getElem?_map,hj];rfl
    have h5:=hc j 0 _ _ h4 rfl
    rw[Nat.mul_one,Nat.add_zero]at h5
    rw[h5,rd_v (hrd j 0 _ _ h4 rfl)]
   obtain⟨u0,hu0⟩:∃ u,l[0]? = some u:=by
    cases l with
    |nil=>exact absurd rfl h0
    |cons u l=>exact⟨u,rfl⟩
   obtain⟨bk,o,sp⟩:=ad
   have hsp:sp=none:=by
    have h6:=hcell 0 u0 hu0
    rw[add_zero]at h6
    unfold World.cell? at h6
    split at h6
    ·
     cases sp with
     |none=>rfl
     |some q=>simp at h6
    ·
     cases h6
   subst hsp
   rw[hrl]at hcap ⊢
   have hjl:Lib.join ((l.map fun u:Str=>(⟨u.toArray⟩:ByteArray)).map (·.data.toList)) (⟨sep.toArray⟩:ByteArray).data.toList=joinS sep l:=by
    have hml:(l.map fun u:Str=>(⟨u.toArray⟩:ByteArray)).map (·.data.toList)=l:=by rw[List.map_map];exact(List.map_congr_left (fun u _=>rfl)).trans (List.map_id l)
    rw[hml,← join_lib]
   have key:=Any.strings_Join Tryz.lays156 Tryz.bld156 bk o cap (l.map fun u=>⟨u.toArray⟩) ⟨sep.toArray⟩ w (fun j b hj=>by
    rw[List.getElem?_map]at hj
    cases hlj:l[j]? with
    |none=>rw[hlj]at hj;cases hj
    |some u =>
     rw[hlj]at hj
     obtain rfl:(⟨u.toArray⟩:ByteArray)=b:=by simpa using hj
     have:=hcell j u hlj
     rw[add_lit]at this
     exact this) hs (by simp;omega) (by simpa using hcap) (by rw[hjl];omega)
   rw[hjl,List.length_map]at key
   refine key.mono fun e w' he=>?_
   obtain⟨rfl,hb'⟩:=he
   exact⟨_,rfl,hb',Rd.v _⟩
theorem ok_cutp (s p:Str):FnOk Tryz.prog 50 [.d (dstr s),.d (dstr p)] (.tup [dstr (Lib.trimPrefix s p),dbool (Lib.hasPrefix s p)]):=by
 refine⟨⟨_,Tryz.func50,by kernel_rfl,by kernel_rfl⟩,fun w own vs hown ha=>?_⟩
 match vs,ha with
 | [x,y],⟨h1,h2,_⟩ =>
  obtain rfl:x=str s:=rd_v h1
  obtain rfl:y=str p:=rd_v h2
  refine(Any.strings_CutPrefix Tryz.lays103 ⟨s.toArray⟩ ⟨p.toArray⟩ w).mono fun e w' he=>?_
  obtain⟨rfl,rfl⟩:=he
  exact⟨_,rfl,Below.refl _ _,tup2 (Rd.v _) (Rd.v _)⟩
theorem ok_number (s:Str) (hs:s.length≤1073741824):FnOk Tryz.prog 51 [.d (dstr s)] (.tup [dint (atoiV s),dbool (numV s).isSome]):=by
 refine fnOk_of tbl_ok mixed_ok Tryz.func51 rfl (by kernel_rfl) rfl rfl fun w0 own0=>?_
 have c1:=ok_atoiG s hs
 unfold atoiV atoiE at c1
 unfold atoiV numV
 cases hc:Lib.atoiAll s with
 |ok v =>
  rw[hc]at c1
  have hb:=atoi_in hc
  have c2:=ok_itoaG v hb.1 hb.2
  dsimp only at c1 ⊢
  generalize Lib.itoa v=t at c2 ⊢
  by_cases hv:t=s
  ·
   rw[if_pos hv]
   repeat(first|refine wa ?_|((with_reducible apply s5);(first|((with_reducible apply a_noerr);exact rfl;exact Tryz.underlying138;exact rfl)|exact by_oa|exact by_ca);exact by_g)|refine wb ?_)
   exact .two (.tmp rfl (.one (.d (.refl _)))) (.tmp rfl (.one (.d (dle_bool (by simp[hv])))))
  ·
   rw[if_neg hv]
   repeat(first|refine wa ?_|((with_reducible apply s5);(first|((with_reducible apply a_noerr);exact rfl;exact Tryz.underlying138;exact rfl)|exact by_oa|exact by_ca);exact by_g)|refine wb ?_)
   exact .two (.tmp rfl (.one (.d (.refl _)))) (.tmp rfl (.one (.d (dle_bool (by simp[hv])))))
 |range =>
  rw[hc]at c1
  dsimp only at c1 ⊢
  generalize Lib.atoiSat s=q at c1 ⊢
  repeat(first|refine wa ?_|((with_reducible apply s5);(first|((with_reducible apply a_err);exact rfl;exact Tryz.underlying138;exact rfl)|exact by_oa|exact by_ca);exact by_g)|refine wb ?_)
  exact .two (.tmp rfl (.one (.d (.refl _)))) (.tmp rfl (.one (.d (.refl _))))
 |_ =>
  rw[hc]at c1
  dsimp only at c1 ⊢
  repeat(first|refine wa ?_|((with_reducible apply s5);(first|((with_reducible apply a_err);exact rfl;exact Tryz.underlying138;exact rfl)|exact by_oa|exact by_ca);exact by_g)|refine wb ?_)
  exact .two (.tmp rfl (.one (.d (.refl _)))) (.tmp rfl (.one (.d (.refl _))))
theorem ok_twords:FnOk Tryz.prog 48 [] (.one (encStrs words.tail)):=by
 refine fnOk_of tbl_ok mixed_ok Tryz.func48 rfl (by kernel_rfl) rfl rfl fun w0 own0=>?_
 repeat(first|((with_reducible apply s5);((with_reducible apply a_bs (words.tail.map encStr1));(iterate 9 exact rfl);(repeat(first|exact PartsE.nil|(apply PartsE.cons;exact rfl;exact rfl))));exact by_g)|refine wa1 ?_|((with_reducible apply s5);(first|exact by_oa|exact by_ca);exact by_g)|refine wb ?_)
 exact .one (.tmp rfl (.one (.d (.refl _))))
theorem fields_at {k:Nat}(h:k < 9):forms.tail[k]? = some (form (k+1)):=by
 have:∀ k:Fin 9,forms.tail[k.val]? = some (form (k.val+1)):=by decide
 exact this ⟨k,h⟩
theorem ok_fields (k:Nat) (h1:1≤k) (h9:k≤9):FnOk Tryz.prog 49 [.d (dint k)] (.one (dstr (form k))):=by
 refine fnOk_of tbl_ok mixed_ok Tryz.func49 rfl (by kernel_rfl) rfl rfl fun w0 own0=>?_
 obtain⟨j,rfl⟩:∃ j,k=j+1:=⟨k - 1,by omega⟩
 have h:=fields_at (k:=j) (by omega)
 have hx:((j+1:Nat):Int) - 1=(j:Int):=by omega
 repeat(first|((with_reducible apply s5);((with_reducible apply a_bs (forms.tail.map encStr1));(iterate 9 exact rfl);(repeat(first|exact PartsE.nil|(apply PartsE.cons;exact rfl;exact rfl))));exact by_g)|refine wa1 ?_|((with_reducible apply s5);(first|((with_reducible apply a_ia);(iterate 5 exact rfl);rw[hx];exact idx_map h)|exact by_oa|exact by_ca);exact by_g)|refine wb ?_)
 exact .one (.tmp rfl (.one (.d (.refl _))))
set_option maxHeartbeats 16000000
theorem tailS_len {sep w:Str}{l:List Str}(h:w∈l):w.length≤(tailS sep l).length:=by
 induction l with
 |nil=>cases h
 |cons x l ih =>
  simp only[tailS,List.length_append]
  rcases List.mem_cons.1 h with rfl|h
  ·
   omega
  ·
   have:=ih h;omega
theorem joinS_part {sep w:Str}{l:List Str}(h:w∈l):w.length≤(joinS sep l).length:=by
 cases l with
 |nil=>cases h
 |cons x l =>
  rw[joinS_cons]
  simp only[List.length_append]
  rcases List.mem_cons.1 h with rfl|h
  ·
   omega
  ·
   have:=tailS_len (sep:=sep) h;omega
theorem words_tail {K:Nat}(h1:1≤K) (h9:K≤9):words.tail[K - 1]? = some (words.getD K []):=by
 have:∀ k:Fin 9,words.tail[k.val]? = some (words.getD (k.val+1) []):=by decide
 have:=this ⟨K - 1,by omega⟩
 rwa [show K - 1+1=K by omega]at this
theorem take_snoc {α:Type}{l:List α}{n:Nat}{x:α}(h:l[n]? = some x):l.take n++[x]=l.take (n+1):=by
 rw[List.take_add_one,h];rfl
theorem ok_tprint (d:Deed) (hw:wrongDeed d=0) (hd:d.Sm) (hF:(printD d).length≤1000000):FnOk Tryz.prog 85 [.d (.agg d.enc)] (.one (dstr (printD d))):=by
 refine fnOk_of tbl_ok mixed_ok Tryz.func85 rfl (by kernel_rfl) rfl rfl fun w0 own0=>?_
 have hok:=wrongDeed_ok hw
 have hnn:=wrong_n hw
 have hr:=hok.r
 have hwl:=hok.w
 have hcl:=hok.c
 have cj:=fun(l:List Str) (hl:l.length≤1000000) (h:joinS [32] l∈partsD d)=>ok_join l [32] hl (Nat.le_trans (joinS_part (sep:=[59,32]) h) hF)
 have cJ:=ok_join (partsD d) [59,32] (by simp[partsD];omega) hF
 have hpl:(partsD d).length=2+d.code.length:=by simp[partsD];omega
 have hp0:(partsD d)[0]? = some (joinS [32] (wReads::d.reads)):=rfl
 have hp1:(partsD d)[1]? = some (joinS [32] (wWrites::d.writes)):=rfl
 have hp2:∀ z i,d.code[z]? = some i→(partsD d)[2+z]? = some (joinS [32] (insW i)):=fun z i h=>by
  rw[Nat.add_comm]
  simp[partsD,h]
 have cw:=ok_twords
 rw[show printD d=joinS [59,32] (partsD d) from rfl]
 rw[show printD d=joinS [59,32] (partsD d) from rfl]at hF
 generalize hPD:partsD d=PD at *
 have hst0:StopA 2:=⟨rfl⟩
 repeat(first|((with_reducible apply s5);((with_reducible apply a_bs ([d.reads,d.writes].map fun l=>[encStrs l]));(iterate 9 exact rfl);(repeat(first|exact PartsE.nil|(apply PartsE.cons;exact rfl;exact rfl))));exact by_g)|refine wa1S ?_|((with_reducible apply s5);(first|exact by_oa|exact by_ca);exact by_g)|refine wb ?_)
 clear hst0
 refine Stop.go (CW.stut (stut_promote (i:=3) 9 1) ⟨rfl,rfl,trivial⟩ ?_)
 repeat(first|((with_reducible apply s5);((with_reducible apply a_bs ([d.reads,d.writes].map fun l=>[encStrs l]));(iterate 9 exact rfl);(repeat(first|exact PartsE.nil|(apply PartsE.cons;exact rfl;exact rfl))));exact by_g)|refine wa1 ?_|((with_reducible apply s5);(first|exact by_oa|exact by_ca);exact by_g)|refine wb ?_)
 refine CW.loopT (fun t:Nat=>[sp 1 0,ob 0 d.enc,so 3 1 (PD.take t).length,oa 1 9 1 ((PD.take t).map encStr1),sd 15 (.sl 1 ([d.reads,d.writes].map fun l=>[encStrs l])),sd 16 (dint 2),sd 17 (dint t),nxt 2])
  (fun t=>t≤2) (fun t=>2 - t) 0 (by omega) ?_ ?_
 ·
  exact by_less
 ·
  intro t ht
  have hn0:([wReads,wWrites]:List Str)[0]? = some wReads:=rfl
  have hn1:([wReads,wWrites]:List Str)[1]? = some wWrites:=rfl
  have hd0:([d.reads,d.writes]:List (List Str))[0]? = some d.reads:=rfl
  have hd1:([d.reads,d.writes]:List (List Str))[1]? = some d.writes:=rfl
  match t,ht with
  |0,_ =>
   have c1:=cj (wReads::d.reads) (by simp;omega) (List.mem_of_getElem? hp0)
   have hts:=take_snoc hp0
   generalize joinS [32] (wReads::d.reads)=J at c1 hts
   repeat(first|((with_reducible apply s5);((with_reducible apply a_bs (([wReads,wWrites]:List Str).map encStr1));(iterate 9 exact rfl);(repeat(first|exact PartsE.nil|(apply PartsE.cons;exact rfl;exact rfl))));exact by_g)|((with_reducible apply s5);(with_reducible apply(a_bsO [encStr1 wReads]));(iterate 10 exact rfl);(repeat(first|exact PartsE.nil|(apply PartsE.cons;exact rfl;exact rfl)));exact by_g)|refine wa1 ?_|((with_reducible apply s5);(first|((with_reducible apply a_ia);(iterate 5 exact rfl);exact idx_map (k:=0) hd0)|((with_reducible apply a_ia);(iterate 5 exact rfl);exact idx_map (k:=0) hn0)|(focus ((with_reducible apply a_lend);exact c1;exact rfl;exact .plain rfl;(focus first|exact rfl|(simp;done)|(simp;omega));(iterate 2 exact rfl);exact by_sub))|exact by_oa|exact by_ca);exact by_g)|refine wb ?_)
   refine q_loopT 1 (by omega) (by omega) ?_
   rw[← hts]
   exact by_less
  |1,_ =>
   have c1:=cj (wWrites::d.writes) (by simp;omega) (List.mem_of_getElem? hp1)
   have hts:=take_snoc hp1
   have htl:(PD.take 1).length=1:=by rw[List.length_take];omega
   generalize joinS [32] (wWrites::d.writes)=J at c1 hts
   generalize PD.take 1=P1 at *
   repeat(first|((with_reducible apply s5);((with_reducible apply a_bs (([wReads,wWrites]:List Str).map encStr1));(iterate 9 exact rfl);(repeat(first|exact PartsE.nil|(apply PartsE.cons;exact rfl;exact rfl))));exact by_g)|((with_reducible apply s5);(with_reducible apply(a_bsO [encStr1 wWrites]));(iterate 10 exact rfl);(repeat(first|exact PartsE.nil|(apply PartsE.cons;exact rfl;exact rfl)));exact by_g)|refine wa1 ?_|((with_reducible apply s5);(first|((with_reducible apply a_ia);(iterate 5 exact rfl);exact idx_map (k:=1) hd1)|((with_reducible apply a_ia);(iterate 5 exact rfl);exact idx_map (k:=1) hn1)|(focus ((with_reducible apply a_lend);exact c1;exact rfl;exact .plain rfl;(focus first|exact rfl|(simp;done)|(simp;omega));(iterate 2 exact rfl);exact by_sub))|exact by_oa|exact by_ca);exact by_g)|refine wb ?_)
   refine q_loopT 2 (by omega) (by omega) ?_
   rw[← hts]
   exact by_less
  |2,_ =>
   try refine wk ?_
   refine CW.loopT (fun z:Nat=>[sp 1 0,ob 0 d.enc,so 3 1 (PD.take (2+z)).length,oa 1 9 1 ((PD.take (2+z)).map encStr1),sd 35 (encCode d.code),sd 36 (dint d.code.length),sd 37 (dint z),nxt 2])
    (fun z=>z≤d.code.length) (fun z=>d.code.length - z) 0 (by omega) ?_ ?_
   ·
    exact by_less
   ·
    intro z hz
    have htl:(PD.take (2+z)).length=2+z:=by rw[List.length_take];omega
    rcases drop_case hz with ⟨h1,h2⟩|⟨i,h1,h2,h3⟩
    ·
     rw[show PD.take (2+z)=PD by rw[List.take_of_length_le (by omega)]]
     repeat(first|refine wa ?_|((with_reducible apply s5);(first|(focus ((with_reducible apply a_lend);exact cJ;exact rfl;exact .plain rfl;(focus first|exact rfl|(simp;done)|(simp;omega));(iterate 2 exact rfl);exact by_sub))|exact by_oa|exact by_ca);exact by_g)|refine wb ?_)
     exact .one (.tmp rfl (.one (.d (.refl _))))
    ·
     have him:=List.mem_of_getElem? h2
     have hi:=hok.i i him
     have hin:=hnn i him
     have hik:=hi.k
     have hia:=hi.a
     have hib:=hi.b
     have ca:=ok_itoaG i.a (by omega) (by omega)
     have cb:=ok_itoaG i.b (by omega) (by omega)
     have cn:=ok_itoaG i.n (by omega) (by omega)
     have la:=itoa_len i.a (by omega) (by omega)
     have lb:=itoa_len i.b (by omega) (by omega)
     have hp:=hp2 z i h2
     have hts:=take_snoc hp
     have cJ1:=cj (insW i) (by simp[insW];have:=form_len i.kind.toNat;omega) (List.mem_of_getElem? hp)
     generalize joinS [32] (insW i)=J at cJ1 hts hp
     have hk0:0≤i.kind:=by omega
     obtain⟨K,hK⟩:=Int.eq_ofNat_of_zero_le hk0
     unfold insW at cJ1
     have cf:=ok_fields K (by omega) (by omega)
     have hwk:=words_tail (K:=K) (by omega) (by omega)
     have hfl:=form_len K
     have hlet:∀ c∈form K,c=114∨c=115∨c=110∨c=107:=fun c hc=>form_let hc
     rw[hK,Int.toNat_natCast]at cJ1
     generalize words.getD K []=wd at hwk cJ1
     generalize form K=f at *
     obtain⟨ik,ia,ib,inn,ikey⟩:=i
     dsimp only at hK ca cb cn la lb hik
     subst hK
     have hix:idx (words.tail.map encStr1) ((K:Int) - 1)=some (encStr1 wd):=by
      have:=idx_map (f:=encStr1) hwk
      rwa [show((K - 1:Nat):Int)=(K:Int) - 1 by omega]at this
     generalize hPe:PD.take (2+z)=P at *
     repeat(first|((with_reducible apply s5);(with_reducible apply(a_bsO [encStr1 wd]));(iterate 10 exact rfl);(repeat(first|exact PartsE.nil|(apply PartsE.cons;exact rfl;exact rfl)));exact by_g)|refine wa1 ?_|((with_reducible apply s5);(first|((with_reducible apply a_ia);(iterate 5 exact rfl);exact hix)|((with_reducible apply a_range);exact rfl;exact rfl;exact Tryz.underlying9;exact rfl)|exact by_oa|exact by_ca);exact by_g)|refine wb ?_)
     refine CW.loopT (fun j:Nat=>[sp 1 0,ob 0 d.enc,so 3 1 P.length,oa 1 9 1 (P.map encStr1),sd 35 (encCode d.code),sd 36 (dint d.code.length),sd 37 (dint z),sp 7 2,ob 2 (Ins.enc ⟨K,ia,ib,inn,ikey⟩),so 8 3 (wd::(f.take j).map (fieldW ⟨K,ia,ib,inn,ikey⟩)).length,oa 3 9 1 ((wd::(f.take j).map (fieldW ⟨K,ia,ib,inn,ikey⟩)).map encStr1),(.s 51,.av (.h 4)),(.o 4,.ob (.gen (ItP f j))),nxt 5])
      (fun j=>j≤f.length) (fun j=>f.length - j) 0 (by omega) ?_ ?_
     ·
      exact by_less
     ·
      intro j hj
      have hjl:(wd::(f.take j).map (fieldW ⟨K,ia,ib,inn,ikey⟩)).length=j+1:=by simp;omega
      rcases drop_case hj with ⟨b1,b2⟩|⟨c,b1,b2,b3⟩
      ·
       rw[b2,List.take_length]at *
       generalize wd::f.map (fieldW ⟨K,ia,ib,inn,ikey⟩)=L at *
       repeat(first|refine wa ?_|((with_reducible apply s5);(first|(focus ((with_reducible apply a_lend);exact cJ1;exact rfl;exact .plain rfl;(focus first|exact rfl|(simp;done)|(simp;omega));(iterate 2 exact rfl);exact by_sub))|((with_reducible apply(a_nextE (k:=f.length) 4));exact rfl;exact rfl;exact Nat.le_refl _;exact rfl)|exact by_oa|exact by_ca);exact by_g)|refine wb ?_)
       refine q_loopT (z+1) (by omega) (by omega) ?_
       rw[show 2+(z+1)=2+z+1 by omega,← hts]
       exact by_less
      ·
       have hc:=hlet c (List.mem_of_getElem? b2)
       have hc1:c.toNat < 128:=by rcases hc with rfl|rfl|rfl|rfl <;> decide
       have hsn:(wd::(f.take j).map (fieldW ⟨K,ia,ib,inn,ikey⟩))++[fieldW ⟨K,ia,ib,inn,ikey⟩ c]=wd::(f.take (j+1)).map (fieldW ⟨K,ia,ib,inn,ikey⟩):=by
        rw[← take_snoc b2];simp
       have hql:∀ x:Str,x=fieldW ⟨K,ia,ib,inn,ikey⟩ c→((wd::(f.take j).map (fieldW ⟨K,ia,ib,inn,ikey⟩))++[x])=wd::(f.take (j+1)).map (fieldW ⟨K,ia,ib,inn,ikey⟩):=fun x hx=>by rw[hx];exact hsn
       rcases hc with rfl|rfl|rfl|rfl
       ·
        have hq:=hql (114::Lib.itoa ia) rfl
        generalize wd::(f.take j).map (fieldW ⟨K,ia,ib,inn,ikey⟩)=L at *
        repeat(first|refine wa ?_|((with_reducible apply s5);(first|exact a_call ca rfl by_sub|((with_reducible apply a_bin);exact rfl;exact rfl;exact bin_sadd (by simp;omega);exact rfl)|((with_reducible apply(a_next (k:=j) 4));exact rfl;exact rfl;exact b2;exact hc1;exact rfl)|exact by_oa|exact by_ca);exact by_g)|refine wb ?_)
        refine q_loopT (j+1) (by omega) (by omega) ?_
        rw[← hq]
        exact by_less
       ·
        have hq:=hql (114::Lib.itoa ib) rfl
        generalize wd::(f.take j).map (fieldW ⟨K,ia,ib,inn,ikey⟩)=L at *
        repeat(first|refine wa ?_|((with_reducible apply s5);(first|exact a_call cb rfl by_sub|((with_reducible apply a_bin);exact rfl;exact rfl;exact bin_sadd (by simp;omega);exact rfl)|((with_reducible apply(a_next (k:=j) 4));exact rfl;exact rfl;exact b2;exact hc1;exact rfl)|exact by_oa|exact by_ca);exact by_g)|refine wb ?_)
        refine q_loopT (j+1) (by omega) (by omega) ?_
        rw[← hq]
        exact by_less
       ·
        have hq:=hql (Lib.itoa inn) rfl
        generalize wd::(f.take j).map (fieldW ⟨K,ia,ib,inn,ikey⟩)=L at *
        repeat(first|refine wa ?_|((with_reducible apply s5);(first|exact a_call cn rfl by_sub|((with_reducible apply(a_next (k:=j) 4));exact rfl;exact rfl;exact b2;exact hc1;exact rfl)|exact by_oa|exact by_ca);exact by_g)|refine wb ?_)
        refine q_loopT (j+1) (by omega) (by omega) ?_
        rw[← hq]
        exact by_less
       ·
        have hq:=hql ikey rfl
        generalize wd::(f.take j).map (fieldW ⟨K,ia,ib,inn,ikey⟩)=L at *
        repeat(first|refine wa ?_|((with_reducible apply s5);(first|((with_reducible apply(a_next (k:=j) 4));exact rfl;exact rfl;exact b2;exact hc1;exact rfl)|exact by_oa|exact by_ca);exact by_g)|refine wb ?_)
        refine q_loopT (j+1) (by omega) (by omega) ?_
        rw[← hq]
        exact by_less
end Go.Proofs.YtccblhpfjlgmbabGreatDoor
namespace Go.Proofs.YtccblhpfjlgmbabGreatDoor
open Go.AX Go.RF
set_option maxRecDepth 100000
set_option maxHeartbeats 8000000
theorem ok_lsum (b:Str) (hl:b.length≤1000000000):FnOk Tryz.prog 86 [.d (encBytes b)] (.one (dint (sumN 1 b))):=by
 refine fnOk_of tbl_ok mixed_ok Tryz.func86 rfl (by kernel_rfl) rfl rfl fun w0 own0=>?_
 try refine wk ?_
 refine CW.loopT (fun t:Nat×Nat=>[sd 3 (dint t.2),sd 6 (encBytes b),sd 7 (dint b.length),sd 8 (dint t.1),nxt 0])
  (fun t=>t.1≤b.length∧t.2 < 65521∧sumN t.2 (b.drop t.1)=sumN 1 b) (fun t=>b.length - t.1) (0,1) ⟨by dsimp only;omega,by dsimp only;omega,rfl⟩ ?_ ?_
 ·
  exact by_less
 ·
  rintro ⟨i,s⟩ ⟨hi,hs,hI⟩
  dsimp only at hi hs hI ⊢
  rcases drop_case hi with ⟨h1,h2⟩|⟨c,h1,h2,h3⟩
  ·
   rw[h1,sumN]at hI
   subst hI
   try refine wk ?_
   exact .one (.tmp rfl (.one (.d (.refl _))))
  ·
   rw[h1,sumN]at hI
   have hc:=c.toNat_lt
   have hb:=tmod_sum (s:=s) (c:=c.toNat)
   have hs2:(s*257+c.toNat+1)%65521 < 65521:=Nat.mod_lt _ (by omega)
   generalize (s*257+c.toNat+1)%65521=s2 at *
   repeat(first|refine wa ?_|((with_reducible apply s5);(first|((with_reducible apply a_bin);exact rfl;exact rfl;(with_reducible apply bin_mul);omega;exact rfl)|((with_reducible apply a_bin);exact rfl;exact rfl;(with_reducible apply bin_remI);(exact by decide);exact hb;exact rfl)|exact by_oa|exact by_ca);exact by_g)|refine wb ?_)
   refine q_loopT (i+1,s2) ⟨by dsimp only;omega,hs2,hI⟩ (by dsimp only;omega) ?_
   exact by_less
theorem ok_lwrong (e:Entry) (hd:∀ d∈e.deeds,d.Sm) (hl:e.deeds.length≤1000000000):FnOk Tryz.prog 60 [.d (.agg e.enc)] (.one (dint (wrongEntry e))):=by
 refine fnOk_of tbl_ok mixed_ok Tryz.func60 rfl (by kernel_rfl) rfl rfl fun w0 own0=>?_
 unfold wrongEntry
 by_cases h0:e.number < 0
 ·
  rw[if_pos (.inl h0)]
  try refine wk ?_
  exact .one (.tmp rfl (.one (.d (.refl _))))
 by_cases h1:11 < e.number
 ·
  rw[if_pos (.inr h1)]
  try refine wk ?_
  exact .one (.tmp rfl (.one (.d (.refl _))))
 rw[if_neg (by omega)]
 by_cases h2:6 < e.deeds.length
 ·
  rw[if_pos h2]
  try refine wk ?_
  exact .one (.tmp rfl (.one (.d (.refl _))))
 rw[if_neg h2]
 try refine wk ?_
 refine CW.loopT (fun t:Nat=>[sp 1 0,ob 0 e.enc,sd 19 (encDeeds e.deeds),sd 20 (dint e.deeds.length),sd 21 (dint t),nxt 1])
  (fun t=>t≤e.deeds.length∧wrongs (e.deeds.drop t)=wrongs e.deeds) (fun t=>e.deeds.length - t) 0 ⟨by omega,rfl⟩ ?_ ?_
 ·
  exact by_less
 ·
  rintro i ⟨hi,hI⟩
  rcases drop_case hi with ⟨h3,h4⟩|⟨d,h3,h4,h5⟩
  ·
   rw[h3,wrongs]at hI
   try refine wk ?_
   exact .one (.tmp rfl (.one (.d (dle_int hI))))
  ·
   rw[h3]at hI
   simp only[wrongs]at hI
   have hds:=hd d (List.mem_of_getElem? h4)
   have hc:=ok_pwrongDeed d hds
   by_cases h6:wrongDeed d=0
   ·
    rw[if_pos h6]at hI
    have hp:=printD_len h6
    have hc2:=ok_tprint d h6 hds (by omega)
    rw[h6]at hc
    try refine wk ?_
    refine q_loopT (i+1) ⟨by omega,hI⟩ (by omega) ?_
    exact by_less
   ·
    rw[if_neg h6]at hI
    try refine wk ?_
    exact .one (.tmp rfl (.one (.d (dle_int hI))))
theorem linesD_take {l:List Deed}{j:Nat}{d:Deed}(h:l[j]? = some d):linesD (l.take (j+1))=linesD (l.take j)++(printD d++[10]):=by
 unfold linesD
 rw[List.take_add_one,h]
 simp
theorem linesD_len {l:List Deed}(hw:∀ d∈l,wrongDeed d=0) (hl:l.length≤6) (j:Nat):(linesD (l.take j)).length≤2406:=by
 have:∀ m:List Deed,(∀ d∈m,wrongDeed d=0)→(linesD m).length≤401*m.length:=by
  intro m
  induction m with
  |nil=>intro _;simp[linesD]
  |cons d m ih =>
   intro h
   have h1:=printD_len (h d (List.mem_cons_self ..))
   have h2:=ih fun x hx=>h x (List.mem_cons_of_mem _ hx)
   have h3:linesD (d::m)=printD d++[10]++linesD m:=by simp[linesD]
   rw[h3,List.length_append,List.length_append,List.length_cons,List.length_cons,List.length_nil]
   omega
 have h3:=this (l.take j) fun d hd=>hw d (List.mem_of_mem_take hd)
 have h4:(l.take j).length≤6:=by rw[List.length_take];omega
 omega
theorem bytes_len {e:Entry}(he:wrongEntry e=0):(bytesE e).length≤2409:=by
 obtain⟨_,h3,_,h4⟩:=wrongEntry_out he
 have hlen:=linesD_len h4 h3 e.deeds.length
 rw[List.take_length]at hlen
 have:bytesE e=UInt8.ofNat e.number.toNat::linesD e.deeds++sum2 (sumN 1 (headE e)):=rfl
 rw[this]
 simp[sum2]
 omega
theorem ok_lbytes (e:Entry) (he:wrongEntry e=0):FnOk Tryz.prog 61 [.d (.agg e.enc)] (.one (encBytes (bytesE e))):=by
 obtain⟨⟨h1,h2⟩,h3,_,h4⟩:=wrongEntry_out he
 have hB:bytesE e=headE e++sum2 (sumN 1 (headE e)):=rfl
 have hH:headE e=UInt8.ofNat e.number.toNat::linesD e.deeds:=rfl
 have hlen:=linesD_len h4 h3 e.deeds.length
 rw[List.take_length]at hlen
 have hs:=sumN_lt (l:=headE e) (s:=1) (by omega)
 have c1:=ok_lsum (headE e) (by rw[hH];simp;omega)
 rw[hB]
 have hr0':[[D.v (.int .u8 e.number)]]=[UInt8.ofNat e.number.toNat].map byteD:=by
  have:=byte_row (s:=e.number.toNat) (by omega)
  rw[show((e.number.toNat:Nat):Int)=e.number by omega]at this
  rw[this];rfl
 generalize sumN 1 (headE e)=S at *
 generalize UInt8.ofNat e.number.toNat=c0 at *
 rw[hH]at c1 ⊢
 refine fnOk_of tbl_ok mixed_ok Tryz.func61 rfl (by kernel_rfl) rfl rfl fun w0 own0=>?_
 have hr0:[[D.v (.int .u8 e.number)]]=(c0::linesD (e.deeds.take 0)).map byteD:=by
  rw[hr0'];simp[linesD]
 repeat(first|((with_reducible apply s5);(with_reducible apply(a_bsO [[D.v (.int .u8 e.number)]]));(iterate 10 exact rfl);(repeat(first|exact PartsE.nil|(apply PartsE.cons;exact rfl;exact rfl)));exact by_g)|refine wa1 ?_|((with_reducible apply s5);(first|((with_reducible apply a_conv);(iterate 6 exact rfl);(apply wrap_u8_in;omega))|exact by_oa|exact by_ca);exact by_g)|refine wb ?_)
 refine CW.loopT (fun j:Nat=>[sp 1 0,ob 0 e.enc,so 3 1 ((linesD (e.deeds.take j)).length+1),oa 1 5 1 ((c0::linesD (e.deeds.take j)).map byteD),sd 12 (encDeeds e.deeds),sd 13 (dint e.deeds.length),sd 14 (dint j),nxt 2]) (fun j=>j≤e.deeds.length) (fun j=>e.deeds.length - j) 0 (by omega) ?_ ?_
 ·
  exact by_less
 ·
  rintro j hj
  rcases drop_case hj with ⟨g1,g2⟩|⟨d,g1,g2,g3⟩
  ·
   subst g2
   rw[List.take_length]
   have hr1:[[D.v (.int .u8 ((S / 256:Nat):Int))],[.v (.int .u8 ((S%256:Nat):Int))]]=(sum2 S).map byteD:=by
    unfold sum2
    rw[byte_row (show S / 256 < 256 by omega),byte_row (show S%256 < 256 by omega)];rfl
   repeat(first|((with_reducible apply s5);((with_reducible apply a_bs [[D.v (.int .u8 ((S / 256:Nat):Int))],[.v (.int .u8 ((S%256:Nat):Int))]]);(iterate 9 exact rfl);(repeat(first|exact PartsE.nil|(apply PartsE.cons;exact rfl;exact rfl))));exact by_g)|refine wa1 ?_|((with_reducible apply s5);(first|(focus ((with_reducible apply a_lend);exact c1;exact rfl;exact .plain rfl;(focus first|exact rfl|(simp;done)|(simp;omega));(iterate 2 exact rfl);exact by_sub))|((with_reducible apply a_bin);exact rfl;exact rfl;(with_reducible apply bin_shrJ);exact rfl;exact div_256;exact rfl)|((with_reducible apply a_conv);(iterate 6 exact rfl);(apply wrap_u8_in;omega))|((with_reducible apply a_convW);(iterate 6 exact rfl);exact wrap_u8_n)|exact by_oa|exact by_ca);exact by_g)|refine wb ?_)
   rw[hr1]
   exact .one (.tmp rfl (.one (.own rfl (by simp;omega) (dle_eq (by simp[encBytes])))))
  ·
   have hds:=wrong_sm (h4 d (List.mem_of_getElem? g2))
   have hp:=printD_len (h4 d (List.mem_of_getElem? g2))
   have c2:=ok_tprint d (h4 d (List.mem_of_getElem? g2)) hds (by omega)
   have hlj:=linesD_len h4 h3 j
   have hstep:((c0::linesD (e.deeds.take j)).map byteD++(printD d).map byteD)++[[D.v (.int .u8 10)]]=(c0::linesD (e.deeds.take (j+1))).map byteD:=by
    rw[linesD_take g2]
    simp[byteD]
   have hlen2:(linesD (e.deeds.take (j+1))).length=(linesD (e.deeds.take j)).length+(printD d).length+1:=by
    rw[linesD_take g2];simp;omega
   repeat(first|((with_reducible apply s5);((with_reducible apply a_bs [[D.v (.int .u8 10)]]);(iterate 9 exact rfl);(repeat(first|exact PartsE.nil|(apply PartsE.cons;exact rfl;exact rfl))));exact by_g)|refine wa1 ?_|((with_reducible apply s5);(first|(focus (with_reducible apply a_appstr);exact rfl;exact rfl;exact rfl;exact rfl;exact rfl;exact rfl;exact Tryz.zeroValue5;exact rfl;exact rfl;exact rfl;exact rfl;exact rfl;(all_goals first|(simp;done)|(simp;omega)))|exact by_oa|exact by_ca);exact by_g)|refine wb ?_)
   refine q_loopT (j+1) (by omega) (by omega) ?_
   exact by_less
end Go.Proofs.YtccblhpfjlgmbabGreatDoor
namespace Go.Proofs.YtccblhpfjlgmbabGreatDoor
open Go.AX Go.RF Go.RowKit
set_option maxRecDepth 100000
set_option maxHeartbeats 4000000
theorem numV_ok {s:Str}{v:Int}(h:numV s=some v):Lib.atoiAll s = .ok v∧Lib.itoa v=s:=by
 unfold numV at h
 split at h
 ·
  next x hx =>
  split at h
  ·
   next hy=>cases h;exact⟨hx,hy⟩
  ·
   cases h
 ·
  cases h
set_option maxHeartbeats 16000000
theorem splitF_part (sep:Str):∀ (n:Nat) (cur r:Str),∀ p∈splitF sep n cur r,p.length≤cur.length+r.length
 |0,cur,r=>by simp[splitF]
 |n+1,cur,r=>by
  rw[splitF_succ]
  split
  ·
   simp
  split
  ·
   intro p hp
   rcases List.mem_cons.1 hp with rfl|hp
   ·
    omega
   ·
    have:=splitF_part sep n [] _ p hp
    rw[List.length_nil,List.length_drop]at this
    omega
  cases r with
  |nil=>simp
  |cons c t =>
   intro p hp
   have:=splitF_part sep n _ _ p hp
   simp at this ⊢
   omega
theorem split_part {s sep:Str}{p:Str}(h:p∈split s sep):p.length≤s.length:=by
 have:=splitF_part sep _ _ _ p h
 simpa using this
theorem split_len (s sep:Str):(split s sep).length≤s.length+1:=splitF_len sep _ _ _
def noEnc:List D:=[.v nilS,.v nilS,.v nilS]
theorem no_le {s:Str}{e:Int}(h:parseE s = .error e):DLe (.agg noEnc) (.agg (parseR s).1.enc):=by
 unfold parseR;rw[h]
 exact(DLes.cons (dle_nil 1) (.cons (dle_nil 1) (.cons (dle_nil 5) .nil))).agg
theorem er_le {s:Str}{e:Int}(h:parseE s = .error e):DLe (dint e) (dint (parseR s).2):=by
 unfold parseR;rw[h]
 exact .refl _
theorem numV_atoi {u:Str}{n:Int}(h:numV u=some n):atoiV u=n:=by
 unfold atoiV;rw[(numV_ok h).1]
theorem split_cons (s sep:Str):∃ w r,split s sep=w::r:=by
 cases h:split s sep with
 |nil=>exact absurd h (splitF_ne sep _ _ _)
 |cons w r=>exact⟨w,r,rfl⟩
theorem regV_none {u:Str}(h:regV u=none):u=[]∨(∃ c r,u=c::r∧c.toNat≠114)∨∃ r,u=114::r∧numV r=none:=by
 match u,h with
 | [],_=>exact .inl rfl
 |c::r,h =>
  by_cases hc:c=114
  ·
   subst hc;exact .inr (.inr ⟨r,rfl,h⟩)
  ·
   exact .inr (.inl ⟨c,r,rfl,fun e=>hc (UInt8.toNat_inj.1 e)⟩)
theorem regV_some {u:Str}{x:Int}(h:regV u=some x):∃ r,u=114::r∧numV r=some x:=by
 match u,h with
 | [],h=>simp[regV]at h
 |c::r,h =>
  by_cases hc:c=114
  ·
   subst hc;exact⟨r,rfl,h⟩
  ·
   unfold regV at h
   split at h
   ·
    next r' he=>cases he;exact absurd rfl hc
   ·
    cases h
theorem kind_idx (w:Str):idxS 0 words.tail w=kindOf w - 1∧0≤kindOf w∧kindOf w < 10:=by
 by_cases h1:w=[108,111,97,100]
 ·
  subst h1;decide
 by_cases h2:w=[99,111,110,115,116]
 ·
  subst h2;decide
 by_cases h3:w=[97,100,100]
 ·
  subst h3;decide
 by_cases h4:w=[115,117,98]
 ·
  subst h4;decide
 by_cases h5:w=[109,117,108]
 ·
  subst h5;decide
 by_cases h6:w=[115,116,111,114,101]
 ·
  subst h6;decide
 by_cases h7:w=[100,114,111,112]
 ·
  subst h7;decide
 by_cases h8:w=[115,107,105,112]
 ·
  subst h8;decide
 by_cases h9:w=[102,97,105,108]
 ·
  subst h9;decide
 have hk:kindOf w=0:=by
  unfold kindOf
  simp[words,kindGo,Ne.symm h1,Ne.symm h2,Ne.symm h3,Ne.symm h4,Ne.symm h5,Ne.symm h6,Ne.symm h7,Ne.symm h8,Ne.symm h9]
 have hi:idxS 0 words.tail w = -1:=by
  simp[words,idxS,Ne.symm h1,Ne.symm h2,Ne.symm h3,Ne.symm h4,Ne.symm h5,Ne.symm h6,Ne.symm h7,Ne.symm h8,Ne.symm h9]
 rw[hk,hi]
 decide
def noIns:Ins:=⟨0,0,0,0,[]⟩
def resI:Except Int Ins→Ins×Int
 |.ok i=>(i,0)
 |.error e=>(noIns,e)
theorem bin_kind {P:Program}{t:TypeId}{k:Int}(h:0≤k∧k < 10):BinR P .add t (.int .i64 (k - 1)) (.int .i64 1) (.int .i64 k):=by
 have:=bin_add (P:=P) (t:=t) (a:=k - 1) (b:=1) (by omega)
 rwa [show k - 1+1=k by omega]at this
theorem cutp_yes (r:Str):Lib.trimPrefix (114::r) [114]=r∧Lib.hasPrefix (114::r) [114]=true:=by
 have h:Lib.hasPrefix (114::r) [114]=true:=by simp[Lib.hasPrefix,List.isPrefixOf]
 exact⟨by unfold Lib.trimPrefix;rw[if_pos h];rfl,h⟩
theorem cutp_no {u:Str}(h:∀ r,u≠114::r):Lib.hasPrefix u [114]=false∧(Lib.trimPrefix u [114])=u:=by
 have h1:Lib.hasPrefix u [114]=false:=by
  cases u with
  |nil=>rfl
  |cons c r =>
   have:c≠114:=fun e=>h r (by rw[e])
   simp[Lib.hasPrefix,List.isPrefixOf,this.symm]
 exact⟨h1,by unfold Lib.trimPrefix;rw[h1];rfl⟩
theorem ok_tinstr (w:Str) (ws:List Str) (hl:ws.length≤1000000) (hu:∀ u∈ws,u.length≤1000000) :
  FnOk Tryz.prog 28 [.d (encStrs (w::ws))] (.tup [.agg (resI (insE (w::ws))).1.enc,dint (resI (insE (w::ws))).2]):=by
 refine fnOk_of tbl_ok mixed_ok Tryz.func28 rfl (by kernel_rfl) rfl rfl fun w0 own0=>?_
 have cw:=ok_twords
 obtain⟨hki,hk0,hk9⟩:=kind_idx w
 have ci:=ok_indexS words.tail w (by decide)
 rw[hki]at ci
 have hbk:=fun {t:TypeId}=>bin_kind (P:=Tryz.prog) (t:=t) ⟨hk0,hk9⟩
 have hw0:(w::ws)[0]? = some w:=rfl
 obtain⟨K,hKe⟩:=Int.eq_ofNat_of_zero_le hk0
 by_cases hkz:kindOf w=0
 ·
  have hE:insE (w::ws) = .error 1:=by simp only[insE];rw[if_pos hkz]
  rw[hE]
  rw[hkz]at ci hbk
  repeat(first|refine wa ?_|((with_reducible apply s5);(first|((with_reducible apply a_bin);exact rfl;exact rfl;exact hbk;exact rfl)|exact by_oa|exact by_ca);exact by_g)|refine wb ?_)
  exact .two (.cell rfl rfl rfl rfl (.aggd (ds:=noIns.enc) rfl (.refl _))) (.tmp rfl (.one (.d (.refl _))))
 have hins:=insE_fill (w:=w) (ws:=ws) hkz
 have hins2:¬ ws.length=(form (kindOf w).toNat).length→insE (w::ws) = .error 2:=fun h=>by simp only[insE];rw[if_neg hkz,if_neg h]
 rw[hKe]at hins hins2 hkz hk9 ci hbk
 rw[Int.toNat_natCast]at hins hins2
 have cf:=ok_fields K (by omega) (by omega)
 have hlet:∀ c∈form K,c=114∨c=115∨c=110∨c=107:=fun c hc=>form_let hc
 have hfl:=form_len K
 generalize form K=f at *
 by_cases hlen:ws.length=f.length
 ·
  have hins:=hins hlen
  obtain⟨tg,htg⟩:∃ tg,fillI ⟨K,0,0,0,[]⟩ f ws=tg:=⟨_,rfl⟩
  rw[htg]at hins
  repeat(first|refine wa ?_|((with_reducible apply s5);(first|((with_reducible apply a_bin);exact rfl;exact rfl;exact hbk;exact rfl)|((with_reducible apply a_range);exact rfl;exact rfl;exact Tryz.underlying9;exact rfl)|exact by_oa|exact by_ca);exact by_g)|refine wb ?_)
  refine CW.loopT (fun t:Nat×Ins=>[sd 0 (encStrs (w::ws)),sp 2 0,ob 0 noIns.enc,sp 4 1,ob 1 t.2.enc,(.s 34,.av (.h 2)),(.o 2,.ob (.gen (ItP f t.1))),nxt 3])
   (fun t=>t.1≤f.length∧fillI t.2 (f.drop t.1) (ws.drop t.1)=tg) (fun t=>f.length - t.1) (0,⟨K,0,0,0,[]⟩) ⟨by dsimp only;omega,htg⟩ ?_ ?_
  ·
   exact by_less
  ·
   rintro ⟨j,i⟩ ⟨hj,hI⟩
   dsimp only at hj hI ⊢
   rcases drop_case hj with ⟨b1,b2⟩|⟨c,b1,b2,b3⟩
   ·
    rw[b1,fillI]at hI
    subst hI
    dsimp only at hins
    rw[hins]
    repeat(first|refine wa ?_|((with_reducible apply s5);(first|((with_reducible apply(a_nextE (k:=j) 2));exact rfl;exact rfl;exact Nat.le_of_eq b2.symm;exact rfl)|exact by_oa|exact by_ca);exact by_g)|refine wb ?_)
    exact .two (.cell rfl rfl rfl rfl (.aggd (ds:=i.enc) rfl (.refl _))) (.tmp rfl (.one (.d (.refl _))))
   ·
    have hc:=hlet c (List.mem_of_getElem? b2)
    have hc1:c.toNat < 128:=by rcases hc with rfl|rfl|rfl|rfl <;> decide
    have hwj:j < ws.length:=by omega
    have hwa:(w::ws)[j+1]? = some ws[j]:=by simp[List.getElem?_eq_getElem hwj]
    rw[show j+1=1+j by omega]at hwa
    rw[b1,List.drop_eq_getElem_cons hwj]at hI
    have hul:=hu ws[j] (List.getElem_mem hwj)
    generalize ws[j]=u at hwa hI hul
    simp only[fillI]at hI
    have hix:idx ((w::ws).map encStr1) (1+(j:Int))=some (encStr1 u):=by
     have:=idx_map (f:=encStr1) hwa
     rwa [show((1+j:Nat):Int)=1+(j:Int) by omega]at this
    by_cases q1:c=107
    ·
     rw[if_pos q1]at hI
     subst q1
     repeat(first|refine wa ?_|((with_reducible apply s5);(first|((with_reducible apply(a_next (k:=j) 2));exact rfl;exact rfl;exact b2;exact hc1;exact rfl)|((with_reducible apply a_ia);(iterate 5 exact rfl);exact hix)|exact by_oa|exact by_ca);exact by_g)|refine wb ?_)
     refine q_loopT (j+1,{ i with key:=u }) ⟨by dsimp only;omega,hI⟩ (by dsimp only;omega) ?_
     exact by_less
    rw[if_neg q1]at hI
    by_cases q2:c=110
    ·
     rw[if_pos q2]at hI
     subst q2
     have cm:=ok_number u (by omega)
     cases hn:numV u with
     |some n =>
      rw[hn]at hI cm
      rw[numV_atoi hn]at cm
      repeat(first|refine wa ?_|((with_reducible apply s5);(first|((with_reducible apply(a_next (k:=j) 2));exact rfl;exact rfl;exact b2;exact hc1;exact rfl)|((with_reducible apply a_ia);(iterate 5 exact rfl);exact hix)|exact by_oa|exact by_ca);exact by_g)|refine wb ?_)
      refine q_loopT (j+1,{ i with n:=n }) ⟨by dsimp only;omega,hI⟩ (by dsimp only;omega) ?_
      exact by_less
     |none =>
      rw[hn]at hI cm
      dsimp only at hI
      subst hI
      dsimp only at hins
      rw[hins]
      generalize atoiV u=na at cm
      repeat(first|refine wa ?_|((with_reducible apply s5);(first|((with_reducible apply(a_next (k:=j) 2));exact rfl;exact rfl;exact b2;exact hc1;exact rfl)|((with_reducible apply a_ia);(iterate 5 exact rfl);exact hix)|exact by_oa|exact by_ca);exact by_g)|refine wb ?_)
      exact .two (.cell rfl rfl rfl rfl (.aggd (ds:=noIns.enc) rfl (.refl _))) (.tmp rfl (.one (.d (.refl _))))
    rw[if_neg q2]at hI
    have cc:=ok_cutp u [114]
    cases hrv:regV u with
    |some n =>
     rw[hrv]at hI
     dsimp only at hI
     obtain⟨r,rfl,q3⟩:=regV_some hrv
     have cm:=ok_number r (by simp at hul;omega)
     rw[q3,numV_atoi q3]at cm
     rw[(cutp_yes r).1,(cutp_yes r).2]at cc
     by_cases q4:c=114
     ·
      rw[if_pos q4]at hI
      subst q4
      repeat(first|refine wa ?_|((with_reducible apply s5);(first|((with_reducible apply(a_next (k:=j) 2));exact rfl;exact rfl;exact b2;exact hc1;exact rfl)|((with_reducible apply a_ia);(iterate 5 exact rfl);exact hix)|exact by_oa|exact by_ca);exact by_g)|refine wb ?_)
      refine q_loopT (j+1,{ i with a:=n }) ⟨by dsimp only;omega,hI⟩ (by dsimp only;omega) ?_
      exact by_less
     ·
      rw[if_neg q4]at hI
      obtain rfl:c=115:=by rcases hc with h|h|h|h <;> first|exact h|exact absurd h ‹_›
      repeat(first|refine wa ?_|((with_reducible apply s5);(first|((with_reducible apply(a_next (k:=j) 2));exact rfl;exact rfl;exact b2;exact hc1;exact rfl)|((with_reducible apply a_ia);(iterate 5 exact rfl);exact hix)|exact by_oa|exact by_ca);exact by_g)|refine wb ?_)
      refine q_loopT (j+1,{ i with b:=n }) ⟨by dsimp only;omega,hI⟩ (by dsimp only;omega) ?_
      exact by_less
    |none =>
     rw[hrv]at hI
     dsimp only at hI
     subst hI
     dsimp only at hins
     rw[hins]
     have hall:∃ u' b,FnOk Tryz.prog 50 [.d (dstr u),.d (dstr [114])] (.tup [dstr u',dbool b])∧u'.length≤u.length∧(b&&(numV u').isSome)=false:=by
      rcases regV_none hrv with rfl|⟨c0,r,rfl,q3⟩|⟨r,rfl,q3⟩
      ·
       refine⟨_,_,cc,?_,?_⟩
       ·
        rw[(cutp_no (u:=[]) (by simp)).2];exact Nat.le_refl _
       ·
        rw[(cutp_no (u:=[]) (by simp)).1];rfl
      ·
       have hne:∀ r',(c0::r:Str)≠114::r':=fun r' e=>by cases e;exact q3 rfl
       refine⟨_,_,cc,?_,?_⟩
       ·
        rw[(cutp_no hne).2];exact Nat.le_refl _
       ·
        rw[(cutp_no hne).1];rfl
      ·
       refine⟨_,_,cc,?_,?_⟩
       ·
        rw[(cutp_yes r).1];simp
       ·
        rw[(cutp_yes r).1,(cutp_yes r).2,q3];rfl
     obtain⟨u',b,cc,hul',hb⟩:=hall
     have cm:=ok_number u' (by omega)
     generalize atoiV u'=na at cm
     generalize (numV u').isSome=is at cm hb
     have hcs:c=114∨c=115:=by rcases hc with h|h|h|h <;> first|exact .inl h|exact .inr h|exact absurd h ‹_›
     rcases hcs with rfl|rfl
     ·
      cases b with
      |true =>
       obtain rfl:is=false:=by simpa using hb
       repeat(first|refine wa ?_|((with_reducible apply s5);(first|((with_reducible apply(a_next (k:=j) 2));exact rfl;exact rfl;exact b2;exact hc1;exact rfl)|((with_reducible apply a_ia);(iterate 5 exact rfl);exact hix)|exact by_oa|exact by_ca);exact by_g)|refine wb ?_)
       exact .two (.cell rfl rfl rfl rfl (.aggd (ds:=noIns.enc) rfl (.refl _))) (.tmp rfl (.one (.d (.refl _))))
      |false =>
       repeat(first|refine wa ?_|((with_reducible apply s5);(first|((with_reducible apply(a_next (k:=j) 2));exact rfl;exact rfl;exact b2;exact hc1;exact rfl)|((with_reducible apply a_ia);(iterate 5 exact rfl);exact hix)|exact by_oa|exact by_ca);exact by_g)|refine wb ?_)
       exact .two (.cell rfl rfl rfl rfl (.aggd (ds:=noIns.enc) rfl (.refl _))) (.tmp rfl (.one (.d (.refl _))))
     ·
      cases b with
      |true =>
       obtain rfl:is=false:=by simpa using hb
       repeat(first|refine wa ?_|((with_reducible apply s5);(first|((with_reducible apply(a_next (k:=j) 2));exact rfl;exact rfl;exact b2;exact hc1;exact rfl)|((with_reducible apply a_ia);(iterate 5 exact rfl);exact hix)|exact by_oa|exact by_ca);exact by_g)|refine wb ?_)
       exact .two (.cell rfl rfl rfl rfl (.aggd (ds:=noIns.enc) rfl (.refl _))) (.tmp rfl (.one (.d (.refl _))))
      |false =>
       repeat(first|refine wa ?_|((with_reducible apply s5);(first|((with_reducible apply(a_next (k:=j) 2));exact rfl;exact rfl;exact b2;exact hc1;exact rfl)|((with_reducible apply a_ia);(iterate 5 exact rfl);exact hix)|exact by_oa|exact by_ca);exact by_g)|refine wb ?_)
       exact .two (.cell rfl rfl rfl rfl (.aggd (ds:=noIns.enc) rfl (.refl _))) (.tmp rfl (.one (.d (.refl _))))
 ·
  rw[hins2 hlen]
  repeat(first|refine wa ?_|((with_reducible apply s5);(first|((with_reducible apply a_bin);exact rfl;exact rfl;exact hbk;exact rfl)|exact by_oa|exact by_ca);exact by_g)|refine wb ?_)
  exact .two (.cell rfl rfl rfl rfl (.aggd (ds:=noIns.enc) rfl (.refl _))) (.tmp rfl (.one (.d (.refl _))))
theorem ok_tparse (s:Str) (hbig:s.length≤1000000000):FnOk Tryz.prog 17 [.d (dstr s)] (.tup [.agg (parseR s).1.enc,dint (parseR s).2]):=by
 refine fnOk_of tbl_ok mixed_ok Tryz.func17 rfl (by kernel_rfl) rfl rfl fun w0 own0=>?_
 by_cases hs:400 < s.length
 ·
  have hP:parseE s = .error 4:=by unfold parseE;rw[if_pos hs]
  try refine wk ?_
  exact .two (.cell rfl rfl rfl rfl (.aggd rfl (no_le hP))) (.tmp rfl (.one (.d (er_le hP))))
 have c1:=ok_lsplit s [59,32] (by omega) (by simp)
 have hsl:=split_len s [59,32]
 have hsp:∀ p∈split s [59,32],p.length≤400:=fun p hp=>Nat.le_trans (split_part hp) (by omega)
 by_cases h2:(split s [59,32]).length < 2
 ·
  have hP:parseE s = .error 8:=by
   unfold parseE
   rw[if_neg hs]
   match split s [59,32],h2 with
   | [],_=>rfl
   | [_],_=>rfl
   |_::_::_,h=>simp at h;omega
  generalize split s [59,32]=l at *
  try refine wk ?_
  exact .two (.cell rfl rfl rfl rfl (.aggd rfl (no_le hP))) (.tmp rfl (.one (.d (er_le hP))))
 obtain⟨p0,p1,ps,e0⟩:∃ p0 p1 ps,split s [59,32]=p0::p1::ps:=by
  match split s [59,32],h2 with
  | [],h=>simp at h
  | [_],h=>simp at h
  |a::b::r,_=>exact⟨a,b,r,rfl⟩
 obtain⟨v0,rs,e1⟩:=split_cons p0 [32]
 obtain⟨v1,ws,e2⟩:=split_cons p1 [32]
 have hPF:=parseE_fin (by omega) e0 e1 e2
 generalize hl:split s [59,32]=l at *
 have h2l:2≤l.length:=by omega
 have hst0:StopA 7:=⟨rfl⟩
 try refine wkS ?_
 clear hst0
 refine Stop.go (CW.stut (stut_promote_cell (id:=1) (j:=2) 81 5 rfl) ⟨rfl,rfl,trivial⟩ ?_)
 try refine wk ?_
 refine CW.loopT (fun t:Nat×D×D×List Ins=>[sp 2 0,ob 0 noEnc,sp 5 1,(.o 1,.ob (.box [.d t.2.1,.d t.2.2.1,.own 2 t.2.2.2.length])),oa 2 81 5 (t.2.2.2.map Ins.enc),sd 22 (encStrs l),sd 23 (dint l.length),sd 24 (dint t.1),nxt 3])
  (fun t=>t.1≤l.length∧(t.1 < 2→t.2.2.2=[])∧(1≤t.1→v0=wReads∧t.2.1=encStrs rs)∧(2≤t.1→v1=wWrites∧t.2.2.1=encStrs ws)∧t.2.2.2.length≤t.1∧(2≤t.1→parseE s=finE rs ws t.2.2.2 (l.drop t.1))) (fun t=>l.length - t.1) (0,.v nilS,.v nilS,[])
  ⟨by dsimp only;omega,fun _=>rfl,fun h=>by dsimp only at h;omega,fun h=>by dsimp only at h;omega,by simp,fun h=>by dsimp only at h;omega⟩ ?_ ?_
 ·
  exact by_less
 ·
  rintro ⟨x,R,W,code⟩ ⟨hx,hc0,hR,hW,hc,hF⟩
  dsimp only at hx hc0 hR hW hc hF ⊢
  rcases drop_case hx with ⟨h1,h2⟩|⟨p,h1,h2,h3⟩
  ·
   obtain⟨_,rfl⟩:=hR (by omega)
   obtain⟨_,rfl⟩:=hW (by omega)
   have hF:=hF (by omega)
   rw[h1]at hF
   unfold finE at hF
   simp only[codeE,List.append_nil]at hF
   have hrs:∀ k∈rs,k.length≤400:=fun k hk=>Nat.le_trans (split_part (s:=p0) (sep:=[32]) (by rw[e1];exact List.mem_cons_of_mem _ hk)) (hsp p0 (by rw[e0];simp))
   have hws:∀ k∈ws,k.length≤400:=fun k hk=>Nat.le_trans (split_part (s:=p1) (sep:=[32]) (by rw[e2];exact List.mem_cons_of_mem _ hk)) (hsp p1 (by rw[e0];simp))
   have hrl:rs.length≤400:=by have:=split_len p0 [32];rw[e1]at this;have:=hsp p0 (by rw[e0];simp);simp at *;omega
   have hwl:ws.length≤400:=by have:=split_len p1 [32];rw[e2]at this;have:=hsp p1 (by rw[e0];simp);simp at *;omega
   have hsm:Deed.Sm ⟨rs,ws,code⟩:=⟨by dsimp only;omega,by dsimp only;omega,by dsimp only;omega,fun k hk=>by have:=hrs k hk;omega,fun k hk=>by have:=hws k hk;omega⟩
   have cw:=ok_pwrongDeed ⟨rs,ws,code⟩ hsm
   have co:=ok_deedOwn ⟨rs,ws,code⟩ hsm
   by_cases hw:wrongDeed ⟨rs,ws,code⟩=0
   ·
    rw[if_pos hw]at hF
    rw[hw]at cw
    have hr:parseR s=(⟨rs,ws,code⟩,0):=by unfold parseR;rw[hF];rfl
    rw[hr]
    have hst0:StopA 22:=⟨rfl⟩
    try refine wkS ?_
    clear hst0
    refine Stop.go (CW.stut (stut_freeze_cell (id:=1) (j:=2) (i:=2) rfl (by simp)) ⟨rfl,rfl,trivial⟩ ?_)
    try refine wk ?_
    exact .two (.cell rfl rfl rfl rfl (.aggd rfl (.refl _))) (.tmp rfl (.one (.d (.refl _))))
   ·
    rw[if_neg hw]at hF
    generalize wrongDeed ⟨rs,ws,code⟩=we at *
    have hst0:StopA 22:=⟨rfl⟩
    try refine wkS ?_
    clear hst0
    refine Stop.go (CW.stut (stut_freeze_cell (id:=1) (j:=2) (i:=2) rfl (by simp)) ⟨rfl,rfl,trivial⟩ ?_)
    try refine wk ?_
    exact .two (.cell rfl rfl rfl rfl (.aggd rfl (no_le hF))) (.tmp rfl (.one (.d (er_le hF))))
  ·
   have hp:p∈l:=List.mem_of_getElem? h2
   have hpl:=hsp p hp
   have c2:=ok_lsplit p [32] (by omega) (by simp)
   by_cases hx0:x=0
   ·
    subst hx0
    obtain rfl:=hc0 (by omega)
    have h2':=h2
    rw[e0]at h2
    obtain rfl:p0=p:=by simpa using h2
    rw[e1]at c2
    have hrl:rs.length≤400:=by have:=split_len p0 [32];rw[e1]at this;simp at *;omega
    have hw0:(v0::rs)[0]? = some v0:=rfl
    have hWd:wReads=[114,101,97,100,115]:=rfl
    by_cases hv:v0=wReads
    ·
     rw[hWd]at hv
     repeat(first|refine wa ?_|((with_reducible apply s5);(first|exact a_call c2 rfl by_sub|exact by_oa|exact by_ca);exact by_g)|refine wb ?_)
     refine q_loopT (1,encStrs rs,W,[]) ⟨by dsimp only;omega,fun _=>rfl,fun _=>⟨hv,rfl⟩,fun h=>by dsimp only at h;omega,by simp,fun h=>by dsimp only at h;omega⟩ (by dsimp only;omega) ?_
     exact by_less
    ·
     have hP:parseE s = .error 2:=by rw[hPF,if_neg hv]
     rw[hWd]at hv
     repeat(first|refine wa ?_|((with_reducible apply s5);(first|exact a_call c2 rfl by_sub|exact by_oa|exact by_ca);exact by_g)|refine wb ?_)
     exact .two (.cell rfl rfl rfl rfl (.aggd rfl (no_le hP))) (.tmp rfl (.one (.d (er_le hP))))
   by_cases hx1:x=1
   ·
    subst hx1
    obtain rfl:=hc0 (by omega)
    obtain⟨hv0,hR⟩:=hR (by omega)
    have h2':=h2
    rw[e0]at h2
    obtain rfl:p1=p:=by simpa using h2
    rw[e2]at c2
    have hwl:ws.length≤400:=by have:=split_len p1 [32];rw[e2]at this;simp at *;omega
    have hw0:(v1::ws)[0]? = some v1:=rfl
    have hWd:wWrites=[119,114,105,116,101,115]:=rfl
    by_cases hv:v1=wWrites
    ·
     have hv':=hv
     rw[hWd]at hv
     repeat(first|refine wa ?_|((with_reducible apply s5);(first|exact a_call c2 rfl by_sub|exact by_oa|exact by_ca);exact by_g)|refine wb ?_)
     refine q_loopT (2,R,encStrs ws,[]) ⟨by dsimp only;omega,fun h=>by dsimp only at h;omega,fun _=>⟨hv0,hR⟩,fun _=>⟨hv,rfl⟩,by simp,fun _=>by rw[hPF,if_pos hv0,if_pos hv',e0];rfl⟩ (by dsimp only;omega) ?_
     exact by_less
    ·
     have hP:parseE s = .error 2:=by rw[hPF,if_pos hv0,if_neg hv]
     rw[hWd]at hv
     repeat(first|refine wa ?_|((with_reducible apply s5);(first|exact a_call c2 rfl by_sub|exact by_oa|exact by_ca);exact by_g)|refine wb ?_)
     exact .two (.cell rfl rfl rfl rfl (.aggd rfl (no_le hP))) (.tmp rfl (.one (.d (er_le hP))))
   have hF:=hF (by omega)
   rw[h1,finE_cons]at hF
   obtain⟨w,wz,hwds⟩:=split_cons p [32]
   rw[hwds]at hF c2
   have hwl:wz.length≤400:=by have:=split_len p [32];rw[hwds]at this;simp at *;omega
   have ci:=ok_tinstr w wz (by omega) (fun u hu=>Nat.le_trans (split_part (s:=p) (sep:=[32]) (by rw[hwds];exact List.mem_cons_of_mem _ hu)) (by omega))
   have hw0:(w::wz)[0]? = some w:=rfl
   cases hI:insE (w::wz) with
   |error e =>
    rw[hI]at hF ci
    dsimp only at hF
    have he0:e≠0:=by
     intro e0'
     subst e0'
     simp only[insE]at hI
     split at hI
     ·
      cases hI
     ·
      split at hI
      ·
       split at hI <;> cases hI
      ·
       cases hI
    repeat(first|refine wa ?_|((with_reducible apply s5);(first|exact a_call c2 rfl by_sub|exact by_oa|exact by_ca);exact by_g)|refine wb ?_)
    exact .two (.cell rfl rfl rfl rfl (.aggd rfl (no_le hF))) (.tmp rfl (.one (.d (er_le hF))))
   |ok i =>
    rw[hI]at hF ci
    dsimp only at hF
    repeat(first|refine wa ?_|((with_reducible apply s5);(first|exact a_call c2 rfl by_sub|exact by_oa|exact by_ca);exact by_g)|refine wb ?_)
    refine q_loopT (x+1,R,W,code++[i]) ⟨by dsimp only;omega,fun h=>by dsimp only at h;omega,fun _=>hR (by omega),fun _=>hW (by omega),by dsimp only;simp;omega,fun _=>hF⟩ (by dsimp only;omega) ?_
    exact by_less
end Go.Proofs.YtccblhpfjlgmbabGreatDoor
namespace Go.Proofs.YtccblhpfjlgmbabGreatDoor
open Go.AX Go.RF
set_option maxRecDepth 100000
set_option maxHeartbeats 16000000
theorem noEntry_le:DLes [dint 0,.v nilS] noEntry.enc := .cons (.refl _) (.cons (dle_nil 3) .nil)
structure BForm (b:Str) (K:Nat) (h0 u v:UInt8) (L:Str):Prop where
 len:b.length=K+2
 k:1≤K
 l:L.length+1=K
 ph:b[0]? = some h0
 pu:b[K]? = some u
 pv:b[K+1]? = some v
 t:b.take K=h0::L
 pb:(b.take K).drop 1=L
 p:parseB b=if sumN 1 (b.take K)=u.toNat*256+v.toNat then
   (if (split L [10]).getLast? = some [] then match parseL (split L [10]).dropLast with
    |.error e => .error e
    |.ok ds=>if wrongEntry ⟨h0.toNat,ds⟩=0 then .ok ⟨h0.toNat,ds⟩ else .error (wrongEntry ⟨h0.toNat,ds⟩)
   else .error 2)
  else .error 2
theorem bform {b:Str}(h:3≤b.length):∃ K h0 u v L,BForm b K h0 u v L:=by
 obtain⟨h0,L,u,v,rfl⟩:=bytes_form h
 refine⟨L.length+1,h0,u,v,L,⟨by simp,by omega,rfl,rfl,by simp,by simp,by simp,by simp,?_⟩⟩
 rw[parseB_app]
 simp
 all_goals rfl
theorem idx_i {α:Type}{l:List α}{f:α→List D}{k:Nat}{m:Int}{x:α}(h:l[k]? = some x) (hm:m=(k:Int)):idx (l.map f) m=some (f x):=by
 subst hm;exact idx_map h
theorem cut_toI {l:Str}{k:Nat}{m:Int}(h:k≤l.length) (hm:m=(k:Int)):cutI (l.map byteD) none (some m)=some ((l.take k).map byteD):=by
 subst hm
 rw[cut_to (by simpa using h),List.map_take]
theorem cut_ftI {l:Str}{j k:Nat}{m q:Int}(hj:j≤k) (h:k≤l.length) (hm:m=(j:Int)) (hq:q=(k:Int)):cutI (l.map byteD) (some m) (some q)=some (((l.take k).drop j).map byteD):=by
 subst hm hq
 rw[cut_ft hj (by simpa using h),List.map_drop,List.map_take]
theorem ok_lparse (b:Str) (hb:b.length≤100000000):FnOk Tryz.prog 63 [.d (encBytes b)] (.tup [.agg (resB (parseB b)).1.enc,dint (resB (parseB b)).2]):=by
 refine fnOk_of tbl_ok mixed_ok Tryz.func63 rfl (by kernel_rfl) rfl rfl fun w0 own0=>?_
 by_cases h3:b.length < 3
 ·
  have hp:parseB b = .error 8:=by unfold parseB;rw[if_pos h3]
  rw[hp]
  try refine wk ?_
  exact .two (.cell rfl rfl rfl rfl (.aggd (ds:=[dint 0,.v nilS]) rfl noEntry_le.agg)) (.tmp rfl (.one (.d (.refl _))))
 obtain⟨K,h0,u,v,L,⟨f1,f2,f3,f4,f5,f6,f7,f8,f9⟩⟩:=bform (b:=b) (by omega)
 have hu:=u.toNat_lt
 have hv:=v.toNat_lt
 have hh:=h0.toNat_lt
 have c1:=ok_lsum (b.take K) (by rw[List.length_take];omega)
 rw[f9]
 by_cases g1:sumN 1 (b.take K)=u.toNat*256+v.toNat
 rotate_left
 ·
  rw[if_neg g1]
  generalize sumN 1 (b.take K)=S at *
  repeat(first|refine wa ?_|((with_reducible apply s5);(first|((with_reducible apply a_ia);(iterate 5 exact rfl);first|exact idx_i f5 (by simp;omega)|exact idx_i f6 (by simp;omega)|exact idx_i f4 rfl)|((with_reducible apply a_to);(iterate 5 exact rfl);exact cut_toI (k:=K) (by omega) (by simp;omega))|((with_reducible apply a_bin);exact rfl;exact rfl;(first|((with_reducible apply bin_shlJ);exact rfl;exact hu)|((with_reducible apply bin_or8);exact hu;exact hv));exact rfl)|exact by_oa|exact by_ca);exact by_g)|refine wb ?_)
  exact .two (.cell rfl rfl rfl rfl (.aggd (ds:=[dint 0,.v nilS]) rfl noEntry_le.agg)) (.tmp rfl (.one (.d (.refl _))))
 rw[if_pos g1]
 rw[g1]at c1
 have c2:=ok_lsplit L [10] (by omega) (by simp)
 have hsl:=split_len L [10]
 have hsp:∀ p∈split L [10],p.length≤L.length:=fun p hp=>split_part hp
 have hne:split L [10]≠[]:=splitF_ne [10] L.length [] L
 generalize split L [10]=ls at *
 obtain⟨x,hx⟩:∃ x,ls.getLast? = some x:=⟨_,List.getLast?_eq_some_getLast hne⟩
 have hxi:ls[ls.length - 1]? = some x:=by rw[← List.getLast?_eq_getElem?];exact hx
 have hlp:=List.length_pos_iff.2 hne
 have hdl:ls.dropLast=ls.take (ls.length - 1):=List.dropLast_eq_take
 have hcutd:∀ m:Int,m=(ls.length:Int) - 1→cutI (ls.map encStr1) none (some m)=some (ls.dropLast.map encStr1):=fun m hm=>by
  rw[hm,show(ls.length:Int) - 1=((ls.length - 1:Nat):Int) by omega,cut_to (by simp),hdl,List.map_take]
 have hcut:∀ m:Int,m=(K:Int)→cutI (b.map byteD) (some 1) (some m)=some (L.map byteD):=fun m hm=>by
  have:=cut_ftI (l:=b) (j:=1) (k:=K) (m:=1) (q:=m) (by omega) (by omega) rfl hm
  rwa [f8]at this
 rw[hx]
 by_cases g2:x=[]
 rotate_left
 ·
  rw[if_neg (by simpa using g2)]
  repeat(first|refine wa ?_|((with_reducible apply s5);(first|((with_reducible apply a_ia);(iterate 5 exact rfl);first|exact idx_i f5 (by simp;omega)|exact idx_i f6 (by simp;omega)|exact idx_i f4 rfl)|((with_reducible apply a_to);(iterate 5 exact rfl);exact cut_toI (k:=K) (by omega) (by simp;omega))|((with_reducible apply a_bin);exact rfl;exact rfl;(first|((with_reducible apply bin_shlJ);exact rfl;exact hu)|((with_reducible apply bin_or8);exact hu;exact hv));exact rfl)|((with_reducible apply a_ft);(iterate 6 exact rfl);exact hcut _ (by first|(simp;done)|(simp;omega)))|((with_reducible apply a_b2s);(iterate 8 exact rfl))|((with_reducible apply a_ia);(iterate 5 exact rfl);exact idx_i hxi (by first|(simp;omega)|omega))|exact by_oa|exact by_ca);exact by_g)|refine wb ?_)
  exact .two (.cell rfl rfl rfl rfl (.aggd (ds:=[dint 0,.v nilS]) rfl noEntry_le.agg)) (.tmp rfl (.one (.d (.refl _))))
 subst g2
 rw[if_pos rfl]
 have hml:ls.dropLast.length≤L.length+1:=by rw[List.length_dropLast];omega
 have hmp:∀ p∈ls.dropLast,p.length≤L.length:=fun p hp=>hsp p (by rw[hdl]at hp;exact List.mem_of_mem_take hp)
 repeat(first|refine wa ?_|((with_reducible apply s5);(first|((with_reducible apply a_ia);(iterate 5 exact rfl);first|exact idx_i f5 (by simp;omega)|exact idx_i f6 (by simp;omega)|exact idx_i f4 rfl)|((with_reducible apply a_to);(iterate 5 exact rfl);exact cut_toI (k:=K) (by omega) (by simp;omega))|((with_reducible apply a_bin);exact rfl;exact rfl;(first|((with_reducible apply bin_shlJ);exact rfl;exact hu)|((with_reducible apply bin_or8);exact hu;exact hv));exact rfl)|((with_reducible apply a_ft);(iterate 6 exact rfl);exact hcut _ (by first|(simp;done)|(simp;omega)))|((with_reducible apply a_b2s);(iterate 8 exact rfl))|((with_reducible apply a_ia);(iterate 5 exact rfl);exact idx_i hxi (by first|(simp;omega)|omega))|((with_reducible apply a_to);(iterate 5 exact rfl);exact hcutd _ (by simp))|exact by_oa|exact by_ca);exact by_g)|refine wb ?_)
 refine CW.stut (stut_promote_cell (id:=1) (j:=1) 28 3 rfl) ⟨rfl,rfl,trivial⟩ ?_
 generalize ls.dropLast=ms at *
 refine CW.loopT (fun t:Nat×List Deed=>[sp 2 0,ob 0 [dint 0,.v nilS],sd 3 (dint 0),sp 5 1,(.o 1,.ob (.box [.d (dint h0.toNat),.own 2 t.1])),oa 2 28 3 (t.2.map Deed.enc),sd 60 (encStrs ms),sd 61 (dint ms.length),sd 62 (dint t.1),nxt 3])
  (fun t=>t.1≤ms.length∧t.2.length=t.1∧(∀ d∈t.2,wrongDeed d=0)∧accL t.2 (parseL (ms.drop t.1))=parseL ms) (fun t=>ms.length - t.1) (0,[]) ⟨by dsimp only;omega,rfl,by simp,by dsimp only;rw[List.drop_zero];cases parseL ms <;> rfl⟩ ?_ ?_
 ·
  exact by_less
 ·
  rintro ⟨j,ds⟩ ⟨hj,hl,hw,hI⟩
  dsimp only at hj hl hw hI ⊢
  rcases drop_case hj with ⟨k1,k2⟩|⟨s,k1,k2,k3⟩
  ·
   rw[k1,parseL]at hI
   simp only[accL,List.append_nil]at hI
   rw[← hI]
   dsimp only
   have c3:=ok_lwrong ⟨h0.toNat,ds⟩ (fun d hd=>wrong_sm (hw d hd)) (by dsimp only;omega)
   have hst0:StopA 18:=⟨rfl⟩
   try refine wkS ?_
   clear hst0
   refine Stop.go (CW.stut (stut_freeze_cell (id:=1) (j:=1) (i:=2) rfl (by simp;omega)) ⟨rfl,rfl,trivial⟩ ?_)
   by_cases g3:wrongEntry ⟨h0.toNat,ds⟩=0
   ·
    rw[if_pos g3]
    rw[g3]at c3
    try refine wk ?_
    exact .two (.cell rfl rfl rfl rfl (.aggd (ds:=Entry.enc ⟨h0.toNat,ds⟩) rfl (.refl _))) (.tmp rfl (.one (.d (.refl _))))
   ·
    rw[if_neg g3]
    generalize wrongEntry ⟨h0.toNat,ds⟩=W at *
    try refine wk ?_
    exact .two (.cell rfl rfl rfl rfl (.aggd (ds:=[dint 0,.v nilS]) rfl noEntry_le.agg)) (.tmp rfl (.one (.d (.refl _))))
  ·
   rw[k1]at hI
   simp only[parseL]at hI
   have hsl:=hmp s (List.mem_of_getElem? k2)
   have c3:=ok_tparse s (by omega)
   cases hp:parseE s with
   |error e =>
    rw[hp]at hI
    rw[parseR_err hp]at c3
    have he:=parseE_err hp
    simp only[accL]at hI
    rw[← hI]
    repeat(first|refine wa ?_|((with_reducible apply s5);(first|exact a_call c3 rfl by_sub|exact by_oa|exact by_ca);exact by_g)|refine wb ?_)
    exact .two (.cell rfl rfl rfl rfl (.aggd (ds:=[dint 0,.v nilS]) rfl noEntry_le.agg)) (.tmp rfl (.one (.d (.refl _))))
   |ok d =>
    rw[hp]at hI
    rw[parseR_ok hp]at c3
    have hd:=parseE_right hp
    dsimp only at hI c3
    have hI2:accL (ds++[d]) (parseL (ms.drop (j+1)))=parseL ms:=by
     rw[← hI]
     cases parseL (ms.drop (j+1)) with
     |error e=>rfl
     |ok l=>simp[accL]
    repeat(first|((with_reducible apply s5);((with_reducible apply a_bs [d.enc]);(iterate 9 exact rfl);(repeat(first|exact PartsE.nil|(apply PartsE.cons;exact rfl;exact rfl))));exact by_g)|refine wa1 ?_|((with_reducible apply s5);(first|exact a_call c3 rfl by_sub|exact by_oa|exact by_ca);exact by_g)|refine wb ?_)
    refine q_loopT (j+1,ds++[d]) ⟨by dsimp only;omega,by simp;omega,fun y hy=>?_,hI2⟩ (by dsimp only;omega) ?_
    ·
     rcases List.mem_append.1 hy with hy|hy
     ·
      exact hw y hy
     ·
      rw[List.mem_singleton.1 hy];exact hd
    exact by_less
set_option maxHeartbeats 8000000
def noC:Cluster:=⟨[],[],[]⟩
def madeC (n:Int):Cluster×Int:=if n < 1∨3 < n then (noC,3) else (newC n,0)
theorem noC_le:DLes [.v nilS,.v nilS,.v nilS] noC.enc := .cons (dle_nil 2) (.cons (dle_nil 7) (.cons (dle_nil 2) .nil))
theorem ok_cnew (n:Int):FnOk Tryz.prog 21 [.d (dint n)] (.tup [.agg (madeC n).1.enc,dint (madeC n).2]):=by
 refine fnOk_of tbl_ok mixed_ok Tryz.func21 rfl (by kernel_rfl) rfl rfl fun w0 own0=>?_
 unfold madeC
 by_cases h1:n < 1
 ·
  rw[if_pos (.inl h1)]
  try refine wk ?_
  exact .two (.cell rfl rfl rfl rfl (.aggd (ds:=[.v nilS,.v nilS,.v nilS]) rfl noC_le.agg)) (.tmp rfl (.one (.d (.refl _))))
 by_cases h2:3 < n
 ·
  rw[if_pos (.inr h2)]
  try refine wk ?_
  exact .two (.cell rfl rfl rfl rfl (.aggd (ds:=[.v nilS,.v nilS,.v nilS]) rfl noC_le.agg)) (.tmp rfl (.one (.d (.refl _))))
 rw[if_neg (by omega)]
 obtain⟨N,rfl⟩:=Int.eq_ofNat_of_zero_le (show 0≤n by omega)
 unfold newC
 rw[Int.toNat_natCast]
 have c1:=ok_repNew
 try refine wk ?_
 refine CW.stut (stut_promote_cell (id:=1) (j:=1) 66 7 rfl) ⟨rfl,rfl,trivial⟩ ?_
 refine CW.loopT (fun i:Nat=>[sp 2 0,ob 0 [.v nilS,.v nilS,.v nilS],sd 3 (dint 0),sp 4 1,(.o 1,.ob (.box [.d (.v nilS),.own 2 i,.d (.v nilS)])),oa 2 66 7 (List.replicate i noR.enc),sd 12 (dint N),sd 13 (dint i),nxt 3]) (fun i=>i≤N) (fun i=>N - i) 0 (by omega) ?_ ?_
 ·
  exact by_less
 ·
  rintro i hi
  by_cases h3:i=N
  ·
   subst h3
   try refine wk ?_
   exact .two (.cell rfl rfl rfl rfl (.agg (.cons (.d (dle_nil 2)) (.cons (.own rfl (by simp) (dle_eq (by simp[encReps]))) (.cons (.d (dle_nil 2)) .nil))))) (.tmp rfl (.one (.d (.refl _))))
  ·
   have h4:List.replicate i noR.enc++[noR.enc]=List.replicate (i+1) noR.enc:=by rw[List.replicate_succ']
   repeat(first|((with_reducible apply s5);((with_reducible apply a_bs [noR.enc]);(iterate 9 exact rfl);(repeat(first|exact PartsE.nil|(apply PartsE.cons;exact rfl;exact rfl))));exact by_g)|refine wa1 ?_|((with_reducible apply s5);(first|exact by_oa|exact by_ca);exact by_g)|refine wb ?_)
   refine q_loopT (i+1) (by omega) (by omega) ?_
   exact by_less
theorem ok_clone_byte (rows:List (List D)) (hl:rows.length≤536870912):FnOk Tryz.prog 44 [.d (.sl 1 rows)] (.one (.sl 1 rows)):=by
 refine FnNew.ok (e:=5) (k:=1) ?_
 refine fnNew_of tbl_ok mixed_ok Tryz.func44 rfl (by kernel_rfl) rfl rfl fun w0 own0=>?_
 cases rows with
 |nil =>
  refine CW.empty 0 rfl fun p cp=>?_
  cases p with
  |none =>
   try refine wk ?_
   exact RetNew.nil rfl rfl
  |some ad =>
   have hst0:StopR 3:=⟨rfl⟩
   try refine wkS ?_
   clear hst0
   refine Stop.go (CW.stut (stut_nilv (i:=0) (k:=1)) ⟨rfl,trivial⟩ ?_)
   try refine wk ?_
   exact RetNew.own rfl rfl rfl
 |cons r rows =>
  have hl2:rows.length≤536870911:=by simp at hl;omega
  try refine wk ?_
  exact RetNew.own rfl rfl (by simp)
structure Cluster.Sm (c:Cluster):Prop where
 l:c.log.length≤1000
 w:∀ x∈c.log,wrongEntry x=0
 k:c.reps.length≤1000
 r:∀ r∈c.reps,Replica.Sm r
 p:c.net.length≤1000
 d:∀ p∈c.net,p.data.length≤100000
theorem KInv.sm {c:Cluster}(h:KInv c):c.Sm:=by
 refine⟨by have:=h.l;omega,h.right,by have:=h.k;omega,fun r hr=>(h.r r hr).1.sm,by have:=h.p;omega,fun p hp=>?_⟩
 obtain⟨_,i,e,h1,h2⟩:=h.d p hp
 rw[h2]
 have:=bytes_len (h.w i e h1).2
 omega
theorem entry_sm {e:Entry}(h:wrongEntry e=0):e.deeds.length≤134217728∧∀ d∈e.deeds,d.Sm:=by
 obtain⟨_,h2,_,h4⟩:=wrongEntry_out h
 exact⟨by omega,fun d hd=>wrong_sm (h4 d hd)⟩
abbrev ownC (c:Cluster):List Part:=[.own 119 2 (c.log.map Entry.enc),.own 66 7 (c.reps.map Replica.enc),.own 100 2 (c.net.map Packet.enc)]
theorem news_cown (c:Cluster) (h:c.Sm):FnNews Tryz.prog 23 [.d (.agg c.enc)] (ownC c):=by
 refine fnNews_of tbl_ok mixed_ok Tryz.func23 rfl (by kernel_rfl) rfl rfl fun w0 own0=>?_
 have hl:=h.l
 have hk:=h.k
 have hp:=h.p
 have c1:=new_logOwn c.log (by omega) fun e he=>entry_sm (h.w e he)
 repeat(first|refine wa ?_|((with_reducible apply s5);(first|((with_reducible apply a_buildA);(iterate 4 exact rfl);(repeat(first|exact PartsV.nil|(apply PartsV.cons;exact rfl;exact rfl;(first|exact⟨rfl,trivial⟩|(apply nw_own;exact rfl;(focus first|exact rfl|(simp;done)|(simp;omega)))))));exact rfl)|exact a_callnew c1 rfl rfl by_sub|exact by_oa|exact by_ca);exact by_g)|refine wb ?_)
 refine CW.stut (stut_promote_cell (id:=3) (j:=1) 66 7 rfl) ⟨rfl,rfl,trivial⟩ ?_
 refine CW.loopT (fun i:Nat=>[sp 1 0,ob 0 c.enc,sp 2 1,ob 1 [.v nilS,.v nilS,.v nilS],sp 3 3,(.o 3,.ob (.box [.own 2 c.log.length,.own 4 i,.d (.v nilS)])),oa 2 119 2 (c.log.map Entry.enc),oa 4 66 7 ((c.reps.take i).map Replica.enc),sd 13 (encReps c.reps),sd 14 (dint c.reps.length),sd 15 (dint i),nxt 5])
  (fun i=>i≤c.reps.length) (fun i=>c.reps.length - i) 0 (by omega) ?_ ?_
 ·
  exact by_less
 ·
  rintro i hi
  rcases drop_case hi with ⟨h1,h2⟩|⟨r,h1,h2,h3⟩
  ·
   subst h2
   rw[List.take_length]
   try refine wk ?_
   refine CW.stut (stut_promote_cell (id:=3) (j:=2) 100 2 rfl) ⟨rfl,rfl,trivial⟩ ?_
   refine CW.loopT (fun j:Nat=>[sp 2 1,ob 1 [.v nilS,.v nilS,.v nilS],sp 3 3,(.o 3,.ob (.box [.own 2 c.log.length,.own 4 c.reps.length,.own 5 j])),oa 2 119 2 (c.log.map Entry.enc),oa 4 66 7 (c.reps.map Replica.enc),oa 5 100 2 ((c.net.take j).map Packet.enc),sd 28 (encNet c.net),sd 29 (dint c.net.length),sd 30 (dint j),nxt 6])
    (fun j=>j≤c.net.length) (fun j=>c.net.length - j) 0 (by omega) ?_ ?_
   ·
    exact by_less
   ·
    rintro j hj
    rcases drop_case hj with ⟨h4,h5⟩|⟨p,h4,h5,h6⟩
    ·
     subst h5
     rw[List.take_length]
     try refine wk ?_
     exact .cell rfl rfl rfl rfl (.cons (.own rfl (by simp)) (.cons (.own rfl (by simp)) (.cons (.own rfl (by simp)) .nil))) (show([2,4,5]:List Nat).Nodup by decide)
    ·
     have hpd:=h.d p (List.mem_of_getElem? h5)
     have c3:=ok_clone_byte (p.data.map byteD) (by simp;omega)
     have h7:(c.net.take j).map Packet.enc++[p.enc]=(c.net.take (j+1)).map Packet.enc:=by rw[List.take_add_one,h5];simp
     repeat(first|((with_reducible apply s5);((with_reducible apply a_bs [p.enc]);(iterate 9 exact rfl);(repeat(first|exact PartsE.nil|(apply PartsE.cons;exact rfl;exact rfl))));exact by_g)|refine wa1 ?_|((with_reducible apply s5);(first|((with_reducible apply a_buildA);(iterate 4 exact rfl);(repeat(first|exact PartsV.nil|(apply PartsV.cons;exact rfl;exact rfl;(first|exact⟨rfl,trivial⟩|(apply nw_own;exact rfl;(focus first|exact rfl|(simp;done)|(simp;omega)))))));exact rfl)|exact by_oa|exact by_ca);exact by_g)|refine wb ?_)
     refine q_loopT (j+1) (by omega) (by omega) ?_
     exact by_less
  ·
   have c2:=ok_repOwn r (h.r r (List.mem_of_getElem? h2))
   have h7:(c.reps.take i).map Replica.enc++[r.enc]=(c.reps.take (i+1)).map Replica.enc:=by rw[List.take_add_one,h2];simp
   repeat(first|((with_reducible apply s5);((with_reducible apply a_bs [r.enc]);(iterate 9 exact rfl);(repeat(first|exact PartsE.nil|(apply PartsE.cons;exact rfl;exact rfl))));exact by_g)|refine wa1 ?_|((with_reducible apply s5);(first|exact by_oa|exact by_ca);exact by_g)|refine wb ?_)
   refine q_loopT (i+1) (by omega) (by omega) ?_
   exact by_less
theorem ok_cown (c:Cluster) (h:c.Sm):FnOk Tryz.prog 23 [.d (.agg c.enc)] (.one (.agg c.enc)):=(news_cown c h).ok
theorem EInv.allE {N:Nat}:∀ {f:Nat}{e:Engine}{p:List Int},waitN e.state=f→EInv e N→EInv (allE e p) N
 |f,e,p,hf,h=>by
  by_cases hr:ready e=[]
  ·
   rw[all_nil hr]
   exact h
  ·
   have hp:=pickI_lt hr p
   have hx:(ready e)[pickI (ready e) p]? = some ((ready e)[pickI (ready e) p]'hp):=List.getElem?_eq_getElem hp
   obtain⟨A,d,h1,h2,h3,h4,h5,h6,h7⟩:=all_step h.z.s hx
   rw[h7]
   cases f with
   |zero=>omega
   |succ f=>exact EInv.allE (f:=f) (p:=p.tail) (by omega) (h.goE _)
def stepCome:Step:=⟨3,0,0,[]⟩
def drainN:List Packet→Cluster→Cluster
 | [],c=>c
 |_::t,c=>drainN t (doC c stepCome).1
def nextC (c:Cluster) (n:Nat):Cluster:=match c.reps[n]? with
 |none=>c
 |some r=>match nth c.log r.next with
  |none=>c
  |some e=>{ c with reps:=c.reps.set n (comeE r e).1 }
def finC (c:Cluster) (n:Nat):Cluster:=match c.reps[n]? with
 |none=>c
 |some r=>{ c with reps:=c.reps.set n ⟨allE r.engine [],r.next,r.early⟩ }
def turnC (c:Cluster) (n:Nat):Cluster:=finC (nextC c n) n
def turnsC:Nat→Nat→Cluster→Cluster
 |0,_,c=>c
 |k+1,n,c=>turnsC k (n+1) (turnC c n)
def roundC (c:Cluster):Cluster:=turnsC (drainN c.net c).reps.length 0 (drainN c.net c)
def doneR (L:Nat) (r:Replica):Bool:=decide ((L:Int)≤r.next)&&decide (ready r.engine=[])
def doneC (c:Cluster):Bool:=decide (c.net=[])&&c.reps.all (doneR c.log.length)
def settleC:Nat→Cluster→Cluster×Nat
 |0,c=>(c,0)
 |f+1,c=>if doneC c=true then (c,0) else ((settleC f (roundC c)).1,(settleC f (roundC c)).2+1)
theorem come_step {c:Cluster}{p:Packet}{t:List Packet}(h:c.net=p::t):doC c stepCome=(comeC { c with net:=t } p,0):=by
 unfold doC stepCome
 dsimp only
 rw[if_neg (by omega),if_neg (by omega),if_pos (by omega)]
 unfold packetC
 rw[h]
 have h1:nth (p::t) (0:Int)=some p:=rfl
 rw[h1]
 dsimp only
 rw[if_neg (by omega),if_neg (by omega)]
 rfl
theorem comeC_keep (c:Cluster) (p:Packet):(comeC c p).log=c.log∧(comeC c p).net=c.net∧(comeC c p).reps.length=c.reps.length:=by
 unfold comeC
 split
 ·
  exact⟨rfl,rfl,rfl⟩
 split
 ·
  exact⟨rfl,rfl,rfl⟩
 ·
  exact⟨rfl,rfl,by simp⟩
def Lvl (t:Nat) (c:Cluster):Prop:=∀ r∈c.reps,(t:Int)≤r.next∨(c.log.length:Int)≤r.next
theorem lvl_zero {c:Cluster}(h:KInv c):Lvl 0 c:=fun r hr=>by
 obtain⟨⟨k,h1,_⟩,_,_⟩:=(h.r r hr).2
 exact .inl (by omega)
theorem KInv.next {c:Cluster}(h:KInv c) {r:Replica}(hr:r∈c.reps) {i:Nat}{e:Entry}(he:c.log[i]? = some e):r.next≤(comeE r e).1.next :=
 ((h.r r hr).2.come (QC.adds h.right) he (h.w i e he).1).2.1
theorem lvl_set {t:Nat}{c:Cluster}(h:Lvl t c) {n:Nat}{r:Replica}(hr:(t:Int)≤r.next∨(c.log.length:Int)≤r.next):Lvl t { c with reps:=c.reps.set n r }:=fun x hx=>by
 rcases List.mem_or_eq_of_mem_set hx with hx|rfl
 ·
  exact h x hx
 ·
  exact hr
theorem lvl_come {t:Nat}{c:Cluster}(h:KInv c) (hl:Lvl t c) {p:Packet}(hp:∃ (i:Nat) (e:Entry),c.log[i]? = some e∧p.data=bytesE e):Lvl t (comeC c p):=by
 obtain⟨i,e,h1,h2⟩:=hp
 unfold comeC
 split
 ·
  exact hl
 next r hr =>
 obtain⟨j,hj1,hj⟩:=nth_some hr
 rw[h2,parse_bytes (h.w i e h1).2]
 have hrm:=List.mem_of_getElem? hj
 have hn:=h.next hrm h1
 exact lvl_set hl (by have:=hl r hrm;omega)
theorem drainN_inv:∀ {l:List Packet}{c:Cluster}{t:Nat},c.net=l→KInv c→Lvl t c→KInv (drainN l c)∧Lvl t (drainN l c)∧(drainN l c).net=[]∧(drainN l c).log=c.log∧(drainN l c).reps.length=c.reps.length
 | [],c,t,hn,h,hl=>⟨h,hl,hn,rfl,rfl⟩
 |p::l,c,t,hn,h,hl=>by
  simp only[drainN]
  have hs:=come_step hn
  have hk:=h.step stepCome
  rw[hs]at hk ⊢
  dsimp only at hk ⊢
  have h0:KInv { c with net:=l }:=by
   have:=h.drop 0
   rw[hn]at this
   exact this
  obtain⟨g1,g2,g3⟩:=comeC_keep { c with net:=l } p
  have hd:=(h.d p (by rw[hn];simp)).2
  obtain⟨k1,k2,k3,k4,k5⟩:=drainN_inv (l:=l) (t:=t) (by rw[g2]) hk (lvl_come h0 hl hd)
  exact⟨k1,k2,k3,by rw[k4,g1],by rw[k5,g3]⟩
theorem fin_ok {L:List Entry}{r:Replica}(h:RInv r∧CInv L (QC L) r):RInv ⟨allE r.engine [],r.next,r.early⟩∧CInv L (QC L) ⟨allE r.engine [],r.next,r.early⟩∧ready (allE r.engine [])=[]:=by
 obtain⟨h1,⟨k,h2,h3,m,h4,h5,h6,h7⟩,h8,h9⟩:=h
 obtain⟨q,hb⟩:=h1.b
 have ha:=all_inv (p:=[]) rfl hb
 have hc:=all_inv (p:=[]) rfl h7
 refine⟨⟨h1.e.allE rfl,⟨q,ha.1⟩,h1.n,h1.l,h1.w,h1.g,h1.d⟩,⟨⟨k,h2,h3,m,hc.2.2.1.trans h4,h5,hc.2.1.trans h6,hc.1⟩,h8,h9⟩,?_⟩
 cases hr:ready (allE r.engine []) with
 |nil=>rfl
 |cons x t =>
  obtain⟨A,_,hA,_⟩:=ready_mem.1 (show x∈ready (allE r.engine []) by rw[hr];simp)
  have:=ha.2.2.2 0 (List.mem_of_getElem? hA)
  omega
theorem nextC_inv {c:Cluster}(h:KInv c) (n:Nat):KInv (nextC c n)∧(nextC c n).log=c.log∧(nextC c n).net=c.net∧(nextC c n).reps.length=c.reps.length ∧
  (∀ (i:Nat),i≠n→(nextC c n).reps[i]? = c.reps[i]?)∧∀ r,c.reps[n]? = some r→∃ s,(nextC c n).reps[n]? = some s∧(r.next+1≤s.next∨(c.log.length:Int)≤s.next):=by
 unfold nextC
 cases hr:c.reps[n]? with
 |none=>exact⟨h,rfl,rfl,rfl,fun _ _=>rfl,fun r hr=>by cases hr⟩
 |some r =>
  dsimp only
  cases he:nth c.log r.next with
  |none=>exact⟨h,rfl,rfl,rfl,fun _ _=>rfl,fun r' h'=>by
    cases h'
    refine⟨r,hr,.inr ?_⟩
    have:=(h.r r (List.mem_of_getElem? hr)).1.n
    rcases nth_none he with h1|h1 <;> omega⟩
  |some e =>
   obtain⟨i,hi1,hi⟩:=nth_some he
   have hrm:=List.mem_of_getElem? hr
   have hnl:=(List.getElem?_eq_some_iff.1 hr).1
   refine⟨h.setR (h.come1 hrm hi),rfl,rfl,by simp,fun j hj=>?_,fun r' h'=>?_⟩
   ·
    dsimp only
    rw[List.getElem?_set_ne (Ne.symm hj)]
   ·
    cases h'
    refine⟨(comeE r e).1,by dsimp only;rw[List.getElem?_set_self hnl],.inl ?_⟩
    obtain⟨w1,w2⟩:=h.w i e hi
    obtain⟨_,_,_,hg,h5⟩:=(h.r r hrm).2.come (QC.adds h.right) hi w1
    rcases h5 with h5|⟨h5,_⟩
    ·
     rcases h5 with h5|h5
     ·
      omega
     ·
      obtain⟨y,hy,hn⟩:=hasN_true.1 h5
      have:=hg (h.r r hrm).1.g y hy
      omega
    ·
     -- what is next is taken in,however many came too soon
     have hc:comeE r e=(drainR r.early.length ⟨(addE r.engine e.deeds).1,r.next+1,r.early⟩,0):=by
      unfold comeE
      rw[if_neg,if_neg (by omega)]
      rintro (h6|h6)
      ·
       omega
      ·
       obtain⟨y,hy,hn⟩:=hasN_true.1 h6
       have:=(h.r r hrm).1.g y hy
       omega
     have hR:=(h.r r hrm).1
     have hno:hasN e.number r.early=false:=hasN_false.2 fun y hy=>by have:=hR.g y hy;omega
     have hT:=take_inv (snoc_inv hR w2 (by omega) hno) (k:=r.early.length) (x:=e) (by simp) (show e.number=r.next by omega)
     rw[List.eraseIdx_append_of_length_le (Nat.le_refl _)]at hT
     simp at hT
     have:=(drainR_inv (f:=r.early.length) hT (Nat.le_refl _)).2.2.2.2
     rw[hc]
     exact this
theorem finC_inv {c:Cluster}(h:KInv c) (n:Nat):KInv (finC c n)∧(finC c n).log=c.log∧(finC c n).net=c.net∧(finC c n).reps.length=c.reps.length ∧
  (∀ (i:Nat),i≠n→(finC c n).reps[i]? = c.reps[i]?)∧∀ r,c.reps[n]? = some r→∃ s,(finC c n).reps[n]? = some s∧s.next=r.next∧ready s.engine=[]:=by
 unfold finC
 cases hr:c.reps[n]? with
 |none=>exact⟨h,rfl,rfl,rfl,fun _ _=>rfl,fun r hr=>by cases hr⟩
 |some r =>
  have hnl:=(List.getElem?_eq_some_iff.1 hr).1
  obtain⟨f1,f2,f3⟩:=fin_ok (h.r r (List.mem_of_getElem? hr))
  refine⟨h.setR ⟨f1,f2⟩,rfl,rfl,by simp,fun j hj=>?_,fun r' h'=>?_⟩
  ·
   dsimp only
   rw[List.getElem?_set_ne (Ne.symm hj)]
  ·
   cases h'
   exact⟨⟨allE r.engine [],r.next,r.early⟩,by dsimp only;rw[List.getElem?_set_self hnl],rfl,f3⟩
def Up (t L:Nat) (r:Replica):Prop:=((t:Int)+1≤r.next∨(L:Int)≤r.next)∧ready r.engine=[]
theorem turnC_inv {t:Nat}{c:Cluster}(h:KInv c) (hl:Lvl t c) (n:Nat):KInv (turnC c n)∧(turnC c n).log=c.log∧(turnC c n).net=c.net∧(turnC c n).reps.length=c.reps.length ∧
  (∀ (i:Nat),i≠n→(turnC c n).reps[i]? = c.reps[i]?)∧∀ r,(turnC c n).reps[n]? = some r→Up t c.log.length r:=by
 unfold turnC
 obtain⟨a1,a2,a3,a4,a5,a6⟩:=nextC_inv h n
 obtain⟨b1,b2,b3,b4,b5,b6⟩:=finC_inv a1 n
 refine⟨b1,b2.trans a2,b3.trans a3,b4.trans a4,fun i hi=>(b5 i hi).trans (a5 i hi),fun r hr=>?_⟩
 cases hc:c.reps[n]? with
 |none =>
  have h1:=List.getElem?_eq_none_iff.1 hc
  have h2:=(List.getElem?_eq_some_iff.1 hr).1
  omega
 |some r0 =>
  obtain⟨s,hs,h1⟩:=a6 r0 hc
  obtain⟨u,hu,h2,h3⟩:=b6 s hs
  rw[hu]at hr
  cases hr
  have:=hl r0 (List.mem_of_getElem? hc)
  exact⟨by omega,h3⟩
theorem turnsC_inv {t:Nat}:∀ {k n:Nat}{c:Cluster},n+k=c.reps.length→KInv c→Lvl t c→(∀ (i:Nat) (r:Replica),i < n→c.reps[i]? = some r→Up t c.log.length r) →
  KInv (turnsC k n c)∧(turnsC k n c).log=c.log∧(turnsC k n c).net=c.net∧(turnsC k n c).reps.length=c.reps.length∧∀ r∈(turnsC k n c).reps,Up t c.log.length r
 |0,n,c,hn,h,hl,hu=>⟨h,rfl,rfl,rfl,fun r hr=>by
   obtain⟨i,hi⟩:=List.mem_iff_getElem?.1 hr
   have hi2:c.reps[i]? = some r:=hi
   exact hu i r (by have:=(List.getElem?_eq_some_iff.1 hi2).1;omega) hi2⟩
 |k+1,n,c,hn,h,hl,hu=>by
  obtain⟨a1,a2,a3,a4,a5,a6⟩:=turnC_inv h hl n
  have hu':∀ (i:Nat) (r:Replica),i < n+1→(turnC c n).reps[i]? = some r→Up t c.log.length r:=fun i r hi hr=>by
   by_cases h1:i=n
   ·
    subst h1;exact a6 r hr
   ·
    rw[a5 i h1]at hr;exact hu i r (by omega) hr
  have hl':Lvl t (turnC c n):=fun r hr=>by
   obtain⟨i,hi⟩:=List.mem_iff_getElem?.1 hr
   by_cases h1:i=n
   ·
    subst h1
    have:=(a6 r hi).1
    rw[a2];omega
   ·
    rw[a5 i h1]at hi
    have:=hl r (List.mem_of_getElem? hi)
    rw[a2];exact this
  have ih:=turnsC_inv (t:=t) (k:=k) (n:=n+1) (by rw[a4];omega) a1 hl' (fun i r hi hr=>by rw[a2];exact hu' i r hi hr)
  simp only[turnsC]
  rw[a2,a3,a4]at ih
  exact ih
theorem roundC_inv {t:Nat}{c:Cluster}(h:KInv c) (hl:Lvl t c):KInv (roundC c)∧(roundC c).log=c.log∧(roundC c).net=[]∧(roundC c).reps.length=c.reps.length∧∀ r∈(roundC c).reps,Up t c.log.length r:=by
 obtain⟨g1,g2,g3,g4,g5⟩:=drainN_inv (t:=t) rfl h hl
 unfold roundC
 generalize drainN c.net c=d at *
 obtain⟨k1,k2,k3,k4,k5⟩:=turnsC_inv (t:=t) (k:=d.reps.length) (n:=0) (by omega) g1 g2 (fun i r hi=>by omega)
 exact⟨k1,k2.trans g4,k3.trans g3,k4.trans g5,by rw[← g4];exact k5⟩
theorem doneC_of {c:Cluster}(hn:c.net=[]) (h:∀ r∈c.reps,(c.log.length:Int)≤r.next∧ready r.engine=[]):doneC c=true:=by
 unfold doneC
 rw[decide_eq_true hn,Bool.true_and,List.all_eq_true]
 intro r hr
 unfold doneR
 rw[decide_eq_true (h r hr).1,decide_eq_true (h r hr).2]
 rfl
theorem doneC_out {c:Cluster}(h:doneC c=true):c.net=[]∧∀ r∈c.reps,(c.log.length:Int)≤r.next∧ready r.engine=[]:=by
 unfold doneC at h
 rw[Bool.and_eq_true,List.all_eq_true]at h
 refine⟨of_decide_eq_true h.1,fun r hr=>?_⟩
 have:=h.2 r hr
 unfold doneR at this
 rw[Bool.and_eq_true]at this
 exact⟨of_decide_eq_true this.1,of_decide_eq_true this.2⟩
theorem settleC_inv:∀ {f t:Nat}{c:Cluster},KInv c→Lvl t c→KInv (settleC f c).1∧(settleC f c).1.log=c.log∧(settleC f c).1.reps.length=c.reps.length∧(settleC f c).2≤f∧(c.log.length < f+t→0 < f→doneC (settleC f c).1=true)
 |0,t,c,h,hl=>⟨h,rfl,rfl,Nat.le_refl _,fun _ h0=>by omega⟩
 |f+1,t,c,h,hl=>by
  simp only[settleC]
  by_cases hd:doneC c=true
  ·
   rw[if_pos hd]
   exact⟨h,rfl,rfl,by dsimp only;omega,fun _ _=>hd⟩
  ·
   rw[if_neg hd]
   obtain⟨a1,a2,a3,a4,a5⟩:=roundC_inv (t:=t) h hl
   have hl':Lvl (t+1) (roundC c):=fun r hr=>by
    have:=(a5 r hr).1
    rw[a2];omega
   obtain⟨b1,b2,b3,b4,b5⟩:=settleC_inv (f:=f) (t:=t+1) a1 hl'
   refine⟨b1,b2.trans a2,b3.trans a4,by dsimp only;omega,fun hf _=>?_⟩
   dsimp only
   by_cases h0:0 < f
   ·
    exact b5 (by rw[a2];omega) h0
   ·
    obtain rfl:f=0:=by omega
    refine doneC_of a3 fun r hr=>?_
    obtain⟨h1,h2⟩:=a5 r hr
    exact⟨by dsimp only[settleC]at hr ⊢;rw[a2];omega,h2⟩
theorem settle_done {c:Cluster}(h:KInv c):KInv (settleC 40 c).1∧(settleC 40 c).1.log=c.log∧(settleC 40 c).1.reps.length=c.reps.length∧(settleC 40 c).2≤40∧doneC (settleC 40 c).1=true:=by
 obtain⟨b1,b2,b3,b4,b5⟩:=settleC_inv (f:=40) (t:=0) h (lvl_zero h)
 exact⟨b1,b2,b3,b4,b5 (by have:=h.l;omega) (by omega)⟩
theorem set_same {α:Type}{l:List α}{n:Nat}{x:α}(h:l[n]? = some x):l.set n x=l:=by
 refine List.ext_getElem? fun i=>?_
 by_cases hi:n=i
 ·
  subst hi
  rw[List.getElem?_set_self (List.getElem?_eq_some_iff.1 h).1,h]
 ·
  rw[List.getElem?_set_ne hi]
theorem done_seen {c:Cluster}(h:KInv c) (hd:doneC c=true) {r:Replica}(hr:r∈c.reps):seenE r.engine r.engine.deeds.length=((allD [] (dOf c.log c.log.length)).1,0)∧markN r.engine.state=r.engine.deeds.length:=by
 obtain⟨h1,h2⟩:=(doneC_out hd).2 r hr
 obtain⟨k,g1,g2,m,g3,g4,g5,g6⟩:=(h.r r hr).2.n
 obtain rfl:k=c.log.length:=by omega
 have h3:=ready_nil g6 h2
 have hdl:r.engine.deeds.length=(dOf c.log c.log.length).length - m:=by rw[g5,List.length_drop]
 have hs:=seen_done g6 h3
 have hsq:=sq_drop (r:=[]) (l:=dOf c.log c.log.length) (m:=m) r.engine.deeds.length (by omega)
 rw[← g5]at hsq
 rw[hs,hsq,markN_all h3,g6.W.l]
 refine⟨?_,rfl⟩
 unfold sq
 rw[List.take_of_length_le (by omega)]
structure Step.Sm (s:Step):Prop where
 l:s.deeds.length≤10000000
 d:∀ d∈s.deeds,d.Sm
abbrev shStep:List Sh:=[i64s,i64s,i64s,.sl shDeed]
structure Step.In (s:Step) (m:Nat):Prop where
 l:s.deeds.length≤m
 d:∀ x∈s.deeds,Deed.In x m
theorem Step.In.mono {s:Step}{m n:Nat}(h:Step.In s m) (hm:m≤n):Step.In s n:=⟨by have:=h.l;omega,fun x hx=>(h.d x hx).mono hm⟩
theorem Step.In.sm {s:Step}{m:Nat}(h:Step.In s m) (hm:m≤1048576):s.Sm:=⟨by have:=h.l;omega,fun d hd=>(h.d d hd).sm hm⟩
theorem dec_step (r:List D) (m:Nat) (h:FitsL shStep m r):∃ s:Step,r=s.enc∧Step.In s m:=by
 obtain⟨d,e,f,g,rfl,h1,h2,h3,h4⟩:=dec_four h
 obtain⟨k,rfl,_⟩:=dec_int h1
 obtain⟨n,rfl,_⟩:=dec_int h2
 obtain⟨q,rfl,_⟩:=dec_int h3
 obtain⟨l,rfl,hl,hd⟩:=dec_deeds h4
 exact⟨⟨k,n,q,l⟩,rfl,hl,hd⟩
theorem dec_steps {m:Nat}{d:D}(h:Fits (.sl shStep) m d):∃ l:List Step,d=encSteps l∧l.length≤m∧∀ s∈l,Step.In s m:=by
 obtain⟨rows,rfl,hr⟩:=dec_sl h
 obtain⟨l,rfl,hl,hn⟩:=fitsR_all dec_step hr
 exact⟨l,rfl,hn,fun p hp=>let ⟨_,h1,h2⟩:=hl p hp;h2.mono h1⟩
abbrev shPay:List Sh:=[i64s,i64s,i64s]
def encPay (p:Int×Int×Int):List D:=[dint p.1,dint p.2.1,dint p.2.2]
theorem dec_pay (r:List D) (m:Nat) (h:FitsL shPay m r):∃ p:Int×Int×Int,r=encPay p∧True:=by
 obtain⟨d,e,f,rfl,h1,h2,h3⟩:=dec_three h
 obtain⟨k,rfl,_⟩:=dec_int h1
 obtain⟨n,rfl,_⟩:=dec_int h2
 obtain⟨q,rfl,_⟩:=dec_int h3
 exact⟨(k,n,q),rfl,trivial⟩
theorem dec_pays {m:Nat}{d:D}(h:Fits (.sl shPay) m d):∃ l:List (Int×Int×Int),d = .sl 3 (l.map encPay)∧l.length≤m:=by
 obtain⟨rows,rfl,hr⟩:=dec_sl h
 obtain⟨l,rfl,hl,hn⟩:=fitsR_all dec_pay hr
 exact⟨l,rfl,hn⟩
end Go.Proofs.YtccblhpfjlgmbabGreatDoor
namespace Go.Proofs.YtccblhpfjlgmbabGreatDoor
open Go.AX Go.RF Go.RowKit Go.Shelf Go.Lib
set_option maxHeartbeats 4000000 in
set_option maxRecDepth 100000 in
theorem delete_walkK (g n cap m:Nat) (w:World) (cur:Array Value) (hg:w.heap[g]? = some (.cells cur 100 (0,0))) (hsz:cur.size=cap*2) (hm:m < n) (hn:n≤268435456) (hnc:n≤cap) (hcm:cap≤maxLen) (hone:∀ v∈cur.toList.take (n*2),v.oneCell'=true) :
  Calls Tryz.prog 62 #[.slice (some ⟨g,0,none⟩) n cap,.int .i64 (m:Int),.int .i64 ((m:Int)+1)] w fun e w' =>
   e = .returned (.slice (some ⟨g,0,none⟩) (n - 1) cap)∧∃ m1 cs',w'=(w.drew.setRow g m1).setRow g cs'∧cs'.size=cap*2∧cs'.toList.take ((n - 1)*2)=(cur.toList.take (n*2)).take (m*2)++(cur.toList.take (n*2)).drop ((m+1)*2):=by
 have mixed:=mixed_ok
 have hnm:¬ ((m:Int)=(m:Int)+1):=by omega
 have hT:Tryz.prog.underlying 50=some (.slice 100):=Tryz.underlying50
 have htb:∃ ti,tget tbl 100=some ti∧ti.n=2∧ti.zero=[.int .i64 0,.slice none 0 0]:=⟨_,rfl,rfl,rfl⟩
 obtain⟨ti,ht1,ht2,ht4⟩:=htb
 obtain⟨i0,hi0,hzs,_,z,hz0,hzc⟩:=(tbl_ok _ _ ht1).info
 rw[ht2]at hzs
 rw[ht4]at hzc
 have hcl:n*2≤cur.size:=by rw[hsz];exact Nat.mul_le_mul_right 2 hnc
 obtain⟨news,hnews⟩:∃ news,news=(cur.toList.drop ((m+1)*2)).take ((n - (m+1))*2):=⟨_,rfl⟩
 have hnl:news.length=(n - (m+1))*2:=by rw[hnews];simp;omega
 obtain⟨m1,hm1⟩:∃ m1:List Value,m1=cur.toList.take (m*2)++news++cur.toList.drop (m*2+news.length):=⟨_,rfl⟩
 have hm1l:m1.length=cur.size:=by rw[hm1];simp;omega
 obtain⟨zs,hzs2⟩:∃ zs:List Value,zs=[.int .i64 0,.slice none 0 0]:=⟨_,rfl⟩
 obtain⟨m2,hm2⟩:∃ m2:List Value,m2=m1.take ((m+(n - (m+1)))*2)++zs++m1.drop ((m+(n - (m+1)))*2+zs.length):=⟨_,rfl⟩
 have hm2l:m2.length=cur.size:=by rw[hm2,hzs2];simp;omega
 have hlast:m2.take ((n - 1)*2)=(cur.toList.take (n*2)).take (m*2)++(cur.toList.take (n*2)).drop ((m+1)*2):=by
  have h:=del_cells (cur:=cur.toList) (zs:=zs) hm (by simpa using hcl)
  rw[hm2,hm1,hnews]
  exact h
 have hap:∀ (A:Addr),(cap=m+1∨A=⟨g,(m+1)*2,none⟩)→∀ ty,(Builtin.append_ #[50,50] ty #[.slice (some ⟨g,0,none⟩) m cap,.slice (some A) (n - (m+1)) (cap - (m+1))]).run Tryz.prog w.drew =
   .ok (.slice (some ⟨g,0,none⟩) (m+(n - (m+1))) cap) (w.drew.setRow g m1.toArray):=fun A hA ty=>by
  have hnw:∀ j u,news[j]? = some u→w.drew.cell? (A.add j)=some u:=fun j u hj=>by
   rcases hA with hA|rfl
   ·
    have:news=[]:=List.eq_nil_of_length_eq_zero (by rw[hnl];omega)
    rw[this]at hj;simp at hj
   ·
    rw[hnews,List.getElem?_take]at hj
    split at hj
    ·
     rw[List.getElem?_drop]at hj
     rw[Addr.add_lit]
     have hgd:w.drew.heap[g]? = some (.cells cur 100 (0,0)):=hg
     simp[World.cell?,hgd]
     simpa using hj
    ·
     cases hj
  have ho1:∀ u∈news,u.oneCell'=true:=fun u hu=>by
   obtain⟨j,hj⟩:=List.getElem?_of_mem hu
   rw[hnews,List.getElem?_take]at hj
   split at hj
   ·
    rw[List.getElem?_drop]at hj
    refine hone u (List.mem_of_getElem? (i:=(m+1)*2+j) ?_)
    rw[List.getElem?_take,if_pos (by omega)];exact hj
   ·
    cases hj
  have h:=run_append_room (P:=Tryz.prog) (w:=w.drew) (ty:=ty) 50 100 i0 hT hi0 g m cap cur hg A (n - (m+1)) (cap - (m+1)) news (by rw[hzs];exact hnl) hnw ho1 (by omega) (by rw[hzs,hnl];omega)
  rw[hzs]at h
  rw[hm1]
  exact h
 have hg1:(w.drew.setRow g m1.toArray).heap[g]? = some (.cells m1.toArray 100 (0,0)):=setRow_heap _ _ _ _ _ _ hg
 have hclr:∀ ty,(Builtin.clear_ #[50] ty #[.slice (some ⟨g,(m+(n - (m+1)))*2,none⟩) (n - (m+(n - (m+1)))) (cap - (m+(n - (m+1))))]).run Tryz.prog (w.drew.setRow g m1.toArray) =
   .ok (.tuple #[]) ((w.drew.setRow g m1.toArray).setRow g m2.toArray):=fun ty=>by
  have e1:n - (m+(n - (m+1)))=1:=by omega
  have hst:=run_storeCells_at Tryz.prog g ((m+(n - (m+1)))*2) 100 zs 0 m1.toArray (w.drew.setRow g m1.toArray) hg1 (by rw[hzs2];simp;omega) (by rw[hzs2];simp[Value.oneCell'])
  have hzz:(Builtin.zeroCells z.cells 1).toList=zs:=by
   rw[hzs2,← hzc]
   have h2:z.cells.size=2:=by rw[← Array.length_toList,hzc];rfl
   apply List.ext_getElem
   ·
    simp[Builtin.zeroCells,h2]
   ·
    intro i h3 h4
    have h5:i < 2:=by simpa[h2] using h4
    simp[Builtin.zeroCells,Nat.mod_eq_of_lt h5,h2]
    exact getElem!_pos z.cells i (by omega)
  have hzv:(zeroValue 100).run Tryz.prog (w.drew.setRow g m1.toArray) = .ok z (w.drew.setRow g m1.toArray):=by simp[zeroValue,typeInfo,hi0,hz0]
  rw[e1]
  simp only[Nat.add_zero]at hst
  simp[Builtin.clear_,run_underlying hT,hzv,hzz,hst,hm2]
 have hi1:m≤cap:=by omega
 have hi2:m+1≤cap:=by omega
 have hi3:m+1≤n:=by omega
 clear hm1 hm2 hnews hzs2
 have hj1:(0:Int)≤(m:Int)+1:=by omega
 have hj2:(m:Int)+1≤(n:Int):=by omega
 have hj3:(m:Int)≤(m:Int)+1:=by omega
 have htn:((m:Int)+1).toNat=m+1:=by omega
 by_cases hcj:cap=m+1
 ·
  have hap1:=hap ⟨g,0,none⟩ (.inl hcj)
  obtain rfl:n=m+1:=by omega
  subst hcj
  have hap2:∀ ty,(Builtin.append_ #[50,50] ty #[.slice (some ⟨g,0,none⟩) m (m+1),.slice (some ⟨g,0,none⟩) 0 0]).run Tryz.prog w.drew = .ok (.slice (some ⟨g,0,none⟩) m (m+1)) (w.drew.setRow g m1.toArray):=fun ty=>by simpa using hap1 ty
  have hclr2:∀ ty,(Builtin.clear_ #[50] ty #[.slice (some ⟨g,m*2,none⟩) 1 1]).run Tryz.prog (w.drew.setRow g m1.toArray) = .ok (.tuple #[]) ((w.drew.setRow g m1.toArray).setRow g m2.toArray):=fun ty=>by
   have h:=hclr ty
   rw[show m+1 - (m+1)=0 by omega,show m+0=m by omega,show m+1 - m=1 by omega]at h
   exact h
  clear hap hap1 hclr
  go_enter Tryz.func62,Tryz.ntmps62
  go_wp2_with fail
  go_region_law_o (refine step_append_runI rfl _ _ 50 50 rfl (.slice (some ⟨g,0,none⟩) m (m+1)) (.slice (some ⟨g,0,none⟩) 0 0) (by simp[Act.eval,Act.put]) (by simp[Act.eval,Act.put]) (hap2 _) ?_)
  go_wp2_with (at_builtin;refine wpList_clear_runI rfl _ 50 rfl _ rfl (hclr2 _) ?_)
  go_ret
  exact⟨by rw[show m+1 - 1=m by omega];rfl,_,_,rfl,by simp[hm2l,hsz],by simpa using hlast⟩
 ·
  have hap1:=hap ⟨g,(m+1)*2,none⟩ (.inr rfl)
  clear hap
  go_enter Tryz.func62,Tryz.ntmps62
  go_wp2_with fail
  go_region_law_o (refine step_append_runI rfl _ _ 50 50 rfl (.slice (some ⟨g,0,none⟩) m cap) (.slice (some ⟨g,(m+1)*2,none⟩) (n - (m+1)) (cap - (m+1))) (by simp[Act.eval,Act.put]) (by simp[Act.eval,Act.put]) (hap1 _) ?_)
  go_wp2_with (at_builtin;refine wpList_clear_runI rfl _ 50 rfl _ rfl (hclr _) ?_)
  go_ret
  exact⟨by rw[show n - 1=m+(n - (m+1)) by omega];rfl,_,_,rfl,by simp[hm2l,hsz],by simpa using hlast⟩
theorem upd_deleteK (rows:List (List D)) (m:Nat) (hm:m < rows.length) (hl:rows.length≤268435456) :
  FnUpd Tryz.prog 62 100 2 rows [.d (dint m),.d (dint ((m:Int)+1))] (rows.take m++rows.drop (m+1)):=by
 refine⟨⟨_,Tryz.func62,by kernel_rfl,by kernel_rfl⟩,fun w own v vs hown hR hsep ha=>?_⟩
 match vs,ha with
 | [v1,v2],⟨h1,h2,_⟩ =>
  have e1:=rd_v h1
  have e2:=rd_v h2
  subst e1 e2
  obtain⟨xs,hrow,hone,hrl,hrd⟩:=hR
  have hxl:=hrow.1
  rcases hrow.2 with ⟨_,h0⟩|⟨g,cap,cur,rfl,_,hg,hnc,hcm,hsz,htk⟩
  ·
   omega
  ·
   refine(delete_walkK g rows.length cap m w cur hg hsz hm hl hnc hcm (by rw[htk];exact hone)).mono fun e w'=>?_
   rintro ⟨rfl,m1,cs',rfl,q1,q2⟩
   have hp:∀ b,blk (.slice (some ⟨g,0,none⟩) (rows.length - 1) cap)=some b→blk (.slice (some ⟨g,0,none⟩) rows.length cap)=some b∨w.heap.size≤b:=fun b hb => .inl hb
   have hbb:BelowBut (.slice (some ⟨g,0,none⟩) rows.length cap) w ((w.drew.setRow g m1).setRow g cs'):=⟨rfl,rfl,rfl,by simp[setRow_size],fun b hb hn=>by
    have hbg:b≠g:=fun h=>hn (by rw[h];rfl)
    rw[setRow_other _ _ _ _ hbg,setRow_other _ _ _ _ hbg];rfl⟩
   refine⟨_,rfl,hbb,hp,rows_del hm hbb hp hxl hone hrl hrd ⟨by simp;omega,.inr ⟨g,cap,cs',rfl,Nat.zero_le _,setRow_heap _ _ _ _ _ _ (setRow_heap _ _ _ _ _ _ hg),by omega,hcm,q1,?_⟩⟩⟩
   rw[q2,htk]
end Go.Proofs.YtccblhpfjlgmbabGreatDoor
namespace Go.AX
open Go.RowKit
def isS:Key→Bool
 |.s _=>true
 |_=>false
def slotsOf:St→St
 | []=>[]
 |(k,v)::r=>match isS k with
  |true=>(k,v)::slotsOf r
  |false=>slotsOf r
def objsOf:St→St
 | []=>[]
 |(k,v)::r=>match isS k with
  |true=>objsOf r
  |false=>(k,v)::objsOf r
theorem get_slots {i:Nat}:∀ {σ:St},get (slotsOf σ) (.s i)=get σ (.s i)
 | []=>rfl
 |(k,v)::r=>by
  by_cases h:k = .s i
  ·
   subst h
   show get ((Key.s i,v)::slotsOf r) _=_
   rw[get_cons_same,get_cons_same]
  ·
   rw[get_cons_ne h]
   cases k with
   |s j=>exact(get_cons_ne h).trans (get_slots (σ:=r))
   |o j=>exact get_slots (σ:=r)
   |nx=>exact get_slots (σ:=r)
theorem get_slots_ne {k:Key}(hk:isS k=false):∀ {σ:St},get (slotsOf σ) k = .none
 | []=>rfl
 |(q,v)::r=>by
  cases q with
  |s j=>exact(get_cons_ne (fun e=>by rw[← e]at hk;cases hk)).trans (get_slots_ne hk (σ:=r))
  |o j=>exact get_slots_ne hk (σ:=r)
  |nx=>exact get_slots_ne hk (σ:=r)
theorem get_objs {k:Key}(hk:isS k=false):∀ {σ:St},get (objsOf σ) k=get σ k
 | []=>rfl
 |(q,v)::r=>by
  by_cases h:q=k
  ·
   subst h
   cases q with
   |s j=>cases hk
   |o j=>show get ((Key.o j,v)::objsOf r) _=_;rw[get_cons_same,get_cons_same]
   |nx=>show get ((Key.nx,v)::objsOf r) _=_;rw[get_cons_same,get_cons_same]
  ·
   rw[get_cons_ne h]
   cases q with
   |s j=>exact get_objs hk (σ:=r)
   |o j=>exact(get_cons_ne h).trans (get_objs hk (σ:=r))
   |nx=>exact(get_cons_ne h).trans (get_objs hk (σ:=r))
theorem get_objs_s {i:Nat}:∀ {σ:St},get (objsOf σ) (.s i) = .none
 | []=>rfl
 |(q,v)::r=>by
  cases q with
  |s j=>exact get_objs_s (σ:=r)
  |o j=>exact(get_cons_ne (by simp)).trans (get_objs_s (σ:=r))
  |nx=>exact(get_cons_ne (by simp)).trans (get_objs_s (σ:=r))
theorem get_app_none {k:Key}{τ:St}:∀ {σ:St},get σ k = .none→(∀ v,(k,v)∈σ→v ≠ .none)→get (σ++τ) k=get τ k
 | [],_,_=>rfl
 |(q,v)::r,h,hn=>by
  by_cases hq:q=k
  ·
   subst hq
   rw[get_cons_same]at h
   exact absurd h (hn v (List.mem_cons_self ..))
  ·
   rw[get_cons_ne hq]at h
   rw[List.cons_append,get_cons_ne hq]
   exact get_app_none h fun v hv=>hn v (List.mem_cons_of_mem _ hv)
theorem slots_only {k:Key}{v:Val}:∀ {σ:St},(k,v)∈slotsOf σ→isS k=true
 |(q,u)::r,h=>by
  cases q with
  |s j =>
   rcases List.mem_cons.1 h with h|h
   ·
    cases h;rfl
   ·
    exact slots_only h
  |o j=>exact slots_only (σ:=r) h
  |nx=>exact slots_only (σ:=r) h
theorem mem_of_get {k:Key}{av:AV}:∀ {σ:St},get σ k = .av av→(k,Val.av av)∈σ
 |(q,v)::r,h=>by
  by_cases hq:q=k
  ·
   subst hq
   rw[get_cons_same]at h
   subst h
   exact List.mem_cons_self ..
  ·
   rw[get_cons_ne hq]at h
   exact List.mem_cons_of_mem _ (mem_of_get h)
theorem get_back {σ τ:St}{k:Key}:get (slotsOf σ++objsOf τ) k=if isS k=true then get (slotsOf σ++objsOf τ) k else get τ k:=by
 by_cases h:isS k=true
 ·
  rw[if_pos h]
 ·
  rw[if_neg h]
  have hf:isS k=false:=by cases hk:isS k <;> simp_all
  rw[get_app_none (get_slots_ne hf) (fun v hv=>by rw[slots_only hv]at hf;cases hf),get_objs hf]
theorem get_back_o {σ τ:St}{id:Nat}:get (slotsOf σ++objsOf τ) (.o id)=get τ (.o id):=by rw[get_back];rfl
theorem get_back_nx {σ τ:St}:get (slotsOf σ++objsOf τ) .nx=get τ .nx:=by rw[get_back];rfl
theorem get_app_or {k:Key}{τ:St}:∀ {σ:St},get (σ++τ) k=get σ k∨get (σ++τ) k=get τ k
 | [] => .inr rfl
 |(q,u)::r=>by
  by_cases hq:q=k
  ·
   subst hq
   rw[List.cons_append,get_cons_same,get_cons_same];exact .inl rfl
  ·
   rw[List.cons_append,get_cons_ne hq,get_cons_ne hq]
   exact get_app_or
theorem get_back_s {σ τ:St}{i:Nat}{av:AV}(h:get (slotsOf σ++objsOf τ) (.s i) = .av av):get σ (.s i) = .av av:=by
 rcases get_app_or (σ:=slotsOf σ) (τ:=objsOf τ) (k := .s i) with h1|h1
 ·
  rw[h1,get_slots]at h;exact h
 ·
  rw[h1,get_objs_s]at h;cases h
def kept (a:Act) (σ:St):List Key→List (Value×AV)
 | []=>[]
 |.s i::r=>match get σ (.s i) with
  |.av av=>(a.tmps.getD i undef,av)::kept a σ r
  |_=>kept a σ r
 |_::r=>kept a σ r
theorem kept_ok {a:Act}{σ:St}{p:Value×AV}:∀ {l:List Key},p∈kept a σ l→∃ i,get σ (.s i) = .av p.2∧a.tmps.getD i undef=p.1
 |.s i::r,h=>by
  simp only[kept]at h
  split at h
  ·
   next av hav =>
   rcases List.mem_cons.1 h with rfl|h
   ·
    exact⟨i,hav,rfl⟩
   ·
    exact kept_ok h
  ·
   exact kept_ok h
 |.o i::r,h=>kept_ok (l:=r) h
 |.nx::r,h=>kept_ok (l:=r) h
theorem kept_of {a:Act}{σ:St}{i:Nat}{av:AV}(h:get σ (.s i) = .av av):∀ {l:List Key},.s i∈l→(a.tmps.getD i undef,av)∈kept a σ l
 |.s j::r,hm=>by
  by_cases hj:j=i
  ·
   subst hj
   simp only[kept,h]
   exact List.mem_cons_self ..
  ·
   have hr:Key.s i∈r:=by
    rcases List.mem_cons.1 hm with h1|h1
    ·
     cases h1;exact absurd rfl hj
    ·
     exact h1
   simp only[kept]
   split
   ·
    exact List.mem_cons_of_mem _ (kept_of h hr)
   ·
    exact kept_of h hr
 |.o j::r,hm=>by
  rcases List.mem_cons.1 hm with h1|h1
  ·
   cases h1
  ·
   exact kept_of (l:=r) h h1
 |.nx::r,hm=>by
  rcases List.mem_cons.1 hm with h1|h1
  ·
   cases h1
  ·
   exact kept_of (l:=r) h h1
def argAv:Nat→List AV→St
 |_,[]=>[]
 |i,x::xs=>(.s i,.av x)::argAv (i+1) xs
theorem argAv_get {xs:List AV}:∀ {i j:Nat}{av:AV},get (argAv i xs) (.s j) = .av av→i≤j∧xs[j - i]? = some av:=by
 induction xs with
 |nil=>intro i j av h;cases h
 |cons x xs ih =>
  intro i j av h
  by_cases hj:i=j
  ·
   subst hj
   rw[argAv,get_cons_same]at h
   cases h
   simp
  ·
   rw[argAv,get_cons_ne (by simpa using hj)]at h
   obtain⟨h1,h2⟩:=ih h
   refine⟨by omega,?_⟩
   rw[show j - i=(j - (i+1))+1 by omega]
   simpa using h2
theorem argAv_ne {xs:List AV}{k:Key}(hk:isS k=false):∀ {i:Nat},get (argAv i xs) k = .none:=by
 induction xs with
 |nil=>intro i;rfl
 |cons x xs ih=>intro i;rw[argAv,get_cons_ne (fun e=>by rw[← e]at hk;cases hk)];exact ih
theorem argAv_only {xs:List AV}{k:Key}{v:Val}:∀ {i:Nat},(k,v)∈argAv i xs→isS k=true:=by
 induction xs with
 |nil=>intro i h;cases h
 |cons x xs ih =>
  intro i h
  rcases List.mem_cons.1 h with h|h
  ·
   cases h;rfl
  ·
   exact ih h
theorem get_args {xs:List AV}{τ:St}{k:Key}(hk:isS k=false):get (argAv 0 xs++objsOf τ) k=get τ k:=by
 rw[get_app_none (argAv_ne hk) (fun v hv=>by rw[argAv_only hv]at hk;cases hk),get_objs hk]
inductive EvL (σ:St):List Operand→List AV→Prop
 |nil:EvL σ [] []
 |cons {x:Operand} {av:AV} {xs:List Operand} {avs:List AV} (hx:ev σ x=some av) (hr:EvL σ xs avs):EvL σ (x::xs) (av::avs)
variable {cx:Cx}{g:Nat→Value}{σ:St}{a:Act}{w:World}{nx:Nat}{c:Code}{Q:Exit→St→Prop}
variable {ty:TypeId}{pos:String}{af:Array Edge}{gd:Option (Nat×Bool)}{d:Nat}{ops:Array Oper}{rest:List Oper}
theorem EvL.at (hs:SimG cx σ a w g nx) {xs:List Operand}{avs:List AV}(h:EvL σ xs avs):avs.length=xs.length∧∀ (j:Nat) (av:AV),avs[j]? = some av→∃ x,xs[j]? = some x∧Rep cx g σ w (a.eval x) av∧av.bd nx:=by
 induction h with
 |nil=>exact⟨rfl,fun j av h=>by simp at h⟩
 |cons hx hr ih =>
  refine⟨by simp[ih.1],fun j av hj=>?_⟩
  cases j with
  |zero =>
   simp at hj
   subst hj
   exact⟨_,rfl,hs.ev (ev_out hx).1 (ev_out hx).2⟩
  |succ j =>
   obtain⟨x,h1,h2⟩:=ih.2 j av (by simpa using hj)
   exact⟨x,by simpa using h1,h2⟩
def inlQ (cx:Cx) (ops:Array Oper) (Q:Exit→St→Prop) (rest:List Oper) (σ:St) (d t:Nat):Exit→St→Prop
 |.normal,σ'=>∃ x,get σ' (.s t) = .av (.d x)∧SW cx ops Q rest ((.s d,.av (.d x))::(slotsOf σ++objsOf σ'))
 |.ret,σ'=>∃ x,get σ' (.s t) = .av (.d x)∧SW cx ops Q rest ((.s d,.av (.d x))::(slotsOf σ++objsOf σ'))
 |_,_=>False
theorem q_inl {t:Nat}{σ':St}{x:D}(h:get σ' (.s t) = .av (.d x)) (hr:SW cx ops Q rest ((.s d,.av (.d x))::(slotsOf σ++objsOf σ'))):inlQ cx ops Q rest σ d t .ret σ':=⟨x,h,hr⟩
theorem SW.inline {f : FuncId} {fn : Func} {xs : List Operand} {avs : List AV} {ats : Array TypeId} {t n : Nat} (hf : cx.P.funcs[f]? = some fn) (hb : fn.body = some c) (hname : (fn.name == "runtime.NumGoroutine") = false)
  (hr:fn.results = #[.tmp t]) (hd:Nat.blt d cx.n=true) (hn:Nat.ble xs.length fn.ntmps=true) (hev:EvL σ xs avs) (hnx:get σ .nx = .num n)
  (h:∀ gh,CW ⟨cx.P,cx.T,cx.hT,cx.mixed,fn.ntmps,cx.w0,cx.own0,n,gh⟩ c (inlQ cx ops Q rest σ d t) (argAv 0 avs++objsOf σ)) :
  SW cx ops Q (⟨some d,.call { callee := .value (.func f),args:=⟨xs⟩,argTypes:=ats },ty,pos,af,none⟩::rest) σ:=by
 rintro a w ⟨g,nx,hs⟩
 obtain rfl:nx=n:=by
  have:=hs.hnx
  rw[hnx]at this
  simpa using this.symm
 refine wpList_plain rfl fun K hK=>?_
 unfold Oper.wp
 rw[call_run (a:=a) (d:=d) (ty:=ty) (pos:=pos) (af:=af) (gd:=none) (w:=w) (xs:=xs) (ats:=ats) ⟨fn,hf,hname,by rw[hb];rfl⟩]
 obtain⟨hlen,hat⟩:=hev.at hs
 -- the callee's state,at the start
 have hobj:∀ id,get (argAv 0 avs++objsOf σ) (.o id)=get σ (.o id):=fun id=>get_args rfl
 have hlat:Later cx g g σ (argAv 0 avs++objsOf σ) w w nx:=by
  refine⟨Ext.refl _ _,Below.refl _ _,fun b hb=>?_,fun id o' _ ho=>⟨o',(hobj id).symm.trans ho,by cases o' <;> simp[ObLe]⟩⟩
  rcases hb with hb|⟨id,o,h1,h2⟩
  ·
   exact .inl (.inl hb)
  ·
   exact .inl (.inr ⟨id,o,(hobj id).symm.trans h1,h2⟩)
 have hstart:SimG ⟨cx.P,cx.T,cx.hT,cx.mixed,fn.ntmps,cx.w0,cx.own0,nx,kept a σ (σ.map (·.1))++cx.gh⟩ (argAv 0 avs++objsOf σ) { tmps:=(xs.map a.eval).toArray++Array.replicate (fn.ntmps - (xs.map a.eval).toArray.size) undef,defers:=[] } w g nx:=by
  refine⟨(get_args rfl).trans hs.hnx,by simp at hn ⊢;omega,rfl,hs.below,hs.own0,fun i av hi=>?_,fun id o ho=>?_,fun id id' o o' b h1 h2=>hs.sep id id' o o' b ((hobj _).symm.trans h1) ((hobj _).symm.trans h2),Nat.le_refl _,fun p hp=>?_⟩
  ·
   rcases get_app_or (σ:=argAv 0 avs) (τ:=objsOf σ) (k := .s i) with h1|h1
   ·
    rw[h1]at hi
    obtain⟨_,h2⟩:=argAv_get hi
    rw[Nat.sub_zero]at h2
    obtain⟨x,h3,h4,h5⟩:=hat i av h2
    have hlt:i < xs.length:=(List.getElem?_eq_some_iff.1 h3).1
    have hv:((xs.map a.eval).toArray++Array.replicate (fn.ntmps - (xs.map a.eval).toArray.size) undef).getD i undef=a.eval x:=by
     rw[Array.getD_eq_getD_getElem?,Array.getElem?_append_left (by simpa using hlt)]
     simp[h3]
    refine⟨?_,h5⟩
    show Rep cx g (argAv 0 avs++objsOf σ) w _ av
    rw[hv]
    exact h4.step hlat h5
   ·
    rw[h1,get_objs_s]at hi;cases hi
  ·
   obtain⟨h1,h2,h3⟩:=hs.objs id o ((hobj id).symm.trans ho)
   exact⟨h1,h2.step hlat rfl (fun _ _=>rfl) h3,h3⟩
  ·
   rcases List.mem_append.1 hp with hp|hp
   ·
    obtain⟨i,h1,h2⟩:=kept_ok hp
    obtain⟨h3,h4⟩:=hs.slots i _ h1
    rw[h2]at h3
    exact⟨h3.step hlat h4,h4⟩
   ·
    obtain⟨h1,h2⟩:=hs.gh.2 p hp
    exact⟨h1.step hlat (AV.bd_mono hs.gh.1 h2),AV.bd_mono hs.gh.1 h2⟩
 suffices hcall:Calls cx.P f (xs.map a.eval).toArray w fun e w'=>∃ v',e = .returned v'∧K (a.put (some d) v') w' by
  refine hcall.mono fun z w' he=>?_
  obtain⟨v,rfl,hk⟩:=he
  exact hk
 refine calls_of_wp hf hb (wp_mono (h _ _ w ⟨g,nx,hstart⟩) fun e a' w' he=>?_)
 obtain⟨σ',⟨g',nx',hg⟩,hq⟩:=he
 -- and behind it
 have fin:(∃ x,get σ' (.s t) = .av (.d x)∧SW cx ops Q rest ((.s d,.av (.d x))::(slotsOf σ++objsOf σ'))) →
   a'.defers=[]∧∃ v,(results fn a'.tmps).run cx.P w' = .ok v w'∧∃ v',Ending.returned v = .returned v'∧K (a.put (some d) v') w':=by
  rintro ⟨x,hx,hsw⟩
  refine⟨hg.defers,a'.tmps.getD t undef,by rw[results_one hr];simp[rvRun],_,rfl,hK _ _ ?_⟩
  refine hsw _ w' ⟨g',nx',?_⟩
  have hobj2:∀ id,get ((Key.s d,Val.av (.d x))::(slotsOf σ++objsOf σ')) (.o id)=get σ' (.o id):=fun id=>(get_cons_ne (by simp)).trans get_back_o
  have hl2:Later ⟨cx.P,cx.T,cx.hT,cx.mixed,fn.ntmps,cx.w0,cx.own0,nx,kept a σ (σ.map (·.1))++cx.gh⟩ g' g' σ' ((Key.s d,Val.av (.d x))::(slotsOf σ++objsOf σ')) w' w' nx':=by
   refine⟨Ext.refl _ _,Below.refl _ _,fun b hb=>?_,fun id o' _ ho=>⟨o',(hobj2 id).symm.trans ho,by cases o' <;> simp[ObLe]⟩⟩
   rcases hb with hb|⟨id,o,h1,h2⟩
   ·
    exact .inl (.inl hb)
   ·
    exact .inl (.inr ⟨id,o,(hobj2 id).symm.trans h1,h2⟩)
  refine⟨(get_cons_ne (by simp)).trans (get_back_nx.trans hg.hnx),by rw[← hs.size];simp[Act.put],hs.defers,hg.below,hg.own0,fun i av hi=>?_,fun id o ho=>?_,fun id id' o o' b h1 h2=>hg.sep id id' o o' b ((hobj2 _).symm.trans h1) ((hobj2 _).symm.trans h2),Nat.le_trans hs.gh.1 hg.gh.1,fun p hp=>?_⟩
  ·
   by_cases hid:d=i
   ·
    subst hid
    rw[get_cons_same]at hi
    cases hi
    obtain⟨h1,h2⟩:=hg.slots t _ hx
    rw[put_eq (by rw[hs.size];exact lt_of_blt hd)]
    exact⟨h1.step hl2 h2,h2⟩
   ·
    rw[get_cons_ne (by simpa using hid)]at hi
    have h1:=get_back_s hi
    obtain⟨h2,h3⟩:=hg.gh.2 _ (List.mem_append.2 (.inl (kept_of (a:=a) h1 (List.mem_map.2 ⟨_,mem_of_get h1,rfl⟩))))
    rw[put_ne fun e=>hid e.symm]
    exact⟨h2.step hl2 (AV.bd_mono hg.gh.1 h3),AV.bd_mono hg.gh.1 h3⟩
  ·
   obtain⟨h1,h2,h3⟩:=hg.objs id o ((hobj2 id).symm.trans ho)
   exact⟨h1,h2.step hl2 rfl (fun _ _=>rfl) h3,h3⟩
  ·
   obtain⟨h1,h2⟩:=hg.gh.2 p (List.mem_append.2 (.inr hp))
   obtain⟨_,h4⟩:=hs.gh.2 p hp
   exact⟨h1.step hl2 (AV.bd_mono hg.gh.1 h2),h4⟩
 cases e with
 |normal=>exact fin hq
 |ret=>exact fin hq
 |exit j=>exact hq.elim
 |goto j=>exact hq.elim
 |panic c=>exact hq.elim
 |outgrown=>exact hq.elim
end Go.AX
namespace Go.Proofs.YtccblhpfjlgmbabGreatDoor
open Go.AX Go.RF
set_option maxRecDepth 100000
set_option maxHeartbeats 16000000
theorem cdo_batch (c:Cluster) (s:Step) (h:KInv c) (hd:∀ d∈s.deeds,d.Sm) (hl:s.deeds.length≤100000000) (k1:s.kind=1) :
  FnOk Tryz.prog 22 [.d (.agg c.enc),.d (.agg s.enc)] (.tup [.agg (batchC c s.deeds).1.enc,dint (batchC c s.deeds).2]):=by
 refine fnOk_of tbl_ok mixed_ok Tryz.func22 rfl (by kernel_rfl) rfl rfl fun w0 own0=>?_
 have hL:=h.l
 have hP:=h.p
 have hR:=h.k
 have hS:=h.sm
 have c1:=news_cown c h.sm
 have hst0:StopA 3:=⟨rfl⟩
 repeat(first|refine waS ?_|((with_reducible apply s5);(first|exact a_callnews c1 rfl rfl by_sub|exact by_oa|exact by_ca);exact by_g)|refine wb ?_)
 clear hst0
 refine Stop.cutk [sd 8 (dbool (decide (0≤s.n∧s.n < c.reps.length)))] [.s 3,.s 4,.s 5,.s 6,.s 7,.o 1,.o 2,.o 3,.o 4,.o 5,.o 6,.nx] ?_ ?_
 ·
  by_cases b0:0≤s.n
  ·
   try refine wk ?_
   refine q_cut ?_
   exact by_less
  ·
   try refine wk ?_
   refine q_cut ?_
   exact by_less
 unfold batchC
 by_cases b1:12≤c.log.length
 ·
  rw[if_pos b1]
  have hst0:StopX 7:=⟨rfl⟩
  try refine wkS ?_
  clear hst0
  refine Stop.go (CW.regionS ?_)
  repeat(first|((with_reducible apply SW.s1);exact rfl)|((with_reducible apply SW.s5);exact by_oa;exact rfl))
  refine SW.inline (t:=4) Tryz.func37 rfl (by kernel_rfl) rfl rfl rfl (.cons rfl (.cons rfl .nil)) rfl fun gh=>?_
  repeat(first|refine wa ?_|((with_reducible apply s5);(first|((with_reducible apply a_nilp);(iterate 3 exact rfl))|exact by_oa|exact by_ca);exact by_g)|refine wb ?_)
  refine q_inl rfl ?_
  repeat(first|((with_reducible apply SW.s1);exact rfl)|((with_reducible apply SW.s5);exact by_oa;exact rfl))
  refine SW.nil ?_
  try refine wk ?_
  exact .two (.cell rfl rfl rfl rfl (.agg (.cons (.own rfl (by simp) (.refl _)) (.cons (.own rfl (by simp) (.refl _)) (.cons (.own rfl (by simp) (.refl _)) .nil))))) (.tmp rfl (.one (.d (.refl _))))
 rw[if_neg b1]
 have c2:FnOk Tryz.prog 60 [.d (.agg [dint ((c.log.map Entry.enc).length:Int),encDeeds s.deeds])] (.one (dint (wrongEntry ⟨c.log.length,s.deeds⟩))):=by
  rw[List.length_map]
  exact ok_lwrong ⟨c.log.length,s.deeds⟩ hd (by dsimp only;omega)
 by_cases b2:wrongEntry ⟨c.log.length,s.deeds⟩=0
 ·
  rw[if_pos b2]
  rw[b2]at c2
  have c3:FnOk Tryz.prog 42 [.d (.sl 2 [[dint ((c.log.map Entry.enc).length:Int),encDeeds s.deeds]])] (.one (.sl 2 [[dint ((c.log.map Entry.enc).length:Int),encDeeds s.deeds]])):=by
   rw[List.length_map]
   exact ok_logOwn [⟨c.log.length,s.deeds⟩] (by simp) (fun e he=>by rw[List.mem_singleton.1 he];exact⟨by dsimp only;omega,hd⟩)
  have hst0:StopX 7:=⟨rfl⟩
  try refine wkS ?_
  clear hst0
  refine Stop.go (CW.regionS ?_)
  repeat(first|((with_reducible apply SW.s1);exact rfl)|((with_reducible apply SW.s5);exact by_oa;exact rfl))
  refine SW.inline (t:=4) Tryz.func37 rfl (by kernel_rfl) rfl rfl rfl (.cons rfl (.cons rfl .nil)) rfl fun gh=>?_
  repeat(first|((with_reducible apply s5);((with_reducible apply a_bs [[dint ((c.log.map Entry.enc).length:Int),encDeeds s.deeds]]);(iterate 9 exact rfl);(repeat(first|exact PartsE.nil|(apply PartsE.cons;exact rfl;exact rfl))));exact by_g)|refine wa1 ?_|((with_reducible apply s5);(first|((with_reducible apply a_nilp);(iterate 3 exact rfl))|exact a_call c2 rfl by_sub|exact a_call c3 rfl by_sub|((with_reducible apply a_buildA);(iterate 4 exact rfl);(repeat(first|exact PartsV.nil|(apply PartsV.cons;exact rfl;exact rfl;(first|exact⟨rfl,trivial⟩|(apply nw_own;exact rfl;(focus first|exact rfl|(simp;done)|(simp;omega)))))));exact rfl)|exact by_oa|exact by_ca);exact by_g)|refine wb ?_)
  refine q_inl rfl ?_
  repeat(first|((with_reducible apply SW.s1);exact rfl)|((with_reducible apply SW.s5);exact by_oa;exact rfl))
  refine SW.nil ?_
  try refine wk ?_
  exact .two (.cell rfl rfl rfl rfl (.agg (.cons (.own rfl (by simp) (dle_eq (by simp[encEntries];rfl))) (.cons (.own rfl (by simp) (.refl _)) (.cons (.own rfl (by simp) (.refl _)) .nil))))) (.tmp rfl (.one (.d (.refl _))))
 ·
  rw[if_neg b2]
  generalize wrongEntry ⟨c.log.length,s.deeds⟩=W at *
  have hst0:StopX 7:=⟨rfl⟩
  try refine wkS ?_
  clear hst0
  refine Stop.go (CW.regionS ?_)
  repeat(first|((with_reducible apply SW.s1);exact rfl)|((with_reducible apply SW.s5);exact by_oa;exact rfl))
  refine SW.inline (t:=4) Tryz.func37 rfl (by kernel_rfl) rfl rfl rfl (.cons rfl (.cons rfl .nil)) rfl fun gh=>?_
  repeat(first|refine wa ?_|((with_reducible apply s5);(first|((with_reducible apply a_nilp);(iterate 3 exact rfl))|exact a_call c2 rfl by_sub|((with_reducible apply a_buildA);(iterate 4 exact rfl);(repeat(first|exact PartsV.nil|(apply PartsV.cons;exact rfl;exact rfl;(first|exact⟨rfl,trivial⟩|(apply nw_own;exact rfl;(focus first|exact rfl|(simp;done)|(simp;omega)))))));exact rfl)|exact by_oa|exact by_ca);exact by_g)|refine wb ?_)
  refine q_inl rfl ?_
  repeat(first|((with_reducible apply SW.s1);exact rfl)|((with_reducible apply SW.s5);exact by_oa;exact rfl))
  refine SW.nil ?_
  try refine wk ?_
  exact .two (.cell rfl rfl rfl rfl (.agg (.cons (.own rfl (by simp) (.refl _)) (.cons (.own rfl (by simp) (.refl _)) (.cons (.own rfl (by simp) (.refl _)) .nil))))) (.tmp rfl (.one (.d (.refl _))))
theorem cdo_send (c:Cluster) (s:Step) (h:KInv c) (k2:s.kind=2) :
  FnOk Tryz.prog 22 [.d (.agg c.enc),.d (.agg s.enc)] (.tup [.agg (sendC c s.n s.m).1.enc,dint (sendC c s.n s.m).2]):=by
 refine fnOk_of tbl_ok mixed_ok Tryz.func22 rfl (by kernel_rfl) rfl rfl fun w0 own0=>?_
 have hL:=h.l
 have hP:=h.p
 have hR:=h.k
 have hS:=h.sm
 have c1:=news_cown c h.sm
 have hst0:StopA 3:=⟨rfl⟩
 repeat(first|refine waS ?_|((with_reducible apply s5);(first|exact a_callnews c1 rfl rfl by_sub|exact by_oa|exact by_ca);exact by_g)|refine wb ?_)
 clear hst0
 refine Stop.cutk [sd 8 (dbool (decide (0≤s.n∧s.n < c.reps.length)))] [.s 3,.s 4,.s 5,.s 6,.s 7,.o 1,.o 2,.o 3,.o 4,.o 5,.o 6,.nx] ?_ ?_
 ·
  by_cases b0:0≤s.n
  ·
   try refine wk ?_
   refine q_cut ?_
   exact by_less
  ·
   try refine wk ?_
   refine q_cut ?_
   exact by_less
 unfold sendC
 cases hn:nth c.reps s.n with
 |none =>
  have hn':=nth_none hn
  dsimp only
  by_cases b1:0≤s.n
  all_goals
   have hst0:StopX 9:=⟨rfl⟩
   try refine wkS ?_
   clear hst0
   refine Stop.go (CW.regionS ?_)
   repeat(first|((with_reducible apply SW.s1);exact rfl)|((with_reducible apply SW.s5);exact by_oa;exact rfl))
   refine SW.inline (t:=6) Tryz.func38 rfl (by kernel_rfl) rfl rfl rfl (.cons rfl (.cons rfl (.cons rfl .nil))) rfl fun gh=>?_
   repeat(first|refine wa ?_|((with_reducible apply s5);(first|((with_reducible apply a_nilp);(iterate 3 exact rfl))|exact by_oa|exact by_ca);exact by_g)|refine wb ?_)
   refine q_inl rfl ?_
   repeat(first|((with_reducible apply SW.s1);exact rfl)|((with_reducible apply SW.s5);exact by_oa;exact rfl))
   refine SW.nil ?_
   try refine wk ?_
   exact .two (.cell rfl rfl rfl rfl (.agg (.cons (.own rfl (by simp) (.refl _)) (.cons (.own rfl (by simp) (.refl _)) (.cons (.own rfl (by simp) (.refl _)) .nil))))) (.tmp rfl (.one (.d (.refl _))))
 |some r =>
  obtain⟨i,hi1,hi⟩:=nth_some hn
  have hil:=(List.getElem?_eq_some_iff.1 hi).1
  dsimp only
  cases hm:nth c.log s.m with
  |none =>
   have hm':=nth_none hm
   dsimp only
   by_cases b1:0≤s.m
   all_goals
    have hst0:StopX 9:=⟨rfl⟩
    try refine wkS ?_
    clear hst0
    refine Stop.go (CW.regionS ?_)
    repeat(first|((with_reducible apply SW.s1);exact rfl)|((with_reducible apply SW.s5);exact by_oa;exact rfl))
    refine SW.inline (t:=6) Tryz.func38 rfl (by kernel_rfl) rfl rfl rfl (.cons rfl (.cons rfl (.cons rfl .nil))) rfl fun gh=>?_
    repeat(first|refine wa ?_|((with_reducible apply s5);(first|((with_reducible apply a_nilp);(iterate 3 exact rfl))|exact by_oa|exact by_ca);exact by_g)|refine wb ?_)
    refine q_inl rfl ?_
    repeat(first|((with_reducible apply SW.s1);exact rfl)|((with_reducible apply SW.s5);exact by_oa;exact rfl))
    refine SW.nil ?_
    try refine wk ?_
    exact .two (.cell rfl rfl rfl rfl (.agg (.cons (.own rfl (by simp) (.refl _)) (.cons (.own rfl (by simp) (.refl _)) (.cons (.own rfl (by simp) (.refl _)) .nil))))) (.tmp rfl (.one (.d (.refl _))))
  |some e =>
   obtain⟨j,hj1,hj⟩:=nth_some hm
   have hjl:=(List.getElem?_eq_some_iff.1 hj).1
   have hjm:(c.log.map Entry.enc)[j]? = some e.enc:=by rw[List.getElem?_map,hj];rfl
   dsimp only
   by_cases b1:c.net.length < 16
   ·
    rw[if_pos b1]
    have c2:=ok_lbytes e (h.w j e hj).2
    generalize bytesE e=B at *
    have hse:s.enc=[dint s.kind,dint s.n,dint (j:Int),encDeeds s.deeds]:=by unfold Step.enc;rw[hj1]
    rw[hse]
    have hst0:StopX 9:=⟨rfl⟩
    try refine wkS ?_
    clear hst0
    refine Stop.go (CW.regionS ?_)
    repeat(first|((with_reducible apply SW.s1);exact rfl)|((with_reducible apply SW.s5);exact by_oa;exact rfl))
    refine SW.inline (t:=6) Tryz.func38 rfl (by kernel_rfl) rfl rfl rfl (.cons rfl (.cons rfl (.cons rfl .nil))) rfl fun gh=>?_
    repeat(first|((with_reducible apply s5);((with_reducible apply a_bs [[dint s.n,encBytes B]]);(iterate 9 exact rfl);(repeat(first|exact PartsE.nil|(apply PartsE.cons;exact rfl;exact rfl))));exact by_g)|refine wa1 ?_|((with_reducible apply s5);(first|((with_reducible apply a_nilp);(iterate 3 exact rfl))|((with_reducible apply a_buildA);(iterate 4 exact rfl);(repeat(first|exact PartsV.nil|(apply PartsV.cons;exact rfl;exact rfl;(first|exact⟨rfl,trivial⟩|(apply nw_own;exact rfl;(focus first|exact rfl|(simp;done)|(simp;omega)))))));exact rfl)|exact by_oa|exact by_ca);exact by_g)|refine wb ?_)
    refine q_inl rfl ?_
    repeat(first|((with_reducible apply SW.s1);exact rfl)|((with_reducible apply SW.s5);exact by_oa;exact rfl))
    refine SW.nil ?_
    try refine wk ?_
    exact .two (.cell rfl rfl rfl rfl (.agg (.cons (.own rfl (by simp) (.refl _)) (.cons (.own rfl (by simp) (.refl _)) (.cons (.own rfl (by simp) (dle_eq (by simp[encNet];rfl))) .nil))))) (.tmp rfl (.one (.d (.refl _))))
   ·
    rw[if_neg b1]
    have hst0:StopX 9:=⟨rfl⟩
    try refine wkS ?_
    clear hst0
    refine Stop.go (CW.regionS ?_)
    repeat(first|((with_reducible apply SW.s1);exact rfl)|((with_reducible apply SW.s5);exact by_oa;exact rfl))
    refine SW.inline (t:=6) Tryz.func38 rfl (by kernel_rfl) rfl rfl rfl (.cons rfl (.cons rfl (.cons rfl .nil))) rfl fun gh=>?_
    repeat(first|refine wa ?_|((with_reducible apply s5);(first|((with_reducible apply a_nilp);(iterate 3 exact rfl))|exact by_oa|exact by_ca);exact by_g)|refine wb ?_)
    refine q_inl rfl ?_
    repeat(first|((with_reducible apply SW.s1);exact rfl)|((with_reducible apply SW.s5);exact by_oa;exact rfl))
    refine SW.nil ?_
    try refine wk ?_
    exact .two (.cell rfl rfl rfl rfl (.agg (.cons (.own rfl (by simp) (.refl _)) (.cons (.own rfl (by simp) (.refl _)) (.cons (.own rfl (by simp) (.refl _)) .nil))))) (.tmp rfl (.one (.d (.refl _))))
theorem cdo_clr (c:Cluster) (s:Step) (h:KInv c) (k7:s.kind=7) :
  FnOk Tryz.prog 22 [.d (.agg c.enc),.d (.agg s.enc)] (.tup [.agg (clrC c s.n).1.enc,dint (clrC c s.n).2]):=by
 refine fnOk_of tbl_ok mixed_ok Tryz.func22 rfl (by kernel_rfl) rfl rfl fun w0 own0=>?_
 have hL:=h.l
 have hP:=h.p
 have hR:=h.k
 have hS:=h.sm
 have c1:=news_cown c h.sm
 have hst0:StopA 3:=⟨rfl⟩
 repeat(first|refine waS ?_|((with_reducible apply s5);(first|exact a_callnews c1 rfl rfl by_sub|exact by_oa|exact by_ca);exact by_g)|refine wb ?_)
 clear hst0
 refine Stop.cutk [sd 8 (dbool (decide (0≤s.n∧s.n < c.reps.length)))] [.s 3,.s 4,.s 5,.s 6,.s 7,.o 1,.o 2,.o 3,.o 4,.o 5,.o 6,.nx] ?_ ?_
 ·
  by_cases b0:0≤s.n
  ·
   try refine wk ?_
   refine q_cut ?_
   exact by_less
  ·
   try refine wk ?_
   refine q_cut ?_
   exact by_less
 unfold clrC
 cases hn:nth c.reps s.n with
 |none =>
  have hn':=nth_none hn
  dsimp only
  try refine wk ?_
  exact .two (.cell rfl rfl rfl rfl (.agg (.cons (.own rfl (by simp) (.refl _)) (.cons (.own rfl (by simp) (.refl _)) (.cons (.own rfl (by simp) (.refl _)) .nil))))) (.tmp rfl (.one (.d (.refl _))))
 |some r =>
  obtain⟨i,hi1,hi⟩:=nth_some hn
  have hil:=(List.getElem?_eq_some_iff.1 hi).1
  have him:(c.reps.map Replica.enc)[i]? = some r.enc:=by rw[List.getElem?_map,hi];rfl
  have hit:s.n.toNat=i:=by omega
  have hRI:=(h.r r (List.mem_of_getElem? hi)).1
  have c2:=ok_repClear r hRI
  dsimp only
  rw[hit]
  generalize clearR r=x at *
  have hse:s.enc=[dint s.kind,dint (i:Int),dint s.m,encDeeds s.deeds]:=by unfold Step.enc;rw[hi1]
  rw[hse]
  try refine wk ?_
  exact .two (.cell rfl rfl rfl rfl (.agg (.cons (.own rfl (by simp) (.refl _)) (.cons (.own rfl (by simp) (dle_eq (by simp[encReps,List.map_set];rfl))) (.cons (.own rfl (by simp) (.refl _)) .nil))))) (.tmp rfl (.one (.d (.refl _))))
theorem cdo_none (c:Cluster) (s:Step) (h:KInv c) (k1:s.kind≠1) (k2:s.kind≠2) (k3:s.kind≠3) (k4:s.kind≠4) (k5:s.kind≠5) (k6:s.kind≠6) (k7:s.kind≠7) :
  FnOk Tryz.prog 22 [.d (.agg c.enc),.d (.agg s.enc)] (.tup [.agg c.enc,dint 1]):=by
 refine fnOk_of tbl_ok mixed_ok Tryz.func22 rfl (by kernel_rfl) rfl rfl fun w0 own0=>?_
 have hL:=h.l
 have hP:=h.p
 have hR:=h.k
 have hS:=h.sm
 have c1:=news_cown c h.sm
 have hst0:StopA 3:=⟨rfl⟩
 repeat(first|refine waS ?_|((with_reducible apply s5);(first|exact a_callnews c1 rfl rfl by_sub|exact by_oa|exact by_ca);exact by_g)|refine wb ?_)
 clear hst0
 refine Stop.cutk [sd 8 (dbool (decide (0≤s.n∧s.n < c.reps.length)))] [.s 3,.s 4,.s 5,.s 6,.s 7,.o 1,.o 2,.o 3,.o 4,.o 5,.o 6,.nx] ?_ ?_
 ·
  by_cases b0:0≤s.n
  ·
   try refine wk ?_
   refine q_cut ?_
   exact by_less
  ·
   try refine wk ?_
   refine q_cut ?_
   exact by_less
 try refine wk ?_
 exact .two (.cell rfl rfl rfl rfl (.agg (.cons (.own rfl (by simp) (.refl _)) (.cons (.own rfl (by simp) (.refl _)) (.cons (.own rfl (by simp) (.refl _)) .nil))))) (.tmp rfl (.one (.d (.refl _))))
theorem cdo_run (c:Cluster) (s:Step) (h:KInv c) (k6:s.kind=6) :
  FnOk Tryz.prog 22 [.d (.agg c.enc),.d (.agg s.enc)] (.tup [.agg (runC c s.n s.m).1.enc,dint (runC c s.n s.m).2]):=by
 refine fnOk_of tbl_ok mixed_ok Tryz.func22 rfl (by kernel_rfl) rfl rfl fun w0 own0=>?_
 have hL:=h.l
 have hP:=h.p
 have hR:=h.k
 have hS:=h.sm
 have c1:=news_cown c h.sm
 have hst0:StopA 3:=⟨rfl⟩
 repeat(first|refine waS ?_|((with_reducible apply s5);(first|exact a_callnews c1 rfl rfl by_sub|exact by_oa|exact by_ca);exact by_g)|refine wb ?_)
 clear hst0
 refine Stop.cutk [sd 8 (dbool (decide (0≤s.n∧s.n < c.reps.length)))] [.s 3,.s 4,.s 5,.s 6,.s 7,.o 1,.o 2,.o 3,.o 4,.o 5,.o 6,.nx] ?_ ?_
 ·
  by_cases b0:0≤s.n
  ·
   try refine wk ?_
   refine q_cut ?_
   exact by_less
  ·
   try refine wk ?_
   refine q_cut ?_
   exact by_less
 unfold runC
 cases hn:nth c.reps s.n with
 |none =>
  have hn':=nth_none hn
  dsimp only
  try refine wk ?_
  exact .two (.cell rfl rfl rfl rfl (.agg (.cons (.own rfl (by simp) (.refl _)) (.cons (.own rfl (by simp) (.refl _)) (.cons (.own rfl (by simp) (.refl _)) .nil))))) (.tmp rfl (.one (.d (.refl _))))
 |some r =>
  obtain⟨i,hi1,hi⟩:=nth_some hn
  have hil:=(List.getElem?_eq_some_iff.1 hi).1
  have him:(c.reps.map Replica.enc)[i]? = some r.enc:=by rw[List.getElem?_map,hi];rfl
  have hit:s.n.toNat=i:=by omega
  have hRI:=(h.r r (List.mem_of_getElem? hi)).1
  have c2:=ok_repGo r s.m hRI
  dsimp only
  rw[hit]
  generalize (goR r s.m).1=x at *
  generalize (goR r s.m).2=v at *
  have hse:s.enc=[dint s.kind,dint (i:Int),dint s.m,encDeeds s.deeds]:=by unfold Step.enc;rw[hi1]
  rw[hse]
  try refine wk ?_
  exact .two (.cell rfl rfl rfl rfl (.agg (.cons (.own rfl (by simp) (.refl _)) (.cons (.own rfl (by simp) (dle_eq (by simp[encReps,List.map_set];rfl))) (.cons (.own rfl (by simp) (.refl _)) .nil))))) (.tmp rfl (.one (.d (.refl _))))
theorem cdo_packet (c:Cluster) (s:Step) (h:KInv c) (k3:s.kind=3∨s.kind=4∨s.kind=5) :
  FnOk Tryz.prog 22 [.d (.agg c.enc),.d (.agg s.enc)] (.tup [.agg (packetC c s.kind s.n).1.enc,dint (packetC c s.kind s.n).2]):=by
 refine fnOk_of tbl_ok mixed_ok Tryz.func22 rfl (by kernel_rfl) rfl rfl fun w0 own0=>?_
 have hL:=h.l
 have hP:=h.p
 have hR:=h.k
 have hS:=h.sm
 have c1:=news_cown c h.sm
 have hst0:StopA 3:=⟨rfl⟩
 repeat(first|refine waS ?_|((with_reducible apply s5);(first|exact a_callnews c1 rfl rfl by_sub|exact by_oa|exact by_ca);exact by_g)|refine wb ?_)
 clear hst0
 refine Stop.cutk [sd 8 (dbool (decide (0≤s.n∧s.n < c.reps.length)))] [.s 3,.s 4,.s 5,.s 6,.s 7,.o 1,.o 2,.o 3,.o 4,.o 5,.o 6,.nx] ?_ ?_
 ·
  by_cases b0:0≤s.n
  ·
   try refine wk ?_
   refine q_cut ?_
   exact by_less
  ·
   try refine wk ?_
   refine q_cut ?_
   exact by_less
 have k1:s.kind≠1:=by omega
 have k2:s.kind≠2:=by omega
 unfold packetC
 cases hn:nth c.net s.n with
 |none =>
  have hn':=nth_none hn
  dsimp only
  rcases k3 with k3|k3|k3
  all_goals by_cases b1:0≤s.n
  all_goals
   have hst0:StopX 13:=⟨rfl⟩
   try refine wkS ?_
   clear hst0
   refine Stop.go (CW.regionS ?_)
   repeat(first|((with_reducible apply SW.s1);exact rfl)|((with_reducible apply SW.s5);exact by_oa;exact rfl))
   refine SW.inline (t:=6) Tryz.func39 rfl (by kernel_rfl) rfl rfl rfl (.cons rfl (.cons rfl (.cons rfl .nil))) rfl fun gh=>?_
   repeat(first|refine wa ?_|((with_reducible apply s5);(first|((with_reducible apply a_nilp);(iterate 3 exact rfl))|exact by_oa|exact by_ca);exact by_g)|refine wb ?_)
   refine q_inl rfl ?_
   repeat(first|((with_reducible apply SW.s1);exact rfl)|((with_reducible apply SW.s5);exact by_oa;exact rfl))
   refine SW.nil ?_
   try refine wk ?_
   exact .two (.cell rfl rfl rfl rfl (.agg (.cons (.own rfl (by simp) (.refl _)) (.cons (.own rfl (by simp) (.refl _)) (.cons (.own rfl (by simp) (.refl _)) .nil))))) (.tmp rfl (.one (.d (.refl _))))
 |some p =>
  obtain⟨i,hi1,hi⟩:=nth_some hn
  have hil:=(List.getElem?_eq_some_iff.1 hi).1
  have him:(c.net.map Packet.enc)[i]? = some p.enc:=by rw[List.getElem?_map,hi];rfl
  have hit:s.n.toNat=i:=by omega
  dsimp only
  rw[hit]
  by_cases k5:s.kind=5
  ·
   rw[if_pos k5]
   have hpd:=h.sm.d p (List.mem_of_getElem? hi)
   have c2:=ok_clone_byte (p.data.map byteD) (by simp;omega)
   by_cases b1:c.net.length < 16
   ·
    rw[if_pos b1]
    have hse:s.enc=[dint s.kind,dint (i:Int),dint s.m,encDeeds s.deeds]:=by unfold Step.enc;rw[hi1]
    rw[hse]
    have hst0:StopX 13:=⟨rfl⟩
    try refine wkS ?_
    clear hst0
    refine Stop.go (CW.regionS ?_)
    repeat(first|((with_reducible apply SW.s1);exact rfl)|((with_reducible apply SW.s5);exact by_oa;exact rfl))
    refine SW.inline (t:=6) Tryz.func39 rfl (by kernel_rfl) rfl rfl rfl (.cons rfl (.cons rfl (.cons rfl .nil))) rfl fun gh=>?_
    repeat(first|((with_reducible apply s5);((with_reducible apply a_bs [p.enc]);(iterate 9 exact rfl);(repeat(first|exact PartsE.nil|(apply PartsE.cons;exact rfl;exact rfl))));exact by_g)|refine wa1 ?_|((with_reducible apply s5);(first|((with_reducible apply a_nilp);(iterate 3 exact rfl))|((with_reducible apply a_buildA);(iterate 4 exact rfl);(repeat(first|exact PartsV.nil|(apply PartsV.cons;exact rfl;exact rfl;(first|exact⟨rfl,trivial⟩|(apply nw_own;exact rfl;(focus first|exact rfl|(simp;done)|(simp;omega)))))));exact rfl)|exact by_oa|exact by_ca);exact by_g)|refine wb ?_)
    refine q_inl rfl ?_
    repeat(first|((with_reducible apply SW.s1);exact rfl)|((with_reducible apply SW.s5);exact by_oa;exact rfl))
    refine SW.nil ?_
    try refine wk ?_
    exact .two (.cell rfl rfl rfl rfl (.agg (.cons (.own rfl (by simp) (.refl _)) (.cons (.own rfl (by simp) (.refl _)) (.cons (.own rfl (by simp) (dle_eq (by simp[encNet]))) .nil))))) (.tmp rfl (.one (.d (.refl _))))
   ·
    rw[if_neg b1]
    have hse:s.enc=[dint s.kind,dint (i:Int),dint s.m,encDeeds s.deeds]:=by unfold Step.enc;rw[hi1]
    rw[hse]
    have hst0:StopX 13:=⟨rfl⟩
    try refine wkS ?_
    clear hst0
    refine Stop.go (CW.regionS ?_)
    repeat(first|((with_reducible apply SW.s1);exact rfl)|((with_reducible apply SW.s5);exact by_oa;exact rfl))
    refine SW.inline (t:=6) Tryz.func39 rfl (by kernel_rfl) rfl rfl rfl (.cons rfl (.cons rfl (.cons rfl .nil))) rfl fun gh=>?_
    repeat(first|refine wa ?_|((with_reducible apply s5);(first|((with_reducible apply a_nilp);(iterate 3 exact rfl))|exact by_oa|exact by_ca);exact by_g)|refine wb ?_)
    refine q_inl rfl ?_
    repeat(first|((with_reducible apply SW.s1);exact rfl)|((with_reducible apply SW.s5);exact by_oa;exact rfl))
    refine SW.nil ?_
    try refine wk ?_
    exact .two (.cell rfl rfl rfl rfl (.agg (.cons (.own rfl (by simp) (.refl _)) (.cons (.own rfl (by simp) (.refl _)) (.cons (.own rfl (by simp) (.refl _)) .nil))))) (.tmp rfl (.one (.d (.refl _))))
  rw[if_neg k5]
  have hU:=upd_deleteK (c.net.map Packet.enc) i (by simpa using hil) (by simp;omega)
  have hrows:(c.net.map Packet.enc).take i++(c.net.map Packet.enc).drop (i+1)=(c.net.eraseIdx i).map Packet.enc:=by
   rw[List.eraseIdx_eq_take_drop_succ,List.map_append,List.map_take,List.map_drop]
  rw[hrows]at hU
  have hel:=List.length_eraseIdx_of_lt hil
  obtain⟨⟨hd1,hd2⟩,j,e,he1,he2⟩:=h.d p (List.mem_of_getElem? hi)
  have hw:=(h.w j e he1).2
  by_cases k4:s.kind=4
  ·
   rw[if_pos k4]
   have hse:s.enc=[dint s.kind,dint (i:Int),dint s.m,encDeeds s.deeds]:=by unfold Step.enc;rw[hi1]
   rw[hse]
   have hst0:StopX 13:=⟨rfl⟩
   try refine wkS ?_
   clear hst0
   refine Stop.go (CW.regionS ?_)
   repeat(first|((with_reducible apply SW.s1);exact rfl)|((with_reducible apply SW.s5);exact by_oa;exact rfl))
   refine SW.inline (t:=6) Tryz.func39 rfl (by kernel_rfl) rfl rfl rfl (.cons rfl (.cons rfl (.cons rfl .nil))) rfl fun gh=>?_
   repeat(first|refine wa ?_|((with_reducible apply s5);(first|((with_reducible apply a_nilp);(iterate 3 exact rfl))|(focus ((with_reducible apply a_upd);exact hU;(iterate 3 exact rfl);(focus first|exact rfl|(simp;done)|(simp;omega));exact rfl;exact by_sub))|exact by_oa|exact by_ca);exact by_g)|refine wb ?_)
   refine q_inl rfl ?_
   repeat(first|((with_reducible apply SW.s1);exact rfl)|((with_reducible apply SW.s5);exact by_oa;exact rfl))
   refine SW.nil ?_
   try refine wk ?_
   exact .two (.cell rfl rfl rfl rfl (.agg (.cons (.own rfl (by simp) (.refl _)) (.cons (.own rfl (by simp) (.refl _)) (.cons (.own rfl (by simp) (.refl _)) .nil))))) (.tmp rfl (.one (.d (.refl _))))
  rw[if_neg k4]
  obtain⟨P,hP0⟩:=Int.eq_ofNat_of_zero_le hd1
  obtain⟨r,hr⟩:∃ r,c.reps[P]? = some r:=⟨c.reps[P]'(by omega),List.getElem?_eq_getElem (by omega)⟩
  have hpe:p.enc=[dint (P:Int),encBytes p.data]:=by unfold Packet.enc;rw[hP0]
  rw[hpe]at him
  have hrm:(c.reps.map Replica.enc)[P]? = some r.enc:=by rw[List.getElem?_map,hr];rfl
  have hnr:nth c.reps p.dst=some r:=by rw[hP0,nth_nat];exact hr
  have c2:=ok_lparse p.data (by rw[he2];have:=bytes_len hw;omega)
  rw[he2,parse_bytes hw,← he2]at c2
  dsimp only[resB]at c2
  have c3:=ok_come r e (h.r r (List.mem_of_getElem? hr)).1 hw
  have hcome:comeC { c with net:=c.net.eraseIdx i } p={ c with net:=c.net.eraseIdx i,reps:=c.reps.set P (comeE r e).1 }:=by
   unfold comeC
   dsimp only
   rw[hnr]
   dsimp only
   rw[he2,parse_bytes hw,hP0,Int.toNat_natCast]
  rw[hcome]
  generalize (comeE r e).1=x at *
  generalize (comeE r e).2=v at *
  have hse:s.enc=[dint s.kind,dint (i:Int),dint s.m,encDeeds s.deeds]:=by unfold Step.enc;rw[hi1]
  rw[hse]
  have hst0:StopX 13:=⟨rfl⟩
  try refine wkS ?_
  clear hst0
  refine Stop.go (CW.regionS ?_)
  repeat(first|((with_reducible apply SW.s1);exact rfl)|((with_reducible apply SW.s5);exact by_oa;exact rfl))
  refine SW.inline (t:=6) Tryz.func39 rfl (by kernel_rfl) rfl rfl rfl (.cons rfl (.cons rfl (.cons rfl .nil))) rfl fun gh=>?_
  repeat(first|refine wa ?_|((with_reducible apply s5);(first|((with_reducible apply a_nilp);(iterate 3 exact rfl))|(focus ((with_reducible apply a_upd);exact hU;(iterate 3 exact rfl);(focus first|exact rfl|(simp;done)|(simp;omega));exact rfl;exact by_sub))|exact a_call c2 rfl by_sub|exact by_oa|exact by_ca);exact by_g)|refine wb ?_)
  refine q_inl rfl ?_
  repeat(first|((with_reducible apply SW.s1);exact rfl)|((with_reducible apply SW.s5);exact by_oa;exact rfl))
  refine SW.nil ?_
  try refine wk ?_
  exact .two (.cell rfl rfl rfl rfl (.agg (.cons (.own rfl (by simp) (.refl _)) (.cons (.own rfl (by simp) (dle_eq (by simp[encReps,List.map_set];rfl))) (.cons (.own rfl (by simp) (.refl _)) .nil))))) (.tmp rfl (.one (.d (.refl _))))
theorem ok_cdo (c:Cluster) (s:Step) (h:KInv c) (hd:∀ d∈s.deeds,d.Sm) (hl:s.deeds.length≤100000000):FnOk Tryz.prog 22 [.d (.agg c.enc),.d (.agg s.enc)] (.tup [.agg (doC c s).1.enc,dint (doC c s).2]):=by
 unfold doC
 by_cases k1:s.kind=1
 ·
  rw[if_pos k1];exact cdo_batch c s h hd hl k1
 rw[if_neg k1]
 by_cases k2:s.kind=2
 ·
  rw[if_pos k2];exact cdo_send c s h k2
 rw[if_neg k2]
 by_cases k3:s.kind=3∨s.kind=4∨s.kind=5
 ·
  rw[if_pos k3];exact cdo_packet c s h k3
 rw[if_neg k3]
 by_cases k6:s.kind=6
 ·
  rw[if_pos k6];exact cdo_run c s h k6
 rw[if_neg k6]
 by_cases k7:s.kind=7
 ·
  rw[if_pos k7];exact cdo_clr c s h k7
 rw[if_neg k7]
 exact cdo_none c s h k1 k2 (by omega) (by omega) (by omega) k6 k7
def bstep (l:List Deed):Step:=⟨1,0,0,l⟩
def chunks (a:Nat):Nat→List Deed→List (List Deed)
 |0,_=>[]
 |f+1,l=>if l=[] then [] else l.take a::chunks a f (l.drop a)
def batchesD (l:List Deed) (a:Nat):List Step:=(chunks a l.length l).map bstep
theorem chunks_more {a:Nat}(ha:1≤a):∀ {f g:Nat}{l:List Deed},l.length≤f→l.length≤g→chunks a f l=chunks a g l
 |0,0,l,_,_=>rfl
 |0,g+1,l,h,_=>by
  obtain rfl:l=[]:=List.eq_nil_of_length_eq_zero (by omega)
  simp[chunks]
 |f+1,0,l,_,h=>by
  obtain rfl:l=[]:=List.eq_nil_of_length_eq_zero (by omega)
  simp[chunks]
 |f+1,g+1,l,hf,hg=>by
  simp only[chunks]
  by_cases h:l=[]
  ·
   rw[if_pos h,if_pos h]
  ·
   have:=List.length_pos_iff.2 h
   rw[if_neg h,if_neg h,chunks_more ha (f:=f) (g:=g) (by rw[List.length_drop];omega) (by rw[List.length_drop];omega)]
theorem chunks_cons {a:Nat}(ha:1≤a) {l:List Deed}(h:l≠[]):chunks a l.length l=l.take a::chunks a (l.drop a).length (l.drop a):=by
 have hp:=List.length_pos_iff.2 h
 obtain⟨f,hf⟩:∃ f,l.length=f+1:=⟨l.length - 1,by omega⟩
 rw[hf]
 simp only[chunks]
 rw[if_neg h]
 rw[chunks_more ha (f:=f) (g:=(l.drop a).length) (by rw[List.length_drop];omega) (Nat.le_refl _)]
theorem chunks_flat {a:Nat}(ha:1≤a):∀ {f:Nat}{l:List Deed},l.length≤f→(chunks a f l).flatten=l
 |0,l,h=>by
  obtain rfl:l=[]:=List.eq_nil_of_length_eq_zero (by omega)
  rfl
 |f+1,l,h=>by
  simp only[chunks]
  by_cases h0:l=[]
  ·
   rw[if_pos h0,h0];rfl
  ·
   have:=List.length_pos_iff.2 h0
   rw[if_neg h0,List.flatten_cons,chunks_flat ha (by rw[List.length_drop];omega),List.take_append_drop]
theorem chunks_len {a:Nat}(ha:1≤a):∀ {f:Nat}{l:List Deed},a*(chunks a f l).length≤l.length+(a - 1)
 |0,l=>by simp[chunks]
 |f+1,l=>by
  simp only[chunks]
  by_cases h0:l=[]
  ·
   rw[if_pos h0];simp
  ·
   have hp:=List.length_pos_iff.2 h0
   rw[if_neg h0,List.length_cons,Nat.mul_add,Nat.mul_one]
   have ih:=chunks_len ha (f:=f) (l:=l.drop a)
   rw[List.length_drop]at ih
   rcases Nat.lt_or_ge l.length a with h|h
   ·
    have h1:l.drop a=[]:=List.drop_eq_nil_of_le (by omega)
    have h2:chunks a f (l.drop a)=[]:=by rw[h1];cases f <;> simp[chunks]
    rw[h2]
    simp
    omega
   ·
    omega
theorem chunks_mem {a:Nat}:∀ {f:Nat}{l:List Deed},∀ b∈chunks a f l,b.length≤a∧∀ d∈b,d∈l
 |0,l,b,h=>by simp[chunks]at h
 |f+1,l,b,h=>by
  simp only[chunks]at h
  by_cases h0:l=[]
  ·
   rw[if_pos h0]at h;cases h
  ·
   rw[if_neg h0]at h
   rcases List.mem_cons.1 h with rfl|h
   ·
    exact⟨by rw[List.length_take];omega,fun d hd=>List.mem_of_mem_take hd⟩
   ·
    obtain⟨h1,h2⟩:=chunks_mem b h
    exact⟨h1,fun d hd=>List.mem_of_mem_drop (h2 d hd)⟩
theorem chunks_sub {a:Nat}:∀ {f:Nat}{l:List Deed},∀ b∈chunks a f l,b.length≤l.length
 |0,l,b,h=>by simp[chunks]at h
 |f+1,l,b,h=>by
  simp only[chunks]at h
  by_cases h0:l=[]
  ·
   rw[if_pos h0]at h;cases h
  ·
   rw[if_neg h0]at h
   rcases List.mem_cons.1 h with rfl|h
   ·
    rw[List.length_take];omega
   ·
    have:=chunks_sub b h
    rw[List.length_drop]at this
    omega
theorem batches_len {a:Nat}(ha:1≤a) {l:List Deed}:(batchesD l a).length≤l.length:=by
 unfold batchesD
 rw[List.length_map]
 have:=chunks_len ha (f:=l.length) (l:=l)
 have h2:∀ n k:Nat,a*n≤k+(a - 1)→n≤k:=fun n k h=>by
  refine Classical.byContradiction fun hn=>?_
  have h3:a*(k+1)≤a*n:=Nat.mul_le_mul_left _ (by omega)
  have h4:a*(k+1)=a*k+a:=by rw[Nat.mul_add,Nat.mul_one]
  have h5:k≤a*k:=Nat.le_mul_of_pos_left k (by omega)
  omega
 exact h2 _ _ this
def dAll (L:List Entry):List Deed:=L.flatMap Entry.deeds
theorem dOf_all (L:List Entry):dOf L L.length=dAll L:=by unfold dOf dAll;rw[List.take_length]
theorem playC_app:∀ {l m:List Step}{c:Cluster},playC c (l++m)=playC (playC c l) m
 | [],_,_=>rfl
 |s::l,m,c=>by simp only[List.cons_append,playC];exact playC_app
theorem play_batches:∀ {bs:List (List Deed)}{c:Cluster},(∀ b∈bs,b.length≤6∧∀ d∈b,wrongDeed d=0)→c.log.length+bs.length≤12 →
  dAll (playC c (bs.map bstep)).log=dAll c.log++bs.flatten∧(playC c (bs.map bstep)).log.length=c.log.length+bs.length
 | [],c,_,_=>by simp[playC]
 |b::bs,c,h,hl=>by
  obtain⟨h1,h2⟩:=h b (List.mem_cons_self ..)
  simp at hl
  have hw:wrongEntry ⟨c.log.length,b⟩=0:=by
   unfold wrongEntry
   dsimp only
   rw[if_neg (by omega),if_neg (by omega),wrongs_all h2]
  have hd:(doC c (bstep b)).1={ c with log:=c.log++[⟨c.log.length,b⟩] }:=by
   unfold doC bstep
   dsimp only
   rw[if_pos rfl]
   unfold batchC
   rw[if_neg (by omega),if_pos hw]
  rw[List.map_cons]
  simp only[playC]
  rw[hd]
  obtain⟨g1,g2⟩:=play_batches (bs:=bs) (c:={ c with log:=c.log++[⟨c.log.length,b⟩] }) (fun x hx=>h x (List.mem_cons_of_mem _ hx)) (by simp;omega)
  constructor
  ·
   rw[g1];simp[dAll]
  ·
   rw[g2];simp;omega
theorem doC_keep {c:Cluster}{s:Step}(hs:s.kind≠1):(doC c s).1.log=c.log:=by
 unfold doC
 rw[if_neg hs]
 split
 ·
  unfold sendC
  split
  ·
   rfl
  split
  ·
   rfl
  ·
   dsimp only;split <;> rfl
 split
 ·
  unfold packetC
  split
  ·
   rfl
  split
  ·
   dsimp only;split <;> rfl
  split
  ·
   rfl
  ·
   exact(comeC_keep _ _).1
 split
 ·
  unfold runC
  split <;> rfl
 split
 ·
  unfold clrC
  split <;> rfl
 ·
  rfl
theorem play_keep:∀ {l:List Step}{c:Cluster},(∀ s∈l,s.kind≠1)→(playC c l).log=c.log
 | [],_,_=>rfl
 |s::l,c,h=>by
  simp only[playC]
  rw[play_keep fun x hx=>h x (List.mem_cons_of_mem _ hx),doC_keep (h s (List.mem_cons_self ..))]
theorem settled_deeds {l:List Deed}{a:Nat}{n:Int}{bw:List Step}(ha:1≤a∧a≤6) (hl:(chunks a l.length l).length≤12) (hw:∀ d∈l,wrongDeed d=0) (hb:∀ s∈bw,s.kind≠1):dAll (playC (newC n) (batchesD l a++bw)).log=l:=by
 rw[playC_app,play_keep hb]
 unfold batchesD
 have:=(play_batches (bs:=chunks a l.length l) (c:=newC n) (fun b hm=>by
  obtain⟨h1,h2⟩:=chunks_mem b hm
  exact⟨by omega,fun d hd=>hw d (h2 d hd)⟩) (by simp[newC];omega)).1
 rw[this,chunks_flat ha.1 (Nat.le_refl _)]
 rfl
theorem doGo_look {r0:List Pair}:∀ {l:List Ins}{sk:Int}{now:List Pair}{e:Done},(∀ i∈l,i.kind≠6∧i.kind≠7)→(doGo r0 sk now e l).1=now∨(doGo r0 sk now e l).1=r0
 | [],sk,now,e,_ => .inl rfl
 |i::l,sk,now,e,h=>by
  obtain⟨h6,h7⟩:=h i (List.mem_cons_self ..)
  have ih:∀ sk e,(doGo r0 sk now e l).1=now∨(doGo r0 sk now e l).1=r0:=fun sk e=>doGo_look fun x hx=>h x (List.mem_cons_of_mem _ hx)
  simp only[doGo]
  split
  ·
   exact ih _ _
  split
  ·
   exact ih _ _
  split
  ·
   exact ih _ _
  split
  ·
   exact ih _ _
  split
  ·
   exact ih _ _
  split
  ·
   exact ih _ _
  split
  ·
   exact ih _ _
  split
  ·
   exact .inr rfl
  ·
   exact ih _ _
theorem doD_look {r:List Pair}{d:Deed}(hw:wrongDeed d=0) (h:d.writes=[]):(doD r d).1=r:=by
 unfold doD
 rcases doGo_look (r0:=r) (l:=d.code) (sk:=0) (now:=r) (e:=done0) (fun i hi=>by
  obtain⟨m,_,hm⟩:=ins_wrong hw hi
  refine⟨fun hk=>?_,fun hk=>?_⟩
  ·
   have:=wrongIns_keyed hm (.inl hk);rw[h]at this;cases this
  ·
   have:=wrongIns_keyed hm (.inr hk);rw[h]at this;cases this) with h1|h1 <;> exact h1
theorem allD_look:∀ {l:List Deed}{r:List Pair},(∀ d∈l,wrongDeed d=0)→(allD r (l.filter fun d=>decide (0 < d.writes.length))).1=(allD r l).1
 | [],_,_=>rfl
 |d::l,r,h=>by
  have hl:∀ x∈l,wrongDeed x=0:=fun x hx=>h x (List.mem_cons_of_mem _ hx)
  by_cases hd:0 < d.writes.length
  ·
   rw[List.filter_cons_of_pos (by simpa using hd)]
   simp only[allD]
   exact allD_look hl
  ·
   rw[List.filter_cons_of_neg (by simpa using hd)]
   simp only[allD]
   rw[doD_look (h d (List.mem_cons_self ..)) (List.eq_nil_of_length_eq_zero (by omega))]
   exact allD_look hl
def dK:Deed:=⟨[[107]],[[107]],[⟨1,0,0,0,[107]⟩,⟨2,1,0,1,[]⟩,⟨3,0,1,0,[]⟩,⟨6,0,0,0,[107]⟩]⟩
theorem dK_right:wrongDeed dK=0:=by decide +kernel
theorem dK_first:(doD [] dK).1=[⟨[107],1⟩]:=by decide +kernel
theorem dK_next:∀ n:Fin 41,(doD [⟨[107],(n.val:Int)⟩] dK).1=[⟨[107],(n.val:Int)+1⟩]:=by decide +kernel
theorem dK_more:∀ {k n:Nat},n+k≤40→(allD [⟨[107],(n:Int)⟩] (List.replicate k dK)).1=[⟨[107],((n+k:Nat):Int)⟩]
 |0,n,_=>rfl
 |k+1,n,h=>by
  rw[List.replicate_succ]
  simp only[allD]
  rw[dK_next ⟨n,by omega⟩]
  have:=dK_more (k:=k) (n:=n+1) (by omega)
  dsimp only
  rw[show((n:Int)+1)=((n+1:Nat):Int) by omega,this]
  congr 2
  omega
theorem dK_all {k:Nat}(h1:1≤k) (h:k≤40):(allD [] (List.replicate k dK)).1=[⟨[107],(k:Int)⟩]:=by
 obtain⟨j,rfl⟩:∃ j,k=j+1:=⟨k - 1,by omega⟩
 rw[List.replicate_succ]
 simp only[allD]
 rw[dK_first]
 have:=dK_more (k:=j) (n:=1) (by omega)
 rw[show(1:Nat)+j=j+1 by omega]at this
 exact this
def nameP:Nat→Str
 |0=>[97]
 |1=>[98]
 |_=>[99]
def dPay (a b:Str) (n:Int):Deed:=⟨[a,b],[a,b],[⟨1,0,0,0,a⟩,⟨2,1,0,n,[]⟩,⟨4,0,1,0,[]⟩,⟨9,0,0,0,[]⟩,⟨6,0,0,0,a⟩,⟨1,2,0,0,b⟩,⟨3,2,1,0,[]⟩,⟨6,2,0,0,b⟩]⟩
def dStart:Deed:=⟨[],[[97],[98],[99]],[⟨2,0,0,100,[]⟩,⟨6,0,0,0,[97]⟩,⟨6,0,0,0,[98]⟩,⟨6,0,0,0,[99]⟩]⟩
theorem dStart_right:wrongDeed dStart=0:=by decide +kernel
theorem dStart_do:(doD [] dStart).1=[⟨[97],100⟩,⟨[98],100⟩,⟨[99],100⟩]:=by decide +kernel
theorem dPay_right:∀ (i j:Fin 3),i≠j→∀ n:Fin 1001,wrongDeed (dPay (nameP i.val) (nameP j.val) (n.val:Int))=0:=by decide +kernel
def rows3 (x y z:Int):List Pair:=[⟨[97],x⟩,⟨[98],y⟩,⟨[99],z⟩]
theorem round_small {n:Int}(h : -1073741824≤n∧n≤1073741824):round n=n:=by
 unfold round
 have:n.tdiv 1073741825=0:=by
  rcases Int.le_total 0 n with h1|h1
  ·
   exact Int.tdiv_eq_zero_of_lt h1 (by omega)
  ·
   obtain⟨m,rfl⟩:∃ m:Int,n = -m:=⟨-n,by omega⟩
   rw[Int.neg_tdiv,Int.tdiv_eq_zero_of_lt (by omega) (by omega)]
   rfl
 rw[this];omega
def Purse (r:List Pair):Prop:=∃ x y z:Int,r=rows3 x y z∧0≤x∧0≤y∧0≤z∧x+y+z=300
theorem pay_do {r:List Pair}{a b:Str}{n:Int}(hn:0≤n∧n≤1000) {x y:Int}(hx:get r a=(x,true)) (hx2:0≤x∧x≤300) (hy:get (put r a (x - n) true) b=(y,true)) (hy2:0≤y∧y≤300) :
  (doD r (dPay a b n)).1=if x < n then r else put (put r a (x - n) true) b (y+n) true:=by
 have h1:=round_small (n:=x - n) (by omega)
 have h2:=round_small (n:=y+n) (by omega)
 unfold doD dPay
 simp[doGo,done0,rget,rset,hx,h1]
 by_cases h:x - n < 0
 ·
  rw[if_pos h,if_pos (by omega)]
 ·
  rw[if_neg h,if_neg (by omega)]
  simp[hy,h2]
theorem put3 {x y z w:Int}:put (rows3 x y z) [97] w true=rows3 w y z∧put (rows3 x y z) [98] w true=rows3 x w z∧put (rows3 x y z) [99] w true=rows3 x y w:=by
 refine⟨rfl,rfl,rfl⟩
theorem get3 {x y z:Int}:get (rows3 x y z) [97]=(x,true)∧get (rows3 x y z) [98]=(y,true)∧get (rows3 x y z) [99]=(z,true):=⟨rfl,rfl,rfl⟩
theorem pay_purse {r:List Pair}(h:Purse r) {i j:Nat}(hi:i < 3) (hj:j < 3) (hij:i≠j) {n:Int}(hn:0≤n∧n≤1000):Purse (doD r (dPay (nameP i) (nameP j) n)).1:=by
 obtain⟨x,y,z,rfl,h1,h2,h3,h4⟩:=h
 have fin:∀ {p q w:Int} {b:Prop} [Decidable b],Purse (rows3 x y z)→(¬ b→0≤p∧0≤q∧0≤w∧p+q+w=300)→Purse (if b then rows3 x y z else rows3 p q w):=fun {p q w b} _ ha hb=>by
  by_cases h:b
  ·
   rw[if_pos h];exact ha
  ·
   rw[if_neg h];exact⟨_,_,_,rfl,hb h⟩
 have h0:Purse (rows3 x y z):=⟨x,y,z,rfl,h1,h2,h3,h4⟩
 have n0:nameP 0=[97]:=rfl
 have n1:nameP 1=[98]:=rfl
 have n2:nameP 2=[99]:=rfl
 rcases(show(i=0∧j=1)∨(i=0∧j=2)∨(i=1∧j=0)∨(i=1∧j=2)∨(i=2∧j=0)∨(i=2∧j=1) by omega) with ⟨rfl,rfl⟩|⟨rfl,rfl⟩|⟨rfl,rfl⟩|⟨rfl,rfl⟩|⟨rfl,rfl⟩|⟨rfl,rfl⟩
 ·
  rw[n0,n1,pay_do hn get3.1 (by omega) (by rw[put3.1];exact get3.2.1) (by omega),put3.1,put3.2.1]
  exact fin h0 fun h=>by omega
 ·
  rw[n0,n2,pay_do hn get3.1 (by omega) (by rw[put3.1];exact get3.2.2) (by omega),put3.1,put3.2.2]
  exact fin h0 fun h=>by omega
 ·
  rw[n1,n0,pay_do hn get3.2.1 (by omega) (by rw[put3.2.1];exact get3.1) (by omega),put3.2.1,put3.1]
  exact fin h0 fun h=>by omega
 ·
  rw[n1,n2,pay_do hn get3.2.1 (by omega) (by rw[put3.2.1];exact get3.2.2) (by omega),put3.2.1,put3.2.2]
  exact fin h0 fun h=>by omega
 ·
  rw[n2,n0,pay_do hn get3.2.2 (by omega) (by rw[put3.2.2];exact get3.1) (by omega),put3.2.2,put3.1]
  exact fin h0 fun h=>by omega
 ·
  rw[n2,n1,pay_do hn get3.2.2 (by omega) (by rw[put3.2.2];exact get3.2.1) (by omega),put3.2.2,put3.2.1]
  exact fin h0 fun h=>by omega
theorem pays_purse:∀ {l:List (Nat×Nat×Int)}{r:List Pair},Purse r→(∀ p∈l,p.1 < 3∧p.2.1 < 3∧p.1≠p.2.1∧0≤p.2.2∧p.2.2≤1000)→Purse (allD r (l.map fun p=>dPay (nameP p.1) (nameP p.2.1) p.2.2)).1
 | [],r,h,_=>h
 |p::l,r,h,hl=>by
  obtain⟨h1,h2,h3,h4⟩:=hl p (List.mem_cons_self ..)
  simp only[List.map_cons,allD]
  exact pays_purse (pay_purse h h1 h2 h3 h4) fun q hq=>hl q (List.mem_cons_of_mem _ hq)
def tPay (a b:Str) (n:Int):Str :=
 [114,101,97,100,115,32]++a++[32]++b++[59,32,119,114,105,116,101,115,32]++a++[32]++b++[59,32,108,111,97,100,32,114,48,32]++a++[59,32,99,111,110,115,116,32,114,49,32]++Lib.itoa n
  ++ [59,32,115,117,98,32,114,48,32,114,49,59,32,102,97,105,108,32,114,48,59,32,115,116,111,114,101,32,114,48,32]++a++[59,32,108,111,97,100,32,114,50,32]++b
  ++ [59,32,97,100,100,32,114,50,32,114,49,59,32,115,116,111,114,101,32,114,50,32]++b
theorem itoa0:Lib.itoa 0=[48]:=by decide +kernel
theorem itoa1:Lib.itoa 1=[49]:=by decide +kernel
theorem itoa2:Lib.itoa 2=[50]:=by decide +kernel
theorem pay_print (a b:Str) (n:Int):printD (dPay a b n)=tPay a b n:=by
 unfold printD partsD dPay tPay
 simp[joinS,insW,words,form,forms,fieldW,wReads,wWrites,itoa0,itoa1,itoa2]
def stepSend (n:Nat) (m:Int):Step:=⟨2,n,m,[]⟩
def stepRun (n:Nat):Step:=⟨6,n,0,[]⟩
theorem send_come {c:Cluster}(h:KInv c) {n:Nat}{r:Replica}{e:Entry}(hn:c.net=[]) (hr:c.reps[n]? = some r) (he:nth c.log r.next=some e) :
  (doC (doC c (stepSend n r.next)).1 stepCome).1=nextC c n:=by
 have h1:(doC c (stepSend n r.next)).1={ c with net:=[⟨n,bytesE e⟩] }:=by
  unfold doC stepSend
  dsimp only
  rw[if_neg (by omega),if_pos rfl]
  unfold sendC
  rw[nth_nat,hr]
  dsimp only
  rw[he]
  dsimp only
  rw[hn,if_pos (by simp)]
  rfl
 obtain⟨i,hi1,hi⟩:=nth_some he
 rw[h1,come_step (c:={ c with net:=[⟨n,bytesE e⟩] }) (p:=⟨n,bytesE e⟩) (t:=[]) rfl]
 dsimp only
 unfold comeC nextC
 dsimp only
 rw[nth_nat,hr]
 dsimp only
 rw[parse_bytes (h.w i e hi).2,he]
 dsimp only
 rw[Int.toNat_natCast,← hn]
theorem run_step {c:Cluster}{n:Nat}{r:Replica}(hr:c.reps[n]? = some r) {x:Int}(hx:(ready r.engine)[0]? = some x) :
  (doC c (stepRun n)).1={ c with reps:=c.reps.set n ⟨(goE r.engine x).1,r.next,r.early⟩ }:=by
 unfold doC stepRun
 dsimp only
 rw[if_neg (by omega),if_neg (by omega),if_neg (by omega),if_pos rfl]
 unfold runC
 rw[nth_nat,hr]
 dsimp only
 have hg:goR r 0=(⟨(goE r.engine x).1,r.next,r.early⟩,0):=by
  unfold goR
  rw[if_neg (by omega),show(0:Int).toNat=0 from rfl,hx]
 rw[hg,Int.toNat_natCast]
theorem fin_step {c:Cluster}{n:Nat}{r:Replica}(hr:c.reps[n]? = some r) {x:Int}(hx:(ready r.engine)[0]? = some x) (hl:r.engine.state.length=r.engine.deeds.length) :
  finC { c with reps:=c.reps.set n ⟨(goE r.engine x).1,r.next,r.early⟩ } n=finC c n∧waitN (goE r.engine x).1.state+1=waitN r.engine.state:=by
 have hx':(ready r.engine)[pickI (ready r.engine) []]? = some x:=hx
 obtain⟨A,d,_,_,_,_,_,h6,h7⟩:=all_step hl hx'
 have hnl:=(List.getElem?_eq_some_iff.1 hr).1
 refine⟨?_,h6⟩
 unfold finC
 dsimp only
 rw[List.getElem?_set_self hnl,hr]
 dsimp only
 rw[List.set_set,h7]
 rfl
theorem fin_end {c:Cluster}{n:Nat}{r:Replica}(hr:c.reps[n]? = some r) (h0:ready r.engine=[]):finC c n=c:=by
 unfold finC
 rw[hr]
 dsimp only
 rw[all_nil h0,set_same hr]
theorem doC_reps (c:Cluster) (s:Step):(doC c s).1.reps.length=c.reps.length:=by
 unfold doC
 split
 ·
  unfold batchC
  split
  ·
   rfl
  split <;> rfl
 split
 ·
  unfold sendC
  split
  ·
   rfl
  split
  ·
   rfl
  ·
   dsimp only;split <;> rfl
 split
 ·
  unfold packetC
  split
  ·
   rfl
  split
  ·
   dsimp only;split <;> rfl
  split
  ·
   rfl
  ·
   exact(comeC_keep _ _).2.2
 split
 ·
  unfold runC
  split
  ·
   rfl
  ·
   simp
 split
 ·
  unfold clrC
  split
  ·
   rfl
  ·
   simp
 ·
  rfl
theorem play_reps:∀ {l:List Step}{c:Cluster},(playC c l).reps.length=c.reps.length
 | [],_=>rfl
 |s::l,c=>by
  simp only[playC]
  rw[play_reps,doC_reps]
theorem settled_rows {c:Cluster}(h:KInv c) {r:Replica}(hr:r∈(settleC 40 c).1.reps):seenE r.engine (markN r.engine.state)=((allD [] (dAll c.log)).1,0):=by
 obtain⟨h1,h2,h3,h4,h5⟩:=settle_done h
 obtain⟨h6,h7⟩:=done_seen h1 h5 hr
 rw[h7,h6,dOf_all,h2]
end Go.Proofs.YtccblhpfjlgmbabGreatDoor
