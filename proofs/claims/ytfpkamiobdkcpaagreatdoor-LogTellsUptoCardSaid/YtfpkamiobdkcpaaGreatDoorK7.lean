/-
  Part 7 of what the claim leans on: J16 AxInl J17 J18 J20 L21.
-/
import Derived.Test.YtfpkamiobdkcpaaGreatDoorK6
set_option linter.all false

namespace Go.Proofs.YtfpkamiobdkcpaaGreatDoor
open Go.AX Go.RF Go.RowKit Go.Shelf Go.Lib
set_option maxHeartbeats 4000000 in
set_option maxRecDepth 100000 in
theorem delete_walkK (g n cap m:Nat) (w:World) (cur:Array Value) (hg:w.heap[g]? = some (.cells cur 143 (0,0))) (hsz:cur.size=cap*2) (hm:m < n) (hn:n≤268435456) (hnc:n≤cap) (hcm:cap≤maxLen) (hone:∀ v∈cur.toList.take (n*2),v.oneCell'=true) :
  Calls Tryz.prog 137 #[.slice (some ⟨g,0,none⟩) n cap,.int .i64 (m:Int),.int .i64 ((m:Int)+1)] w fun e w' =>
   e = .returned (.slice (some ⟨g,0,none⟩) (n - 1) cap)∧∃ m1 cs',w'=(w.drew.setRow g m1).setRow g cs'∧cs'.size=cap*2∧cs'.toList.take ((n - 1)*2)=(cur.toList.take (n*2)).take (m*2)++(cur.toList.take (n*2)).drop ((m+1)*2):=by
 have mixed:=mixed_ok
 have hnm:¬ ((m:Int)=(m:Int)+1):=by omega
 have hT:Tryz.prog.underlying 86=some (.slice 143):=Tryz.underlying86
 have htb:∃ ti,tget tbl 143=some ti∧ti.n=2∧ti.zero=[.int .i64 0,.slice none 0 0]:=⟨_,rfl,rfl,rfl⟩
 obtain⟨ti,ht1,ht2,ht4⟩:=htb
 obtain⟨i0,hi0,hzs,_,z,hz0,hzc⟩:=(tbl_ok _ _ ht1).info
 rw[ht2]at hzs
 rw[ht4]at hzc
 have hcl:n*2≤cur.size:=by rw[hsz];exact Nat.mul_le_mul_right 2 hnc
 obtain⟨news,hnews⟩:∃ news,news=(cur.toList.drop ((m+1)*2)).take ((n - (m+1))*2):=⟨_,rfl⟩
 have hnl:news.length=(n - (m+1))*2:=by rw[hnews];simp;omega
 obtain⟨m1,hm1⟩:∃ m1:List Value,m1=cur.toList.take (m*2)++news++cur.toList.drop (m*2+news.length):=⟨_,rfl⟩
 have hm1l:m1.length=cur.size:=by rw[hm1];simp;omega
 obtain⟨zs,hzs2⟩:∃ zs:List Value,zs=[.int .i64 0,.slice none 0 0]:=⟨_,rfl⟩
 obtain⟨m2,hm2⟩:∃ m2:List Value,m2=m1.take ((m+(n - (m+1)))*2)++zs++m1.drop ((m+(n - (m+1)))*2+zs.length):=⟨_,rfl⟩
 have hm2l:m2.length=cur.size:=by rw[hm2,hzs2];simp;omega
 have hlast:m2.take ((n - 1)*2)=(cur.toList.take (n*2)).take (m*2)++(cur.toList.take (n*2)).drop ((m+1)*2):=by
  have h:=del_cells (cur:=cur.toList) (zs:=zs) hm (by simpa using hcl)
  rw[hm2,hm1,hnews]
  exact h
 have hap:∀ (A:Addr),(cap=m+1∨A=⟨g,(m+1)*2,none⟩)→∀ ty,(Builtin.append_ #[86,86] ty #[.slice (some ⟨g,0,none⟩) m cap,.slice (some A) (n - (m+1)) (cap - (m+1))]).run Tryz.prog w.drew =
   .ok (.slice (some ⟨g,0,none⟩) (m+(n - (m+1))) cap) (w.drew.setRow g m1.toArray):=fun A hA ty=>by
  have hnw:∀ j u,news[j]? = some u→w.drew.cell? (A.add j)=some u:=fun j u hj=>by
   rcases hA with hA|rfl
   ·
    have:news=[]:=List.eq_nil_of_length_eq_zero (by rw[hnl];omega)
    rw[this]at hj;simp at hj
   ·
    rw[hnews,List.getElem?_take]at hj
    split at hj
    ·
     rw[List.getElem?_drop]at hj
     rw[Addr.add_lit]
     have hgd:w.drew.heap[g]? = some (.cells cur 143 (0,0)):=hg
     simp[World.cell?,hgd]
     simpa using hj
    ·
     cases hj
  have ho1:∀ u∈news,u.oneCell'=true:=fun u hu=>by
   obtain⟨j,hj⟩:=List.getElem?_of_mem hu
   rw[hnews,List.getElem?_take]at hj
   split at hj
   ·
    rw[List.getElem?_drop]at hj
    refine hone u (List.mem_of_getElem? (i:=(m+1)*2+j) ?_)
    rw[List.getElem?_take,if_pos (by omega)];exact hj
   ·
    cases hj
  have h:=run_append_room (P:=Tryz.prog) (w:=w.drew) (ty:=ty) 86 143 i0 hT hi0 g m cap cur hg A (n - (m+1)) (cap - (m+1)) news (by rw[hzs];exact hnl) hnw ho1 (by omega) (by rw[hzs,hnl];omega)
  rw[hzs]at h
  rw[hm1]
  exact h
 have hg1:(w.drew.setRow g m1.toArray).heap[g]? = some (.cells m1.toArray 143 (0,0)):=setRow_heap _ _ _ _ _ _ hg
 have hclr:∀ ty,(Builtin.clear_ #[86] ty #[.slice (some ⟨g,(m+(n - (m+1)))*2,none⟩) (n - (m+(n - (m+1)))) (cap - (m+(n - (m+1))))]).run Tryz.prog (w.drew.setRow g m1.toArray) =
   .ok (.tuple #[]) ((w.drew.setRow g m1.toArray).setRow g m2.toArray):=fun ty=>by
  have e1:n - (m+(n - (m+1)))=1:=by omega
  have hst:=run_storeCells_at Tryz.prog g ((m+(n - (m+1)))*2) 143 zs 0 m1.toArray (w.drew.setRow g m1.toArray) hg1 (by rw[hzs2];simp;omega) (by rw[hzs2];simp[Value.oneCell'])
  have hzz:(Builtin.zeroCells z.cells 1).toList=zs:=by
   rw[hzs2,← hzc]
   have h2:z.cells.size=2:=by rw[← Array.length_toList,hzc];rfl
   apply List.ext_getElem
   ·
    simp[Builtin.zeroCells,h2]
   ·
    intro i h3 h4
    have h5:i < 2:=by simpa[h2] using h4
    simp[Builtin.zeroCells,Nat.mod_eq_of_lt h5,h2]
    exact getElem!_pos z.cells i (by omega)
  have hzv:(zeroValue 143).run Tryz.prog (w.drew.setRow g m1.toArray) = .ok z (w.drew.setRow g m1.toArray):=by simp[zeroValue,typeInfo,hi0,hz0]
  rw[e1]
  simp only[Nat.add_zero]at hst
  simp[Builtin.clear_,run_underlying hT,hzv,hzz,hst,hm2]
 have hi1:m≤cap:=by omega
 have hi2:m+1≤cap:=by omega
 have hi3:m+1≤n:=by omega
 clear hm1 hm2 hnews hzs2
 have hj1:(0:Int)≤(m:Int)+1:=by omega
 have hj2:(m:Int)+1≤(n:Int):=by omega
 have hj3:(m:Int)≤(m:Int)+1:=by omega
 have htn:((m:Int)+1).toNat=m+1:=by omega
 by_cases hcj:cap=m+1
 ·
  have hap1:=hap ⟨g,0,none⟩ (.inl hcj)
  obtain rfl:n=m+1:=by omega
  subst hcj
  have hap2:∀ ty,(Builtin.append_ #[86,86] ty #[.slice (some ⟨g,0,none⟩) m (m+1),.slice (some ⟨g,0,none⟩) 0 0]).run Tryz.prog w.drew = .ok (.slice (some ⟨g,0,none⟩) m (m+1)) (w.drew.setRow g m1.toArray):=fun ty=>by simpa using hap1 ty
  have hclr2:∀ ty,(Builtin.clear_ #[86] ty #[.slice (some ⟨g,m*2,none⟩) 1 1]).run Tryz.prog (w.drew.setRow g m1.toArray) = .ok (.tuple #[]) ((w.drew.setRow g m1.toArray).setRow g m2.toArray):=fun ty=>by
   have h:=hclr ty
   rw[show m+1 - (m+1)=0 by omega,show m+0=m by omega,show m+1 - m=1 by omega]at h
   exact h
  clear hap hap1 hclr
  go_enter Tryz.func137,Tryz.ntmps137
  go_wp2_with fail
  go_region_law_o (refine step_append_runI rfl _ _ 86 86 rfl (.slice (some ⟨g,0,none⟩) m (m+1)) (.slice (some ⟨g,0,none⟩) 0 0) (by simp[Act.eval,Act.put]) (by simp[Act.eval,Act.put]) (hap2 _) ?_)
  go_wp2_with (at_builtin;refine wpList_clear_runI rfl _ 86 rfl _ rfl (hclr2 _) ?_)
  go_ret
  exact⟨by rw[show m+1 - 1=m by omega];rfl,_,_,rfl,by simp[hm2l,hsz],by simpa using hlast⟩
 ·
  have hap1:=hap ⟨g,(m+1)*2,none⟩ (.inr rfl)
  clear hap
  go_enter Tryz.func137,Tryz.ntmps137
  go_wp2_with fail
  go_region_law_o (refine step_append_runI rfl _ _ 86 86 rfl (.slice (some ⟨g,0,none⟩) m cap) (.slice (some ⟨g,(m+1)*2,none⟩) (n - (m+1)) (cap - (m+1))) (by simp[Act.eval,Act.put]) (by simp[Act.eval,Act.put]) (hap1 _) ?_)
  go_wp2_with (at_builtin;refine wpList_clear_runI rfl _ 86 rfl _ rfl (hclr _) ?_)
  go_ret
  exact⟨by rw[show n - 1=m+(n - (m+1)) by omega];rfl,_,_,rfl,by simp[hm2l,hsz],by simpa using hlast⟩
theorem upd_deleteK (rows:List (List D)) (m:Nat) (hm:m < rows.length) (hl:rows.length≤268435456) :
  FnUpd Tryz.prog 137 143 2 rows [.d (dint m),.d (dint ((m:Int)+1))] (rows.take m++rows.drop (m+1)):=by
 refine⟨⟨_,Tryz.func137,by kernel_rfl,by kernel_rfl⟩,fun w own v vs hown hR hsep ha=>?_⟩
 match vs,ha with
 | [v1,v2],⟨h1,h2,_⟩ =>
  have e1:=rd_v h1
  have e2:=rd_v h2
  subst e1 e2
  obtain⟨xs,hrow,hone,hrl,hrd⟩:=hR
  have hxl:=hrow.1
  rcases hrow.2 with ⟨_,h0⟩|⟨g,cap,cur,rfl,_,hg,hnc,hcm,hsz,htk⟩
  ·
   omega
  ·
   refine(delete_walkK g rows.length cap m w cur hg hsz hm hl hnc hcm (by rw[htk];exact hone)).mono fun e w'=>?_
   rintro ⟨rfl,m1,cs',rfl,q1,q2⟩
   have hp:∀ b,blk (.slice (some ⟨g,0,none⟩) (rows.length - 1) cap)=some b→blk (.slice (some ⟨g,0,none⟩) rows.length cap)=some b∨w.heap.size≤b:=fun b hb => .inl hb
   have hbb:BelowBut (.slice (some ⟨g,0,none⟩) rows.length cap) w ((w.drew.setRow g m1).setRow g cs'):=⟨rfl,rfl,rfl,by simp[setRow_size],fun b hb hn=>by
    have hbg:b≠g:=fun h=>hn (by rw[h];rfl)
    rw[setRow_other _ _ _ _ hbg,setRow_other _ _ _ _ hbg];rfl⟩
   refine⟨_,rfl,hbb,hp,rows_del hm hbb hp hxl hone hrl hrd ⟨by simp;omega,.inr ⟨g,cap,cs',rfl,Nat.zero_le _,setRow_heap _ _ _ _ _ _ (setRow_heap _ _ _ _ _ _ hg),by omega,hcm,q1,?_⟩⟩⟩
   rw[q2,htk]
end Go.Proofs.YtfpkamiobdkcpaaGreatDoor
namespace Go.AX
open Go.RowKit
def isS:Key→Bool
 |.s _=>true
 |_=>false
def slotsOf:St→St
 | []=>[]
 |(k,v)::r=>match isS k with
  |true=>(k,v)::slotsOf r
  |false=>slotsOf r
def objsOf:St→St
 | []=>[]
 |(k,v)::r=>match isS k with
  |true=>objsOf r
  |false=>(k,v)::objsOf r
theorem get_slots {i:Nat}:∀ {σ:St},get (slotsOf σ) (.s i)=get σ (.s i)
 | []=>rfl
 |(k,v)::r=>by
  by_cases h:k = .s i
  ·
   subst h
   show get ((Key.s i,v)::slotsOf r) _=_
   rw[get_cons_same,get_cons_same]
  ·
   rw[get_cons_ne h]
   cases k with
   |s j=>exact(get_cons_ne h).trans (get_slots (σ:=r))
   |o j=>exact get_slots (σ:=r)
   |nx=>exact get_slots (σ:=r)
theorem get_slots_ne {k:Key}(hk:isS k=false):∀ {σ:St},get (slotsOf σ) k = .none
 | []=>rfl
 |(q,v)::r=>by
  cases q with
  |s j=>exact(get_cons_ne (fun e=>by rw[← e]at hk;cases hk)).trans (get_slots_ne hk (σ:=r))
  |o j=>exact get_slots_ne hk (σ:=r)
  |nx=>exact get_slots_ne hk (σ:=r)
theorem get_objs {k:Key}(hk:isS k=false):∀ {σ:St},get (objsOf σ) k=get σ k
 | []=>rfl
 |(q,v)::r=>by
  by_cases h:q=k
  ·
   subst h
   cases q with
   |s j=>cases hk
   |o j=>show get ((Key.o j,v)::objsOf r) _=_;rw[get_cons_same,get_cons_same]
   |nx=>show get ((Key.nx,v)::objsOf r) _=_;rw[get_cons_same,get_cons_same]
  ·
   rw[get_cons_ne h]
   cases q with
   |s j=>exact get_objs hk (σ:=r)
   |o j=>exact(get_cons_ne h).trans (get_objs hk (σ:=r))
   |nx=>exact(get_cons_ne h).trans (get_objs hk (σ:=r))
theorem get_objs_s {i:Nat}:∀ {σ:St},get (objsOf σ) (.s i) = .none
 | []=>rfl
 |(q,v)::r=>by
  cases q with
  |s j=>exact get_objs_s (σ:=r)
  |o j=>exact(get_cons_ne (by simp)).trans (get_objs_s (σ:=r))
  |nx=>exact(get_cons_ne (by simp)).trans (get_objs_s (σ:=r))
theorem get_app_none {k:Key}{τ:St}:∀ {σ:St},get σ k = .none→(∀ v,(k,v)∈σ→v ≠ .none)→get (σ++τ) k=get τ k
 | [],_,_=>rfl
 |(q,v)::r,h,hn=>by
  by_cases hq:q=k
  ·
   subst hq
   rw[get_cons_same]at h
   exact absurd h (hn v (List.mem_cons_self ..))
  ·
   rw[get_cons_ne hq]at h
   rw[List.cons_append,get_cons_ne hq]
   exact get_app_none h fun v hv=>hn v (List.mem_cons_of_mem _ hv)
theorem slots_only {k:Key}{v:Val}:∀ {σ:St},(k,v)∈slotsOf σ→isS k=true
 |(q,u)::r,h=>by
  cases q with
  |s j =>
   rcases List.mem_cons.1 h with h|h
   ·
    cases h;rfl
   ·
    exact slots_only h
  |o j=>exact slots_only (σ:=r) h
  |nx=>exact slots_only (σ:=r) h
theorem mem_of_get {k:Key}{av:AV}:∀ {σ:St},get σ k = .av av→(k,Val.av av)∈σ
 |(q,v)::r,h=>by
  by_cases hq:q=k
  ·
   subst hq
   rw[get_cons_same]at h
   subst h
   exact List.mem_cons_self ..
  ·
   rw[get_cons_ne hq]at h
   exact List.mem_cons_of_mem _ (mem_of_get h)
theorem get_back {σ τ:St}{k:Key}:get (slotsOf σ++objsOf τ) k=if isS k=true then get (slotsOf σ++objsOf τ) k else get τ k:=by
 by_cases h:isS k=true
 ·
  rw[if_pos h]
 ·
  rw[if_neg h]
  have hf:isS k=false:=by cases hk:isS k <;> simp_all
  rw[get_app_none (get_slots_ne hf) (fun v hv=>by rw[slots_only hv]at hf;cases hf),get_objs hf]
theorem get_back_o {σ τ:St}{id:Nat}:get (slotsOf σ++objsOf τ) (.o id)=get τ (.o id):=by rw[get_back];rfl
theorem get_back_nx {σ τ:St}:get (slotsOf σ++objsOf τ) .nx=get τ .nx:=by rw[get_back];rfl
theorem get_app_or {k:Key}{τ:St}:∀ {σ:St},get (σ++τ) k=get σ k∨get (σ++τ) k=get τ k
 | [] => .inr rfl
 |(q,u)::r=>by
  by_cases hq:q=k
  ·
   subst hq
   rw[List.cons_append,get_cons_same,get_cons_same];exact .inl rfl
  ·
   rw[List.cons_append,get_cons_ne hq,get_cons_ne hq]
   exact get_app_or
theorem get_back_s {σ τ:St}{i:Nat}{av:AV}(h:get (slotsOf σ++objsOf τ) (.s i) = .av av):get σ (.s i) = .av av:=by
 rcases get_app_or (σ:=slotsOf σ) (τ:=objsOf τ) (k := .s i) with h1|h1
 ·
  rw[h1,get_slots]at h;exact h
 ·
  rw[h1,get_objs_s]at h;cases h
def kept (a:Act) (σ:St):List Key→List (Value×AV)
 | []=>[]
 |.s i::r=>match get σ (.s i) with
  |.av av=>(a.tmps.getD i undef,av)::kept a σ r
  |_=>kept a σ r
 |_::r=>kept a σ r
theorem kept_ok {a:Act}{σ:St}{p:Value×AV}:∀ {l:List Key},p∈kept a σ l→∃ i,get σ (.s i) = .av p.2∧a.tmps.getD i undef=p.1
 |.s i::r,h=>by
  simp only[kept]at h
  split at h
  ·
   next av hav =>
   rcases List.mem_cons.1 h with rfl|h
   ·
    exact⟨i,hav,rfl⟩
   ·
    exact kept_ok h
  ·
   exact kept_ok h
 |.o i::r,h=>kept_ok (l:=r) h
 |.nx::r,h=>kept_ok (l:=r) h
theorem kept_of {a:Act}{σ:St}{i:Nat}{av:AV}(h:get σ (.s i) = .av av):∀ {l:List Key},.s i∈l→(a.tmps.getD i undef,av)∈kept a σ l
 |.s j::r,hm=>by
  by_cases hj:j=i
  ·
   subst hj
   simp only[kept,h]
   exact List.mem_cons_self ..
  ·
   have hr:Key.s i∈r:=by
    rcases List.mem_cons.1 hm with h1|h1
    ·
     cases h1;exact absurd rfl hj
    ·
     exact h1
   simp only[kept]
   split
   ·
    exact List.mem_cons_of_mem _ (kept_of h hr)
   ·
    exact kept_of h hr
 |.o j::r,hm=>by
  rcases List.mem_cons.1 hm with h1|h1
  ·
   cases h1
  ·
   exact kept_of (l:=r) h h1
 |.nx::r,hm=>by
  rcases List.mem_cons.1 hm with h1|h1
  ·
   cases h1
  ·
   exact kept_of (l:=r) h h1
def argAv:Nat→List AV→St
 |_,[]=>[]
 |i,x::xs=>(.s i,.av x)::argAv (i+1) xs
theorem argAv_get {xs:List AV}:∀ {i j:Nat}{av:AV},get (argAv i xs) (.s j) = .av av→i≤j∧xs[j - i]? = some av:=by
 induction xs with
 |nil=>intro i j av h;cases h
 |cons x xs ih =>
  intro i j av h
  by_cases hj:i=j
  ·
   subst hj
   rw[argAv,get_cons_same]at h
   cases h
   simp
  ·
   rw[argAv,get_cons_ne (by simpa using hj)]at h
   obtain⟨h1,h2⟩:=ih h
   refine⟨by omega,?_⟩
   rw[show j - i=(j - (i+1))+1 by omega]
   simpa using h2
theorem argAv_ne {xs:List AV}{k:Key}(hk:isS k=false):∀ {i:Nat},get (argAv i xs) k = .none:=by
 induction xs with
 |nil=>intro i;rfl
 |cons x xs ih=>intro i;rw[argAv,get_cons_ne (fun e=>by rw[← e]at hk;cases hk)];exact ih
theorem argAv_only {xs:List AV}{k:Key}{v:Val}:∀ {i:Nat},(k,v)∈argAv i xs→isS k=true:=by
 induction xs with
 |nil=>intro i h;cases h
 |cons x xs ih =>
  intro i h
  rcases List.mem_cons.1 h with h|h
  ·
   cases h;rfl
  ·
   exact ih h
theorem get_args {xs:List AV}{τ:St}{k:Key}(hk:isS k=false):get (argAv 0 xs++objsOf τ) k=get τ k:=by
 rw[get_app_none (argAv_ne hk) (fun v hv=>by rw[argAv_only hv]at hk;cases hk),get_objs hk]
inductive EvL (σ:St):List Operand→List AV→Prop
 |nil:EvL σ [] []
 |cons {x:Operand} {av:AV} {xs:List Operand} {avs:List AV} (hx:ev σ x=some av) (hr:EvL σ xs avs):EvL σ (x::xs) (av::avs)
variable {cx:Cx}{g:Nat→Value}{σ:St}{a:Act}{w:World}{nx:Nat}{c:Code}{Q:Exit→St→Prop}
variable {ty:TypeId}{pos:String}{af:Array Edge}{gd:Option (Nat×Bool)}{d:Nat}{ops:Array Oper}{rest:List Oper}
theorem EvL.at (hs:SimG cx σ a w g nx) {xs:List Operand}{avs:List AV}(h:EvL σ xs avs):avs.length=xs.length∧∀ (j:Nat) (av:AV),avs[j]? = some av→∃ x,xs[j]? = some x∧Rep cx g σ w (a.eval x) av∧av.bd nx:=by
 induction h with
 |nil=>exact⟨rfl,fun j av h=>by simp at h⟩
 |cons hx hr ih =>
  refine⟨by simp[ih.1],fun j av hj=>?_⟩
  cases j with
  |zero =>
   simp at hj
   subst hj
   exact⟨_,rfl,hs.ev (ev_out hx).1 (ev_out hx).2⟩
  |succ j =>
   obtain⟨x,h1,h2⟩:=ih.2 j av (by simpa using hj)
   exact⟨x,by simpa using h1,h2⟩
def inlQ (cx:Cx) (ops:Array Oper) (Q:Exit→St→Prop) (rest:List Oper) (σ:St) (d t:Nat):Exit→St→Prop
 |.normal,σ'=>∃ x,get σ' (.s t) = .av (.d x)∧SW cx ops Q rest ((.s d,.av (.d x))::(slotsOf σ++objsOf σ'))
 |.ret,σ'=>∃ x,get σ' (.s t) = .av (.d x)∧SW cx ops Q rest ((.s d,.av (.d x))::(slotsOf σ++objsOf σ'))
 |_,_=>False
theorem q_inl {t:Nat}{σ':St}{x:D}(h:get σ' (.s t) = .av (.d x)) (hr:SW cx ops Q rest ((.s d,.av (.d x))::(slotsOf σ++objsOf σ'))):inlQ cx ops Q rest σ d t .ret σ':=⟨x,h,hr⟩
theorem SW.inline {f : FuncId} {fn : Func} {xs : List Operand} {avs : List AV} {ats : Array TypeId} {t n : Nat} (hf : cx.P.funcs[f]? = some fn) (hb : fn.body = some c) (hname : (fn.name == "runtime.NumGoroutine") = false)
  (hr:fn.results = #[.tmp t]) (hd:Nat.blt d cx.n=true) (hn:Nat.ble xs.length fn.ntmps=true) (hev:EvL σ xs avs) (hnx:get σ .nx = .num n)
  (h:∀ gh,CW ⟨cx.P,cx.T,cx.hT,cx.mixed,fn.ntmps,cx.w0,cx.own0,n,gh⟩ c (inlQ cx ops Q rest σ d t) (argAv 0 avs++objsOf σ)) :
  SW cx ops Q (⟨some d,.call { callee := .value (.func f),args:=⟨xs⟩,argTypes:=ats },ty,pos,af,none⟩::rest) σ:=by
 rintro a w ⟨g,nx,hs⟩
 obtain rfl:nx=n:=by
  have:=hs.hnx
  rw[hnx]at this
  simpa using this.symm
 refine wpList_plain rfl fun K hK=>?_
 unfold Oper.wp
 rw[call_run (a:=a) (d:=d) (ty:=ty) (pos:=pos) (af:=af) (gd:=none) (w:=w) (xs:=xs) (ats:=ats) ⟨fn,hf,hname,by rw[hb];rfl⟩]
 obtain⟨hlen,hat⟩:=hev.at hs
 -- the callee's state,at the start
 have hobj:∀ id,get (argAv 0 avs++objsOf σ) (.o id)=get σ (.o id):=fun id=>get_args rfl
 have hlat:Later cx g g σ (argAv 0 avs++objsOf σ) w w nx:=by
  refine⟨Ext.refl _ _,Below.refl _ _,fun b hb=>?_,fun id o' _ ho=>⟨o',(hobj id).symm.trans ho,by cases o' <;> simp[ObLe]⟩⟩
  rcases hb with hb|⟨id,o,h1,h2⟩
  ·
   exact .inl (.inl hb)
  ·
   exact .inl (.inr ⟨id,o,(hobj id).symm.trans h1,h2⟩)
 have hstart:SimG ⟨cx.P,cx.T,cx.hT,cx.mixed,fn.ntmps,cx.w0,cx.own0,nx,kept a σ (σ.map (·.1))++cx.gh⟩ (argAv 0 avs++objsOf σ) { tmps:=(xs.map a.eval).toArray++Array.replicate (fn.ntmps - (xs.map a.eval).toArray.size) undef,defers:=[] } w g nx:=by
  refine⟨(get_args rfl).trans hs.hnx,by simp at hn ⊢;omega,rfl,hs.below,hs.own0,fun i av hi=>?_,fun id o ho=>?_,fun id id' o o' b h1 h2=>hs.sep id id' o o' b ((hobj _).symm.trans h1) ((hobj _).symm.trans h2),Nat.le_refl _,fun p hp=>?_⟩
  ·
   rcases get_app_or (σ:=argAv 0 avs) (τ:=objsOf σ) (k := .s i) with h1|h1
   ·
    rw[h1]at hi
    obtain⟨_,h2⟩:=argAv_get hi
    rw[Nat.sub_zero]at h2
    obtain⟨x,h3,h4,h5⟩:=hat i av h2
    have hlt:i < xs.length:=(List.getElem?_eq_some_iff.1 h3).1
    have hv:((xs.map a.eval).toArray++Array.replicate (fn.ntmps - (xs.map a.eval).toArray.size) undef).getD i undef=a.eval x:=by
     rw[Array.getD_eq_getD_getElem?,Array.getElem?_append_left (by simpa using hlt)]
     simp[h3]
    refine⟨?_,h5⟩
    show Rep cx g (argAv 0 avs++objsOf σ) w _ av
    rw[hv]
    exact h4.step hlat h5
   ·
    rw[h1,get_objs_s]at hi;cases hi
  ·
   obtain⟨h1,h2,h3⟩:=hs.objs id o ((hobj id).symm.trans ho)
   exact⟨h1,h2.step hlat rfl (fun _ _=>rfl) h3,h3⟩
  ·
   rcases List.mem_append.1 hp with hp|hp
   ·
    obtain⟨i,h1,h2⟩:=kept_ok hp
    obtain⟨h3,h4⟩:=hs.slots i _ h1
    rw[h2]at h3
    exact⟨h3.step hlat h4,h4⟩
   ·
    obtain⟨h1,h2⟩:=hs.gh.2 p hp
    exact⟨h1.step hlat (AV.bd_mono hs.gh.1 h2),AV.bd_mono hs.gh.1 h2⟩
 suffices hcall:Calls cx.P f (xs.map a.eval).toArray w fun e w'=>∃ v',e = .returned v'∧K (a.put (some d) v') w' by
  refine hcall.mono fun z w' he=>?_
  obtain⟨v,rfl,hk⟩:=he
  exact hk
 refine calls_of_wp hf hb (wp_mono (h _ _ w ⟨g,nx,hstart⟩) fun e a' w' he=>?_)
 obtain⟨σ',⟨g',nx',hg⟩,hq⟩:=he
 -- and behind it
 have fin:(∃ x,get σ' (.s t) = .av (.d x)∧SW cx ops Q rest ((.s d,.av (.d x))::(slotsOf σ++objsOf σ'))) →
   a'.defers=[]∧∃ v,(results fn a'.tmps).run cx.P w' = .ok v w'∧∃ v',Ending.returned v = .returned v'∧K (a.put (some d) v') w':=by
  rintro ⟨x,hx,hsw⟩
  refine⟨hg.defers,a'.tmps.getD t undef,by rw[results_one hr];simp[rvRun],_,rfl,hK _ _ ?_⟩
  refine hsw _ w' ⟨g',nx',?_⟩
  have hobj2:∀ id,get ((Key.s d,Val.av (.d x))::(slotsOf σ++objsOf σ')) (.o id)=get σ' (.o id):=fun id=>(get_cons_ne (by simp)).trans get_back_o
  have hl2:Later ⟨cx.P,cx.T,cx.hT,cx.mixed,fn.ntmps,cx.w0,cx.own0,nx,kept a σ (σ.map (·.1))++cx.gh⟩ g' g' σ' ((Key.s d,Val.av (.d x))::(slotsOf σ++objsOf σ')) w' w' nx':=by
   refine⟨Ext.refl _ _,Below.refl _ _,fun b hb=>?_,fun id o' _ ho=>⟨o',(hobj2 id).symm.trans ho,by cases o' <;> simp[ObLe]⟩⟩
   rcases hb with hb|⟨id,o,h1,h2⟩
   ·
    exact .inl (.inl hb)
   ·
    exact .inl (.inr ⟨id,o,(hobj2 id).symm.trans h1,h2⟩)
  refine⟨(get_cons_ne (by simp)).trans (get_back_nx.trans hg.hnx),by rw[← hs.size];simp[Act.put],hs.defers,hg.below,hg.own0,fun i av hi=>?_,fun id o ho=>?_,fun id id' o o' b h1 h2=>hg.sep id id' o o' b ((hobj2 _).symm.trans h1) ((hobj2 _).symm.trans h2),Nat.le_trans hs.gh.1 hg.gh.1,fun p hp=>?_⟩
  ·
   by_cases hid:d=i
   ·
    subst hid
    rw[get_cons_same]at hi
    cases hi
    obtain⟨h1,h2⟩:=hg.slots t _ hx
    rw[put_eq (by rw[hs.size];exact lt_of_blt hd)]
    exact⟨h1.step hl2 h2,h2⟩
   ·
    rw[get_cons_ne (by simpa using hid)]at hi
    have h1:=get_back_s hi
    obtain⟨h2,h3⟩:=hg.gh.2 _ (List.mem_append.2 (.inl (kept_of (a:=a) h1 (List.mem_map.2 ⟨_,mem_of_get h1,rfl⟩))))
    rw[put_ne fun e=>hid e.symm]
    exact⟨h2.step hl2 (AV.bd_mono hg.gh.1 h3),AV.bd_mono hg.gh.1 h3⟩
  ·
   obtain⟨h1,h2,h3⟩:=hg.objs id o ((hobj2 id).symm.trans ho)
   exact⟨h1,h2.step hl2 rfl (fun _ _=>rfl) h3,h3⟩
  ·
   obtain⟨h1,h2⟩:=hg.gh.2 p (List.mem_append.2 (.inr hp))
   obtain⟨_,h4⟩:=hs.gh.2 p hp
   exact⟨h1.step hl2 (AV.bd_mono hg.gh.1 h2),h4⟩
 cases e with
 |normal=>exact fin hq
 |ret=>exact fin hq
 |exit j=>exact hq.elim
 |goto j=>exact hq.elim
 |panic c=>exact hq.elim
 |outgrown=>exact hq.elim
end Go.AX
namespace Go.Proofs.YtfpkamiobdkcpaaGreatDoor
open Go.AX Go.RF
set_option maxRecDepth 100000
set_option maxHeartbeats 16000000
theorem cdo_batch (c:Cluster) (s:Step) (h:KInv c) (hd:∀ d∈s.deeds,d.Sm) (hl:s.deeds.length≤100000000) (k1:s.kind=1) :
  FnOk Tryz.prog 56 [.d (.agg c.enc),.d (.agg s.enc)] (.tup [.agg (batchC c s.deeds).1.enc,dint (batchC c s.deeds).2]):=by
 refine fnOk_of tbl_ok mixed_ok Tryz.func56 rfl (by kernel_rfl) rfl rfl fun w0 own0=>?_
 have hL:=h.l
 have hP:=h.p
 have hR:=h.k
 have hS:=h.sm
 have c1:=news_cown c h.sm
 have hst0:StopA 3:=⟨rfl⟩
 repeat(first|refine waS ?_|((with_reducible apply s5);(first|exact a_callnews c1 rfl rfl by_sub|exact by_oa|exact by_ca);exact by_g)|refine wb ?_)
 clear hst0
 refine Stop.cutk [sd 8 (dbool (decide (0≤s.n∧s.n < c.reps.length)))] [.s 3,.s 4,.s 5,.s 6,.s 7,.o 1,.o 2,.o 3,.o 4,.o 5,.o 6,.nx] ?_ ?_
 ·
  by_cases b0:0≤s.n
  ·
   try refine wk ?_
   refine q_cut ?_
   exact by_less
  ·
   try refine wk ?_
   refine q_cut ?_
   exact by_less
 unfold batchC
 by_cases b1:12≤c.log.length
 ·
  rw[if_pos b1]
  have hst0:StopX 7:=⟨rfl⟩
  try refine wkS ?_
  clear hst0
  refine Stop.go (CW.regionS ?_)
  repeat(first|((with_reducible apply SW.s1);exact rfl)|((with_reducible apply SW.s5);exact by_oa;exact rfl))
  refine SW.inline (t:=4) Tryz.func99 rfl (by kernel_rfl) rfl rfl rfl (.cons rfl (.cons rfl .nil)) rfl fun gh=>?_
  repeat(first|refine wa ?_|((with_reducible apply s5);(first|((with_reducible apply a_nilp);(iterate 3 exact rfl))|exact by_oa|exact by_ca);exact by_g)|refine wb ?_)
  refine q_inl rfl ?_
  repeat(first|((with_reducible apply SW.s1);exact rfl)|((with_reducible apply SW.s5);exact by_oa;exact rfl))
  refine SW.nil ?_
  try refine wk ?_
  exact .two (.cell rfl rfl rfl rfl (.agg (.cons (.own rfl (by simp) (.refl _)) (.cons (.own rfl (by simp) (.refl _)) (.cons (.own rfl (by simp) (.refl _)) .nil))))) (.tmp rfl (.one (.d (.refl _))))
 rw[if_neg b1]
 have c2:FnOk Tryz.prog 40 [.d (.agg [dint ((c.log.map Entry.enc).length:Int),encDeeds s.deeds])] (.one (dint (wrongEntry ⟨c.log.length,s.deeds⟩))):=by
  rw[List.length_map]
  exact ok_lwrong ⟨c.log.length,s.deeds⟩ hd (by dsimp only;omega)
 by_cases b2:wrongEntry ⟨c.log.length,s.deeds⟩=0
 ·
  rw[if_pos b2]
  rw[b2]at c2
  have c3:FnOk Tryz.prog 44 [.d (.sl 2 [[dint ((c.log.map Entry.enc).length:Int),encDeeds s.deeds]])] (.one (.sl 2 [[dint ((c.log.map Entry.enc).length:Int),encDeeds s.deeds]])):=by
   rw[List.length_map]
   exact ok_logOwn [⟨c.log.length,s.deeds⟩] (by simp) (fun e he=>by rw[List.mem_singleton.1 he];exact⟨by dsimp only;omega,hd⟩)
  have hst0:StopX 7:=⟨rfl⟩
  try refine wkS ?_
  clear hst0
  refine Stop.go (CW.regionS ?_)
  repeat(first|((with_reducible apply SW.s1);exact rfl)|((with_reducible apply SW.s5);exact by_oa;exact rfl))
  refine SW.inline (t:=4) Tryz.func99 rfl (by kernel_rfl) rfl rfl rfl (.cons rfl (.cons rfl .nil)) rfl fun gh=>?_
  repeat(first|((with_reducible apply s5);((with_reducible apply a_bs [[dint ((c.log.map Entry.enc).length:Int),encDeeds s.deeds]]);(iterate 9 exact rfl);(repeat(first|exact PartsE.nil|(apply PartsE.cons;exact rfl;exact rfl))));exact by_g)|refine wa1 ?_|((with_reducible apply s5);(first|((with_reducible apply a_nilp);(iterate 3 exact rfl))|exact a_call c2 rfl by_sub|exact a_call c3 rfl by_sub|((with_reducible apply a_buildA);(iterate 4 exact rfl);(repeat(first|exact PartsV.nil|(apply PartsV.cons;exact rfl;exact rfl;(first|exact⟨rfl,trivial⟩|(apply nw_own;exact rfl;(focus first|exact rfl|(simp;done)|(simp;omega)))))));exact rfl)|exact by_oa|exact by_ca);exact by_g)|refine wb ?_)
  refine q_inl rfl ?_
  repeat(first|((with_reducible apply SW.s1);exact rfl)|((with_reducible apply SW.s5);exact by_oa;exact rfl))
  refine SW.nil ?_
  try refine wk ?_
  exact .two (.cell rfl rfl rfl rfl (.agg (.cons (.own rfl (by simp) (dle_eq (by simp[encEntries];rfl))) (.cons (.own rfl (by simp) (.refl _)) (.cons (.own rfl (by simp) (.refl _)) .nil))))) (.tmp rfl (.one (.d (.refl _))))
 ·
  rw[if_neg b2]
  generalize wrongEntry ⟨c.log.length,s.deeds⟩=W at *
  have hst0:StopX 7:=⟨rfl⟩
  try refine wkS ?_
  clear hst0
  refine Stop.go (CW.regionS ?_)
  repeat(first|((with_reducible apply SW.s1);exact rfl)|((with_reducible apply SW.s5);exact by_oa;exact rfl))
  refine SW.inline (t:=4) Tryz.func99 rfl (by kernel_rfl) rfl rfl rfl (.cons rfl (.cons rfl .nil)) rfl fun gh=>?_
  repeat(first|refine wa ?_|((with_reducible apply s5);(first|((with_reducible apply a_nilp);(iterate 3 exact rfl))|exact a_call c2 rfl by_sub|((with_reducible apply a_buildA);(iterate 4 exact rfl);(repeat(first|exact PartsV.nil|(apply PartsV.cons;exact rfl;exact rfl;(first|exact⟨rfl,trivial⟩|(apply nw_own;exact rfl;(focus first|exact rfl|(simp;done)|(simp;omega)))))));exact rfl)|exact by_oa|exact by_ca);exact by_g)|refine wb ?_)
  refine q_inl rfl ?_
  repeat(first|((with_reducible apply SW.s1);exact rfl)|((with_reducible apply SW.s5);exact by_oa;exact rfl))
  refine SW.nil ?_
  try refine wk ?_
  exact .two (.cell rfl rfl rfl rfl (.agg (.cons (.own rfl (by simp) (.refl _)) (.cons (.own rfl (by simp) (.refl _)) (.cons (.own rfl (by simp) (.refl _)) .nil))))) (.tmp rfl (.one (.d (.refl _))))
theorem cdo_send (c:Cluster) (s:Step) (h:KInv c) (k2:s.kind=2) :
  FnOk Tryz.prog 56 [.d (.agg c.enc),.d (.agg s.enc)] (.tup [.agg (sendC c s.n s.m).1.enc,dint (sendC c s.n s.m).2]):=by
 refine fnOk_of tbl_ok mixed_ok Tryz.func56 rfl (by kernel_rfl) rfl rfl fun w0 own0=>?_
 have hL:=h.l
 have hP:=h.p
 have hR:=h.k
 have hS:=h.sm
 have c1:=news_cown c h.sm
 have hst0:StopA 3:=⟨rfl⟩
 repeat(first|refine waS ?_|((with_reducible apply s5);(first|exact a_callnews c1 rfl rfl by_sub|exact by_oa|exact by_ca);exact by_g)|refine wb ?_)
 clear hst0
 refine Stop.cutk [sd 8 (dbool (decide (0≤s.n∧s.n < c.reps.length)))] [.s 3,.s 4,.s 5,.s 6,.s 7,.o 1,.o 2,.o 3,.o 4,.o 5,.o 6,.nx] ?_ ?_
 ·
  by_cases b0:0≤s.n
  ·
   try refine wk ?_
   refine q_cut ?_
   exact by_less
  ·
   try refine wk ?_
   refine q_cut ?_
   exact by_less
 unfold sendC
 cases hn:nth c.reps s.n with
 |none =>
  have hn':=nth_none hn
  dsimp only
  by_cases b1:0≤s.n
  all_goals
   have hst0:StopX 9:=⟨rfl⟩
   try refine wkS ?_
   clear hst0
   refine Stop.go (CW.regionS ?_)
   repeat(first|((with_reducible apply SW.s1);exact rfl)|((with_reducible apply SW.s5);exact by_oa;exact rfl))
   refine SW.inline (t:=6) Tryz.func100 rfl (by kernel_rfl) rfl rfl rfl (.cons rfl (.cons rfl (.cons rfl .nil))) rfl fun gh=>?_
   repeat(first|refine wa ?_|((with_reducible apply s5);(first|((with_reducible apply a_nilp);(iterate 3 exact rfl))|exact by_oa|exact by_ca);exact by_g)|refine wb ?_)
   refine q_inl rfl ?_
   repeat(first|((with_reducible apply SW.s1);exact rfl)|((with_reducible apply SW.s5);exact by_oa;exact rfl))
   refine SW.nil ?_
   try refine wk ?_
   exact .two (.cell rfl rfl rfl rfl (.agg (.cons (.own rfl (by simp) (.refl _)) (.cons (.own rfl (by simp) (.refl _)) (.cons (.own rfl (by simp) (.refl _)) .nil))))) (.tmp rfl (.one (.d (.refl _))))
 |some r =>
  obtain⟨i,hi1,hi⟩:=nth_some hn
  have hil:=(List.getElem?_eq_some_iff.1 hi).1
  dsimp only
  cases hm:nth c.log s.m with
  |none =>
   have hm':=nth_none hm
   dsimp only
   by_cases b1:0≤s.m
   all_goals
    have hst0:StopX 9:=⟨rfl⟩
    try refine wkS ?_
    clear hst0
    refine Stop.go (CW.regionS ?_)
    repeat(first|((with_reducible apply SW.s1);exact rfl)|((with_reducible apply SW.s5);exact by_oa;exact rfl))
    refine SW.inline (t:=6) Tryz.func100 rfl (by kernel_rfl) rfl rfl rfl (.cons rfl (.cons rfl (.cons rfl .nil))) rfl fun gh=>?_
    repeat(first|refine wa ?_|((with_reducible apply s5);(first|((with_reducible apply a_nilp);(iterate 3 exact rfl))|exact by_oa|exact by_ca);exact by_g)|refine wb ?_)
    refine q_inl rfl ?_
    repeat(first|((with_reducible apply SW.s1);exact rfl)|((with_reducible apply SW.s5);exact by_oa;exact rfl))
    refine SW.nil ?_
    try refine wk ?_
    exact .two (.cell rfl rfl rfl rfl (.agg (.cons (.own rfl (by simp) (.refl _)) (.cons (.own rfl (by simp) (.refl _)) (.cons (.own rfl (by simp) (.refl _)) .nil))))) (.tmp rfl (.one (.d (.refl _))))
  |some e =>
   obtain⟨j,hj1,hj⟩:=nth_some hm
   have hjl:=(List.getElem?_eq_some_iff.1 hj).1
   have hjm:(c.log.map Entry.enc)[j]? = some e.enc:=by rw[List.getElem?_map,hj];rfl
   dsimp only
   by_cases b1:c.net.length < 16
   ·
    rw[if_pos b1]
    have c2:=ok_lbytes e (h.w j e hj).2
    generalize bytesE e=B at *
    have hse:s.enc=[dint s.kind,dint s.n,dint (j:Int),encDeeds s.deeds]:=by unfold Step.enc;rw[hj1]
    rw[hse]
    have hst0:StopX 9:=⟨rfl⟩
    try refine wkS ?_
    clear hst0
    refine Stop.go (CW.regionS ?_)
    repeat(first|((with_reducible apply SW.s1);exact rfl)|((with_reducible apply SW.s5);exact by_oa;exact rfl))
    refine SW.inline (t:=6) Tryz.func100 rfl (by kernel_rfl) rfl rfl rfl (.cons rfl (.cons rfl (.cons rfl .nil))) rfl fun gh=>?_
    repeat(first|((with_reducible apply s5);((with_reducible apply a_bs [[dint s.n,encBytes B]]);(iterate 9 exact rfl);(repeat(first|exact PartsE.nil|(apply PartsE.cons;exact rfl;exact rfl))));exact by_g)|refine wa1 ?_|((with_reducible apply s5);(first|((with_reducible apply a_nilp);(iterate 3 exact rfl))|((with_reducible apply a_buildA);(iterate 4 exact rfl);(repeat(first|exact PartsV.nil|(apply PartsV.cons;exact rfl;exact rfl;(first|exact⟨rfl,trivial⟩|(apply nw_own;exact rfl;(focus first|exact rfl|(simp;done)|(simp;omega)))))));exact rfl)|exact by_oa|exact by_ca);exact by_g)|refine wb ?_)
    refine q_inl rfl ?_
    repeat(first|((with_reducible apply SW.s1);exact rfl)|((with_reducible apply SW.s5);exact by_oa;exact rfl))
    refine SW.nil ?_
    try refine wk ?_
    exact .two (.cell rfl rfl rfl rfl (.agg (.cons (.own rfl (by simp) (.refl _)) (.cons (.own rfl (by simp) (.refl _)) (.cons (.own rfl (by simp) (dle_eq (by simp[encNet];rfl))) .nil))))) (.tmp rfl (.one (.d (.refl _))))
   ·
    rw[if_neg b1]
    have hst0:StopX 9:=⟨rfl⟩
    try refine wkS ?_
    clear hst0
    refine Stop.go (CW.regionS ?_)
    repeat(first|((with_reducible apply SW.s1);exact rfl)|((with_reducible apply SW.s5);exact by_oa;exact rfl))
    refine SW.inline (t:=6) Tryz.func100 rfl (by kernel_rfl) rfl rfl rfl (.cons rfl (.cons rfl (.cons rfl .nil))) rfl fun gh=>?_
    repeat(first|refine wa ?_|((with_reducible apply s5);(first|((with_reducible apply a_nilp);(iterate 3 exact rfl))|exact by_oa|exact by_ca);exact by_g)|refine wb ?_)
    refine q_inl rfl ?_
    repeat(first|((with_reducible apply SW.s1);exact rfl)|((with_reducible apply SW.s5);exact by_oa;exact rfl))
    refine SW.nil ?_
    try refine wk ?_
    exact .two (.cell rfl rfl rfl rfl (.agg (.cons (.own rfl (by simp) (.refl _)) (.cons (.own rfl (by simp) (.refl _)) (.cons (.own rfl (by simp) (.refl _)) .nil))))) (.tmp rfl (.one (.d (.refl _))))
theorem cdo_clr (c:Cluster) (s:Step) (h:KInv c) (k7:s.kind=7) :
  FnOk Tryz.prog 56 [.d (.agg c.enc),.d (.agg s.enc)] (.tup [.agg (clrC c s.n).1.enc,dint (clrC c s.n).2]):=by
 refine fnOk_of tbl_ok mixed_ok Tryz.func56 rfl (by kernel_rfl) rfl rfl fun w0 own0=>?_
 have hL:=h.l
 have hP:=h.p
 have hR:=h.k
 have hS:=h.sm
 have c1:=news_cown c h.sm
 have hst0:StopA 3:=⟨rfl⟩
 repeat(first|refine waS ?_|((with_reducible apply s5);(first|exact a_callnews c1 rfl rfl by_sub|exact by_oa|exact by_ca);exact by_g)|refine wb ?_)
 clear hst0
 refine Stop.cutk [sd 8 (dbool (decide (0≤s.n∧s.n < c.reps.length)))] [.s 3,.s 4,.s 5,.s 6,.s 7,.o 1,.o 2,.o 3,.o 4,.o 5,.o 6,.nx] ?_ ?_
 ·
  by_cases b0:0≤s.n
  ·
   try refine wk ?_
   refine q_cut ?_
   exact by_less
  ·
   try refine wk ?_
   refine q_cut ?_
   exact by_less
 unfold clrC
 cases hn:nth c.reps s.n with
 |none =>
  have hn':=nth_none hn
  dsimp only
  try refine wk ?_
  exact .two (.cell rfl rfl rfl rfl (.agg (.cons (.own rfl (by simp) (.refl _)) (.cons (.own rfl (by simp) (.refl _)) (.cons (.own rfl (by simp) (.refl _)) .nil))))) (.tmp rfl (.one (.d (.refl _))))
 |some r =>
  obtain⟨i,hi1,hi⟩:=nth_some hn
  have hil:=(List.getElem?_eq_some_iff.1 hi).1
  have him:(c.reps.map Replica.enc)[i]? = some r.enc:=by rw[List.getElem?_map,hi];rfl
  have hit:s.n.toNat=i:=by omega
  have hRI:=(h.r r (List.mem_of_getElem? hi)).1
  have c2:=ok_repClear r hRI
  dsimp only
  rw[hit]
  generalize clearR r=x at *
  have hse:s.enc=[dint s.kind,dint (i:Int),dint s.m,encDeeds s.deeds]:=by unfold Step.enc;rw[hi1]
  rw[hse]
  try refine wk ?_
  exact .two (.cell rfl rfl rfl rfl (.agg (.cons (.own rfl (by simp) (.refl _)) (.cons (.own rfl (by simp) (dle_eq (by simp[encReps,List.map_set];rfl))) (.cons (.own rfl (by simp) (.refl _)) .nil))))) (.tmp rfl (.one (.d (.refl _))))
theorem cdo_none (c:Cluster) (s:Step) (h:KInv c) (k1:s.kind≠1) (k2:s.kind≠2) (k3:s.kind≠3) (k4:s.kind≠4) (k5:s.kind≠5) (k6:s.kind≠6) (k7:s.kind≠7) :
  FnOk Tryz.prog 56 [.d (.agg c.enc),.d (.agg s.enc)] (.tup [.agg c.enc,dint 1]):=by
 refine fnOk_of tbl_ok mixed_ok Tryz.func56 rfl (by kernel_rfl) rfl rfl fun w0 own0=>?_
 have hL:=h.l
 have hP:=h.p
 have hR:=h.k
 have hS:=h.sm
 have c1:=news_cown c h.sm
 have hst0:StopA 3:=⟨rfl⟩
 repeat(first|refine waS ?_|((with_reducible apply s5);(first|exact a_callnews c1 rfl rfl by_sub|exact by_oa|exact by_ca);exact by_g)|refine wb ?_)
 clear hst0
 refine Stop.cutk [sd 8 (dbool (decide (0≤s.n∧s.n < c.reps.length)))] [.s 3,.s 4,.s 5,.s 6,.s 7,.o 1,.o 2,.o 3,.o 4,.o 5,.o 6,.nx] ?_ ?_
 ·
  by_cases b0:0≤s.n
  ·
   try refine wk ?_
   refine q_cut ?_
   exact by_less
  ·
   try refine wk ?_
   refine q_cut ?_
   exact by_less
 try refine wk ?_
 exact .two (.cell rfl rfl rfl rfl (.agg (.cons (.own rfl (by simp) (.refl _)) (.cons (.own rfl (by simp) (.refl _)) (.cons (.own rfl (by simp) (.refl _)) .nil))))) (.tmp rfl (.one (.d (.refl _))))
theorem cdo_run (c:Cluster) (s:Step) (h:KInv c) (k6:s.kind=6) :
  FnOk Tryz.prog 56 [.d (.agg c.enc),.d (.agg s.enc)] (.tup [.agg (runC c s.n s.m).1.enc,dint (runC c s.n s.m).2]):=by
 refine fnOk_of tbl_ok mixed_ok Tryz.func56 rfl (by kernel_rfl) rfl rfl fun w0 own0=>?_
 have hL:=h.l
 have hP:=h.p
 have hR:=h.k
 have hS:=h.sm
 have c1:=news_cown c h.sm
 have hst0:StopA 3:=⟨rfl⟩
 repeat(first|refine waS ?_|((with_reducible apply s5);(first|exact a_callnews c1 rfl rfl by_sub|exact by_oa|exact by_ca);exact by_g)|refine wb ?_)
 clear hst0
 refine Stop.cutk [sd 8 (dbool (decide (0≤s.n∧s.n < c.reps.length)))] [.s 3,.s 4,.s 5,.s 6,.s 7,.o 1,.o 2,.o 3,.o 4,.o 5,.o 6,.nx] ?_ ?_
 ·
  by_cases b0:0≤s.n
  ·
   try refine wk ?_
   refine q_cut ?_
   exact by_less
  ·
   try refine wk ?_
   refine q_cut ?_
   exact by_less
 unfold runC
 cases hn:nth c.reps s.n with
 |none =>
  have hn':=nth_none hn
  dsimp only
  try refine wk ?_
  exact .two (.cell rfl rfl rfl rfl (.agg (.cons (.own rfl (by simp) (.refl _)) (.cons (.own rfl (by simp) (.refl _)) (.cons (.own rfl (by simp) (.refl _)) .nil))))) (.tmp rfl (.one (.d (.refl _))))
 |some r =>
  obtain⟨i,hi1,hi⟩:=nth_some hn
  have hil:=(List.getElem?_eq_some_iff.1 hi).1
  have him:(c.reps.map Replica.enc)[i]? = some r.enc:=by rw[List.getElem?_map,hi];rfl
  have hit:s.n.toNat=i:=by omega
  have hRI:=(h.r r (List.mem_of_getElem? hi)).1
  have c2:=ok_repGo r s.m hRI
  dsimp only
  rw[hit]
  generalize (goR r s.m).1=x at *
  generalize (goR r s.m).2=v at *
  have hse:s.enc=[dint s.kind,dint (i:Int),dint s.m,encDeeds s.deeds]:=by unfold Step.enc;rw[hi1]
  rw[hse]
  try refine wk ?_
  exact .two (.cell rfl rfl rfl rfl (.agg (.cons (.own rfl (by simp) (.refl _)) (.cons (.own rfl (by simp) (dle_eq (by simp[encReps,List.map_set];rfl))) (.cons (.own rfl (by simp) (.refl _)) .nil))))) (.tmp rfl (.one (.d (.refl _))))
theorem cdo_packet (c:Cluster) (s:Step) (h:KInv c) (k3:s.kind=3∨s.kind=4∨s.kind=5) :
  FnOk Tryz.prog 56 [.d (.agg c.enc),.d (.agg s.enc)] (.tup [.agg (packetC c s.kind s.n).1.enc,dint (packetC c s.kind s.n).2]):=by
 refine fnOk_of tbl_ok mixed_ok Tryz.func56 rfl (by kernel_rfl) rfl rfl fun w0 own0=>?_
 have hL:=h.l
 have hP:=h.p
 have hR:=h.k
 have hS:=h.sm
 have c1:=news_cown c h.sm
 have hst0:StopA 3:=⟨rfl⟩
 repeat(first|refine waS ?_|((with_reducible apply s5);(first|exact a_callnews c1 rfl rfl by_sub|exact by_oa|exact by_ca);exact by_g)|refine wb ?_)
 clear hst0
 refine Stop.cutk [sd 8 (dbool (decide (0≤s.n∧s.n < c.reps.length)))] [.s 3,.s 4,.s 5,.s 6,.s 7,.o 1,.o 2,.o 3,.o 4,.o 5,.o 6,.nx] ?_ ?_
 ·
  by_cases b0:0≤s.n
  ·
   try refine wk ?_
   refine q_cut ?_
   exact by_less
  ·
   try refine wk ?_
   refine q_cut ?_
   exact by_less
 have k1:s.kind≠1:=by omega
 have k2:s.kind≠2:=by omega
 unfold packetC
 cases hn:nth c.net s.n with
 |none =>
  have hn':=nth_none hn
  dsimp only
  rcases k3 with k3|k3|k3
  all_goals by_cases b1:0≤s.n
  all_goals
   have hst0:StopX 13:=⟨rfl⟩
   try refine wkS ?_
   clear hst0
   refine Stop.go (CW.regionS ?_)
   repeat(first|((with_reducible apply SW.s1);exact rfl)|((with_reducible apply SW.s5);exact by_oa;exact rfl))
   refine SW.inline (t:=6) Tryz.func101 rfl (by kernel_rfl) rfl rfl rfl (.cons rfl (.cons rfl (.cons rfl .nil))) rfl fun gh=>?_
   repeat(first|refine wa ?_|((with_reducible apply s5);(first|((with_reducible apply a_nilp);(iterate 3 exact rfl))|exact by_oa|exact by_ca);exact by_g)|refine wb ?_)
   refine q_inl rfl ?_
   repeat(first|((with_reducible apply SW.s1);exact rfl)|((with_reducible apply SW.s5);exact by_oa;exact rfl))
   refine SW.nil ?_
   try refine wk ?_
   exact .two (.cell rfl rfl rfl rfl (.agg (.cons (.own rfl (by simp) (.refl _)) (.cons (.own rfl (by simp) (.refl _)) (.cons (.own rfl (by simp) (.refl _)) .nil))))) (.tmp rfl (.one (.d (.refl _))))
 |some p =>
  obtain⟨i,hi1,hi⟩:=nth_some hn
  have hil:=(List.getElem?_eq_some_iff.1 hi).1
  have him:(c.net.map Packet.enc)[i]? = some p.enc:=by rw[List.getElem?_map,hi];rfl
  have hit:s.n.toNat=i:=by omega
  dsimp only
  rw[hit]
  by_cases k5:s.kind=5
  ·
   rw[if_pos k5]
   have hpd:=h.sm.d p (List.mem_of_getElem? hi)
   have c2:=ok_clone_byte (p.data.map byteD) (by simp;omega)
   by_cases b1:c.net.length < 16
   ·
    rw[if_pos b1]
    have hse:s.enc=[dint s.kind,dint (i:Int),dint s.m,encDeeds s.deeds]:=by unfold Step.enc;rw[hi1]
    rw[hse]
    have hst0:StopX 13:=⟨rfl⟩
    try refine wkS ?_
    clear hst0
    refine Stop.go (CW.regionS ?_)
    repeat(first|((with_reducible apply SW.s1);exact rfl)|((with_reducible apply SW.s5);exact by_oa;exact rfl))
    refine SW.inline (t:=6) Tryz.func101 rfl (by kernel_rfl) rfl rfl rfl (.cons rfl (.cons rfl (.cons rfl .nil))) rfl fun gh=>?_
    repeat(first|((with_reducible apply s5);((with_reducible apply a_bs [p.enc]);(iterate 9 exact rfl);(repeat(first|exact PartsE.nil|(apply PartsE.cons;exact rfl;exact rfl))));exact by_g)|refine wa1 ?_|((with_reducible apply s5);(first|((with_reducible apply a_nilp);(iterate 3 exact rfl))|((with_reducible apply a_buildA);(iterate 4 exact rfl);(repeat(first|exact PartsV.nil|(apply PartsV.cons;exact rfl;exact rfl;(first|exact⟨rfl,trivial⟩|(apply nw_own;exact rfl;(focus first|exact rfl|(simp;done)|(simp;omega)))))));exact rfl)|exact by_oa|exact by_ca);exact by_g)|refine wb ?_)
    refine q_inl rfl ?_
    repeat(first|((with_reducible apply SW.s1);exact rfl)|((with_reducible apply SW.s5);exact by_oa;exact rfl))
    refine SW.nil ?_
    try refine wk ?_
    exact .two (.cell rfl rfl rfl rfl (.agg (.cons (.own rfl (by simp) (.refl _)) (.cons (.own rfl (by simp) (.refl _)) (.cons (.own rfl (by simp) (dle_eq (by simp[encNet]))) .nil))))) (.tmp rfl (.one (.d (.refl _))))
   ·
    rw[if_neg b1]
    have hse:s.enc=[dint s.kind,dint (i:Int),dint s.m,encDeeds s.deeds]:=by unfold Step.enc;rw[hi1]
    rw[hse]
    have hst0:StopX 13:=⟨rfl⟩
    try refine wkS ?_
    clear hst0
    refine Stop.go (CW.regionS ?_)
    repeat(first|((with_reducible apply SW.s1);exact rfl)|((with_reducible apply SW.s5);exact by_oa;exact rfl))
    refine SW.inline (t:=6) Tryz.func101 rfl (by kernel_rfl) rfl rfl rfl (.cons rfl (.cons rfl (.cons rfl .nil))) rfl fun gh=>?_
    repeat(first|refine wa ?_|((with_reducible apply s5);(first|((with_reducible apply a_nilp);(iterate 3 exact rfl))|exact by_oa|exact by_ca);exact by_g)|refine wb ?_)
    refine q_inl rfl ?_
    repeat(first|((with_reducible apply SW.s1);exact rfl)|((with_reducible apply SW.s5);exact by_oa;exact rfl))
    refine SW.nil ?_
    try refine wk ?_
    exact .two (.cell rfl rfl rfl rfl (.agg (.cons (.own rfl (by simp) (.refl _)) (.cons (.own rfl (by simp) (.refl _)) (.cons (.own rfl (by simp) (.refl _)) .nil))))) (.tmp rfl (.one (.d (.refl _))))
  rw[if_neg k5]
  have hU:=upd_deleteK (c.net.map Packet.enc) i (by simpa using hil) (by simp;omega)
  have hrows:(c.net.map Packet.enc).take i++(c.net.map Packet.enc).drop (i+1)=(c.net.eraseIdx i).map Packet.enc:=by
   rw[List.eraseIdx_eq_take_drop_succ,List.map_append,List.map_take,List.map_drop]
  rw[hrows]at hU
  have hel:=List.length_eraseIdx_of_lt hil
  obtain⟨⟨hd1,hd2⟩,j,e,he1,he2⟩:=h.d p (List.mem_of_getElem? hi)
  have hw:=(h.w j e he1).2
  by_cases k4:s.kind=4
  ·
   rw[if_pos k4]
   have hse:s.enc=[dint s.kind,dint (i:Int),dint s.m,encDeeds s.deeds]:=by unfold Step.enc;rw[hi1]
   rw[hse]
   have hst0:StopX 13:=⟨rfl⟩
   try refine wkS ?_
   clear hst0
   refine Stop.go (CW.regionS ?_)
   repeat(first|((with_reducible apply SW.s1);exact rfl)|((with_reducible apply SW.s5);exact by_oa;exact rfl))
   refine SW.inline (t:=6) Tryz.func101 rfl (by kernel_rfl) rfl rfl rfl (.cons rfl (.cons rfl (.cons rfl .nil))) rfl fun gh=>?_
   repeat(first|refine wa ?_|((with_reducible apply s5);(first|((with_reducible apply a_nilp);(iterate 3 exact rfl))|(focus ((with_reducible apply a_upd);exact hU;(iterate 3 exact rfl);(focus first|exact rfl|(simp;done)|(simp;omega));exact rfl;exact by_sub))|exact by_oa|exact by_ca);exact by_g)|refine wb ?_)
   refine q_inl rfl ?_
   repeat(first|((with_reducible apply SW.s1);exact rfl)|((with_reducible apply SW.s5);exact by_oa;exact rfl))
   refine SW.nil ?_
   try refine wk ?_
   exact .two (.cell rfl rfl rfl rfl (.agg (.cons (.own rfl (by simp) (.refl _)) (.cons (.own rfl (by simp) (.refl _)) (.cons (.own rfl (by simp) (.refl _)) .nil))))) (.tmp rfl (.one (.d (.refl _))))
  rw[if_neg k4]
  obtain⟨P,hP0⟩:=Int.eq_ofNat_of_zero_le hd1
  obtain⟨r,hr⟩:∃ r,c.reps[P]? = some r:=⟨c.reps[P]'(by omega),List.getElem?_eq_getElem (by omega)⟩
  have hpe:p.enc=[dint (P:Int),encBytes p.data]:=by unfold Packet.enc;rw[hP0]
  rw[hpe]at him
  have hrm:(c.reps.map Replica.enc)[P]? = some r.enc:=by rw[List.getElem?_map,hr];rfl
  have hnr:nth c.reps p.dst=some r:=by rw[hP0,nth_nat];exact hr
  have c2:=ok_lparse p.data (by rw[he2];have:=bytes_len hw;omega)
  rw[he2,parse_bytes hw,← he2]at c2
  dsimp only[resB]at c2
  have c3:=ok_come r e (h.r r (List.mem_of_getElem? hr)).1 hw
  have hcome:comeC { c with net:=c.net.eraseIdx i } p={ c with net:=c.net.eraseIdx i,reps:=c.reps.set P (comeE r e).1 }:=by
   unfold comeC
   dsimp only
   rw[hnr]
   dsimp only
   rw[he2,parse_bytes hw,hP0,Int.toNat_natCast]
  rw[hcome]
  generalize (comeE r e).1=x at *
  generalize (comeE r e).2=v at *
  have hse:s.enc=[dint s.kind,dint (i:Int),dint s.m,encDeeds s.deeds]:=by unfold Step.enc;rw[hi1]
  rw[hse]
  have hst0:StopX 13:=⟨rfl⟩
  try refine wkS ?_
  clear hst0
  refine Stop.go (CW.regionS ?_)
  repeat(first|((with_reducible apply SW.s1);exact rfl)|((with_reducible apply SW.s5);exact by_oa;exact rfl))
  refine SW.inline (t:=6) Tryz.func101 rfl (by kernel_rfl) rfl rfl rfl (.cons rfl (.cons rfl (.cons rfl .nil))) rfl fun gh=>?_
  repeat(first|refine wa ?_|((with_reducible apply s5);(first|((with_reducible apply a_nilp);(iterate 3 exact rfl))|(focus ((with_reducible apply a_upd);exact hU;(iterate 3 exact rfl);(focus first|exact rfl|(simp;done)|(simp;omega));exact rfl;exact by_sub))|exact a_call c2 rfl by_sub|exact by_oa|exact by_ca);exact by_g)|refine wb ?_)
  refine q_inl rfl ?_
  repeat(first|((with_reducible apply SW.s1);exact rfl)|((with_reducible apply SW.s5);exact by_oa;exact rfl))
  refine SW.nil ?_
  try refine wk ?_
  exact .two (.cell rfl rfl rfl rfl (.agg (.cons (.own rfl (by simp) (.refl _)) (.cons (.own rfl (by simp) (dle_eq (by simp[encReps,List.map_set];rfl))) (.cons (.own rfl (by simp) (.refl _)) .nil))))) (.tmp rfl (.one (.d (.refl _))))
theorem ok_cdo (c:Cluster) (s:Step) (h:KInv c) (hd:∀ d∈s.deeds,d.Sm) (hl:s.deeds.length≤100000000):FnOk Tryz.prog 56 [.d (.agg c.enc),.d (.agg s.enc)] (.tup [.agg (doC c s).1.enc,dint (doC c s).2]):=by
 unfold doC
 by_cases k1:s.kind=1
 ·
  rw[if_pos k1];exact cdo_batch c s h hd hl k1
 rw[if_neg k1]
 by_cases k2:s.kind=2
 ·
  rw[if_pos k2];exact cdo_send c s h k2
 rw[if_neg k2]
 by_cases k3:s.kind=3∨s.kind=4∨s.kind=5
 ·
  rw[if_pos k3];exact cdo_packet c s h k3
 rw[if_neg k3]
 by_cases k6:s.kind=6
 ·
  rw[if_pos k6];exact cdo_run c s h k6
 rw[if_neg k6]
 by_cases k7:s.kind=7
 ·
  rw[if_pos k7];exact cdo_clr c s h k7
 rw[if_neg k7]
 exact cdo_none c s h k1 k2 (by omega) (by omega) (by omega) k6 k7
set_option maxHeartbeats 8000000
theorem noC_sm:noC.Sm:=⟨by simp[noC],by simp[noC],by simp[noC],by simp[noC],by simp[noC],by simp[noC]⟩
theorem ok_ClusterTells (n:Int) (l:List Step) (s:Step) (hl:l.length≤10000000) (hd:∀ s∈l,s.Sm) (hs:s.Sm) :
  FnOk Tryz.prog 9 [.d (dint n),.d (encSteps l),.d (.agg s.enc)] (.one (dbool true)):=by
 refine fnOk_of tbl_ok mixed_ok Tryz.func9 rfl (by kernel_rfl) rfl rfl fun w0 own0=>?_
 have c1:=ok_cnew n
 have c2:=ok_rcnew n
 by_cases hn:n < 1∨3 < n
 ·
  have hm:madeC n=(noC,3):=by unfold madeC;rw[if_pos hn]
  rw[hm]at c1 c2
  have c3:=ok_sameCl noC noC_sm
  dsimp only at c1 c2
  generalize noC=z at *
  try refine wk ?_
  exact .one (.tmp rfl (.one (.d (.refl _))))
 have hm:madeC n=(newC n,0):=by unfold madeC;rw[if_neg hn]
 rw[hm]at c1 c2
 have hK:=newC_inv (n:=n) (by omega)
 have c3:=ok_sameCl _ hK.sm
 have c4:=ok_rplay n l (by omega) (by omega) hl hd
 have hC:=hK.play (l:=l.take 120)
 dsimp only at c1 c2
 generalize playC (newC n) (l.take 120)=c at *
 generalize errsC (newC n) (l.take 120)=es at *
 generalize newC n=z at *
 have c5:=ok_cdo c s hC hs.d (by have:=hs.l;omega)
 have c6:=ok_rdo c s hC hs.d (by have:=hs.l;omega)
 have c7:=ok_sameCl _ (hC.step s).sm
 have c8:=ok_cown c hC.sm
 have c9:=ok_sameCl c hC.sm
 generalize (doC c s).1=x at *
 generalize (doC c s).2=v at *
 repeat(first|refine wa ?_|((with_reducible apply s5);(first|exact a_call c3 rfl by_sub|exact a_call c7 rfl by_sub|exact a_call c9 rfl by_sub|exact by_oa|exact by_ca);exact by_g)|refine wb ?_)
 exact .one (.tmp rfl (.one (.d (dle_bool (by simp)))))
end Go.Proofs.YtfpkamiobdkcpaaGreatDoor
