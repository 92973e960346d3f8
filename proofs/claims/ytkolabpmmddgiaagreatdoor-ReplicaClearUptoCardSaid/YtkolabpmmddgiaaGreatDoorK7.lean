/-
  Part 7 of what the claim leans on: AxInl J17 J18 J20 L21 L5 Do2 L22.
-/
import Derived.Test.YtkolabpmmddgiaaGreatDoorK6
set_option linter.all false

namespace Go.AX
open Go.RowKit
def isS:Key→Bool
 |.s _=>true
 |_=>false
def slotsOf:St→St
 | []=>[]
 |(k,v)::r=>match isS k with
  |true=>(k,v)::slotsOf r
  |false=>slotsOf r
def objsOf:St→St
 | []=>[]
 |(k,v)::r=>match isS k with
  |true=>objsOf r
  |false=>(k,v)::objsOf r
theorem get_slots {i:Nat}:∀ {σ:St},get (slotsOf σ) (.s i)=get σ (.s i)
 | []=>rfl
 |(k,v)::r=>by
  by_cases h:k = .s i
  ·
   subst h
   show get ((Key.s i,v)::slotsOf r) _=_
   rw[get_cons_same,get_cons_same]
  ·
   rw[get_cons_ne h]
   cases k with
   |s j=>exact(get_cons_ne h).trans (get_slots (σ:=r))
   |o j=>exact get_slots (σ:=r)
   |nx=>exact get_slots (σ:=r)
theorem get_slots_ne {k:Key}(hk:isS k=false):∀ {σ:St},get (slotsOf σ) k = .none
 | []=>rfl
 |(q,v)::r=>by
  cases q with
  |s j=>exact(get_cons_ne (fun e=>by rw[← e]at hk;cases hk)).trans (get_slots_ne hk (σ:=r))
  |o j=>exact get_slots_ne hk (σ:=r)
  |nx=>exact get_slots_ne hk (σ:=r)
theorem get_objs {k:Key}(hk:isS k=false):∀ {σ:St},get (objsOf σ) k=get σ k
 | []=>rfl
 |(q,v)::r=>by
  by_cases h:q=k
  ·
   subst h
   cases q with
   |s j=>cases hk
   |o j=>show get ((Key.o j,v)::objsOf r) _=_;rw[get_cons_same,get_cons_same]
   |nx=>show get ((Key.nx,v)::objsOf r) _=_;rw[get_cons_same,get_cons_same]
  ·
   rw[get_cons_ne h]
   cases q with
   |s j=>exact get_objs hk (σ:=r)
   |o j=>exact(get_cons_ne h).trans (get_objs hk (σ:=r))
   |nx=>exact(get_cons_ne h).trans (get_objs hk (σ:=r))
theorem get_objs_s {i:Nat}:∀ {σ:St},get (objsOf σ) (.s i) = .none
 | []=>rfl
 |(q,v)::r=>by
  cases q with
  |s j=>exact get_objs_s (σ:=r)
  |o j=>exact(get_cons_ne (by simp)).trans (get_objs_s (σ:=r))
  |nx=>exact(get_cons_ne (by simp)).trans (get_objs_s (σ:=r))
theorem get_app_none {k:Key}{τ:St}:∀ {σ:St},get σ k = .none→(∀ v,(k,v)∈σ→v ≠ .none)→get (σ++τ) k=get τ k
 | [],_,_=>rfl
 |(q,v)::r,h,hn=>by
  by_cases hq:q=k
  ·
   subst hq
   rw[get_cons_same]at h
   exact absurd h (hn v (List.mem_cons_self ..))
  ·
   rw[get_cons_ne hq]at h
   rw[List.cons_append,get_cons_ne hq]
   exact get_app_none h fun v hv=>hn v (List.mem_cons_of_mem _ hv)
theorem slots_only {k:Key}{v:Val}:∀ {σ:St},(k,v)∈slotsOf σ→isS k=true
 |(q,u)::r,h=>by
  cases q with
  |s j =>
   rcases List.mem_cons.1 h with h|h
   ·
    cases h;rfl
   ·
    exact slots_only h
  |o j=>exact slots_only (σ:=r) h
  |nx=>exact slots_only (σ:=r) h
theorem mem_of_get {k:Key}{av:AV}:∀ {σ:St},get σ k = .av av→(k,Val.av av)∈σ
 |(q,v)::r,h=>by
  by_cases hq:q=k
  ·
   subst hq
   rw[get_cons_same]at h
   subst h
   exact List.mem_cons_self ..
  ·
   rw[get_cons_ne hq]at h
   exact List.mem_cons_of_mem _ (mem_of_get h)
theorem get_back {σ τ:St}{k:Key}:get (slotsOf σ++objsOf τ) k=if isS k=true then get (slotsOf σ++objsOf τ) k else get τ k:=by
 by_cases h:isS k=true
 ·
  rw[if_pos h]
 ·
  rw[if_neg h]
  have hf:isS k=false:=by cases hk:isS k <;> simp_all
  rw[get_app_none (get_slots_ne hf) (fun v hv=>by rw[slots_only hv]at hf;cases hf),get_objs hf]
theorem get_back_o {σ τ:St}{id:Nat}:get (slotsOf σ++objsOf τ) (.o id)=get τ (.o id):=by rw[get_back];rfl
theorem get_back_nx {σ τ:St}:get (slotsOf σ++objsOf τ) .nx=get τ .nx:=by rw[get_back];rfl
theorem get_app_or {k:Key}{τ:St}:∀ {σ:St},get (σ++τ) k=get σ k∨get (σ++τ) k=get τ k
 | [] => .inr rfl
 |(q,u)::r=>by
  by_cases hq:q=k
  ·
   subst hq
   rw[List.cons_append,get_cons_same,get_cons_same];exact .inl rfl
  ·
   rw[List.cons_append,get_cons_ne hq,get_cons_ne hq]
   exact get_app_or
theorem get_back_s {σ τ:St}{i:Nat}{av:AV}(h:get (slotsOf σ++objsOf τ) (.s i) = .av av):get σ (.s i) = .av av:=by
 rcases get_app_or (σ:=slotsOf σ) (τ:=objsOf τ) (k := .s i) with h1|h1
 ·
  rw[h1,get_slots]at h;exact h
 ·
  rw[h1,get_objs_s]at h;cases h
def kept (a:Act) (σ:St):List Key→List (Value×AV)
 | []=>[]
 |.s i::r=>match get σ (.s i) with
  |.av av=>(a.tmps.getD i undef,av)::kept a σ r
  |_=>kept a σ r
 |_::r=>kept a σ r
theorem kept_ok {a:Act}{σ:St}{p:Value×AV}:∀ {l:List Key},p∈kept a σ l→∃ i,get σ (.s i) = .av p.2∧a.tmps.getD i undef=p.1
 |.s i::r,h=>by
  simp only[kept]at h
  split at h
  ·
   next av hav =>
   rcases List.mem_cons.1 h with rfl|h
   ·
    exact⟨i,hav,rfl⟩
   ·
    exact kept_ok h
  ·
   exact kept_ok h
 |.o i::r,h=>kept_ok (l:=r) h
 |.nx::r,h=>kept_ok (l:=r) h
theorem kept_of {a:Act}{σ:St}{i:Nat}{av:AV}(h:get σ (.s i) = .av av):∀ {l:List Key},.s i∈l→(a.tmps.getD i undef,av)∈kept a σ l
 |.s j::r,hm=>by
  by_cases hj:j=i
  ·
   subst hj
   simp only[kept,h]
   exact List.mem_cons_self ..
  ·
   have hr:Key.s i∈r:=by
    rcases List.mem_cons.1 hm with h1|h1
    ·
     cases h1;exact absurd rfl hj
    ·
     exact h1
   simp only[kept]
   split
   ·
    exact List.mem_cons_of_mem _ (kept_of h hr)
   ·
    exact kept_of h hr
 |.o j::r,hm=>by
  rcases List.mem_cons.1 hm with h1|h1
  ·
   cases h1
  ·
   exact kept_of (l:=r) h h1
 |.nx::r,hm=>by
  rcases List.mem_cons.1 hm with h1|h1
  ·
   cases h1
  ·
   exact kept_of (l:=r) h h1
def argAv:Nat→List AV→St
 |_,[]=>[]
 |i,x::xs=>(.s i,.av x)::argAv (i+1) xs
theorem argAv_get {xs:List AV}:∀ {i j:Nat}{av:AV},get (argAv i xs) (.s j) = .av av→i≤j∧xs[j - i]? = some av:=by
 induction xs with
 |nil=>intro i j av h;cases h
 |cons x xs ih =>
  intro i j av h
  by_cases hj:i=j
  ·
   subst hj
   rw[argAv,get_cons_same]at h
   cases h
   simp
  ·
   rw[argAv,get_cons_ne (by simpa using hj)]at h
   obtain⟨h1,h2⟩:=ih h
   refine⟨by omega,?_⟩
   rw[show j - i=(j - (i+1))+1 by omega]
   simpa using h2
theorem argAv_ne {xs:List AV}{k:Key}(hk:isS k=false):∀ {i:Nat},get (argAv i xs) k = .none:=by
 induction xs with
 |nil=>intro i;rfl
 |cons x xs ih=>intro i;rw[argAv,get_cons_ne (fun e=>by rw[← e]at hk;cases hk)];exact ih
theorem argAv_only {xs:List AV}{k:Key}{v:Val}:∀ {i:Nat},(k,v)∈argAv i xs→isS k=true:=by
 induction xs with
 |nil=>intro i h;cases h
 |cons x xs ih =>
  intro i h
  rcases List.mem_cons.1 h with h|h
  ·
   cases h;rfl
  ·
   exact ih h
theorem get_args {xs:List AV}{τ:St}{k:Key}(hk:isS k=false):get (argAv 0 xs++objsOf τ) k=get τ k:=by
 rw[get_app_none (argAv_ne hk) (fun v hv=>by rw[argAv_only hv]at hk;cases hk),get_objs hk]
inductive EvL (σ:St):List Operand→List AV→Prop
 |nil:EvL σ [] []
 |cons {x:Operand} {av:AV} {xs:List Operand} {avs:List AV} (hx:ev σ x=some av) (hr:EvL σ xs avs):EvL σ (x::xs) (av::avs)
variable {cx:Cx}{g:Nat→Value}{σ:St}{a:Act}{w:World}{nx:Nat}{c:Code}{Q:Exit→St→Prop}
variable {ty:TypeId}{pos:String}{af:Array Edge}{gd:Option (Nat×Bool)}{d:Nat}{ops:Array Oper}{rest:List Oper}
theorem EvL.at (hs:SimG cx σ a w g nx) {xs:List Operand}{avs:List AV}(h:EvL σ xs avs):avs.length=xs.length∧∀ (j:Nat) (av:AV),avs[j]? = some av→∃ x,xs[j]? = some x∧Rep cx g σ w (a.eval x) av∧av.bd nx:=by
 induction h with
 |nil=>exact⟨rfl,fun j av h=>by simp at h⟩
 |cons hx hr ih =>
  refine⟨by simp[ih.1],fun j av hj=>?_⟩
  cases j with
  |zero =>
   simp at hj
   subst hj
   exact⟨_,rfl,hs.ev (ev_out hx).1 (ev_out hx).2⟩
  |succ j =>
   obtain⟨x,h1,h2⟩:=ih.2 j av (by simpa using hj)
   exact⟨x,by simpa using h1,h2⟩
def inlQ (cx:Cx) (ops:Array Oper) (Q:Exit→St→Prop) (rest:List Oper) (σ:St) (d t:Nat):Exit→St→Prop
 |.normal,σ'=>∃ x,get σ' (.s t) = .av (.d x)∧SW cx ops Q rest ((.s d,.av (.d x))::(slotsOf σ++objsOf σ'))
 |.ret,σ'=>∃ x,get σ' (.s t) = .av (.d x)∧SW cx ops Q rest ((.s d,.av (.d x))::(slotsOf σ++objsOf σ'))
 |_,_=>False
theorem q_inl {t:Nat}{σ':St}{x:D}(h:get σ' (.s t) = .av (.d x)) (hr:SW cx ops Q rest ((.s d,.av (.d x))::(slotsOf σ++objsOf σ'))):inlQ cx ops Q rest σ d t .ret σ':=⟨x,h,hr⟩
theorem SW.inline {f : FuncId} {fn : Func} {xs : List Operand} {avs : List AV} {ats : Array TypeId} {t n : Nat} (hf : cx.P.funcs[f]? = some fn) (hb : fn.body = some c) (hname : (fn.name == "runtime.NumGoroutine") = false)
  (hr:fn.results = #[.tmp t]) (hd:Nat.blt d cx.n=true) (hn:Nat.ble xs.length fn.ntmps=true) (hev:EvL σ xs avs) (hnx:get σ .nx = .num n)
  (h:∀ gh,CW ⟨cx.P,cx.T,cx.hT,cx.mixed,fn.ntmps,cx.w0,cx.own0,n,gh⟩ c (inlQ cx ops Q rest σ d t) (argAv 0 avs++objsOf σ)) :
  SW cx ops Q (⟨some d,.call { callee := .value (.func f),args:=⟨xs⟩,argTypes:=ats },ty,pos,af,none⟩::rest) σ:=by
 rintro a w ⟨g,nx,hs⟩
 obtain rfl:nx=n:=by
  have:=hs.hnx
  rw[hnx]at this
  simpa using this.symm
 refine wpList_plain rfl fun K hK=>?_
 unfold Oper.wp
 rw[call_run (a:=a) (d:=d) (ty:=ty) (pos:=pos) (af:=af) (gd:=none) (w:=w) (xs:=xs) (ats:=ats) ⟨fn,hf,hname,by rw[hb];rfl⟩]
 obtain⟨hlen,hat⟩:=hev.at hs
 -- the callee's state,at the start
 have hobj:∀ id,get (argAv 0 avs++objsOf σ) (.o id)=get σ (.o id):=fun id=>get_args rfl
 have hlat:Later cx g g σ (argAv 0 avs++objsOf σ) w w nx:=by
  refine⟨Ext.refl _ _,Below.refl _ _,fun b hb=>?_,fun id o' _ ho=>⟨o',(hobj id).symm.trans ho,by cases o' <;> simp[ObLe]⟩⟩
  rcases hb with hb|⟨id,o,h1,h2⟩
  ·
   exact .inl (.inl hb)
  ·
   exact .inl (.inr ⟨id,o,(hobj id).symm.trans h1,h2⟩)
 have hstart:SimG ⟨cx.P,cx.T,cx.hT,cx.mixed,fn.ntmps,cx.w0,cx.own0,nx,kept a σ (σ.map (·.1))++cx.gh⟩ (argAv 0 avs++objsOf σ) { tmps:=(xs.map a.eval).toArray++Array.replicate (fn.ntmps - (xs.map a.eval).toArray.size) undef,defers:=[] } w g nx:=by
  refine⟨(get_args rfl).trans hs.hnx,by simp at hn ⊢;omega,rfl,hs.below,hs.own0,fun i av hi=>?_,fun id o ho=>?_,fun id id' o o' b h1 h2=>hs.sep id id' o o' b ((hobj _).symm.trans h1) ((hobj _).symm.trans h2),Nat.le_refl _,fun p hp=>?_⟩
  ·
   rcases get_app_or (σ:=argAv 0 avs) (τ:=objsOf σ) (k := .s i) with h1|h1
   ·
    rw[h1]at hi
    obtain⟨_,h2⟩:=argAv_get hi
    rw[Nat.sub_zero]at h2
    obtain⟨x,h3,h4,h5⟩:=hat i av h2
    have hlt:i < xs.length:=(List.getElem?_eq_some_iff.1 h3).1
    have hv:((xs.map a.eval).toArray++Array.replicate (fn.ntmps - (xs.map a.eval).toArray.size) undef).getD i undef=a.eval x:=by
     rw[Array.getD_eq_getD_getElem?,Array.getElem?_append_left (by simpa using hlt)]
     simp[h3]
    refine⟨?_,h5⟩
    show Rep cx g (argAv 0 avs++objsOf σ) w _ av
    rw[hv]
    exact h4.step hlat h5
   ·
    rw[h1,get_objs_s]at hi;cases hi
  ·
   obtain⟨h1,h2,h3⟩:=hs.objs id o ((hobj id).symm.trans ho)
   exact⟨h1,h2.step hlat rfl (fun _ _=>rfl) h3,h3⟩
  ·
   rcases List.mem_append.1 hp with hp|hp
   ·
    obtain⟨i,h1,h2⟩:=kept_ok hp
    obtain⟨h3,h4⟩:=hs.slots i _ h1
    rw[h2]at h3
    exact⟨h3.step hlat h4,h4⟩
   ·
    obtain⟨h1,h2⟩:=hs.gh.2 p hp
    exact⟨h1.step hlat (AV.bd_mono hs.gh.1 h2),AV.bd_mono hs.gh.1 h2⟩
 suffices hcall:Calls cx.P f (xs.map a.eval).toArray w fun e w'=>∃ v',e = .returned v'∧K (a.put (some d) v') w' by
  refine hcall.mono fun z w' he=>?_
  obtain⟨v,rfl,hk⟩:=he
  exact hk
 refine calls_of_wp hf hb (wp_mono (h _ _ w ⟨g,nx,hstart⟩) fun e a' w' he=>?_)
 obtain⟨σ',⟨g',nx',hg⟩,hq⟩:=he
 -- and behind it
 have fin:(∃ x,get σ' (.s t) = .av (.d x)∧SW cx ops Q rest ((.s d,.av (.d x))::(slotsOf σ++objsOf σ'))) →
   a'.defers=[]∧∃ v,(results fn a'.tmps).run cx.P w' = .ok v w'∧∃ v',Ending.returned v = .returned v'∧K (a.put (some d) v') w':=by
  rintro ⟨x,hx,hsw⟩
  refine⟨hg.defers,a'.tmps.getD t undef,by rw[results_one hr];simp[rvRun],_,rfl,hK _ _ ?_⟩
  refine hsw _ w' ⟨g',nx',?_⟩
  have hobj2:∀ id,get ((Key.s d,Val.av (.d x))::(slotsOf σ++objsOf σ')) (.o id)=get σ' (.o id):=fun id=>(get_cons_ne (by simp)).trans get_back_o
  have hl2:Later ⟨cx.P,cx.T,cx.hT,cx.mixed,fn.ntmps,cx.w0,cx.own0,nx,kept a σ (σ.map (·.1))++cx.gh⟩ g' g' σ' ((Key.s d,Val.av (.d x))::(slotsOf σ++objsOf σ')) w' w' nx':=by
   refine⟨Ext.refl _ _,Below.refl _ _,fun b hb=>?_,fun id o' _ ho=>⟨o',(hobj2 id).symm.trans ho,by cases o' <;> simp[ObLe]⟩⟩
   rcases hb with hb|⟨id,o,h1,h2⟩
   ·
    exact .inl (.inl hb)
   ·
    exact .inl (.inr ⟨id,o,(hobj2 id).symm.trans h1,h2⟩)
  refine⟨(get_cons_ne (by simp)).trans (get_back_nx.trans hg.hnx),by rw[← hs.size];simp[Act.put],hs.defers,hg.below,hg.own0,fun i av hi=>?_,fun id o ho=>?_,fun id id' o o' b h1 h2=>hg.sep id id' o o' b ((hobj2 _).symm.trans h1) ((hobj2 _).symm.trans h2),Nat.le_trans hs.gh.1 hg.gh.1,fun p hp=>?_⟩
  ·
   by_cases hid:d=i
   ·
    subst hid
    rw[get_cons_same]at hi
    cases hi
    obtain⟨h1,h2⟩:=hg.slots t _ hx
    rw[put_eq (by rw[hs.size];exact lt_of_blt hd)]
    exact⟨h1.step hl2 h2,h2⟩
   ·
    rw[get_cons_ne (by simpa using hid)]at hi
    have h1:=get_back_s hi
    obtain⟨h2,h3⟩:=hg.gh.2 _ (List.mem_append.2 (.inl (kept_of (a:=a) h1 (List.mem_map.2 ⟨_,mem_of_get h1,rfl⟩))))
    rw[put_ne fun e=>hid e.symm]
    exact⟨h2.step hl2 (AV.bd_mono hg.gh.1 h3),AV.bd_mono hg.gh.1 h3⟩
  ·
   obtain⟨h1,h2,h3⟩:=hg.objs id o ((hobj2 id).symm.trans ho)
   exact⟨h1,h2.step hl2 rfl (fun _ _=>rfl) h3,h3⟩
  ·
   obtain⟨h1,h2⟩:=hg.gh.2 p (List.mem_append.2 (.inr hp))
   obtain⟨_,h4⟩:=hs.gh.2 p hp
   exact⟨h1.step hl2 (AV.bd_mono hg.gh.1 h2),h4⟩
 cases e with
 |normal=>exact fin hq
 |ret=>exact fin hq
 |exit j=>exact hq.elim
 |goto j=>exact hq.elim
 |panic c=>exact hq.elim
 |outgrown=>exact hq.elim
end Go.AX
namespace Go.Proofs.YtkolabpmmddgiaaGreatDoor
open Go.AX Go.RF
set_option maxRecDepth 100000
set_option maxHeartbeats 16000000
theorem cdo_batch (c:Cluster) (s:Step) (h:KInv c) (hd:∀ d∈s.deeds,d.Sm) (hl:s.deeds.length≤100000000) (k1:s.kind=1) :
  FnOk Tryz.prog 25 [.d (.agg c.enc),.d (.agg s.enc)] (.tup [.agg (batchC c s.deeds).1.enc,dint (batchC c s.deeds).2]):=by
 refine fnOk_of tbl_ok mixed_ok Tryz.func25 rfl (by kernel_rfl) rfl rfl fun w0 own0=>?_
 have hL:=h.l
 have hP:=h.p
 have hR:=h.k
 have hS:=h.sm
 have c1:=news_cown c h.sm
 have hst0:StopA 3:=⟨rfl⟩
 repeat(first|refine waS ?_|((with_reducible apply s5);(first|exact a_callnews c1 rfl rfl by_sub|exact by_oa|exact by_ca);exact by_g)|refine wb ?_)
 clear hst0
 refine Stop.cutk [sd 8 (dbool (decide (0≤s.n∧s.n < c.reps.length)))] [.s 3,.s 4,.s 5,.s 6,.s 7,.o 1,.o 2,.o 3,.o 4,.o 5,.o 6,.nx] ?_ ?_
 ·
  by_cases b0:0≤s.n
  ·
   try refine wk ?_
   refine q_cut ?_
   exact by_less
  ·
   try refine wk ?_
   refine q_cut ?_
   exact by_less
 unfold batchC
 by_cases b1:12≤c.log.length
 ·
  rw[if_pos b1]
  have hst0:StopX 7:=⟨rfl⟩
  try refine wkS ?_
  clear hst0
  refine Stop.go (CW.regionS ?_)
  repeat(first|((with_reducible apply SW.s1);exact rfl)|((with_reducible apply SW.s5);exact by_oa;exact rfl))
  refine SW.inline (t:=4) Tryz.func61 rfl (by kernel_rfl) rfl rfl rfl (.cons rfl (.cons rfl .nil)) rfl fun gh=>?_
  repeat(first|refine wa ?_|((with_reducible apply s5);(first|((with_reducible apply a_nilp);(iterate 3 exact rfl))|exact by_oa|exact by_ca);exact by_g)|refine wb ?_)
  refine q_inl rfl ?_
  repeat(first|((with_reducible apply SW.s1);exact rfl)|((with_reducible apply SW.s5);exact by_oa;exact rfl))
  refine SW.nil ?_
  try refine wk ?_
  exact .two (.cell rfl rfl rfl rfl (.agg (.cons (.own rfl (by simp) (.refl _)) (.cons (.own rfl (by simp) (.refl _)) (.cons (.own rfl (by simp) (.refl _)) .nil))))) (.tmp rfl (.one (.d (.refl _))))
 rw[if_neg b1]
 have c2:FnOk Tryz.prog 13 [.d (.agg [dint ((c.log.map Entry.enc).length:Int),encDeeds s.deeds])] (.one (dint (wrongEntry ⟨c.log.length,s.deeds⟩))):=by
  rw[List.length_map]
  exact ok_lwrong ⟨c.log.length,s.deeds⟩ hd (by dsimp only;omega)
 by_cases b2:wrongEntry ⟨c.log.length,s.deeds⟩=0
 ·
  rw[if_pos b2]
  rw[b2]at c2
  have c3:FnOk Tryz.prog 33 [.d (.sl 2 [[dint ((c.log.map Entry.enc).length:Int),encDeeds s.deeds]])] (.one (.sl 2 [[dint ((c.log.map Entry.enc).length:Int),encDeeds s.deeds]])):=by
   rw[List.length_map]
   exact ok_logOwn [⟨c.log.length,s.deeds⟩] (by simp) (fun e he=>by rw[List.mem_singleton.1 he];exact⟨by dsimp only;omega,hd⟩)
  have hst0:StopX 7:=⟨rfl⟩
  try refine wkS ?_
  clear hst0
  refine Stop.go (CW.regionS ?_)
  repeat(first|((with_reducible apply SW.s1);exact rfl)|((with_reducible apply SW.s5);exact by_oa;exact rfl))
  refine SW.inline (t:=4) Tryz.func61 rfl (by kernel_rfl) rfl rfl rfl (.cons rfl (.cons rfl .nil)) rfl fun gh=>?_
  repeat(first|((with_reducible apply s5);((with_reducible apply a_bs [[dint ((c.log.map Entry.enc).length:Int),encDeeds s.deeds]]);(iterate 9 exact rfl);(repeat(first|exact PartsE.nil|(apply PartsE.cons;exact rfl;exact rfl))));exact by_g)|refine wa1 ?_|((with_reducible apply s5);(first|((with_reducible apply a_nilp);(iterate 3 exact rfl))|exact a_call c2 rfl by_sub|exact a_call c3 rfl by_sub|((with_reducible apply a_buildA);(iterate 4 exact rfl);(repeat(first|exact PartsV.nil|(apply PartsV.cons;exact rfl;exact rfl;(first|exact⟨rfl,trivial⟩|(apply nw_own;exact rfl;(focus first|exact rfl|(simp;done)|(simp;omega)))))));exact rfl)|exact by_oa|exact by_ca);exact by_g)|refine wb ?_)
  refine q_inl rfl ?_
  repeat(first|((with_reducible apply SW.s1);exact rfl)|((with_reducible apply SW.s5);exact by_oa;exact rfl))
  refine SW.nil ?_
  try refine wk ?_
  exact .two (.cell rfl rfl rfl rfl (.agg (.cons (.own rfl (by simp) (dle_eq (by simp[encEntries];rfl))) (.cons (.own rfl (by simp) (.refl _)) (.cons (.own rfl (by simp) (.refl _)) .nil))))) (.tmp rfl (.one (.d (.refl _))))
 ·
  rw[if_neg b2]
  generalize wrongEntry ⟨c.log.length,s.deeds⟩=W at *
  have hst0:StopX 7:=⟨rfl⟩
  try refine wkS ?_
  clear hst0
  refine Stop.go (CW.regionS ?_)
  repeat(first|((with_reducible apply SW.s1);exact rfl)|((with_reducible apply SW.s5);exact by_oa;exact rfl))
  refine SW.inline (t:=4) Tryz.func61 rfl (by kernel_rfl) rfl rfl rfl (.cons rfl (.cons rfl .nil)) rfl fun gh=>?_
  repeat(first|refine wa ?_|((with_reducible apply s5);(first|((with_reducible apply a_nilp);(iterate 3 exact rfl))|exact a_call c2 rfl by_sub|((with_reducible apply a_buildA);(iterate 4 exact rfl);(repeat(first|exact PartsV.nil|(apply PartsV.cons;exact rfl;exact rfl;(first|exact⟨rfl,trivial⟩|(apply nw_own;exact rfl;(focus first|exact rfl|(simp;done)|(simp;omega)))))));exact rfl)|exact by_oa|exact by_ca);exact by_g)|refine wb ?_)
  refine q_inl rfl ?_
  repeat(first|((with_reducible apply SW.s1);exact rfl)|((with_reducible apply SW.s5);exact by_oa;exact rfl))
  refine SW.nil ?_
  try refine wk ?_
  exact .two (.cell rfl rfl rfl rfl (.agg (.cons (.own rfl (by simp) (.refl _)) (.cons (.own rfl (by simp) (.refl _)) (.cons (.own rfl (by simp) (.refl _)) .nil))))) (.tmp rfl (.one (.d (.refl _))))
theorem cdo_send (c:Cluster) (s:Step) (h:KInv c) (k2:s.kind=2) :
  FnOk Tryz.prog 25 [.d (.agg c.enc),.d (.agg s.enc)] (.tup [.agg (sendC c s.n s.m).1.enc,dint (sendC c s.n s.m).2]):=by
 refine fnOk_of tbl_ok mixed_ok Tryz.func25 rfl (by kernel_rfl) rfl rfl fun w0 own0=>?_
 have hL:=h.l
 have hP:=h.p
 have hR:=h.k
 have hS:=h.sm
 have c1:=news_cown c h.sm
 have hst0:StopA 3:=⟨rfl⟩
 repeat(first|refine waS ?_|((with_reducible apply s5);(first|exact a_callnews c1 rfl rfl by_sub|exact by_oa|exact by_ca);exact by_g)|refine wb ?_)
 clear hst0
 refine Stop.cutk [sd 8 (dbool (decide (0≤s.n∧s.n < c.reps.length)))] [.s 3,.s 4,.s 5,.s 6,.s 7,.o 1,.o 2,.o 3,.o 4,.o 5,.o 6,.nx] ?_ ?_
 ·
  by_cases b0:0≤s.n
  ·
   try refine wk ?_
   refine q_cut ?_
   exact by_less
  ·
   try refine wk ?_
   refine q_cut ?_
   exact by_less
 unfold sendC
 cases hn:nth c.reps s.n with
 |none =>
  have hn':=nth_none hn
  dsimp only
  by_cases b1:0≤s.n
  all_goals
   have hst0:StopX 9:=⟨rfl⟩
   try refine wkS ?_
   clear hst0
   refine Stop.go (CW.regionS ?_)
   repeat(first|((with_reducible apply SW.s1);exact rfl)|((with_reducible apply SW.s5);exact by_oa;exact rfl))
   refine SW.inline (t:=6) Tryz.func62 rfl (by kernel_rfl) rfl rfl rfl (.cons rfl (.cons rfl (.cons rfl .nil))) rfl fun gh=>?_
   repeat(first|refine wa ?_|((with_reducible apply s5);(first|((with_reducible apply a_nilp);(iterate 3 exact rfl))|exact by_oa|exact by_ca);exact by_g)|refine wb ?_)
   refine q_inl rfl ?_
   repeat(first|((with_reducible apply SW.s1);exact rfl)|((with_reducible apply SW.s5);exact by_oa;exact rfl))
   refine SW.nil ?_
   try refine wk ?_
   exact .two (.cell rfl rfl rfl rfl (.agg (.cons (.own rfl (by simp) (.refl _)) (.cons (.own rfl (by simp) (.refl _)) (.cons (.own rfl (by simp) (.refl _)) .nil))))) (.tmp rfl (.one (.d (.refl _))))
 |some r =>
  obtain⟨i,hi1,hi⟩:=nth_some hn
  have hil:=(List.getElem?_eq_some_iff.1 hi).1
  dsimp only
  cases hm:nth c.log s.m with
  |none =>
   have hm':=nth_none hm
   dsimp only
   by_cases b1:0≤s.m
   all_goals
    have hst0:StopX 9:=⟨rfl⟩
    try refine wkS ?_
    clear hst0
    refine Stop.go (CW.regionS ?_)
    repeat(first|((with_reducible apply SW.s1);exact rfl)|((with_reducible apply SW.s5);exact by_oa;exact rfl))
    refine SW.inline (t:=6) Tryz.func62 rfl (by kernel_rfl) rfl rfl rfl (.cons rfl (.cons rfl (.cons rfl .nil))) rfl fun gh=>?_
    repeat(first|refine wa ?_|((with_reducible apply s5);(first|((with_reducible apply a_nilp);(iterate 3 exact rfl))|exact by_oa|exact by_ca);exact by_g)|refine wb ?_)
    refine q_inl rfl ?_
    repeat(first|((with_reducible apply SW.s1);exact rfl)|((with_reducible apply SW.s5);exact by_oa;exact rfl))
    refine SW.nil ?_
    try refine wk ?_
    exact .two (.cell rfl rfl rfl rfl (.agg (.cons (.own rfl (by simp) (.refl _)) (.cons (.own rfl (by simp) (.refl _)) (.cons (.own rfl (by simp) (.refl _)) .nil))))) (.tmp rfl (.one (.d (.refl _))))
  |some e =>
   obtain⟨j,hj1,hj⟩:=nth_some hm
   have hjl:=(List.getElem?_eq_some_iff.1 hj).1
   have hjm:(c.log.map Entry.enc)[j]? = some e.enc:=by rw[List.getElem?_map,hj];rfl
   dsimp only
   by_cases b1:c.net.length < 16
   ·
    rw[if_pos b1]
    have c2:=ok_lbytes e (h.w j e hj).2
    generalize bytesE e=B at *
    have hse:s.enc=[dint s.kind,dint s.n,dint (j:Int),encDeeds s.deeds]:=by unfold Step.enc;rw[hj1]
    rw[hse]
    have hst0:StopX 9:=⟨rfl⟩
    try refine wkS ?_
    clear hst0
    refine Stop.go (CW.regionS ?_)
    repeat(first|((with_reducible apply SW.s1);exact rfl)|((with_reducible apply SW.s5);exact by_oa;exact rfl))
    refine SW.inline (t:=6) Tryz.func62 rfl (by kernel_rfl) rfl rfl rfl (.cons rfl (.cons rfl (.cons rfl .nil))) rfl fun gh=>?_
    repeat(first|((with_reducible apply s5);((with_reducible apply a_bs [[dint s.n,encBytes B]]);(iterate 9 exact rfl);(repeat(first|exact PartsE.nil|(apply PartsE.cons;exact rfl;exact rfl))));exact by_g)|refine wa1 ?_|((with_reducible apply s5);(first|((with_reducible apply a_nilp);(iterate 3 exact rfl))|((with_reducible apply a_buildA);(iterate 4 exact rfl);(repeat(first|exact PartsV.nil|(apply PartsV.cons;exact rfl;exact rfl;(first|exact⟨rfl,trivial⟩|(apply nw_own;exact rfl;(focus first|exact rfl|(simp;done)|(simp;omega)))))));exact rfl)|exact by_oa|exact by_ca);exact by_g)|refine wb ?_)
    refine q_inl rfl ?_
    repeat(first|((with_reducible apply SW.s1);exact rfl)|((with_reducible apply SW.s5);exact by_oa;exact rfl))
    refine SW.nil ?_
    try refine wk ?_
    exact .two (.cell rfl rfl rfl rfl (.agg (.cons (.own rfl (by simp) (.refl _)) (.cons (.own rfl (by simp) (.refl _)) (.cons (.own rfl (by simp) (dle_eq (by simp[encNet];rfl))) .nil))))) (.tmp rfl (.one (.d (.refl _))))
   ·
    rw[if_neg b1]
    have hst0:StopX 9:=⟨rfl⟩
    try refine wkS ?_
    clear hst0
    refine Stop.go (CW.regionS ?_)
    repeat(first|((with_reducible apply SW.s1);exact rfl)|((with_reducible apply SW.s5);exact by_oa;exact rfl))
    refine SW.inline (t:=6) Tryz.func62 rfl (by kernel_rfl) rfl rfl rfl (.cons rfl (.cons rfl (.cons rfl .nil))) rfl fun gh=>?_
    repeat(first|refine wa ?_|((with_reducible apply s5);(first|((with_reducible apply a_nilp);(iterate 3 exact rfl))|exact by_oa|exact by_ca);exact by_g)|refine wb ?_)
    refine q_inl rfl ?_
    repeat(first|((with_reducible apply SW.s1);exact rfl)|((with_reducible apply SW.s5);exact by_oa;exact rfl))
    refine SW.nil ?_
    try refine wk ?_
    exact .two (.cell rfl rfl rfl rfl (.agg (.cons (.own rfl (by simp) (.refl _)) (.cons (.own rfl (by simp) (.refl _)) (.cons (.own rfl (by simp) (.refl _)) .nil))))) (.tmp rfl (.one (.d (.refl _))))
theorem cdo_clr (c:Cluster) (s:Step) (h:KInv c) (k7:s.kind=7) :
  FnOk Tryz.prog 25 [.d (.agg c.enc),.d (.agg s.enc)] (.tup [.agg (clrC c s.n).1.enc,dint (clrC c s.n).2]):=by
 refine fnOk_of tbl_ok mixed_ok Tryz.func25 rfl (by kernel_rfl) rfl rfl fun w0 own0=>?_
 have hL:=h.l
 have hP:=h.p
 have hR:=h.k
 have hS:=h.sm
 have c1:=news_cown c h.sm
 have hst0:StopA 3:=⟨rfl⟩
 repeat(first|refine waS ?_|((with_reducible apply s5);(first|exact a_callnews c1 rfl rfl by_sub|exact by_oa|exact by_ca);exact by_g)|refine wb ?_)
 clear hst0
 refine Stop.cutk [sd 8 (dbool (decide (0≤s.n∧s.n < c.reps.length)))] [.s 3,.s 4,.s 5,.s 6,.s 7,.o 1,.o 2,.o 3,.o 4,.o 5,.o 6,.nx] ?_ ?_
 ·
  by_cases b0:0≤s.n
  ·
   try refine wk ?_
   refine q_cut ?_
   exact by_less
  ·
   try refine wk ?_
   refine q_cut ?_
   exact by_less
 unfold clrC
 cases hn:nth c.reps s.n with
 |none =>
  have hn':=nth_none hn
  dsimp only
  try refine wk ?_
  exact .two (.cell rfl rfl rfl rfl (.agg (.cons (.own rfl (by simp) (.refl _)) (.cons (.own rfl (by simp) (.refl _)) (.cons (.own rfl (by simp) (.refl _)) .nil))))) (.tmp rfl (.one (.d (.refl _))))
 |some r =>
  obtain⟨i,hi1,hi⟩:=nth_some hn
  have hil:=(List.getElem?_eq_some_iff.1 hi).1
  have him:(c.reps.map Replica.enc)[i]? = some r.enc:=by rw[List.getElem?_map,hi];rfl
  have hit:s.n.toNat=i:=by omega
  have hRI:=(h.r r (List.mem_of_getElem? hi)).1
  have c2:=ok_repClear r hRI
  dsimp only
  rw[hit]
  generalize clearR r=x at *
  have hse:s.enc=[dint s.kind,dint (i:Int),dint s.m,encDeeds s.deeds]:=by unfold Step.enc;rw[hi1]
  rw[hse]
  try refine wk ?_
  exact .two (.cell rfl rfl rfl rfl (.agg (.cons (.own rfl (by simp) (.refl _)) (.cons (.own rfl (by simp) (dle_eq (by simp[encReps,List.map_set];rfl))) (.cons (.own rfl (by simp) (.refl _)) .nil))))) (.tmp rfl (.one (.d (.refl _))))
theorem cdo_none (c:Cluster) (s:Step) (h:KInv c) (k1:s.kind≠1) (k2:s.kind≠2) (k3:s.kind≠3) (k4:s.kind≠4) (k5:s.kind≠5) (k6:s.kind≠6) (k7:s.kind≠7) :
  FnOk Tryz.prog 25 [.d (.agg c.enc),.d (.agg s.enc)] (.tup [.agg c.enc,dint 1]):=by
 refine fnOk_of tbl_ok mixed_ok Tryz.func25 rfl (by kernel_rfl) rfl rfl fun w0 own0=>?_
 have hL:=h.l
 have hP:=h.p
 have hR:=h.k
 have hS:=h.sm
 have c1:=news_cown c h.sm
 have hst0:StopA 3:=⟨rfl⟩
 repeat(first|refine waS ?_|((with_reducible apply s5);(first|exact a_callnews c1 rfl rfl by_sub|exact by_oa|exact by_ca);exact by_g)|refine wb ?_)
 clear hst0
 refine Stop.cutk [sd 8 (dbool (decide (0≤s.n∧s.n < c.reps.length)))] [.s 3,.s 4,.s 5,.s 6,.s 7,.o 1,.o 2,.o 3,.o 4,.o 5,.o 6,.nx] ?_ ?_
 ·
  by_cases b0:0≤s.n
  ·
   try refine wk ?_
   refine q_cut ?_
   exact by_less
  ·
   try refine wk ?_
   refine q_cut ?_
   exact by_less
 try refine wk ?_
 exact .two (.cell rfl rfl rfl rfl (.agg (.cons (.own rfl (by simp) (.refl _)) (.cons (.own rfl (by simp) (.refl _)) (.cons (.own rfl (by simp) (.refl _)) .nil))))) (.tmp rfl (.one (.d (.refl _))))
theorem cdo_run (c:Cluster) (s:Step) (h:KInv c) (k6:s.kind=6) :
  FnOk Tryz.prog 25 [.d (.agg c.enc),.d (.agg s.enc)] (.tup [.agg (runC c s.n s.m).1.enc,dint (runC c s.n s.m).2]):=by
 refine fnOk_of tbl_ok mixed_ok Tryz.func25 rfl (by kernel_rfl) rfl rfl fun w0 own0=>?_
 have hL:=h.l
 have hP:=h.p
 have hR:=h.k
 have hS:=h.sm
 have c1:=news_cown c h.sm
 have hst0:StopA 3:=⟨rfl⟩
 repeat(first|refine waS ?_|((with_reducible apply s5);(first|exact a_callnews c1 rfl rfl by_sub|exact by_oa|exact by_ca);exact by_g)|refine wb ?_)
 clear hst0
 refine Stop.cutk [sd 8 (dbool (decide (0≤s.n∧s.n < c.reps.length)))] [.s 3,.s 4,.s 5,.s 6,.s 7,.o 1,.o 2,.o 3,.o 4,.o 5,.o 6,.nx] ?_ ?_
 ·
  by_cases b0:0≤s.n
  ·
   try refine wk ?_
   refine q_cut ?_
   exact by_less
  ·
   try refine wk ?_
   refine q_cut ?_
   exact by_less
 unfold runC
 cases hn:nth c.reps s.n with
 |none =>
  have hn':=nth_none hn
  dsimp only
  try refine wk ?_
  exact .two (.cell rfl rfl rfl rfl (.agg (.cons (.own rfl (by simp) (.refl _)) (.cons (.own rfl (by simp) (.refl _)) (.cons (.own rfl (by simp) (.refl _)) .nil))))) (.tmp rfl (.one (.d (.refl _))))
 |some r =>
  obtain⟨i,hi1,hi⟩:=nth_some hn
  have hil:=(List.getElem?_eq_some_iff.1 hi).1
  have him:(c.reps.map Replica.enc)[i]? = some r.enc:=by rw[List.getElem?_map,hi];rfl
  have hit:s.n.toNat=i:=by omega
  have hRI:=(h.r r (List.mem_of_getElem? hi)).1
  have c2:=ok_repGo r s.m hRI
  dsimp only
  rw[hit]
  generalize (goR r s.m).1=x at *
  generalize (goR r s.m).2=v at *
  have hse:s.enc=[dint s.kind,dint (i:Int),dint s.m,encDeeds s.deeds]:=by unfold Step.enc;rw[hi1]
  rw[hse]
  try refine wk ?_
  exact .two (.cell rfl rfl rfl rfl (.agg (.cons (.own rfl (by simp) (.refl _)) (.cons (.own rfl (by simp) (dle_eq (by simp[encReps,List.map_set];rfl))) (.cons (.own rfl (by simp) (.refl _)) .nil))))) (.tmp rfl (.one (.d (.refl _))))
theorem cdo_packet (c:Cluster) (s:Step) (h:KInv c) (k3:s.kind=3∨s.kind=4∨s.kind=5) :
  FnOk Tryz.prog 25 [.d (.agg c.enc),.d (.agg s.enc)] (.tup [.agg (packetC c s.kind s.n).1.enc,dint (packetC c s.kind s.n).2]):=by
 refine fnOk_of tbl_ok mixed_ok Tryz.func25 rfl (by kernel_rfl) rfl rfl fun w0 own0=>?_
 have hL:=h.l
 have hP:=h.p
 have hR:=h.k
 have hS:=h.sm
 have c1:=news_cown c h.sm
 have hst0:StopA 3:=⟨rfl⟩
 repeat(first|refine waS ?_|((with_reducible apply s5);(first|exact a_callnews c1 rfl rfl by_sub|exact by_oa|exact by_ca);exact by_g)|refine wb ?_)
 clear hst0
 refine Stop.cutk [sd 8 (dbool (decide (0≤s.n∧s.n < c.reps.length)))] [.s 3,.s 4,.s 5,.s 6,.s 7,.o 1,.o 2,.o 3,.o 4,.o 5,.o 6,.nx] ?_ ?_
 ·
  by_cases b0:0≤s.n
  ·
   try refine wk ?_
   refine q_cut ?_
   exact by_less
  ·
   try refine wk ?_
   refine q_cut ?_
   exact by_less
 have k1:s.kind≠1:=by omega
 have k2:s.kind≠2:=by omega
 unfold packetC
 cases hn:nth c.net s.n with
 |none =>
  have hn':=nth_none hn
  dsimp only
  rcases k3 with k3|k3|k3
  all_goals by_cases b1:0≤s.n
  all_goals
   have hst0:StopX 13:=⟨rfl⟩
   try refine wkS ?_
   clear hst0
   refine Stop.go (CW.regionS ?_)
   repeat(first|((with_reducible apply SW.s1);exact rfl)|((with_reducible apply SW.s5);exact by_oa;exact rfl))
   refine SW.inline (t:=6) Tryz.func63 rfl (by kernel_rfl) rfl rfl rfl (.cons rfl (.cons rfl (.cons rfl .nil))) rfl fun gh=>?_
   repeat(first|refine wa ?_|((with_reducible apply s5);(first|((with_reducible apply a_nilp);(iterate 3 exact rfl))|exact by_oa|exact by_ca);exact by_g)|refine wb ?_)
   refine q_inl rfl ?_
   repeat(first|((with_reducible apply SW.s1);exact rfl)|((with_reducible apply SW.s5);exact by_oa;exact rfl))
   refine SW.nil ?_
   try refine wk ?_
   exact .two (.cell rfl rfl rfl rfl (.agg (.cons (.own rfl (by simp) (.refl _)) (.cons (.own rfl (by simp) (.refl _)) (.cons (.own rfl (by simp) (.refl _)) .nil))))) (.tmp rfl (.one (.d (.refl _))))
 |some p =>
  obtain⟨i,hi1,hi⟩:=nth_some hn
  have hil:=(List.getElem?_eq_some_iff.1 hi).1
  have him:(c.net.map Packet.enc)[i]? = some p.enc:=by rw[List.getElem?_map,hi];rfl
  have hit:s.n.toNat=i:=by omega
  dsimp only
  rw[hit]
  by_cases k5:s.kind=5
  ·
   rw[if_pos k5]
   have hpd:=h.sm.d p (List.mem_of_getElem? hi)
   have c2:=ok_clone_byte (p.data.map byteD) (by simp;omega)
   by_cases b1:c.net.length < 16
   ·
    rw[if_pos b1]
    have hse:s.enc=[dint s.kind,dint (i:Int),dint s.m,encDeeds s.deeds]:=by unfold Step.enc;rw[hi1]
    rw[hse]
    have hst0:StopX 13:=⟨rfl⟩
    try refine wkS ?_
    clear hst0
    refine Stop.go (CW.regionS ?_)
    repeat(first|((with_reducible apply SW.s1);exact rfl)|((with_reducible apply SW.s5);exact by_oa;exact rfl))
    refine SW.inline (t:=6) Tryz.func63 rfl (by kernel_rfl) rfl rfl rfl (.cons rfl (.cons rfl (.cons rfl .nil))) rfl fun gh=>?_
    repeat(first|((with_reducible apply s5);((with_reducible apply a_bs [p.enc]);(iterate 9 exact rfl);(repeat(first|exact PartsE.nil|(apply PartsE.cons;exact rfl;exact rfl))));exact by_g)|refine wa1 ?_|((with_reducible apply s5);(first|((with_reducible apply a_nilp);(iterate 3 exact rfl))|((with_reducible apply a_buildA);(iterate 4 exact rfl);(repeat(first|exact PartsV.nil|(apply PartsV.cons;exact rfl;exact rfl;(first|exact⟨rfl,trivial⟩|(apply nw_own;exact rfl;(focus first|exact rfl|(simp;done)|(simp;omega)))))));exact rfl)|exact by_oa|exact by_ca);exact by_g)|refine wb ?_)
    refine q_inl rfl ?_
    repeat(first|((with_reducible apply SW.s1);exact rfl)|((with_reducible apply SW.s5);exact by_oa;exact rfl))
    refine SW.nil ?_
    try refine wk ?_
    exact .two (.cell rfl rfl rfl rfl (.agg (.cons (.own rfl (by simp) (.refl _)) (.cons (.own rfl (by simp) (.refl _)) (.cons (.own rfl (by simp) (dle_eq (by simp[encNet]))) .nil))))) (.tmp rfl (.one (.d (.refl _))))
   ·
    rw[if_neg b1]
    have hse:s.enc=[dint s.kind,dint (i:Int),dint s.m,encDeeds s.deeds]:=by unfold Step.enc;rw[hi1]
    rw[hse]
    have hst0:StopX 13:=⟨rfl⟩
    try refine wkS ?_
    clear hst0
    refine Stop.go (CW.regionS ?_)
    repeat(first|((with_reducible apply SW.s1);exact rfl)|((with_reducible apply SW.s5);exact by_oa;exact rfl))
    refine SW.inline (t:=6) Tryz.func63 rfl (by kernel_rfl) rfl rfl rfl (.cons rfl (.cons rfl (.cons rfl .nil))) rfl fun gh=>?_
    repeat(first|refine wa ?_|((with_reducible apply s5);(first|((with_reducible apply a_nilp);(iterate 3 exact rfl))|exact by_oa|exact by_ca);exact by_g)|refine wb ?_)
    refine q_inl rfl ?_
    repeat(first|((with_reducible apply SW.s1);exact rfl)|((with_reducible apply SW.s5);exact by_oa;exact rfl))
    refine SW.nil ?_
    try refine wk ?_
    exact .two (.cell rfl rfl rfl rfl (.agg (.cons (.own rfl (by simp) (.refl _)) (.cons (.own rfl (by simp) (.refl _)) (.cons (.own rfl (by simp) (.refl _)) .nil))))) (.tmp rfl (.one (.d (.refl _))))
  rw[if_neg k5]
  have hU:=upd_deleteK (c.net.map Packet.enc) i (by simpa using hil) (by simp;omega)
  have hrows:(c.net.map Packet.enc).take i++(c.net.map Packet.enc).drop (i+1)=(c.net.eraseIdx i).map Packet.enc:=by
   rw[List.eraseIdx_eq_take_drop_succ,List.map_append,List.map_take,List.map_drop]
  rw[hrows]at hU
  have hel:=List.length_eraseIdx_of_lt hil
  obtain⟨⟨hd1,hd2⟩,j,e,he1,he2⟩:=h.d p (List.mem_of_getElem? hi)
  have hw:=(h.w j e he1).2
  by_cases k4:s.kind=4
  ·
   rw[if_pos k4]
   have hse:s.enc=[dint s.kind,dint (i:Int),dint s.m,encDeeds s.deeds]:=by unfold Step.enc;rw[hi1]
   rw[hse]
   have hst0:StopX 13:=⟨rfl⟩
   try refine wkS ?_
   clear hst0
   refine Stop.go (CW.regionS ?_)
   repeat(first|((with_reducible apply SW.s1);exact rfl)|((with_reducible apply SW.s5);exact by_oa;exact rfl))
   refine SW.inline (t:=6) Tryz.func63 rfl (by kernel_rfl) rfl rfl rfl (.cons rfl (.cons rfl (.cons rfl .nil))) rfl fun gh=>?_
   repeat(first|refine wa ?_|((with_reducible apply s5);(first|((with_reducible apply a_nilp);(iterate 3 exact rfl))|(focus ((with_reducible apply a_upd);exact hU;(iterate 3 exact rfl);(focus first|exact rfl|(simp;done)|(simp;omega));exact rfl;exact by_sub))|exact by_oa|exact by_ca);exact by_g)|refine wb ?_)
   refine q_inl rfl ?_
   repeat(first|((with_reducible apply SW.s1);exact rfl)|((with_reducible apply SW.s5);exact by_oa;exact rfl))
   refine SW.nil ?_
   try refine wk ?_
   exact .two (.cell rfl rfl rfl rfl (.agg (.cons (.own rfl (by simp) (.refl _)) (.cons (.own rfl (by simp) (.refl _)) (.cons (.own rfl (by simp) (.refl _)) .nil))))) (.tmp rfl (.one (.d (.refl _))))
  rw[if_neg k4]
  obtain⟨P,hP0⟩:=Int.eq_ofNat_of_zero_le hd1
  obtain⟨r,hr⟩:∃ r,c.reps[P]? = some r:=⟨c.reps[P]'(by omega),List.getElem?_eq_getElem (by omega)⟩
  have hpe:p.enc=[dint (P:Int),encBytes p.data]:=by unfold Packet.enc;rw[hP0]
  rw[hpe]at him
  have hrm:(c.reps.map Replica.enc)[P]? = some r.enc:=by rw[List.getElem?_map,hr];rfl
  have hnr:nth c.reps p.dst=some r:=by rw[hP0,nth_nat];exact hr
  have c2:=ok_lparse p.data (by rw[he2];have:=bytes_len hw;omega)
  rw[he2,parse_bytes hw,← he2]at c2
  dsimp only[resB]at c2
  have c3:=ok_come r e (h.r r (List.mem_of_getElem? hr)).1 hw
  have hcome:comeC { c with net:=c.net.eraseIdx i } p={ c with net:=c.net.eraseIdx i,reps:=c.reps.set P (comeE r e).1 }:=by
   unfold comeC
   dsimp only
   rw[hnr]
   dsimp only
   rw[he2,parse_bytes hw,hP0,Int.toNat_natCast]
  rw[hcome]
  generalize (comeE r e).1=x at *
  generalize (comeE r e).2=v at *
  have hse:s.enc=[dint s.kind,dint (i:Int),dint s.m,encDeeds s.deeds]:=by unfold Step.enc;rw[hi1]
  rw[hse]
  have hst0:StopX 13:=⟨rfl⟩
  try refine wkS ?_
  clear hst0
  refine Stop.go (CW.regionS ?_)
  repeat(first|((with_reducible apply SW.s1);exact rfl)|((with_reducible apply SW.s5);exact by_oa;exact rfl))
  refine SW.inline (t:=6) Tryz.func63 rfl (by kernel_rfl) rfl rfl rfl (.cons rfl (.cons rfl (.cons rfl .nil))) rfl fun gh=>?_
  repeat(first|refine wa ?_|((with_reducible apply s5);(first|((with_reducible apply a_nilp);(iterate 3 exact rfl))|(focus ((with_reducible apply a_upd);exact hU;(iterate 3 exact rfl);(focus first|exact rfl|(simp;done)|(simp;omega));exact rfl;exact by_sub))|exact a_call c2 rfl by_sub|exact by_oa|exact by_ca);exact by_g)|refine wb ?_)
  refine q_inl rfl ?_
  repeat(first|((with_reducible apply SW.s1);exact rfl)|((with_reducible apply SW.s5);exact by_oa;exact rfl))
  refine SW.nil ?_
  try refine wk ?_
  exact .two (.cell rfl rfl rfl rfl (.agg (.cons (.own rfl (by simp) (.refl _)) (.cons (.own rfl (by simp) (dle_eq (by simp[encReps,List.map_set];rfl))) (.cons (.own rfl (by simp) (.refl _)) .nil))))) (.tmp rfl (.one (.d (.refl _))))
theorem ok_cdo (c:Cluster) (s:Step) (h:KInv c) (hd:∀ d∈s.deeds,d.Sm) (hl:s.deeds.length≤100000000):FnOk Tryz.prog 25 [.d (.agg c.enc),.d (.agg s.enc)] (.tup [.agg (doC c s).1.enc,dint (doC c s).2]):=by
 unfold doC
 by_cases k1:s.kind=1
 ·
  rw[if_pos k1];exact cdo_batch c s h hd hl k1
 rw[if_neg k1]
 by_cases k2:s.kind=2
 ·
  rw[if_pos k2];exact cdo_send c s h k2
 rw[if_neg k2]
 by_cases k3:s.kind=3∨s.kind=4∨s.kind=5
 ·
  rw[if_pos k3];exact cdo_packet c s h k3
 rw[if_neg k3]
 by_cases k6:s.kind=6
 ·
  rw[if_pos k6];exact cdo_run c s h k6
 rw[if_neg k6]
 by_cases k7:s.kind=7
 ·
  rw[if_pos k7];exact cdo_clr c s h k7
 rw[if_neg k7]
 exact cdo_none c s h k1 k2 (by omega) (by omega) (by omega) k6 k7
set_option maxHeartbeats 8000000
theorem ok_read11 (s:Str) (d:Deed) (h:parseD s=some d) (hm:smallS s=true):FnOk Tryz.prog 57 [.d (dstr s)] (.one (.agg d.enc)):=by
 refine fnOk_of tbl_ok mixed_ok Tryz.func57 rfl (by kernel_rfl) rfl rfl fun w0 own0=>?_
 have c1:=ok_parseS s d h hm
 try refine wk ?_
 exact .one (.cell rfl rfl rfl rfl (.aggd rfl (.refl _)))
def st1:Step:=⟨1,0,0,[dA]⟩
def st2:Step:=⟨2,1,0,[]⟩
def st3:Step:=⟨3,0,0,[]⟩
def k1C:Cluster:=(doC (newC 2) st1).1
def k2C:Cluster:=(doC k1C st2).1
def k3C:Cluster:=(doC k2C st3).1
theorem a11_a:(doC (newC 2) st1).2=0:=by decide +kernel
theorem a11_b:(doC k1C st2).2=0∧k2C.net.length=1:=by decide +kernel
theorem a11_c:(doC k2C st3).2=0∧k3C.net.length=0∧k3C.log.length=1∧k3C.reps.length=2:=by decide +kernel
theorem a11_d:∃ r,k3C.reps[1]? = some r∧r.next=1:=by
 have h:(k3C.reps[1]?.map Replica.next)=some 1:=by decide +kernel
 rw[Option.map_eq_some_iff]at h
 exact h
theorem a11_e:madeC 2=(newC 2,0)∧madeC 0=(noC,3):=⟨rfl,rfl⟩
theorem ok_alive11:FnOk Tryz.prog 23 [] (.one (dbool true)):=by
 refine fnOk_of tbl_ok mixed_ok Tryz.func23 rfl (by kernel_rfl) rfl rfl fun w0 own0=>?_
 have c1:=ok_cnew 2
 have c2:=ok_cnew 0
 rw[a11_e.1]at c1
 rw[a11_e.2]at c2
 have c3:=ok_read11 tA dA pA sA
 have hd:∀ d∈st1.deeds,d.Sm:=fun d hd=>by
  rw[List.mem_singleton.1 (show d∈[dA] from hd)]
  exact wrong_sm (by decide +kernel)
 have h0:KInv (newC 2):=newC_inv (by omega)
 have h1:KInv k1C:=h0.step st1
 have h2:KInv k2C:=h1.step st2
 have h3:KInv k3C:=h2.step st3
 have c4:=ok_cdo (newC 2) st1 h0 hd (by decide)
 have c5:=fnOk_le (ok_cdo k1C st2 h1 (by simp[st2]) (by simp[st2])) (.d (.refl _) (.d (DLes.agg (.cons (.refl _) (.cons (.refl _) (.cons (.refl _) (.cons (dle_nil 3) .nil))))) .nil))
 have c6:=fnOk_le (ok_cdo k2C st3 h2 (by simp[st3]) (by simp[st3])) (.d (.refl _) (.d (DLes.agg (.cons (.refl _) (.cons (.refl _) (.cons (.refl _) (.cons (dle_nil 3) .nil))))) .nil))
 have c7:=ok_cown k3C h3.sm
 rw[a11_a]at c4
 rw[a11_b.1]at c5
 rw[a11_c.1]at c6
 have f2:=a11_b.2
 obtain⟨_,f3,f4,f5⟩:=a11_c
 obtain⟨r,f6,f7⟩:=a11_d
 change FnOk _ _ [_,.d (.agg [dint 1,dint 0,dint 0,.sl 3 [dA.enc]])] (.tup [.agg k1C.enc,_]) at c4
 change FnOk _ _ [_,.d (.agg [dint 2,dint 1,dint 0,.v nilS])] (.tup [.agg k2C.enc,_]) at c5
 change FnOk _ _ [_,.d (.agg [dint 3,dint 0,dint 0,.v nilS])] (.tup [.agg k3C.enc,_]) at c6
 dsimp only at c1 c2
 clear h0 h1 h2 h3
 generalize k3C=z3 at *
 generalize k2C=z2 at *
 generalize k1C=z1 at *
 generalize newC 2=z0 at *
 generalize noC=zn at *
 have hix:idx (z3.reps.map Replica.enc) 1=some r.enc:=idx_map (k:=1) f6
 have f8:z3.net=[]:=List.eq_nil_of_length_eq_zero f3
 repeat(first|((with_reducible apply s5);((with_reducible apply a_bs [dA.enc]);(iterate 9 exact rfl);(repeat(first|exact PartsE.nil|(apply PartsE.cons;exact rfl;exact rfl))));exact by_g)|refine wa1 ?_|((with_reducible apply s5);(first|((with_reducible apply a_buildA);(iterate 4 exact rfl);(repeat(first|exact PartsV.nil|(apply PartsV.cons;exact rfl;exact rfl;(first|exact⟨rfl,trivial⟩|(apply nw_own;exact rfl;(focus first|exact rfl|(simp;done)|(simp;omega)))))));exact rfl)|exact a_call c1 rfl by_sub|exact a_call c2 rfl by_sub|exact a_call c4 rfl by_sub|exact a_call c5 rfl by_sub|exact a_call c6 rfl by_sub|((with_reducible apply a_ia);(iterate 5 exact rfl);exact hix)|exact by_oa|exact by_ca);exact by_g)|refine wb ?_)
 exact .one (.tmp rfl (.one (.d (dle_bool (by simp[f2,f8,f4,f7])))))
theorem ok_all (r:List Pair) (l:List Deed) (hl:r.length≤1048576) (hll:l.length≤1048576) (hr:rowsOk r) (hw:∀ d∈l,Deed.Ok d) :
  FnOk Tryz.prog 27 [.d (encRows r),.d (encDeeds l)] (.tup [encRows (allD r l).1,encEnds (allD r l).2]):=by
 refine fnOk_of tbl_ok mixed_ok Tryz.func27 rfl (by kernel_rfl) rfl rfl fun w0 own0=>?_
 have hst0:StopA 2:=⟨rfl⟩
 try refine wkS ?_
 clear hst0
 refine Stop.go (CW.stut (stut_promote (i:=6) 73 5) ⟨rfl,rfl,trivial⟩ ?_)
 try refine wk ?_
 refine CW.loopT (fun t:Nat×List Pair×List Done=>[sd 4 (.v nilS),sd 5 (.v nilS),sd 0 (encRows t.2.1),so 6 0 t.2.2.length,oa 0 73 5 (t.2.2.map Done.enc),sd 11 (encDeeds l),sd 12 (dint l.length),sd 13 (dint t.1),nxt 1])
  (fun t=>t.1≤l.length∧t.2.2.length≤t.1∧t.2.1.length≤r.length+12*t.1∧rowsOk t.2.1∧(allD t.2.1 (l.drop t.1)).1=(allD r l).1∧t.2.2++(allD t.2.1 (l.drop t.1)).2=(allD r l).2) (fun t=>l.length - t.1) (0,r,[]) ⟨by omega,by simp,by simp,hr,rfl,rfl⟩ ?_ ?_
 ·
  exact by_less
 ·
  rintro ⟨j,out,es⟩ ⟨hj,hes,hol,hor,hJ1,hJ2⟩
  dsimp only at hj hes hol hor hJ1 hJ2 ⊢
  rcases drop_case hj with ⟨h1,h2⟩|⟨c,h1,h2,h3⟩
  ·
   rw[h1]at hJ1 hJ2
   simp only[allD,List.append_nil]at hJ1 hJ2
   try refine wk ?_
   rw[← hJ1,← hJ2]
   exact .two (.tmp rfl (.one (.d (.refl _)))) (.tmp rfl (.one (.own rfl (by simp) (.refl _))))
  ·
   rw[h1]at hJ1 hJ2
   simp only[allD]at hJ1 hJ2
   have hwc:=hw c (List.mem_of_getElem? h2)
   have hwl:=hwc.c
   have c1:=ok_do out c (by omega) hor (by omega) hwc.i
   have hlen:=doD_len out c
   have hd2:=doD_ok hor hwc
   generalize doD out c=q at c1 hlen hd2 hJ1 hJ2
   obtain⟨q1,q2⟩:=q
   dsimp only at c1 hlen hd2 hJ1 hJ2
   try refine wk ?_
   refine q_loopT (j+1,q1,es++[q2]) ⟨by dsimp only;omega,by dsimp only;simp;omega,by dsimp only;omega,hd2,hJ1,by rw[← hJ2];simp⟩ (by dsimp only;omega) ?_
   exact by_less
theorem dOf_right {L:List Entry}(hw:∀ x∈L,wrongEntry x=0) (n:Nat):∀ d∈dOf L n,wrongDeed d=0:=fun d hd=>by
 unfold dOf at hd
 obtain⟨x,hx,hdx⟩:=List.mem_flatMap.1 hd
 exact(wrongEntry_out (hw x (List.mem_of_mem_take hx))).2.2.2 d hdx
theorem dOf_len {L:List Entry}(hw:∀ x∈L,wrongEntry x=0) (hl:L.length≤12) (n:Nat):(dOf L n).length≤72:=by
 have:∀ m:List Entry,(∀ x∈m,wrongEntry x=0)→(m.flatMap Entry.deeds).length≤6*m.length:=by
  intro m
  induction m with
  |nil=>simp
  |cons x m ih =>
   intro h
   have h1:=(wrongEntry_out (h x (List.mem_cons_self ..))).2.1
   have h2:=ih fun y hy=>h y (List.mem_cons_of_mem _ hy)
   rw[List.flatMap_cons,List.length_append,List.length_cons]
   omega
 have h1:=this (L.take n) fun x hx=>hw x (List.mem_of_mem_take hx)
 have h2:(L.take n).length≤12:=by rw[List.length_take];omega
 unfold dOf
 omega
theorem ok_ClusterLog (n:Int) (l:List Step) (s:Step) (hl:l.length≤10000000) (hd:∀ s∈l,s.Sm) (hs:s.Sm) :
  FnOk Tryz.prog 6 [.d (dint n),.d (encSteps l),.d (.agg s.enc)] (.one (dbool true)):=by
 refine fnOk_of tbl_ok mixed_ok Tryz.func6 rfl (by kernel_rfl) rfl rfl fun w0 own0=>?_
 have c0:=ok_alive11
 by_cases hn1:n < 1
 ·
  try refine wk ?_
  exact .one (.tmp rfl (.one (.d (.refl _))))
 by_cases hn3:3 < n
 ·
  try refine wk ?_
  exact .one (.tmp rfl (.one (.d (.refl _))))
 have hK:=newC_inv (n:=n) (by omega)
 have c4:=ok_rplay n l (by omega) (by omega) hl hd
 have hC:=hK.play (l:=l.take 120)
 generalize playC (newC n) (l.take 120)=c at *
 generalize errsC (newC n) (l.take 120)=es at *
 have c5:=ok_cdo c s hC hs.d (by have:=hs.l;omega)
 have hX:=hC.step s
 obtain⟨t,ht⟩:=doC_log c s
 generalize (doC c s).1=x at *
 generalize (doC c s).2=v at *
 have hXl:=hX.l
 have hXk:=hX.k
 have hCl:=hC.l
 try refine wk ?_
 refine CW.loopT (fun i:Nat=>[sp 7 1,ob 1 c.enc,sp 9 2,ob 2 x.enc,sd 40 (encReps x.reps),sd 41 (dint x.reps.length),sd 42 (dint i),nxt 3]) (fun i=>i≤x.reps.length) (fun i=>x.reps.length - i) 0 (by omega) ?_ ?_
 ·
  exact by_less
 ·
  rintro i hi
  rcases drop_case hi with ⟨h1,h2⟩|⟨r,h1,h2,h3⟩
  ·
   subst h2
   have hcut:cutI (x.log.map Entry.enc) none (some ((c.log.map Entry.enc).length:Int))=some (c.log.map Entry.enc):=by
    rw[cut_to (by rw[ht];simp),ht,List.map_append,List.length_map]
    simp
   have c6:=ok_sameEnts c.log c.log (by omega) fun e he=>⟨by have:=(entry_sm (hC.right e he)).1;omega,(entry_sm (hC.right e he)).2⟩
   rw[allB_refl sameEnt_refl]at c6
   have hlen:c.log.length≤x.log.length:=by rw[ht];simp
   repeat(first|refine wa ?_|((with_reducible apply s5);(first|((with_reducible apply a_to);(iterate 5 exact rfl);exact hcut)|exact by_oa|exact by_ca);exact by_g)|refine wb ?_)
   exact .one (.tmp rfl (.one (.d (dle_bool (by first|(simp;done)|(simp;omega))))))
  ·
   obtain⟨hRI,hRC⟩:=hX.r r (List.mem_of_getElem? h2)
   obtain⟨⟨k,g1,g2,g3⟩,_,_⟩:=hRC
   obtain⟨m,q1,q2,q3,q4,q5,q6⟩:=g3.out
   have hw:=dOf_right hX.right k
   have hdl:=dOf_len hX.right hXl k
   have c6:=ok_rdeeds x.log r.next (by omega) (by omega) hX.right
   rw[show r.next.toNat=k by omega]at c6
   have c7:=ok_all [] (dOf x.log k) (by simp) (by omega) (by simp[rowsOk]) (fun d hd=>wrongDeed_ok (hw d hd))
   have hEs:=r.engine.ends.length
   have c8:=ok_sameDeeds r.engine.deeds ((dOf x.log k).drop m) (by omega) (fun d hd=>wrong_sm (by rw[q3]at hd;exact hw d (List.mem_of_mem_drop hd)))
   rw[← q3,allB_refl (by simp)]at c8
   generalize (allD [] (dOf x.log k)).1=R at *
   generalize (allD [] (dOf x.log k)).2=A at *
   generalize dOf x.log k=all at *
   have hcut:cutI (all.map Deed.enc) (some r.engine.base) none=some (r.engine.deeds.map Deed.enc):=by
    rw[q1,cut_from (by simp;omega),q3,List.map_drop]
   have hnx:0≤r.next∧r.next≤x.log.length:=by omega
   repeat(first|refine wa ?_|((with_reducible apply s5);(first|exact a_call c6 rfl by_sub|((with_reducible apply a_from);(iterate 5 exact rfl);exact hcut)|exact by_oa|exact by_ca);exact by_g)|refine wb ?_)
   refine CW.loopT (fun j:Nat=>[sp 7 1,ob 1 c.enc,sp 9 2,ob 2 x.enc,sd 40 (encReps x.reps),sd 41 (dint x.reps.length),sd 42 (dint i),sd 15 (encEnds A),sp 16 4,ob 4 [encChains r.engine.chains,encDeeds r.engine.deeds,encInts r.engine.state,encEnds r.engine.ends,dint r.engine.base],sd 89 (encInts r.engine.state),sd 90 (dint r.engine.state.length),sd 91 (dint j),nxt 5])
    (fun j=>j≤r.engine.state.length) (fun j=>r.engine.state.length - j) 0 (by omega) ?_ ?_
   ·
    exact by_less
   ·
    rintro j hj
    rcases drop_case hj with ⟨k1,k2⟩|⟨st,k1,k2,k3⟩
    ·
     try refine wk ?_
     refine q_loopT (i+1) (by omega) (by omega) ?_
     exact by_less
    ·
     by_cases k4:st=1
     ·
      subst k4
      have k5:=q6 j k2
      obtain⟨d,k6⟩:∃ d,r.engine.ends[j]? = some d:=⟨r.engine.ends[j]'(by omega),List.getElem?_eq_getElem (by omega)⟩
      rw[k6]at k5
      have k7:idx (A.map Done.enc) (r.engine.base+(j:Int))=some d.enc:=idx_i k5.symm (by omega)
      repeat(first|refine wa ?_|((with_reducible apply s5);(first|((with_reducible apply a_agg);exact neq_done d d;(iterate 5 exact rfl))|((with_reducible apply a_ia);(iterate 5 exact rfl);exact k7)|exact by_oa|exact by_ca);exact by_g)|refine wb ?_)
      refine q_loopT (j+1) (by omega) (by omega) ?_
      exact by_less
     ·
      try refine wk ?_
      refine q_loopT (j+1) (by omega) (by omega) ?_
      exact by_less
theorem ok_ClusterSees (n:Int) (l:List Step) (s:Step) (hl:l.length≤10000000) (hd:∀ s∈l,s.Sm) (hs:s.Sm) :
  FnOk Tryz.prog 7 [.d (dint n),.d (encSteps l),.d (.agg s.enc)] (.one (dbool true)):=by
 refine fnOk_of tbl_ok mixed_ok Tryz.func7 rfl (by kernel_rfl) rfl rfl fun w0 own0=>?_
 have c0:=ok_alive11
 by_cases hn1:n < 1
 ·
  try refine wk ?_
  exact .one (.tmp rfl (.one (.d (.refl _))))
 by_cases hn3:3 < n
 ·
  try refine wk ?_
  exact .one (.tmp rfl (.one (.d (.refl _))))
 have hK:=newC_inv (n:=n) (by omega)
 have c4:=ok_rplay n l (by omega) (by omega) hl hd
 have hC:=hK.play (l:=l.take 120)
 generalize playC (newC n) (l.take 120)=c at *
 generalize errsC (newC n) (l.take 120)=es at *
 have c5:=ok_cdo c s hC hs.d (by have:=hs.l;omega)
 have hX:=hC.step s
 generalize (doC c s).1=x at *
 generalize (doC c s).2=v at *
 have hXl:=hX.l
 have hXk:=hX.k
 try refine wk ?_
 refine CW.loopT (fun i:Nat=>[sp 9 2,ob 2 x.enc,sd 40 (encReps x.reps),sd 41 (dint x.reps.length),sd 42 (dint i),nxt 3]) (fun i=>i≤x.reps.length) (fun i=>x.reps.length - i) 0 (by omega) ?_ ?_
 ·
  exact by_less
 ·
  rintro i hi
  rcases drop_case hi with ⟨h1,h2⟩|⟨r,h1,h2,h3⟩
  ·
   try refine wk ?_
   exact .one (.tmp rfl (.one (.d (.refl _))))
  ·
   obtain⟨hRI,hRC⟩:=hX.r r (List.mem_of_getElem? h2)
   obtain⟨⟨k,g1,g2,g3⟩,_,_⟩:=hRC
   obtain⟨m,q1,q2,q3⟩:=g3.seen g2
   have hw:=dOf_right hX.right x.log.length
   have hdl:=dOf_len hX.right hXl x.log.length
   have hsm:=hRI.sm.e
   have c6:=ok_mark r.engine hsm.s
   have c7:FnOk Tryz.prog 26 [.d (encEntries x.log),.d (dint ((x.log.map Entry.enc).length:Int))] (.one (encDeeds (dOf x.log x.log.length))):=by
    have:=ok_rdeeds x.log x.log.length (by omega) (by omega) hX.right
    rw[Int.toNat_natCast]at this
    rw[List.length_map]
    exact this
   have c8:=ok_all [] ((dOf x.log x.log.length).take (m+markN r.engine.state)) (by simp) (by rw[List.length_take];omega) (by simp[rowsOk]) (fun d hd=>wrongDeed_ok (hw d (List.mem_of_mem_take hd)))
   have c9:=ok_seen r.engine (markN r.engine.state) hsm
   rw[q3]at c9
   dsimp only at c9
   have hsl:=seenE_len r.engine (markN r.engine.state)
   rw[q3]at hsl
   dsimp only at hsl
   have hcl:=hsm.c
   have hml:=markN_le r.engine.state
   have hsl2:=hsm.s
   have c10:=ok_SameRows (allD [] ((dOf x.log x.log.length).take (m+markN r.engine.state))).1 (allD [] ((dOf x.log x.log.length).take (m+markN r.engine.state))).1 (by omega)
   rw[allB_refl (by simp)]at c10
   generalize hR:(allD [] ((dOf x.log x.log.length).take (m+markN r.engine.state))).1=R at *
   generalize (allD [] ((dOf x.log x.log.length).take (m+markN r.engine.state))).2=A at *
   generalize dOf x.log x.log.length=all at *
   generalize markN r.engine.state=M at *
   have hcut:∀ q:Int,q=((m+M:Nat):Int)→cutI (all.map Deed.enc) none (some q)=some ((all.take (m+M)).map Deed.enc):=fun q hq=>by
    rw[hq,cut_to (by simp;omega),List.map_take]
   have hb:r.engine.base=m:=by omega
   repeat(first|refine wa ?_|((with_reducible apply s5);(first|exact a_call c7 rfl by_sub|((with_reducible apply a_to);(iterate 5 exact rfl);exact hcut _ (by first|omega|(simp;omega)))|exact by_oa|exact by_ca);exact by_g)|refine wb ?_)
   refine q_loopT (i+1) (by omega) (by omega) ?_
   exact by_less
end Go.Proofs.YtkolabpmmddgiaaGreatDoor
