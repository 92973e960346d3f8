/-
  Part 4 of what the claim leans on: AxNews AxApp G15 ShTrim R3 G20 G21 R4 R5 AxBld AxRes G18 G5 G6 G9 G22 ShSort AxSort G16 P6 G17 G10 G19 P7 G7 F4 L1 L7 AxLaid Rp AxDec2 J1 Tx P14 P16 P20 P3 P9.
-/
import Derived.Test.YtngnajknbeijjaaGreatDoorK3
import Derived.Shelf.Strings.SlTrimAscii
import Derived.Test.YtngnajknbeijjaaGreatDoorProg
import Derived.RangeFuncNested
import Derived.RangeFuncLeaves
import Derived.Shelf.Abstract
import Derived.WalkKit
import Derived.OwnWalkIn
import Derived.TacticsInMore
import Derived.LoopNIn
import Derived.LoopIn
import Derived.Shelf.Sort.Plain
import Derived.Shelf.Slices.In.SortNone
import Derived.Sort.OwnSortedInts
import Derived.Shelf.Vars
import Derived.FnData
import Derived.Lib.AtoiAll
import Derived.Lib.ItoaNum
import Derived.Lib.ItoaLen
set_option linter.all false

namespace Go.AX
open Go.RowKit
variable {cx:Cx}{g:Nat→Value}{σ σ':St}{a:Act}{w w':World}{nx:Nat}{c:Code}{Q:Exit→St→Prop}
variable {ty:TypeId}{pos:String}{af:Array Edge}{gd:Option (Nat×Bool)}{d:Nat}
inductive Part where
 |d (x:D)
 |own (e k:Nat) (rows:List (List D))
def withL (own:Nat→Prop) (ps:List Part) (cs:Array Value):Nat→Prop:=fun b=>own b∨∃ j e k rows,ps[j]? = some (.own e k rows)∧blk (cs.getD j undef)=some b
structure PartsAt (w:World) (base:Nat) (own:Nat→Prop) (ps:List Part) (cs:Array Value):Prop where
 size:cs.size=ps.length
 one:∀ (j:Nat) (c:Value),cs[j]? = some c→c.oneCell'=true
 data:∀ j x,ps[j]? = some (.d x)→Rd w (withL own ps cs) (cs.getD j undef) x
 rows:∀ j e k rows,ps[j]? = some (.own e k rows)→RowsAt w base (withL own ps cs) e k (cs.getD j undef) rows
 sep:∀ j j' e k rows e' k' rows' b,ps[j]? = some (.own e k rows)→ps[j']? = some (.own e' k' rows')→blk (cs.getD j undef)=some b→blk (cs.getD j' undef)=some b→j=j'
structure FnNews (P:Program) (f:FuncId) (args:List Arg) (ps:List Part):Prop where
 run : ∃ fn, P.funcs[f]? = some fn ∧ (fn.name == "runtime.NumGoroutine") = false ∧ fn.body.isNone = false
 calls:∀ (w:World) (own:Nat→Prop) (vs:List Value),((∀ b,own b→b < w.heap.size)∧Gl P w)→ArgsOk w own vs args →
  Calls P f vs.toArray w fun r w'=>∃ cs,r = .returned (.agg cs)∧Below w.heap.size w w'∧PartsAt w' w.heap.size own ps cs
inductive PartE (σ:St):AV→Part→Prop
 |d {x:D}:PartE σ (.d x) (.d x)
 |own {id n e k:Nat} {rows:List (List D)} (ho:get σ (.o id) = .ob (.arr e k rows)) (hn:n=rows.length):PartE σ (.own id n) (.own e k rows)
def ids:List AV→List Nat
 | []=>[]
 |.own id _::r=>id::ids r
 |_::r=>ids r
inductive PartsL (σ:St):List AV→List Part→Prop
 |nil:PartsL σ [] []
 |cons {av:AV} {p:Part} {avs:List AV} {ps:List Part} (h:PartE σ av p) (t:PartsL σ avs ps):PartsL σ (av::avs) (p::ps)
theorem PartsL.at {avs:List AV}{ps:List Part}(h:PartsL σ avs ps):avs.length=ps.length∧∀ (j:Nat) (p:Part),ps[j]? = some p→∃ av:AV,avs[j]? = some av∧PartE σ av p:=by
 induction h with
 |nil=>exact⟨rfl,fun j p h=>by simp at h⟩
 |cons h t ih =>
  refine⟨by simp[ih.1],fun j p hj=>?_⟩
  cases j with
  |zero=>simp at hj;subst hj;exact⟨_,rfl,h⟩
  |succ j=>simpa using ih.2 j p (by simpa using hj)
theorem ids_mem {id n:Nat}:∀ {avs:List AV}{j:Nat},avs[j]? = some (.own id n)→id∈ids avs
 |x::avs,0,h=>by
  obtain rfl:x = .own id n:=by simpa using h
  exact List.mem_cons_self ..
 |x::avs,j+1,h=>by
  have:=ids_mem (avs:=avs) (j:=j) (by simpa using h)
  cases x <;> simp[ids,this]
theorem ids_inj {id n m:Nat}:∀ {avs:List AV}{i j:Nat},(ids avs).Nodup→avs[i]? = some (.own id n)→avs[j]? = some (.own id m)→i=j
 |x::avs,0,0,_,_,_=>rfl
 |x::avs,0,j+1,h,hi,hj=>by
  obtain rfl:x = .own id n:=by simpa using hi
  simp only[ids,List.nodup_cons]at h
  exact absurd (ids_mem (by simpa using hj)) h.1
 |x::avs,i+1,0,h,hi,hj=>by
  obtain rfl:x = .own id m:=by simpa using hj
  simp only[ids,List.nodup_cons]at h
  exact absurd (ids_mem (by simpa using hi)) h.1
 |x::avs,i+1,j+1,h,hi,hj=>by
  have h':(ids avs).Nodup:=by
   cases x <;> simp only[ids,List.nodup_cons]at h <;> first|exact h.2|exact h
  exact congrArg (· + 1) (ids_inj (n:=n) (m:=m) h' (by simpa using hi) (by simpa using hj))
theorem parts_at (hs:SimG cx σ a w g nx) {avs:List AV}{ps:List Part}{v:Value}(hr:Rep cx g σ w v (.agg avs)) (hp:PartsL σ avs ps) (hn:(ids avs).Nodup):∃ cs,v = .agg cs∧PartsAt w cx.w0.heap.size cx.own0 ps cs:=by
 obtain⟨cs,h1,h2,h3,h4⟩:=hr
 obtain⟨hl,hat⟩:=hp.at
 refine⟨cs,h1,?_⟩
 have hc:∀ j p,ps[j]? = some p→∃ av,avs[j]? = some av∧PartE σ av p∧Rep1 cx g σ w (cs.getD j undef) av:=fun j p hj=>by
  obtain⟨av,h5,h6⟩:=hat j p hj
  have hlt:j < cs.size:=by rw[h2];exact(List.getElem?_eq_some_iff.1 h5).1
  have h7:cs[j]? = some cs[j]:=Array.getElem?_eq_getElem hlt
  refine⟨av,h5,h6,?_⟩
  rw[Array.getD_eq_getD_getElem?,h7]
  exact h4 j _ av h5 h7
 have hown:∀ j e k rows,ps[j]? = some (.own e k rows)→∃ id n,avs[j]? = some (.own id n)∧cs.getD j undef=g id∧get σ (.o id) = .ob (.arr e k rows):=fun j e k rows hj=>by
  obtain⟨av,h5,h6,h7⟩:=hc j _ hj
  cases h6 with
  |@own id n _ _ _ ho hn=>exact⟨id,n,h5,(h7.2 e k rows ho).2 hn,ho⟩
 have hle:∀ b,withL cx.own0 ps cs b→cx.own g σ b:=fun b hb=>by
  rcases hb with hb|⟨j,e,k,rows,hj,hb⟩
  ·
   exact .inl hb
  ·
   obtain⟨id,n,_,h6,h7⟩:=hown j e k rows hj
   exact .inr ⟨id,_,h7,by rw[← h6];exact hb⟩
 refine⟨by rw[h2,hl],h3,fun j x hj=>?_,fun j e k rows hj=>?_,fun j j' e k rows e' k' rows' b hj hj' hb hb'=>?_⟩
 ·
  obtain⟨av,h5,h6,h7⟩:=hc j _ hj
  cases h6 with
  |d=>exact Rd.less hle h7
 ·
  obtain⟨id,n,_,h6,h7⟩:=hown j e k rows hj
  rw[h6]
  exact(objRows hs h7).re (fun b hb=>obj_ge hs h7 hb) hle
 ·
  obtain⟨id,n,h5,h6,h7⟩:=hown j e k rows hj
  obtain⟨id',n',h5',h6',h7'⟩:=hown j' e' k' rows' hj'
  obtain rfl:=hs.sep id id' _ _ b h7 h7' (by rw[← h6];exact hb) (by rw[← h6'];exact hb')
  exact ids_inj hn h5 h5'
inductive RetNews (T:Tbl) (σ:St) (ps:List Part):ResultVar→Prop
 |tmp {t:Nat} {avs:List AV} (h:get σ (.s t) = .av (.agg avs)) (hp:PartsL σ avs ps) (hn:(ids avs).Nodup):RetNews T σ ps (.tmp t)
 |cell {s t id:Nat} {cells avs:List AV} {ti:TI} (h:get σ (.s s) = .av (.ptr id 0)) (ho:get σ (.o id) = .ob (.box cells)) (ht:tget T t=some ti)
   (hl:ldA ti cells=some (.agg avs)) (hp:PartsL σ avs ps) (hn:(ids avs).Nodup):RetNews T σ ps (.cell s t)
theorem RetNews.ok (hs:SimG cx σ a w g nx) {rv:ResultVar}{ps:List Part}(h:RetNews cx.T σ ps rv):∃ cs,(rvRun a.tmps rv).run cx.P w = .ok (.agg cs) w∧PartsAt w cx.w0.heap.size cx.own0 ps cs:=by
 cases h with
 |@tmp t avs h hp hn =>
  obtain⟨cs,h1,h2⟩:=parts_at hs (hs.slots t _ h).1 hp hn
  exact⟨cs,by rw[← h1];rfl,h2⟩
 |@cell s t id cells avs ti h ho ht hl hp hn =>
  obtain⟨v,h1,h2,_⟩:=load_ptr hs (x:=a.tmps.getD s undef) (off:=0) (hs.slots s _ h).1 ho ht (by simpa using hl)
  obtain⟨b,hg,hv⟩:=(hs.slots s _ h).1.2 cells ho
  obtain⟨cs,rfl,h3⟩:=parts_at hs h2 hp hn
  refine⟨cs,?_,h3⟩
  rw[hv]at h1
  simp only[rvRun,hv,asAddr,Sem.run_bind,Sem.run_pure,Result.andThen_ok]
  simpa[Instr.loadAt,Instr.sureAddr] using h1
def newsQ (T:Tbl) (rv:ResultVar) (ps:List Part):Exit→St→Prop
 |.normal,σ=>RetNews T σ ps rv
 |.ret,σ=>RetNews T σ ps rv
 |_,_=>False
theorem fnNews_of {P:Program}{T:Tbl}(hT:TOk P T) (hm:P.follows .mixedOrders=true) {f:FuncId}{fn:Func}{c:Code}{rv:ResultVar}{args:List Arg}{ps:List Part}
  (hf : P.funcs[f]? = some fn) (hb : fn.body = some c) (hname : (fn.name == "runtime.NumGoroutine") = false) (hr : fn.results = #[rv]) (hn : Nat.ble args.length fn.ntmps = true)
  (h:∀ w0 own0,CW ⟨P,T,hT,hm,fn.ntmps,w0,own0,0,[]⟩ c (newsQ T rv ps) (argSt 0 args)):FnNews P f args ps:=by
 refine⟨⟨fn,hf,hname,by rw[hb];rfl⟩,fun w own vs hown ha=>?_⟩
 have hsim:=entry_sim (P:=P) (T:=T) (hT:=hT) (hm:=hm) (n:=fn.ntmps) hown ha (by simpa using hn)
 refine calls_of_wp hf hb (wp_mono (h w own _ _ hsim) fun x a' w' he=>?_)
 obtain⟨σ',⟨g,nx,hg⟩,hq⟩:=he
 have fin:∀ hq:RetNews T σ' ps rv,a'.defers=[]∧∃ v,(results fn a'.tmps).run P w' = .ok v w'∧∃ cs,Ending.returned v = .returned (.agg cs)∧Below w.heap.size w w'∧PartsAt w' w.heap.size own ps cs:=by
  intro hq
  obtain⟨cs,h1,h2⟩:=hq.ok hg
  exact⟨hg.defers,.agg cs,by rw[results_one hr];exact h1,cs,rfl,hg.below,h2⟩
 cases x with
 |normal=>exact fin hq
 |ret=>exact fin hq
 |exit j=>exact hq.elim
 |goto j=>exact hq.elim
 |panic c=>exact hq.elim
 |outgrown=>exact hq.elim
def Part.dt:Part→D
 |.d x=>x
 |.own _ k rows => .sl k rows
theorem FnNews.ok {P:Program}{f:FuncId}{args:List Arg}{ps:List Part}(h:FnNews P f args ps):FnOk P f args (.one (.agg (ps.map Part.dt))):=by
 refine⟨h.run,fun w own vs hown ha=>(h.calls w own vs hown ha).mono fun r w' hr=>?_⟩
 obtain⟨cs,rfl,h1,h2⟩:=hr
 refine⟨.agg cs,rfl,h1,?_⟩
 refine .agg cs _ (by rw[h2.size,List.length_map]) h2.one fun j x c hj hc=>?_
 rw[List.getElem?_map]at hj
 cases hp:ps[j]? with
 |none=>rw[hp]at hj;cases hj
 |some p =>
  rw[hp]at hj
  simp at hj;subst hj
  have hcd:cs.getD j undef=c:=by rw[Array.getD_eq_getD_getElem?,hc];rfl
  cases p with
  |d x =>
   have:=h2.data j x hp
   rw[hcd]at this
   exact this.less fun b hb => .inl hb
  |own e k rows =>
   have:=h2.rows j e k rows hp
   rw[hcd]at this
   refine this.rd fun b hb=>⟨.inl hb,fun he=>?_⟩
   have:=(this.lt he).1
   have:=hown.1 b hb
   omega
def newObs:Nat→List Part→List (Key×Val)
 |n,[]=>[(.nx,.num n)]
 |n,.d _::r=>newObs n r
 |n,.own e k rows::r=>(.o n,.ob (.arr e k rows))::newObs (n+1) r
def newAvs:Nat→List Part→List AV
 |_,[]=>[]
 |n,.d x::r => .d x::newAvs n r
 |n,.own _ _ rows::r => .own n rows.length::newAvs (n+1) r
def newN:Nat→List Part→Nat
 |n,[]=>n
 |n,.d _::r=>newN n r
 |n,.own _ _ _::r=>newN (n+1) r
def idAt:Nat→List Part→Nat→Nat
 |n,[],_=>n
 |n,.d _::r,j+1=>idAt n r j
 |n,.own _ _ _::r,j+1=>idAt (n+1) r j
 |n,_::_,0=>n
theorem newN_ge:∀ {ps:List Part}{n:Nat},n≤newN n ps
 | [],n=>Nat.le_refl _
 |.d _::r,n=>newN_ge (ps:=r)
 |.own _ _ _::r,n=>Nat.le_trans (Nat.le_succ n) (newN_ge (ps:=r))
theorem newAvs_len:∀ {ps:List Part}{n:Nat},(newAvs n ps).length=ps.length
 | [],n=>rfl
 |.d _::r,n=>by simp[newAvs,newAvs_len (ps:=r)]
 |.own _ _ _::r,n=>by simp[newAvs,newAvs_len (ps:=r)]
theorem newObs_s {i:Nat}:∀ {ps:List Part}{n:Nat},get (newObs n ps++σ) (.s i)=get σ (.s i)
 | [],n=>get_cons_ne (by simp)
 |.d _::r,n=>newObs_s (ps:=r)
 |.own _ _ _::r,n=>(get_cons_ne (by simp)).trans (newObs_s (ps:=r))
theorem newObs_nx:∀ {ps:List Part}{n:Nat},get (newObs n ps++σ) .nx = .num (newN n ps)
 | [],n=>get_cons_same
 |.d _::r,n=>newObs_nx (ps:=r)
 |.own _ _ _::r,n=>(get_cons_ne (by simp)).trans (newObs_nx (ps:=r))
theorem newObs_lo {i:Nat}:∀ {ps:List Part}{n:Nat},i < n→get (newObs n ps++σ) (.o i)=get σ (.o i)
 | [],n,_=>get_cons_ne (by simp)
 |.d _::r,n,h=>newObs_lo (ps:=r) h
 |.own _ _ _::r,n,h=>(get_cons_ne (by simp;omega)).trans (newObs_lo (ps:=r) (by omega))
theorem newObs_at {i:Nat}{o:Ob}:∀ {ps:List Part}{n:Nat},(∀ j o,n≤j→get σ (.o j) ≠ .ob o)→n≤i→get (newObs n ps++σ) (.o i) = .ob o →
  ∃ j e k rows,ps[j]? = some (.own e k rows)∧o = .arr e k rows∧idAt n ps j=i∧i < newN n ps
 | [],n,h0,hi,h=>by
  rw[show get (newObs n []++σ) (.o i)=get σ (.o i) from get_cons_ne (by simp)]at h
  exact absurd h (h0 i o hi)
 |.d _::r,n,h0,hi,h=>by
  obtain⟨j,e,k,rows,h1,h2,h3,h4⟩:=newObs_at (ps:=r) h0 hi h
  exact⟨j+1,e,k,rows,by simpa using h1,h2,h3,h4⟩
 |.own e k rows::r,n,h0,hi,h=>by
  by_cases he:n=i
  ·
   subst he
   rw[show get (newObs n (.own e k rows::r)++σ) (.o n) = .ob (.arr e k rows) from get_cons_same]at h
   cases h
   exact⟨0,e,k,rows,rfl,rfl,rfl,newN_ge (ps:=r)⟩
  ·
   rw[show get (newObs n (.own e k rows::r)++σ) (.o i)=get (newObs (n+1) r++σ) (.o i) from get_cons_ne (by simpa using he)]at h
   obtain⟨j,e',k',rows',h1,h2,h3,h4⟩:=newObs_at (ps:=r) (fun j o hj=>h0 j o (by omega)) (by omega) h
   exact⟨j+1,e',k',rows',by simpa using h1,h2,h3,h4⟩
theorem idAt_get {e k:Nat}{rows:List (List D)}:∀ {ps:List Part}{n j:Nat},ps[j]? = some (.own e k rows)→get (newObs n ps++σ) (.o (idAt n ps j)) = .ob (.arr e k rows)∧n≤idAt n ps j∧(newAvs n ps)[j]? = some (.own (idAt n ps j) rows.length)∧idAt n ps j < newN n ps
 |.d _::r,n,0,h=>by simp at h
 |.own e' k' rows'::r,n,0,h=>by
  simp at h
  obtain⟨rfl,rfl,rfl⟩:=h
  exact⟨get_cons_same,Nat.le_refl _,rfl,newN_ge (ps:=r)⟩
 |.d _::r,n,j+1,h=>by
  have:=idAt_get (ps:=r) (n:=n) (j:=j) (by simpa using h)
  exact⟨this.1,this.2.1,this.2.2.1,this.2.2.2⟩
 |.own _ _ _::r,n,j+1,h=>by
  have:=idAt_get (ps:=r) (n:=n+1) (j:=j) (by simpa using h)
  exact⟨(get_cons_ne (by simp only[idAt,ne_eq,Key.o.injEq];omega)).trans this.1,by simp only[idAt];omega,this.2.2.1,this.2.2.2⟩
theorem newAvs_at {av:AV}:∀ {ps:List Part}{n j:Nat},(newAvs n ps)[j]? = some av→∃ p,ps[j]? = some p∧((∃ x,p = .d x∧av = .d x)∨∃ e k rows,p = .own e k rows∧av = .own (idAt n ps j) rows.length)
 |.d x::r,n,0,h=>by
  simp[newAvs]at h
  exact⟨_,rfl,.inl ⟨x,rfl,h.symm⟩⟩
 |.own e k rows::r,n,0,h=>by
  simp[newAvs]at h
  exact⟨_,rfl,.inr ⟨e,k,rows,rfl,h.symm⟩⟩
 |.d _::r,n,j+1,h=>newAvs_at (ps:=r) (n:=n) (j:=j) (by simpa[newAvs] using h)
 |.own _ _ _::r,n,j+1,h=>newAvs_at (ps:=r) (n:=n+1) (j:=j) (by simpa[newAvs] using h)
theorem ex_g (g:Nat→Value):∀ (ps:List Part) (n:Nat) (c:Nat→Value),∃ g':Nat→Value,(∀ i,i < n→g' i=g i)∧∀ j e k rows,ps[j]? = some (.own e k rows)→g' (idAt n ps j)=c j
 | [],n,c=>⟨g,fun _ _=>rfl,fun j e k rows h=>by simp at h⟩
 |.d x::r,n,c=>by
  obtain⟨g',h1,h2⟩:=ex_g g r n fun j=>c (j+1)
  refine⟨g',h1,fun j e k rows h=>?_⟩
  cases j with
  |zero=>simp at h
  |succ j=>exact h2 j e k rows (by simpa using h)
 |.own _ _ _::r,n,c=>by
  obtain⟨g',h1,h2⟩:=ex_g g r (n+1) fun j=>c (j+1)
  refine⟨upd g' n (c 0),fun i hi=>by rw[upd_ne (by omega)];exact h1 i (by omega),fun j e k rows h=>?_⟩
  cases j with
  |zero=>exact upd_same _ _ _
  |succ j =>
   have h':r[j]? = some (.own e k rows):=by simpa using h
   have:=(idAt_get (σ:=[]) (n:=n+1) h').2.1
   show upd g' n (c 0) (idAt (n+1) r j)=_
   rw[upd_ne (by omega)]
   exact h2 j e k rows h'
theorem SimG.joins (hs:SimG cx σ a w g nx) (hb:Below w.heap.size w w') {ps:List Part}{cs:Array Value}(hr:PartsAt w' w.heap.size (cx.own g σ) ps cs) :
  ∃ g',SimG cx (newObs nx ps++σ) a w' g' (newN nx ps)∧(∀ j e k rows,ps[j]? = some (.own e k rows)→g' (idAt nx ps j)=cs.getD j undef)∧∀ b,cx.own g' (newObs nx ps++σ) b→withL (cx.own g σ) ps cs b:=by
 obtain⟨g',hg1,hg2⟩:=ex_g g ps nx fun j=>cs.getD j undef
 have h0:∀ j o,nx≤j→get σ (.o j) ≠ .ob o:=fun j o hj ho=>by have:=(hs.objs j o ho).1;omega
 have hob:∀ id o,get (newObs nx ps++σ) (.o id) = .ob o→(id < nx∧get σ (.o id) = .ob o∧g' id=g id)∨(nx≤id∧∃ j e k rows,ps[j]? = some (.own e k rows)∧o = .arr e k rows∧idAt nx ps j=id∧id < newN nx ps∧g' id=cs.getD j undef):=fun id o ho=>by
  by_cases hid:id < nx
  ·
   rw[newObs_lo hid]at ho
   exact .inl ⟨hid,ho,hg1 id hid⟩
  ·
   obtain⟨j,e,k,rows,h1,h2,h3,h4⟩:=newObs_at h0 (by omega) ho
   exact .inr ⟨by omega,j,e,k,rows,h1,h2,h3,h4,by rw[← h3];exact hg2 j e k rows h1⟩
 have hown:∀ b,cx.own g' (newObs nx ps++σ) b→withL (cx.own g σ) ps cs b:=fun b hb=>by
  rcases hb with hb|⟨id,o,h1,h2⟩
  ·
   exact .inl (.inl hb)
  ·
   rcases hob id o h1 with ⟨_,h3,h4⟩|⟨_,j,e,k,rows,h3,_,_,_,h4⟩
   ·
    exact .inl (.inr ⟨id,o,h3,by rw[← h4];exact h2⟩)
   ·
    exact .inr ⟨j,e,k,rows,h3,by rw[← h4];exact h2⟩
 have hnew:∀ {j e k rows b},ps[j]? = some (.own e k rows)→blk (cs.getD j undef)=some b→w.heap.size≤b:=fun hj hbk=>((hr.rows _ _ _ _ hj).lt hbk).1
 have hge:=hs.below.size
 have hl:Later cx g g' σ (newObs nx ps++σ) w w' nx:=by
  refine⟨Ext.of_below hb,hb.mono hge,fun b hb'=>?_,fun id o' hid ho=>⟨o',by rw[← newObs_lo (ps:=ps) hid];exact ho,?_⟩⟩
  ·
   rcases hown b hb' with h|⟨j,e,k,rows,hj,h⟩
   ·
    exact .inl h
   ·
    exact .inr (hnew hj h)
  ·
   have:=hg1 id hid
   cases o' <;> simp[ObLe,this]
 refine⟨g',?_,hg2,hown⟩
 refine hs.next hl newObs_nx newN_ge hs.size hs.defers (hb.mono hge) (fun i av hi=>?_) (fun id o ho=>?_) fun id id' o o' b h1 h2 h3 h4=>?_
 ·
  rw[newObs_s]at hi
  exact .inl ⟨hi,rfl⟩
 ·
  rcases hob id o ho with ⟨h1,h2,h3⟩|⟨h1,j,e,k,rows,h2,rfl,h3,h4,h5⟩
  ·
   exact .inl ⟨h2,h3,fun b hbk=>hb.block b (own_lt hs (.inr ⟨id,o,h2,hbk⟩))⟩
  ·
   refine .inr ⟨h4,?_,trivial⟩
   have:=(hr.rows j e k rows h2).re (base':=cx.w0.heap.size) (fun b hbk=>by have:=hnew h2 hbk;omega) hown
   rw[← h5]at this
   exact this
 ·
  have hlo:∀ {id o b},get σ (.o id) = .ob o→g' id=g id→blk (g' id)=some b→b < w.heap.size:=fun h1 h2 h3=>own_lt hs (.inr ⟨_,_,h1,by rw[← h2];exact h3⟩)
  rcases hob id o h1 with ⟨_,h5,h6⟩|⟨_,j,e,k,rows,h5,_,h6,_,h7⟩
  ·
   rcases hob id' o' h2 with ⟨_,h5',h6'⟩|⟨_,j',e',k',rows',h5',_,h6',_,h7'⟩
   ·
    exact hs.sep id id' o o' b h5 h5' (by rw[← h6];exact h3) (by rw[← h6'];exact h4)
   ·
    have:=hlo h5 h6 h3
    have:=hnew h5' (by rw[← h7'];exact h4)
    omega
  ·
   rcases hob id' o' h2 with ⟨_,h5',h6'⟩|⟨_,j',e',k',rows',h5',_,h6',_,h7'⟩
   ·
    have:=hlo h5' h6' h4
    have:=hnew h5 (by rw[← h7];exact h3)
    omega
   ·
    have:=hr.sep j j' e k rows e' k' rows' b h5 h5' (by rw[← h7];exact h3) (by rw[← h7'];exact h4)
    rw[← h6,← h6',this]
theorem newAvs_bd {ps:List Part}{n:Nat}:∀ av∈newAvs n ps,av.bd1 (newN n ps):=by
 intro av hav
 obtain⟨j,hj⟩:=List.getElem?_of_mem hav
 obtain⟨p,hp,h⟩:=newAvs_at hj
 rcases h with ⟨x,_,rfl⟩|⟨e,k,rows,rfl,rfl⟩
 ·
  trivial
 ·
  exact(idAt_get (σ:=[]) (n:=n) hp).2.2.2
theorem ok_callnews {f:FuncId}{xs:List Operand}{avs:List AV}{ys:List Arg}{l:List (Key×Val)}{ps:List Part}{ats:Array TypeId}(hn:d < cx.n) (hc:FnNews cx.P f ys ps) (hsub:Subs xs avs ys l) :
  OpOk cx ⟨some d,.call { callee := .value (.func f),args:=⟨xs⟩,argTypes:=ats },ty,pos,af,gd⟩ ⟨l++[(.nx,.num nx)],(.s d,.av (.agg (newAvs nx ps)))::newObs nx ps⟩:=by
 rintro σ a w K Q ⟨g,n',hs⟩ hr hK
 have hnx:n'=nx:=by
  have h2:=hr.right.1
  rw[hs.hnx]at h2
  simpa using h2
 subst hnx
 have hcall:=hc.calls w (cx.own g σ) (xs.map a.eval) ⟨fun b hb=>own_lt hs hb,hs.gl⟩ (hsub.ok hs hr.left)
 unfold Oper.wp
 rw[call_run hc.run]
 refine hcall.mono fun r w' he=>?_
 obtain⟨cs,rfl,hb,hres⟩:=he
 obtain⟨g',hG,hg2,hown⟩:=SimG.joins hs hb hres
 refine hK _ _ (Sim.put hG hn (Below.refl _ _) ?_ newAvs_bd)
 refine⟨cs,rfl,by rw[newAvs_len,hres.size],hres.one,fun j c av hj hcj=>?_⟩
 obtain⟨p,hp,h⟩:=newAvs_at hj
 have hcd:cs.getD j undef=c:=by rw[Array.getD_eq_getD_getElem?,hcj];rfl
 rcases h with ⟨x,rfl,rfl⟩|⟨e,k,rows,rfl,rfl⟩
 ·
  have:=hres.data j x hp
  rw[hcd]at this
  exact Rd.less hown this
 ·
  refine⟨.of (idAt_get hp).1,fun e' k' rows' hg=>?_⟩
  rw[(idAt_get hp).1]at hg
  cases hg
  exact⟨Nat.le_refl _,fun _=>by rw[← hcd];exact(hg2 j e k rows hp).symm⟩
theorem a_callnews {f:FuncId}{xs:List Operand}{avs:List AV}{ys:List Arg}{l:List (Key×Val)}{ps:List Part}{ats:Array TypeId}(hc:FnNews cx.P f ys ps) (hn:get σ .nx = .num nx) (hd:Nat.blt d cx.n=true) (hsub:SubsE σ xs avs ys l) :
  OA cx σ ⟨some d,.call { callee := .value (.func f),args:=⟨xs⟩,argTypes:=ats },ty,pos,af,gd⟩ ⟨l++[(.nx,.num nx)],(.s d,.av (.agg (newAvs nx ps)))::newObs nx ps⟩ :=
 ⟨ok_callnews (lt_of_blt hd) hc hsub.out.1,hsub.out.2.append ⟨hn,trivial⟩⟩
end Go.AX
namespace Go.AX
open Go.RowKit
variable {cx:Cx}{g:Nat→Value}{σ:St}{a:Act}{w:World}{nx:Nat}
variable {ty:TypeId}{pos:String}{af:Array Edge}{gd:Option (Nat×Bool)}{d:Nat}
theorem a_nilpd {x:Operand}{cells:List D}(hx:ev σ x=some (.pd cells)) (hd:Nat.blt d cx.n=true) :
  OA cx σ ⟨some d,.nilCheck x,ty,pos,af,gd⟩ ⟨rdOf x (.pd cells),[(.s d,.av (.pd cells))]⟩ :=
 ⟨ok_nilCheck_pd (lt_of_blt hd) (ev_out hx).1,(ev_out hx).2⟩
end Go.AX
namespace Go.Proofs.YtngnajknbeijjaaGreatDoor
open Go.AX Go.RF
set_option maxRecDepth 100000
set_option maxHeartbeats 8000000
def idxS:Nat→List Str→Str→Int
 |_,[],_ => -1
 |i,x::l,s=>if x=s then (i:Int) else idxS (i+1) l s
theorem idxS_in:∀ {l:List Str}{i:Nat}{s:Str},decide (0≤idxS i l s)=isIn l s
 | [],i,s=>rfl
 |x::l,i,s=>by
  by_cases h:x=s
  ·
   simp only[idxS,isIn,if_pos h];exact decide_eq_true (by omega)
  ·
   simp only[idxS,isIn,if_neg h];exact idxS_in
theorem ok_indexS (l:List Str) (s:Str) (hl:l.length≤1073741824):FnOk Tryz.prog 84 [.d (encStrs l),.d (dstr s)] (.one (dint (idxS 0 l s))):=by
 refine fnOk_of tbl_ok mixed_ok Tryz.func84 rfl (by kernel_rfl) rfl rfl fun w0 own0=>?_
 try refine wk ?_
 refine CW.loopT (fun t:Nat=>[sd 0 (encStrs l),sd 1 (dstr s),sd 6 (encStrs l),sd 7 (dint l.length),sd 8 (dint t),nxt 0])
  (fun t=>t≤l.length∧idxS t (l.drop t) s=idxS 0 l s) (fun t=>l.length - t) 0 ⟨by omega,rfl⟩ ?_ ?_
 ·
  exact by_less
 ·
  rintro t ⟨ht,hI⟩
  rcases drop_case ht with ⟨h1,h2⟩|⟨x,h1,h2,h3⟩
  ·
   rw[h1,idxS]at hI
   try refine wk ?_
   rw[← hI]
   exact .one (.tmp rfl (.one (.d (.refl _))))
  ·
   rw[h1,idxS]at hI
   by_cases h:x=s
   ·
    rw[if_pos h]at hI
    have h':s=x:=h.symm
    try refine wk ?_
    rw[← hI]
    exact .one (.tmp rfl (.one (.d (.refl _))))
   ·
    rw[if_neg h]at hI
    have h':¬ s=x:=fun e=>h e.symm
    try refine wk ?_
    refine q_loopT (t+1) ⟨by omega,hI⟩ (by omega) ?_
    exact by_less
theorem ok_containsS (l:List Str) (s:Str) (hl:l.length≤1073741824):FnOk Tryz.prog 53 [.d (encStrs l),.d (dstr s)] (.one (dbool (isIn l s))):=by
 refine fnOk_of tbl_ok mixed_ok Tryz.func53 rfl (by kernel_rfl) rfl rfl fun w0 own0=>?_
 have c1:=ok_indexS l s hl
 try refine wk ?_
 rw[← idxS_in (i:=0)]
 exact .one (.tmp rfl (.one (.d (.refl _))))
def isNum (l:List Int) (n:Int):Bool:=match l with
 | []=>false
 |x::l=>if x=n then true else isNum l n
def idxI:Nat→List Int→Int→Int
 |_,[],_ => -1
 |i,x::l,s=>if x=s then (i:Int) else idxI (i+1) l s
theorem idxI_in:∀ {l:List Int}{i:Nat}{s:Int},decide (0≤idxI i l s)=isNum l s
 | [],i,s=>rfl
 |x::l,i,s=>by
  by_cases h:x=s
  ·
   simp only[idxI,isNum,if_pos h];exact decide_eq_true (by omega)
  ·
   simp only[idxI,isNum,if_neg h];exact idxI_in
theorem ok_indexI (l:List Int) (s:Int) (hl:l.length≤1073741824):FnOk Tryz.prog 81 [.d (encInts l),.d (dint s)] (.one (dint (idxI 0 l s))):=by
 refine fnOk_of tbl_ok mixed_ok Tryz.func81 rfl (by kernel_rfl) rfl rfl fun w0 own0=>?_
 try refine wk ?_
 refine CW.loopT (fun t:Nat=>[sd 0 (encInts l),sd 1 (dint s),sd 6 (encInts l),sd 7 (dint l.length),sd 8 (dint t),nxt 0])
  (fun t=>t≤l.length∧idxI t (l.drop t) s=idxI 0 l s) (fun t=>l.length - t) 0 ⟨by omega,rfl⟩ ?_ ?_
 ·
  exact by_less
 ·
  rintro t ⟨ht,hI⟩
  rcases drop_case ht with ⟨h1,h2⟩|⟨x,h1,h2,h3⟩
  ·
   rw[h1,idxI]at hI
   try refine wk ?_
   rw[← hI]
   exact .one (.tmp rfl (.one (.d (.refl _))))
  ·
   rw[h1,idxI]at hI
   by_cases h:x=s
   ·
    rw[if_pos h]at hI
    have h':s=x:=h.symm
    try refine wk ?_
    rw[← hI]
    exact .one (.tmp rfl (.one (.d (.refl _))))
   ·
    rw[if_neg h]at hI
    have h':¬ s=x:=fun e=>h e.symm
    try refine wk ?_
    refine q_loopT (t+1) ⟨by omega,hI⟩ (by omega) ?_
    exact by_less
theorem ok_containsI (l:List Int) (s:Int) (hl:l.length≤1073741824):FnOk Tryz.prog 49 [.d (encInts l),.d (dint s)] (.one (dbool (isNum l s))):=by
 refine fnOk_of tbl_ok mixed_ok Tryz.func49 rfl (by kernel_rfl) rfl rfl fun w0 own0=>?_
 have c1:=ok_indexI l s hl
 try refine wk ?_
 rw[← idxI_in (i:=0)]
 exact .one (.tmp rfl (.one (.d (.refl _))))
theorem keysGo'_append:∀ {a b out:List Str},keysGo' out (a++b)=keysGo' (keysGo' out a) b
 | [],b,out=>rfl
 |k::a,b,out=>by simp only[List.cons_append,keysGo'];exact keysGo'_append
theorem keysGo'_nodup:∀ {l out:List Str},(∀ k∈l,k∉out)→l.Nodup→keysGo' out l=out++l
 | [],out,_,_=>by simp[keysGo']
 |k::l,out,h,hn=>by
  obtain⟨h1,h2⟩:=List.nodup_cons.1 hn
  simp only[keysGo']
  rw[if_neg (fun e=>h k (List.mem_cons_self ..) (isIn_true e)),keysGo'_nodup (fun x hx hm=>?_) h2,List.append_assoc]
  ·
   rfl
  ·
   rcases List.mem_append.1 hm with hm|hm
   ·
    exact h x (List.mem_cons_of_mem _ hx) hm
   ·
    simp at hm;subst hm;exact h1 hx
theorem keysD_eq {d:Deed}(h:d.reads.Nodup):keysD d=keysGo' d.reads d.writes:=by
 unfold keysD
 rw[keysGo'_append,keysGo'_nodup (by simp) h]
 rfl
theorem ok_pkeys (d:Deed) (hn:d.reads.Nodup) (hr:d.reads.length≤268435456) (hw:d.writes.length≤268435456):FnOk Tryz.prog 17 [.d (.agg d.enc)] (.one (encStrs (keysD d))):=by
 refine fnOk_of tbl_ok mixed_ok Tryz.func17 rfl (by kernel_rfl) rfl rfl fun w0 own0=>?_
 have c1:=new_clone_str (d.reads.map encStr1) (by simp;omega)
 rw[keysD_eq hn]
 repeat(first|refine wa ?_|((with_reducible apply s5);(first|exact a_callnew c1 rfl rfl by_sub|exact by_oa|exact by_ca);exact by_g)|refine wb ?_)
 refine CW.loopT (fun t:Nat×List Str=>[sp 1 0,ob 0 d.enc,sd 2 (.v nilS),so 3 1 t.2.length,oa 1 9 1 (t.2.map encStr1),sd 10 (encStrs d.writes),sd 11 (dint d.writes.length),sd 12 (dint t.1),nxt 2])
  (fun t=>t.1≤d.writes.length∧t.2.length≤d.reads.length+t.1∧keysGo' t.2 (d.writes.drop t.1)=keysGo' d.reads d.writes) (fun t=>d.writes.length - t.1) (0,d.reads) ⟨by omega,by simp,rfl⟩ ?_ ?_
 ·
  exact by_less
 ·
  rintro ⟨j,out⟩ ⟨hj,ho,hJ⟩
  dsimp only at hj ho hJ ⊢
  rcases drop_case hj with ⟨h1,h2⟩|⟨k,h1,h2,h3⟩
  ·
   rw[h1,keysGo']at hJ
   try refine wk ?_
   rw[← hJ]
   exact .one (.tmp rfl (.one (.own rfl (by simp) (.refl _))))
  ·
   rw[h1,keysGo']at hJ
   have c2:=ok_containsS out k (by omega)
   cases h:isIn out k with
   |true =>
    rw[h]at c2 hJ
    repeat(first|refine wa ?_|((with_reducible apply s5);(first|(focus ((with_reducible apply a_lend);exact c2;exact rfl;exact .plain rfl;(focus first|exact rfl|(simp;done)|(simp;omega));(iterate 2 exact rfl);exact by_sub))|exact by_oa|exact by_ca);exact by_g)|refine wb ?_)
    refine q_loopT (j+1,out) ⟨by dsimp only;omega,by dsimp only;omega,hJ⟩ (by dsimp only;omega) ?_
    exact by_less
   |false =>
    rw[h]at c2 hJ
    repeat(first|refine wa ?_|((with_reducible apply s5);(first|(focus ((with_reducible apply a_lend);exact c2;exact rfl;exact .plain rfl;(focus first|exact rfl|(simp;done)|(simp;omega));(iterate 2 exact rfl);exact by_sub))|exact by_oa|exact by_ca);exact by_g)|refine wb ?_)
    refine q_loopT (j+1,out++[k]) ⟨by dsimp only;omega,by dsimp only;simp;omega,hJ⟩ (by dsimp only;omega) ?_
    exact by_less
end Go.Proofs.YtngnajknbeijjaaGreatDoor
namespace Go.Proofs
open Go.Shelf Go.RowKit
set_option maxRecDepth 100000
noncomputable def Tryz.lays160_ren : Go.Shelf.Ren := ⟨fun | 119 => 142 | 120 => 140 | 137 => 141 | 151 => 136 | 152 => 139 | 160 => 115 | 197 => 135 | 217 => 145 | 224 => 143 | 225 => 144 | 227 => 126 | 228 => 134 | 231 => 124 | 232 => 125 | 233 => 127 | 234 => 128 | 235 => 129 | 236 => 130 | 260 => 138 | 266 => 146 | 271 => 137 | n => n, fun | 0 => 0 | 3 => 3 | 4 => 4 | 5 => 5 | 9 => 9 | 21 => 21 | 46 => 129 | 105 => 181 | 116 => 171 | 117 => 172 | 119 => 185 | 124 => 175 | 138 => 187 | 139 => 188 | n => n, fun | 3 => (Tryz.prog.globals.findIdx? (·.name == "unicode/utf8.first")).getD 0 | 4 => (Tryz.prog.globals.findIdx? (·.name == "unicode/utf8.acceptRanges")).getD 0 | n => n⟩
theorem Tryz.lays160:Go.Proofs.Lays.n160 Tryz.prog Tryz.lays160_ren:={
 mixed:=by kernel_rfl
 f119:=Tryz.func142.trans (congrArg some (by kernel_rfl))
 f120:=Tryz.func140.trans (congrArg some (by kernel_rfl))
 f137:=Tryz.func141.trans (congrArg some (by kernel_rfl))
 f151:=Tryz.func136.trans (congrArg some (by kernel_rfl))
 f152:=Tryz.func139.trans (congrArg some (by kernel_rfl))
 f160:=Tryz.func115.trans (congrArg some (by kernel_rfl))
 f197:=Tryz.func135.trans (congrArg some (by kernel_rfl))
 f217:=Tryz.func145.trans (congrArg some (by kernel_rfl))
 f224:=Tryz.func143.trans (congrArg some (by kernel_rfl))
 f225:=Tryz.func144.trans (congrArg some (by kernel_rfl))
 f227:=Tryz.func126.trans (congrArg some (by kernel_rfl))
 f228:=Tryz.func134.trans (congrArg some (by kernel_rfl))
 f231:=Tryz.func124.trans (congrArg some (by kernel_rfl))
 f232:=Tryz.func125.trans (congrArg some (by kernel_rfl))
 f233:=Tryz.func127.trans (congrArg some (by kernel_rfl))
 f234:=Tryz.func128.trans (congrArg some (by kernel_rfl))
 f235:=Tryz.func129.trans (congrArg some (by kernel_rfl))
 f236:=Tryz.func130.trans (congrArg some (by kernel_rfl))
 f260:=Tryz.func138.trans (congrArg some (by kernel_rfl))
 f266:=Tryz.func146.trans (congrArg some (by kernel_rfl))
 f271:=Tryz.func137.trans (congrArg some (by kernel_rfl))
 t0:=Tryz.underlying0
 a0:=Tryz.isAgg0
 z0:=Tryz.sizeOf0
 v0:=Tryz.zeroValue0
 t3:=Tryz.underlying3
 a3:=Tryz.isAgg3
 z3:=Tryz.sizeOf3
 v3:=Tryz.zeroValue3
 t4:=Tryz.underlying4
 a4:=Tryz.isAgg4
 z4:=Tryz.sizeOf4
 v4:=Tryz.zeroValue4
 t5:=Tryz.underlying5
 a5:=Tryz.isAgg5
 z5:=Tryz.sizeOf5
 v5:=Tryz.zeroValue5
 t9:=Tryz.underlying9
 a9:=Tryz.isAgg9
 z9:=Tryz.sizeOf9
 v9:=Tryz.zeroValue9
 t21:=Tryz.underlying21
 a21:=Tryz.isAgg21
 z21:=Tryz.sizeOf21
 v21:=Tryz.zeroValue21
 t46:=Tryz.underlying129
 a46:=Tryz.isAgg129
 z46:=Tryz.sizeOf129
 v46:=Tryz.zeroValue129
 t105:=Tryz.underlying181
 a105:=Tryz.isAgg181
 z105:=Tryz.sizeOf181
 v105:=Tryz.zeroValue181
 t116:=Tryz.underlying171
 a116:=Tryz.isAgg171
 z116:=Tryz.sizeOf171
 t117:=Tryz.underlying172
 a117:=Tryz.isAgg172
 z117:=Tryz.sizeOf172
 v117:=Tryz.zeroValue172
 t119:=Tryz.underlying185
 a119:=Tryz.isAgg185
 z119:=Tryz.sizeOf185
 t124:=Tryz.underlying175
 a124:=Tryz.isAgg175
 z124:=Tryz.sizeOf175
 v124:=Tryz.zeroValue175
 t138:=Tryz.underlying187
 a138:=Tryz.isAgg187
 z138:=Tryz.sizeOf187
 v138:=Tryz.zeroValue187
 t139:=Tryz.underlying188
 a139:=Tryz.isAgg188
 z139:=Tryz.sizeOf188
 v139:=Tryz.zeroValue188
 g3:=by kernel_rfl
 g4:=by kernel_rfl
 }
end Go.Proofs
namespace Go.Proofs.YtngnajknbeijjaaGreatDoor
open Go.AX Go.RF Go.RowKit
set_option maxRecDepth 100000
set_option maxHeartbeats 8000000
theorem ok_trim (s:Str) (hs:s.length≤1073741824):FnOk Tryz.prog 115 [.d (dstr s),.d (dstr alpha)] (.one (dstr (Lib.trimS s alpha))):=by
 refine⟨⟨_,Tryz.func115,by kernel_rfl,by kernel_rfl⟩,fun w own vs hown ha=>?_⟩
 match vs,ha with
 | [x,y],⟨h1,h2,_⟩ =>
  obtain rfl:x=str s:=rd_v h1
  obtain rfl:y=str alpha:=rd_v h2
  refine(Any.strings_Trim_laid Tryz.lays160 (by kernel_rfl) ⟨s.toArray⟩ ⟨alpha.toArray⟩ w (by show s.toArray.size≤_;simp;omega) (by decide) (ascii_of_all (by decide))).mono fun e w' he=>?_
  obtain⟨rfl,hb⟩:=he
  exact⟨_,rfl,hb,Rd.v _⟩
theorem ok_pkey (s:Str) (hs:s.length≤1073741824):FnOk Tryz.prog 93 [.d (dstr s)] (.one (dbool (key s))):=by
 refine fnOk_of tbl_ok mixed_ok Tryz.func93 rfl (by kernel_rfl) rfl rfl fun w0 own0=>?_
 have ht:=ok_trim s hs
 rw[key_trim]
 by_cases h1:1≤s.length
 ·
  by_cases h2:s.length≤6
  ·
   try refine wk ?_
   exact .one (.tmp rfl (.one (.d (dle_bool (by simp[h1,h2])))))
  ·
   try refine wk ?_
   exact .one (.tmp rfl (.one (.d (dle_bool (by simp[h2])))))
 ·
  try refine wk ?_
  exact .one (.tmp rfl (.one (.d (dle_bool (by simp[h1])))))
end Go.Proofs.YtngnajknbeijjaaGreatDoor
namespace Go.Proofs.YtngnajknbeijjaaGreatDoor
open Go.AX Go.RF
set_option maxRecDepth 100000
set_option maxHeartbeats 8000000
def regsN (k:Int):Int:=if k=3∨k=4∨k=5 then 2 else if k=7 then 0 else 1
def keyedB (k:Int):Bool:=decide (k=1∨k=6∨k=7)
def loI (k:Int):Int:=if k=2 then -1073741824 else if k=8 then 1 else 0
def hiI (k m:Int):Int:=if k=2 then 1073741824 else if k=8 then m else 0
def outI (n lo hi a b x:Int):Bool:=decide (a < 0∨4≤a∨(n < 1∧a≠0)∨b < 0∨4≤b∨(n < 2∧b≠0)∨x < lo∨hi < x)
def pwrongIns (d:Deed) (m:Int) (i:Ins):Int :=
 if i.kind < 1∨9 < i.kind then 1
 else if outI (regsN i.kind) (loI i.kind) (hiI i.kind m) i.a i.b i.n=true then 3
 else if keyedB i.kind=false∧i.key≠[] then 2
 else if (i.kind=1∧isIn d.reads i.key=false)∨(keyedB i.kind=true∧i.kind≠1∧isIn d.writes i.key=false) then 9 else 0
theorem pwrong_eq (d:Deed) (m:Int) (i:Ins):pwrongIns d m i=wrongIns d m i:=by
 unfold pwrongIns wrongIns
 by_cases h:i.kind < 1∨9 < i.kind
 ·
  rw[if_pos h,if_pos h]
 rw[if_neg h,if_neg h]
 obtain⟨kd,a,b,n,key⟩:=i
 dsimp only at h ⊢
 have hout:outI (regsN kd) (loI kd) (hiI kd m) a b n=insOut kd.toNat a b n m:=by
  have hkd:kd=1∨kd=2∨kd=3∨kd=4∨kd=5∨kd=6∨kd=7∨kd=8∨kd=9:=by omega
  unfold outI insOut
  rw[Bool.eq_iff_iff]
  simp only[Bool.or_eq_true,decide_eq_true_eq]
  rcases hkd with rfl|rfl|rfl|rfl|rfl|rfl|rfl|rfl|rfl
  ·
   rw[show regsN 1=1 from rfl,show loI 1=0 from rfl,show hiI 1 m=0 from rfl,show insA (Int.toNat 1)=3 from rfl,show insB (Int.toNat 1)=0 from rfl,show insLow (Int.toNat 1)=0 from rfl,show insHigh (Int.toNat 1) m=0 from rfl]
   omega
  ·
   rw[show regsN 2=1 from rfl,show loI 2 = -1073741824 from rfl,show hiI 2 m=1073741824 from rfl,show insA (Int.toNat 2)=3 from rfl,show insB (Int.toNat 2)=0 from rfl,show insLow (Int.toNat 2) = -1073741824 from rfl,show insHigh (Int.toNat 2) m=1073741824 from rfl]
   omega
  ·
   rw[show regsN 3=2 from rfl,show loI 3=0 from rfl,show hiI 3 m=0 from rfl,show insA (Int.toNat 3)=3 from rfl,show insB (Int.toNat 3)=3 from rfl,show insLow (Int.toNat 3)=0 from rfl,show insHigh (Int.toNat 3) m=0 from rfl]
   omega
  ·
   rw[show regsN 4=2 from rfl,show loI 4=0 from rfl,show hiI 4 m=0 from rfl,show insA (Int.toNat 4)=3 from rfl,show insB (Int.toNat 4)=3 from rfl,show insLow (Int.toNat 4)=0 from rfl,show insHigh (Int.toNat 4) m=0 from rfl]
   omega
  ·
   rw[show regsN 5=2 from rfl,show loI 5=0 from rfl,show hiI 5 m=0 from rfl,show insA (Int.toNat 5)=3 from rfl,show insB (Int.toNat 5)=3 from rfl,show insLow (Int.toNat 5)=0 from rfl,show insHigh (Int.toNat 5) m=0 from rfl]
   omega
  ·
   rw[show regsN 6=1 from rfl,show loI 6=0 from rfl,show hiI 6 m=0 from rfl,show insA (Int.toNat 6)=3 from rfl,show insB (Int.toNat 6)=0 from rfl,show insLow (Int.toNat 6)=0 from rfl,show insHigh (Int.toNat 6) m=0 from rfl]
   omega
  ·
   rw[show regsN 7=0 from rfl,show loI 7=0 from rfl,show hiI 7 m=0 from rfl,show insA (Int.toNat 7)=0 from rfl,show insB (Int.toNat 7)=0 from rfl,show insLow (Int.toNat 7)=0 from rfl,show insHigh (Int.toNat 7) m=0 from rfl]
   omega
  ·
   rw[show regsN 8=1 from rfl,show loI 8=1 from rfl,show hiI 8 m=m from rfl,show insA (Int.toNat 8)=3 from rfl,show insB (Int.toNat 8)=0 from rfl,show insLow (Int.toNat 8)=1 from rfl,show insHigh (Int.toNat 8) m=m from rfl]
   omega
  ·
   rw[show regsN 9=1 from rfl,show loI 9=0 from rfl,show hiI 9 m=0 from rfl,show insA (Int.toNat 9)=3 from rfl,show insB (Int.toNat 9)=0 from rfl,show insLow (Int.toNat 9)=0 from rfl,show insHigh (Int.toNat 9) m=0 from rfl]
   omega
 rw[hout]
 split
 ·
  rfl
 have hkd:kd=1∨kd=2∨kd=3∨kd=4∨kd=5∨kd=6∨kd=7∨kd=8∨kd=9:=by omega
 have hk9:has kd.toNat 107=keyedB kd:=by rcases hkd with rfl|rfl|rfl|rfl|rfl|rfl|rfl|rfl|rfl <;> decide
 rw[hk9]
 cases hkb:keyedB kd with
 |false =>
  have h1:¬ kd=1:=fun e=>by subst e;cases hkb
  by_cases hk0:key=[]
  ·
   simp[hk0,h1]
  ·
   simp[hk0]
 |true =>
  simp only[Bool.true_eq_false,false_and,if_false,true_and]
  by_cases h1:kd=1
  ·
   simp only[h1,if_true,ne_eq,not_true_eq_false,false_and,or_false,true_and]
   cases isIn d.reads key <;> rfl
  ·
   simp only[h1,if_false,false_and,ne_eq,not_false_eq_true,true_and,false_or]
   cases isIn d.writes key <;> rfl
theorem ok_regs (k:Int):FnOk Tryz.prog 94 [.d (dint k)] (.one (dint (regsN k))):=by
 refine fnOk_of tbl_ok mixed_ok Tryz.func94 rfl (by kernel_rfl) rfl rfl fun w0 own0=>?_
 unfold regsN
 by_cases h3:k=3
 ·
  rw[if_pos (.inl h3)]
  try refine wk ?_
  exact .one (.tmp rfl (.one (.d (.refl _))))
 by_cases h4:k=4
 ·
  rw[if_pos (.inr (.inl h4))]
  try refine wk ?_
  exact .one (.tmp rfl (.one (.d (.refl _))))
 by_cases h5:k=5
 ·
  rw[if_pos (.inr (.inr h5))]
  try refine wk ?_
  exact .one (.tmp rfl (.one (.d (.refl _))))
 rw[if_neg (by omega)]
 by_cases h7:k=7
 ·
  rw[if_pos h7]
  try refine wk ?_
  exact .one (.tmp rfl (.one (.d (.refl _))))
 ·
  rw[if_neg h7]
  try refine wk ?_
  exact .one (.tmp rfl (.one (.d (.refl _))))
theorem ok_instr (d:Deed) (i:Ins) (m:Int) (hr:d.reads.length≤268435456) (hw:d.writes.length≤268435456) :
  FnOk Tryz.prog 73 [.pd d.enc,.d (.agg i.enc),.d (dint m)] (.one (dint (wrongIns d m i))):=by
 refine fnOk_of tbl_ok mixed_ok Tryz.func73 rfl (by kernel_rfl) rfl rfl fun w0 own0=>?_
 rw[← pwrong_eq]
 have cr:=ok_regs i.kind
 have c1:=ok_containsS d.reads i.key (by omega)
 have c2:=ok_containsS d.writes i.key (by omega)
 have hst0:StopR 1:=⟨rfl⟩
 try refine wkS ?_
 clear hst0
 refine Stop.cutk [sd 7 (dbool (keyedB i.kind))] [.s 0,.s 2,.s 4,.o 0,.nx] ?_ ?_
 ·
  by_cases h1:i.kind=1
  ·
   rw[show keyedB i.kind=true from decide_eq_true (.inl h1)]
   try refine wk ?_
   refine q_cut ?_
   exact by_less
  by_cases h6:i.kind=6
  ·
   rw[show keyedB i.kind=true from decide_eq_true (.inr (.inl h6))]
   try refine wk ?_
   refine q_cut ?_
   exact by_less
  by_cases h7:i.kind=7
  ·
   rw[show keyedB i.kind=true from decide_eq_true (.inr (.inr h7))]
   try refine wk ?_
   refine q_cut ?_
   exact by_less
  ·
   rw[show keyedB i.kind=false from decide_eq_false (by omega)]
   try refine wk ?_
   refine q_cut ?_
   exact by_less
 have hst0:StopA 3:=⟨rfl⟩
 try refine wkS ?_
 clear hst0
 refine Stop.cutk [sd 8 (dint (loI i.kind)),sd 9 (dint (hiI i.kind m))] [.s 0,.s 4,.s 7,.o 0,.nx] ?_ ?_
 ·
  by_cases h2:i.kind=2
  ·
   rw[show loI i.kind = -1073741824 from if_pos h2,show hiI i.kind m=1073741824 from if_pos h2]
   try refine wk ?_
   refine q_cut ?_
   exact by_less
  by_cases h8:i.kind=8
  ·
   rw[show loI i.kind=1 by unfold loI;rw[if_neg h2,if_pos h8],show hiI i.kind m=m by unfold hiI;rw[if_neg h2,if_pos h8]]
   try refine wk ?_
   refine q_cut ?_
   exact by_less
  ·
   rw[show loI i.kind=0 by unfold loI;rw[if_neg h2,if_neg h8],show hiI i.kind m=0 by unfold hiI;rw[if_neg h2,if_neg h8]]
   try refine wk ?_
   refine q_cut ?_
   exact by_less
 unfold pwrongIns
 generalize regsN i.kind=n at cr ⊢
 generalize loI i.kind=lo
 generalize hiI i.kind m=hi
 by_cases hk0:i.kind < 1
 ·
  rw[if_pos (.inl hk0)]
  try refine wk ?_
  exact .one (.tmp rfl (.one (.d (.refl _))))
 by_cases hk9:9 < i.kind
 ·
  rw[if_pos (.inr hk9)]
  try refine wk ?_
  exact .one (.tmp rfl (.one (.d (.refl _))))
 rw[if_neg (by omega)]
 have hst0:StopA 11:=⟨rfl⟩
 try refine wkS ?_
 clear hst0
 refine Stop.cutk [sd 43 (dbool (outI n lo hi i.a i.b i.n))] [.s 0,.s 4,.s 7,.o 0,.nx] ?_ ?_
 ·
  have T:(i.a < 0∨4≤i.a∨(n < 1∧i.a≠0)∨i.b < 0∨4≤i.b∨(n < 2∧i.b≠0)∨i.n < lo∨hi < i.n)→outI n lo hi i.a i.b i.n=true:=fun h=>decide_eq_true h
  have F:¬ (i.a < 0∨4≤i.a∨(n < 1∧i.a≠0)∨i.b < 0∨4≤i.b∨(n < 2∧i.b≠0)∨i.n < lo∨hi < i.n)→outI n lo hi i.a i.b i.n=false:=fun h=>decide_eq_false h
  by_cases ha0:i.a < 0
  ·
   rw[T (by omega)]
   try refine wk ?_
   refine q_cut ?_
   exact by_less
  by_cases ha4:4≤i.a
  ·
   rw[T (by omega)]
   try refine wk ?_
   refine q_cut ?_
   exact by_less
  by_cases hn1:n < 1
  ·
   by_cases ha:i.a=0
   ·
    skip
    by_cases hb0:i.b < 0
    ·
     rw[T (by omega)]
     try refine wk ?_
     refine q_cut ?_
     exact by_less
    by_cases hb4:4≤i.b
    ·
     rw[T (by omega)]
     try refine wk ?_
     refine q_cut ?_
     exact by_less
    by_cases hn2:n < 2
    ·
     by_cases hb:i.b=0
     ·
      skip
      by_cases hx0:i.n < lo
      ·
       rw[T (by omega)]
       try refine wk ?_
       refine q_cut ?_
       exact by_less
      by_cases hx1:hi < i.n
      ·
       rw[T (by omega)]
       try refine wk ?_
       refine q_cut ?_
       exact by_less
      rw[F (by omega)]
      try refine wk ?_
      refine q_cut ?_
      exact by_less
     ·
      rw[T (by omega)]
      try refine wk ?_
      refine q_cut ?_
      exact by_less
    by_cases hx0:i.n < lo
    ·
     rw[T (by omega)]
     try refine wk ?_
     refine q_cut ?_
     exact by_less
    by_cases hx1:hi < i.n
    ·
     rw[T (by omega)]
     try refine wk ?_
     refine q_cut ?_
     exact by_less
    rw[F (by omega)]
    try refine wk ?_
    refine q_cut ?_
    exact by_less
   ·
    rw[T (by omega)]
    try refine wk ?_
    refine q_cut ?_
    exact by_less
  by_cases hb0:i.b < 0
  ·
   rw[T (by omega)]
   try refine wk ?_
   refine q_cut ?_
   exact by_less
  by_cases hb4:4≤i.b
  ·
   rw[T (by omega)]
   try refine wk ?_
   refine q_cut ?_
   exact by_less
  by_cases hn2:n < 2
  ·
   by_cases hb:i.b=0
   ·
    skip
    by_cases hx0:i.n < lo
    ·
     rw[T (by omega)]
     try refine wk ?_
     refine q_cut ?_
     exact by_less
    by_cases hx1:hi < i.n
    ·
     rw[T (by omega)]
     try refine wk ?_
     refine q_cut ?_
     exact by_less
    rw[F (by omega)]
    try refine wk ?_
    refine q_cut ?_
    exact by_less
   ·
    rw[T (by omega)]
    try refine wk ?_
    refine q_cut ?_
    exact by_less
  by_cases hx0:i.n < lo
  ·
   rw[T (by omega)]
   try refine wk ?_
   refine q_cut ?_
   exact by_less
  by_cases hx1:hi < i.n
  ·
   rw[T (by omega)]
   try refine wk ?_
   refine q_cut ?_
   exact by_less
  rw[F (by omega)]
  try refine wk ?_
  refine q_cut ?_
  exact by_less
 cases ho:outI n lo hi i.a i.b i.n with
 |true =>
  rw[if_pos rfl]
  try refine wk ?_
  exact .one (.tmp rfl (.one (.d (.refl _))))
 |false =>
  rw[if_neg (by simp)]
  by_cases hkey:i.key=[]
  ·
   rw[if_neg (fun h=>h.2 hkey)]
   by_cases h1:i.kind=1
   ·
    have hk1:keyedB i.kind=true:=decide_eq_true (.inl h1)
    rw[hk1]
    cases hin:isIn d.reads i.key with
    |false =>
     rw[if_pos (.inl ⟨h1,rfl⟩)]
     rw[hin]at c1
     repeat(first|refine wa ?_|((with_reducible apply s5);(first|exact a_call c1 rfl by_sub|((with_reducible apply a_nilpd);(iterate 2 exact rfl))|exact by_oa|exact by_ca);exact by_g)|refine wb ?_)
     exact .one (.tmp rfl (.one (.d (.refl _))))
    |true =>
     rw[if_neg (by simp[h1])]
     rw[hin]at c1
     repeat(first|refine wa ?_|((with_reducible apply s5);(first|exact a_call c1 rfl by_sub|((with_reducible apply a_nilpd);(iterate 2 exact rfl))|exact by_oa|exact by_ca);exact by_g)|refine wb ?_)
     exact .one (.tmp rfl (.one (.d (.refl _))))
   ·
    cases hkb:keyedB i.kind with
    |false =>
     rw[if_neg (by simp[h1])]
     try refine wk ?_
     exact .one (.tmp rfl (.one (.d (.refl _))))
    |true =>
     cases hin:isIn d.writes i.key with
     |false =>
      rw[if_pos (.inr ⟨rfl,h1,rfl⟩)]
      rw[hin]at c2
      repeat(first|refine wa ?_|((with_reducible apply s5);(first|exact a_call c2 rfl by_sub|((with_reducible apply a_nilpd);(iterate 2 exact rfl))|exact by_oa|exact by_ca);exact by_g)|refine wb ?_)
      exact .one (.tmp rfl (.one (.d (.refl _))))
     |true =>
      rw[if_neg (by simp[h1])]
      rw[hin]at c2
      repeat(first|refine wa ?_|((with_reducible apply s5);(first|exact a_call c2 rfl by_sub|((with_reducible apply a_nilpd);(iterate 2 exact rfl))|exact by_oa|exact by_ca);exact by_g)|refine wb ?_)
      exact .one (.tmp rfl (.one (.d (.refl _))))
  ·
   by_cases h1:i.kind=1
   ·
    have hk1:keyedB i.kind=true:=decide_eq_true (.inl h1)
    rw[hk1,if_neg (by simp)]
    cases hin:isIn d.reads i.key with
    |false =>
     rw[if_pos (.inl ⟨h1,rfl⟩)]
     rw[hin]at c1
     repeat(first|refine wa ?_|((with_reducible apply s5);(first|exact a_call c1 rfl by_sub|((with_reducible apply a_nilpd);(iterate 2 exact rfl))|exact by_oa|exact by_ca);exact by_g)|refine wb ?_)
     exact .one (.tmp rfl (.one (.d (.refl _))))
    |true =>
     rw[if_neg (by simp[h1])]
     rw[hin]at c1
     repeat(first|refine wa ?_|((with_reducible apply s5);(first|exact a_call c1 rfl by_sub|((with_reducible apply a_nilpd);(iterate 2 exact rfl))|exact by_oa|exact by_ca);exact by_g)|refine wb ?_)
     exact .one (.tmp rfl (.one (.d (.refl _))))
   ·
    cases hkb:keyedB i.kind with
    |false =>
     rw[if_pos ⟨rfl,hkey⟩]
     try refine wk ?_
     exact .one (.tmp rfl (.one (.d (.refl _))))
    |true =>
     rw[if_neg (by simp)]
     cases hin:isIn d.writes i.key with
     |false =>
      rw[if_pos (.inr ⟨rfl,h1,rfl⟩)]
      rw[hin]at c2
      repeat(first|refine wa ?_|((with_reducible apply s5);(first|exact a_call c2 rfl by_sub|((with_reducible apply a_nilpd);(iterate 2 exact rfl))|exact by_oa|exact by_ca);exact by_g)|refine wb ?_)
      exact .one (.tmp rfl (.one (.d (.refl _))))
     |true =>
      rw[if_neg (by simp[h1])]
      rw[hin]at c2
      repeat(first|refine wa ?_|((with_reducible apply s5);(first|exact a_call c2 rfl by_sub|((with_reducible apply a_nilpd);(iterate 2 exact rfl))|exact by_oa|exact by_ca);exact by_g)|refine wb ?_)
      exact .one (.tmp rfl (.one (.d (.refl _))))
theorem ok_dkeys (l:List Str) (hl:l.length≤268435456) (hk:∀ s∈l,s.length≤1073741824):FnOk Tryz.prog 72 [.d (encStrs l)] (.one (dint (keysWrong l))):=by
 refine fnOk_of tbl_ok mixed_ok Tryz.func72 rfl (by kernel_rfl) rfl rfl fun w0 own0=>?_
 unfold keysWrong
 by_cases h4:5 < l.length
 ·
  rw[if_pos h4]
  try refine wk ?_
  exact .one (.tmp rfl (.one (.d (.refl _))))
 ·
  rw[if_neg h4]
  try refine wk ?_
  refine CW.loopT (fun t:Nat=>[sd 0 (encStrs l),sd 2 (dint 0),sd 8 (encStrs l),sd 9 (dint l.length),sd 10 (dint t),nxt 0])
   (fun t=>t≤l.length∧keysGo l t (l.drop t)=keysGo l 0 l) (fun t=>l.length - t) 0 ⟨by omega,rfl⟩ ?_ ?_
  ·
   exact by_less
  ·
   rintro i ⟨hi,hJ⟩
   rcases drop_case hi with ⟨h5,h6⟩|⟨k,h5,h6,h7⟩
   ·
    rw[h5,keysGo]at hJ
    try refine wk ?_
    rw[← hJ]
    exact .one (.tmp rfl (.one (.d (.refl _))))
   ·
    rw[h5,keysGo]at hJ
    have hck:=ok_pkey k (hk k (List.mem_of_getElem? h6))
    have hin:FnOk Tryz.prog 53 [.d (.sl 1 ((l.map encStr1).take i)),.d (dstr k)] (.one (dbool (isIn (l.take i) k))):=by
     rw[← List.map_take]
     exact ok_containsS (l.take i) k (by rw[List.length_take];omega)
    cases h8:key k with
    |false =>
     rw[h8]at hck
     rw[if_pos h8]at hJ
     try refine wk ?_
     rw[← hJ]
     exact .one (.tmp rfl (.one (.d (.refl _))))
    |true =>
     rw[h8]at hck
     rw[if_neg (by simp[h8])]at hJ
     cases h9:isIn (l.take i) k with
     |false =>
      rw[h9]at hin
      rw[if_neg (by simp[h9])]at hJ
      repeat(first|refine wa ?_|((with_reducible apply s5);(first|exact a_call hin rfl by_sub|exact by_oa|exact by_ca);exact by_g)|refine wb ?_)
      refine q_loopT (i+1) ⟨by omega,hJ⟩ (by omega) ?_
      exact by_less
     |true =>
      rw[h9]at hin
      rw[if_pos h9]at hJ
      repeat(first|refine wa ?_|((with_reducible apply s5);(first|exact a_call hin rfl by_sub|exact by_oa|exact by_ca);exact by_g)|refine wb ?_)
      rw[← hJ]
      exact .one (.tmp rfl (.one (.d (.refl _))))
theorem ok_pwrongDeed (d:Deed) (hs:d.Sm):FnOk Tryz.prog 40 [.d (.agg d.enc)] (.one (dint (wrongDeed d))):=by
 refine fnOk_of tbl_ok mixed_ok Tryz.func40 rfl (by kernel_rfl) rfl rfl fun w0 own0=>?_
 have hc:=hs.c
 repeat(first|((with_reducible apply s5);((with_reducible apply a_bs ([d.reads,d.writes].map fun l=>[encStrs l]));(iterate 9 exact rfl);(repeat(first|exact PartsE.nil|(apply PartsE.cons;exact rfl;exact rfl))));exact by_g)|refine wa1 ?_|((with_reducible apply s5);(first|exact by_oa|exact by_ca);exact by_g)|refine wb ?_)
 refine CW.loopT (fun j:Nat=>[sp 1 0,ob 0 d.enc,sd 2 (dint 0),sd 13 (.sl 1 ([d.reads,d.writes].map fun l=>[encStrs l])),sd 14 (dint 2),sd 15 (dint j),nxt 1])
  (fun j=>j≤[d.reads,d.writes].length∧lsGo ([d.reads,d.writes].drop j)=lsGo [d.reads,d.writes]) (fun j=>2 - j) 0 ⟨by simp,rfl⟩ ?_ ?_
 ·
  exact by_less
 ·
  rintro j ⟨hj,hI⟩
  have hj2:j≤2:=hj
  rcases drop_case hj with ⟨h1,h2⟩|⟨l,h1,h2,h3⟩
  ·
   have h2':j=2:=h2
   rw[h1]at hI
   have hI':lsGo [d.reads,d.writes]=0:=hI.symm
   unfold wrongDeed
   rw[if_pos hI']
   by_cases h4:12 < d.code.length
   ·
    rw[if_pos h4]
    try refine wk ?_
    exact .one (.tmp rfl (.one (.d (.refl _))))
   ·
    rw[if_neg h4]
    try refine wk ?_
    refine CW.loopT (fun k:Nat=>[sp 1 0,ob 0 d.enc,sd 2 (dint 0),sd 30 (encCode d.code),sd 31 (dint d.code.length),sd 32 (dint k),nxt 1])
     (fun k=>k≤d.code.length∧codeGo d k (d.code.drop k)=codeGo d 0 d.code) (fun k=>d.code.length - k) 0 ⟨by omega,rfl⟩ ?_ ?_
    ·
     exact by_less
    ·
     rintro k ⟨hk,hJ⟩
     rcases drop_case hk with ⟨h5,h6⟩|⟨i,h5,h6,h7⟩
     ·
      rw[h5,codeGo]at hJ
      try refine wk ?_
      rw[← hJ]
      exact .one (.tmp rfl (.one (.d (.refl _))))
     ·
      rw[h5,codeGo]at hJ
      have ci:FnOk Tryz.prog 73 [.pd d.enc,.d (.agg i.enc),.d (dint (((d.code.map Ins.enc).length:Int) - 1 - k))] (.one (dint (wrongIns d ((d.code.length:Int) - 1 - k) i))):=by
       rw[List.length_map];exact ok_instr d i ((d.code.length:Int) - 1 - k) hs.r hs.w
      by_cases h8:wrongIns d ((d.code.length:Int) - 1 - k) i=0
      ·
       rw[if_pos h8]at hJ
       rw[h8]at ci
       repeat(first|refine wa ?_|((with_reducible apply s5);(first|exact a_call ci rfl by_sub|exact by_oa|exact by_ca);exact by_g)|refine wb ?_)
       refine q_loopT (k+1) ⟨by omega,hJ⟩ (by omega) ?_
       exact by_less
      ·
       rw[if_neg h8]at hJ
       repeat(first|refine wa ?_|((with_reducible apply s5);(first|exact a_call ci rfl by_sub|exact by_oa|exact by_ca);exact by_g)|refine wb ?_)
       rw[← hJ]
       exact .one (.tmp rfl (.one (.d (.refl _))))
  ·
   rw[h1,lsGo]at hI
   have h3':j < 2:=h3
   have hl:l.length≤268435456∧∀ s∈l,s.length≤1073741824:=by
    have:=List.mem_of_getElem? h2
    simp at this
    rcases this with rfl|rfl
    ·
     exact⟨hs.r,hs.rk⟩
    ·
     exact⟨hs.w,hs.wk⟩
   have ck:=ok_dkeys l hl.1 hl.2
   by_cases h8:keysWrong l=0
   ·
    rw[if_pos h8]at hI
    rw[h8]at ck
    try refine wk ?_
    refine q_loopT (j+1) ⟨by simp;omega,hI⟩ (by omega) ?_
    exact by_less
   ·
    rw[if_neg h8]at hI
    unfold wrongDeed
    rw[if_neg (by rw[← hI];exact h8)]
    try refine wk ?_
    rw[← hI]
    exact .one (.tmp rfl (.one (.d (.refl _))))
end Go.Proofs.YtngnajknbeijjaaGreatDoor
namespace Go.Proofs.YtngnajknbeijjaaGreatDoor
open Go.AX Go.RF Go.RowKit
set_option maxRecDepth 100000
set_option maxHeartbeats 8000000
theorem chTy:∃ ti,tget tbl 157=some ti∧ti.zero=[.bool false,.int .i64 0]:=⟨_,rfl,rfl⟩
theorem mty {n:Nat}{w0:World}{own0:Nat→Prop}{ti:TI}(h:tget tbl 157=some ti) (hz:ti.zero=[.bool false,.int .i64 0]):MapTy ⟨Tryz.prog,tbl,tbl_ok,mixed_ok,n,w0,own0,0,[]⟩ 155 157 (chA (false,0)):=by
 have:=MapTy.st (cx:=⟨Tryz.prog,tbl,tbl_ok,mixed_ok,n,w0,own0,0,[]⟩) (t:=155) ⟨9,Tryz.underlying155,Tryz.underlying9⟩ h (by rw[hz];decide)
 rw[hz]at this
 exact this
theorem flat0:flat (chA (false,0)):=by
 intro c hc
 simp[chV]at hc
 rcases hc with rfl|rfl <;> rfl
theorem ok_see (vf:FuncId) (caps:List D) (zs:List Arg) (view:Str→Int×Bool) (hcap:Caps caps zs) (m:Mk) (k:Str) (hv:FnOk Tryz.prog vf ([.d (dstr k)]++zs) (.tup [dint (view k).1,dbool (view k).2])) :
  FnOk Tryz.prog 113 [.d (dstr k),.pd [mapD (encM m)],.pd [fnD vf caps]] (.one (dint (seeM view m k))):=by
 refine fnOk_of tbl_ok mixed_ok Tryz.func113 rfl (by kernel_rfl) rfl rfl fun w0 own0=>?_
 obtain⟨ti,h1,h2⟩:=chTy
 have hm:=mty (n:=Tryz.f113.ntmps) (w0:=w0) (own0:=own0) h1 h2
 have hg:=mget_enc m k
 unfold seeM
 cases hk:mG m k with
 |some c =>
  rw[hk]at hg
  have hl:mlook (chA (false,0)) (encM m) k=chA c:=by simp[mlook,hg]
  have ha:=fun {d:Nat} {ty:TypeId} {pos:String} {af:Array Edge} {gd:Option (Nat×Bool)} {σ:St} {x y:Operand} (hx) (hy) (hd)=>a_mlookd (σ:=σ) (d:=d) (ty:=ty) (pos:=pos) (af:=af) (gd:=gd) (x:=x) (y:=y) hm flat0 (encM_one m) (k:=k) hx hy hd
  rw[hl,hg]at ha
  repeat(first|refine wa ?_|((with_reducible apply s5);(first|((with_reducible apply ha);(iterate 3 exact rfl))|exact by_oa|exact by_ca);exact by_g)|refine wb ?_)
  exact .one (.tmp rfl (.one (.d (.refl _))))
 |none =>
  rw[hk]at hg
  have hl:mlook (chA (false,0)) (encM m) k=chA (false,0):=by simp[mlook,hg]
  have ha:=fun {d:Nat} {ty:TypeId} {pos:String} {af:Array Edge} {gd:Option (Nat×Bool)} {σ:St} {x y:Operand} (hx) (hy) (hd)=>a_mlookd (σ:=σ) (d:=d) (ty:=ty) (pos:=pos) (af:=af) (gd:=gd) (x:=x) (y:=y) hm flat0 (encM_one m) (k:=k) hx hy hd
  rw[hl,hg]at ha
  repeat(first|refine wa ?_|((with_reducible apply s5);(first|((with_reducible apply ha);(iterate 3 exact rfl))|(focus (with_reducible apply(a_callfn (ys:=[.d (dstr k)])));exact hv;exact hcap;exact rfl;exact rfl;apply SubsE.cons;exact rfl;exact .d (.refl _);exact trivial;exact SubsE.nil)|exact by_oa|exact by_ca);exact by_g)|refine wb ?_)
  exact .one (.tmp rfl (.one (.d (.refl _))))
theorem ok_run (vf:FuncId) (caps:List D) (zs:List Arg) (view:Str→Int×Bool) (d:Deed) (hcap:Caps caps zs) (hv:∀ k∈d.reads,FnOk Tryz.prog vf ([.d (dstr k)]++zs) (.tup [dint (view k).1,dbool (view k).2]))
  (hvn:∀ k∈d.reads,nOk (view k).1) (hc:d.code.length≤134217728) (hw:d.writes.length≤134217728) (hi:∀ i∈d.code,i.Ok) (hk:∀ i∈d.code,i.kind=1→i.key∈d.reads) :
  FnOk Tryz.prog 88 [.d (.agg d.enc),.d (fnD vf caps)] (.tup (runRes view d)):=by
 refine fnOk_of tbl_ok mixed_ok Tryz.func88 rfl (by kernel_rfl) rfl rfl fun w0 own0=>?_
 obtain⟨ti,hti,htz⟩:=chTy
 have hmt:=mty (n:=Tryz.f88.ntmps) (w0:=w0) (own0:=own0) hti htz
 have hst0:StopA 2:=⟨rfl⟩
 try refine wkS ?_
 clear hst0
 refine Stop.go (CW.seq (CW.regionS ?_))
 refine SW.fam rfl (fam_mkmap rfl rfl) fun x0=>?_
 refine SW.fact (p:=∃ b,x0 = .map (some b)) (map_known (id:=4) (M:=[]) rfl) ?_
 rintro ⟨b0,rfl⟩
 refine SW.rw ?_
 have hst0:StopR 3:=⟨rfl⟩
 try refine wkS ?_
 clear hst0
 refine Stop.go (CW.stut (stut_freezebox (i:=8) (id:=5) (ds:=[.v (.map (some b0))]) rfl) ⟨rfl,rfl,trivial⟩ ?_)
 refine CW.stut (stut_freezebox (i:=3) (id:=1) (ds:=[fnD vf caps]) rfl) ⟨rfl,rfl,trivial⟩ ?_
 have hst0:StopR 4:=⟨rfl⟩
 repeat(first|refine waS ?_|((with_reducible apply s5);(first|((with_reducible apply(a_mkfn (ds:=[refD [.v (.map (some b0))],refD [fnD vf caps]])));exact rfl;apply SubsE.cons;exact rfl;exact .d (.refl _);exact trivial;apply SubsE.cons;exact rfl;exact .d (.refl _);exact trivial;exact SubsE.nil)|exact by_oa|exact by_ca);exact by_g)|refine wb ?_)
 clear hst0
 refine Stop.go (CW.stut (stut_refpd (i:=8)) ⟨rfl,trivial⟩ ?_)
 try refine wk ?_
 refine CW.loopT (fun t:Nat×Mk×Done=>[sp 2 0,ob 0 d.enc,sp 4 2,ob 2 done0.enc,sd 5 (.v nilS),sd 6 (.v nilS),sp 7 3,ob 3 t.2.2.enc,(.s 8,.av (.pd [.v (.map (some b0))])),sd 9 (fnD 113 [refD [.v (.map (some b0))],refD [fnD vf caps]]),(.s 10,.av (.ptr 3 1)),(.o 4,.ob (.mp (encM t.2.1) (.map (some b0)))),sd 11 (dint t.1),nxt 6])
  (fun t=>mOk t.2.1∧t.2.2.Ok∧t.2.2.failed=false∧runGo view 0 t.2.1 t.2.2 (d.code.drop t.1)=runM view d)
  (fun t=>d.code.length - t.1) (0,[],done0) ⟨mOk_nil,⟨by simp[nOk,done0],by simp[nOk,done0],by simp[nOk,done0],by simp[nOk,done0]⟩,rfl,rfl⟩ ?_ ?_
 ·
  exact by_less
 ·
  rintro ⟨x,m,e⟩ ⟨hm,he,hf,hI⟩
  dsimp only at hm he hf hI ⊢
  by_cases hx:x < d.code.length
  ·
   obtain⟨i,h1,h2⟩:∃ i,d.code.drop x=i::d.code.drop (x+1)∧d.code[x]? = some i:=⟨d.code[x],List.drop_eq_getElem_cons hx,List.getElem?_eq_getElem hx⟩
   rw[h1]at hI
   simp only[runGo]at hI
   rw[if_neg (show ¬ (0:Int) < 0 by decide)]at hI
   have hio:=hi i (List.mem_of_getElem? h2)
   obtain⟨kd,ia,ib,n,key⟩:=i
   obtain⟨A,rfl⟩:=Int.eq_ofNat_of_zero_le hio.a.1
   obtain⟨B,rfl⟩:=Int.eq_ofNat_of_zero_le hio.b.1
   have hA:A < 4:=by have:=hio.a.2;dsimp only at this;omega
   have hB:B < 4:=by have:=hio.b.2;dsimp only at this;omega
   have hga:=rget_ok he A
   have hgb:=rget_ok he B
   have hst:=fun y=>st_reg e hA y
   have hfit:=fit_reg e hA
   have hself:=rset_self e A
   have hkk:=hio.k
   have hcn:=hio.c
   have hcs:=hio.s
   dsimp only[Int.toNat_natCast]at hI hkk hcn hcs
   have hkd:kd=1∨kd=2∨kd=3∨kd=4∨kd=5∨kd=6∨kd=7∨kd=8∨kd=9:=by omega
   clear hkk hio h1
   unfold nOk at hga hgb
   rcases hkd with rfl|rfl|rfl|rfl|rfl|rfl|rfl|rfl|rfl
   ·
    rw[if_pos rfl]at hI
    have hsee:=ok_see vf caps zs view hcap m key (hv key (hk _ (List.mem_of_getElem? h2) rfl))
    have hs:=hst (seeM view m key)
    repeat(first|refine wa ?_|((with_reducible apply s5);(first|(focus (with_reducible apply(a_callfnM (ys:=[.d (dstr key)]) (id:=4) (x0 := .map (some b0)) (M:=encM m)));exact hsee;exact .map (.ref .nil);exact rfl;exact rfl;exact rfl;exact rfl;apply SubsE.cons;exact rfl;exact .d (.refl _);exact trivial;exact SubsE.nil)|((with_reducible apply a_lptr);(iterate 4 exact rfl);exact ld_reg e hA rfl)|((with_reducible apply a_lptr);(iterate 4 exact rfl);exact ld_reg e hB rfl)|((with_reducible apply a_store);(iterate 6 exact rfl);exact hfit;exact⟨rfl,trivial⟩)|((with_reducible apply a_nilp);(iterate 3 exact rfl))|exact by_oa|exact by_ca);exact by_g)|refine wb ?_)
    refine q_loopT (x+1,m,rset e A (seeM view m key)) ⟨hm,rset_ok he A (see_ok (hvn key (hk _ (List.mem_of_getElem? h2) rfl)) hm),by rw[rset_failed];exact hf,hI⟩ (by dsimp only;omega) ?_
    exact by_less
   ·
    rw[if_neg (show ¬ (2:Int)=1 by decide),if_pos rfl]at hI
    have hs:=hst n
    repeat(first|refine wa ?_|((with_reducible apply s5);(first|((with_reducible apply a_lptr);(iterate 4 exact rfl);exact ld_reg e hA rfl)|((with_reducible apply a_lptr);(iterate 4 exact rfl);exact ld_reg e hB rfl)|((with_reducible apply a_store);(iterate 6 exact rfl);exact hfit;exact⟨rfl,trivial⟩)|((with_reducible apply a_nilp);(iterate 3 exact rfl))|exact by_oa|exact by_ca);exact by_g)|refine wb ?_)
    refine q_loopT (x+1,m,rset e A n) ⟨hm,rset_ok he A (hcn rfl),by rw[rset_failed];exact hf,hI⟩ (by dsimp only;omega) ?_
    exact by_less
   ·
    rw[if_neg (show ¬ (3:Int)=1 by decide),if_neg (show ¬ (3:Int)=2 by decide),if_pos rfl]at hI
    have hs:=hst (round (rget e A+rget e B))
    have cr:=ok_pround (rget e A+rget e B) (by unfold inI;omega)
    repeat(first|refine wa ?_|((with_reducible apply s5);(first|((with_reducible apply a_lptr);(iterate 4 exact rfl);exact ld_reg e hA rfl)|((with_reducible apply a_lptr);(iterate 4 exact rfl);exact ld_reg e hB rfl)|((with_reducible apply a_store);(iterate 6 exact rfl);exact hfit;exact⟨rfl,trivial⟩)|((with_reducible apply a_nilp);(iterate 3 exact rfl))|((with_reducible apply a_bin);(iterate 2 exact rfl);(apply bin_add;omega);exact rfl)|exact by_oa|exact by_ca);exact by_g)|refine wb ?_)
    refine q_loopT (x+1,m,rset e A (round (rget e A+rget e B))) ⟨hm,rset_ok he A (round_ok _),by rw[rset_failed];exact hf,hI⟩ (by dsimp only;omega) ?_
    exact by_less
   ·
    rw[if_neg (show ¬ (4:Int)=1 by decide),if_neg (show ¬ (4:Int)=2 by decide),if_neg (show ¬ (4:Int)=3 by decide),if_pos rfl]at hI
    have hs:=hst (round (rget e A - rget e B))
    have cr:=ok_pround (rget e A - rget e B) (by unfold inI;omega)
    repeat(first|refine wa ?_|((with_reducible apply s5);(first|((with_reducible apply a_lptr);(iterate 4 exact rfl);exact ld_reg e hA rfl)|((with_reducible apply a_lptr);(iterate 4 exact rfl);exact ld_reg e hB rfl)|((with_reducible apply a_store);(iterate 6 exact rfl);exact hfit;exact⟨rfl,trivial⟩)|((with_reducible apply a_nilp);(iterate 3 exact rfl))|((with_reducible apply a_bin);(iterate 2 exact rfl);(apply bin_sub;omega);exact rfl)|exact by_oa|exact by_ca);exact by_g)|refine wb ?_)
    refine q_loopT (x+1,m,rset e A (round (rget e A - rget e B))) ⟨hm,rset_ok he A (round_ok _),by rw[rset_failed];exact hf,hI⟩ (by dsimp only;omega) ?_
    exact by_less
   ·
    rw[if_neg (show ¬ (5:Int)=1 by decide),if_neg (show ¬ (5:Int)=2 by decide),if_neg (show ¬ (5:Int)=3 by decide),if_neg (show ¬ (5:Int)=4 by decide),if_pos rfl]at hI
    have hmul : -1152921504606846976≤rget e A*rget e B∧rget e A*rget e B≤1152921504606846976:=mul_bound hga hgb
    have hs:=hst (round (rget e A*rget e B))
    have cr:=ok_pround (rget e A*rget e B) (by unfold inI;omega)
    repeat(first|refine wa ?_|((with_reducible apply s5);(first|((with_reducible apply a_lptr);(iterate 4 exact rfl);exact ld_reg e hA rfl)|((with_reducible apply a_lptr);(iterate 4 exact rfl);exact ld_reg e hB rfl)|((with_reducible apply a_store);(iterate 6 exact rfl);exact hfit;exact⟨rfl,trivial⟩)|((with_reducible apply a_nilp);(iterate 3 exact rfl))|((with_reducible apply a_bin);(iterate 2 exact rfl);(apply bin_mul;omega);exact rfl)|exact by_oa|exact by_ca);exact by_g)|refine wb ?_)
    refine q_loopT (x+1,m,rset e A (round (rget e A*rget e B))) ⟨hm,rset_ok he A (round_ok _),by rw[rset_failed];exact hf,hI⟩ (by dsimp only;omega) ?_
    exact by_less
   ·
    rw[if_neg (show ¬ (6:Int)=1 by decide),if_neg (show ¬ (6:Int)=2 by decide),if_neg (show ¬ (6:Int)=3 by decide),if_neg (show ¬ (6:Int)=4 by decide),if_neg (show ¬ (6:Int)=5 by decide),if_pos rfl]at hI
    have hms:=mset_enc m key (true,rget e A)
    repeat(first|refine wa ?_|((with_reducible apply s5);(first|((with_reducible apply a_lptr);(iterate 4 exact rfl);exact ld_reg e hA rfl)|((with_reducible apply a_lptr);(iterate 4 exact rfl);exact ld_reg e hB rfl)|((with_reducible apply a_store);(iterate 6 exact rfl);exact hfit;exact⟨rfl,trivial⟩)|((with_reducible apply a_nilp);(iterate 3 exact rfl))|((with_reducible apply(a_mset (us:=chA (true,rget e A)) 4 hmt));(iterate 3 exact rfl);exact .agg (.d rfl);exact rfl)|exact by_oa|exact by_ca);exact by_g)|refine wb ?_)
    rw[hms]
    refine q_loopT (x+1,mS m key (true,rget e A),e) ⟨mOk_set hm key (rget_ok he A),he,hf,hI⟩ (by dsimp only;omega) ?_
    exact by_less
   ·
    rw[if_neg (show ¬ (7:Int)=1 by decide),if_neg (show ¬ (7:Int)=2 by decide),if_neg (show ¬ (7:Int)=3 by decide),if_neg (show ¬ (7:Int)=4 by decide),if_neg (show ¬ (7:Int)=5 by decide),if_neg (show ¬ (7:Int)=6 by decide),if_pos rfl]at hI
    have hms:=mset_enc m key (false,0)
    repeat(first|refine wa ?_|((with_reducible apply s5);(first|((with_reducible apply a_lptr);(iterate 4 exact rfl);exact ld_reg e hA rfl)|((with_reducible apply a_lptr);(iterate 4 exact rfl);exact ld_reg e hB rfl)|((with_reducible apply a_store);(iterate 6 exact rfl);exact hfit;exact⟨rfl,trivial⟩)|((with_reducible apply a_nilp);(iterate 3 exact rfl))|((with_reducible apply(a_mset (us:=chA (false,0)) 4 hmt));(iterate 3 exact rfl);exact .agg (.d rfl);exact rfl)|exact by_oa|exact by_ca);exact by_g)|refine wb ?_)
    rw[hms]
    refine q_loopT (x+1,mS m key (false,0),e) ⟨mOk_set hm key (by simp[nOk]),he,hf,hI⟩ (by dsimp only;omega) ?_
    exact by_less
   ·
    rw[if_neg (show ¬ (8:Int)=1 by decide),if_neg (show ¬ (8:Int)=2 by decide),if_neg (show ¬ (8:Int)=3 by decide),if_neg (show ¬ (8:Int)=4 by decide),if_neg (show ¬ (8:Int)=5 by decide),if_neg (show ¬ (8:Int)=6 by decide),if_neg (show ¬ (8:Int)=7 by decide),if_pos rfl]at hI
    obtain⟨N,rfl⟩:=Int.eq_ofNat_of_zero_le (hcs rfl).1
    have hN:=(hcs rfl).2
    by_cases h5:rget e A < 1
    ·
     rw[if_pos h5,runGo_skip,List.drop_drop]at hI
     repeat(first|refine wa ?_|((with_reducible apply s5);(first|((with_reducible apply a_lptr);(iterate 4 exact rfl);exact ld_reg e hA rfl)|((with_reducible apply a_lptr);(iterate 4 exact rfl);exact ld_reg e hB rfl)|((with_reducible apply a_store);(iterate 6 exact rfl);exact hfit;exact⟨rfl,trivial⟩)|((with_reducible apply a_nilp);(iterate 3 exact rfl))|exact by_oa|exact by_ca);exact by_g)|refine wb ?_)
     refine q_loopT (x+N+1,m,e) ⟨hm,he,hf,by dsimp only;rw[← hI];congr 2;omega⟩ (by dsimp only;omega) ?_
     exact by_less
    ·
     rw[if_neg h5]at hI
     repeat(first|refine wa ?_|((with_reducible apply s5);(first|((with_reducible apply a_lptr);(iterate 4 exact rfl);exact ld_reg e hA rfl)|((with_reducible apply a_lptr);(iterate 4 exact rfl);exact ld_reg e hB rfl)|((with_reducible apply a_store);(iterate 6 exact rfl);exact hfit;exact⟨rfl,trivial⟩)|((with_reducible apply a_nilp);(iterate 3 exact rfl))|exact by_oa|exact by_ca);exact by_g)|refine wb ?_)
     refine q_loopT (x+1,m,e) ⟨hm,he,hf,hI⟩ (by dsimp only;omega) ?_
     exact by_less
   ·
    rw[if_neg (show ¬ (9:Int)=1 by decide),if_neg (show ¬ (9:Int)=2 by decide),if_neg (show ¬ (9:Int)=3 by decide),if_neg (show ¬ (9:Int)=4 by decide),if_neg (show ¬ (9:Int)=5 by decide),if_neg (show ¬ (9:Int)=6 by decide),if_neg (show ¬ (9:Int)=7 by decide),if_neg (show ¬ (9:Int)=8 by decide)]at hI
    by_cases h5:rget e A < 0
    ·
     rw[if_pos h5]at hI
     repeat(first|refine wa ?_|((with_reducible apply s5);(first|((with_reducible apply a_lptr);(iterate 4 exact rfl);exact ld_reg e hA rfl)|((with_reducible apply a_lptr);(iterate 4 exact rfl);exact ld_reg e hB rfl)|((with_reducible apply a_store);(iterate 6 exact rfl);exact hfit;exact⟨rfl,trivial⟩)|((with_reducible apply a_nilp);(iterate 3 exact rfl))|exact by_oa|exact by_ca);exact by_g)|refine wb ?_)
     unfold runRes runC
     rw[← hI]
     exact .three (.cell rfl rfl rfl rfl (.aggd rfl (.refl _))) (.tmp rfl (.one (.d (.nil _)))) (.tmp rfl (.one (.d (.nil _))))
    ·
     rw[if_neg h5]at hI
     repeat(first|refine wa ?_|((with_reducible apply s5);(first|((with_reducible apply a_lptr);(iterate 4 exact rfl);exact ld_reg e hA rfl)|((with_reducible apply a_lptr);(iterate 4 exact rfl);exact ld_reg e hB rfl)|((with_reducible apply a_store);(iterate 6 exact rfl);exact hfit;exact⟨rfl,trivial⟩)|((with_reducible apply a_nilp);(iterate 3 exact rfl))|exact by_oa|exact by_ca);exact by_g)|refine wb ?_)
     refine q_loopT (x+1,m,e) ⟨hm,he,hf,hI⟩ (by dsimp only;omega) ?_
     exact by_less
  ·
   rw[List.drop_eq_nil_of_le (by omega)]at hI
   simp only[runGo]at hI
   have hchl:∀ j,j≤d.writes.length→(chg m (d.writes.drop j)).length≤d.writes.length - j:=fun j _=>by
    have:=chg_len m (d.writes.drop j);simpa using this
   have hst0:StopA 33:=⟨rfl⟩
   try refine wkS ?_
   clear hst0
   refine Stop.go (CW.stut (stut_promote (i:=13) 77 4) ⟨rfl,rfl,trivial⟩ ?_)
   refine CW.stut (stut_promote (i:=14) 9 1) ⟨rfl,rfl,trivial⟩ ?_
   try refine wk ?_
   refine CW.loopT (fun t:Nat×List (Str×(Bool×Int))=>[sp 4 2,ob 2 done0.enc,sd 5 (.v nilS),sd 6 (.v nilS),sp 7 3,ob 3 e.enc,(.s 8,.av (.pd [.v (.map (some b0))])),(.o 4,.ob (.mp (encM m) (.map (some b0)))),
    so 13 6 t.2.length,oa 6 77 4 ((t.2.map chVer).map Version.enc),so 14 7 t.2.length,oa 7 9 1 ((t.2.map (·.1)).map encStr1),sd 162 (encStrs d.writes),sd 163 (dint d.writes.length),sd 164 (dint t.1),nxt 8])
    (fun t=>t.1≤d.writes.length∧t.2.length≤t.1∧t.2++chg m (d.writes.drop t.1)=chg m d.writes) (fun t=>d.writes.length - t.1) (0,[]) ⟨by omega,by simp,rfl⟩ ?_ ?_
   ·
    exact by_less
   ·
    rintro ⟨j,acc⟩ ⟨hj,hacc,hJ⟩
    dsimp only at hj hacc hJ ⊢
    rcases drop_case hj with ⟨h1,h2⟩|⟨k,h1,h2,h3⟩
    ·
     rw[h1,chg,List.append_nil]at hJ
     try refine wk ?_
     have hrc:runC view d=acc:=by
      unfold runC
      rw[← hI]
      dsimp only
      rw[if_neg (by rw[hf];simp),hJ]
     unfold runRes
     rw[hrc,← hI]
     exact .three (.cell rfl rfl rfl rfl (.aggd rfl (.refl _))) (.tmp rfl (.one (.own rfl (by simp) (.refl _)))) (.tmp rfl (.one (.own rfl (by simp) (.refl _))))
    ·
     rw[h1,chg]at hJ
     have hg:=mget_enc m k
     cases hmk:mG m k with
     |none =>
      rw[hmk]at hJ hg
      dsimp only at hJ
      have hl:mlook (chA (false,0)) (encM m) k=chA (false,0):=by simp[mlook,hg]
      have ha:=fun {d:Nat} {ty:TypeId} {pos:String} {af:Array Edge} {gd:Option (Nat×Bool)} {σ:St} {x y:Operand} {x0:Value} (hx) (hy) (ho) (hd)=>a_mlook (σ:=σ) (d:=d) (ty:=ty) (pos:=pos) (af:=af) (gd:=gd) (x:=x) (y:=y) (x0:=x0) 4 hmt flat0 (encM_one m) (k:=k) hx hy ho hd
      rw[hl,hg]at ha
      repeat(first|refine wa ?_|((with_reducible apply s5);(first|((with_reducible apply ha);(iterate 4 exact rfl))|exact by_oa|exact by_ca);exact by_g)|refine wb ?_)
      refine q_loopT (j+1,acc) ⟨by dsimp only;omega,by dsimp only;omega,hJ⟩ (by dsimp only;omega) ?_
      exact by_less
     |some c =>
      rw[hmk]at hJ hg
      dsimp only at hJ
      have hl:mlook (chA (false,0)) (encM m) k=chA c:=by simp[mlook,hg]
      have ha:=fun {d:Nat} {ty:TypeId} {pos:String} {af:Array Edge} {gd:Option (Nat×Bool)} {σ:St} {x y:Operand} {x0:Value} (hx) (hy) (ho) (hd)=>a_mlook (σ:=σ) (d:=d) (ty:=ty) (pos:=pos) (af:=af) (gd:=gd) (x:=x) (y:=y) (x0:=x0) 4 hmt flat0 (encM_one m) (k:=k) hx hy ho hd
      rw[hl,hg]at ha
      repeat(first|refine wa ?_|((with_reducible apply s5);(first|((with_reducible apply ha);(iterate 4 exact rfl))|exact by_oa|exact by_ca);exact by_g)|refine wb ?_)
      refine q_loopT (j+1,acc++[(k,c)]) ⟨by dsimp only;omega,by dsimp only;simp;omega,by rw[← hJ];simp⟩ (by dsimp only;omega) ?_
      exact by_less
theorem wrong_reads {d:Deed}(h:wrongDeed d=0):∀ i∈d.code,i.kind=1→i.key∈d.reads:=by
 intro i hi hk
 unfold wrongDeed at h
 by_cases h0:lsGo [d.reads,d.writes]=0
 ·
  rw[if_pos h0]at h
  by_cases hc:12 < d.code.length
  ·
   rw[if_pos hc]at h;simp at h
  ·
   rw[if_neg hc]at h
   obtain⟨j,hj⟩:=List.getElem?_of_mem hi
   have h:=codeGo_mem h j i hj
   unfold wrongIns at h
   rw[if_neg (show ¬ (i.kind < 1∨9 < i.kind) by omega)]at h
   have hh:has i.kind.toNat 107=true:=by rw[hk];decide
   split at h
   ·
    simp at h
   ·
    simp only[hh,hk,Bool.true_eq_false,if_false,if_true]at h
    rw[if_neg (show ¬ has (Int.toNat 1) 107=false by decide)]at h
    by_cases hi:isIn d.reads i.key=true
    ·
     exact isIn_true hi
    ·
     rw[if_neg hi]at h;simp at h
 ·
  rw[if_neg h0]at h;exact absurd h h0
end Go.Proofs.YtngnajknbeijjaaGreatDoor
namespace Go.AX
open Go.RowKit
variable {cx:Cx}{g:Nat→Value}{σ:St}{a:Act}{w:World}{nx:Nat}
variable {ty:TypeId}{pos:String}{af:Array Edge}{gd:Option (Nat×Bool)}{d:Nat}
def RdG (R:Value→AV→Prop) (cs:List Value) (ds:List AV):Prop :=
 cs.length=ds.length∧(∀ c∈cs,Value.oneCell' c=true)∧∀ (j:Nat) (c:Value) (x:AV),ds[j]? = some x→cs[j]? = some c→R c x
theorem RdG.splice {R:Value→AV→Prop}{cs ns:List Value}{ds es:List AV}{off:Nat}(h:RdG R cs ds) (hn:RdG R ns es) (hle:off+es.length≤ds.length):RdG R (splice cs off ns) (splice ds off es):=by
 obtain⟨h1,h2,h3⟩:=h
 obtain⟨n1,n2,n3⟩:=hn
 refine⟨by simp[AX.splice];omega,fun c hc=>?_,fun j c x hx hc=>?_⟩
 ·
  unfold AX.splice at hc
  rcases List.mem_append.1 hc with hc|hc
  ·
   rcases List.mem_append.1 hc with hc|hc
   ·
    exact h2 c (List.mem_of_mem_take hc)
   ·
    exact n2 c hc
  ·
   exact h2 c (List.mem_of_mem_drop hc)
 ·
  unfold AX.splice at hx hc
  rw[List.append_assoc]at hx hc
  have t1:(ds.take off).length=off:=by simp;omega
  have t2:(cs.take off).length=off:=by simp;omega
  rcases Nat.lt_or_ge j off with hj|hj
  ·
   rw[List.getElem?_append_left (by omega),List.getElem?_take,if_pos hj]at hx hc
   exact h3 j c x hx hc
  ·
   rw[List.getElem?_append_right (by omega),t1]at hx
   rw[List.getElem?_append_right (by omega),t2]at hc
   rcases Nat.lt_or_ge (j - off) es.length with hjn|hjn
   ·
    rw[List.getElem?_append_left hjn]at hx
    rw[List.getElem?_append_left (by omega)]at hc
    exact n3 _ c x hx hc
   ·
    rw[List.getElem?_append_right hjn,List.getElem?_drop]at hx
    rw[List.getElem?_append_right (by omega),List.getElem?_drop]at hc
    rw[n1]at hc
    exact h3 _ c x hx hc
def fillA (place:Nat→Option (Nat×Nat)):List AV→List (Nat×List AV)→Option (List AV)
 |ds,[]=>some ds
 |ds,(i,es)::r=>match place i with
  |none=>none
  |some (off,size)=>match Nat.beq es.length size with
   |false=>none
   |true=>match Nat.ble (off+es.length) ds.length with
    |false=>none
    |true=>fillA place (splice ds off es) r
theorem fillA_ok {R:Value→AV→Prop}{place:Nat→Option (Nat×Nat)}:∀ {ps:List (Nat×Value)}{qs:List (Nat×List AV)}{cs:Array Value}{ds out:List AV},
  ps.length=qs.length→(∀ (j:Nat) (p:Nat×Value) (q:Nat×List AV),ps[j]? = some p→qs[j]? = some q→p.1=q.1∧RdG R p.2.cells.toList q.2) →
  RdG R cs.toList ds→fillA place ds qs=some out→∃ cs',Instr.fill place cs ps=some cs'∧RdG R cs'.toList out
 | [],[],cs,ds,out,_,_,h,hf=>by
  simp only[fillA,Option.some.injEq]at hf
  subst hf
  exact⟨cs,rfl,h⟩
 |p::ps,(i,es)::qs,cs,ds,out,hl,hp,h,hf=>by
  obtain⟨hp1,hp2⟩:=hp 0 p (i,es) rfl rfl
  simp only[fillA]at hf
  split at hf
  ·
   cases hf
  ·
   next off size hpl =>
   split at hf
   ·
    cases hf
   ·
    next hb1 =>
    split at hf
    ·
     cases hf
    ·
     next hb2 =>
     have e1:es.length=size:=by simpa using hb1
     have e2:off+es.length≤ds.length:=by simpa using hb2
     have hsz:p.2.cells.size=es.length:=by have:=hp2.1;simpa using this
     have hcs:cs.size=ds.length:=by have:=h.1;simpa using this
     have hsp:=foldl_set off p.2.cells.toList 0 cs (by simp;omega)
     rw[Nat.add_zero]at hsp
     have hr:=h.splice hp2 e2
     rw[← hsp]at hr
     obtain⟨cs',h3,h4⟩:=fillA_ok (ps:=ps) (qs:=qs) (by simpa using hl) (fun j p q hj hq=>hp (j+1) p q (by simpa using hj) (by simpa using hq)) hr hf
     refine⟨cs',?_,h4⟩
     obtain⟨pi,pv⟩:=p
     simp only at hp1 hsz
     subst hp1
     simp only[Instr.fill,hpl,hsz,e1,ne_eq,not_true_eq_false,decide_false,Bool.false_or]
     rw[if_neg (by simp;omega)]
     rw[← h3]
     have hfo:pv.cells.zipIdx.foldl (fun(cs:Array Value) (x:Value×Nat)=>match x with|(c,j)=>cs.setIfInBounds (off+j) c) cs =
       List.foldl (fun(cs:Array Value) (x:Value×Nat)=>match x with|(c,j)=>cs.setIfInBounds (off+j) c) cs pv.cells.toList.zipIdx:=by
      rw[← Array.foldl_toList,Array.toList_zipIdx]
     rw[← hfo]
inductive PartsV (σ:St):List (Nat×Operand)→List (Nat×List AV)→List (Key×Val)→Prop
 |nil:PartsV σ [] [] []
 |cons {i:Nat} {x:Operand} {r:List (Nat×Operand)} {av:AV} {ds:List AV} {q:List (Nat×List AV)} {l lo:List (Key×Val)} (hx:ev σ x=some av) (hc:cellsOf av=some ds) (hl:nwRd av lo∧App σ lo) (hr:PartsV σ r q l) :
   PartsV σ ((i,x)::r) ((i,ds)::q) (rdOf x av++(lo++l))
inductive PartsW:List (Nat×Operand)→List (Nat×List AV)→List (Key×Val)→Prop
 |nil:PartsW [] [] []
 |cons {i:Nat} {x:Operand} {r:List (Nat×Operand)} {av:AV} {ds:List AV} {q:List (Nat×List AV)} {l lo:List (Key×Val)} (hx:EvS x av) (hc:cellsOf av=some ds) (hl:nwRd av lo) (hr:PartsW r q l) :
   PartsW ((i,x)::r) ((i,ds)::q) (rdOf x av++(lo++l))
theorem PartsV.out {ps:List (Nat×Operand)}{qs:List (Nat×List AV)}{l:List (Key×Val)}(h:PartsV σ ps qs l):PartsW ps qs l∧App σ l:=by
 induction h with
 |nil=>exact⟨.nil,trivial⟩
 |cons hx hc hl hr ih=>exact⟨.cons (ev_out hx).1 hc hl.1 ih.1,(ev_out hx).2.append (hl.2.append ih.2)⟩
theorem PartsW.ok (hs:SimG cx σ a w g nx) {ps:List (Nat×Operand)}{qs:List (Nat×List AV)}{l:List (Key×Val)}(h:PartsW ps qs l) (ha:App σ l) :
  (ps.map fun p=>(p.1,a.eval p.2)).length=qs.length ∧
  (∀ (j:Nat) (p:Nat×Value) (q:Nat×List AV),(ps.map fun p=>(p.1,a.eval p.2))[j]? = some p→qs[j]? = some q→p.1=q.1∧RdG (Rep1 cx g σ w) p.2.cells.toList q.2) ∧
  ∀ q∈qs,∀ av∈q.2,av.bd1 nx:=by
 induction h with
 |nil=>exact⟨rfl,fun j p q h=>by simp at h,by simp⟩
 |cons hx hc hl hr ih =>
  obtain⟨h1,h2,h3⟩:=ih ha.right.right
  obtain⟨hrep,hbd⟩:=hs.ev hx ha.left
  obtain⟨c1,c2,c3,c4⟩:=cells_of hrep hbd hc (one_of hs hrep (newest_of hl ha.right.left))
  refine⟨by simpa using h1,fun j p q hj hq=>?_,fun q hq=>?_⟩
  ·
   cases j with
   |zero =>
    simp at hj hq
    subst hj hq
    refine⟨rfl,by simpa using c1,fun c hc=>?_,fun j c x hx hc=>c3 j c x hx (by simpa using hc)⟩
    obtain⟨j,hj⟩:=List.getElem?_of_mem hc
    exact c2 j c (by simpa using hj)
   |succ j=>exact h2 j p q (by simpa using hj) (by simpa using hq)
  ·
   rcases List.mem_cons.1 hq with rfl|hq
   ·
    exact c4
   ·
    exact h3 q hq
theorem zero_g {zs:List Value}(h1:∀ c∈zs,Value.oneCell' c=true):RdG (Rep1 cx g σ w) zs (zs.map fun c=>AV.d (.v c)) :=
 ⟨by simp,h1,fun j c x hx hc=>by
  rw[List.getElem?_map,hc]at hx
  obtain rfl:AV.d (.v c)=x:=by simpa using hx
  exact Rd.v c⟩
theorem fillA_bd {place:Nat→Option (Nat×Nat)}:∀ {qs:List (Nat×List AV)}{ds out:List AV},(∀ av∈ds,av.bd1 nx)→(∀ q∈qs,∀ av∈q.2,av.bd1 nx)→fillA place ds qs=some out→∀ av∈out,av.bd1 nx
 | [],ds,out,h,_,hf=>by
  simp only[fillA,Option.some.injEq]at hf
  subst hf;exact h
 |(i,es)::qs,ds,out,h,hq,hf=>by
  simp only[fillA]at hf
  split at hf
  ·
   cases hf
  ·
   next off size hpl =>
   split at hf
   ·
    cases hf
   ·
    split at hf
    ·
     cases hf
    ·
     refine fillA_bd (fun av hav=>?_) (fun q hq'=>hq q (List.mem_cons_of_mem _ hq')) hf
     unfold splice at hav
     rcases List.mem_append.1 hav with hav|hav
     ·
      rcases List.mem_append.1 hav with hav|hav
      ·
       exact h av (List.mem_of_mem_take hav)
      ·
       exact hq _ (List.mem_cons_self ..) av hav
     ·
      exact h av (List.mem_of_mem_drop hav)
theorem ok_buildA {t:TypeId}{ps:List (Nat×Operand)}{qs:List (Nat×List AV)}{l:List (Key×Val)}{ti:TI}{place:Nat→Option (Nat×Nat)}{out:List AV}(hn:d < cx.n) (ht:tget cx.T t=some ti)
  (hk:stPlace ti=some place) (h1:∀ c∈ti.zero,Value.oneCell' c=true) (hp:PartsW ps qs l) (hf:fillA place (ti.zero.map fun c=>AV.d (.v c)) qs=some out) :
  OpOk cx ⟨some d,.build t ⟨ps⟩,ty,pos,af,gd⟩ ⟨l,[(.s d,.av (.agg out))]⟩:=by
 refine ok_val rfl hn fun σ a w g nx hs hr=>?_
 have hF:=cx.hT t ti ht
 obtain⟨i,hi,_,_,z,hz,hzc⟩:=hF.info
 unfold stPlace at hk
 split at hk
 ·
  next fs hkd =>
  cases hk
  have hkk:=hF.kind
  rw[hkd]at hkk
  obtain⟨b,hu,hbl,hg⟩:=hkk
  have hpl:b.toList.mapM (fun f=>(cx.P.info? f.type).map fun i=>(f.offset,i.size))=some fs:=by
   have key:∀ (bl:List Field) (fl:List (Nat×Nat)),bl.length=fl.length→(∀ (j:Nat) (p:Nat×Nat),fl[j]? = some p→∃ (f:Field) (i:TypeInfo),bl[j]? = some f∧f.offset=p.1∧cx.P.info? f.type=some i∧i.size=p.2) →
     bl.mapM (fun f=>(cx.P.info? f.type).map fun i=>(f.offset,i.size))=some fl:=by
    intro bl
    induction bl with
    |nil=>intro fl hl _;cases fl with
     |nil=>rfl
     |cons p fl=>simp at hl
    |cons f bl ih=>intro fl hl hh;cases fl with
     |nil=>simp at hl
     |cons p fl =>
      obtain⟨f',i',e1,e2,e3,e4⟩:=hh 0 p rfl
      simp at e1
      subst e1
      have:=ih fl (by simpa using hl) fun j q hq=>by
       obtain⟨f',i',e⟩:=hh (j+1) q (by simpa using hq)
       exact⟨f',i',by simpa using e⟩
      simp[List.mapM_cons,e3,this,e2,e4]
   exact key b.toList fs (by simpa using hbl) fun j p hj=>by
    obtain⟨f,i,e1,e2,e3,e4,_⟩:=hg j p hj
    exact⟨f,i,by simpa using e1,e2,e3,e4⟩
  obtain⟨h2,h3,h8⟩:=hp.ok hs hr
  obtain⟨cs',h4,h5,h6,h7⟩:=fillA_ok (cs:=z.cells) h2 h3 (by rw[hzc];exact zero_g h1) hf
  have hb:cx.P.built t (ps.map fun p=>(p.1,a.eval p.2))=some cs':=by
   simp only[Program.built,hi,hu,hz,hpl]
   rw[← h4]
   congr 1
   funext j
   simp
  have hrun:=run_build (P:=cx.P) w t (ps.map fun p=>(p.1,a.eval p.2)).toArray cs' (by simpa using hb)
  refine⟨.agg cs',w,?_,Below.refl _ _,⟨cs',rfl,by simpa using h5,fun j c hj=>h6 c (List.mem_of_getElem? (by simpa using hj)),fun j c x hx hc=>h7 j c x hx (by simpa using hc)⟩,fillA_bd (fun av hav=>by obtain⟨z,_,rfl⟩:=List.mem_map.1 hav;trivial) h8 hf⟩
  simp only[execOp,List.map_toArray,Sem.run_bind,hrun,Result.andThen_ok,Sem.run_pure]
 ·
  cases hk
theorem a_buildA {t:TypeId}{ps:List (Nat×Operand)}{qs:List (Nat×List AV)}{l:List (Key×Val)}{ti:TI}{place:Nat→Option (Nat×Nat)}{out:List AV}(ht:tget cx.T t=some ti)
  (hk:stPlace ti=some place) (h1:(ti.zero.all Value.oneCell')=true) (hd:Nat.blt d cx.n=true) (hp:PartsV σ ps qs l) (hf:fillA place (ti.zero.map fun c=>AV.d (.v c)) qs=some out) :
  OA cx σ ⟨some d,.build t ⟨ps⟩,ty,pos,af,gd⟩ ⟨l,[(.s d,.av (.agg out))]⟩ :=
 ⟨ok_buildA (lt_of_blt hd) ht hk (fun c hc=>List.all_eq_true.1 h1 c hc) hp.out.1 hf,hp.out.2⟩
end Go.AX
namespace Go.AX
open Go.RowKit
variable {cx:Cx}{g:Nat→Value}{σ:St}{a:Act}{w w':World}{nx:Nat}
variable {ty:TypeId}{pos:String}{af:Array Edge}{gd:Option (Nat×Bool)}{d:Nat}
theorem stut_reserve:Stut cx ⟨[(.nx,.num nx)],[(.o nx,.ob .res),(.nx,.num (nx+1))]⟩:=by
 rintro σ a w ⟨g,n',hs⟩ hr
 have hnx:n'=nx:=by
  have h2:=hr.1
  rw[hs.hnx]at h2
  simpa using h2
 subst hnx
 exact⟨_,_,SimG.obj (o' := .res) (hv:=nilS) hs ⟨.inl ⟨rfl,rfl⟩,Below.refl _ _,fun b _ _=>rfl,fun b hb=>by simp[blk]at hb⟩ (fun _=>upd_same _ _ _) trivial⟩
theorem resBox {cs:Array Value}{cells:List AV}{t:TypeId}{id:Nat}(hs:SimG cx σ a w g nx) (hn:d < cx.n) (ho:get σ (.o id) = .ob .res) (hsz:cs.size=cells.length)
  (h1:∀ (j:Nat) (c:Value),cs[j]? = some c→c.oneCell'=true) (hr:∀ (j:Nat) (c:Value) (av:AV),cells[j]? = some av→cs[j]? = some c→Rep1 cx g σ w c av)
  (hbd:∀ av∈cells,av.bd1 nx) :
  Sim cx ([(.s d,.av (.ptr id 0)),(.o id,.ob (.box cells))]++σ) (a.put (some d) (.pointer (some ⟨w.heap.size,0,none⟩))) (w.alloc (.cells cs t)):=by
 have hid:=(hs.objs id _ ho).1
 have hnil:g id=nilS:=(hs.objs id _ ho).2.1
 have hst:ObjStep cx σ g nx nx w (w.alloc (.cells cs t)) id (.box cells) (.pointer (some ⟨w.heap.size,0,none⟩)):=by
  refine⟨.inr ⟨rfl,_,ho,trivial⟩,(Below.refl _ _).alloc hs.below.size _,fun b hb _=>Below.heap_alloc _ _ _ hb,fun b hb => .inr ?_⟩
  obtain rfl:w.heap.size=b:=by simpa[blk] using hb
  exact Nat.le_refl _
 have hG:=SimG.obj hs hst (fun hl=>?_) hbd
 ·
  refine Sim.eqv (Sim.put hG hn (Below.refl _ _) (av := .ptr id 0) ⟨.of get_cons_same,fun cells' hc=>⟨w.heap.size,upd_same _ _ _,rfl⟩⟩ hid) fun q=>?_
  cases q with
  |s i =>
   by_cases hi:i=d
   ·
    subst hi;rw[get_cons_same];exact get_cons_same.symm
   ·
    rw[get_cons_ne (by simpa using fun e=>hi e.symm),objSt_s]
    exact((get_cons_ne (by simpa using fun e=>hi e.symm)).trans (get_cons_ne (by simp))).symm
  |o i =>
   rw[get_cons_ne (by simp)]
   by_cases hi:i=id
   ·
    subst hi;rw[get_cons_same];exact((get_cons_ne (by simp)).trans get_cons_same).symm
   ·
    rw[objSt_o hi]
    exact((get_cons_ne (by simp)).trans (get_cons_ne (by simpa using fun e=>hi e.symm))).symm
  |nx =>
   rw[get_cons_ne (by simp),objSt_nx]
   exact(((get_cons_ne (by simp)).trans (get_cons_ne (by simp))).trans hs.hnx).symm
 ·
  refine⟨w.heap.size,cs,t,upd_same _ _ _,hs.below.size,?_,hsz,h1,fun j c av hj hc=>(hr j c av hj hc).step hl (hbd av (List.mem_of_getElem? hj))⟩
  exact heap_alloc_new w _
theorem a_allocR {t:TypeId}{ti:TI}(id:Nat) (ho:get σ (.o id) = .ob .res) (ht:tget cx.T t=some ti) (h1:(ti.zero.all Value.oneCell')=true) (hd:Nat.blt d cx.n=true) :
  OA cx σ ⟨some d,.alloc t,ty,pos,af,gd⟩ ⟨[(.o id,.ob .res)],[(.s d,.av (.ptr id 0)),(.o id,.ob (.box (ti.zero.map fun c=>AV.d (.v c))))]⟩:=by
 refine⟨?_,ho,trivial⟩
 rintro σ a w K Q ⟨g,nx,hs⟩ hr hK
 obtain⟨z,hz,hc⟩:=zero_of (cx.hT t ti ht) w
 refine wp_val rfl (v := .pointer (some ⟨w.heap.size,0,none⟩)) (w':=w.alloc (.cells z.cells t)) ?_ (hK _ _ (resBox hs (lt_of_blt hd) hr.1 ?_ (fun j c hj=>?_) (fun j c av hj hcj=>?_) fun av hav=>?_))
 ·
  simp[execOp,Instr.alloc,hz,newVar,newRow]
 ·
  rw[List.length_map,← hc,Array.length_toList]
 ·
  exact List.all_eq_true.1 h1 c (by rw[← hc];exact List.mem_of_getElem? (by simpa using hj))
 ·
  rw[List.getElem?_map,← hc]at hj
  have:z.cells.toList[j]? = some c:=by simpa using hcj
  rw[this]at hj
  obtain rfl:AV.d (.v c)=av:=by simpa using hj
  exact Rd.v c
 ·
  obtain⟨c,_,rfl⟩:=List.mem_map.1 hav
  trivial
end Go.AX
namespace Go.Proofs.YtngnajknbeijjaaGreatDoor
open Go.AX Go.RF
set_option maxRecDepth 100000
set_option maxHeartbeats 8000000
abbrev ownE (e:Engine):List Part:=[.d (encChains e.chains),.own 42 3 (e.deeds.map Deed.enc),.own 3 1 (e.state.map encInt1),.own 86 5 (e.ends.map Done.enc),.d (dint e.base)]
theorem news_planOwn (e:Engine) (hs:e.Sm):FnNews Tryz.prog 12 [.d (.agg e.enc)] (ownE e):=by
 refine fnNews_of tbl_ok mixed_ok Tryz.func12 rfl (by kernel_rfl) rfl rfl fun w0 own0=>?_
 have h1:=hs.c
 have h2:=hs.s
 have h3:=hs.n
 have h4:=hs.d
 have c1:=ok_chainOwn e.chains (by omega) (fun c hc=>by have:=hs.v c hc;omega)
 have c2:=new_clone_int (e.state.map encInt1) (by simp;omega)
 have c3:=new_clone_done (e.ends.map Done.enc) (by simp;omega)
 have hst0:StopR 1:=⟨rfl⟩
 try refine wkS ?_
 clear hst0
 refine Stop.go (CW.stut stut_reserve ⟨rfl,trivial⟩ ?_)
 repeat(first|((with_reducible apply s5);(with_reducible apply(a_allocR 2));exact rfl;exact rfl;exact rfl;exact rfl;exact by_g)|refine wa1 ?_|((with_reducible apply s5);(first|((with_reducible apply a_buildA);(iterate 4 exact rfl);(repeat(first|exact PartsV.nil|(apply PartsV.cons;exact rfl;exact rfl;(first|exact⟨rfl,trivial⟩|(apply nw_own;exact rfl;(focus first|exact rfl|(simp;done)|(simp;omega)))))));exact rfl)|exact a_callnew c2 rfl rfl by_sub|exact a_callnew c3 rfl rfl by_sub|exact by_oa|exact by_ca);exact by_g)|refine wb ?_)
 refine CW.stut (stut_promote_cell (id:=2) (j:=1) 42 3 rfl) ⟨rfl,rfl,trivial⟩ ?_
 refine CW.loopT (fun i:Nat=>[sp 2 1,ob 1 noE.enc0,sp 3 2,(.o 2,.ob (.box [.d (encChains e.chains),.own 5 i,.own 3 (e.state.map encInt1).length,.own 4 (e.ends.map Done.enc).length,.d (dint e.base)])),sd 19 (encDeeds e.deeds),sd 20 (dint e.deeds.length),sd 21 (dint i),
   oa 3 3 1 (e.state.map encInt1),oa 4 86 5 (e.ends.map Done.enc),oa 5 42 3 ((e.deeds.take i).map Deed.enc),nxt 6]) (fun i=>i≤e.deeds.length) (fun i=>e.deeds.length - i) 0 (by omega) ?_ ?_
 ·
  exact by_less
 ·
  rintro i hi
  rcases drop_case hi with ⟨h5,h6⟩|⟨d,h5,h6,h7⟩
  ·
   have h8:(e.deeds.take i).map Deed.enc=e.deeds.map Deed.enc:=by rw[h6,List.take_length]
   rw[h8]
   try refine wk ?_
   refine .cell rfl rfl rfl rfl (.cons .d (.cons (.own rfl (by simp;omega)) (.cons (.own rfl (by simp)) (.cons (.own rfl (by simp)) (.cons .d .nil))))) (show([5,3,4]:List Nat).Nodup by decide)
  ·
   have h8:(e.deeds.take i).map Deed.enc++[d.enc]=(e.deeds.take (i+1)).map Deed.enc:=by rw[List.take_add_one,h6];simp
   have hd:=ok_deedOwn d (hs.dd d (List.mem_of_getElem? h6))
   try refine wk ?_
   refine q_loopT (i+1) (by omega) (by omega) ?_
   exact by_less
end Go.Proofs.YtngnajknbeijjaaGreatDoor
namespace Go.Proofs.YtngnajknbeijjaaGreatDoor
open Go.AX Go.RF Go.RowKit Go.Shelf
attribute [local go_sem] Oper.semAt_some
def verV (v:Version):Value := .agg #[.int .i64 v.by_,.bool v.made,.bool v.has,.int .i64 v.n]
def verC (v:Version) (j:Nat):Value:=match j with
 |0 => .int .i64 v.by_
 |1 => .bool v.made
 |2 => .bool v.has
 |_ => .int .i64 v.n
def back (vs:List Version) (k:Nat):List (Nat×Version):=(List.range k).map fun j=>(vs.length - 1 - j,vs[vs.length - 1 - j]?.getD ⟨0,false,false,0⟩)
theorem back_succ (vs:List Version) (k:Nat):back vs (k+1)=back vs k++[(vs.length - 1 - k,vs[vs.length - 1 - k]?.getD ⟨0,false,false,0⟩)]:=by simp[back,List.range_succ]
theorem back_length (vs:List Version) (k:Nat):(back vs k).length=k:=by simp[back]
def VerAt (n₀:Nat) (W:World) (ad:Addr) (vs:List Version):Prop:=ad.block < n₀∧∀ (i j:Nat) (v:Version),vs[i]? = some v→j < 4→W.cell? (ad.add (i*4+j))=some (verC v j)
theorem VerAt.below {n₀:Nat}{A B:World}{ad:Addr}{vs:List Version}(h:VerAt n₀ A ad vs) (hb:Below n₀ A B):VerAt n₀ B ad vs :=
 ⟨h.1,fun i j v hi hj=>(hb.cell (by rw[add_block];exact h.1)).trans (h.2 i j v hi hj)⟩
theorem ver_cells {n₀:Nat}{W:World}{ad:Addr}{vs:List Version}(h:VerAt n₀ W ad vs) {i:Nat}{v:Version}(hi:vs[i]? = some v) :
  W.cell? (ad.add (i*4))=some (.int .i64 v.by_)∧W.cell? ⟨(ad.add (i*4)).block,(ad.add (i*4)).off+1,none⟩=some (.bool v.made) ∧
   W.cell? ⟨(ad.add (i*4)).block,(ad.add (i*4)).off+2,none⟩=some (.bool v.has)∧W.cell? ⟨(ad.add (i*4)).block,(ad.add (i*4)).off+3,none⟩=some (.int .i64 v.n):=by
 have hx:∀ j,j < 4→W.cell? ((ad.add (i*4)).add j)=some (verC v j):=fun j hj=>by rw[add_add];exact h.2 i j v hi hj
 exact⟨hx 0 (by omega),hx 1 (by omega),hx 2 (by omega),hx 3 (by omega)⟩
set_option maxRecDepth 100000 in
set_option maxHeartbeats 2000000 in
theorem backward1_in (F:Fence) (n:Nat) (hF:F.fn 101) (hro:F.round=none) (hn:1≤n) (l Bs n₀ cap:Nat) (ad:Addr) (vs:List Version) (hreach:vs.length≤268435456) (J Jx:List (Nat×Version)→World→Prop)
  (hY:∀ pre x W,J pre W→pre.length < vs.length→YieldAt F (n - 1) Tryz.prog l #[.int .i64 (x.1:Int),verV x.2] W fun e W' =>
   (e = .returned (.bool true)∧J (pre++[x]) W'∧Below n₀ W W')∨(e = .returned (.bool false)∧Jx (pre++[x]) W'))
  (W:World) (hBs:W.cell? ⟨Bs,0,none⟩=some (.slice (some ad) vs.length cap)) (hBl:Bs < n₀) (hc:VerAt n₀ W ad vs) (h0:J [] W) :
  CallsIn F n Tryz.prog 101 #[.func (.yield l) #[] #[],.pointer (some ⟨Bs,0,none⟩)] W fun e W'=>(∃ v,e = .returned v) ∧
   ((∃ ys,ys=back vs vs.length∧J ys W')∨(∃ pre,(∃ k,k≤vs.length∧pre=back vs k)∧Jx pre W')):=by
 refine callsIn_of_wp Tryz.func101 rfl hF ?_ hro
 simp only[Tryz.ntmps101,List.size_toArray,List.length_cons,List.length_nil,Nat.reduceAdd,Nat.reduceSub,Array.replicate_succ,Array.replicate_zero,List.push_toArray,List.append_toArray,List.nil_append,List.cons_append]
 gi_wp2
 gi_loopw [3] (fun i wr=>∃ k:Nat,k≤vs.length∧i = .int .i64 ((vs.length:Int) - 1 - k)∧J (back vs k) wr∧Below n₀ W wr)
  (fun i _=>(intOf i+1).toNat)
 case atStart=>exact⟨0,Nat.zero_le _,by simp,h0,Below.refl _ _⟩
 case round =>
  obtain⟨k,hk,rfl,hJs,hnx⟩:=hrel
  by_cases hlt:k < vs.length
  ·
   obtain⟨i,hi,hi2⟩:∃ i:Nat,(vs.length:Int) - 1 - k=i∧i=vs.length - 1 - k:=⟨vs.length - 1 - k,by omega,rfl⟩
   obtain⟨v,hv⟩:∃ v,vs[i]? = some v:=⟨vs[i]'(by omega),List.getElem?_eq_getElem (by omega)⟩
   have hB2:wr.cell? ⟨Bs,0,none⟩=some (.slice (some ad) vs.length cap):=(hnx.cell (p:=⟨Bs,0,none⟩) hBl).trans hBs
   obtain⟨hc0,hc1,hc2,hc3⟩:=ver_cells (hc.below hnx) hv
   obtain⟨fn,tmps,assign,body,hy,hR⟩:=hY _ (i,v) wr hJs (by rw[back_length];exact hlt)
   dsimp only at hy
   have hi0:(0:Int)≤(i:Int):=by omega
   have hlen:i < vs.length:=by omega
   have hnext:back vs k++[(i,v)]=back vs (k+1):=by rw[back_succ,← hi2,hv];rfl
   rw[hi]
   clear hi2
   unfold verV at hy
   gi_wp2
   refine hR.mono ?_
   rintro e W3 (⟨rfl,hJ3,hk3⟩|⟨rfl,hJx3⟩)
   ·
    gi_wp2
    go_roundw
    case rel=>exact⟨k+1,by omega,by congr 1 <;> omega,by rw[← hnext];exact hJ3,hnx.trans hk3⟩
    case measure=>simp[intOf] <;> omega
   ·
    gi_wp2
    refine bodyPost_ret (results_none rfl _ _ _) rfl ?_
    exact⟨⟨_,rfl⟩,.inr ⟨_,⟨k+1,by omega,hnext⟩,hJx3⟩⟩
  ·
   obtain rfl:k=vs.length:=by omega
   have hi:(vs.length:Int) - 1 - vs.length = -1:=by omega
   rw[hi]
   gi_wp2
   go_end0
   exact⟨⟨_,rfl⟩,.inl ⟨_,rfl,hJs⟩⟩
set_option maxRecDepth 100000 in
set_option maxHeartbeats 1000000 in
theorem backward1_nil_in (F:Fence) (n:Nat) (hF:F.fn 101) (hro:F.round=none) (l Bs cap:Nat) (p:Option Addr) (J:List (Nat×Version)→World→Prop) (W:World) (hBs:W.cell? ⟨Bs,0,none⟩=some (.slice p 0 cap)) (h0:J [] W) :
  CallsIn F n Tryz.prog 101 #[.func (.yield l) #[] #[],.pointer (some ⟨Bs,0,none⟩)] W fun e W'=>(∃ v,e = .returned v)∧J [] W':=by
 refine callsIn_of_wp Tryz.func101 rfl hF ?_ hro
 simp only[Tryz.ntmps101,List.size_toArray,List.length_cons,List.length_nil,Nat.reduceAdd,Nat.reduceSub,Array.replicate_succ,Array.replicate_zero,List.push_toArray,List.append_toArray,List.nil_append,List.cons_append]
 gi_wp2
 gi_loopw [3] (fun i wr=>i = .int .i64 (-1)∧J [] wr) (fun _ _=>0)
 case atStart=>exact⟨rfl,h0⟩
 case round =>
  obtain⟨rfl,hJs⟩:=hrel
  gi_wp2
  go_end0
  exact⟨⟨_,rfl⟩,hJs⟩
set_option maxHeartbeats 1000000 in
theorem backward_in (F:Fence) (n:Nat) (hF:F.fn 80) (hro:F.round=none) (a:Option Addr) (len cap:Nat) (w:World) :
  CallsIn F n Tryz.prog 80 #[.slice a len cap] w fun e w'=>e = .returned (.func (.func 101) #[] #[.pointer (some ⟨w.heap.size,0,none⟩)])∧w'=w.alloc (.cells #[.slice a len cap] 78):=by
 refine callsIn_of_wp Tryz.func80 rfl hF ?_ hro
 simp only[Tryz.ntmps80,List.size_toArray,List.length_cons,List.length_nil,Nat.reduceAdd,Nat.reduceSub,Array.replicate_succ,Array.replicate_zero,List.push_toArray,List.append_toArray,List.nil_append,List.cons_append]
 gi_wp2
 go_ret
 exact⟨rfl,rfl⟩
def Vers (n₀:Nat) (W:World) (sv:Value) (vs:List Version):Prop :=
 ∃ p cap,sv = .slice p vs.length cap∧(vs=[]∨∃ ad,p=some ad∧VerAt n₀ W ad vs)
theorem Vers.below {n₀:Nat}{A B:World}(h:Below n₀ A B) {sv:Value}{vs:List Version}:Vers n₀ A sv vs→Vers n₀ B sv vs
 |⟨p,cap,e,.inl h0⟩=>⟨p,cap,e,.inl h0⟩
 |⟨p,cap,e,.inr ⟨ad,h1,h2⟩⟩=>⟨p,cap,e,.inr ⟨ad,h1,h2.below h⟩⟩
theorem Vers.mono {n₀ n₁:Nat}{A:World}(h:n₀≤n₁) {sv:Value}{vs:List Version}:Vers n₀ A sv vs→Vers n₁ A sv vs
 |⟨p,cap,e,.inl h0⟩=>⟨p,cap,e,.inl h0⟩
 |⟨p,cap,e,.inr ⟨ad,h1,h2⟩⟩=>⟨p,cap,e,.inr ⟨ad,h1,⟨Nat.lt_of_lt_of_le h2.1 h,h2.2⟩⟩⟩
theorem backward_stops (F:Fence) (n:Nat) (hF:F.fn 101) (hro:F.round=none) (hn:1≤n) (Bs n₀:Nat) (sv:Value) (vs:List Version) (hreach:vs.length≤268435456) (w:World) (hBs:Bs < n₀) (hn₀:n₀≤w.heap.size)
  (hc:w.cell? ⟨Bs,0,none⟩=some sv) (hI:Vers n₀ w sv vs) :
  SeqStopsK F n Tryz.prog 101 #[.pointer (some ⟨Bs,0,none⟩)] (fun x:Nat×Version => #[Value.int .i64 (x.1:Int),verV x.2]) (Below n₀) (fun ys=>ys=back vs vs.length)
   (fun pre=>∃ k,k≤vs.length∧pre=back vs k) vs.length w:=fun l J Jx W hW _ _ hY h0=>by
 have hc':=(hW.cell (p:=⟨Bs,0,none⟩) (show Bs < w.heap.size by omega)).trans hc
 obtain⟨p,cap,rfl,rfl|⟨ad,rfl,hv⟩⟩:=hI.below (hW.mono hn₀)
 ·
  exact(backward1_nil_in F n hF hro l Bs cap p J W hc' h0).mono fun e W' ⟨he,hj⟩=>⟨he,.inl ⟨_,rfl,hj⟩⟩
 ·
  exact backward1_in F n hF hro hn l Bs n₀ cap ad vs hreach J Jx hY W hc' hBs hv h0
attribute [local go_sem] Oper.semAt_some
def AllGe (b:Int) (pre:List (Nat×Version)):Prop:=∀ x∈pre,b≤x.2.by_
def Hit (b:Int) (pre:List (Nat×Version)) (v:Version):Prop:=∃ ini i,pre=ini++[(i,v)]∧AllGe b ini∧v.by_ < b
theorem AllGe.snoc {b:Int}{pre:List (Nat×Version)}(h:AllGe b pre) {i:Nat}{v:Version}(hv:b≤v.by_):AllGe b (pre++[(i,v)]):=fun x hx=>by
 rcases List.mem_append.1 hx with hx|hx
 ·
  exact h x hx
 ·
  simp at hx;subst hx;exact hv
def Box4 (W:World) (B:Nat) (v:Version):Prop:=W.heap[B]? = some (.cells #[.int .i64 v.by_,.bool v.made,.bool v.has,.int .i64 v.n] 77 (0,0))
theorem Box4.lt {W:World}{B:Nat}{v:Version}(h:Box4 W B v):B < W.heap.size:=(Array.getElem?_eq_some_iff.1 h).1
theorem Box4.cells {W:World}{B:Nat}{v:Version}(h:Box4 W B v):W.cell? ⟨B,0,none⟩=some (.int .i64 v.by_)∧W.cell? ⟨B,1,none⟩=some (.bool v.made)∧W.cell? ⟨B,2,none⟩=some (.bool v.has)∧W.cell? ⟨B,3,none⟩=some (.int .i64 v.n):=by
 have h':W.heap[B]? = _:=h
 refine⟨?_,?_,?_,?_⟩ <;> simp[World.cell?,h']
theorem Box4.frozens {W:World}{B:Nat}{v:Version}(h:Box4 W B v):W.frozen? ⟨B,0,none⟩=false∧W.frozen? ⟨B,1,none⟩=false∧W.frozen? ⟨B,2,none⟩=false∧W.frozen? ⟨B,3,none⟩=false:=by
 have h':W.heap[B]? = _:=h
 refine⟨?_,?_,?_,?_⟩ <;> simp[World.frozen?,h']
theorem Box4.kept {W W':World}{row:Option Nat}{B:Nat}{v:Version}(h:Box4 W B v) (hg:W.grownBy W' row) (hne:some B≠row):Box4 W' B v:=(hg.block B h.lt hne).trans h
theorem Box4.alloc {W:World}{B:Nat}{v:Version}(h:Box4 W B v) (o:Obj):Box4 (W.alloc o) B v:=h.kept (World.grownBy_alloc W o none) (by simp)
theorem Box4.below {n:Nat}{W W':World}{B:Nat}{v:Version}(h:Box4 W B v) (hb:Below n W W') (hB:B < n):Box4 W' B v:=(hb.block B hB).trans h
theorem box4_own (B:Nat) {β:Type}(f:β→Version):Own (fun s W=>Box4 W B (f s)):=fun s X Y row hs hg hrow =>
 Box4.kept hs hg (fun e=>by
  obtain⟨o,ho,hc⟩:=hrow B e.symm
  rw[show X.heap[B]? = _ from hs]at ho
  cases ho
  simp[Obj.isCells]at hc)
theorem sets_box {W:World}{B:Nat}{v:Version}(h:Box4 W B v) (u:Version) :
  Box4 ((((W.setCell ⟨B,0,none⟩ (.int .i64 u.by_)).setCell ⟨B,1,none⟩ (.bool u.made)).setCell ⟨B,2,none⟩ (.bool u.has)).setCell ⟨B,3,none⟩ (.int .i64 u.n)) B u:=by
 have h':W.heap[B]? = _:=h
 simp[Box4,World.setCell,Array.getElem?_modify,h']
theorem sets_keeps (W:World) (B:Nat) (a b c d:Value):KeepsOthers W ((((W.setCell ⟨B,0,none⟩ a).setCell ⟨B,1,none⟩ b).setCell ⟨B,2,none⟩ c).setCell ⟨B,3,none⟩ d) :=
 (((KeepsOthers.setCell W _ _).trans (KeepsOthers.setCell _ _ _)).trans (KeepsOthers.setCell _ _ _)).trans (KeepsOthers.setCell _ _ _)
theorem sets_below {W:World}{n B:Nat}{a b c d:Value}(h:n≤B):Below n W ((((W.setCell ⟨B,0,none⟩ a).setCell ⟨B,1,none⟩ b).setCell ⟨B,2,none⟩ c).setCell ⟨B,3,none⟩ d) :=
 ((((Below.refl n W).setCell (p:=⟨B,0,none⟩) h _).setCell (p:=⟨B,1,none⟩) h _).setCell (p:=⟨B,2,none⟩) h _).setCell (p:=⟨B,3,none⟩) h _
theorem results_box {W:World}{B:Nat}{v:Version}{x:Array Value}(c0:W.cell? ⟨B,0,none⟩=some (.int .i64 v.by_)) (c1:W.cell? ⟨B,1,none⟩=some (.bool v.made)) (c2:W.cell? ⟨B,2,none⟩=some (.bool v.has)) (c3:W.cell? ⟨B,3,none⟩=some (.int .i64 v.n))
  (hx:x[6]? = some (.pointer (some ⟨B,0,none⟩)):=by rfl):(results Tryz.f48 x).run Tryz.prog W = .ok (verV v) W:=by
 simp[results,Tryz.f48,go_sem,hx,c0,c1,c2,c3,verV,Act.eval,Array.getD_eq_getD_getElem?]
set_option maxRecDepth 100000 in
set_option maxHeartbeats 4000000 in
theorem before_raw (m:Nat) (by_:Int) (k:ByteArray) (ad:Addr) (n cp:Nat) (sv:Value) (vs:List Version) (w:World) (hm:m < n) (had:ad.block < w.heap.size)
  (hcell:w.cell? (ad.add (m*2+1))=some sv) (hvs:Vers w.heap.size w sv vs) (hreach:vs.length≤268435456)
  (hf:∀ W:World,w.heap.size≤W.heap.size→Below w.heap.size w W→Calls Tryz.prog 74 #[.slice (some ad) n cp,.string k] W fun e W'=>e = .returned (.tuple #[.int .i64 (m:Int),.bool true])∧Below W.heap.size W W') :
  Calls Tryz.prog 48 #[.slice (some ad) n cp,.string k,.int .i64 by_] w fun e W' =>
   ((e = .returned (verV noV)∧AllGe by_ (back vs vs.length))∨∃ k v,k≤vs.length∧Hit by_ (back vs k) v∧e = .returned (verV v))∧Below w.heap.size w W':=by
 refine(callsIn_wide (n:=3)).1 ?_
 refine callsIn_of_wp_marks Tryz.func48 rfl trivial ?_
 simp only[Tryz.ntmps48,List.size_toArray,List.length_cons,List.length_nil,Nat.reduceAdd,Nat.reduceSub,Array.replicate_succ,Array.replicate_zero,List.push_toArray,List.append_toArray,List.nil_append,List.cons_append]
 have hB1:Below w.heap.size w ((w.alloc (.cells #[.int .i64 by_] 3)).alloc (.cells #[.int .i64 0,.bool false,.bool false,.int .i64 0] 77)):=((Below.refl _ w).alloc (Nat.le_refl _) _).alloc (by simp) _
 have hf1:=hf _ hB1.size hB1
 obtain⟨p,cap,rfl,hvs1⟩:=hvs
 have hcell':w.cell? ⟨(ad.add (m*2)).block,(ad.add (m*2)).off+1,none⟩=some (.slice p vs.length cap):=by
  rw[← add_add]at hcell
  exact hcell
 have hc0:∀ {w1:World},Below w.heap.size w w1→w1.cell? ⟨(ad.add (m*2)).block,(ad.add (m*2)).off+1,none⟩=some (.slice p vs.length cap):=fun hB =>
  (hB.cell (p:=⟨(ad.add (m*2)).block,(ad.add (m*2)).off+1,none⟩) (by show(ad.add (m*2)).block < _;rw[add_block];exact had)).trans hcell'
 gi_wp2_with (refine⟨trivial,?_⟩;first|(gi_at_call 74;refine(callsIn_wide.2 hf1).mono ?_;clear hf1;rintro e w1 ⟨rfl,hb1⟩;have hB2:=hB1.trans (hb1.mono hB1.size);have hc1:=hc0 hB2) |
  (gi_at_call 80;refine(backward_in _ _ trivial rfl _ _ _ _).mono ?_;rintro e w' ⟨rfl,rfl⟩))
 have hsz1:w.heap.size+1+1≤w1.heap.size:=by have:=hb1.size;simpa using this
 have bY:Boxed w1 w.heap.size 3 (.int .i64 by_):=by
  have h0:=(Boxed.new w 3 (.int .i64 by_)).alloc (.cells #[.int .i64 0,.bool false,.bool false,.int .i64 0] 77)
  exact(hb1.block _ (by simp;omega)).trans h0
 have bR:Box4 w1 (w.heap.size+1) ⟨0,false,false,0⟩:=by
  have h0:Box4 ((w.alloc (.cells #[.int .i64 by_] 3)).alloc (.cells #[.int .i64 0,.bool false,.bool false,.int .i64 0] 77)) (w.heap.size+1) ⟨0,false,false,0⟩:=by
   have:=World.alloc_heap_new (w.alloc (.cells #[.int .i64 by_] 3)) (.cells #[.int .i64 0,.bool false,.bool false,.int .i64 0] 77)
   simpa[Box4] using this
  exact h0.below hb1 (by simp)
 have bN:=Boxed.new w1 78 (.slice p vs.length cap)
 have hV1:Vers w.heap.size w1 (.slice p vs.length cap) vs:=Vers.below hB2 ⟨p,cap,rfl,hvs1⟩
 obtain⟨W0,hW0⟩:∃ W0,w1.alloc (.cells #[.slice p vs.length cap] 78)=W0:=⟨_,rfl⟩
 have hBW:Below w1.heap.size w1 W0:=by rw[← hW0];exact(Below.refl _ w1).alloc (Nat.le_refl _) _
 have hsz0:W0.heap.size=w1.heap.size+1:=by rw[← hW0];simp
 rw[hW0]at bN ⊢
 have bY0:Boxed W0 w.heap.size 3 (.int .i64 by_):=(hBW.block _ (by omega)).trans bY
 have bR0:Box4 W0 (w.heap.size+1) ⟨0,false,false,0⟩:=bR.below hBW (by omega)
 have hB0:Below w.heap.size w W0:=hB2.trans (hBW.mono hB2.size)
 clear hW0
 refine wpIn_rangeFunc_ownH (F:=Fence.wide) rfl (by omega) (gf:=101) (lb := #[.pointer (some ⟨w1.heap.size,0,none⟩)]) rfl trivial (enters_of Tryz.func101 (by kernel_rfl) rfl)
  (backward_stops Fence.wide (3 - 1) trivial rfl (by omega) w1.heap.size W0.heap.size _ vs hreach W0 (by omega) (Nat.le_refl _) bN.cell (Vers.mono hB0.size (Vers.below (hBW.mono hB2.size) hV1))) belowK_t (belowK_b (Nat.le_refl _)) (Below.refl _ _) (fun _=>rfl)
  (fun pre W=>AllGe by_ pre∧Below W0.heap.size W0 W)
  (fun c pre W=>(c = .ret∧∃ v,Hit by_ pre v∧Box4 W (w.heap.size+1) v)∧Below w.heap.size w W)
  (OwnFrom.and (Own.from (fun s A B row hs hg hr=>hs) _) (ownFrom_below (Nat.le_refl _) (Nat.le_refl _)))
  (fun c=>OwnFrom.and (Own.from (fun s A B row hs hg hr=>by obtain⟨hc,v,e1,e4⟩:=hs;exact⟨hc,v,e1,box4_own (w.heap.size+1) (fun(_:Unit)=>v) () A B row e4 hg hr⟩) _) (ownFrom_below (Nat.le_refl _) hB0.size))
  ⟨fun x hx=>by simp at hx,Below.refl _ _⟩
  (fun x a' W=>∃ Bx,w.heap.size+1 < Bx∧Box4 W Bx x.2∧a'={ tmps := #[.slice (some ad) n cp,.string k,.int .i64 by_,undef,undef,.pointer (some ⟨w.heap.size,0,none⟩),.pointer (some ⟨w.heap.size+1,0,none⟩),.int .i64 (m:Int),.bool true,undef,.pointer (some ⟨Bx,0,none⟩),
   .tuple #[.int .i64 (m:Int),.bool true],.slice (some ad) n cp,.string k,.tuple #[.int .i64 (m:Int),.bool true],.int .i64 (m:Int),.bool true,.bool true,.slice (some ad) n cp,.int .i64 (m:Int),.pointer (some (ad.add (m*2))),.pointer (some ⟨(ad.add (m*2)).block,(ad.add (m*2)).off+1,none⟩),.slice p vs.length cap,
   .func (.func 101) #[] #[.pointer (some ⟨w1.heap.size,0,none⟩)],.int .i64 (x.1:Int),verV x.2,undef,undef,undef,undef,undef,undef],defers:=[] })
  (fun x a' _ X Y row hs hg hr=>by obtain⟨Bx,h1,h2,h3⟩:=hs;exact⟨Bx,h1,box4_own Bx (fun(_:Unit)=>x.2) () X Y row h2 hg (fun r e=>(hr r e).2),h3⟩)
  ?assign ?body ?done ?stop
 case assign =>
  rintro l pre ⟨xi,xb,xm,xh,xn⟩ W K ⟨hp,hB⟩ hK
  simp only[verV]
  gi_wp2
  have hbx:Below W0.heap.size W (W.alloc (.cells #[.int .i64 xb,.bool xm,.bool xh,.int .i64 xn] 77)):=(Below.refl _ W).alloc hB.size _
  exact hK _ _ ((KeepsOthers.alloc _ _).from _) hbx ⟨hp,hB.trans hbx⟩ ⟨W.heap.size,by have:=hB.size;omega,World.alloc_heap_new W _,rfl⟩
 case body =>
  rintro l pre ⟨xi,xb,xm,xh,xn⟩ a' W hl ⟨r,hr⟩ ⟨hp,hB⟩ ⟨Bx,hBx,bX,rfl⟩ hlt
  simp only[verV]
  have bR1:=bR0.below hB (by omega)
  have bY1:Boxed W w.heap.size 3 (.int .i64 by_):=(hB.block _ (by omega)).trans bY0
  obtain⟨x0,x1,x2,x3⟩:=bX.cells
  obtain⟨y0,y1,y2,y3⟩:=bR1.cells
  obtain⟨z0,z1,z2,z3⟩:=bR1.frozens
  have cY:=bY1.cell
  have hB9:Below w.heap.size w W:=hB0.trans (hB.mono hB0.size)
  dsimp only at x0 x1 x2 x3
  gi_wp2
  ·
   have hx:xb < by_:=by assumption
   exact⟨(sets_keeps W _ _ _ _ _).from _,⟨rfl,⟨xb,xm,xh,xn⟩,⟨pre,xi,rfl,hp,hx⟩,sets_box bR1 ⟨xb,xm,xh,xn⟩⟩,hB9.trans (sets_below (by omega))⟩
  ·
   have hx:by_≤xb:=by assumption
   exact⟨KeepsFrom.refl _ _,Below.refl _ _,hp.snoc hx,by rw[← hsz0];exact hB⟩
 case done =>
  rintro D ys W hD rfl ⟨hne,hB⟩ hK
  have bR1:=bR0.below hB (by omega)
  obtain⟨y0,y1,y2,y3⟩:=bR1.cells
  obtain⟨z0,z1,z2,z3⟩:=bR1.frozens
  gi_wp2
  have hK':=(sets_keeps W (w.heap.size+1) (.int .i64 (-1)) (.bool true) (.bool false) (.int .i64 0)).same D _ hK rfl
  have bF:=sets_box bR1 noV
  have hB9:Below w.heap.size w W:=hB0.trans (hB.mono hB0.size)
  have hBs:=hB9.trans (sets_below (W:=W) (n:=w.heap.size) (B:=w.heap.size+1) (a := .int .i64 (-1)) (b := .bool true) (c := .bool false) (d := .int .i64 0) (by omega))
  refine⟨by simp,.inl ⟨_,_,rfl,run_takeDeferred hK',?_⟩⟩
  have hD':w.heap.size+1≠D:=by have:=bR1.lt;omega
  obtain⟨c0,c1,c2,c3⟩:=Box4.cells (Box4.kept bF (grownBy_putObj' _ D (.deferred none)) (fun e=>hD' (by cases e;rfl)))
  refine⟨verV noV,?_,.inl rfl,hBs.trans (belowK_b (w:=w) (Nat.le_refl _) _ D _ _ (by have:=hB0.size;omega) hK' rfl rfl)⟩
  exact results_box c0 c1 c2 c3
 case stop =>
  rintro D c pre W hD ⟨k,hk,rfl⟩ ⟨⟨rfl,v,hv,hcr⟩,hB⟩ hK
  gi_wp2
  refine⟨by simp,.inl ⟨_,_,rfl,run_takeDeferred hK,?_⟩⟩
  have hD':w.heap.size+1≠D:=by have:=hB0.size;omega
  obtain⟨c0,c1,c2,c3⟩:=Box4.cells (Box4.kept hcr (grownBy_putObj' _ D (.deferred none)) (fun e=>hD' (by cases e;rfl)))
  exact⟨verV v,results_box c0 c1 c2 c3,.inr ⟨k,v,hk,hv,rfl⟩,hB.trans (belowK_b (w:=w) (Nat.le_refl _) W D _ _ (by have:=hB0.size;omega) hK rfl rfl)⟩
theorem rd_ver {w:World}{own:Nat→Prop}(v:Version):Rd w own (verV v) (.agg v.enc):=by
 refine .agg _ _ rfl (fun j c hc=>?_) fun j d c hd hc=>?_
 ·
  match j,hc with
  |0,hc=>simp at hc;subst hc;rfl
  |1,hc=>simp at hc;subst hc;rfl
  |2,hc=>simp at hc;subst hc;rfl
  |3,hc=>simp at hc;subst hc;rfl
 ·
  match j,hd,hc with
  |0,hd,hc=>simp[Version.enc]at hc hd;subst hc hd;exact .v _
  |1,hd,hc=>simp[Version.enc]at hc hd;subst hc hd;exact .v _
  |2,hd,hc=>simp[Version.enc]at hc hd;subst hc hd;exact .v _
  |3,hd,hc=>simp[Version.enc]at hc hd;subst hc hd;exact .v _
theorem rd_vers {w:World}{own:Nat→Prop}{sv:Value}{vs:List Version}(h:Rd w own sv (encVs vs)):Vers w.heap.size w sv vs:=by
 unfold encVs at h
 generalize hr:vs.map Version.enc=rows at h
 generalize hd:D.sl 4 rows=d at h
 cases h with
 |v=>cases hd
 |x=>cases hd
 |agg=>cases hd
 |nil a cap k =>
  cases hd
  have:vs=[]:=by simpa using hr
  subst this
  exact⟨a,cap,rfl,.inl rfl⟩
 |sl ad cap k rows f hb hs hcap hk hc h1 hr' =>
  cases hd
  subst hr
  refine⟨some ad,cap,by simp,.inr ⟨ad,rfl,hs,fun i j v hi hj=>?_⟩⟩
  have hi':(vs.map Version.enc)[i]? = some v.enc:=by simp[hi]
  have hval:∀ d,v.enc[j]? = some d→∀ x,d = .v x→w.cell? (ad.add (i*4+j))=some x:=fun d hd x hx=>by
   subst hx
   rw[hc i j _ _ hi' hd,rd_v (hr' i j _ _ hi' hd)]
  match j,hj with
  |0,_=>exact hval _ rfl _ rfl
  |1,_=>exact hval _ rfl _ rfl
  |2,_=>exact hval _ rfl _ rfl
  |3,_=>exact hval _ rfl _ rfl
theorem back_ge {b:Int}{vs:List Version}{k:Nat}(hk:k≤vs.length) (h:AllGe b (back vs k)):∀ v∈vs.drop (vs.length - k),b≤v.by_:=fun v hv=>by
 obtain⟨j,hj⟩:=List.getElem?_of_mem hv
 rw[List.getElem?_drop]at hj
 have hlt:=(List.getElem?_eq_some_iff.1 hj).1
 have hmem:(vs.length - k+j,v)∈back vs k:=by
  unfold back
  refine List.mem_map.2 ⟨k - 1 - j,by simp;omega,?_⟩
  rw[show vs.length - 1 - (k - 1 - j)=vs.length - k+j by omega,hj]
  rfl
 exact h _ hmem
theorem hit_bvs {b:Int}{vs:List Version}{k:Nat}{v:Version}(hk:k≤vs.length) (h:Hit b (back vs k) v):bvs true b noV vs=v:=by
 obtain⟨ini,i,h1,h2,h3⟩:=h
 cases k with
 |zero=>simp[back]at h1
 |succ k =>
  rw[back_succ]at h1
  obtain⟨rfl,h5⟩:=List.append_inj' h1 rfl
  simp only[List.cons.injEq,Prod.mk.injEq,and_true]at h5
  obtain⟨rfl,h5⟩:=h5
  have hlt:vs.length - 1 - k < vs.length:=by omega
  have hv:vs[vs.length - 1 - k]? = some v:=by
   rw[List.getElem?_eq_getElem hlt]at h5 ⊢
   simpa using h5
  have hge:=back_ge (by omega) h2
  rw[split_at hv,bvs_append]
  simp only[bvs]
  rw[if_pos (by simpa using h3),show vs.length - 1 - k+1=vs.length - k by omega,bvs_ge hge]
theorem isAt_some {l:List Chain}{k:Str}{m:Nat}(h:isAt l k m=true):∃ c,l[m]? = some c∧c.key=k:=by
 unfold isAt isAtK at h
 split at h
 ·
  next c hc=>exact⟨c,hc,of_decide_eq_true h⟩
 ·
  cases h
theorem ok_pbefore (l:List Chain) (k:Str) (b:Int) (hl:l.length≤268435456) (hv:∀ c∈l,c.vs.length≤268435456) (hs:Srt Chain.key l) :
  FnOk Tryz.prog 48 [.d (encChains l),.d (dstr k),.d (dint b)] (.one (.agg (before l k b).enc)):=by
 obtain⟨m,hm⟩:=hs.at k
 have hf:=ok_find l k m hl hm
 cases hb:isAt l k m with
 |false =>
  refine fnOk_of tbl_ok mixed_ok Tryz.func48 rfl (by kernel_rfl) rfl rfl fun w0 own0=>?_
  rw[hb]at hf
  rw[before_no hs hm hb]
  try refine wk ?_
  exact .one (.cell rfl rfl rfl rfl (.aggd (ds:=noV.enc) rfl (.refl _)))
 |true =>
  obtain⟨c,hc,hck⟩:=isAt_some hb
  rw[before_yes hs hc hck]
  refine⟨⟨_,Tryz.func48,rfl,rfl⟩,fun w own vs hown ha=>?_⟩
  match vs,ha with
  | [x,y,z],⟨h1,h2,h3,_⟩ =>
   obtain rfl:y=str k:=rd_v h2
   obtain rfl:z = .int .i64 b:=rd_v h3
   have hfc:∀ W:World,w.heap.size≤W.heap.size→Below w.heap.size w W→Calls Tryz.prog 74 #[x,str k] W fun e W'=>e = .returned (.tuple #[.int .i64 (m:Int),.bool true])∧Below W.heap.size W W':=fun W hsz hB=>by
    have h1':Rd W own x (encChains l):=Rd.step (Ext.of_below hB) (fun b h => .inl h) h1
    refine(hf.calls W own [x,str k] ⟨fun b hb=>Nat.lt_of_lt_of_le (hown.1 b hb) hsz,hown.2.below hB⟩ ⟨h1',Rd.v _,trivial⟩).mono fun e W' he=>?_
    obtain⟨v,rfl,hB',vs,rfl,hsz',hr⟩:=he
    refine⟨?_,hB'⟩
    obtain⟨vl⟩:=vs
    match vl,hsz',hr with
    | [a,d],_,hr =>
     obtain rfl:a = .int .i64 (m:Int):=rd_v (hr 0 a (dint m) rfl rfl)
     obtain rfl:d = .bool (isAt l k m):=rd_v (hr 1 d (dbool (isAt l k m)) rfl rfl)
     rw[hb]
   have hcm:m < l.length:=(List.getElem?_eq_some_iff.1 hc).1
   have hcv:=hv c (List.mem_of_getElem? hc)
   have key:∃ ad n cp sv,x = .slice (some ad) n cp∧m < n∧ad.block < w.heap.size∧w.cell? (ad.add (m*2+1))=some sv∧Rd w own sv (encVs c.vs):=by
    have h1':=h1
    unfold ArgOk encChains at h1'
    generalize hr:l.map Chain.enc=rows at h1'
    generalize hd:D.sl 2 rows=d at h1'
    cases h1' with
    |v=>cases hd
    |x=>cases hd
    |agg=>cases hd
    |nil a cap k' =>
     cases hd
     have:l=[]:=by simpa using hr
     subst this
     simp at hc
    |sl ad cap k' rows f hb' hsz hcap hk hcc h1c hr' =>
     cases hd
     subst hr
     have hi:(l.map Chain.enc)[m]? = some c.enc:=by simp[hc]
     exact⟨ad,_,cap,f m 1,rfl,by simpa using hcm,hsz,hcc m 1 _ _ hi rfl,hr' m 1 _ (encVs c.vs) hi rfl⟩
   obtain⟨ad,n,cp,sv,rfl,hmn,had,hcell,hrd⟩:=key
   refine(before_raw m b ⟨k.toArray⟩ ad n cp sv c.vs w hmn had hcell (rd_vers hrd) hcv hfc).mono fun e W' ⟨he,hB⟩=>?_
   rcases he with ⟨rfl,hall⟩|⟨i,v,hi,hh,rfl⟩
   ·
    refine⟨_,rfl,hB,?_⟩
    have:=back_ge (Nat.le_refl _) hall
    rw[Nat.sub_self,List.drop_zero]at this
    rw[bvs_ge this]
    exact rd_ver noV
   ·
    refine⟨_,rfl,hB,?_⟩
    rw[hit_bvs hi hh]
    exact rd_ver v
end Go.Proofs.YtngnajknbeijjaaGreatDoor
namespace Go.Proofs.YtngnajknbeijjaaGreatDoor
open Go.AX Go.RF
set_option maxRecDepth 100000
set_option maxHeartbeats 8000000
theorem kept_back (l:List Chain) (m:Nat) (c:Chain) (x:Value) (hc:l[m]? = some c):D.sl 2 ((keptRows l m c x).set m ([dstr c.key,D.v x].set 1 (.sl 4 (c.vs.map Version.enc))))=encChains l:=by
 have hlt:=(List.getElem?_eq_some_iff.1 hc).1
 unfold keptRows encChains
 rw[List.set_set]
 congr 1
 apply List.ext_getElem?
 intro j
 by_cases hj:m=j
 ·
  subst hj
  rw[List.getElem?_set_self (by simpa using hlt)]
  simp[hc];rfl
 ·
  rw[List.getElem?_set_ne hj]
theorem kept_at (l:List Chain) (m:Nat) (c:Chain) (x:Value) (hc:l[m]? = some c):(keptRows l m c x)[m]? = some [dstr c.key,D.v x]:=by
 have hlt:=(List.getElem?_eq_some_iff.1 hc).1
 unfold keptRows
 rw[List.getElem?_set_self (by simpa using hlt)]
theorem kept_set (l:List Chain) (m:Nat) (c:Chain) (x:Value) (vs:List Version):(keptRows l m c x).set m [dstr c.key,encVs vs]=(l.set m ⟨c.key,vs⟩).map Chain.enc:=by
 unfold keptRows
 rw[List.set_set,List.map_set]
 rfl
theorem addS_found {k:Str}{b:Int}:∀ {l:List Chain}{m:Nat}{c:Chain},Srt Chain.key l→l[m]? = some c→c.key=k→addS k b l=l.set m ⟨c.key,c.vs++[newV b]⟩
 | [],m,c,_,h,_=>by simp at h
 |d::l,0,c,_,h,hk=>by
  simp at h;subst h
  simp only[addS,if_pos hk,List.set_cons_zero]
 |d::l,m+1,c,hs,h,hk=>by
  have h':l[m]? = some c:=by simpa using h
  obtain⟨h1,h2⟩:=List.pairwise_cons.1 hs
  have h3:=h1 c (List.mem_of_getElem? h')
  rw[hk]at h3
  simp only[addS]
  rw[if_neg (slt_ne h3),if_pos h3,addS_found h2 h' hk,List.set_cons_succ]
theorem addS_new {k:Str}{b:Int}:∀ {l:List Chain}{m:Nat},AtK Chain.key l k m→isAtK Chain.key l k m=false→Srt Chain.key l→addS k b l=l.take m++⟨k,[newV b]⟩::l.drop m
 | [],m,hm,_,_=>by
  have:=hm.le
  obtain rfl:m=0:=by simpa using this
  rfl
 |d::l,0,hm,hn,hs=>by
  have h1:d.key≠k:=by simpa[isAtK] using hn
  have h2:=hm.ge 0 d rfl (Nat.le_refl _)
  simp only[addS]
  rw[if_neg h1,if_neg (by rw[h2];simp)]
  rfl
 |d::l,m+1,hm,hn,hs=>by
  have h2:=hm.lt 0 d rfl (by omega)
  simp only[addS]
  rw[if_neg (slt_ne h2),if_pos h2,addS_new (m:=m) ⟨by have:=hm.le;simpa using this,fun x c hx hlt=>hm.lt (x+1) c (by simpa using hx) (by omega),fun x c hx hge=>hm.ge (x+1) c (by simpa using hx) (by omega)⟩ (by simpa[isAtK] using hn) (List.pairwise_cons.1 hs).2]
  rfl
theorem ok_padd
  (l:List Chain) (k:Str) (b:Int) (hl:l.length≤268435455) (hv:∀ c∈l,c.vs.length≤268435455) (hs:Srt Chain.key l) :
  FnOk Tryz.prog 41 [.d (encChains l),.d (dstr k),.d (dint b)] (.one (encChains (addS k b l))):=by
 refine fnOk_of tbl_ok mixed_ok Tryz.func41 rfl (by kernel_rfl) rfl rfl fun w0 own0=>?_
 have hins:=upd_insert
 obtain⟨m,hm⟩:=hs.at k
 have hml:=hm.le
 have hf:=ok_find l k m (by omega) hm
 have hvv:∀ c∈l,c.vs.length≤268435456:=fun c hc=>by have:=hv c hc;omega
 cases hb:isAt l k m with
 |true =>
  obtain⟨c,hc,hck⟩:=isAt_some hb
  rw[hb]at hf
  have hmlt:=(List.getElem?_eq_some_iff.1 hc).1
  have hcv:=hv c (List.mem_of_getElem? hc)
  rw[addS_found hs hc hck]
  have ho2:=own2_chain l m c hc (by omega) hvv
  have hst0:StopR 1:=⟨rfl⟩
  try refine wkS ?_
  clear hst0
  refine Stop.go (CW.seq (CW.regionS ?_))
  repeat(first|((with_reducible apply SW.s1);exact rfl)|((with_reducible apply SW.s5);exact by_oa;exact rfl))
  refine SW.fam rfl (fam_own2 (nx:=0) ho2 rfl rfl (.cons rfl (.d (.refl _)) trivial .nil)) fun x=>?_
  refine SW.rw ?_
  have hkl:(keptRows l m c x).length=l.length:=by simp[keptRows]
  have hrow:=kept_at l m c x hc
  rw[← kept_back l m c x hc]at hf
  have hst0:StopR 5:=⟨rfl⟩
  repeat(first|refine waS ?_|((with_reducible apply s5);(first|(focus (with_reducible apply a_lend);exact hf;exact rfl;exact .pin (id2:=1) rfl hrow rfl rfl;exact rfl;exact rfl;exact rfl;apply SubsE.cons;exact rfl;exact .d (.refl _);exact trivial;exact SubsE.nil)|exact by_oa|exact by_ca);exact by_g)|refine wb ?_)
  clear hst0
  refine Stop.go (CW.seq (CW.regionS ?_))
  repeat(first|((with_reducible apply SW.s1);exact rfl)|((with_reducible apply SW.s5);exact by_oa;exact rfl))
  refine SW.stut (stut_unpin (i:=32) (id:=1) (nx:=2)) ⟨rfl,rfl,rfl,trivial⟩ ?_
  repeat(first|((with_reducible apply SW.s1);exact rfl)|((with_reducible apply SW.s5);exact by_oa;exact rfl))
  refine SW.stut (stut_freeze (i:=36) (id:=2) (by simp)) ⟨rfl,rfl,trivial⟩ ?_
  repeat(first|((with_reducible apply SW.s1);exact rfl)|((with_reducible apply SW.s5);exact by_oa;exact rfl))
  refine SW.nil ?_
  try refine wk ?_
  refine .one (.tmp rfl (.one (.own rfl (by simp) (dle_eq ?_))))
  have:=kept_set l m c x (c.vs++[newV b])
  show D.sl 2 _=D.sl 2 _
  rw[← this]
  congr 2
  simp[splice,encVs,Version.enc,newV]
 |false =>
  rw[hb]at hf
  have hn:=new_chainOwn l (by omega) hvv
  have hi:=hins (l.map Chain.enc) m (dstr k) (.v nilS) (by simp;omega) (by simp;omega)
  rw[addS_new hm hb hs]
  have hrow:((l.map Chain.enc).take m++[dstr k,.v nilS]::(l.map Chain.enc).drop m)[m]? = some [dstr k,.v nilS]:=by
   rw[List.getElem?_append_right (by simp;omega)]
   simp[Nat.min_eq_left hml]
  have hlen:((l.map Chain.enc).take m++[dstr k,.v nilS]::(l.map Chain.enc).drop m).length=l.length+1:=by simp;omega
  have hmlt:m < ((l.map Chain.enc).take m++[dstr k,.v nilS]::(l.map Chain.enc).drop m).length:=by omega
  have hst0:StopR 5:=⟨rfl⟩
  repeat(first|refine waS ?_|((with_reducible apply s5);(first|exact a_callnew hn rfl rfl by_sub|(focus ((with_reducible apply a_lend);exact hf;exact rfl;exact .plain rfl;(focus first|exact rfl|(simp;done)|(simp;omega));(iterate 2 exact rfl);exact by_sub))|(focus ((with_reducible apply a_upd);exact hi;(iterate 3 exact rfl);(focus first|exact rfl|(simp;done)|(simp;omega));exact rfl;exact by_sub))|exact by_oa|exact by_ca);exact by_g)|refine wb ?_)
  clear hst0
  refine Stop.go (CW.seq (CW.regionS ?_))
  repeat(first|((with_reducible apply SW.s1);exact rfl)|((with_reducible apply SW.s5);exact by_oa;exact rfl))
  refine SW.stut (stut_promote (i:=32) 77 4) ⟨rfl,rfl,trivial⟩ ?_
  repeat(first|((with_reducible apply SW.s1);exact rfl)|((with_reducible apply SW.s5);exact by_oa;exact rfl))
  refine SW.stut (stut_freeze (i:=36) (id:=2) (by simp)) ⟨rfl,rfl,trivial⟩ ?_
  repeat(first|((with_reducible apply SW.s1);exact rfl)|((with_reducible apply SW.s5);exact by_oa;exact rfl))
  refine SW.nil ?_
  try refine wk ?_
  refine .one (.tmp rfl (.one (.own rfl (by simp) (dle_eq ?_))))
  show D.sl 2 _=D.sl 2 _
  congr 1
  rw[List.set_append_right _ _ (by simp;omega)]
  simp[splice,encVs,Version.enc,newV,Chain.enc,Nat.min_eq_left hml]
theorem ok_pnew (r:List Pair) (hl:r.length≤134217728):FnOk Tryz.prog 7 [.d (encRows r)] (.one (.agg (newE r).enc)):=by
 refine fnOk_of tbl_ok mixed_ok Tryz.func7 rfl (by kernel_rfl) rfl rfl fun w0 own0=>?_
 have c1:=ok_of r hl
 try refine wk ?_
 exact .one (.cell rfl rfl rfl rfl (.aggd (ds:=[encChains (r.map rowChain),.v nilS,.v nilS,.v nilS,dint 0]) rfl (DLes.agg (.cons (.refl _) (.cons (dle_nil 3) (.cons (dle_nil 1) (.cons (dle_nil 5) (.cons (.refl _) .nil))))))))
theorem ok_padde (e:Engine) (l:List Deed) (N:Nat) (hE:EInv e N) (hS:SInv e) (hd:∀ d∈l,d.Sm) (hl:l.length≤10000000) (hN:N≤50000000) :
  FnOk Tryz.prog 10 [.d (.agg e.enc),.d (encDeeds l)] (.tup [.agg (addE e l).1.enc,dint (addE e l).2]):=by
 refine fnOk_of tbl_ok mixed_ok Tryz.func10 rfl (by kernel_rfl) rfl rfl fun w0 own0=>?_
 try refine wk ?_
 refine CW.loopT (fun i:Nat=>[sd 1 (encDeeds l),sp 2 0,ob 0 e.enc,sp 4 1,ob 1 noE.enc0,sd 5 (dint 0),sd 15 (encDeeds l),sd 16 (dint l.length),sd 17 (dint i),nxt 2])
  (fun i=>i≤l.length∧wrongs (l.drop i)=wrongs l) (fun i=>l.length - i) 0 ⟨by omega,rfl⟩ ?_ ?_
 ·
  exact by_less
 ·
  rintro i ⟨hi,hI⟩
  rcases drop_case hi with ⟨h1,h2⟩|⟨d,h1,h2,h3⟩
  ·
   rw[h1,wrongs]at hI
   have hw:wrongs l=0:=hI.symm
   have hok:=wrongs_mem hw
   have hres:addE e l=(addAll e l,0):=by rw[addE,if_pos hw]
   rw[hres]
   have hs:=hE.z.sm (by omega)
   have co:=news_planOwn e hs
   repeat(first|refine wa ?_|((with_reducible apply s5);(first|exact a_callnews co rfl rfl by_sub|exact by_oa|exact by_ca);exact by_g)|refine wb ?_)
   refine CW.loopT (fun t:Nat×Engine=>[sd 1 (encDeeds l),sp 4 1,ob 1 noE.enc0,sd 5 (dint 0),sp 9 5,(.o 5,.ob (.box [.d (encChains t.2.chains),.own 2 (t.2.deeds.map Deed.enc).length,.own 3 (t.2.state.map encInt1).length,.own 4 (t.2.ends.map Done.enc).length,.d (dint t.2.base)])),
     oa 2 42 3 (t.2.deeds.map Deed.enc),oa 3 3 1 (t.2.state.map encInt1),oa 4 86 5 (t.2.ends.map Done.enc),sd 30 (encDeeds l),sd 31 (dint l.length),sd 32 (dint t.1),nxt 6])
    (fun t=>t.1≤l.length∧EInv t.2 (N+5*t.1)∧SInv t.2∧addAll t.2 (l.drop t.1)=addAll e l) (fun t=>l.length - t.1) (0,e) ⟨by omega,hE,hS,rfl⟩ ?_ ?_
   ·
    exact by_less
   ·
    rintro ⟨i,x⟩ ⟨hi,hX,hSx,hJ⟩
    dsimp only at hi hX hSx hJ ⊢
    rcases drop_case hi with ⟨h1,h2⟩|⟨d,h1,h2,h3⟩
    ·
     rw[h1,addAll]at hJ
     try refine wk ?_
     rw[← hJ]
     exact .two (.cell rfl rfl rfl rfl (.agg (.cons (.d (.refl _)) (.cons (.own rfl (by simp) (.refl _)) (.cons (.own rfl (by simp) (.refl _)) (.cons (.own rfl (by simp) (.refl _)) (.cons (.d (.refl _)) .nil))))))) (.tmp rfl (.one (.d (.refl _))))
    ·
     rw[h1,addAll]at hJ
     have hdm:=List.mem_of_getElem? h2
     have hds:=hd d hdm
     have hdo:=wrongDeed_ok (hok d hdm)
     have hX1:=hX.add1 hds hdo
     have hS1:=hSx.add1 (wrong_keys (hok d hdm)).2
     have cow:=ok_deedOwn d hds
     have hz:=hX.z
     have hb:=hz.b
     have hwl:=hdo.w
     have hdl:=hz.d
     have hst:=hz.s
     have hen:=hz.n
     try refine wk ?_
     refine CW.loopT (fun t:Nat×List Chain=>[sd 1 (encDeeds l),sp 4 1,ob 1 noE.enc0,sd 5 (dint 0),sp 9 5,(.o 5,.ob (.box [.d (encChains t.2),.own 2 (x.deeds.map Deed.enc).length,.own 3 (x.state.map encInt1).length,.own 4 (x.ends.map Done.enc).length,.d (dint x.base)])),
       oa 2 42 3 (x.deeds.map Deed.enc),oa 3 3 1 (x.state.map encInt1),oa 4 86 5 (x.ends.map Done.enc),sd 30 (encDeeds l),sd 31 (dint l.length),sd 32 (dint i),
       sp 11 6,ob 6 d.enc,sd 12 (dint (x.base+x.deeds.length)),sd 43 (encStrs d.writes),sd 44 (dint d.writes.length),sd 45 (dint t.1),nxt 7])
      (fun t=>t.1≤d.writes.length∧t.2.length≤N+5*i+t.1∧(∀ c∈t.2,c.vs.length≤N+5*i+t.1)∧Srt Chain.key t.2∧addKeys (x.base+x.deeds.length) t.2 (d.writes.drop t.1)=addKeys (x.base+x.deeds.length) x.chains d.writes) (fun t=>d.writes.length - t.1) (0,x.chains) ⟨by omega,hz.c,hz.v,hSx.k,rfl⟩ ?_ ?_
     ·
      exact by_less
     ·
      rintro ⟨j,cs⟩ ⟨hj,hcl,hcv,hcs,hK⟩
      dsimp only at hj hcl hcv hcs hK ⊢
      rcases drop_case hj with ⟨g1,g2⟩|⟨k,g1,g2,g3⟩
      ·
       rw[g1,addKeys]at hK
       subst hK
       try refine wk ?_
       refine q_loopT (i+1,add1 x d) ⟨by dsimp only;omega,by dsimp only;rw[show N+5*(i+1)=N+5*i+5 by omega];exact hX1,hS1,hJ⟩ (by dsimp only;omega) ?_
       unfold add1
       exact by_less
      ·
       rw[g1,addKeys,addC_srt hcs]at hK
       have ca:=ok_padd cs k (x.base+x.deeds.length) (by omega) (fun c hc=>by have:=hcv c hc;omega) hcs
       try refine wk ?_
       refine q_loopT (j+1,addS k (x.base+x.deeds.length) cs) ⟨by dsimp only;omega,by have:=addS_len (k:=k) (b:=x.base+x.deeds.length) cs;dsimp only;omega,fun c hc=>by have:=addS_vs hcv c hc;dsimp only;omega,addS_srt hcs,hK⟩ (by dsimp only;omega) ?_
       exact by_less
  ·
   rw[h1]at hI
   simp only[wrongs]at hI
   have hc:=ok_pwrongDeed d (hd d (List.mem_of_getElem? h2))
   by_cases h4:wrongDeed d=0
   ·
    rw[if_pos h4]at hI
    rw[h4]at hc
    try refine wk ?_
    refine q_loopT (i+1) ⟨by omega,hI⟩ (by omega) ?_
    exact by_less
   ·
    rw[if_neg h4]at hI
    have hres:addE e l=(noE,wrongs l):=by rw[addE,if_neg (by rw[← hI];exact h4)]
    rw[hres]
    try refine wk ?_
    exact .two (.cell rfl rfl rfl rfl (.aggd (ds:=noE.enc0) rfl (DLes.agg (.cons (dle_nil 2) (.cons (dle_nil 3) (.cons (dle_nil 1) (.cons (dle_nil 5) (.cons (.refl _) .nil)))))))) (.tmp rfl (.one (.d (dle_int hI))))
end Go.Proofs.YtngnajknbeijjaaGreatDoor
namespace Go.Proofs
open Go.Shelf Go.RowKit
set_option maxRecDepth 100000
noncomputable def Tryz.lays189_ren:Go.Shelf.Ren:=⟨fun|125=>83|128=>111|129=>112|189=>50|215=>123|216=>108|257=>82|294=>102|295=>103|296=>104|297=>105|298=>106|299=>107|300=>109|301=>110|328=>118|329=>119|330=>120|331=>121|332=>122|343=>133|n=>n,fun|0=>0|3=>3|4=>4|5=>5|9=>9|28=>25|46=>129|51=>151|53=>153|131=>105|182=>143|183=>144|218=>162|222=>166|228=>177|229=>178|n=>n,fun|n=>n⟩
theorem Tryz.lays189:Go.Proofs.Lays.n189 Tryz.prog Tryz.lays189_ren:={
 mixed:=by kernel_rfl
 f125:=Tryz.func83.trans (congrArg some (by kernel_rfl))
 f128:=Tryz.func111.trans (congrArg some (by kernel_rfl))
 f129:=Tryz.func112.trans (congrArg some (by kernel_rfl))
 f189:=Tryz.func50.trans (congrArg some (by kernel_rfl))
 f215:=Tryz.func123.trans (congrArg some (by kernel_rfl))
 f216:=Tryz.func108.trans (congrArg some (by kernel_rfl))
 f257:=Tryz.func82.trans (congrArg some (by kernel_rfl))
 f294:=Tryz.func102.trans (congrArg some (by kernel_rfl))
 f295:=Tryz.func103.trans (congrArg some (by kernel_rfl))
 f296:=Tryz.func104.trans (congrArg some (by kernel_rfl))
 f297:=Tryz.func105.trans (congrArg some (by kernel_rfl))
 f298:=Tryz.func106.trans (congrArg some (by kernel_rfl))
 f299:=Tryz.func107.trans (congrArg some (by kernel_rfl))
 f300:=Tryz.func109.trans (congrArg some (by kernel_rfl))
 f301:=Tryz.func110.trans (congrArg some (by kernel_rfl))
 f328:=Tryz.func118.trans (congrArg some (by kernel_rfl))
 f329:=Tryz.func119.trans (congrArg some (by kernel_rfl))
 f330:=Tryz.func120.trans (congrArg some (by kernel_rfl))
 f331:=Tryz.func121.trans (congrArg some (by kernel_rfl))
 f332:=Tryz.func122.trans (congrArg some (by kernel_rfl))
 f343:=Tryz.func133.trans (congrArg some (by kernel_rfl))
 t0:=Tryz.underlying0
 a0:=Tryz.isAgg0
 z0:=Tryz.sizeOf0
 v0:=Tryz.zeroValue0
 t3:=Tryz.underlying3
 a3:=Tryz.isAgg3
 z3:=Tryz.sizeOf3
 v3:=Tryz.zeroValue3
 t4:=Tryz.underlying4
 a4:=Tryz.isAgg4
 z4:=Tryz.sizeOf4
 v4:=Tryz.zeroValue4
 t5:=Tryz.underlying5
 a5:=Tryz.isAgg5
 z5:=Tryz.sizeOf5
 v5:=Tryz.zeroValue5
 t9:=Tryz.underlying9
 a9:=Tryz.isAgg9
 z9:=Tryz.sizeOf9
 v9:=Tryz.zeroValue9
 t28:=Tryz.underlying25
 a28:=Tryz.isAgg25
 z28:=Tryz.sizeOf25
 v28:=Tryz.zeroValue25
 t46:=Tryz.underlying129
 a46:=Tryz.isAgg129
 z46:=Tryz.sizeOf129
 v46:=Tryz.zeroValue129
 t51:=Tryz.underlying151
 a51:=Tryz.isAgg151
 z51:=Tryz.sizeOf151
 v51:=Tryz.zeroValue151
 t53:=Tryz.underlying153
 a53:=Tryz.isAgg153
 z53:=Tryz.sizeOf153
 v53:=Tryz.zeroValue153
 t131:=Tryz.underlying105
 a131:=Tryz.isAgg105
 z131:=Tryz.sizeOf105
 v131:=Tryz.zeroValue105
 t182:=Tryz.underlying143
 a182:=Tryz.isAgg143
 z182:=Tryz.sizeOf143
 v182:=Tryz.zeroValue143
 t183:=Tryz.underlying144
 a183:=Tryz.isAgg144
 z183:=Tryz.sizeOf144
 v183:=Tryz.zeroValue144
 t218:=Tryz.underlying162
 a218:=Tryz.isAgg162
 z218:=Tryz.sizeOf162
 v218:=Tryz.zeroValue162
 t222:=Tryz.underlying166
 a222:=Tryz.isAgg166
 z222:=Tryz.sizeOf166
 v222:=Tryz.zeroValue166
 t228:=Tryz.underlying177
 a228:=Tryz.isAgg177
 z228:=Tryz.sizeOf177
 v228:=Tryz.zeroValue177
 t229:=Tryz.underlying178
 a229:=Tryz.isAgg178
 z229:=Tryz.sizeOf178
 v229:=Tryz.zeroValue178
 }
end Go.Proofs
namespace Go.AX
open Go.RowKit
variable {cx:Cx}{g:Nat→Value}{σ σ':St}{a:Act}{w w':World}{nx:Nat}{c:Code}{Q:Exit→St→Prop}
variable {ty:TypeId}{pos:String}{af:Array Edge}{gd:Option (Nat×Bool)}{d:Nat}
structure FnIn (P:Program) (f:FuncId) (e k:Nat) (rows rows':List (List D)):Prop where
 run : ∃ fn, P.funcs[f]? = some fn ∧ (fn.name == "runtime.NumGoroutine") = false ∧ fn.body.isNone = false
 len:rows'.length=rows.length
 calls:∀ (w:World) (own:Nat→Prop) (v:Value),((∀ b,own b→b < w.heap.size)∧Gl P w)→RowsAt w 0 (with1 own v) e k v rows→(∀ b,own b→blk v≠some b) →
  Calls P f #[v] w fun r w'=>∃ u,r = .returned u∧BelowBut v w w'∧RowsAt w' 0 (with1 own v) e k v rows'
theorem a_inplace {f:FuncId}{x:Operand}{e k id n:Nat}{rows rows':List (List D)}{ats:Array TypeId}(hc:FnIn cx.P f e k rows rows') (hx:ev σ x=some (.own id n)) (ho:get σ (.o id) = .ob (.arr e k rows)) (hnx:get σ .nx = .num nx) (hn:n=rows.length) (hd:Nat.blt d cx.n=true) :
  OA cx σ ⟨some d,.call { callee := .value (.func f),args := #[x],argTypes:=ats },ty,pos,af,gd⟩ ⟨rdOf x (.own id n)++[(.o id,.ob (.arr e k rows)),(.nx,.num nx)],[(.s d,.av .any),(.o id,.ob (.arr e k rows')),(.nx,.num nx)]⟩:=by
 refine⟨?_,(ev_out hx).2.append ⟨ho,hnx,trivial⟩⟩
 rintro σ a w K Q ⟨g,n',hs⟩ hr hK
 have hnx:n'=nx:=by
  have h2:=hr.right.2.1
  rw[hs.hnx]at h2
  simpa using h2
 subst hnx
 have ho:get σ (.o id) = .ob (.arr e k rows):=hr.right.1
 have hidlt:=(hs.objs id _ ho).1
 have hval:a.eval x=g id:=((hs.ev (ev_out hx).1 hr.left).1.2 e k rows ho).2 hn
 have hR:=objRows hs ho
 have hw1:∀ b,with1 (fun b=>cx.own g σ b∧blk (g id)≠some b) (g id) b→cx.own g σ b:=by
  rintro b (h|h)
  ·
   exact h.1
  ·
   exact .inr ⟨id,_,ho,h⟩
 have hcall:=hc.calls w (fun b=>cx.own g σ b∧blk (g id)≠some b) (g id) ⟨fun b hb=>own_lt hs hb.1,hs.gl⟩ (hR.re (fun b _=>Nat.zero_le _) hw1) (fun b hb=>hb.2)
 unfold Oper.wp
 rw[call_run (xs:=[x]) hc.run,List.map_cons,List.map_nil,hval]
 refine hcall.mono fun r w' he=>?_
 obtain⟨u,rfl,hbb,hR'⟩:=he
 have hge:=hs.below.size
 have hst:ObjStep cx σ g n' n' w w' id (.arr e k rows') (g id):=by
  refine⟨.inr ⟨rfl,_,ho,rfl,rfl,Nat.le_of_eq hc.len.symm,fun _=>upd_same _ _ _⟩,⟨hbb.os,hbb.tape,hbb.output,hbb.size,fun b hb=>hbb.block b (by omega) fun he=>by have:=obj_ge hs ho he;omega⟩,fun b hb h=>hbb.block b hb (h _ ho),fun b hb => .inl ⟨_,ho,hb⟩⟩
 have hG:SimG cx (objSt σ n' id (.arr e k rows')) a w' (upd g id (g id)) n':=by
  refine SimG.obj hs hst (fun hl=>?_) trivial
  show RowsAt w' cx.w0.heap.size _ e k (upd g id (g id) id) rows'
  rw[upd_same]
  refine hR'.re (fun b hb=>obj_ge hs ho hb) fun b hb=>?_
  rcases hb with h|⟨j,o,h1,h2⟩
  ·
   refine .inl ⟨.inl h,fun he=>?_⟩
   have h3:=obj_ge hs ho he
   have h4:=hs.own0.1 b h
   omega
  ·
   by_cases hj:j=id
   ·
    subst hj;rw[upd_same]at h2;exact .inr h2
   ·
    rw[objSt_o hj]at h1
    rw[upd_ne hj]at h2
    exact .inl ⟨.inr ⟨j,o,h1,h2⟩,fun he=>hj (hs.sep j id o _ b h1 ho h2 he)⟩
 exact hK _ _ (Sim.put hG (lt_of_blt hd) (Below.refl _ _) (av := .any) trivial trivial)
end Go.AX
namespace Go.Proofs.YtngnajknbeijjaaGreatDoor
open Go.AX Go.RF Go.RowKit Go.Sort Go.ChangeShapes Go.WideShapes
abbrev sorted (zs:List Int):List Int:=zs.mergeSort fun x y=>decide (x≤y)
theorem int_rows {w:World}{base:Nat}{own:Nat→Prop}{e:Nat}{v:Value}{zs:List Int}(h:RowsAt w base own e 1 v (zs.map encInt1)):w.ownsRow base e 1 v zs.length (zs.map (Value.int .i64)):=by
 obtain⟨xs,h1,h2,h3,h4⟩:=h
 have hl:xs.length=zs.length:=by have:=h1.1;simpa using this
 have he:xs=zs.map (Value.int .i64):=by
  apply List.ext_getElem (by simpa using hl)
  intro i hi hi'
  have hi2:i < zs.length:=by omega
  have hz:zs[i]? = some zs[i]:=List.getElem?_eq_getElem hi2
  have:=h4 i 0 (encInt1 zs[i]) (dint zs[i]) xs[i] (by rw[List.getElem?_map,hz];rfl) rfl (by simp)
  rw[rd_v this]
  simp
 rw[← he]
 simpa using h1
theorem rows_int {w:World}{base:Nat}{own:Nat→Prop}{e:Nat}{v:Value}{zs:List Int}(h:w.ownsRow base e 1 v zs.length (zs.map (Value.int .i64))):RowsAt w base own e 1 v (zs.map encInt1):=by
 refine⟨zs.map (Value.int .i64),by simpa using h,fun x hx=>?_,fun r hr=>?_,fun i j r x u hi hj hu=>?_⟩
 ·
  obtain⟨z,_,rfl⟩:=List.mem_map.1 hx;rfl
 ·
  obtain⟨z,_,rfl⟩:=List.mem_map.1 hr;rfl
 ·
  rw[List.getElem?_map]at hi
  cases hz:zs[i]? with
  |none=>rw[hz]at hi;cases hi
  |some z =>
   rw[hz]at hi
   simp at hi;subst hi
   cases j with
   |zero =>
    simp[encInt1]at hj;subst hj
    rw[Nat.mul_one,Nat.add_zero,List.getElem?_map,hz]at hu
    simp at hu;subst hu
    exact Rd.v _
   |succ j=>simp[encInt1]at hj
theorem in_sort (zs:List Int) (hl:zs.length≤1073741824):FnIn Tryz.prog 50 3 1 (zs.map encInt1) ((sorted zs).map encInt1):=by
 refine⟨⟨_,Tryz.func50,by kernel_rfl,by kernel_rfl⟩,by simp[sorted],fun w own v _ hR _=>?_⟩
 have h1:=int_rows hR
 rcases h1.2 with ⟨rfl,hn⟩|⟨b,cap,cur,rfl,_,hb,hle,hcm,hsz,htk⟩
 ·
  obtain rfl:zs=[]:=List.eq_nil_of_length_eq_zero hn
  refine(Any.slices_Sort_int_none Tryz.lays189 none 0 w).mono ?_
  rintro r w' ⟨rfl,rfl⟩
  rw[show sorted []=[] by simp[sorted]]
  exact⟨_,rfl,⟨rfl,rfl,rfl,Nat.le_refl _,fun b _ _=>rfl⟩,⟨[],World.ownsRow_nil _ _ _ _,by simp,by simp,by simp⟩⟩
 ·
  have hblt:b < w.heap.size:=by
   rcases Nat.lt_or_ge b w.heap.size with h|h
   ·
    exact h
   ·
    rw[Array.getElem?_eq_none h]at hb;cases hb
  have hH:=holds_of_blockI (ss:=zs) hb (by simpa using htk)
  refine(Any.slices_Sort_int Tryz.lays189 b 0 cap zs w hH hblt (by omega)).mono ?_
  rintro r w' ⟨rfl,n,os,rfl⟩
  have hg:=grownBy_sortedI (w:=w) (g:=b) (n:=n) (os:=os) (sorted zs).toArray
  have hrow:=ownsRow_sortedI (w:=w) (base:=0) (n:=n) (os:=os) (ss:=zs) (ts:=sorted zs) (by simp[sorted]) (Nat.zero_le _) hb hle hcm (by simpa using hsz)
  refine⟨_,rfl,⟨hg.os,hg.tape,hg.output,hg.size,fun c hc hne=>hg.block c hc fun e=>hne (show some b=some c from e.symm)⟩,?_⟩
  have hlen:(sorted zs).length=zs.length:=by simp[sorted]
  rw[← hlen]at hrow
  have:=rows_int (own:=with1 own (Value.slice (some ⟨b,0,none⟩) (sorted zs).length cap)) hrow
  rw[hlen]at this
  exact this
end Go.Proofs.YtngnajknbeijjaaGreatDoor
namespace Go.Proofs.YtngnajknbeijjaaGreatDoor
open Go.AX Go.RF
theorem int_ext:∀ {l r:List Int},l.Pairwise (· < ·)→r.Pairwise (· < ·)→(∀ x,x∈l↔x∈r)→l=r
 | [],[],_,_,_=>rfl
 | [],q::r,_,_,h=>by have:=(h q).2 (List.mem_cons_self ..);simp at this
 |p::l,[],_,_,h=>by have:=(h p).1 (List.mem_cons_self ..);simp at this
 |p::l,q::r,hl,hr,h=>by
  obtain⟨h1,h2⟩:=List.pairwise_cons.1 hl
  obtain⟨h3,h4⟩:=List.pairwise_cons.1 hr
  have hpq:p=q:=by
   rcases List.mem_cons.1 ((h p).1 (List.mem_cons_self ..)) with e|e
   ·
    exact e
   ·
    rcases List.mem_cons.1 ((h q).2 (List.mem_cons_self ..)) with f|f
    ·
     exact f.symm
    ·
     have:=h1 q f;have:=h3 p e;omega
  subst hpq
  refine congrArg (p :: ·) (int_ext h2 h4 fun x=>⟨fun hx=>?_,fun hx=>?_⟩)
  ·
   rcases List.mem_cons.1 ((h x).1 (List.mem_cons_of_mem _ hx)) with rfl|e
   ·
    have:=h1 x hx;omega
   ·
    exact e
  ·
   rcases List.mem_cons.1 ((h x).2 (List.mem_cons_of_mem _ hx)) with rfl|e
   ·
    have:=h3 x hx;omega
   ·
    exact e
theorem isNum_mem {n:Int}:∀ {l:List Int},isNum l n=true↔n∈l
 | []=>by simp[isNum]
 |x::l=>by
  simp only[isNum]
  by_cases h:x=n
  ·
   simp[h]
  ·
   rw[if_neg h,isNum_mem]
   simp[Ne.symm h]
theorem isNum_false {l:List Int}{n:Int}(h:isNum l n=false):n∉l:=fun hm=>by
 rw[isNum_mem.2 hm]at h;cases h
def pneedsGo (cs:List Chain) (base b:Int):List Int→List Str→List Int
 |out,[]=>out
 |out,k::r=>pneedsGo cs base b (if (before cs k b).made=false∧isNum out ((before cs k b).by_ - base)=false then out++[(before cs k b).by_ - base] else out) r
def pneeds (e:Engine) (at_:Nat) (d:Deed):List Int:=sorted (pneedsGo e.chains e.base (e.base+at_) [] (keysD d))
theorem pneedsGo_mem {cs:List Chain}{base b x:Int}:∀ {ks:List Str}{out:List Int},x∈pneedsGo cs base b out ks↔x∈out∨∃ k∈ks,(before cs k b).made=false∧x=(before cs k b).by_ - base
 | [],out=>by simp[pneedsGo]
 |k::ks,out=>by
  simp only[pneedsGo]
  rw[pneedsGo_mem]
  by_cases h:(before cs k b).made=false
  ·
   cases h2:isNum out ((before cs k b).by_ - base) with
   |true =>
    rw[if_neg (by simp)]
    have:=isNum_mem.1 h2
    constructor
    ·
     rintro (h3|⟨k',h3,h4⟩)
     ·
      exact .inl h3
     ·
      exact .inr ⟨k',List.mem_cons_of_mem _ h3,h4⟩
    ·
     rintro (h3|⟨k',h3,h4,h5⟩)
     ·
      exact .inl h3
     ·
      rcases List.mem_cons.1 h3 with rfl|h3
      ·
       exact .inl (by rw[h5];exact this)
      ·
       exact .inr ⟨k',h3,h4,h5⟩
   |false =>
    rw[if_pos ⟨h,rfl⟩]
    constructor
    ·
     rintro (h3|⟨k',h3,h4⟩)
     ·
      rcases List.mem_append.1 h3 with h3|h3
      ·
       exact .inl h3
      ·
       simp at h3;exact .inr ⟨k,List.mem_cons_self ..,h,h3⟩
     ·
      exact .inr ⟨k',List.mem_cons_of_mem _ h3,h4⟩
    ·
     rintro (h3|⟨k',h3,h4,h5⟩)
     ·
      exact .inl (List.mem_append_left _ h3)
     ·
      rcases List.mem_cons.1 h3 with rfl|h3
      ·
       exact .inl (by rw[h5];simp)
      ·
       exact .inr ⟨k',h3,h4,h5⟩
  ·
   rw[if_neg (fun e=>h e.1)]
   constructor
   ·
    rintro (h3|⟨k',h3,h4⟩)
    ·
     exact .inl h3
    ·
     exact .inr ⟨k',List.mem_cons_of_mem _ h3,h4⟩
   ·
    rintro (h3|⟨k',h3,h4,h5⟩)
    ·
     exact .inl h3
    ·
     rcases List.mem_cons.1 h3 with rfl|h3
     ·
      exact absurd h4 h
     ·
      exact .inr ⟨k',h3,h4,h5⟩
theorem pneedsGo_nodup {cs:List Chain}{base b:Int}:∀ {ks:List Str}{out:List Int},out.Nodup→(pneedsGo cs base b out ks).Nodup
 | [],out,h=>h
 |k::ks,out,h=>by
  simp only[pneedsGo]
  refine pneedsGo_nodup ?_
  split
  ·
   next h2 =>
   refine List.nodup_append.2 ⟨h,by simp,fun a ha x hx e=>?_⟩
   simp at hx
   subst hx;subst e
   exact isNum_false h2.2 ha
  ·
   exact h
theorem sorted_lt {l:List Int}(h:l.Nodup):(sorted l).Pairwise (· < ·):=by
 have h1:(sorted l).Pairwise (fun a b=>decide (a≤b)=true):=List.pairwise_mergeSort (le:=fun x y:Int=>decide (x≤y)) (by intro a b c;simp;omega) (by intro a b;simp;omega) l
 have h2:(sorted l).Nodup:=(List.mergeSort_perm l _).nodup_iff.2 h
 exact(h1.and h2).imp fun⟨a,b⟩=>by simp at a;omega
theorem anyHit_iff {cs:List Chain}{b want:Int}:∀ {ks:List Str},anyHit cs b want ks=true↔∃ k∈ks,(before cs k b).made=false∧(before cs k b).by_=want
 | []=>by simp[anyHit]
 |k::ks=>by
  simp only[anyHit]
  by_cases h:hit cs b want k=true
  ·
   rw[if_pos h]
   simp only[hit,Bool.and_eq_true,Bool.not_eq_true',decide_eq_true_eq]at h
   exact⟨fun _=>⟨k,List.mem_cons_self ..,h⟩,fun _=>rfl⟩
  ·
   rw[if_neg h,anyHit_iff]
   simp only[hit,Bool.and_eq_true,Bool.not_eq_true',decide_eq_true_eq]at h
   constructor
   ·
    rintro ⟨k',h1,h2⟩;exact⟨k',List.mem_cons_of_mem _ h1,h2⟩
   ·
    rintro ⟨k',h1,h2⟩
    rcases List.mem_cons.1 h1 with rfl|h1
    ·
     exact absurd h2 h
    ·
     exact⟨k',h1,h2⟩
theorem needsGo_mem {cs:List Chain}{base b x:Int}{ks:List Str}:∀ {l:List Nat}{j:Nat},x∈needsGo cs base b ks j l↔∃ k∈l,x=(k:Int)∧anyHit cs b (base+k) ks=true
 | [],j=>by simp[needsGo]
 |k::l,j=>by
  simp only[needsGo]
  by_cases h:anyHit cs b (base+k) ks=true
  ·
   rw[if_pos h,List.mem_cons,needsGo_mem]
   constructor
   ·
    rintro (h1|⟨k',h1,h2⟩)
    ·
     exact⟨k,List.mem_cons_self ..,h1,h⟩
    ·
     exact⟨k',List.mem_cons_of_mem _ h1,h2⟩
   ·
    rintro ⟨k',h1,h2⟩
    rcases List.mem_cons.1 h1 with rfl|h1
    ·
     exact .inl h2.1
    ·
     exact .inr ⟨k',h1,h2⟩
  ·
   rw[if_neg h,needsGo_mem]
   constructor
   ·
    rintro ⟨k',h1,h2⟩;exact⟨k',List.mem_cons_of_mem _ h1,h2⟩
   ·
    rintro ⟨k',h1,h2⟩
    rcases List.mem_cons.1 h1 with rfl|h1
    ·
     exact absurd h2.2 h
    ·
     exact⟨k',h1,h2⟩
theorem needsGo_lt {cs:List Chain}{base b:Int}{ks:List Str}:∀ {l:List Nat}{j:Nat},l.Pairwise (· < ·)→(needsGo cs base b ks j l).Pairwise (· < ·)
 | [],j,_=>List.Pairwise.nil
 |k::l,j,h=>by
  obtain⟨h1,h2⟩:=List.pairwise_cons.1 h
  simp only[needsGo]
  split
  ·
   refine List.pairwise_cons.2 ⟨fun x hx=>?_,needsGo_lt h2⟩
   obtain⟨k',h3,rfl,_⟩:=needsGo_mem.1 hx
   have:=h1 k' h3
   omega
  ·
   exact needsGo_lt h2
theorem pneeds_eq {e:Engine}{at_:Nat}{d:Deed}(hB:∀ k,(before e.chains k (e.base+at_)).made=false→e.base≤(before e.chains k (e.base+at_)).by_∧(before e.chains k (e.base+at_)).by_ < e.base+at_):pneeds e at_ d=needs e at_ d:=by
 refine int_ext (sorted_lt (pneedsGo_nodup List.nodup_nil)) (needsGo_lt List.pairwise_lt_range) fun x=>?_
 unfold needs pneeds
 rw[needsGo_mem,show(x∈sorted (pneedsGo e.chains e.base (e.base+at_) [] (keysD d)))↔_ from List.mem_mergeSort,pneedsGo_mem]
 constructor
 ·
  rintro (h|⟨k,h1,h2,rfl⟩)
  ·
   simp at h
  ·
   obtain⟨h3,h4⟩:=hB k h2
   refine⟨((before e.chains k (e.base+at_)).by_ - e.base).toNat,List.mem_range.2 (by omega),by omega,anyHit_iff.2 ⟨k,h1,h2,by omega⟩⟩
 ·
  rintro ⟨k,h1,rfl,h2⟩
  obtain⟨s,h3,h4,h5⟩:=anyHit_iff.1 h2
  exact .inr ⟨s,h3,h4,by omega⟩
set_option maxRecDepth 100000
set_option maxHeartbeats 8000000
def NB (e:Engine):Prop:=∀ (at_:Nat) (k:Str),(before e.chains k (e.base+at_)).made=false→e.base≤(before e.chains k (e.base+at_)).by_∧(before e.chains k (e.base+at_)).by_ < e.base+at_
theorem ok_pneeds (e:Engine) (at_:Nat) (d:Deed) (hs:e.Sm) (hd:e.deeds[at_]? = some d) (hn:d.reads.Nodup) (hk:Srt Chain.key e.chains) (hB:NB e) :
  FnOk Tryz.prog 14 [.d (.agg e.enc),.d (dint at_)] (.one (encInts (needs e at_ d))):=by
 refine fnOk_of tbl_ok mixed_ok Tryz.func14 rfl (by kernel_rfl) rfl rfl fun w0 own0=>?_
 rw[← pneeds_eq (hB at_)]
 have hat:=(List.getElem?_eq_some_iff.1 hd).1
 have hdl:=hs.d
 have hbase:=hs.b
 have hdd:=hs.dd d (List.mem_of_getElem? hd)
 have ck:=ok_pkeys d hn hdd.r hdd.w
 have hkl:=keysD_len hdd
 have cb:=fun k=>ok_pbefore e.chains k (e.base+at_) (by have:=hs.c;omega) (fun c h=>by have:=hs.v c h;omega) hk
 have hst0:StopR 2:=⟨rfl⟩
 try refine wkS ?_
 clear hst0
 refine Stop.go (CW.stut (stut_promote (i:=5) 3 1) ⟨rfl,rfl,trivial⟩ ?_)
 try refine wk ?_
 refine CW.loopT (fun t:Nat×List Int=>[sd 1 (dint at_),sp 2 0,ob 0 e.enc,sd 4 (.v nilS),so 5 1 t.2.length,oa 1 3 1 (t.2.map encInt1),sd 14 (encStrs (keysD d)),sd 15 (dint (keysD d).length),sd 16 (dint t.1),nxt 2])
  (fun t=>t.1≤(keysD d).length∧t.2.length≤t.1∧pneedsGo e.chains e.base (e.base+at_) t.2 ((keysD d).drop t.1)=pneedsGo e.chains e.base (e.base+at_) [] (keysD d)) (fun t=>(keysD d).length - t.1) (0,[]) ⟨by omega,by simp,rfl⟩ ?_ ?_
 ·
  exact by_less
 ·
  rintro ⟨j,out⟩ ⟨hj,ho,hI⟩
  dsimp only at hj ho hI ⊢
  rcases drop_case hj with ⟨h1,h2⟩|⟨k,h1,h2,h3⟩
  ·
   rw[h1]at hI
   simp only[pneedsGo]at hI
   have hsort:=in_sort out (by omega)
   repeat(first|refine wa ?_|((with_reducible apply s5);(first|(focus (with_reducible apply a_inplace);exact hsort;exact rfl;exact rfl;exact rfl;(focus first|exact rfl|(simp;done));exact rfl)|exact by_oa|exact by_ca);exact by_g)|refine wb ?_)
   exact .one (.tmp rfl (.one (.own rfl (by simp[sorted]) (dle_eq (by unfold pneeds;rw[← hI];rfl)))))
  ·
   rw[h1]at hI
   simp only[pneedsGo]at hI
   have cbk:=cb k
   have hBk:=hB at_ k
   obtain⟨⟨vb,vm,vh,vn⟩,hv⟩:∃ v,before e.chains k (e.base+at_)=v:=⟨_,rfl⟩
   rw[hv]at cbk hBk
   rw[hv]at hI
   dsimp only at hI hBk
   cases vm with
   |true =>
    rw[if_neg (by simp)]at hI
    repeat(first|refine wa ?_|((with_reducible apply s5);(first|exact a_call cbk rfl by_sub|exact by_oa|exact by_ca);exact by_g)|refine wb ?_)
    refine q_loopT (j+1,out) ⟨by dsimp only;omega,by dsimp only;omega,hI⟩ (by dsimp only;omega) ?_
    exact by_less
   |false =>
    obtain⟨hB1,hB2⟩:=hBk rfl
    have cc:=ok_containsI out (vb - e.base) (by omega)
    cases hc:isNum out (vb - e.base) with
    |true =>
     rw[hc]at cc hI
     rw[if_neg (by simp)]at hI
     repeat(first|refine wa ?_|((with_reducible apply s5);(first|exact a_call cbk rfl by_sub|(focus ((with_reducible apply a_lend);exact cc;exact rfl;exact .plain rfl;(focus first|exact rfl|(simp;done)|(simp;omega));(iterate 2 exact rfl);exact by_sub))|exact by_oa|exact by_ca);exact by_g)|refine wb ?_)
     refine q_loopT (j+1,out) ⟨by dsimp only;omega,by dsimp only;omega,hI⟩ (by dsimp only;omega) ?_
     exact by_less
    |false =>
     rw[hc]at cc hI
     rw[if_pos ⟨rfl,rfl⟩]at hI
     repeat(first|refine wa ?_|((with_reducible apply s5);(first|exact a_call cbk rfl by_sub|(focus ((with_reducible apply a_lend);exact cc;exact rfl;exact .plain rfl;(focus first|exact rfl|(simp;done)|(simp;omega));(iterate 2 exact rfl);exact by_sub))|exact by_oa|exact by_ca);exact by_g)|refine wb ?_)
     refine q_loopT (j+1,out++[vb - e.base]) ⟨by dsimp only;omega,by dsimp only;simp;omega,hI⟩ (by dsimp only;omega) ?_
     exact by_less
theorem ok_pready (e:Engine) (hs:e.Sm) (hl:e.state.length=e.deeds.length) (hn:∀ d∈e.deeds,d.reads.Nodup) (hk:Srt Chain.key e.chains) (hB:NB e) :
  FnOk Tryz.prog 60 [.d (.agg e.enc)] (.one (encInts (ready e))):=by
 refine fnOk_of tbl_ok mixed_ok Tryz.func60 rfl (by kernel_rfl) rfl rfl fun w0 own0=>?_
 have hd1:=hs.d
 have hst0:StopA 2:=⟨rfl⟩
 try refine wkS ?_
 clear hst0
 refine Stop.go (CW.stut (stut_promote (i:=3) 3 1) ⟨rfl,rfl,trivial⟩ ?_)
 try refine wk ?_
 refine CW.loopT (fun t:Nat×List Int=>[sp 1 0,ob 0 e.enc,sd 2 (.v nilS),so 3 1 t.2.length,oa 1 3 1 (t.2.map encInt1),sd 7 (encInts e.state),sd 8 (dint e.state.length),sd 9 (dint t.1),nxt 2])
  (fun t=>t.1≤e.state.length∧t.2.length≤t.1∧t.2++readyGo e t.1 (e.state.drop t.1)=ready e) (fun t=>e.state.length - t.1) (0,[]) ⟨by omega,by simp,rfl⟩ ?_ ?_
 ·
  exact by_less
 ·
  rintro ⟨i,out⟩ ⟨hi,ho,hI⟩
  dsimp only at hi ho hI ⊢
  rcases drop_case hi with ⟨h1,h2⟩|⟨s,h1,h2,h3⟩
  ·
   rw[h1]at hI
   simp only[readyGo,List.append_nil]at hI
   try refine wk ?_
   exact .one (.tmp rfl (.one (.own rfl (by simp) (dle_eq (by rw[← hI];rfl)))))
  ·
   rw[h1]at hI
   simp only[readyGo]at hI
   obtain⟨d,hd⟩:∃ d,e.deeds[i]? = some d:=⟨e.deeds[i]'(by omega),List.getElem?_eq_getElem (by omega)⟩
   have hna:needsAt e i=needs e i d:=by unfold needsAt;rw[hd]
   rw[hna]at hI
   have cn:=ok_pneeds e i d hs hd (hn d (List.mem_of_getElem? hd)) hk hB
   have hnl:(needs e i d).length≤268435456:=by
    have:=needs_len e.chains e.base (e.base+i) (keysD d) (List.range i) 0
    unfold needs
    simp at this
    omega
   by_cases h4:s=0
   ·
    cases h5:needs e i d with
    |nil =>
     rw[if_pos ⟨h4,h5⟩]at hI
     rw[h5]at cn
     try refine wk ?_
     refine q_loopT (i+1,out++[(i:Int)]) ⟨by dsimp only;omega,by dsimp only;simp;omega,by rw[← hI];simp⟩ (by dsimp only;omega) ?_
     exact by_less
    |cons x l =>
     rw[if_neg (by rw[h5];simp)]at hI
     rw[h5]at cn hnl
     have hne:¬ ((x::l).length:Int)=0:=by simp;omega
     try refine wk ?_
     refine q_loopT (i+1,out) ⟨by dsimp only;omega,by dsimp only;omega,hI⟩ (by dsimp only;omega) ?_
     exact by_less
   ·
    rw[if_neg (fun e=>h4 e.1)]at hI
    try refine wk ?_
    refine q_loopT (i+1,out) ⟨by dsimp only;omega,by dsimp only;omega,hI⟩ (by dsimp only;omega) ?_
    exact by_less
theorem setV_false (v w:Version):setV false v w=w:=by simp[setV]
theorem setC_ne {k:Str}{v:Version}{c:Chain}(h:c.key≠k):setC k v c=c:=by
 unfold setC
 rw[decide_eq_false h]
 have:c.vs.map (setV false v)=c.vs:=by
  rw[show setV false v=id from funext fun w=>setV_false v w];simp
 rw[this]
theorem set_found {k:Str}{v:Version}{l:List Chain}{m:Nat}{c:Chain}(hs:Srt Chain.key l) (hc:l[m]? = some c) (hk:c.key=k):setChains l k v=l.set m ⟨c.key,c.vs.map (setV true v)⟩:=by
 apply List.ext_getElem?
 intro j
 unfold setChains
 rw[List.getElem?_map]
 by_cases hj:m=j
 ·
  subst hj
  rw[List.getElem?_set_self (List.getElem?_eq_some_iff.1 hc).1,hc]
  simp[setC,hk]
 ·
  rw[List.getElem?_set_ne hj]
  cases hd:l[j]? with
  |none=>rfl
  |some d =>
   have:d.key≠k:=by rw[← hk];exact hs.ne hd hc fun e=>hj e.symm
   simp[setC_ne this]
theorem set_none {k:Str}{v:Version}{l:List Chain}{m:Nat}(hs:Srt Chain.key l) (hm:AtK Chain.key l k m) (hn:isAtK Chain.key l k m=false):setChains l k v=l:=by
 have key:∀ c∈l,setC k v c=c:=fun c hc=>setC_ne fun e=>by
  obtain⟨j,hj⟩:=List.getElem?_of_mem hc
  rcases Nat.lt_trichotomy j m with h|h|h
  ·
   have:=hm.lt j c hj h
   rw[e,slt_irrefl]at this;cases this
  ·
   subst h
   rw[isAtK,hj]at hn
   simp[e]at hn
  ·
   have hml:m < l.length:=by have:=(List.getElem?_eq_some_iff.1 hj).1;omega
   have hme:l[m]? = some l[m]:=List.getElem?_eq_getElem hml
   have h1:=hm.ge m l[m] hme (Nat.le_refl _)
   have h2:=hs.lt hme hj h
   rw[e,h1]at h2;cases h2
 unfold setChains
 conv=>rhs;rw[← List.map_id l]
 exact List.map_congr_left key
def midV (v:Version) (vs:List Version) (i:Nat):List Version:=(vs.take i).map (setV true v)++vs.drop i
theorem midV_at {v:Version}{vs:List Version}{i:Nat}{x:Version}(h:vs[i]? = some x):((midV v vs i).map Version.enc)[i]? = some x.enc∧((midV v vs i).map Version.enc).set i (setV true v x).enc=(midV v vs (i+1)).map Version.enc:=by
 have hlt:=(List.getElem?_eq_some_iff.1 h).1
 have h1:vs.drop i=x::vs.drop (i+1):=by
  have:=List.drop_eq_getElem_cons hlt
  rw[(List.getElem?_eq_some_iff.1 h).2]at this
  exact this
 have h2:vs.take (i+1)=vs.take i++[x]:=by rw[List.take_add_one,h];rfl
 have hl:((vs.take i).map (setV true v)).length=i:=by simp;omega
 unfold midV
 constructor
 ·
  rw[List.map_append,List.getElem?_append_right (by simp;omega),h1]
  simp[Nat.min_eq_left (Nat.le_of_lt hlt)]
 ·
  rw[h1,h2,List.map_append,List.set_append_right _ _ (by simp;omega)]
  simp[Nat.min_eq_left (Nat.le_of_lt hlt)]
theorem ok_pset (l:List Chain) (k:Str) (v:Version) (hl:l.length≤268435455) (hv:∀ c∈l,c.vs.length≤268435455) (hs:Srt Chain.key l) :
  FnOk Tryz.prog 89 [.d (encChains l),.d (dstr k),.d (.agg v.enc)] (.one (encChains (setChains l k v))):=by
 refine fnOk_of tbl_ok mixed_ok Tryz.func89 rfl (by kernel_rfl) rfl rfl fun w0 own0=>?_
 obtain⟨m,hm⟩:=hs.at k
 have hml:=hm.le
 have hf:=ok_find l k m (by omega) hm
 have hvv:∀ c∈l,c.vs.length≤268435456:=fun c hc=>by have:=hv c hc;omega
 cases hb:isAt l k m with
 |true =>
  obtain⟨c,hc,hck⟩:=isAt_some hb
  rw[hb]at hf
  have hmlt:=(List.getElem?_eq_some_iff.1 hc).1
  have hcv:=hv c (List.mem_of_getElem? hc)
  rw[set_found hs hc hck]
  have ho2:=own2_chain l m c hc (by omega) hvv
  have hst0:StopR 1:=⟨rfl⟩
  try refine wkS ?_
  clear hst0
  refine Stop.go (CW.seq (CW.regionS ?_))
  repeat(first|((with_reducible apply SW.s1);exact rfl)|((with_reducible apply SW.s5);exact by_oa;exact rfl))
  refine SW.fam rfl (fam_own2 (nx:=1) ho2 rfl rfl (.cons rfl (.d (.refl _)) trivial .nil)) fun x=>?_
  refine SW.rw ?_
  have hkl:(keptRows l m c x).length=l.length:=by simp[keptRows]
  have hrow:=kept_at l m c x hc
  rw[← kept_back l m c x hc]at hf
  have hst0:StopR 4:=⟨rfl⟩
  repeat(first|refine waS ?_|((with_reducible apply s5);(first|(focus (with_reducible apply a_lend);exact hf;exact rfl;exact .pin (id2:=2) rfl hrow rfl rfl;exact rfl;exact rfl;exact rfl;apply SubsE.cons;exact rfl;exact .d (.refl _);exact trivial;exact SubsE.nil)|exact by_oa|exact by_ca);exact by_g)|refine wb ?_)
  clear hst0
  refine Stop.go (CW.fact (pin_slice (id:=2) rfl) ?_)
  rintro ⟨p,cp,rfl⟩
  have hmk:m < (keptRows l m c (.slice p (c.vs.map Version.enc).length cp)).length:=by omega
  repeat(first|refine wa ?_|((with_reducible apply s5);(first|((with_reducible apply a_lenv);(iterate 4 exact rfl))|exact by_oa|exact by_ca);exact by_g)|refine wb ?_)
  have hvl:(c.vs.map Version.enc).length=c.vs.length:=by simp
  rw[hvl]at hrow hmk hkl ⊢
  generalize hx:Value.slice p c.vs.length cp=x at hrow hmk hkl ⊢
  refine CW.loopT (fun t:Nat=>[sp 5 0,ob 0 v.enc,so 7 1 (keptRows l m c x).length,oa 1 80 2 (keptRows l m c x),(.o 2,.ob (.pin 77 4 ((midV v c.vs t).map Version.enc) x)),sd 8 (dint m),sd 25 (dint c.vs.length),sd 26 (dint t),nxt 3])
   (fun t=>t≤c.vs.length) (fun t=>c.vs.length - t) 0 (Nat.zero_le _) ?_ ?_
  ·
   exact by_less
  ·
   rintro t ht
   rcases drop_case ht with ⟨h1,h2⟩|⟨y,h1,h2,h3⟩
   ·
    subst h2
    have hmid:midV v c.vs c.vs.length=c.vs.map (setV true v):=by simp[midV]
    rw[hmid]
    have hst0:StopR 10:=⟨rfl⟩
    try refine wkS ?_
    clear hst0
    refine Stop.go (CW.stut (stut_fold (id:=1) (id2:=2) (j:=1) hrow rfl) ⟨rfl,rfl,trivial⟩ ?_)
    try refine wk ?_
    refine .one (.tmp rfl (.one (.own rfl (by simp) (dle_eq ?_))))
    exact congrArg _ (kept_set l m c x (c.vs.map (setV true v)))
   ·
    obtain⟨hat,hset⟩:=midV_at (v:=v) h2
    have hne:(midV v c.vs t).map Version.enc≠[]:=by
     intro e
     have:=congrArg List.length e
     simp[midV]at this
     omega
    refine CW.fact (pin_shape (id:=2) rfl hne) ?_
    rintro ⟨b,cp',hxe⟩
    have hml2:((midV v c.vs t).map Version.enc).length=c.vs.length:=by simp[midV];omega
    rw[hml2]at hxe
    subst hxe
    by_cases h4:y.by_=v.by_
    ·
     have hsv:setV true v y=v:=by simp[setV,h4]
     rw[hsv]at hset
     repeat(first|refine wa ?_|((with_reducible apply s5);(first|((with_reducible apply a_iav);(iterate 5 exact rfl);omega)|((with_reducible apply a_fav);(iterate 4 exact rfl))|((with_reducible apply(a_lpin 2 t 0));(iterate 4 exact rfl);exact hat;exact rfl;(first|rfl|omega))|((with_reducible apply(a_spin 2 t 0));(iterate 6 exact rfl);exact hat;exact rfl;(first|rfl|omega))|exact by_oa|exact by_ca);exact by_g)|refine wb ?_)
     refine q_loopT (t+1) (by omega) (by omega) ?_
     dsimp only
     rw[← hset]
     exact by_less
    ·
     have hsv:setV true v y=y:=by unfold setV;rw[if_neg (by simpa using h4)]
     rw[hsv]at hset
     have hset2:(midV v c.vs t).map Version.enc=(midV v c.vs (t+1)).map Version.enc:=by
      rw[← hset]
      refine(List.ext_getElem? fun j=>?_)
      by_cases hj:t=j
      ·
       subst hj
       rw[List.getElem?_set_self (by rw[hml2];exact(List.getElem?_eq_some_iff.1 h2).1),hat]
      ·
       rw[List.getElem?_set_ne hj]
     repeat(first|refine wa ?_|((with_reducible apply s5);(first|((with_reducible apply a_iav);(iterate 5 exact rfl);omega)|((with_reducible apply a_fav);(iterate 4 exact rfl))|((with_reducible apply(a_lpin 2 t 0));(iterate 4 exact rfl);exact hat;exact rfl;(first|rfl|omega))|exact by_oa|exact by_ca);exact by_g)|refine wb ?_)
     refine q_loopT (t+1) (by omega) (by omega) ?_
     rw[hset2]
     exact by_less
 |false =>
  rw[hb]at hf
  have hn:=new_chainOwn l (by omega) hvv
  rw[set_none hs hm hb]
  repeat(first|refine wa ?_|((with_reducible apply s5);(first|exact a_callnew hn rfl rfl by_sub|(focus ((with_reducible apply a_lend);exact hf;exact rfl;exact .plain rfl;(focus first|exact rfl|(simp;done)|(simp;omega));(iterate 2 exact rfl);exact by_sub))|exact by_oa|exact by_ca);exact by_g)|refine wb ?_)
  exact .one (.tmp rfl (.one (.own rfl (by simp) (.refl _))))
def pickV (k:Str):Version→List (Str×(Bool×Int))→Version
 |v,[]=>v
 |v,c::r=>pickV k (if c.1=k then chVer c else v) r
def madeV (cs:List Chain) (b:Int) (ch:List (Str×(Bool×Int))) (k:Str):Version:=⟨b,true,(pickV k (before cs k b) ch).has,(pickV k (before cs k b) ch).n⟩
def pgoSets (cs0:List Chain) (b:Int) (ch:List (Str×(Bool×Int))):List Chain→List Str→List Chain
 |cs,[]=>cs
 |cs,k::ks=>pgoSets cs0 b ch (setChains cs k (madeV cs0 b ch k)) ks
def viewE (cs:List Chain) (b:Int) (k:Str):Int×Bool:=((before cs k b).n,(before cs k b).has)
def pgoNew (e:Engine) (A:Nat) (d:Deed):Engine :=
 ⟨pgoSets e.chains (e.base+A) (runC (viewE e.chains (e.base+A)) d) e.chains d.writes,e.deeds,e.state.set A 1,e.ends.set A (runM (viewE e.chains (e.base+A)) d).2,e.base⟩
theorem ok_viewE (e:Engine) (b:Int) (k:Str) (hs:e.Sm) (hk:Srt Chain.key e.chains):FnOk Tryz.prog 87 [.d (dstr k),.pd e.enc,.pd [dint b]] (.tup [dint (viewE e.chains b k).1,dbool (viewE e.chains b k).2]):=by
 refine fnOk_of tbl_ok mixed_ok Tryz.func87 rfl (by kernel_rfl) rfl rfl fun w0 own0=>?_
 have c1:=ok_pbefore e.chains k b (by have:=hs.c;omega) (fun c h=>by have:=hs.v c h;omega) hk
 unfold viewE
 obtain⟨⟨vb,vm,vh,vn⟩,hv⟩:∃ v,before e.chains k b=v:=⟨_,rfl⟩
 rw[hv]at c1 ⊢
 try refine wk ?_
 exact .two (.tmp rfl (.one (.d (.refl _)))) (.tmp rfl (.one (.d (.refl _))))
theorem pgo_loop (e:Engine) (A:Nat) (d:Deed) (hs:e.Sm) (hd:e.deeds[A]? = some d) (hst:e.state.length=e.deeds.length) (hen:e.ends.length=e.deeds.length) (hk:Srt Chain.key e.chains)
  (hw:wrongDeed d=0) (hch:chOk e.chains) (N:Int) (hb:∀ c∈e.chains,VSrt c.vs∧∀ v∈c.vs,v.by_ < N) (hne:needs e A d=[]) (s:Int) (hsA:e.state[A]? = some s) (hs1:¬ s=1) (hn:FnOk Tryz.prog 14 [.d (.agg e.enc),.d (dint A)] (.one (encInts []))) :
  FnOk Tryz.prog 61 [.d (.agg e.enc),.d (dint A)] (.tup [.agg (pgoNew e A d).enc,dint 0]):=by
 refine fnOk_of tbl_ok mixed_ok Tryz.func61 rfl (by kernel_rfl) rfl rfl fun w0 own0=>?_
 have hA:=(List.getElem?_eq_some_iff.1 hd).1
 have hdl:=hs.d
 have hbase:=hs.b
 have hcl:=hs.c
 have ho:=wrongDeed_ok hw
 have hwl:=ho.w
 have co:=news_planOwn e hs
 have cr:=ok_run 87 [refD e.enc,refD [dint (e.base+A)]] [.pd e.enc,.pd [dint (e.base+A)]] (viewE e.chains (e.base+A)) d (.ref (.ref .nil)) (fun k _=>ok_viewE e (e.base+A) k hs hk)
  (fun k _=>before_ok hch k _) (by have:=ho.c;omega) (by omega) ho.i (wrong_reads hw)
 unfold pgoNew
 have hrl:(runC (viewE e.chains (e.base+A)) d).length≤5:=by
  unfold runC
  split
  ·
   simp
  ·
   exact Nat.le_trans (chg_len _ _) hwl
 unfold runRes at cr
 generalize runC (viewE e.chains (e.base+A)) d=ch at cr hrl ⊢
 generalize (runM (viewE e.chains (e.base+A)) d).2=dn at cr ⊢
 have hAl:¬ ((A:Int) < 0):=by omega
 have hst0:StopR 9:=⟨rfl⟩
 repeat(first|refine waS ?_|((with_reducible apply s5);(first|exact a_call hn rfl by_sub|exact a_callnews co rfl rfl by_sub|exact by_oa|exact by_ca);exact by_g)|refine wb ?_)
 clear hst0
 refine Stop.go (CW.stut (stut_freezebox (i:=2) (id:=0) (ds:=e.enc) rfl) ⟨rfl,rfl,trivial⟩ ?_)
 refine CW.stut (stut_freezebox (i:=7) (id:=6) (ds:=[dint (e.base+A)]) rfl) ⟨rfl,rfl,trivial⟩ ?_
 have hst0:StopR 10:=⟨rfl⟩
 repeat(first|refine waS ?_|((with_reducible apply s5);(first|((with_reducible apply(a_mkfn (ds:=[refD e.enc,refD [dint (e.base+A)]])));exact rfl;apply SubsE.cons;exact rfl;exact .d (.refl _);exact trivial;apply SubsE.cons;exact rfl;exact .d (.refl _);exact trivial;exact SubsE.nil)|exact by_oa|exact by_ca);exact by_g)|refine wb ?_)
 clear hst0
 refine Stop.go (CW.stut (stut_refpd (i:=2)) ⟨rfl,trivial⟩ ?_)
 refine CW.stut (stut_refpd (i:=7)) ⟨rfl,trivial⟩ ?_
 try refine wk ?_
 refine CW.loopT (fun t:Nat×List Chain=>[sd 1 (dint A),(.s 2,.av (.pd e.enc)),sp 4 1,ob 1 noE.enc0,sd 5 (dint 0),sp 6 5,(.o 5,.ob (.box [.d (encChains t.2),.own 2 (e.deeds.map Deed.enc).length,.own 3 (e.state.map encInt1).length,.own 4 (e.ends.map Done.enc).length,.d (dint e.base)])),(.s 7,.av (.pd [dint (e.base+A)])),sp 9 7,ob 7 dn.enc,sd 10 (encVs (ch.map chVer)),sd 11 (encStrs (ch.map (·.1))),sd 69 (encStrs d.writes),sd 70 (dint d.writes.length),sd 71 (dint t.1),oa 2 42 3 (e.deeds.map Deed.enc),oa 3 3 1 (e.state.map encInt1),oa 4 86 5 (e.ends.map Done.enc),nxt 8])
  (fun t=>t.1≤d.writes.length∧t.2.length≤134217728∧(∀ c∈t.2,c.vs.length≤134217728)∧(Srt Chain.key t.2∧∀ c∈t.2,VSrt c.vs∧∀ v∈c.vs,v.by_ < N)∧pgoSets e.chains (e.base+A) ch t.2 (d.writes.drop t.1)=pgoSets e.chains (e.base+A) ch e.chains d.writes) (fun t=>d.writes.length - t.1) (0,e.chains) ⟨by omega,hcl,hs.v,⟨hk,hb⟩,rfl⟩ ?_ ?_
 ·
  exact by_less
 ·
  rintro ⟨j,cs⟩ ⟨hj,hl1,hl2,hl3,hJ⟩
  dsimp only at hj hl1 hl2 hl3 hJ ⊢
  rcases drop_case hj with ⟨h1,h2⟩|⟨k,h1,h2,h3⟩
  ·
   rw[h1,pgoSets]at hJ
   have hsA':(e.state.map encInt1)[A]? = some (encInt1 s):=by rw[List.getElem?_map,hsA];rfl
   have hEl:A < e.ends.length:=by omega
   obtain⟨q,hq⟩:∃ q,e.ends[A]? = some q:=⟨e.ends[A],List.getElem?_eq_getElem hEl⟩
   have hq':(e.ends.map Done.enc)[A]? = some q.enc:=by rw[List.getElem?_map,hq];rfl
   have hAs:A < (e.state.map encInt1).length:=by simp;omega
   have hAe:A < (e.ends.map Done.enc).length:=by simp;omega
   try refine wk ?_
   rw[← hJ]
   refine .two (.cell rfl rfl rfl rfl (.agg (.cons (.d (.refl _)) (.cons (.own rfl (by simp) (.refl _)) (.cons (.own rfl (by simp) (dle_eq ?_)) (.cons (.own rfl (by simp) (dle_eq ?_)) (.cons (.d (.refl _)) .nil))))))) (.tmp rfl (.one (.d (.refl _))))
   ·
    show D.sl 1 _=D.sl 1 _
    rw[List.map_set];rfl
   ·
    show D.sl 5 _=D.sl 5 _
    rw[List.map_set];rfl
  ·
   rw[h1,pgoSets]at hJ
   have cb:=ok_pbefore e.chains k (e.base+A) (by omega) (fun c h=>by have:=hs.v c h;omega) hk
   try refine wk ?_
   refine CW.loopT (fun t:Nat×Version=>[sd 1 (dint A),(.s 2,.av (.pd e.enc)),sp 4 1,ob 1 noE.enc0,sd 5 (dint 0),sp 6 5,(.o 5,.ob (.box [.d (encChains cs),.own 2 (e.deeds.map Deed.enc).length,.own 3 (e.state.map encInt1).length,.own 4 (e.ends.map Done.enc).length,.d (dint e.base)])),(.s 7,.av (.pd [dint (e.base+A)])),sp 9 7,ob 7 dn.enc,sd 10 (encVs (ch.map chVer)),sd 11 (encStrs (ch.map (·.1))),sd 69 (encStrs d.writes),sd 70 (dint d.writes.length),sd 71 (dint j),oa 2 42 3 (e.deeds.map Deed.enc),oa 3 3 1 (e.state.map encInt1),oa 4 86 5 (e.ends.map Done.enc),sd 13 (dstr k),sp 14 8,ob 8 t.2.enc,sd 80 (encStrs (ch.map (·.1))),sd 81 (dint (ch.map (·.1)).length),sd 82 (dint t.1),nxt 9])
    (fun t=>t.1≤ch.length∧pickV k t.2 (ch.drop t.1)=pickV k (before e.chains k (e.base+A)) ch) (fun t=>ch.length - t.1) (0,before e.chains k (e.base+A)) ⟨by omega,rfl⟩ ?_ ?_
   ·
    exact by_less
   ·
    rintro ⟨i,v⟩ ⟨hi,hI⟩
    dsimp only at hi hI ⊢
    rcases drop_case hi with ⟨g1,g2⟩|⟨c,g1,g2,g3⟩
    ·
     rw[g1,pickV]at hI
     have hmv:madeV e.chains (e.base+A) ch k=⟨e.base+A,true,v.has,v.n⟩:=by unfold madeV;rw[← hI]
     have cset:=ok_pset cs k ⟨e.base+A,true,v.has,v.n⟩ (by omega) (fun c h=>by have:=hl2 c h;omega) hl3.1
     rw[hmv]at hJ
     obtain⟨vb,vm,vh,vn⟩:=v
     dsimp only at cset hJ
     try refine wk ?_
     refine q_loopT (j+1,setChains cs k ⟨e.base+A,true,vh,vn⟩) ⟨by dsimp only;omega,by dsimp only;rw[set_len];exact hl1,set_vs hl2,set_srt hl3.1 hl3.2,hJ⟩ (by dsimp only;omega) ?_
     exact by_less
    ·
     rw[g1,pickV]at hI
     have g4:(ch.map chVer)[i]? = some (chVer c):=by rw[List.getElem?_map,g2];rfl
     have g5:(ch.map (·.1))[i]? = some c.1:=by rw[List.getElem?_map,g2];rfl
     by_cases h:c.1=k
     ·
      rw[if_pos h]at hI
      try refine wk ?_
      refine q_loopT (i+1,chVer c) ⟨by dsimp only;omega,hI⟩ (by dsimp only;omega) ?_
      exact by_less
     ·
      rw[if_neg h]at hI
      try refine wk ?_
      refine q_loopT (i+1,v) ⟨by dsimp only;omega,hI⟩ (by dsimp only;omega) ?_
      exact by_less
structure WInv (e:Engine):Prop where
 d:∀ d∈e.deeds,wrongDeed d=0
 n:∀ c∈e.chains,∀ v∈c.vs,v.made=false→∃ (k:Nat) (x:Deed),v.by_=e.base+k∧e.state[k]? = some 0∧e.deeds[k]? = some x∧c.key∈x.writes
 h:∀ c∈e.chains,∀ v∈c.vs,v.has=false→v.n=0
 l:e.state.length=e.deeds.length
theorem newE_w (r:List Pair):WInv (newE r):=by
 have h0:∀ c∈(newE r).chains,∀ v∈c.vs,v.made=true∧v.has=true:=by
  intro c hc v hv
  obtain⟨p,_,rfl⟩:=List.mem_map.1 hc
  simp[rowChain]at hv
  subst hv;exact⟨rfl,rfl⟩
 refine⟨by simp[newE],fun c hc v hv hm=>?_,fun c hc v hv hm=>?_,rfl⟩
 ·
  rw[(h0 c hc v hv).1]at hm;cases hm
 ·
  rw[(h0 c hc v hv).2]at hm;cases hm
theorem addKeys_mem {b:Int}:∀ {ks:List Str}{l:List Chain},Srt Chain.key l→∀ c∈addKeys b l ks,∀ v∈c.vs,(∃ c0∈l,c0.key=c.key∧v∈c0.vs)∨(v=newV b∧c.key∈ks)
 | [],l,_,c,hc,v,hv => .inl ⟨c,hc,rfl,hv⟩
 |k::ks,l,hs,c,hc,v,hv=>by
  simp only[addKeys]at hc
  rw[addC_srt hs]at hc
  rcases addKeys_mem (addS_srt hs) c hc v hv with ⟨c0,h0,h1,h2⟩|⟨h1,h2⟩
  ·
   rcases addS_mem h0 with h3|rfl|⟨c1,h3,h4,rfl⟩
   ·
    exact .inl ⟨c0,h3,h1,h2⟩
   ·
    simp at h2
    exact .inr ⟨h2,by rw[← h1];exact List.mem_cons_self ..⟩
   ·
    rcases List.mem_append.1 h2 with h2|h2
    ·
     exact .inl ⟨c1,h3,by rw[h4];exact h1,h2⟩
    ·
     simp at h2
     exact .inr ⟨h2,by rw[← h1];exact List.mem_cons_self ..⟩
  ·
   exact .inr ⟨h1,List.mem_cons_of_mem _ h2⟩
theorem WInv.add1 {e:Engine}(h:WInv e) (hs:SInv e) {d:Deed}(hd:wrongDeed d=0):WInv (add1 e d):=by
 have hlt:∀ (k:Nat) (x:Deed),e.deeds[k]? = some x→k < e.deeds.length:=fun k x hx=>(List.getElem?_eq_some_iff.1 hx).1
 refine⟨fun x hx=>?_,fun c hc v hv hm=>?_,fun c hc v hv hm=>?_,?_⟩
 ·
  rcases List.mem_append.1 hx with hx|hx
  ·
   exact h.d x hx
  ·
   simp at hx;subst hx;exact hd
 ·
  rcases addKeys_mem hs.k c hc v hv with ⟨c0,h0,h1,h2⟩|⟨rfl,h2⟩
  ·
   obtain⟨k,x,h3,h4,h5,h6⟩:=h.n c0 h0 v h2 hm
   have:=hlt k x h5
   refine⟨k,x,h3,?_,?_,by rw[← h1];exact h6⟩
   ·
    show(e.state++[0])[k]? = _
    rw[List.getElem?_append_left (by rw[h.l];exact this)];exact h4
   ·
    show(e.deeds++[d])[k]? = _
    rw[List.getElem?_append_left this];exact h5
  ·
   refine⟨e.deeds.length,d,rfl,?_,?_,h2⟩
   ·
    show(e.state++[0])[e.deeds.length]? = _
    rw[← h.l];simp
   ·
    show(e.deeds++[d])[e.deeds.length]? = _
    simp
 ·
  rcases addKeys_mem hs.k c hc v hv with ⟨c0,h0,h1,h2⟩|⟨rfl,h2⟩
  ·
   exact h.h c0 h0 v h2 hm
  ·
   rfl
 ·
  show(e.state++[0]).length=(e.deeds++[d]).length
  simp[h.l]
theorem WInv.addAll:∀ {l:List Deed}{e:Engine},WInv e→SInv e→(∀ d∈l,wrongDeed d=0)→WInv (addAll e l)
 | [],e,h,_,_=>h
 |d::l,e,h,hs,hl=>by
  simp only[RF.addAll]
  have hd:=hl d (List.mem_cons_self ..)
  exact WInv.addAll (h.add1 hs hd) (hs.add1 (wrong_keys hd).2) fun x hx=>hl x (List.mem_cons_of_mem _ hx)
theorem WInv.addE {e:Engine}(h:WInv e) (hs:SInv e) {l:List Deed}(hw:(addE e l).2=0):WInv (addE e l).1:=by
 unfold RF.addE at hw ⊢
 by_cases h0:wrongs l=0
 ·
  rw[if_pos h0]
  exact h.addAll hs fun d hd=>wrongs_mem h0 d hd
 ·
  rw[if_neg h0]at hw;exact absurd hw h0
theorem get_none0 {k:Str}:∀ {r:List Pair},(RF.get r k).2=false→(RF.get r k).1=0
 | [],_=>rfl
 |p::r,h=>by
  simp only[RF.get]at h ⊢
  by_cases hp:p.key=k
  ·
   rw[if_pos hp]at h;cases h
  ·
   rw[if_neg hp]at h ⊢;exact get_none0 h
theorem goSets_mem {r:List Pair}{b:Int}:∀ {ks:List Str}{l:List Chain},∀ c∈goSets r b l ks,∀ v∈c.vs,
  (∃ c0∈l,c0.key=c.key∧v∈c0.vs∧(v.by_=b→c.key∉ks))∨(v.made=true∧(v.has=false→v.n=0))
 | [],l,c,hc,v,hv => .inl ⟨c,hc,rfl,hv,fun _=>by simp⟩
 |k::ks,l,c,hc,v,hv=>by
  simp only[goSets]at hc
  rcases goSets_mem c hc v hv with ⟨c0,h0,h1,h2,h3⟩|h1
  ·
   obtain⟨c1,h4,rfl⟩:=List.mem_map.1 h0
   obtain⟨w,h5,rfl⟩:=List.mem_map.1 h2
   by_cases hh:decide (c1.key=k)=true∧w.by_=b
   ·
    refine .inr ?_
    have e:setV (decide (c1.key=k)) ⟨b,true,(RF.get r k).2,(RF.get r k).1⟩ w=⟨b,true,(RF.get r k).2,(RF.get r k).1⟩:=by unfold setV;rw[if_pos hh]
    rw[e]
    exact⟨rfl,get_none0⟩
   ·
    have e:setV (decide (c1.key=k)) ⟨b,true,(RF.get r k).2,(RF.get r k).1⟩ w=w:=by unfold setV;rw[if_neg hh]
    rw[e]at h3 ⊢
    refine .inl ⟨c1,h4,h1,h5,fun hb=>?_⟩
    have h6:=h3 hb
    intro hm
    rcases List.mem_cons.1 hm with hm|hm
    ·
     exact hh ⟨by simp[show c1.key=c.key from h1,hm],hb⟩
    ·
     exact h6 hm
  ·
   exact .inr h1
theorem WInv.goNew {e:Engine}(h:WInv e) (A:Nat) (d:Deed) (hd:e.deeds[A]? = some d):WInv (goNew e A d):=by
 refine⟨h.d,fun c hc v hv hm=>?_,fun c hc v hv hm=>?_,?_⟩
 ·
  rcases goSets_mem c hc v hv with ⟨c0,h0,h1,h2,h3⟩|h1
  ·
   obtain⟨k,x,h4,h5,h6,h7⟩:=h.n c0 h0 v h2 hm
   by_cases hk:k=A
   ·
    subst hk
    rw[hd]at h6
    cases h6
    exact absurd (h1▸h7) (h3 h4)
   ·
    refine⟨k,x,h4,?_,h6,by rw[← h1];exact h7⟩
    show(e.state.set A 1)[k]? = _
    rw[List.getElem?_set_ne (fun e=>hk e.symm)];exact h5
  ·
   rw[h1.1]at hm;cases hm
 ·
  rcases goSets_mem c hc v hv with ⟨c0,h0,h1,h2,h3⟩|h1
  ·
   exact h.h c0 h0 v h2 hm
  ·
   exact h1.2 hm
 ·
  show(e.state.set A 1).length=_
  rw[List.length_set];exact h.l
theorem WInv.goE {e:Engine}(h:WInv e) (at_:Int):WInv (goE e at_).1:=by
 unfold Proofs.YtngnajknbeijjaaGreatDoor.goE
 split
 ·
  exact h
 unfold goAt
 cases hA:e.deeds[at_.toNat]? with
 |none=>exact h
 |some d =>
  dsimp only
  split
  ·
   exact h
  split
  ·
   exact h.goNew _ _ hA
  ·
   exact h
theorem markN_one:∀ {s:List Int}{j:Nat},j < markN s→s[j]? = some 1
 | [],j,h=>by simp[markN]at h
 |x::s,j,h=>by
  simp only[markN]at h
  by_cases hx:x=1
  ·
   rw[if_pos hx]at h
   cases j with
   |zero=>simp[hx]
   |succ j=>simpa using markN_one (s:=s) (j:=j) (by omega)
  ·
   rw[if_neg hx]at h;omega
theorem WInv.clearE {e:Engine}(h:WInv e):WInv (clearE e):=by
 refine⟨fun d hd=>h.d d (List.mem_of_mem_drop hd),fun c hc v hv hm=>?_,fun c hc v hv hm=>?_,?_⟩
 ·
  obtain⟨c0,h0,rfl⟩:=clear_mem hc
  obtain⟨k,x,h1,h2,h3,h4⟩:=h.n c0 h0 v (clrV_sub hv) hm
  have hk:markN e.state≤k:=by
   rcases Nat.lt_or_ge k (markN e.state) with hlt|hge
   ·
    have:=markN_one hlt
    rw[h2]at this;cases this
   ·
    exact hge
  refine⟨k - markN e.state,x,?_,?_,?_,h4⟩
  ·
   show v.by_=e.base+markN e.state+((k - markN e.state:Nat):Int)
   omega
  ·
   show(e.state.drop (markN e.state))[k - markN e.state]? = _
   rw[List.getElem?_drop,show markN e.state+(k - markN e.state)=k by omega];exact h2
  ·
   show(e.deeds.drop (markN e.state))[k - markN e.state]? = _
   rw[List.getElem?_drop,show markN e.state+(k - markN e.state)=k by omega];exact h3
 ·
  obtain⟨c0,h0,rfl⟩:=clear_mem hc
  exact h.h c0 h0 v (clrV_sub hv) hm
 ·
  show(e.state.drop _).length=(e.deeds.drop _).length
  simp[h.l]
theorem WInv.pickE {e:Engine}(h:WInv e) (n:Int):WInv (pickE e n):=by
 unfold Proofs.YtngnajknbeijjaaGreatDoor.pickE
 split
 ·
  exact h.clearE
 split
 ·
  exact h
 split
 ·
  exact h.goE _
 ·
  exact h
theorem WInv.batchE {e:Engine}(h:WInv e) (hs:SInv e) (b:List Deed):WInv (batchE e b):=by
 unfold Proofs.YtngnajknbeijjaaGreatDoor.batchE
 split
 ·
  next hw=>exact h.addE hs hw
 ·
  exact h
theorem WInv.pickGo:∀ {k:Nat}{e:Engine}{p:List Int},WInv e→WInv (pickGo k e p).1
 |0,e,p,h=>h
 |k+1,e,[],h=>h
 |k+1,e,n::p,h=>by
  simp only[Proofs.YtngnajknbeijjaaGreatDoor.pickGo]
  exact WInv.pickGo (h.pickE n)
theorem WInv.buildGo:∀ {bs:List (List Deed)}{e:Engine}{p:List Int},WInv e→SInv e→WInv (buildGo e bs p)
 | [],e,p,h,_=>h
 |b::bs,e,p,h,hs=>by
  simp only[Proofs.YtngnajknbeijjaaGreatDoor.buildGo]
  exact WInv.buildGo ((h.batchE hs b).pickGo) ((hs.batchE b).pickGo)
theorem build_w {r:List Pair}(h:wrongRows r=0) (bs:List (List Deed)) (p:List Int):WInv (buildE r bs p):=WInv.buildGo (newE_w r) (newE_srt (wrongRows_srt h).1)
theorem bvs_mem {h:Bool}{b:Int}:∀ {l:List Version}{out:Version},bvs h b out l=out∨(h=true∧bvs h b out l∈l∧(bvs h b out l).by_ < b)
 | [],out => .inl rfl
 |v::l,out=>by
  simp only[bvs]
  rcases bvs_mem (h:=h) (b:=b) (l:=l) (out:=if h&&decide (v.by_ < b) then v else out) with e|⟨h1,h2,h3⟩
  ·
   rw[e]
   by_cases hc:(h&&decide (v.by_ < b))=true
   ·
    rw[if_pos hc]
    simp only[Bool.and_eq_true,decide_eq_true_eq]at hc
    exact .inr ⟨hc.1,List.mem_cons_self ..,hc.2⟩
   ·
    rw[if_neg hc];exact .inl rfl
  ·
   exact .inr ⟨h1,List.mem_cons_of_mem _ h2,h3⟩
theorem beforeGo_mem {k:Str}{b:Int}:∀ {l:List Chain}{out:Version},beforeGo k b out l=out∨∃ c∈l,c.key=k∧beforeGo k b out l∈c.vs∧(beforeGo k b out l).by_ < b
 | [],out => .inl rfl
 |c::l,out=>by
  simp only[beforeGo]
  rcases beforeGo_mem (k:=k) (b:=b) (l:=l) (out:=bvs (decide (c.key=k)) b out c.vs) with e|⟨c',h1,h2⟩
  ·
   rw[e]
   rcases bvs_mem (h:=decide (c.key=k)) (b:=b) (l:=c.vs) (out:=out) with e2|⟨h1,h2,h3⟩
   ·
    exact .inl e2
   ·
    exact .inr ⟨c,List.mem_cons_self ..,by simpa using h1,h2,h3⟩
  ·
   exact .inr ⟨c',List.mem_cons_of_mem _ h1,h2⟩
theorem before_mem (l:List Chain) (k:Str) (b:Int):before l k b=noV∨∃ c∈l,c.key=k∧before l k b∈c.vs∧(before l k b).by_ < b:=beforeGo_mem
theorem WInv.nb {e:Engine}(h:WInv e):NB e:=by
 intro at_ k hm
 rcases before_mem e.chains k (e.base+at_) with h1|⟨c,h1,h2,h3,h4⟩
 ·
  rw[h1]at hm;cases hm
 ·
  obtain⟨j,x,h5,_⟩:=h.n c h1 _ h3 hm
  exact⟨by omega,h4⟩
theorem WInv.bh {e:Engine}(h:WInv e) (k:Str) (b:Int):(before e.chains k b).has=false→(before e.chains k b).n=0:=by
 intro hm
 rcases before_mem e.chains k b with h1|⟨c,h1,h2,h3,h4⟩
 ·
  rw[h1];rfl
 ·
  exact h.h c h1 _ h3 hm
theorem keysGo'_mem {k:Str}:∀ {l out:List Str},k∈keysGo' out l↔k∈out∨k∈l
 | [],out=>by simp[keysGo']
 |x::l,out=>by
  simp only[keysGo']
  rw[keysGo'_mem]
  by_cases h:isIn out x=true
  ·
   rw[if_pos h]
   have:=isIn_true h
   constructor
   ·
    rintro (h1|h1)
    ·
     exact .inl h1
    ·
     exact .inr (List.mem_cons_of_mem _ h1)
   ·
    rintro (h1|h1)
    ·
     exact .inl h1
    ·
     rcases List.mem_cons.1 h1 with rfl|h1
     ·
      exact .inl this
     ·
      exact .inr h1
  ·
   rw[if_neg h]
   simp[or_assoc]
theorem goRows_get {cs:List Chain}{b:Int}:∀ {ks:List Str}{r:List Pair},Srt Pair.key r→Srt Pair.key (goRows cs b r ks)∧∀ k,RF.get (goRows cs b r ks) k=if k∈ks∧(before cs k b).has=true then ((before cs k b).n,true) else RF.get r k
 | [],r,h=>⟨h,fun k=>by simp[goRows]⟩
 |x::ks,r,h=>by
  simp only[goRows]
  by_cases hx:(before cs x b).has=true
  ·
   rw[if_pos hx,put_true h]
   obtain⟨h1,h2⟩:=goRows_get (cs:=cs) (b:=b) (ks:=ks) (putS_srt (k:=x) (n:=(before cs x b).n) h)
   refine⟨h1,fun k=>?_⟩
   rw[h2 k,get_put]
   by_cases hk:k∈ks∧(before cs k b).has=true
   ·
    rw[if_pos hk,if_pos ⟨List.mem_cons_of_mem _ hk.1,hk.2⟩]
   ·
    rw[if_neg hk]
    by_cases he:x=k
    ·
     subst he
     rw[if_pos rfl,if_pos ⟨List.mem_cons_self ..,hx⟩]
    ·
     rw[if_neg he,if_neg]
     rintro ⟨h3,h4⟩
     rcases List.mem_cons.1 h3 with h3|h3
     ·
      exact he h3.symm
     ·
      exact hk ⟨h3,h4⟩
  ·
   rw[if_neg hx]
   obtain⟨h1,h2⟩:=goRows_get (cs:=cs) (b:=b) (ks:=ks) h
   refine⟨h1,fun k=>?_⟩
   rw[h2 k]
   by_cases hk:k∈ks∧(before cs k b).has=true
   ·
    rw[if_pos hk,if_pos ⟨List.mem_cons_of_mem _ hk.1,hk.2⟩]
   ·
    rw[if_neg hk,if_neg]
    rintro ⟨h3,h4⟩
    rcases List.mem_cons.1 h3 with h3|h3
    ·
     subst h3;exact hx h4
    ·
     exact hk ⟨h3,h4⟩
theorem pickV_chg {k:Str}{m:Mk}:∀ {ws:List Str}{v:Version},pickV k v (chg m ws)=match mG m k with
  |some c=>if k∈ws then chVer (k,c) else v
  |none=>v
 | [],v=>by
  simp only[chg,pickV]
  split <;> simp
 |x::ws,v=>by
  simp only[chg]
  cases hx:mG m x with
  |none =>
   dsimp only
   rw[pickV_chg]
   cases hk:mG m k with
   |none=>rfl
   |some c =>
    have hne:¬ k=x:=fun e=>by subst e;rw[hx]at hk;cases hk
    dsimp only
    by_cases hw:k∈ws
    ·
     rw[if_pos hw,if_pos (List.mem_cons_of_mem _ hw)]
    ·
     rw[if_neg hw,if_neg (by simp[hne,hw])]
  |some c =>
   simp only[pickV]
   rw[pickV_chg]
   by_cases he:x=k
   ·
    subst he
    rw[hx,if_pos rfl]
    dsimp only
    rw[if_pos (List.mem_cons_self ..)]
    simp
   ·
    rw[if_neg he]
    have hne:¬ k=x:=fun e=>he e.symm
    cases hk:mG m k with
    |none=>rfl
    |some c' =>
     dsimp only
     by_cases hw:k∈ws
     ·
      rw[if_pos hw,if_pos (List.mem_cons_of_mem _ hw)]
     ·
      rw[if_neg hw,if_neg (by simp[hne,hw])]
theorem pgoSets_eq {cs0:List Chain}{b:Int}{ch:List (Str×(Bool×Int))}{R:List Pair}:∀ {ks:List Str}{cs:List Chain},(∀ k∈ks,madeV cs0 b ch k=⟨b,true,(RF.get R k).2,(RF.get R k).1⟩)→pgoSets cs0 b ch cs ks=goSets R b cs ks
 | [],cs,_=>rfl
 |k::ks,cs,h=>by
  simp only[pgoSets,goSets]
  rw[h k (List.mem_cons_self ..)]
  exact pgoSets_eq fun x hx=>h x (List.mem_cons_of_mem _ hx)
theorem pgoNew_eq {e:Engine}(h:WInv e) {A:Nat}{d:Deed}(hd:e.deeds[A]? = some d):pgoNew e A d=goNew e A d:=by
 have hw:=h.d d (List.mem_of_getElem? hd)
 obtain⟨hs0,hget⟩:=goRows_get (cs:=e.chains) (b:=e.base+A) (ks:=keysD d) (r:=[]) List.Pairwise.nil
 have hkd:∀ k,k∈d.reads∨k∈d.writes→RF.get (goRows e.chains (e.base+A) [] (keysD d)) k=viewE e.chains (e.base+A) k:=fun k hk=>by
  have hm:k∈keysD d:=by
   unfold keysD
   rw[keysGo'_mem]
   exact .inr (by simpa using hk)
  rw[hget k]
  unfold viewE
  cases hh:(before e.chains k (e.base+A)).has with
  |true=>rw[if_pos ⟨hm,rfl⟩]
  |false =>
   rw[if_neg (by simp),h.bh k _ hh]
   rfl
 have hrun:runM (viewE e.chains (e.base+A)) d=runM (RF.get (goRows e.chains (e.base+A) [] (keysD d))) d :=
  runGo_congr fun i hi hk=>by rw[hkd i.key (.inl (wrong_reads hw i hi hk))]
 have hrunC:runC (viewE e.chains (e.base+A)) d=runC (RF.get (goRows e.chains (e.base+A) [] (keysD d))) d:=by unfold runC;rw[hrun]
 unfold pgoNew goNew goDone
 rw[hrunC,hrun]
 generalize hr0:goRows e.chains (e.base+A) [] (keysD d)=r0 at hs0 hkd
 have hpl:=plain_do hs0 (wrong_keyed hw)
 rw[← hpl]
 unfold plainD
 dsimp only
 congr 1
 refine pgoSets_eq fun k hk=>?_
 obtain⟨h1,h2,h3⟩:=run_do (r:=r0) (W:=d.writes) (l:=d.code) (sk:=0) (m:=[]) (e:=done0) (now:=r0) ⟨hs0,fun k=>rfl,fun k c h=>by simp[mG]at h,fun k c h=>by simp[mG]at h⟩ rfl (wrong_keyed hw)
 unfold madeV
 have key:(RF.get (appC r0 (runC (RF.get r0) d)) k).2=(pickV k (before e.chains k (e.base+A)) (runC (RF.get r0) d)).has∧(RF.get (appC r0 (runC (RF.get r0) d)) k).1=(pickV k (before e.chains k (e.base+A)) (runC (RF.get r0) d)).n:=by
  unfold runC
  by_cases hf:(runM (RF.get r0) d).2.failed=true
  ·
   rw[if_pos hf]
   simp only[appC,pickV]
   rw[hkd k (.inr hk)]
   exact⟨rfl,rfl⟩
  ·
   rw[if_neg hf,appC_get hs0,if_pos hk,pickV_chg]
   have hf':(doGo r0 0 r0 done0 d.code).2.failed=false:=by rw[← h1];exact Bool.eq_false_iff.2 hf
   have hmi:=h3 hf'
   unfold chAt
   have hmm:(runM (RF.get r0) d).1=(runGo (RF.get r0) 0 [] done0 d.code).1:=rfl
   cases hm:mG (runM (RF.get r0) d).1 k with
   |none =>
    dsimp only
    rw[hkd k (.inr hk)]
    exact⟨rfl,rfl⟩
   |some c =>
    dsimp only
    rw[if_pos hk]
    unfold chOf chVer
    by_cases hc:c.1=true
    ·
     rw[if_pos hc]
     exact⟨hc.symm,rfl⟩
    ·
     rw[if_neg hc]
     have hc':c.1=false:=Bool.eq_false_iff.2 hc
     exact⟨hc'.symm,(hmi.f k c (by rw[← hmm];exact hm) hc').symm⟩
 rw[key.1,key.2]
set_option maxHeartbeats 4000000
theorem ok_prows (l:List Chain) (b:Int) (hl:l.length≤268435456) (hv:∀ c∈l,c.vs.length≤268435456) (hs:Srt Chain.key l):FnOk Tryz.prog 92 [.d (encChains l),.d (dint b)] (.tup [encRows (rowsAt l b).1,dbool (rowsAt l b).2]):=by
 refine fnOk_of tbl_ok mixed_ok Tryz.func92 rfl (by kernel_rfl) rfl rfl fun w0 own0=>?_
 try refine wk ?_
 refine CW.stut (stut_promote (i:=6) 70 2) ⟨rfl,rfl,trivial⟩ ?_
 refine CW.loopT (fun t:Nat×List Pair=>[(.s 0,.av (.d (encChains l))),(.s 1,.av (.d (dint b))),(.s 6,.av (.own 0 t.2.length)),(.o 0,.ob (.arr 70 2 (t.2.map Pair.enc))),(.s 10,.av (.d (encChains l))),(.s 11,.av (.d (dint l.length))),(.s 12,.av (.d (dint t.1))),(.nx,.num 1)])
  (fun t=>t.1≤l.length∧t.2.length≤t.1∧rowsAtGo l b t.2 (l.drop t.1)=rowsAt l b) (fun t=>l.length - t.1) (0,[]) ⟨by omega,by simp,rfl⟩ ?_ ?_
 ·
  exact by_less
 ·
  rintro ⟨i,out⟩ ⟨hi,ho,hI⟩
  dsimp only at hi ho hI ⊢
  rcases drop_case hi with ⟨h1,h2⟩|⟨c,h1,h2,h3⟩
  ·
   rw[h1]at hI
   simp only[rowsAtGo]at hI
   try refine wk ?_
   rw[← hI]
   exact .two (.tmp rfl (.one (.own rfl (by simp) (.refl _)))) (.tmp rfl (.one (.d (.refl _))))
  ·
   rw[h1]at hI
   simp only[rowsAtGo]at hI
   have hc:=ok_pbefore l c.key b hl hv hs
   generalize before l c.key b=v at hc hI
   obtain⟨vb,vm,vh,vn⟩:=v
   dsimp only at hI
   cases vm
   ·
    rw[if_pos rfl]at hI
    try refine wk ?_
    rw[← hI]
    exact .two (.tmp rfl (.one (.d (.nil 2)))) (.tmp rfl (.one (.d (.refl _))))
   ·
    rw[if_neg (by simp)]at hI
    cases vh
    ·
     rw[if_neg (by simp)]at hI
     try refine wk ?_
     refine q_loopT (i+1,out) ⟨by dsimp only;omega,by dsimp only;omega,hI⟩ (by dsimp only;omega) ?_
     exact by_less
    ·
     rw[if_pos rfl]at hI
     try refine wk ?_
     refine q_loopT (i+1,_) ⟨by dsimp only;omega,by dsimp only;simp;omega,hI⟩ (by dsimp only;omega) ?_
     exact by_less
theorem ok_pseen (e:Engine) (at_:Int) (hs:e.Sm) (hk:Srt Chain.key e.chains):FnOk Tryz.prog 69 [.d (.agg e.enc),.d (dint at_)] (.tup [encRows (seenE e at_).1,dint (seenE e at_).2]):=by
 refine fnOk_of tbl_ok mixed_ok Tryz.func69 rfl (by kernel_rfl) rfl rfl fun w0 own0=>?_
 have hd:=hs.d
 have hb:=hs.b
 have hc:=ok_prows e.chains (e.base+at_) (by have:=hs.c;omega) (fun c h=>by have:=hs.v c h;omega) hk
 unfold seenE
 by_cases h1:at_ < 0
 ·
  rw[if_pos (.inl h1)]
  try refine wk ?_
  exact .two (.tmp rfl (.one (.d (.nil 2)))) (.tmp rfl (.one (.d (.refl _))))
 ·
  by_cases h2:(e.deeds.length:Int) < at_
  ·
   rw[if_pos (.inr h2)]
   try refine wk ?_
   exact .two (.tmp rfl (.one (.d (.nil 2)))) (.tmp rfl (.one (.d (.refl _))))
  ·
   rw[if_neg (by omega)]
   cases h3:(rowsAt e.chains (e.base+at_)).2
   ·
    rw[if_neg (by simp)]
    rw[h3]at hc
    try refine wk ?_
    exact .two (.tmp rfl (.one (.d (.nil 2)))) (.tmp rfl (.one (.d (.refl _))))
   ·
    rw[if_pos rfl]
    rw[h3]at hc
    try refine wk ?_
    exact .two (.tmp rfl (.one (.d (.refl _)))) (.tmp rfl (.one (.d (.refl _))))
def pclearE (e:Engine):Engine:=⟨pclear (e.base+markN e.state) e.chains,e.deeds.drop (markN e.state),e.state.drop (markN e.state),e.ends.drop (markN e.state),e.base+markN e.state⟩
theorem ok_pclearE (e:Engine) (hs:e.Sm) (h1:e.state.length=e.deeds.length) (h2:e.ends.length=e.deeds.length):FnOk Tryz.prog 68 [.d (.agg e.enc)] (.one (.agg (pclearE e).enc)):=by
 refine fnOk_of tbl_ok mixed_ok Tryz.func68 rfl (by kernel_rfl) rfl rfl fun w0 own0=>?_
 have ho:=ok_planOwn e hs
 have hm:=ok_tmark e hs.s
 have hml:=markN_le e.state
 have hd:=hs.d
 have hb:=hs.b
 have hc:=ok_pclear e.chains (e.base+markN e.state) (by have:=hs.c;omega) (fun c h=>by have:=hs.v c h;omega)
 try refine wk ?_
 exact .one (.cell rfl rfl rfl rfl (.aggd (ds:=[encChains (pclear (e.base+markN e.state) e.chains),.sl 3 ((e.deeds.map Deed.enc).drop (markN e.state)),.sl 1 ((e.state.map encInt1).drop (markN e.state)),.sl 5 ((e.ends.map Done.enc).drop (markN e.state)),dint (e.base+markN e.state)]) rfl
  (dle_eq (by simp[pclearE,Engine.enc,encDeeds,encInts,encEnds]))))
theorem ok_wrongRows (l:List Pair) (hl:l.length≤268435456) (hk:∀ p∈l,p.key.length≤1073741824):FnOk Tryz.prog 5 [.d (encRows l)] (.one (dint (wrongRows l))):=by
 refine fnOk_of tbl_ok mixed_ok Tryz.func5 rfl (by kernel_rfl) rfl rfl fun w0 own0=>?_
 try refine wk ?_
 refine CW.loopT (fun t:Nat×Str=>[(.s 3,.av (.d (dstr t.2))),(.s 6,.av (.d (encRows l))),(.s 7,.av (.d (dint l.length))),(.s 8,.av (.d (dint t.1))),(.nx,.num 0)])
  (fun t=>t.1≤l.length∧wrongRowsGo t.1 t.2 (l.drop t.1)=wrongRows l) (fun t=>l.length - t.1) (0,[]) ⟨by omega,rfl⟩ ?_ ?_
 ·
  exact by_less
 ·
  rintro ⟨i,last⟩ ⟨hi,hI⟩
  dsimp only at hi hI ⊢
  rcases drop_case hi with ⟨h1,h2⟩|⟨p,h1,h2,h3⟩
  ·
   rw[h1]at hI
   simp only[wrongRowsGo]at hI
   try refine wk ?_
   exact .one (.tmp rfl (.one (.d (dle_int hI))))
  ·
   rw[h1]at hI
   simp only[wrongRowsGo]at hI
   have hc:=ok_key p.key (hk p (List.mem_of_getElem? h2))
   cases h4:key p.key
   ·
    rw[if_pos h4]at hI
    try refine wk ?_
    exact .one (.tmp rfl (.one (.d (dle_int hI))))
   ·
    rw[if_neg (by simp[h4])]at hI
    by_cases h5:0 < i
    ·
     cases h6:sle p.key last
     ·
      rw[if_neg (by simp[h6])]at hI
      have h6':(Go.Op.bytesLess p.key last || decide (p.key=last))=false:=h6
      by_cases h7:1073741824 < p.n
      ·
       rw[if_pos (.inl h7)]at hI
       try refine wk ?_
       exact .one (.tmp rfl (.one (.d (dle_int hI))))
      ·
       by_cases h8:p.n < -1073741824
       ·
        rw[if_pos (.inr h8)]at hI
        try refine wk ?_
        exact .one (.tmp rfl (.one (.d (dle_int hI))))
       ·
        rw[if_neg (by omega)]at hI
        try refine wk ?_
        refine q_loopT (i+1,_) ⟨by omega,hI⟩ (by dsimp only;omega) ?_
        exact by_less
     ·
      rw[if_pos ⟨h5,h6⟩]at hI
      have h6':(Go.Op.bytesLess p.key last || decide (p.key=last))=true:=h6
      try refine wk ?_
      exact .one (.tmp rfl (.one (.d (dle_int hI))))
    ·
     rw[if_neg (by simp;omega)]at hI
     by_cases h7:1073741824 < p.n
     ·
      rw[if_pos (.inl h7)]at hI
      try refine wk ?_
      exact .one (.tmp rfl (.one (.d (dle_int hI))))
     ·
      by_cases h8:p.n < -1073741824
      ·
       rw[if_pos (.inr h8)]at hI
       try refine wk ?_
       exact .one (.tmp rfl (.one (.d (dle_int hI))))
      ·
       rw[if_neg (by omega)]at hI
       try refine wk ?_
       refine q_loopT (i+1,_) ⟨by omega,hI⟩ (by dsimp only;omega) ?_
       exact by_less
set_option maxHeartbeats 8000000
theorem pclearE_eq {e:Engine}(h:SInv e):pclearE e=clearE e:=by
 unfold pclearE clearE
 rw[pclear_eq h.v]
theorem sumLen_eq (bs:List (List Deed)):sumLen bs=(bs.map List.length).sum:=by
 induction bs with
 |nil=>rfl
 |cons b bs ih=>simp[sumLen,ih]
theorem seenE_len (e:Engine) (at_:Int):(seenE e at_).1.length≤e.chains.length:=by
 unfold seenE
 split
 ·
  simp
 split
 ·
  exact rowsAt_len _ _
 ·
  simp
theorem addE_sm {e:Engine}{N:Nat}(h:EInv e N) {l:List Deed}(hs:∀ d∈l,d.Sm) (hN:N+5*l.length≤90000000):(addE e l).1.Sm:=by
 by_cases h0:(addE e l).2=0
 ·
  exact(h.addE hs h0).z.sm (by omega)
 ·
  have hne:¬ wrongs l=0:=fun e2=>h0 (by unfold addE;rw[if_pos e2])
  unfold addE
  rw[if_neg hne]
  exact⟨by simp[noE],by simp[noE],by simp[noE],by simp[noE],by simp[noE],by simp[noE],by simp[noE]⟩
theorem ok_PlanTells (r:List Pair) (bs:List (List Deed)) (p:List Int) (l:List Deed) (hrl:r.length≤1048576) (hrk:∀ q∈r,q.key.length≤1073741824) (hb:∀ b∈bs,b.length≤1048576∧∀ d∈b,d.Sm) (hbl:bs.length≤1048576) (hsum:sumLen bs≤1048576) (hp:p.length≤1048576)
  (hl:l.length≤1048576) (hld:∀ d∈l,d.Sm) :
  FnOk Tryz.prog 3 [.d (encRows r),.d (encBatches bs),.d (encInts p),.d (encDeeds l)] (.one (dbool true)):=by
 refine fnOk_of tbl_ok mixed_ok Tryz.func3 rfl (by kernel_rfl) rfl rfl fun w0 own0=>?_
 have c1:=ok_wrongRows r (by omega) hrk
 by_cases hw:wrongRows r=0
 ·
  obtain⟨hsrt,_,hok⟩:=wrongRows_srt hw
  have c2:=ok_rBuild r bs p hok (by omega) (fun b h=>⟨by have:=(hb b h).1;omega,(hb b h).2⟩) (by omega) (by omega) (by omega)
  have hE:EInv (buildE r bs p) (r.length+1+5*sumLen bs):=EInv.buildGo (p:=p) (newE_inv hok) (fun b h=>(hb b h).2)
  have hS:=build_srt hw bs p
  have hW:=build_w hw bs p
  have hN0:=newE_inv hok
  have c3:=ok_pnew r (by omega)
  have c4:=ok_new r (by omega)
  have c5:=ok_sameE (newE r) (newE r) (hN0.z.sm (by omega))
  rw[sameE_refl]at c5
  generalize buildE r bs p=e at c2 hE hS hW
  have hz:=hE.z.sm (by omega)
  have c6:=ok_padde e l _ hE hS hld (by omega) (by omega)
  have c7:=ok_addE e l _ hE.z hld (by omega) (by omega)
  have c8:=ok_sameE (addE e l).1 (addE e l).1 (addE_sm hE hld (by omega))
  rw[sameE_refl]at c8
  have c9:=ok_planOwn e hz
  have c10:=ok_sameE e e hz
  rw[sameE_refl]at c10
  have hdl:=hz.d
  repeat(first|refine wa ?_|((with_reducible apply s5);(first|(focus ((with_reducible apply(a_call c5));exact rfl;(repeat(first|exact SubsE.nil|(apply SubsE.cons;exact rfl;(first|exact .d (.refl _)|exact .d (.nil _)|exact .agg rfl (.refl _)|exact .pd|exact .ptr rfl);(first|exact trivial|exact⟨rfl,trivial⟩))));done))|(focus ((with_reducible apply(a_call c8));exact rfl;(repeat(first|exact SubsE.nil|(apply SubsE.cons;exact rfl;(first|exact .d (.refl _)|exact .d (.nil _)|exact .agg rfl (.refl _)|exact .pd|exact .ptr rfl);(first|exact trivial|exact⟨rfl,trivial⟩))));done))|(focus ((with_reducible apply(a_call c10));exact rfl;(repeat(first|exact SubsE.nil|(apply SubsE.cons;exact rfl;(first|exact .d (.refl _)|exact .d (.nil _)|exact .agg rfl (.refl _)|exact .pd|exact .ptr rfl);(first|exact trivial|exact⟨rfl,trivial⟩))));done))|((with_reducible apply a_bin);(iterate 2 exact rfl);(first|exact bin_bneq (by kernel_rfl)|exact bin_beql (by kernel_rfl));exact rfl)|exact by_oa|exact by_ca);exact by_g)|refine wb ?_)
  refine CW.loopT (fun t:Nat=>[sp 9 0,ob 0 e.enc,sd 58 (encDeeds e.deeds),sd 59 (dint e.deeds.length),sd 60 (dint t),nxt 1])
   (fun t=>t≤e.deeds.length) (fun t=>e.deeds.length - t) 0 (by omega) ?_ ?_
  ·
   exact by_less
  ·
   intro i hi
   rcases drop_case hi with ⟨h1,h2⟩|⟨d,h1,h2,h3⟩
   ·
    try refine wk ?_
    exact .one (.tmp rfl (.one (.d (.refl _))))
   ·
    have hdm:=List.mem_of_getElem? h2
    have hds:=hz.dd d hdm
    have hnd:=(wrong_keys (hW.d d hdm)).1
    have k1:=ok_pneeds e i d hz h2 hnd hS.k hW.nb
    have k2:=ok_needs e i d hz h2
    have hnl:(needs e i d).length≤268435456:=by
     have:=needs_len e.chains e.base (e.base+i) (keysD d) (List.range i) 0
     unfold needs
     simp at this
     omega
    have k3:=ok_SameInts (needs e i d) (needs e i d) (by omega)
    rw[allB_refl (by simp)]at k3
    have k4:=ok_pkeys d hnd hds.r hds.w
    have k5:=ok_keys d hds.r hds.w
    have k6:=ok_SameTexts (keysD d) (keysD d) (by have:=keysD_len hds;omega)
    rw[allB_refl (by simp)]at k6
    repeat(first|refine wa ?_|((with_reducible apply s5);(first|((with_reducible apply a_bin);(iterate 2 exact rfl);(first|exact bin_bneq (by kernel_rfl)|exact bin_beql (by kernel_rfl));exact rfl)|exact by_oa|exact by_ca);exact by_g)|refine wb ?_)
    refine q_loopT (i+1) (by omega) (by omega) ?_
    exact by_less
 ·
  try refine wk ?_
  exact .one (.tmp rfl (.one (.d (.refl _))))
end Go.Proofs.YtngnajknbeijjaaGreatDoor
namespace Go.AX
open Go.RowKit
theorem gl_none {P:Program}{w:World}{n:String}{p:Array Value→Prop}(h:P.globalNamed n=none):GlAt P w n p:=fun g hg=>by rw[h]at hg;cases hg
theorem gl_int {P:Program}{w:World}{n:String}{g:Nat}{m:Int}(hg:P.globalNamed n=some g) (h:w.cell? ⟨g,0,none⟩=some (.int .i64 m)):GlAt P w n fun cs=>∃ m,cs[0]? = some (.int .i64 m):=by
 intro g' hg'
 have hx:∃ cs,w.var? P n=some cs∧cs[0]? = some (.int .i64 m):=by
  unfold World.var?
  rw[hg]
  simp only[Option.bind_some]
  unfold World.cell? at h
  simp only at h
  split at h
  ·
   next cs _ _ hh=>rw[hh];exact⟨cs,rfl,h⟩
  ·
   cases h
 obtain⟨cs,h1,h2⟩:=hx
 exact⟨cs,h1,m,h2⟩
end Go.AX
namespace Go.RF
open Go.AX
structure Entry where
 number:Int
 deeds:List Deed
 deriving DecidableEq
structure Replica where
 engine:Engine
 next:Int
 early:List Entry
 deriving DecidableEq
def Entry.enc (e:Entry):List D:=[dint e.number,encDeeds e.deeds]
def encEntries (l:List Entry):D := .sl 2 (l.map Entry.enc)
def Replica.enc (r:Replica):List D:=[encChains r.engine.chains,encDeeds r.engine.deeds,encInts r.engine.state,encEnds r.engine.ends,dint r.engine.base,dint r.next,encEntries r.early]
def wrongEntry (e:Entry):Int:=if e.number < 0∨11 < e.number then 3 else if 6 < e.deeds.length then 5 else wrongs e.deeds
def sameEnt (a b:Entry):Bool:=decide (a.number=b.number)&&allB (fun x y=>decide (x=y)) a.deeds b.deeds
def sameR (a b:Replica):Bool:=sameE a.engine b.engine&&(decide (a.next=b.next)&&allB sameEnt a.early b.early)
def hasN (n:Int):List Entry→Bool
 | []=>false
 |x::r=>if x.number=n then true else hasN n r
def firstN (n:Int):Nat→List Entry→Int
 |_,[] => -1
 |i,x::r=>if x.number=n then (i:Int) else firstN n (i+1) r
def lastN (n:Int):Int→Nat→List Entry→Int
 |k,_,[]=>k
 |k,i,x::r=>lastN n (if x.number=n then (i:Int) else k) (i+1) r
def drainR:Nat→Replica→Replica
 |0,r=>r
 |f+1,r=>if firstN r.next 0 r.early < 0 then r else match r.early[(firstN r.next 0 r.early).toNat]? with
  |some x=>drainR f ⟨(addE r.engine x.deeds).1,r.next+1,r.early.eraseIdx (firstN r.next 0 r.early).toNat⟩
  |none=>r
def comeE (r:Replica) (e:Entry):Replica×Int :=
 if e.number < r.next∨hasN e.number r.early=true then (r,11)
 else if r.next < e.number then (if 4≤r.early.length then (r,5) else (⟨r.engine,r.next,r.early++[e]⟩,12))
 else (drainR r.early.length ⟨(addE r.engine e.deeds).1,r.next+1,r.early⟩,0)
def noR:Replica:=⟨noE,0,[]⟩
def clearR (r:Replica):Replica:=⟨clearE r.engine,r.next,r.early⟩
theorem hasN_false {n:Int}:∀ {l:List Entry},hasN n l=false↔∀ x∈l,x.number≠n
 | []=>by simp[hasN]
 |x::l=>by
  simp only[hasN]
  by_cases h:x.number=n
  ·
   rw[if_pos h]
   constructor
   ·
    intro h1;cases h1
   ·
    intro h1;exact absurd h (h1 x (List.mem_cons_self ..))
  ·
   rw[if_neg h,hasN_false]
   constructor
   ·
    intro h1 y hy
    rcases List.mem_cons.1 hy with rfl|hy
    ·
     exact h
    ·
     exact h1 y hy
   ·
    intro h1 y hy;exact h1 y (List.mem_cons_of_mem _ hy)
theorem hasN_true {n:Int}{l:List Entry}:hasN n l=true↔∃ x∈l,x.number=n:=by
 cases h:hasN n l with
 |false =>
  have:=hasN_false.1 h
  constructor
  ·
   intro h;cases h
  ·
   rintro ⟨x,hx,he⟩;exact absurd he (this x hx)
 |true =>
  refine⟨fun _=>?_,fun _=>rfl⟩
  refine Classical.byContradiction fun hn=>?_
  have:hasN n l=false:=hasN_false.2 fun x hx he=>hn ⟨x,hx,he⟩
  rw[h]at this;cases this
theorem firstN_cases {n:Int}:∀ {l:List Entry}{i:Nat},(firstN n i l = -1∧∀ x∈l,x.number≠n)∨∃ (k:Nat) (x:Entry),firstN n i l=((i+k:Nat):Int)∧l[k]? = some x∧x.number=n
 | [],i => .inl ⟨rfl,by simp⟩
 |x::l,i=>by
  simp only[firstN]
  by_cases h:x.number=n
  ·
   rw[if_pos h];exact .inr ⟨0,x,rfl,rfl,h⟩
  ·
   rw[if_neg h]
   rcases firstN_cases (n:=n) (l:=l) (i:=i+1) with ⟨h1,h2⟩|⟨k,y,h1,h2,h3⟩
   ·
    refine .inl ⟨h1,fun y hy=>?_⟩
    rcases List.mem_cons.1 hy with rfl|hy
    ·
     exact h
    ·
     exact h2 y hy
   ·
    exact .inr ⟨k+1,y,by rw[h1];omega,by simpa using h2,h3⟩
theorem firstN_app {n:Int}{e:Entry}(he:e.number=n):∀ {l:List Entry}{i:Nat},(∀ x∈l,x.number≠n)→firstN n i (l++[e])=((i+l.length:Nat):Int)
 | [],i,_=>by simp[firstN,he]
 |x::l,i,h=>by
  simp only[List.cons_append,firstN]
  rw[if_neg (h x (List.mem_cons_self ..)),firstN_app he fun y hy=>h y (List.mem_cons_of_mem _ hy),List.length_cons]
  congr 1;omega
theorem lastN_none {n:Int}:∀ {l:List Entry}{i:Nat}{k:Int},(∀ x∈l,x.number≠n)→lastN n k i l=k
 | [],_,_,_=>rfl
 |x::l,i,k,h=>by
  simp only[lastN]
  rw[if_neg (h x (List.mem_cons_self ..)),lastN_none fun y hy=>h y (List.mem_cons_of_mem _ hy)]
theorem lastN_first {n:Int}:∀ {l:List Entry}{i:Nat},(l.map Entry.number).Nodup→lastN n (-1) i l=firstN n i l
 | [],_,_=>rfl
 |x::l,i,h=>by
  rw[List.map_cons,List.nodup_cons]at h
  simp only[lastN,firstN]
  by_cases hx:x.number=n
  ·
   rw[if_pos hx,if_pos hx,lastN_none]
   intro y hy he
   exact h.1 (List.mem_map.2 ⟨y,hy,by rw[he,hx]⟩)
  ·
   rw[if_neg hx,if_neg hx,lastN_first h.2]
theorem drainR_none {f:Nat}{r:Replica}(h:firstN r.next 0 r.early < 0):drainR f r=r:=by
 cases f with
 |zero=>rfl
 |succ f=>simp only[drainR];rw[if_pos h]
theorem drainR_some {f:Nat}{r:Replica}{k:Nat}{x:Entry}(h:firstN r.next 0 r.early=(k:Int)) (hx:r.early[k]? = some x) :
  drainR (f+1) r=drainR f ⟨(addE r.engine x.deeds).1,r.next+1,r.early.eraseIdx k⟩:=by
 simp only[drainR]
 rw[if_neg (by omega),h,Int.toNat_natCast,hx]
end Go.RF
namespace Go.Proofs.YtngnajknbeijjaaGreatDoor
open Go.AX Go.RF
abbrev shEntry:List Sh:=[i64s,.sl shDeed]
structure Entry.In (e:Entry) (m:Nat):Prop where
 l:e.deeds.length≤m
 d:∀ x∈e.deeds,Deed.In x m
theorem Entry.In.mono {e:Entry}{m n:Nat}(h:Entry.In e m) (hm:m≤n):Entry.In e n:=⟨by have:=h.l;omega,fun x hx=>(h.d x hx).mono hm⟩
theorem Entry.In.sm {e:Entry}{m:Nat}(h:Entry.In e m) (hm:m≤1048576):e.deeds.length≤10000000∧∀ d∈e.deeds,d.Sm:=⟨by have:=h.l;omega,fun d hd=>(h.d d hd).sm hm⟩
theorem dec_entry (r:List D) (m:Nat) (h:FitsL shEntry m r):∃ e:Entry,r=e.enc∧Entry.In e m:=by
 obtain⟨d,e,rfl,h1,h2⟩:=dec_two h
 obtain⟨n,rfl,hn⟩:=dec_int h1
 obtain⟨l,rfl,hl,hd⟩:=dec_deeds h2
 exact⟨⟨n,l⟩,rfl,hl,hd⟩
theorem dec_entries {m:Nat}{d:D}(h:Fits (.sl shEntry) m d):∃ l:List Entry,d=encEntries l∧l.length≤m∧∀ e∈l,Entry.In e m:=by
 obtain⟨rows,rfl,hr⟩:=dec_sl h
 obtain⟨l,rfl,hl,hn⟩:=fitsR_all dec_entry hr
 exact⟨l,rfl,hn,fun p hp=>let ⟨_,h1,h2⟩:=hl p hp;h2.mono h1⟩
set_option maxRecDepth 100000
set_option maxHeartbeats 4000000
theorem ok_rwrongEntry (e:Entry) (hd:∀ d∈e.deeds,d.Sm) (hl:e.deeds.length≤1000000000):FnOk Tryz.prog 23 [.d (.agg e.enc)] (.one (dint (wrongEntry e))):=by
 refine fnOk_of tbl_ok mixed_ok Tryz.func23 rfl (by kernel_rfl) rfl rfl fun w0 own0=>?_
 unfold wrongEntry
 by_cases h0:e.number < 0
 ·
  rw[if_pos (.inl h0)]
  try refine wk ?_
  exact .one (.tmp rfl (.one (.d (.refl _))))
 by_cases h1:11 < e.number
 ·
  rw[if_pos (.inr h1)]
  try refine wk ?_
  exact .one (.tmp rfl (.one (.d (.refl _))))
 rw[if_neg (by omega)]
 by_cases h2:6 < e.deeds.length
 ·
  rw[if_pos h2]
  try refine wk ?_
  exact .one (.tmp rfl (.one (.d (.refl _))))
 rw[if_neg h2]
 try refine wk ?_
 refine CW.loopT (fun t:Nat=>[sp 1 0,ob 0 e.enc,sd 19 (encDeeds e.deeds),sd 20 (dint e.deeds.length),sd 21 (dint t),nxt 1])
  (fun t=>t≤e.deeds.length∧wrongs (e.deeds.drop t)=wrongs e.deeds) (fun t=>e.deeds.length - t) 0 ⟨by omega,rfl⟩ ?_ ?_
 ·
  exact by_less
 ·
  rintro i ⟨hi,hI⟩
  rcases drop_case hi with ⟨h3,h4⟩|⟨d,h3,h4,h5⟩
  ·
   rw[h3,wrongs]at hI
   try refine wk ?_
   exact .one (.tmp rfl (.one (.d (dle_int hI))))
  ·
   rw[h3]at hI
   simp only[wrongs]at hI
   have hds:=hd d (List.mem_of_getElem? h4)
   have hc:=ok_wrongDeed d hds.r hds.w hds.c hds.rk hds.wk
   by_cases h6:wrongDeed d=0
   ·
    rw[if_pos h6]at hI
    try refine wk ?_
    refine q_loopT (i+1) ⟨by omega,hI⟩ (by omega) ?_
    exact by_less
   ·
    rw[if_neg h6]at hI
    try refine wk ?_
    exact .one (.tmp rfl (.one (.d (dle_int hI))))
theorem ok_sameEnts (l r:List Entry) (hl:l.length≤268435456) (hd:∀ e∈l,e.deeds.length≤268435456∧∀ d∈e.deeds,d.Sm) :
  FnOk Tryz.prog 54 [.d (encEntries l),.d (encEntries r)] (.one (dbool (allB sameEnt l r))):=by
 refine fnOk_of tbl_ok mixed_ok Tryz.func54 rfl (by kernel_rfl) rfl rfl fun w0 own0=>?_
 by_cases hlen:l.length=r.length
 ·
  try refine wk ?_
  refine CW.loop (fun k=>[(.s 0,.av (.d (encEntries l))),(.s 1,.av (.d (encEntries r))),(.s 12,.av (.d (dint l.length))),(.s 13,.av (.d (dint k))),(.nx,.num 0)]) (agree sameEnt l r) ?_ fun k hk=>?_
  ·
   exact by_less
  ·
   rcases agree_case hlen hk with ⟨h1,h1',a,b,h2,h3,h4⟩|⟨h1,h2⟩|⟨h1,h2,a,b,h3,h4,h5⟩
   ·
    have hda:=hd a (List.mem_of_getElem? h2)
    have hc:=ok_sameDeeds a.deeds b.deeds hda.1 hda.2
    unfold sameEnt at h4
    simp only[Bool.and_eq_true,decide_eq_true_eq]at h4
    obtain⟨h6,h7⟩:=h4
    rw[h7]at hc
    try refine wk ?_
    refine q_loop h1 ?_
    exact by_less
   ·
    try refine wk ?_
    exact .one (.tmp rfl (.one (.d (dle_bool h2.symm))))
   ·
    have hda:=hd a (List.mem_of_getElem? h3)
    have hc:=ok_sameDeeds a.deeds b.deeds hda.1 hda.2
    unfold sameEnt at h5
    by_cases h6:a.number=b.number
    ·
     rw[decide_eq_true h6,Bool.true_and]at h5
     rw[h5]at hc
     try refine wk ?_
     exact .one (.tmp rfl (.one (.d (dle_bool h2.symm))))
    ·
     try refine wk ?_
     exact .one (.tmp rfl (.one (.d (dle_bool h2.symm))))
 ·
  try refine wk ?_
  refine .one (.tmp rfl (.one (.d (dle_bool ?_))))
  cases hb:allB sameEnt l r
  ·
   rfl
  ·
   exact absurd (allB_len hb) hlen
structure Replica.Sm (r:Replica):Prop where
 e:r.engine.Sm
 l:r.early.length≤134217728
 d:∀ e∈r.early,e.deeds.length≤134217728∧∀ d∈e.deeds,d.Sm
theorem ok_sameR (a b:Replica) (hs:Replica.Sm a):FnOk Tryz.prog 20 [.d (.agg a.enc),.d (.agg b.enc)] (.one (dbool (sameR a b))):=by
 refine fnOk_of tbl_ok mixed_ok Tryz.func20 rfl (by kernel_rfl) rfl rfl fun w0 own0=>?_
 have hl:=hs.l
 have c1:=ok_sameE a.engine b.engine hs.e
 have c2:=ok_sameEnts a.early b.early (by omega) fun e he=>⟨by have:=(hs.d e he).1;omega,(hs.d e he).2⟩
 unfold sameR
 cases h1:sameE a.engine b.engine
 ·
  rw[h1]at c1
  try refine wk ?_
  exact .one (.tmp rfl (.one (.d (.refl _))))
 ·
  rw[h1]at c1
  by_cases h2:a.next=b.next
  ·
   cases h3:allB sameEnt a.early b.early
   ·
    rw[h3]at c2
    try refine wk ?_
    exact .one (.tmp rfl (.one (.d (dle_bool (by simp)))))
   ·
    rw[h3]at c2
    try refine wk ?_
    exact .one (.tmp rfl (.one (.d (dle_bool (by simp[h2])))))
  ·
   try refine wk ?_
   exact .one (.tmp rfl (.one (.d (dle_bool (by simp[h2])))))
theorem sameEnt_refl (e:Entry):sameEnt e e=true:=by simp[sameEnt,allB_refl]
theorem sameR_refl (r:Replica):sameR r r=true:=by simp[sameR,sameE_refl,allB_refl sameEnt_refl]
end Go.Proofs.YtngnajknbeijjaaGreatDoor
namespace Go.RF
open Go.AX
def splitF (sep:Str):Nat→Str→Str→List Str
 |0,cur,r=>[cur++r]
 |n+1,cur,r =>
  if r.length < sep.length then [cur++r]
  else if r.take sep.length=sep then cur::splitF sep n [] (r.drop sep.length)
  else match r with
   | []=>[cur]
   |c::t=>splitF sep n (cur++[c]) t
def split (s sep:Str):List Str:=splitF sep s.length [] s
def words:List Str:=[[],[108,111,97,100],[99,111,110,115,116],[97,100,100],[115,117,98],[109,117,108],[115,116,111,114,101],[100,114,111,112],[115,107,105,112],[102,97,105,108]]
end Go.RF
namespace Go.Proofs.YtngnajknbeijjaaGreatDoor
open Go.AX Go.RF
theorem key_len {k:Str}(h:key k=true):k.length≤6:=by
 unfold key at h
 have:∀ r:Str,keyGo k r=true→k.length≤6:=by
  intro r
  induction r with
  |nil=>intro h;simp[keyGo]at h;omega
  |cons c r ih=>intro h;simp only[keyGo]at h;split at h;· cases h
                ·
                 exact ih h
 exact this k h
theorem keysGo_key {l:List Str}:∀ {r:List Str}{i:Nat},keysGo l i r=0→∀ k∈r,key k=true
 | [],_,_,k,hk=>by cases hk
 |x::r,i,h,k,hk=>by
  simp only[keysGo]at h
  split at h
  ·
   cases h
  ·
   next hx =>
   split at h
   ·
    cases h
   ·
    rcases List.mem_cons.1 hk with rfl|hk
    ·
     simpa using hx
    ·
     exact keysGo_key h k hk
theorem wrong_key {d:Deed}(h:wrongDeed d=0):(∀ k∈d.reads,key k=true)∧∀ k∈d.writes,key k=true:=by
 unfold wrongDeed at h
 split at h
 ·
  next h0 =>
  simp only[lsGo]at h0
  split at h0
  ·
   next h1 =>
   split at h0
   ·
    next h2 =>
    unfold keysWrong at h1 h2
    split at h1
    ·
     cases h1
    split at h2
    ·
     cases h2
    exact⟨keysGo_key h1,keysGo_key h2⟩
   ·
    next h2=>exact absurd h0 h2
  ·
   next h1=>exact absurd h0 h1
 ·
  next h0=>exact absurd h h0
theorem wrong_sm {d:Deed}(h:wrongDeed d=0):d.Sm:=by
 have hok:=wrongDeed_ok h
 obtain⟨h1,h2⟩:=wrong_key h
 have:=hok.r;have:=hok.w;have:=hok.c
 exact⟨by omega,by omega,by omega,fun s hs=>by have:=key_len (h1 s hs);omega,fun s hs=>by have:=key_len (h2 s hs);omega⟩
theorem before_addS {k k':Str}{b b':Int}(h:k=k'→b≤b'):∀ {l:List Chain}{out:Version},beforeGo k b out (addS k' b' l)=beforeGo k b out l
 | [],out=>by
  simp only[addS,beforeGo,bvs,newV]
  by_cases hk:k'=k
  ·
   have:=h hk.symm
   simp;omega
  ·
   simp[hk]
 |c::l,out=>by
  simp only[addS]
  by_cases hk:c.key=k'
  ·
   rw[if_pos hk]
   simp only[beforeGo,bvs_append,bvs,newV]
   by_cases hc:c.key=k
   ·
    have:=h (by rw[← hc,hk])
    rw[if_neg (by simp;omega)]
   ·
    simp[hc]
  ·
   rw[if_neg hk]
   split
   ·
    simp only[beforeGo]
    exact before_addS h
   ·
    have h1:bvs (decide (k'=k)) b out [newV b']=out:=by
     simp only[bvs]
     by_cases hc:k'=k
     ·
      have:=h hc.symm
      have h2:¬ (newV b').by_ < b:=by show ¬ b' < b;omega
      rw[decide_eq_false h2];simp
     ·
      simp[hc]
    show beforeGo k b (bvs (decide (k'=k)) b out [newV b']) (c::l)=_
    rw[h1]
theorem ne_tail {c:Chain}{l:List Chain}(hs:Srt Chain.key (c::l)) {k:Str}(h:slt k c.key=true∨c.key=k):∀ d∈l,d.key≠k:=by
 intro d hd e
 have h1:=(List.pairwise_cons.1 hs).1 d hd
 rw[e]at h1
 rcases h with h|h
 ·
  have:=slt_trans h h1;rw[slt_irrefl]at this;cases this
 ·
  rw[h,slt_irrefl]at h1;cases h1
theorem slt_flip {a b:Str}(h:¬ slt a b=true) (hn:a≠b):slt b a=true:=by
 rcases slt_tri a b with h1|h1|h1
 ·
  exact absurd h1 h
 ·
  exact absurd h1 hn
 ·
  exact h1
theorem behind_set {k:Str}{b b':Int}{v:Version}(hv:v.by_=b') (hb:b' < b):∀ {l:List Chain}{out:Version},Srt Chain.key l→beforeGo k b out (setChains (addS k b' l) k v)=v
 | [],out,_=>by
  simp[addS,setChains,setC,setV,newV,beforeGo,bvs,hv,hb]
 |c::l,out,hs=>by
  simp only[addS]
  by_cases hk:c.key=k
  ·
   rw[if_pos hk]
   have hn:=ne_tail hs (.inr hk)
   have h0:∀ o,beforeGo k b o (setChains l k v)=o:=fun o=>beforeGo_none fun d hd=>by
    obtain⟨d0,h1,rfl⟩:=List.mem_map.1 hd
    exact hn d0 h1
   show beforeGo k b (bvs (decide (c.key=k)) b out ((c.vs++[newV b']).map (setV (decide (c.key=k)) v))) (setChains l k v)=v
   rw[h0,List.map_append,bvs_append]
   simp[hk,setV,newV,bvs,hv,hb]
  ·
   rw[if_neg hk]
   split
   ·
    show beforeGo k b _ (setChains (addS k b' l) k v)=v
    exact behind_set hv hb (List.pairwise_cons.1 hs).2
   ·
    next h2 =>
    have hn:=ne_tail hs (.inl (slt_flip h2 hk))
    have h0:∀ o,beforeGo k b o (setChains (c::l) k v)=o:=fun o=>beforeGo_none fun d hd=>by
     obtain⟨d0,h1,rfl⟩:=List.mem_map.1 hd
     rcases List.mem_cons.1 h1 with rfl|h1
     ·
      exact hk
     ·
      exact hn d0 h1
    show beforeGo k b (bvs (decide (k=k)) b out ([newV b'].map (setV (decide (k=k)) v))) (setChains (c::l) k v)=v
    rw[h0]
    simp[setV,newV,bvs,hv,hb]
theorem behind_add {k:Str}{b b':Int}(hb:b' < b) {l:List Chain}{out:Version}(hs:Srt Chain.key l):beforeGo k b out (addS k b' l)=newV b':=by
 have h:=behind_set (k:=k) (v:=newV b') (b':=b') rfl hb (l:=l) (out:=out) hs
 have h1:∀ w:Version,∀ hit,w.by_=b'→setV hit (newV b') w=w∨setV hit (newV b') w=newV b':=fun w hit _=>by
  unfold setV;split
  ·
   exact .inr rfl
  ·
   exact .inl rfl
 clear h1 h
 revert out
 induction l with
 |nil=>intro out;simp[addS,beforeGo,bvs,newV,hb]
 |cons c l ih =>
  intro out
  simp only[addS]
  by_cases hk:c.key=k
  ·
   rw[if_pos hk]
   have hn:=ne_tail hs (.inr hk)
   simp only[beforeGo]
   rw[beforeGo_none hn,bvs_append]
   simp[hk,newV,bvs,hb]
  ·
   rw[if_neg hk]
   split
   ·
    simp only[beforeGo]
    exact ih (List.pairwise_cons.1 hs).2
   ·
    next h2 =>
    have hn:=ne_tail hs (.inl (slt_flip h2 hk))
    have h0:∀ o,beforeGo k b o (c::l)=o:=fun o=>beforeGo_none fun d hd=>by
     rcases List.mem_cons.1 hd with rfl|h1
     ·
      exact hk
     ·
      exact hn d h1
    show beforeGo k b (bvs (decide (k=k)) b out [newV b']) (c::l)=_
    rw[h0]
    simp[newV,bvs,hb]
theorem clrV_ge {b:Int}:∀ {l:List Version},(∀ v∈l,b≤v.by_)→clrV b l=l
 | [],_=>rfl
 |v::l,h=>by
  have:=h v (List.mem_cons_self ..)
  have h1:decide (v.by_ < b)=false:=by simp;omega
  simp only[clrV]
  rw[if_neg (by simp[old,h1]),clrV_ge fun w hw=>h w (List.mem_cons_of_mem _ hw)]
theorem seen_clr2 {b at_:Int}(hba:b≤at_):∀ {l:List Version}{out:Version},VSrt l →
  bvs true at_ out (clrV b l)=bvs true at_ out l∨((bvs true at_ out l).made=true∧(bvs true at_ out l).has=false∧bvs true at_ out (clrV b l)=out∧(bvs true at_ out l).by_ < b)
 | [],out,_ => .inl rfl
 |v::l,out,hs=>by
  obtain⟨h1,h2⟩:=VSrt.cons.1 hs
  by_cases hva:v.by_ < at_
  ·
   have hge:b≤v.by_→clrV b l=l:=fun h=>clrV_ge fun w hw=>by have:=h1 w hw;omega
   by_cases hlt:later b l=true
   ·
    cases l with
    |nil=>simp[later]at hlt
    |cons w l' =>
     have hw:w.by_ < b:=by simpa[later] using hlt
     have hvb:v.by_ < b:=by have:=h1 w (List.mem_cons_self ..);omega
     have hold:old b (w::l') v=true:=by simp[old,later,hw,hvb]
     have ih:=seen_clr2 hba (out:=out) h2
     have hsame:bvs true at_ v (w::l')=bvs true at_ out (w::l'):=by
      simp only[bvs]
      rw[if_pos (by simp;omega),if_pos (by simp;omega)]
     have h5:clrV b (v::w::l')=clrV b (w::l'):=by rw[clrV,if_pos hold]
     rw[h5]
     have h4:bvs true at_ out (v::w::l')=bvs true at_ (if (true&&decide (v.by_ < at_))=true then v else out) (w::l'):=rfl
     rw[if_pos (by simp;omega)]at h4
     rw[h4,hsame]
     exact ih
   ·
    have hl:∀ w∈l,b≤w.by_:=by
     cases l with
     |nil=>simp
     |cons w l' =>
      have hw:¬ w.by_ < b:=by simpa[later] using hlt
      intro x hx
      rcases List.mem_cons.1 hx with rfl|hx
      ·
       omega
      ·
       have:=(VSrt.cons.1 h2).1 x hx;omega
    have hl0:later b l=false:=by simpa using hlt
    have hc:=clrV_ge hl
    simp only[clrV]
    rw[hc]
    by_cases hold:old b l v=true
    ·
     rw[if_pos hold]
     have h3:v.made=true∧v.has=false∧v.by_ < b:=by
      simp[old,hl0]at hold
      exact⟨hold.2.1,hold.2.2,hold.1⟩
     have h4:bvs true at_ out (v::l)=bvs true at_ v l:=by simp only[bvs];rw[if_pos (by simp;omega)]
     rw[h4]
     cases l with
     |nil=>exact .inr ⟨h3.1,h3.2.1,rfl,h3.2.2⟩
     |cons w l' =>
      by_cases hw:w.by_ < at_
      ·
       left
       simp only[bvs]
       rw[if_pos (by simp;omega),if_pos (by simp;omega)]
      ·
       have h5:∀ x∈w::l',at_≤x.by_:=fun x hx=>by
        rcases List.mem_cons.1 hx with rfl|hx
        ·
         omega
        ·
         have:=(VSrt.cons.1 h2).1 x hx;omega
       rw[bvs_ge h5,bvs_ge h5]
       exact .inr ⟨h3.1,h3.2.1,rfl,h3.2.2⟩
    ·
     rw[if_neg hold]
     exact .inl rfl
  ·
   have h3:∀ x∈v::l,at_≤x.by_:=fun x hx=>by
    rcases List.mem_cons.1 hx with rfl|hx
    ·
     omega
    ·
     have:=h1 x hx;omega
   rw[clrV_ge fun x hx=>by have:=h3 x hx;omega]
   exact .inl rfl
theorem seen_clear2 {b at_:Int}{k:Str}(hba:b≤at_):∀ {l:List Chain}{out:Version},Srt Chain.key l→(∀ c∈l,VSrt c.vs) →
  beforeGo k at_ out (clear b l)=beforeGo k at_ out l∨((beforeGo k at_ out l).made=true∧(beforeGo k at_ out l).has=false∧beforeGo k at_ out (clear b l)=out∧(beforeGo k at_ out l).by_ < b)
 | [],out,_,_ => .inl rfl
 |c::l,out,hs,hv=>by
  have h2:=(List.pairwise_cons.1 hs).2
  by_cases hk:c.key=k
  ·
   have hn:=ne_tail hs (.inr hk)
   have n1:∀ o,beforeGo k at_ o l=o:=fun o=>beforeGo_none hn
   have n2:∀ o,beforeGo k at_ o (clear b l)=o:=fun o=>beforeGo_none fun d hd=>by
    obtain⟨d0,h0,rfl⟩:=clear_mem hd
    exact hn d0 h0
   have h3:beforeGo k at_ out (c::l)=bvs true at_ out c.vs:=by
    simp only[beforeGo];rw[n1];simp[hk]
   have h4:beforeGo k at_ out (clear b (c::l))=bvs true at_ out (clrV b c.vs):=by
    simp only[clear]
    split
    ·
     next h=>rw[n2,h];rfl
    ·
     simp only[beforeGo];rw[n2];simp[hk]
   rw[h3,h4]
   exact seen_clr2 hba (hv c (List.mem_cons_self ..))
  ·
   have h3:beforeGo k at_ out (c::l)=beforeGo k at_ out l:=by
    simp only[beforeGo];simp[hk,bvs_false]
   have h4:beforeGo k at_ out (clear b (c::l))=beforeGo k at_ out (clear b l):=by
    simp only[clear]
    split
    ·
     rfl
    ·
     simp only[beforeGo];simp[hk,bvs_false]
   rw[h3,h4]
   exact seen_clear2 hba h2 fun d hd=>hv d (List.mem_cons_of_mem _ hd)
theorem do_get {r:List Pair}{d:Deed}(hs:Srt Pair.key r) (hw:wrongDeed d=0) (k:Str) :
  RF.get (doD r d).1 k=if (runM (RF.get r) d).2.failed=true then RF.get r k else if k∈d.writes then chAt r (runM (RF.get r) d).1 k else RF.get r k:=by
 rw[← plain_do hs (wrong_keyed hw)]
 unfold plainD runC
 dsimp only
 by_cases hf:(runM (RF.get r) d).2.failed=true
 ·
  rw[if_pos hf,if_pos hf];rfl
 ·
  rw[if_neg hf,if_neg hf,appC_get hs]
theorem do_end {r:List Pair}{d:Deed}(hs:Srt Pair.key r) (hw:wrongDeed d=0):(doD r d).2=(runM (RF.get r) d).2:=by
 rw[← plain_do hs (wrong_keyed hw)];rfl
theorem do_same {r:List Pair}{d:Deed}(hs:Srt Pair.key r) (hw:wrongDeed d=0) {k:Str}(hk:k∉d.writes):RF.get (doD r d).1 k=RF.get r k:=by
 rw[do_get hs hw,if_neg hk,ite_self]
end Go.Proofs.YtngnajknbeijjaaGreatDoor
